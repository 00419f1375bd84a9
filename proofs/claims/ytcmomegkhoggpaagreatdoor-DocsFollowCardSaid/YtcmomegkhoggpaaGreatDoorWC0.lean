import Derived.Test.YtcmomegkhoggpaaGreatDoorHv1
import Derived.Test.YtcmomegkhoggpaaGreatDoorHv2
import Derived.Test.YtcmomegkhoggpaaGreatDoorHv3
import Derived.Test.YtcmomegkhoggpaaGreatDoorHv4
import Derived.Test.YtcmomegkhoggpaaGreatDoorHv5
import Derived.Test.YtcmomegkhoggpaaGreatDoorHv6
import Derived.Test.YtcmomegkhoggpaaGreatDoorHv7
import Derived.Test.YtcmomegkhoggpaaGreatDoorHv8
import Derived.Test.YtcmomegkhoggpaaGreatDoorHv9
import Derived.Test.YtcmomegkhoggpaaGreatDoorHv10
import Derived.Test.YtcmomegkhoggpaaGreatDoorHv11
import Derived.Test.YtcmomegkhoggpaaGreatDoorHv12
import Derived.Test.YtcmomegkhoggpaaGreatDoorHv13
import Derived.Test.YtcmomegkhoggpaaGreatDoorHvE
import Derived.Test.YtcmomegkhoggpaaGreatDoorHvM
import Derived.Test.YtcmomegkhoggpaaGreatDoorHv14
import Derived.Test.YtcmomegkhoggpaaGreatDoorHv15
import Derived.Test.YtcmomegkhoggpaaGreatDoorHvM2
import Derived.Test.YtcmomegkhoggpaaGreatDoorHv16
import Derived.Test.YtcmomegkhoggpaaGreatDoorHv17
import Derived.Test.YtcmomegkhoggpaaGreatDoorHv18
import Derived.Test.YtcmomegkhoggpaaGreatDoorHv19
import Derived.Test.YtcmomegkhoggpaaGreatDoorHv20
import Derived.Test.YtcmomegkhoggpaaGreatDoorHv21
import Derived.Test.YtcmomegkhoggpaaGreatDoorHv22
import Derived.Test.YtcmomegkhoggpaaGreatDoorHv23
import Derived.Test.YtcmomegkhoggpaaGreatDoorHv24
import Derived.Test.YtcmomegkhoggpaaGreatDoorHv25
import Derived.Test.YtcmomegkhoggpaaGreatDoorHv42
import Derived.Test.YtcmomegkhoggpaaGreatDoorHv27
import Derived.Test.YtcmomegkhoggpaaGreatDoorHv28
import Derived.Test.YtcmomegkhoggpaaGreatDoorHv29
import Derived.Test.YtcmomegkhoggpaaGreatDoorHv30
import Derived.Test.YtcmomegkhoggpaaGreatDoorHv31
import Derived.Test.YtcmomegkhoggpaaGreatDoorHv32
import Derived.Test.YtcmomegkhoggpaaGreatDoorHv37
import Derived.Test.YtcmomegkhoggpaaGreatDoorHv33
import Derived.Test.YtcmomegkhoggpaaGreatDoorHv36
import Derived.Test.YtcmomegkhoggpaaGreatDoorHv26
import Derived.Test.YtcmomegkhoggpaaGreatDoorHv35
import Derived.Test.YtcmomegkhoggpaaGreatDoorHv43
import Derived.Test.YtcmomegkhoggpaaGreatDoorProg
import Derived.KernelRfl
set_option linter.unusedVariables false
instance : Go.Hv.GI := Go.Hv.GI.int0
namespace Go.Proofs.YtcmomegkhoggpaaGreatDoor.Ty
open Go Go.Hv Go.Proofs
@[simp] theorem sl0 : slInfo Tryz.prog 0 = none := by kernel_rfl
@[simp] theorem ag0 : agInfo Tryz.prog 0 = some (false, 1) := by kernel_rfl
@[simp] theorem tk0 : tk Tryz.prog 0 = some (.other) := by kernel_rfl
@[simp] theorem ni0 : notInt Tryz.prog 0 = true := by kernel_rfl
@[simp] theorem sl1 : slInfo Tryz.prog 1 = none := by kernel_rfl
@[simp] theorem ag1 : agInfo Tryz.prog 1 = some (false, 1) := by kernel_rfl
@[simp] theorem tk1 : tk Tryz.prog 1 = some (.other) := by kernel_rfl
@[simp] theorem ni1 : notInt Tryz.prog 1 = true := by kernel_rfl
@[simp] theorem sl2 : slInfo Tryz.prog 2 = none := by kernel_rfl
@[simp] theorem ag2 : agInfo Tryz.prog 2 = some (false, 1) := by kernel_rfl
@[simp] theorem tk2 : tk Tryz.prog 2 = some (.int .i64) := by kernel_rfl
@[simp] theorem ni2 : notInt Tryz.prog 2 = false := by kernel_rfl
@[simp] theorem z2 : zeroHV Tryz.prog 2 = some [.lit (.int .i64 0)] := by kernel_rfl
@[simp] theorem zo2 : zOneHV Tryz.prog 2 = some (.lit (.int .i64 0)) := by kernel_rfl
@[simp] theorem sl3 : slInfo Tryz.prog 3 = none := by kernel_rfl
@[simp] theorem ag3 : agInfo Tryz.prog 3 = some (false, 1) := by kernel_rfl
@[simp] theorem tk3 : tk Tryz.prog 3 = some (.int .i64) := by kernel_rfl
@[simp] theorem ni3 : notInt Tryz.prog 3 = false := by kernel_rfl
@[simp] theorem z3 : zeroHV Tryz.prog 3 = some [.lit (.int .i64 0)] := by kernel_rfl
@[simp] theorem zo3 : zOneHV Tryz.prog 3 = some (.lit (.int .i64 0)) := by kernel_rfl
@[simp] theorem sl4 : slInfo Tryz.prog 4 = none := by kernel_rfl
@[simp] theorem ag4 : agInfo Tryz.prog 4 = some (false, 1) := by kernel_rfl
@[simp] theorem tk4 : tk Tryz.prog 4 = some (.bool) := by kernel_rfl
@[simp] theorem ni4 : notInt Tryz.prog 4 = true := by kernel_rfl
@[simp] theorem z4 : zeroHV Tryz.prog 4 = some [.lit (.bool false)] := by kernel_rfl
@[simp] theorem zo4 : zOneHV Tryz.prog 4 = some (.lit (.bool false)) := by kernel_rfl
@[simp] theorem sl5 : slInfo Tryz.prog 5 = none := by kernel_rfl
@[simp] theorem ag5 : agInfo Tryz.prog 5 = some (false, 1) := by kernel_rfl
@[simp] theorem tk5 : tk Tryz.prog 5 = some (.int .u8) := by kernel_rfl
@[simp] theorem ni5 : notInt Tryz.prog 5 = false := by kernel_rfl
@[simp] theorem z5 : zeroHV Tryz.prog 5 = some [.lit (.int .u8 0)] := by kernel_rfl
@[simp] theorem zo5 : zOneHV Tryz.prog 5 = some (.lit (.int .u8 0)) := by kernel_rfl
@[simp] theorem sl6 : slInfo Tryz.prog 6 = none := by kernel_rfl
@[simp] theorem ag6 : agInfo Tryz.prog 6 = some (false, 1) := by kernel_rfl
@[simp] theorem tk6 : tk Tryz.prog 6 = some (.int .u8) := by kernel_rfl
@[simp] theorem ni6 : notInt Tryz.prog 6 = false := by kernel_rfl
@[simp] theorem z6 : zeroHV Tryz.prog 6 = some [.lit (.int .u8 0)] := by kernel_rfl
@[simp] theorem zo6 : zOneHV Tryz.prog 6 = some (.lit (.int .u8 0)) := by kernel_rfl
@[simp] theorem sl7 : slInfo Tryz.prog 7 = none := by kernel_rfl
@[simp] theorem ag7 : agInfo Tryz.prog 7 = some (true, 4) := by kernel_rfl
@[simp] theorem tk7 : tk Tryz.prog 7 = some (.other) := by kernel_rfl
@[simp] theorem ni7 : notInt Tryz.prog 7 = true := by kernel_rfl
@[simp] theorem z7 : zeroHV Tryz.prog 7 = some [.lit (.int .i64 0), .lit (.int .i64 0), .lit (.bool false), .lit (.int .u8 0)] := by kernel_rfl
@[simp] theorem zo7 : zOneHV Tryz.prog 7 = some (.agg [.lit (.int .i64 0), .lit (.int .i64 0), .lit (.bool false), .lit (.int .u8 0)]) := by kernel_rfl
@[simp] theorem fd7_0 : fdInfo Tryz.prog 7 0 = some (0, 1, false) := by kernel_rfl
@[simp] theorem fd7_1 : fdInfo Tryz.prog 7 1 = some (1, 1, false) := by kernel_rfl
@[simp] theorem fd7_2 : fdInfo Tryz.prog 7 2 = some (2, 1, false) := by kernel_rfl
@[simp] theorem fd7_3 : fdInfo Tryz.prog 7 3 = some (3, 1, false) := by kernel_rfl
@[simp] theorem pl7 : places Tryz.prog 7 = some [(0, 1), (1, 1), (2, 1), (3, 1)] := by kernel_rfl
@[simp] theorem sl8 : slInfo Tryz.prog 8 = none := by kernel_rfl
@[simp] theorem ag8 : agInfo Tryz.prog 8 = some (true, 4) := by kernel_rfl
@[simp] theorem tk8 : tk Tryz.prog 8 = some (.other) := by kernel_rfl
@[simp] theorem ni8 : notInt Tryz.prog 8 = true := by kernel_rfl
@[simp] theorem z8 : zeroHV Tryz.prog 8 = some [.lit (.int .i64 0), .lit (.int .i64 0), .lit (.bool false), .lit (.int .u8 0)] := by kernel_rfl
@[simp] theorem zo8 : zOneHV Tryz.prog 8 = some (.agg [.lit (.int .i64 0), .lit (.int .i64 0), .lit (.bool false), .lit (.int .u8 0)]) := by kernel_rfl
@[simp] theorem fd8_0 : fdInfo Tryz.prog 8 0 = some (0, 1, false) := by kernel_rfl
@[simp] theorem fd8_1 : fdInfo Tryz.prog 8 1 = some (1, 1, false) := by kernel_rfl
@[simp] theorem fd8_2 : fdInfo Tryz.prog 8 2 = some (2, 1, false) := by kernel_rfl
@[simp] theorem fd8_3 : fdInfo Tryz.prog 8 3 = some (3, 1, false) := by kernel_rfl
@[simp] theorem pl8 : places Tryz.prog 8 = some [(0, 1), (1, 1), (2, 1), (3, 1)] := by kernel_rfl
@[simp] theorem sl9 : slInfo Tryz.prog 9 = none := by kernel_rfl
@[simp] theorem ag9 : agInfo Tryz.prog 9 = some (false, 1) := by kernel_rfl
@[simp] theorem tk9 : tk Tryz.prog 9 = some (.string) := by kernel_rfl
@[simp] theorem ni9 : notInt Tryz.prog 9 = true := by kernel_rfl
@[simp] theorem z9 : zeroHV Tryz.prog 9 = some [.str []] := by kernel_rfl
@[simp] theorem zo9 : zOneHV Tryz.prog 9 = some (.str []) := by kernel_rfl
@[simp] theorem sl10 : slInfo Tryz.prog 10 = none := by kernel_rfl
@[simp] theorem ag10 : agInfo Tryz.prog 10 = some (false, 1) := by kernel_rfl
@[simp] theorem tk10 : tk Tryz.prog 10 = some (.string) := by kernel_rfl
@[simp] theorem ni10 : notInt Tryz.prog 10 = true := by kernel_rfl
@[simp] theorem z10 : zeroHV Tryz.prog 10 = some [.str []] := by kernel_rfl
@[simp] theorem zo10 : zOneHV Tryz.prog 10 = some (.str []) := by kernel_rfl
@[simp] theorem sl11 : slInfo Tryz.prog 11 = none := by kernel_rfl
@[simp] theorem ag11 : agInfo Tryz.prog 11 = some (false, 1) := by kernel_rfl
@[simp] theorem tk11 : tk Tryz.prog 11 = some (.string) := by kernel_rfl
@[simp] theorem ni11 : notInt Tryz.prog 11 = true := by kernel_rfl
@[simp] theorem z11 : zeroHV Tryz.prog 11 = some [.str []] := by kernel_rfl
@[simp] theorem zo11 : zOneHV Tryz.prog 11 = some (.str []) := by kernel_rfl
@[simp] theorem sl12 : slInfo Tryz.prog 12 = none := by kernel_rfl
@[simp] theorem ag12 : agInfo Tryz.prog 12 = some (false, 1) := by kernel_rfl
@[simp] theorem tk12 : tk Tryz.prog 12 = some (.int .u64) := by kernel_rfl
@[simp] theorem ni12 : notInt Tryz.prog 12 = false := by kernel_rfl
@[simp] theorem z12 : zeroHV Tryz.prog 12 = some [.lit (.int .u64 0)] := by kernel_rfl
@[simp] theorem zo12 : zOneHV Tryz.prog 12 = some (.lit (.int .u64 0)) := by kernel_rfl
@[simp] theorem sl13 : slInfo Tryz.prog 13 = none := by kernel_rfl
@[simp] theorem ag13 : agInfo Tryz.prog 13 = some (true, 2) := by kernel_rfl
@[simp] theorem tk13 : tk Tryz.prog 13 = some (.other) := by kernel_rfl
@[simp] theorem ni13 : notInt Tryz.prog 13 = true := by kernel_rfl
@[simp] theorem z13 : zeroHV Tryz.prog 13 = some [.str [], .lit (.int .u64 0)] := by kernel_rfl
@[simp] theorem zo13 : zOneHV Tryz.prog 13 = some (.agg [.str [], .lit (.int .u64 0)]) := by kernel_rfl
@[simp] theorem fd13_0 : fdInfo Tryz.prog 13 0 = some (0, 1, false) := by kernel_rfl
@[simp] theorem fd13_1 : fdInfo Tryz.prog 13 1 = some (1, 1, false) := by kernel_rfl
@[simp] theorem pl13 : places Tryz.prog 13 = some [(0, 1), (1, 1)] := by kernel_rfl
@[simp] theorem sl14 : slInfo Tryz.prog 14 = none := by kernel_rfl
@[simp] theorem ag14 : agInfo Tryz.prog 14 = some (true, 2) := by kernel_rfl
@[simp] theorem tk14 : tk Tryz.prog 14 = some (.other) := by kernel_rfl
@[simp] theorem ni14 : notInt Tryz.prog 14 = true := by kernel_rfl
@[simp] theorem z14 : zeroHV Tryz.prog 14 = some [.str [], .lit (.int .u64 0)] := by kernel_rfl
@[simp] theorem zo14 : zOneHV Tryz.prog 14 = some (.agg [.str [], .lit (.int .u64 0)]) := by kernel_rfl
@[simp] theorem fd14_0 : fdInfo Tryz.prog 14 0 = some (0, 1, false) := by kernel_rfl
@[simp] theorem fd14_1 : fdInfo Tryz.prog 14 1 = some (1, 1, false) := by kernel_rfl
@[simp] theorem pl14 : places Tryz.prog 14 = some [(0, 1), (1, 1)] := by kernel_rfl
@[simp] theorem sl15 : slInfo Tryz.prog 15 = none := by kernel_rfl
@[simp] theorem ag15 : agInfo Tryz.prog 15 = some (false, 1) := by kernel_rfl
@[simp] theorem tk15 : tk Tryz.prog 15 = some (.other) := by kernel_rfl
@[simp] theorem ni15 : notInt Tryz.prog 15 = true := by kernel_rfl
@[simp] theorem zo15 : zOneHV Tryz.prog 15 = some (.lit (.pointer none)) := by kernel_rfl
@[simp] theorem sl16 : slInfo Tryz.prog 16 = none := by kernel_rfl
@[simp] theorem ag16 : agInfo Tryz.prog 16 = some (false, 1) := by kernel_rfl
@[simp] theorem tk16 : tk Tryz.prog 16 = some (.other) := by kernel_rfl
@[simp] theorem ni16 : notInt Tryz.prog 16 = true := by kernel_rfl
@[simp] theorem zo16 : zOneHV Tryz.prog 16 = some (.lit (.pointer none)) := by kernel_rfl
@[simp] theorem sl17 : slInfo Tryz.prog 17 = none := by kernel_rfl
@[simp] theorem ag17 : agInfo Tryz.prog 17 = some (false, 1) := by kernel_rfl
@[simp] theorem tk17 : tk Tryz.prog 17 = some (.other) := by kernel_rfl
@[simp] theorem ni17 : notInt Tryz.prog 17 = true := by kernel_rfl
@[simp] theorem zo17 : zOneHV Tryz.prog 17 = some (.lit (.pointer none)) := by kernel_rfl
@[simp] theorem sl18 : slInfo Tryz.prog 18 = none := by kernel_rfl
@[simp] theorem ag18 : agInfo Tryz.prog 18 = some (true, 1) := by kernel_rfl
@[simp] theorem tk18 : tk Tryz.prog 18 = some (.other) := by kernel_rfl
@[simp] theorem ni18 : notInt Tryz.prog 18 = true := by kernel_rfl
@[simp] theorem z18 : zeroHV Tryz.prog 18 = some [.lit (.pointer none)] := by kernel_rfl
@[simp] theorem zo18 : zOneHV Tryz.prog 18 = some (.agg [.lit (.pointer none)]) := by kernel_rfl
@[simp] theorem fd18_0 : fdInfo Tryz.prog 18 0 = some (0, 1, false) := by kernel_rfl
@[simp] theorem pl18 : places Tryz.prog 18 = some [(0, 1)] := by kernel_rfl
@[simp] theorem sl19 : slInfo Tryz.prog 19 = none := by kernel_rfl
@[simp] theorem ag19 : agInfo Tryz.prog 19 = some (true, 1) := by kernel_rfl
@[simp] theorem tk19 : tk Tryz.prog 19 = some (.other) := by kernel_rfl
@[simp] theorem ni19 : notInt Tryz.prog 19 = true := by kernel_rfl
@[simp] theorem z19 : zeroHV Tryz.prog 19 = some [.lit (.pointer none)] := by kernel_rfl
@[simp] theorem zo19 : zOneHV Tryz.prog 19 = some (.agg [.lit (.pointer none)]) := by kernel_rfl
@[simp] theorem fd19_0 : fdInfo Tryz.prog 19 0 = some (0, 1, false) := by kernel_rfl
@[simp] theorem pl19 : places Tryz.prog 19 = some [(0, 1)] := by kernel_rfl
@[simp] theorem sl20 : slInfo Tryz.prog 20 = none := by kernel_rfl
@[simp] theorem ag20 : agInfo Tryz.prog 20 = some (false, 1) := by kernel_rfl
@[simp] theorem tk20 : tk Tryz.prog 20 = some (.other) := by kernel_rfl
@[simp] theorem ni20 : notInt Tryz.prog 20 = true := by kernel_rfl
@[simp] theorem sl21 : slInfo Tryz.prog 21 = none := by kernel_rfl
@[simp] theorem ag21 : agInfo Tryz.prog 21 = some (false, 1) := by kernel_rfl
@[simp] theorem tk21 : tk Tryz.prog 21 = some (.int .i32) := by kernel_rfl
@[simp] theorem ni21 : notInt Tryz.prog 21 = false := by kernel_rfl
@[simp] theorem z21 : zeroHV Tryz.prog 21 = some [.lit (.int .i32 0)] := by kernel_rfl
@[simp] theorem zo21 : zOneHV Tryz.prog 21 = some (.lit (.int .i32 0)) := by kernel_rfl
@[simp] theorem sl22 : slInfo Tryz.prog 22 = some (50, 5, 80) := by kernel_rfl
@[simp] theorem ag22 : agInfo Tryz.prog 22 = some (false, 1) := by kernel_rfl
@[simp] theorem tk22 : tk Tryz.prog 22 = some (.other) := by kernel_rfl
@[simp] theorem ni22 : notInt Tryz.prog 22 = true := by kernel_rfl
@[simp] theorem z22 : zeroHV Tryz.prog 22 = some [.sl 0 true []] := by kernel_rfl
@[simp] theorem zo22 : zOneHV Tryz.prog 22 = some (.sl 0 true []) := by kernel_rfl
@[simp] theorem sl23 : slInfo Tryz.prog 23 = none := by kernel_rfl
@[simp] theorem ag23 : agInfo Tryz.prog 23 = some (false, 1) := by kernel_rfl
@[simp] theorem tk23 : tk Tryz.prog 23 = some (.other) := by kernel_rfl
@[simp] theorem ni23 : notInt Tryz.prog 23 = true := by kernel_rfl
@[simp] theorem sl24 : slInfo Tryz.prog 24 = none := by kernel_rfl
@[simp] theorem ag24 : agInfo Tryz.prog 24 = some (false, 1) := by kernel_rfl
@[simp] theorem tk24 : tk Tryz.prog 24 = some (.int .i64) := by kernel_rfl
@[simp] theorem ni24 : notInt Tryz.prog 24 = false := by kernel_rfl
@[simp] theorem z24 : zeroHV Tryz.prog 24 = some [.lit (.int .i64 0)] := by kernel_rfl
@[simp] theorem zo24 : zOneHV Tryz.prog 24 = some (.lit (.int .i64 0)) := by kernel_rfl
@[simp] theorem sl25 : slInfo Tryz.prog 25 = none := by kernel_rfl
@[simp] theorem ag25 : agInfo Tryz.prog 25 = some (false, 1) := by kernel_rfl
@[simp] theorem tk25 : tk Tryz.prog 25 = some (.other) := by kernel_rfl
@[simp] theorem ni25 : notInt Tryz.prog 25 = true := by kernel_rfl
@[simp] theorem sl26 : slInfo Tryz.prog 26 = none := by kernel_rfl
@[simp] theorem ag26 : agInfo Tryz.prog 26 = some (false, 1) := by kernel_rfl
@[simp] theorem tk26 : tk Tryz.prog 26 = some (.other) := by kernel_rfl
@[simp] theorem ni26 : notInt Tryz.prog 26 = true := by kernel_rfl
@[simp] theorem sl27 : slInfo Tryz.prog 27 = some (103, 2, 24) := by kernel_rfl
@[simp] theorem ag27 : agInfo Tryz.prog 27 = some (false, 1) := by kernel_rfl
@[simp] theorem tk27 : tk Tryz.prog 27 = some (.other) := by kernel_rfl
@[simp] theorem ni27 : notInt Tryz.prog 27 = true := by kernel_rfl
@[simp] theorem z27 : zeroHV Tryz.prog 27 = some [.sl 0 true []] := by kernel_rfl
@[simp] theorem zo27 : zOneHV Tryz.prog 27 = some (.sl 0 true []) := by kernel_rfl
@[simp] theorem sl28 : slInfo Tryz.prog 28 = none := by kernel_rfl
@[simp] theorem ag28 : agInfo Tryz.prog 28 = some (true, 2) := by kernel_rfl
@[simp] theorem tk28 : tk Tryz.prog 28 = some (.other) := by kernel_rfl
@[simp] theorem ni28 : notInt Tryz.prog 28 = true := by kernel_rfl
@[simp] theorem z28 : zeroHV Tryz.prog 28 = some [.lit (.int .i64 0), .sl 0 true []] := by kernel_rfl
@[simp] theorem zo28 : zOneHV Tryz.prog 28 = some (.agg [.lit (.int .i64 0), .sl 0 true []]) := by kernel_rfl
@[simp] theorem fd28_0 : fdInfo Tryz.prog 28 0 = some (0, 1, false) := by kernel_rfl
@[simp] theorem fd28_1 : fdInfo Tryz.prog 28 1 = some (1, 1, false) := by kernel_rfl
@[simp] theorem pl28 : places Tryz.prog 28 = some [(0, 1), (1, 1)] := by kernel_rfl
@[simp] theorem sl29 : slInfo Tryz.prog 29 = none := by kernel_rfl
@[simp] theorem ag29 : agInfo Tryz.prog 29 = some (true, 2) := by kernel_rfl
@[simp] theorem tk29 : tk Tryz.prog 29 = some (.other) := by kernel_rfl
@[simp] theorem ni29 : notInt Tryz.prog 29 = true := by kernel_rfl
@[simp] theorem z29 : zeroHV Tryz.prog 29 = some [.lit (.int .i64 0), .sl 0 true []] := by kernel_rfl
@[simp] theorem zo29 : zOneHV Tryz.prog 29 = some (.agg [.lit (.int .i64 0), .sl 0 true []]) := by kernel_rfl
@[simp] theorem fd29_0 : fdInfo Tryz.prog 29 0 = some (0, 1, false) := by kernel_rfl
@[simp] theorem fd29_1 : fdInfo Tryz.prog 29 1 = some (1, 1, false) := by kernel_rfl
@[simp] theorem pl29 : places Tryz.prog 29 = some [(0, 1), (1, 1)] := by kernel_rfl
@[simp] theorem sl30 : slInfo Tryz.prog 30 = some (80, 5, 72) := by kernel_rfl
@[simp] theorem ag30 : agInfo Tryz.prog 30 = some (false, 1) := by kernel_rfl
@[simp] theorem tk30 : tk Tryz.prog 30 = some (.other) := by kernel_rfl
@[simp] theorem ni30 : notInt Tryz.prog 30 = true := by kernel_rfl
@[simp] theorem z30 : zeroHV Tryz.prog 30 = some [.sl 0 true []] := by kernel_rfl
@[simp] theorem zo30 : zOneHV Tryz.prog 30 = some (.sl 0 true []) := by kernel_rfl
@[simp] theorem sl31 : slInfo Tryz.prog 31 = some (67, 2, 24) := by kernel_rfl
@[simp] theorem ag31 : agInfo Tryz.prog 31 = some (false, 1) := by kernel_rfl
@[simp] theorem tk31 : tk Tryz.prog 31 = some (.other) := by kernel_rfl
@[simp] theorem ni31 : notInt Tryz.prog 31 = true := by kernel_rfl
@[simp] theorem z31 : zeroHV Tryz.prog 31 = some [.sl 0 true []] := by kernel_rfl
@[simp] theorem zo31 : zOneHV Tryz.prog 31 = some (.sl 0 true []) := by kernel_rfl
@[simp] theorem sl32 : slInfo Tryz.prog 32 = none := by kernel_rfl
@[simp] theorem ag32 : agInfo Tryz.prog 32 = some (true, 5) := by kernel_rfl
@[simp] theorem tk32 : tk Tryz.prog 32 = some (.other) := by kernel_rfl
@[simp] theorem ni32 : notInt Tryz.prog 32 = true := by kernel_rfl
@[simp] theorem z32 : zeroHV Tryz.prog 32 = some [.str [], .lit (.int .i64 0), .sl 0 true [], .sl 0 true [], .sl 0 true []] := by kernel_rfl
@[simp] theorem zo32 : zOneHV Tryz.prog 32 = some (.agg [.str [], .lit (.int .i64 0), .sl 0 true [], .sl 0 true [], .sl 0 true []]) := by kernel_rfl
@[simp] theorem fd32_0 : fdInfo Tryz.prog 32 0 = some (0, 1, false) := by kernel_rfl
@[simp] theorem fd32_1 : fdInfo Tryz.prog 32 1 = some (1, 2, true) := by kernel_rfl
@[simp] theorem fd32_2 : fdInfo Tryz.prog 32 2 = some (3, 1, false) := by kernel_rfl
@[simp] theorem fd32_3 : fdInfo Tryz.prog 32 3 = some (4, 1, false) := by kernel_rfl
@[simp] theorem pl32 : places Tryz.prog 32 = some [(0, 1), (1, 2), (3, 1), (4, 1)] := by kernel_rfl
@[simp] theorem sl33 : slInfo Tryz.prog 33 = none := by kernel_rfl
@[simp] theorem ag33 : agInfo Tryz.prog 33 = some (true, 5) := by kernel_rfl
@[simp] theorem tk33 : tk Tryz.prog 33 = some (.other) := by kernel_rfl
@[simp] theorem ni33 : notInt Tryz.prog 33 = true := by kernel_rfl
@[simp] theorem z33 : zeroHV Tryz.prog 33 = some [.str [], .lit (.int .i64 0), .sl 0 true [], .sl 0 true [], .sl 0 true []] := by kernel_rfl
@[simp] theorem zo33 : zOneHV Tryz.prog 33 = some (.agg [.str [], .lit (.int .i64 0), .sl 0 true [], .sl 0 true [], .sl 0 true []]) := by kernel_rfl
@[simp] theorem fd33_0 : fdInfo Tryz.prog 33 0 = some (0, 1, false) := by kernel_rfl
@[simp] theorem fd33_1 : fdInfo Tryz.prog 33 1 = some (1, 2, true) := by kernel_rfl
@[simp] theorem fd33_2 : fdInfo Tryz.prog 33 2 = some (3, 1, false) := by kernel_rfl
@[simp] theorem fd33_3 : fdInfo Tryz.prog 33 3 = some (4, 1, false) := by kernel_rfl
@[simp] theorem pl33 : places Tryz.prog 33 = some [(0, 1), (1, 2), (3, 1), (4, 1)] := by kernel_rfl
@[simp] theorem sl34 : slInfo Tryz.prog 34 = none := by kernel_rfl
@[simp] theorem ag34 : agInfo Tryz.prog 34 = some (false, 1) := by kernel_rfl
@[simp] theorem tk34 : tk Tryz.prog 34 = some (.other) := by kernel_rfl
@[simp] theorem ni34 : notInt Tryz.prog 34 = true := by kernel_rfl
@[simp] theorem sl35 : slInfo Tryz.prog 35 = none := by kernel_rfl
@[simp] theorem ag35 : agInfo Tryz.prog 35 = some (false, 1) := by kernel_rfl
@[simp] theorem tk35 : tk Tryz.prog 35 = some (.other) := by kernel_rfl
@[simp] theorem ni35 : notInt Tryz.prog 35 = true := by kernel_rfl
@[simp] theorem sl36 : slInfo Tryz.prog 36 = none := by kernel_rfl
@[simp] theorem ag36 : agInfo Tryz.prog 36 = some (false, 1) := by kernel_rfl
@[simp] theorem tk36 : tk Tryz.prog 36 = some (.other) := by kernel_rfl
@[simp] theorem ni36 : notInt Tryz.prog 36 = true := by kernel_rfl
@[simp] theorem sl37 : slInfo Tryz.prog 37 = none := by kernel_rfl
@[simp] theorem ag37 : agInfo Tryz.prog 37 = some (false, 1) := by kernel_rfl
@[simp] theorem tk37 : tk Tryz.prog 37 = some (.other) := by kernel_rfl
@[simp] theorem ni37 : notInt Tryz.prog 37 = true := by kernel_rfl
@[simp] theorem sl38 : slInfo Tryz.prog 38 = some (3, 1, 8) := by kernel_rfl
@[simp] theorem ag38 : agInfo Tryz.prog 38 = some (false, 1) := by kernel_rfl
@[simp] theorem tk38 : tk Tryz.prog 38 = some (.other) := by kernel_rfl
@[simp] theorem ni38 : notInt Tryz.prog 38 = true := by kernel_rfl
@[simp] theorem z38 : zeroHV Tryz.prog 38 = some [.sl 0 true []] := by kernel_rfl
@[simp] theorem zo38 : zOneHV Tryz.prog 38 = some (.sl 0 true []) := by kernel_rfl
@[simp] theorem sl39 : slInfo Tryz.prog 39 = none := by kernel_rfl
@[simp] theorem ag39 : agInfo Tryz.prog 39 = some (true, 3) := by kernel_rfl
@[simp] theorem tk39 : tk Tryz.prog 39 = some (.other) := by kernel_rfl
@[simp] theorem ni39 : notInt Tryz.prog 39 = true := by kernel_rfl
@[simp] theorem z39 : zeroHV Tryz.prog 39 = some [.sl 0 true [], .sl 0 true [], .sl 0 true []] := by kernel_rfl
@[simp] theorem zo39 : zOneHV Tryz.prog 39 = some (.agg [.sl 0 true [], .sl 0 true [], .sl 0 true []]) := by kernel_rfl
@[simp] theorem fd39_0 : fdInfo Tryz.prog 39 0 = some (0, 1, false) := by kernel_rfl
@[simp] theorem fd39_1 : fdInfo Tryz.prog 39 1 = some (1, 1, false) := by kernel_rfl
@[simp] theorem fd39_2 : fdInfo Tryz.prog 39 2 = some (2, 1, false) := by kernel_rfl
@[simp] theorem pl39 : places Tryz.prog 39 = some [(0, 1), (1, 1), (2, 1)] := by kernel_rfl
@[simp] theorem sl40 : slInfo Tryz.prog 40 = none := by kernel_rfl
@[simp] theorem ag40 : agInfo Tryz.prog 40 = some (true, 3) := by kernel_rfl
@[simp] theorem tk40 : tk Tryz.prog 40 = some (.other) := by kernel_rfl
@[simp] theorem ni40 : notInt Tryz.prog 40 = true := by kernel_rfl
@[simp] theorem z40 : zeroHV Tryz.prog 40 = some [.sl 0 true [], .sl 0 true [], .sl 0 true []] := by kernel_rfl
@[simp] theorem zo40 : zOneHV Tryz.prog 40 = some (.agg [.sl 0 true [], .sl 0 true [], .sl 0 true []]) := by kernel_rfl
@[simp] theorem fd40_0 : fdInfo Tryz.prog 40 0 = some (0, 1, false) := by kernel_rfl
@[simp] theorem fd40_1 : fdInfo Tryz.prog 40 1 = some (1, 1, false) := by kernel_rfl
@[simp] theorem fd40_2 : fdInfo Tryz.prog 40 2 = some (2, 1, false) := by kernel_rfl
@[simp] theorem pl40 : places Tryz.prog 40 = some [(0, 1), (1, 1), (2, 1)] := by kernel_rfl
@[simp] theorem sl41 : slInfo Tryz.prog 41 = none := by kernel_rfl
@[simp] theorem ag41 : agInfo Tryz.prog 41 = some (false, 1) := by kernel_rfl
@[simp] theorem tk41 : tk Tryz.prog 41 = some (.other) := by kernel_rfl
@[simp] theorem ni41 : notInt Tryz.prog 41 = true := by kernel_rfl
@[simp] theorem sl42 : slInfo Tryz.prog 42 = none := by kernel_rfl
@[simp] theorem ag42 : agInfo Tryz.prog 42 = some (false, 1) := by kernel_rfl
@[simp] theorem tk42 : tk Tryz.prog 42 = some (.other) := by kernel_rfl
@[simp] theorem ni42 : notInt Tryz.prog 42 = true := by kernel_rfl
@[simp] theorem sl43 : slInfo Tryz.prog 43 = none := by kernel_rfl
@[simp] theorem ag43 : agInfo Tryz.prog 43 = some (false, 1) := by kernel_rfl
@[simp] theorem tk43 : tk Tryz.prog 43 = some (.other) := by kernel_rfl
@[simp] theorem ni43 : notInt Tryz.prog 43 = true := by kernel_rfl
@[simp] theorem sl44 : slInfo Tryz.prog 44 = none := by kernel_rfl
@[simp] theorem ag44 : agInfo Tryz.prog 44 = some (false, 1) := by kernel_rfl
@[simp] theorem tk44 : tk Tryz.prog 44 = some (.other) := by kernel_rfl
@[simp] theorem ni44 : notInt Tryz.prog 44 = true := by kernel_rfl
@[simp] theorem sl45 : slInfo Tryz.prog 45 = none := by kernel_rfl
@[simp] theorem ag45 : agInfo Tryz.prog 45 = some (false, 1) := by kernel_rfl
@[simp] theorem tk45 : tk Tryz.prog 45 = some (.other) := by kernel_rfl
@[simp] theorem ni45 : notInt Tryz.prog 45 = true := by kernel_rfl
@[simp] theorem sl46 : slInfo Tryz.prog 46 = none := by kernel_rfl
@[simp] theorem ag46 : agInfo Tryz.prog 46 = some (true, 3) := by kernel_rfl
@[simp] theorem tk46 : tk Tryz.prog 46 = some (.other) := by kernel_rfl
@[simp] theorem ni46 : notInt Tryz.prog 46 = true := by kernel_rfl
@[simp] theorem z46 : zeroHV Tryz.prog 46 = some [.str [], .str [], .lit (.int .i64 0)] := by kernel_rfl
@[simp] theorem zo46 : zOneHV Tryz.prog 46 = some (.agg [.str [], .str [], .lit (.int .i64 0)]) := by kernel_rfl
@[simp] theorem fd46_0 : fdInfo Tryz.prog 46 0 = some (0, 1, false) := by kernel_rfl
@[simp] theorem fd46_1 : fdInfo Tryz.prog 46 1 = some (1, 1, false) := by kernel_rfl
@[simp] theorem fd46_2 : fdInfo Tryz.prog 46 2 = some (2, 1, false) := by kernel_rfl
@[simp] theorem pl46 : places Tryz.prog 46 = some [(0, 1), (1, 1), (2, 1)] := by kernel_rfl
@[simp] theorem sl47 : slInfo Tryz.prog 47 = none := by kernel_rfl
@[simp] theorem ag47 : agInfo Tryz.prog 47 = some (true, 3) := by kernel_rfl
@[simp] theorem tk47 : tk Tryz.prog 47 = some (.other) := by kernel_rfl
@[simp] theorem ni47 : notInt Tryz.prog 47 = true := by kernel_rfl
@[simp] theorem z47 : zeroHV Tryz.prog 47 = some [.str [], .str [], .lit (.int .i64 0)] := by kernel_rfl
@[simp] theorem zo47 : zOneHV Tryz.prog 47 = some (.agg [.str [], .str [], .lit (.int .i64 0)]) := by kernel_rfl
@[simp] theorem fd47_0 : fdInfo Tryz.prog 47 0 = some (0, 1, false) := by kernel_rfl
@[simp] theorem fd47_1 : fdInfo Tryz.prog 47 1 = some (1, 1, false) := by kernel_rfl
@[simp] theorem fd47_2 : fdInfo Tryz.prog 47 2 = some (2, 1, false) := by kernel_rfl
@[simp] theorem pl47 : places Tryz.prog 47 = some [(0, 1), (1, 1), (2, 1)] := by kernel_rfl
@[simp] theorem sl48 : slInfo Tryz.prog 48 = some (9, 1, 16) := by kernel_rfl
@[simp] theorem ag48 : agInfo Tryz.prog 48 = some (false, 1) := by kernel_rfl
@[simp] theorem tk48 : tk Tryz.prog 48 = some (.other) := by kernel_rfl
@[simp] theorem ni48 : notInt Tryz.prog 48 = true := by kernel_rfl
@[simp] theorem z48 : zeroHV Tryz.prog 48 = some [.sl 0 true []] := by kernel_rfl
@[simp] theorem zo48 : zOneHV Tryz.prog 48 = some (.sl 0 true []) := by kernel_rfl
@[simp] theorem sl49 : slInfo Tryz.prog 49 = none := by kernel_rfl
@[simp] theorem ag49 : agInfo Tryz.prog 49 = some (true, 5) := by kernel_rfl
@[simp] theorem tk49 : tk Tryz.prog 49 = some (.other) := by kernel_rfl
@[simp] theorem ni49 : notInt Tryz.prog 49 = true := by kernel_rfl
@[simp] theorem z49 : zeroHV Tryz.prog 49 = some [.lit (.int .i64 0), .str [], .str [], .str [], .sl 0 true []] := by kernel_rfl
@[simp] theorem zo49 : zOneHV Tryz.prog 49 = some (.agg [.lit (.int .i64 0), .str [], .str [], .str [], .sl 0 true []]) := by kernel_rfl
@[simp] theorem fd49_0 : fdInfo Tryz.prog 49 0 = some (0, 1, false) := by kernel_rfl
@[simp] theorem fd49_1 : fdInfo Tryz.prog 49 1 = some (1, 1, false) := by kernel_rfl
@[simp] theorem fd49_2 : fdInfo Tryz.prog 49 2 = some (2, 1, false) := by kernel_rfl
@[simp] theorem fd49_3 : fdInfo Tryz.prog 49 3 = some (3, 1, false) := by kernel_rfl
@[simp] theorem fd49_4 : fdInfo Tryz.prog 49 4 = some (4, 1, false) := by kernel_rfl
@[simp] theorem pl49 : places Tryz.prog 49 = some [(0, 1), (1, 1), (2, 1), (3, 1), (4, 1)] := by kernel_rfl
@[simp] theorem sl50 : slInfo Tryz.prog 50 = none := by kernel_rfl
@[simp] theorem ag50 : agInfo Tryz.prog 50 = some (true, 5) := by kernel_rfl
@[simp] theorem tk50 : tk Tryz.prog 50 = some (.other) := by kernel_rfl
@[simp] theorem ni50 : notInt Tryz.prog 50 = true := by kernel_rfl
@[simp] theorem z50 : zeroHV Tryz.prog 50 = some [.lit (.int .i64 0), .str [], .str [], .str [], .sl 0 true []] := by kernel_rfl
@[simp] theorem zo50 : zOneHV Tryz.prog 50 = some (.agg [.lit (.int .i64 0), .str [], .str [], .str [], .sl 0 true []]) := by kernel_rfl
@[simp] theorem fd50_0 : fdInfo Tryz.prog 50 0 = some (0, 1, false) := by kernel_rfl
@[simp] theorem fd50_1 : fdInfo Tryz.prog 50 1 = some (1, 1, false) := by kernel_rfl
@[simp] theorem fd50_2 : fdInfo Tryz.prog 50 2 = some (2, 1, false) := by kernel_rfl
@[simp] theorem fd50_3 : fdInfo Tryz.prog 50 3 = some (3, 1, false) := by kernel_rfl
@[simp] theorem fd50_4 : fdInfo Tryz.prog 50 4 = some (4, 1, false) := by kernel_rfl
@[simp] theorem pl50 : places Tryz.prog 50 = some [(0, 1), (1, 1), (2, 1), (3, 1), (4, 1)] := by kernel_rfl
@[simp] theorem sl51 : slInfo Tryz.prog 51 = none := by kernel_rfl
@[simp] theorem ag51 : agInfo Tryz.prog 51 = some (false, 1) := by kernel_rfl
@[simp] theorem tk51 : tk Tryz.prog 51 = some (.other) := by kernel_rfl
@[simp] theorem ni51 : notInt Tryz.prog 51 = true := by kernel_rfl
@[simp] theorem sl52 : slInfo Tryz.prog 52 = none := by kernel_rfl
@[simp] theorem ag52 : agInfo Tryz.prog 52 = some (false, 1) := by kernel_rfl
@[simp] theorem tk52 : tk Tryz.prog 52 = some (.other) := by kernel_rfl
@[simp] theorem ni52 : notInt Tryz.prog 52 = true := by kernel_rfl
@[simp] theorem sl53 : slInfo Tryz.prog 53 = none := by kernel_rfl
@[simp] theorem ag53 : agInfo Tryz.prog 53 = some (false, 1) := by kernel_rfl
@[simp] theorem tk53 : tk Tryz.prog 53 = some (.other) := by kernel_rfl
@[simp] theorem ni53 : notInt Tryz.prog 53 = true := by kernel_rfl
@[simp] theorem sl54 : slInfo Tryz.prog 54 = none := by kernel_rfl
@[simp] theorem ag54 : agInfo Tryz.prog 54 = some (false, 1) := by kernel_rfl
@[simp] theorem tk54 : tk Tryz.prog 54 = some (.other) := by kernel_rfl
@[simp] theorem ni54 : notInt Tryz.prog 54 = true := by kernel_rfl
@[simp] theorem sl55 : slInfo Tryz.prog 55 = none := by kernel_rfl
@[simp] theorem ag55 : agInfo Tryz.prog 55 = some (false, 1) := by kernel_rfl
@[simp] theorem tk55 : tk Tryz.prog 55 = some (.other) := by kernel_rfl
@[simp] theorem ni55 : notInt Tryz.prog 55 = true := by kernel_rfl
@[simp] theorem sl56 : slInfo Tryz.prog 56 = some (63, 3, 48) := by kernel_rfl
@[simp] theorem ag56 : agInfo Tryz.prog 56 = some (false, 1) := by kernel_rfl
@[simp] theorem tk56 : tk Tryz.prog 56 = some (.other) := by kernel_rfl
@[simp] theorem ni56 : notInt Tryz.prog 56 = true := by kernel_rfl
@[simp] theorem z56 : zeroHV Tryz.prog 56 = some [.sl 0 true []] := by kernel_rfl
@[simp] theorem zo56 : zOneHV Tryz.prog 56 = some (.sl 0 true []) := by kernel_rfl
@[simp] theorem sl57 : slInfo Tryz.prog 57 = none := by kernel_rfl
@[simp] theorem ag57 : agInfo Tryz.prog 57 = some (false, 1) := by kernel_rfl
@[simp] theorem tk57 : tk Tryz.prog 57 = some (.other) := by kernel_rfl
@[simp] theorem ni57 : notInt Tryz.prog 57 = true := by kernel_rfl
@[simp] theorem sl58 : slInfo Tryz.prog 58 = none := by kernel_rfl
@[simp] theorem ag58 : agInfo Tryz.prog 58 = some (false, 1) := by kernel_rfl
@[simp] theorem tk58 : tk Tryz.prog 58 = some (.other) := by kernel_rfl
@[simp] theorem ni58 : notInt Tryz.prog 58 = true := by kernel_rfl
@[simp] theorem sl59 : slInfo Tryz.prog 59 = none := by kernel_rfl
@[simp] theorem ag59 : agInfo Tryz.prog 59 = some (false, 1) := by kernel_rfl
@[simp] theorem tk59 : tk Tryz.prog 59 = some (.other) := by kernel_rfl
@[simp] theorem ni59 : notInt Tryz.prog 59 = true := by kernel_rfl
@[simp] theorem sl60 : slInfo Tryz.prog 60 = none := by kernel_rfl
@[simp] theorem ag60 : agInfo Tryz.prog 60 = some (false, 1) := by kernel_rfl
@[simp] theorem tk60 : tk Tryz.prog 60 = some (.other) := by kernel_rfl
@[simp] theorem ni60 : notInt Tryz.prog 60 = true := by kernel_rfl
@[simp] theorem sl61 : slInfo Tryz.prog 61 = none := by kernel_rfl
@[simp] theorem ag61 : agInfo Tryz.prog 61 = some (false, 1) := by kernel_rfl
@[simp] theorem tk61 : tk Tryz.prog 61 = some (.other) := by kernel_rfl
@[simp] theorem ni61 : notInt Tryz.prog 61 = true := by kernel_rfl
@[simp] theorem sl62 : slInfo Tryz.prog 62 = none := by kernel_rfl
@[simp] theorem ag62 : agInfo Tryz.prog 62 = some (true, 3) := by kernel_rfl
@[simp] theorem tk62 : tk Tryz.prog 62 = some (.other) := by kernel_rfl
@[simp] theorem ni62 : notInt Tryz.prog 62 = true := by kernel_rfl
@[simp] theorem z62 : zeroHV Tryz.prog 62 = some [.str [], .str [], .str []] := by kernel_rfl
@[simp] theorem zo62 : zOneHV Tryz.prog 62 = some (.agg [.str [], .str [], .str []]) := by kernel_rfl
@[simp] theorem fd62_0 : fdInfo Tryz.prog 62 0 = some (0, 1, false) := by kernel_rfl
@[simp] theorem fd62_1 : fdInfo Tryz.prog 62 1 = some (1, 1, false) := by kernel_rfl
@[simp] theorem fd62_2 : fdInfo Tryz.prog 62 2 = some (2, 1, false) := by kernel_rfl
@[simp] theorem pl62 : places Tryz.prog 62 = some [(0, 1), (1, 1), (2, 1)] := by kernel_rfl
@[simp] theorem sl63 : slInfo Tryz.prog 63 = none := by kernel_rfl
@[simp] theorem ag63 : agInfo Tryz.prog 63 = some (true, 3) := by kernel_rfl
@[simp] theorem tk63 : tk Tryz.prog 63 = some (.other) := by kernel_rfl
@[simp] theorem ni63 : notInt Tryz.prog 63 = true := by kernel_rfl
@[simp] theorem z63 : zeroHV Tryz.prog 63 = some [.str [], .str [], .str []] := by kernel_rfl
@[simp] theorem zo63 : zOneHV Tryz.prog 63 = some (.agg [.str [], .str [], .str []]) := by kernel_rfl
@[simp] theorem fd63_0 : fdInfo Tryz.prog 63 0 = some (0, 1, false) := by kernel_rfl
@[simp] theorem fd63_1 : fdInfo Tryz.prog 63 1 = some (1, 1, false) := by kernel_rfl
@[simp] theorem fd63_2 : fdInfo Tryz.prog 63 2 = some (2, 1, false) := by kernel_rfl
@[simp] theorem pl63 : places Tryz.prog 63 = some [(0, 1), (1, 1), (2, 1)] := by kernel_rfl
@[simp] theorem sl64 : slInfo Tryz.prog 64 = none := by kernel_rfl
@[simp] theorem ag64 : agInfo Tryz.prog 64 = some (false, 1) := by kernel_rfl
@[simp] theorem tk64 : tk Tryz.prog 64 = some (.other) := by kernel_rfl
@[simp] theorem ni64 : notInt Tryz.prog 64 = true := by kernel_rfl
@[simp] theorem sl65 : slInfo Tryz.prog 65 = none := by kernel_rfl
@[simp] theorem ag65 : agInfo Tryz.prog 65 = some (false, 1) := by kernel_rfl
@[simp] theorem tk65 : tk Tryz.prog 65 = some (.other) := by kernel_rfl
@[simp] theorem ni65 : notInt Tryz.prog 65 = true := by kernel_rfl
@[simp] theorem sl66 : slInfo Tryz.prog 66 = none := by kernel_rfl
@[simp] theorem ag66 : agInfo Tryz.prog 66 = some (true, 2) := by kernel_rfl
@[simp] theorem tk66 : tk Tryz.prog 66 = some (.other) := by kernel_rfl
@[simp] theorem ni66 : notInt Tryz.prog 66 = true := by kernel_rfl
@[simp] theorem z66 : zeroHV Tryz.prog 66 = some [.str [], .lit (.int .i64 0)] := by kernel_rfl
@[simp] theorem zo66 : zOneHV Tryz.prog 66 = some (.agg [.str [], .lit (.int .i64 0)]) := by kernel_rfl
@[simp] theorem fd66_0 : fdInfo Tryz.prog 66 0 = some (0, 1, false) := by kernel_rfl
@[simp] theorem fd66_1 : fdInfo Tryz.prog 66 1 = some (1, 1, false) := by kernel_rfl
@[simp] theorem pl66 : places Tryz.prog 66 = some [(0, 1), (1, 1)] := by kernel_rfl
@[simp] theorem sl67 : slInfo Tryz.prog 67 = none := by kernel_rfl
@[simp] theorem ag67 : agInfo Tryz.prog 67 = some (true, 2) := by kernel_rfl
@[simp] theorem tk67 : tk Tryz.prog 67 = some (.other) := by kernel_rfl
@[simp] theorem ni67 : notInt Tryz.prog 67 = true := by kernel_rfl
@[simp] theorem z67 : zeroHV Tryz.prog 67 = some [.str [], .lit (.int .i64 0)] := by kernel_rfl
@[simp] theorem zo67 : zOneHV Tryz.prog 67 = some (.agg [.str [], .lit (.int .i64 0)]) := by kernel_rfl
@[simp] theorem fd67_0 : fdInfo Tryz.prog 67 0 = some (0, 1, false) := by kernel_rfl
@[simp] theorem fd67_1 : fdInfo Tryz.prog 67 1 = some (1, 1, false) := by kernel_rfl
@[simp] theorem pl67 : places Tryz.prog 67 = some [(0, 1), (1, 1)] := by kernel_rfl
@[simp] theorem sl68 : slInfo Tryz.prog 68 = some (88, 2, 24) := by kernel_rfl
@[simp] theorem ag68 : agInfo Tryz.prog 68 = some (false, 1) := by kernel_rfl
@[simp] theorem tk68 : tk Tryz.prog 68 = some (.other) := by kernel_rfl
@[simp] theorem ni68 : notInt Tryz.prog 68 = true := by kernel_rfl
@[simp] theorem z68 : zeroHV Tryz.prog 68 = some [.sl 0 true []] := by kernel_rfl
@[simp] theorem zo68 : zOneHV Tryz.prog 68 = some (.sl 0 true []) := by kernel_rfl
@[simp] theorem sl69 : slInfo Tryz.prog 69 = none := by kernel_rfl
@[simp] theorem ag69 : agInfo Tryz.prog 69 = some (false, 1) := by kernel_rfl
@[simp] theorem tk69 : tk Tryz.prog 69 = some (.other) := by kernel_rfl
@[simp] theorem ni69 : notInt Tryz.prog 69 = true := by kernel_rfl
@[simp] theorem sl70 : slInfo Tryz.prog 70 = none := by kernel_rfl
@[simp] theorem ag70 : agInfo Tryz.prog 70 = some (false, 1) := by kernel_rfl
@[simp] theorem tk70 : tk Tryz.prog 70 = some (.other) := by kernel_rfl
@[simp] theorem ni70 : notInt Tryz.prog 70 = true := by kernel_rfl
@[simp] theorem sl71 : slInfo Tryz.prog 71 = none := by kernel_rfl
@[simp] theorem ag71 : agInfo Tryz.prog 71 = some (false, 1) := by kernel_rfl
@[simp] theorem tk71 : tk Tryz.prog 71 = some (.other) := by kernel_rfl
@[simp] theorem ni71 : notInt Tryz.prog 71 = true := by kernel_rfl
@[simp] theorem sl72 : slInfo Tryz.prog 72 = none := by kernel_rfl
@[simp] theorem ag72 : agInfo Tryz.prog 72 = some (false, 1) := by kernel_rfl
@[simp] theorem tk72 : tk Tryz.prog 72 = some (.other) := by kernel_rfl
@[simp] theorem ni72 : notInt Tryz.prog 72 = true := by kernel_rfl
@[simp] theorem sl73 : slInfo Tryz.prog 73 = none := by kernel_rfl
@[simp] theorem ag73 : agInfo Tryz.prog 73 = some (false, 1) := by kernel_rfl
@[simp] theorem mp73 : mpInfo Tryz.prog 73 = some (63, 4) := by kernel_rfl
@[simp] theorem tk73 : tk Tryz.prog 73 = some (.other) := by kernel_rfl
@[simp] theorem ni73 : notInt Tryz.prog 73 = true := by kernel_rfl
@[simp] theorem z73 : zeroHV Tryz.prog 73 = some [.mp []] := by kernel_rfl
@[simp] theorem zo73 : zOneHV Tryz.prog 73 = some (.mp []) := by kernel_rfl
@[simp] theorem sl74 : slInfo Tryz.prog 74 = none := by kernel_rfl
@[simp] theorem ag74 : agInfo Tryz.prog 74 = some (false, 1) := by kernel_rfl
@[simp] theorem tk74 : tk Tryz.prog 74 = some (.other) := by kernel_rfl
@[simp] theorem ni74 : notInt Tryz.prog 74 = true := by kernel_rfl
@[simp] theorem sl75 : slInfo Tryz.prog 75 = none := by kernel_rfl
@[simp] theorem ag75 : agInfo Tryz.prog 75 = some (false, 1) := by kernel_rfl
@[simp] theorem tk75 : tk Tryz.prog 75 = some (.other) := by kernel_rfl
@[simp] theorem ni75 : notInt Tryz.prog 75 = true := by kernel_rfl
@[simp] theorem sl76 : slInfo Tryz.prog 76 = none := by kernel_rfl
@[simp] theorem ag76 : agInfo Tryz.prog 76 = some (false, 1) := by kernel_rfl
@[simp] theorem tk76 : tk Tryz.prog 76 = some (.other) := by kernel_rfl
@[simp] theorem ni76 : notInt Tryz.prog 76 = true := by kernel_rfl
@[simp] theorem sl77 : slInfo Tryz.prog 77 = none := by kernel_rfl
@[simp] theorem ag77 : agInfo Tryz.prog 77 = some (false, 1) := by kernel_rfl
@[simp] theorem tk77 : tk Tryz.prog 77 = some (.other) := by kernel_rfl
@[simp] theorem ni77 : notInt Tryz.prog 77 = true := by kernel_rfl
@[simp] theorem sl78 : slInfo Tryz.prog 78 = some (82, 2, 24) := by kernel_rfl
@[simp] theorem ag78 : agInfo Tryz.prog 78 = some (false, 1) := by kernel_rfl
@[simp] theorem tk78 : tk Tryz.prog 78 = some (.other) := by kernel_rfl
@[simp] theorem ni78 : notInt Tryz.prog 78 = true := by kernel_rfl
@[simp] theorem z78 : zeroHV Tryz.prog 78 = some [.sl 0 true []] := by kernel_rfl
@[simp] theorem zo78 : zOneHV Tryz.prog 78 = some (.sl 0 true []) := by kernel_rfl
@[simp] theorem sl79 : slInfo Tryz.prog 79 = none := by kernel_rfl
@[simp] theorem ag79 : agInfo Tryz.prog 79 = some (true, 5) := by kernel_rfl
@[simp] theorem tk79 : tk Tryz.prog 79 = some (.other) := by kernel_rfl
@[simp] theorem ni79 : notInt Tryz.prog 79 = true := by kernel_rfl
@[simp] theorem z79 : zeroHV Tryz.prog 79 = some [.lit (.int .i64 0), .sl 0 true [], .sl 0 true [], .lit (.int .i64 0), .lit (.int .i64 0)] := by kernel_rfl
@[simp] theorem zo79 : zOneHV Tryz.prog 79 = some (.agg [.lit (.int .i64 0), .sl 0 true [], .sl 0 true [], .lit (.int .i64 0), .lit (.int .i64 0)]) := by kernel_rfl
@[simp] theorem fd79_0 : fdInfo Tryz.prog 79 0 = some (0, 1, false) := by kernel_rfl
@[simp] theorem fd79_1 : fdInfo Tryz.prog 79 1 = some (1, 1, false) := by kernel_rfl
@[simp] theorem fd79_2 : fdInfo Tryz.prog 79 2 = some (2, 1, false) := by kernel_rfl
@[simp] theorem fd79_3 : fdInfo Tryz.prog 79 3 = some (3, 1, false) := by kernel_rfl
@[simp] theorem fd79_4 : fdInfo Tryz.prog 79 4 = some (4, 1, false) := by kernel_rfl
@[simp] theorem pl79 : places Tryz.prog 79 = some [(0, 1), (1, 1), (2, 1), (3, 1), (4, 1)] := by kernel_rfl
@[simp] theorem sl80 : slInfo Tryz.prog 80 = none := by kernel_rfl
@[simp] theorem ag80 : agInfo Tryz.prog 80 = some (true, 5) := by kernel_rfl
@[simp] theorem tk80 : tk Tryz.prog 80 = some (.other) := by kernel_rfl
@[simp] theorem ni80 : notInt Tryz.prog 80 = true := by kernel_rfl
@[simp] theorem z80 : zeroHV Tryz.prog 80 = some [.lit (.int .i64 0), .sl 0 true [], .sl 0 true [], .lit (.int .i64 0), .lit (.int .i64 0)] := by kernel_rfl
@[simp] theorem zo80 : zOneHV Tryz.prog 80 = some (.agg [.lit (.int .i64 0), .sl 0 true [], .sl 0 true [], .lit (.int .i64 0), .lit (.int .i64 0)]) := by kernel_rfl
@[simp] theorem fd80_0 : fdInfo Tryz.prog 80 0 = some (0, 1, false) := by kernel_rfl
@[simp] theorem fd80_1 : fdInfo Tryz.prog 80 1 = some (1, 1, false) := by kernel_rfl
@[simp] theorem fd80_2 : fdInfo Tryz.prog 80 2 = some (2, 1, false) := by kernel_rfl
@[simp] theorem fd80_3 : fdInfo Tryz.prog 80 3 = some (3, 1, false) := by kernel_rfl
@[simp] theorem fd80_4 : fdInfo Tryz.prog 80 4 = some (4, 1, false) := by kernel_rfl
@[simp] theorem pl80 : places Tryz.prog 80 = some [(0, 1), (1, 1), (2, 1), (3, 1), (4, 1)] := by kernel_rfl
@[simp] theorem sl81 : slInfo Tryz.prog 81 = none := by kernel_rfl
@[simp] theorem ag81 : agInfo Tryz.prog 81 = some (true, 2) := by kernel_rfl
@[simp] theorem tk81 : tk Tryz.prog 81 = some (.other) := by kernel_rfl
@[simp] theorem ni81 : notInt Tryz.prog 81 = true := by kernel_rfl
@[simp] theorem z81 : zeroHV Tryz.prog 81 = some [.str [], .lit (.int .i64 0)] := by kernel_rfl
@[simp] theorem zo81 : zOneHV Tryz.prog 81 = some (.agg [.str [], .lit (.int .i64 0)]) := by kernel_rfl
@[simp] theorem fd81_0 : fdInfo Tryz.prog 81 0 = some (0, 1, false) := by kernel_rfl
@[simp] theorem fd81_1 : fdInfo Tryz.prog 81 1 = some (1, 1, false) := by kernel_rfl
@[simp] theorem pl81 : places Tryz.prog 81 = some [(0, 1), (1, 1)] := by kernel_rfl
@[simp] theorem sl82 : slInfo Tryz.prog 82 = none := by kernel_rfl
@[simp] theorem ag82 : agInfo Tryz.prog 82 = some (true, 2) := by kernel_rfl
@[simp] theorem tk82 : tk Tryz.prog 82 = some (.other) := by kernel_rfl
@[simp] theorem ni82 : notInt Tryz.prog 82 = true := by kernel_rfl
@[simp] theorem z82 : zeroHV Tryz.prog 82 = some [.str [], .lit (.int .i64 0)] := by kernel_rfl
@[simp] theorem zo82 : zOneHV Tryz.prog 82 = some (.agg [.str [], .lit (.int .i64 0)]) := by kernel_rfl
@[simp] theorem fd82_0 : fdInfo Tryz.prog 82 0 = some (0, 1, false) := by kernel_rfl
@[simp] theorem fd82_1 : fdInfo Tryz.prog 82 1 = some (1, 1, false) := by kernel_rfl
@[simp] theorem pl82 : places Tryz.prog 82 = some [(0, 1), (1, 1)] := by kernel_rfl
@[simp] theorem sl83 : slInfo Tryz.prog 83 = none := by kernel_rfl
@[simp] theorem ag83 : agInfo Tryz.prog 83 = some (false, 1) := by kernel_rfl
@[simp] theorem tk83 : tk Tryz.prog 83 = some (.other) := by kernel_rfl
@[simp] theorem ni83 : notInt Tryz.prog 83 = true := by kernel_rfl
@[simp] theorem sl84 : slInfo Tryz.prog 84 = none := by kernel_rfl
@[simp] theorem ag84 : agInfo Tryz.prog 84 = some (false, 1) := by kernel_rfl
@[simp] theorem tk84 : tk Tryz.prog 84 = some (.other) := by kernel_rfl
@[simp] theorem ni84 : notInt Tryz.prog 84 = true := by kernel_rfl
@[simp] theorem sl85 : slInfo Tryz.prog 85 = none := by kernel_rfl
@[simp] theorem ag85 : agInfo Tryz.prog 85 = some (false, 1) := by kernel_rfl
@[simp] theorem tk85 : tk Tryz.prog 85 = some (.other) := by kernel_rfl
@[simp] theorem ni85 : notInt Tryz.prog 85 = true := by kernel_rfl
@[simp] theorem sl86 : slInfo Tryz.prog 86 = none := by kernel_rfl
@[simp] theorem ag86 : agInfo Tryz.prog 86 = some (false, 1) := by kernel_rfl
@[simp] theorem tk86 : tk Tryz.prog 86 = some (.other) := by kernel_rfl
@[simp] theorem ni86 : notInt Tryz.prog 86 = true := by kernel_rfl
@[simp] theorem sl87 : slInfo Tryz.prog 87 = none := by kernel_rfl
@[simp] theorem ag87 : agInfo Tryz.prog 87 = some (false, 1) := by kernel_rfl
@[simp] theorem mp87 : mpInfo Tryz.prog 87 = some (63, 48) := by kernel_rfl
@[simp] theorem tk87 : tk Tryz.prog 87 = some (.other) := by kernel_rfl
@[simp] theorem ni87 : notInt Tryz.prog 87 = true := by kernel_rfl
@[simp] theorem z87 : zeroHV Tryz.prog 87 = some [.mp []] := by kernel_rfl
@[simp] theorem zo87 : zOneHV Tryz.prog 87 = some (.mp []) := by kernel_rfl
@[simp] theorem sl88 : slInfo Tryz.prog 88 = none := by kernel_rfl
@[simp] theorem ag88 : agInfo Tryz.prog 88 = some (true, 2) := by kernel_rfl
@[simp] theorem tk88 : tk Tryz.prog 88 = some (.other) := by kernel_rfl
@[simp] theorem ni88 : notInt Tryz.prog 88 = true := by kernel_rfl
@[simp] theorem z88 : zeroHV Tryz.prog 88 = some [.str [], .lit (.int .i64 0)] := by kernel_rfl
@[simp] theorem zo88 : zOneHV Tryz.prog 88 = some (.agg [.str [], .lit (.int .i64 0)]) := by kernel_rfl
@[simp] theorem fd88_0 : fdInfo Tryz.prog 88 0 = some (0, 1, false) := by kernel_rfl
@[simp] theorem fd88_1 : fdInfo Tryz.prog 88 1 = some (1, 1, false) := by kernel_rfl
@[simp] theorem pl88 : places Tryz.prog 88 = some [(0, 1), (1, 1)] := by kernel_rfl
@[simp] theorem sl89 : slInfo Tryz.prog 89 = none := by kernel_rfl
@[simp] theorem ag89 : agInfo Tryz.prog 89 = some (false, 1) := by kernel_rfl
@[simp] theorem tk89 : tk Tryz.prog 89 = some (.other) := by kernel_rfl
@[simp] theorem ni89 : notInt Tryz.prog 89 = true := by kernel_rfl
@[simp] theorem sl90 : slInfo Tryz.prog 90 = none := by kernel_rfl
@[simp] theorem ag90 : agInfo Tryz.prog 90 = some (false, 1) := by kernel_rfl
@[simp] theorem tk90 : tk Tryz.prog 90 = some (.other) := by kernel_rfl
@[simp] theorem ni90 : notInt Tryz.prog 90 = true := by kernel_rfl
@[simp] theorem sl91 : slInfo Tryz.prog 91 = none := by kernel_rfl
@[simp] theorem ag91 : agInfo Tryz.prog 91 = some (false, 1) := by kernel_rfl
@[simp] theorem tk91 : tk Tryz.prog 91 = some (.other) := by kernel_rfl
@[simp] theorem ni91 : notInt Tryz.prog 91 = true := by kernel_rfl
@[simp] theorem sl92 : slInfo Tryz.prog 92 = none := by kernel_rfl
@[simp] theorem ag92 : agInfo Tryz.prog 92 = some (false, 1) := by kernel_rfl
@[simp] theorem tk92 : tk Tryz.prog 92 = some (.other) := by kernel_rfl
@[simp] theorem ni92 : notInt Tryz.prog 92 = true := by kernel_rfl
@[simp] theorem sl93 : slInfo Tryz.prog 93 = none := by kernel_rfl
@[simp] theorem ag93 : agInfo Tryz.prog 93 = some (false, 1) := by kernel_rfl
@[simp] theorem tk93 : tk Tryz.prog 93 = some (.other) := by kernel_rfl
@[simp] theorem ni93 : notInt Tryz.prog 93 = true := by kernel_rfl
@[simp] theorem sl94 : slInfo Tryz.prog 94 = none := by kernel_rfl
@[simp] theorem ag94 : agInfo Tryz.prog 94 = some (false, 1) := by kernel_rfl
@[simp] theorem tk94 : tk Tryz.prog 94 = some (.other) := by kernel_rfl
@[simp] theorem ni94 : notInt Tryz.prog 94 = true := by kernel_rfl
@[simp] theorem sl95 : slInfo Tryz.prog 95 = none := by kernel_rfl
@[simp] theorem ag95 : agInfo Tryz.prog 95 = some (false, 1) := by kernel_rfl
@[simp] theorem mp95 : mpInfo Tryz.prog 95 = some (3, 4) := by kernel_rfl
@[simp] theorem tk95 : tk Tryz.prog 95 = some (.other) := by kernel_rfl
@[simp] theorem ni95 : notInt Tryz.prog 95 = true := by kernel_rfl
@[simp] theorem z95 : zeroHV Tryz.prog 95 = some [.mp []] := by kernel_rfl
@[simp] theorem zo95 : zOneHV Tryz.prog 95 = some (.mp []) := by kernel_rfl
@[simp] theorem sl96 : slInfo Tryz.prog 96 = none := by kernel_rfl
@[simp] theorem ag96 : agInfo Tryz.prog 96 = some (false, 1) := by kernel_rfl
@[simp] theorem mp96 : mpInfo Tryz.prog 96 = some (3, 48) := by kernel_rfl
@[simp] theorem tk96 : tk Tryz.prog 96 = some (.other) := by kernel_rfl
@[simp] theorem ni96 : notInt Tryz.prog 96 = true := by kernel_rfl
@[simp] theorem z96 : zeroHV Tryz.prog 96 = some [.mp []] := by kernel_rfl
@[simp] theorem zo96 : zOneHV Tryz.prog 96 = some (.mp []) := by kernel_rfl
@[simp] theorem sl97 : slInfo Tryz.prog 97 = none := by kernel_rfl
@[simp] theorem ag97 : agInfo Tryz.prog 97 = some (false, 1) := by kernel_rfl
@[simp] theorem tk97 : tk Tryz.prog 97 = some (.other) := by kernel_rfl
@[simp] theorem ni97 : notInt Tryz.prog 97 = true := by kernel_rfl
@[simp] theorem sl98 : slInfo Tryz.prog 98 = none := by kernel_rfl
@[simp] theorem ag98 : agInfo Tryz.prog 98 = some (false, 1) := by kernel_rfl
@[simp] theorem tk98 : tk Tryz.prog 98 = some (.other) := by kernel_rfl
@[simp] theorem ni98 : notInt Tryz.prog 98 = true := by kernel_rfl
@[simp] theorem sl99 : slInfo Tryz.prog 99 = none := by kernel_rfl
@[simp] theorem ag99 : agInfo Tryz.prog 99 = some (false, 1) := by kernel_rfl
@[simp] theorem tk99 : tk Tryz.prog 99 = some (.other) := by kernel_rfl
@[simp] theorem ni99 : notInt Tryz.prog 99 = true := by kernel_rfl
@[simp] theorem sl100 : slInfo Tryz.prog 100 = none := by kernel_rfl
@[simp] theorem ag100 : agInfo Tryz.prog 100 = some (false, 1) := by kernel_rfl
@[simp] theorem tk100 : tk Tryz.prog 100 = some (.other) := by kernel_rfl
@[simp] theorem ni100 : notInt Tryz.prog 100 = true := by kernel_rfl
@[simp] theorem sl101 : slInfo Tryz.prog 101 = none := by kernel_rfl
@[simp] theorem ag101 : agInfo Tryz.prog 101 = some (false, 1) := by kernel_rfl
@[simp] theorem tk101 : tk Tryz.prog 101 = some (.other) := by kernel_rfl
@[simp] theorem ni101 : notInt Tryz.prog 101 = true := by kernel_rfl
@[simp] theorem sl102 : slInfo Tryz.prog 102 = none := by kernel_rfl
@[simp] theorem ag102 : agInfo Tryz.prog 102 = some (true, 2) := by kernel_rfl
@[simp] theorem tk102 : tk Tryz.prog 102 = some (.other) := by kernel_rfl
@[simp] theorem ni102 : notInt Tryz.prog 102 = true := by kernel_rfl
@[simp] theorem z102 : zeroHV Tryz.prog 102 = some [.lit (.int .i64 0), .str []] := by kernel_rfl
@[simp] theorem zo102 : zOneHV Tryz.prog 102 = some (.agg [.lit (.int .i64 0), .str []]) := by kernel_rfl
@[simp] theorem fd102_0 : fdInfo Tryz.prog 102 0 = some (0, 1, false) := by kernel_rfl
@[simp] theorem fd102_1 : fdInfo Tryz.prog 102 1 = some (1, 1, false) := by kernel_rfl
@[simp] theorem pl102 : places Tryz.prog 102 = some [(0, 1), (1, 1)] := by kernel_rfl
@[simp] theorem sl103 : slInfo Tryz.prog 103 = none := by kernel_rfl
@[simp] theorem ag103 : agInfo Tryz.prog 103 = some (true, 2) := by kernel_rfl
@[simp] theorem tk103 : tk Tryz.prog 103 = some (.other) := by kernel_rfl
@[simp] theorem ni103 : notInt Tryz.prog 103 = true := by kernel_rfl
@[simp] theorem z103 : zeroHV Tryz.prog 103 = some [.lit (.int .i64 0), .str []] := by kernel_rfl
@[simp] theorem zo103 : zOneHV Tryz.prog 103 = some (.agg [.lit (.int .i64 0), .str []]) := by kernel_rfl
@[simp] theorem fd103_0 : fdInfo Tryz.prog 103 0 = some (0, 1, false) := by kernel_rfl
@[simp] theorem fd103_1 : fdInfo Tryz.prog 103 1 = some (1, 1, false) := by kernel_rfl
@[simp] theorem pl103 : places Tryz.prog 103 = some [(0, 1), (1, 1)] := by kernel_rfl
@[simp] theorem sl104 : slInfo Tryz.prog 104 = none := by kernel_rfl
@[simp] theorem ag104 : agInfo Tryz.prog 104 = some (false, 1) := by kernel_rfl
@[simp] theorem tk104 : tk Tryz.prog 104 = some (.other) := by kernel_rfl
@[simp] theorem ni104 : notInt Tryz.prog 104 = true := by kernel_rfl
@[simp] theorem sl105 : slInfo Tryz.prog 105 = none := by kernel_rfl
@[simp] theorem ag105 : agInfo Tryz.prog 105 = some (false, 1) := by kernel_rfl
@[simp] theorem tk105 : tk Tryz.prog 105 = some (.other) := by kernel_rfl
@[simp] theorem ni105 : notInt Tryz.prog 105 = true := by kernel_rfl
@[simp] theorem sl106 : slInfo Tryz.prog 106 = none := by kernel_rfl
@[simp] theorem ag106 : agInfo Tryz.prog 106 = some (false, 1) := by kernel_rfl
@[simp] theorem tk106 : tk Tryz.prog 106 = some (.int .u64) := by kernel_rfl
@[simp] theorem ni106 : notInt Tryz.prog 106 = false := by kernel_rfl
@[simp] theorem z106 : zeroHV Tryz.prog 106 = some [.lit (.int .u64 0)] := by kernel_rfl
@[simp] theorem zo106 : zOneHV Tryz.prog 106 = some (.lit (.int .u64 0)) := by kernel_rfl
@[simp] theorem sl107 : slInfo Tryz.prog 107 = none := by kernel_rfl
@[simp] theorem ag107 : agInfo Tryz.prog 107 = some (true, 3) := by kernel_rfl
@[simp] theorem tk107 : tk Tryz.prog 107 = some (.other) := by kernel_rfl
@[simp] theorem ni107 : notInt Tryz.prog 107 = true := by kernel_rfl
@[simp] theorem z107 : zeroHV Tryz.prog 107 = some [.lit (.pointer none), .lit (.pointer none), .lit (.int .u64 0)] := by kernel_rfl
@[simp] theorem zo107 : zOneHV Tryz.prog 107 = some (.agg [.lit (.pointer none), .lit (.pointer none), .lit (.int .u64 0)]) := by kernel_rfl
@[simp] theorem fd107_0 : fdInfo Tryz.prog 107 0 = some (0, 1, false) := by kernel_rfl
@[simp] theorem fd107_1 : fdInfo Tryz.prog 107 1 = some (1, 1, false) := by kernel_rfl
@[simp] theorem fd107_2 : fdInfo Tryz.prog 107 2 = some (2, 1, false) := by kernel_rfl
@[simp] theorem pl107 : places Tryz.prog 107 = some [(0, 1), (1, 1), (2, 1)] := by kernel_rfl
@[simp] theorem sl108 : slInfo Tryz.prog 108 = none := by kernel_rfl
@[simp] theorem ag108 : agInfo Tryz.prog 108 = some (true, 3) := by kernel_rfl
@[simp] theorem tk108 : tk Tryz.prog 108 = some (.other) := by kernel_rfl
@[simp] theorem ni108 : notInt Tryz.prog 108 = true := by kernel_rfl
@[simp] theorem z108 : zeroHV Tryz.prog 108 = some [.lit (.pointer none), .lit (.pointer none), .lit (.int .u64 0)] := by kernel_rfl
@[simp] theorem zo108 : zOneHV Tryz.prog 108 = some (.agg [.lit (.pointer none), .lit (.pointer none), .lit (.int .u64 0)]) := by kernel_rfl
@[simp] theorem fd108_0 : fdInfo Tryz.prog 108 0 = some (0, 1, false) := by kernel_rfl
@[simp] theorem fd108_1 : fdInfo Tryz.prog 108 1 = some (1, 1, false) := by kernel_rfl
@[simp] theorem fd108_2 : fdInfo Tryz.prog 108 2 = some (2, 1, false) := by kernel_rfl
@[simp] theorem pl108 : places Tryz.prog 108 = some [(0, 1), (1, 1), (2, 1)] := by kernel_rfl
@[simp] theorem sl109 : slInfo Tryz.prog 109 = none := by kernel_rfl
@[simp] theorem ag109 : agInfo Tryz.prog 109 = some (false, 1) := by kernel_rfl
@[simp] theorem tk109 : tk Tryz.prog 109 = some (.other) := by kernel_rfl
@[simp] theorem ni109 : notInt Tryz.prog 109 = true := by kernel_rfl
@[simp] theorem sl110 : slInfo Tryz.prog 110 = none := by kernel_rfl
@[simp] theorem ag110 : agInfo Tryz.prog 110 = some (false, 1) := by kernel_rfl
@[simp] theorem tk110 : tk Tryz.prog 110 = some (.other) := by kernel_rfl
@[simp] theorem ni110 : notInt Tryz.prog 110 = true := by kernel_rfl
@[simp] theorem sl111 : slInfo Tryz.prog 111 = none := by kernel_rfl
@[simp] theorem ag111 : agInfo Tryz.prog 111 = some (false, 1) := by kernel_rfl
@[simp] theorem tk111 : tk Tryz.prog 111 = some (.other) := by kernel_rfl
@[simp] theorem ni111 : notInt Tryz.prog 111 = true := by kernel_rfl
@[simp] theorem sl112 : slInfo Tryz.prog 112 = none := by kernel_rfl
@[simp] theorem ag112 : agInfo Tryz.prog 112 = some (false, 1) := by kernel_rfl
@[simp] theorem tk112 : tk Tryz.prog 112 = some (.other) := by kernel_rfl
@[simp] theorem ni112 : notInt Tryz.prog 112 = true := by kernel_rfl
@[simp] theorem sl113 : slInfo Tryz.prog 113 = none := by kernel_rfl
@[simp] theorem ag113 : agInfo Tryz.prog 113 = some (false, 1) := by kernel_rfl
@[simp] theorem tk113 : tk Tryz.prog 113 = some (.other) := by kernel_rfl
@[simp] theorem ni113 : notInt Tryz.prog 113 = true := by kernel_rfl
@[simp] theorem sl114 : slInfo Tryz.prog 114 = none := by kernel_rfl
@[simp] theorem ag114 : agInfo Tryz.prog 114 = some (false, 1) := by kernel_rfl
@[simp] theorem tk114 : tk Tryz.prog 114 = some (.int .u64) := by kernel_rfl
@[simp] theorem ni114 : notInt Tryz.prog 114 = false := by kernel_rfl
@[simp] theorem z114 : zeroHV Tryz.prog 114 = some [.lit (.int .u64 0)] := by kernel_rfl
@[simp] theorem zo114 : zOneHV Tryz.prog 114 = some (.lit (.int .u64 0)) := by kernel_rfl
@[simp] theorem sl115 : slInfo Tryz.prog 115 = none := by kernel_rfl
@[simp] theorem ag115 : agInfo Tryz.prog 115 = some (false, 1) := by kernel_rfl
@[simp] theorem tk115 : tk Tryz.prog 115 = some (.other) := by kernel_rfl
@[simp] theorem ni115 : notInt Tryz.prog 115 = true := by kernel_rfl
@[simp] theorem sl116 : slInfo Tryz.prog 116 = none := by kernel_rfl
@[simp] theorem ag116 : agInfo Tryz.prog 116 = some (true, 2) := by kernel_rfl
@[simp] theorem tk116 : tk Tryz.prog 116 = some (.other) := by kernel_rfl
@[simp] theorem ni116 : notInt Tryz.prog 116 = true := by kernel_rfl
@[simp] theorem z116 : zeroHV Tryz.prog 116 = some [.lit .nilFunc, .lit .nilFunc] := by kernel_rfl
@[simp] theorem zo116 : zOneHV Tryz.prog 116 = some (.agg [.lit .nilFunc, .lit .nilFunc]) := by kernel_rfl
@[simp] theorem fd116_0 : fdInfo Tryz.prog 116 0 = some (0, 1, false) := by kernel_rfl
@[simp] theorem fd116_1 : fdInfo Tryz.prog 116 1 = some (1, 1, false) := by kernel_rfl
@[simp] theorem pl116 : places Tryz.prog 116 = some [(0, 1), (1, 1)] := by kernel_rfl
@[simp] theorem sl117 : slInfo Tryz.prog 117 = none := by kernel_rfl
@[simp] theorem ag117 : agInfo Tryz.prog 117 = some (true, 2) := by kernel_rfl
@[simp] theorem tk117 : tk Tryz.prog 117 = some (.other) := by kernel_rfl
@[simp] theorem ni117 : notInt Tryz.prog 117 = true := by kernel_rfl
@[simp] theorem z117 : zeroHV Tryz.prog 117 = some [.lit .nilFunc, .lit .nilFunc] := by kernel_rfl
@[simp] theorem zo117 : zOneHV Tryz.prog 117 = some (.agg [.lit .nilFunc, .lit .nilFunc]) := by kernel_rfl
@[simp] theorem fd117_0 : fdInfo Tryz.prog 117 0 = some (0, 1, false) := by kernel_rfl
@[simp] theorem fd117_1 : fdInfo Tryz.prog 117 1 = some (1, 1, false) := by kernel_rfl
@[simp] theorem pl117 : places Tryz.prog 117 = some [(0, 1), (1, 1)] := by kernel_rfl
@[simp] theorem sl118 : slInfo Tryz.prog 118 = none := by kernel_rfl
@[simp] theorem ag118 : agInfo Tryz.prog 118 = some (false, 1) := by kernel_rfl
@[simp] theorem tk118 : tk Tryz.prog 118 = some (.other) := by kernel_rfl
@[simp] theorem ni118 : notInt Tryz.prog 118 = true := by kernel_rfl
@[simp] theorem sl119 : slInfo Tryz.prog 119 = none := by kernel_rfl
@[simp] theorem ag119 : agInfo Tryz.prog 119 = some (false, 1) := by kernel_rfl
@[simp] theorem tk119 : tk Tryz.prog 119 = some (.other) := by kernel_rfl
@[simp] theorem ni119 : notInt Tryz.prog 119 = true := by kernel_rfl
@[simp] theorem sl120 : slInfo Tryz.prog 120 = none := by kernel_rfl
@[simp] theorem ag120 : agInfo Tryz.prog 120 = some (false, 1) := by kernel_rfl
@[simp] theorem tk120 : tk Tryz.prog 120 = some (.other) := by kernel_rfl
@[simp] theorem ni120 : notInt Tryz.prog 120 = true := by kernel_rfl
@[simp] theorem sl121 : slInfo Tryz.prog 121 = none := by kernel_rfl
@[simp] theorem ag121 : agInfo Tryz.prog 121 = some (false, 1) := by kernel_rfl
@[simp] theorem tk121 : tk Tryz.prog 121 = some (.other) := by kernel_rfl
@[simp] theorem ni121 : notInt Tryz.prog 121 = true := by kernel_rfl
@[simp] theorem sl122 : slInfo Tryz.prog 122 = none := by kernel_rfl
@[simp] theorem ag122 : agInfo Tryz.prog 122 = some (false, 1) := by kernel_rfl
@[simp] theorem tk122 : tk Tryz.prog 122 = some (.other) := by kernel_rfl
@[simp] theorem ni122 : notInt Tryz.prog 122 = true := by kernel_rfl
@[simp] theorem sl123 : slInfo Tryz.prog 123 = none := by kernel_rfl
@[simp] theorem ag123 : agInfo Tryz.prog 123 = some (false, 1) := by kernel_rfl
@[simp] theorem tk123 : tk Tryz.prog 123 = some (.other) := by kernel_rfl
@[simp] theorem ni123 : notInt Tryz.prog 123 = true := by kernel_rfl
@[simp] theorem sl124 : slInfo Tryz.prog 124 = none := by kernel_rfl
@[simp] theorem ag124 : agInfo Tryz.prog 124 = some (false, 1) := by kernel_rfl
@[simp] theorem tk124 : tk Tryz.prog 124 = some (.other) := by kernel_rfl
@[simp] theorem ni124 : notInt Tryz.prog 124 = true := by kernel_rfl
@[simp] theorem sl125 : slInfo Tryz.prog 125 = none := by kernel_rfl
@[simp] theorem ag125 : agInfo Tryz.prog 125 = some (false, 1) := by kernel_rfl
@[simp] theorem tk125 : tk Tryz.prog 125 = some (.other) := by kernel_rfl
@[simp] theorem ni125 : notInt Tryz.prog 125 = true := by kernel_rfl
@[simp] theorem sl126 : slInfo Tryz.prog 126 = none := by kernel_rfl
@[simp] theorem ag126 : agInfo Tryz.prog 126 = some (false, 1) := by kernel_rfl
@[simp] theorem tk126 : tk Tryz.prog 126 = some (.other) := by kernel_rfl
@[simp] theorem ni126 : notInt Tryz.prog 126 = true := by kernel_rfl
@[simp] theorem sl127 : slInfo Tryz.prog 127 = none := by kernel_rfl
@[simp] theorem ag127 : agInfo Tryz.prog 127 = some (false, 1) := by kernel_rfl
@[simp] theorem tk127 : tk Tryz.prog 127 = some (.other) := by kernel_rfl
@[simp] theorem ni127 : notInt Tryz.prog 127 = true := by kernel_rfl
@[simp] theorem sl128 : slInfo Tryz.prog 128 = none := by kernel_rfl
@[simp] theorem ag128 : agInfo Tryz.prog 128 = some (true, 1) := by kernel_rfl
@[simp] theorem tk128 : tk Tryz.prog 128 = some (.other) := by kernel_rfl
@[simp] theorem ni128 : notInt Tryz.prog 128 = true := by kernel_rfl
@[simp] theorem z128 : zeroHV Tryz.prog 128 = some [.lit (.pointer none)] := by kernel_rfl
@[simp] theorem zo128 : zOneHV Tryz.prog 128 = some (.agg [.lit (.pointer none)]) := by kernel_rfl
@[simp] theorem fd128_0 : fdInfo Tryz.prog 128 0 = some (0, 1, false) := by kernel_rfl
@[simp] theorem pl128 : places Tryz.prog 128 = some [(0, 1)] := by kernel_rfl
@[simp] theorem sl129 : slInfo Tryz.prog 129 = none := by kernel_rfl
@[simp] theorem ag129 : agInfo Tryz.prog 129 = some (true, 1) := by kernel_rfl
@[simp] theorem tk129 : tk Tryz.prog 129 = some (.other) := by kernel_rfl
@[simp] theorem ni129 : notInt Tryz.prog 129 = true := by kernel_rfl
@[simp] theorem z129 : zeroHV Tryz.prog 129 = some [.lit (.pointer none)] := by kernel_rfl
@[simp] theorem zo129 : zOneHV Tryz.prog 129 = some (.agg [.lit (.pointer none)]) := by kernel_rfl
@[simp] theorem fd129_0 : fdInfo Tryz.prog 129 0 = some (0, 1, false) := by kernel_rfl
@[simp] theorem pl129 : places Tryz.prog 129 = some [(0, 1)] := by kernel_rfl
@[simp] theorem sl130 : slInfo Tryz.prog 130 = none := by kernel_rfl
@[simp] theorem ag130 : agInfo Tryz.prog 130 = some (false, 1) := by kernel_rfl
@[simp] theorem tk130 : tk Tryz.prog 130 = some (.other) := by kernel_rfl
@[simp] theorem ni130 : notInt Tryz.prog 130 = true := by kernel_rfl
@[simp] theorem zo130 : zOneHV Tryz.prog 130 = some (.lit (.pointer none)) := by kernel_rfl
@[simp] theorem sl131 : slInfo Tryz.prog 131 = none := by kernel_rfl
@[simp] theorem ag131 : agInfo Tryz.prog 131 = some (false, 1) := by kernel_rfl
@[simp] theorem tk131 : tk Tryz.prog 131 = some (.other) := by kernel_rfl
@[simp] theorem ni131 : notInt Tryz.prog 131 = true := by kernel_rfl
@[simp] theorem sl132 : slInfo Tryz.prog 132 = none := by kernel_rfl
@[simp] theorem ag132 : agInfo Tryz.prog 132 = some (false, 1) := by kernel_rfl
@[simp] theorem tk132 : tk Tryz.prog 132 = some (.int .u32) := by kernel_rfl
@[simp] theorem ni132 : notInt Tryz.prog 132 = false := by kernel_rfl
@[simp] theorem z132 : zeroHV Tryz.prog 132 = some [.lit (.int .u32 0)] := by kernel_rfl
@[simp] theorem zo132 : zOneHV Tryz.prog 132 = some (.lit (.int .u32 0)) := by kernel_rfl
@[simp] theorem sl133 : slInfo Tryz.prog 133 = none := by kernel_rfl
@[simp] theorem ag133 : agInfo Tryz.prog 133 = some (false, 1) := by kernel_rfl
@[simp] theorem tk133 : tk Tryz.prog 133 = some (.other) := by kernel_rfl
@[simp] theorem ni133 : notInt Tryz.prog 133 = true := by kernel_rfl
@[simp] theorem sl134 : slInfo Tryz.prog 134 = none := by kernel_rfl
@[simp] theorem ag134 : agInfo Tryz.prog 134 = some (false, 1) := by kernel_rfl
@[simp] theorem tk134 : tk Tryz.prog 134 = some (.int .u64) := by kernel_rfl
@[simp] theorem ni134 : notInt Tryz.prog 134 = false := by kernel_rfl
@[simp] theorem z134 : zeroHV Tryz.prog 134 = some [.lit (.int .u64 0)] := by kernel_rfl
@[simp] theorem zo134 : zOneHV Tryz.prog 134 = some (.lit (.int .u64 0)) := by kernel_rfl
@[simp] theorem sl135 : slInfo Tryz.prog 135 = none := by kernel_rfl
@[simp] theorem ag135 : agInfo Tryz.prog 135 = some (false, 1) := by kernel_rfl
@[simp] theorem tk135 : tk Tryz.prog 135 = some (.other) := by kernel_rfl
@[simp] theorem ni135 : notInt Tryz.prog 135 = true := by kernel_rfl
@[simp] theorem sl136 : slInfo Tryz.prog 136 = none := by kernel_rfl
@[simp] theorem ag136 : agInfo Tryz.prog 136 = some (false, 1) := by kernel_rfl
@[simp] theorem tk136 : tk Tryz.prog 136 = some (.int .i64) := by kernel_rfl
@[simp] theorem ni136 : notInt Tryz.prog 136 = false := by kernel_rfl
@[simp] theorem z136 : zeroHV Tryz.prog 136 = some [.lit (.int .i64 0)] := by kernel_rfl
@[simp] theorem zo136 : zOneHV Tryz.prog 136 = some (.lit (.int .i64 0)) := by kernel_rfl
@[simp] theorem sl137 : slInfo Tryz.prog 137 = none := by kernel_rfl
@[simp] theorem ag137 : agInfo Tryz.prog 137 = some (false, 1) := by kernel_rfl
@[simp] theorem tk137 : tk Tryz.prog 137 = some (.other) := by kernel_rfl
@[simp] theorem ni137 : notInt Tryz.prog 137 = true := by kernel_rfl
@[simp] theorem sl138 : slInfo Tryz.prog 138 = none := by kernel_rfl
@[simp] theorem ag138 : agInfo Tryz.prog 138 = some (false, 1) := by kernel_rfl
@[simp] theorem tk138 : tk Tryz.prog 138 = some (.other) := by kernel_rfl
@[simp] theorem ni138 : notInt Tryz.prog 138 = true := by kernel_rfl
@[simp] theorem sl139 : slInfo Tryz.prog 139 = none := by kernel_rfl
@[simp] theorem ag139 : agInfo Tryz.prog 139 = some (false, 1) := by kernel_rfl
@[simp] theorem tk139 : tk Tryz.prog 139 = some (.other) := by kernel_rfl
@[simp] theorem ni139 : notInt Tryz.prog 139 = true := by kernel_rfl
@[simp] theorem sl140 : slInfo Tryz.prog 140 = none := by kernel_rfl
@[simp] theorem ag140 : agInfo Tryz.prog 140 = some (false, 1) := by kernel_rfl
@[simp] theorem tk140 : tk Tryz.prog 140 = some (.other) := by kernel_rfl
@[simp] theorem ni140 : notInt Tryz.prog 140 = true := by kernel_rfl
@[simp] theorem sl141 : slInfo Tryz.prog 141 = none := by kernel_rfl
@[simp] theorem ag141 : agInfo Tryz.prog 141 = some (false, 1) := by kernel_rfl
@[simp] theorem tk141 : tk Tryz.prog 141 = some (.other) := by kernel_rfl
@[simp] theorem ni141 : notInt Tryz.prog 141 = true := by kernel_rfl
@[simp] theorem sl142 : slInfo Tryz.prog 142 = none := by kernel_rfl
@[simp] theorem ag142 : agInfo Tryz.prog 142 = some (false, 1) := by kernel_rfl
@[simp] theorem tk142 : tk Tryz.prog 142 = some (.other) := by kernel_rfl
@[simp] theorem ni142 : notInt Tryz.prog 142 = true := by kernel_rfl
@[simp] theorem sl143 : slInfo Tryz.prog 143 = none := by kernel_rfl
@[simp] theorem ag143 : agInfo Tryz.prog 143 = some (false, 1) := by kernel_rfl
@[simp] theorem tk143 : tk Tryz.prog 143 = some (.int .i64) := by kernel_rfl
@[simp] theorem ni143 : notInt Tryz.prog 143 = false := by kernel_rfl
@[simp] theorem z143 : zeroHV Tryz.prog 143 = some [.lit (.int .i64 0)] := by kernel_rfl
@[simp] theorem zo143 : zOneHV Tryz.prog 143 = some (.lit (.int .i64 0)) := by kernel_rfl
@[simp] theorem sl144 : slInfo Tryz.prog 144 = none := by kernel_rfl
@[simp] theorem ag144 : agInfo Tryz.prog 144 = some (false, 1) := by kernel_rfl
@[simp] theorem tk144 : tk Tryz.prog 144 = some (.other) := by kernel_rfl
@[simp] theorem ni144 : notInt Tryz.prog 144 = true := by kernel_rfl
@[simp] theorem sl145 : slInfo Tryz.prog 145 = none := by kernel_rfl
@[simp] theorem ag145 : agInfo Tryz.prog 145 = some (false, 1) := by kernel_rfl
@[simp] theorem tk145 : tk Tryz.prog 145 = some (.other) := by kernel_rfl
@[simp] theorem ni145 : notInt Tryz.prog 145 = true := by kernel_rfl
@[simp] theorem sl146 : slInfo Tryz.prog 146 = none := by kernel_rfl
@[simp] theorem ag146 : agInfo Tryz.prog 146 = some (false, 1) := by kernel_rfl
@[simp] theorem tk146 : tk Tryz.prog 146 = some (.other) := by kernel_rfl
@[simp] theorem ni146 : notInt Tryz.prog 146 = true := by kernel_rfl
@[simp] theorem sl147 : slInfo Tryz.prog 147 = none := by kernel_rfl
@[simp] theorem ag147 : agInfo Tryz.prog 147 = some (false, 1) := by kernel_rfl
@[simp] theorem tk147 : tk Tryz.prog 147 = some (.other) := by kernel_rfl
@[simp] theorem ni147 : notInt Tryz.prog 147 = true := by kernel_rfl
@[simp] theorem sl148 : slInfo Tryz.prog 148 = none := by kernel_rfl
@[simp] theorem ag148 : agInfo Tryz.prog 148 = some (false, 1) := by kernel_rfl
@[simp] theorem tk148 : tk Tryz.prog 148 = some (.other) := by kernel_rfl
@[simp] theorem ni148 : notInt Tryz.prog 148 = true := by kernel_rfl
@[simp] theorem sl149 : slInfo Tryz.prog 149 = none := by kernel_rfl
@[simp] theorem ag149 : agInfo Tryz.prog 149 = some (false, 1) := by kernel_rfl
@[simp] theorem tk149 : tk Tryz.prog 149 = some (.other) := by kernel_rfl
@[simp] theorem ni149 : notInt Tryz.prog 149 = true := by kernel_rfl
@[simp] theorem sl150 : slInfo Tryz.prog 150 = none := by kernel_rfl
@[simp] theorem ag150 : agInfo Tryz.prog 150 = some (false, 1) := by kernel_rfl
@[simp] theorem tk150 : tk Tryz.prog 150 = some (.other) := by kernel_rfl
@[simp] theorem ni150 : notInt Tryz.prog 150 = true := by kernel_rfl
@[simp] theorem sl151 : slInfo Tryz.prog 151 = none := by kernel_rfl
@[simp] theorem ag151 : agInfo Tryz.prog 151 = some (false, 1) := by kernel_rfl
@[simp] theorem tk151 : tk Tryz.prog 151 = some (.other) := by kernel_rfl
@[simp] theorem ni151 : notInt Tryz.prog 151 = true := by kernel_rfl
@[simp] theorem sl152 : slInfo Tryz.prog 152 = none := by kernel_rfl
@[simp] theorem ag152 : agInfo Tryz.prog 152 = some (false, 1) := by kernel_rfl
@[simp] theorem mp152 : mpInfo Tryz.prog 152 = some (9, 3) := by kernel_rfl
@[simp] theorem tk152 : tk Tryz.prog 152 = some (.other) := by kernel_rfl
@[simp] theorem ni152 : notInt Tryz.prog 152 = true := by kernel_rfl
@[simp] theorem z152 : zeroHV Tryz.prog 152 = some [.mp []] := by kernel_rfl
@[simp] theorem zo152 : zOneHV Tryz.prog 152 = some (.mp []) := by kernel_rfl
@[simp] theorem sl153 : slInfo Tryz.prog 153 = none := by kernel_rfl
@[simp] theorem ag153 : agInfo Tryz.prog 153 = some (false, 1) := by kernel_rfl
@[simp] theorem tk153 : tk Tryz.prog 153 = some (.other) := by kernel_rfl
@[simp] theorem ni153 : notInt Tryz.prog 153 = true := by kernel_rfl
@[simp] theorem sl154 : slInfo Tryz.prog 154 = none := by kernel_rfl
@[simp] theorem ag154 : agInfo Tryz.prog 154 = some (false, 1) := by kernel_rfl
@[simp] theorem tk154 : tk Tryz.prog 154 = some (.other) := by kernel_rfl
@[simp] theorem ni154 : notInt Tryz.prog 154 = true := by kernel_rfl
@[simp] theorem sl155 : slInfo Tryz.prog 155 = none := by kernel_rfl
@[simp] theorem ag155 : agInfo Tryz.prog 155 = some (false, 1) := by kernel_rfl
@[simp] theorem tk155 : tk Tryz.prog 155 = some (.other) := by kernel_rfl
@[simp] theorem ni155 : notInt Tryz.prog 155 = true := by kernel_rfl
@[simp] theorem sl156 : slInfo Tryz.prog 156 = none := by kernel_rfl
@[simp] theorem ag156 : agInfo Tryz.prog 156 = some (false, 1) := by kernel_rfl
@[simp] theorem tk156 : tk Tryz.prog 156 = some (.other) := by kernel_rfl
@[simp] theorem ni156 : notInt Tryz.prog 156 = true := by kernel_rfl
@[simp] theorem sl157 : slInfo Tryz.prog 157 = none := by kernel_rfl
@[simp] theorem ag157 : agInfo Tryz.prog 157 = some (false, 1) := by kernel_rfl
@[simp] theorem tk157 : tk Tryz.prog 157 = some (.int .u64) := by kernel_rfl
@[simp] theorem ni157 : notInt Tryz.prog 157 = false := by kernel_rfl
@[simp] theorem z157 : zeroHV Tryz.prog 157 = some [.lit (.int .u64 0)] := by kernel_rfl
@[simp] theorem zo157 : zOneHV Tryz.prog 157 = some (.lit (.int .u64 0)) := by kernel_rfl
@[simp] theorem sl158 : slInfo Tryz.prog 158 = none := by kernel_rfl
@[simp] theorem ag158 : agInfo Tryz.prog 158 = some (false, 1) := by kernel_rfl
@[simp] theorem tk158 : tk Tryz.prog 158 = some (.other) := by kernel_rfl
@[simp] theorem ni158 : notInt Tryz.prog 158 = true := by kernel_rfl
@[simp] theorem sl159 : slInfo Tryz.prog 159 = none := by kernel_rfl
@[simp] theorem ag159 : agInfo Tryz.prog 159 = some (false, 1) := by kernel_rfl
@[simp] theorem tk159 : tk Tryz.prog 159 = some (.other) := by kernel_rfl
@[simp] theorem ni159 : notInt Tryz.prog 159 = true := by kernel_rfl
@[simp] theorem sl160 : slInfo Tryz.prog 160 = none := by kernel_rfl
@[simp] theorem ag160 : agInfo Tryz.prog 160 = some (false, 1) := by kernel_rfl
@[simp] theorem tk160 : tk Tryz.prog 160 = some (.other) := by kernel_rfl
@[simp] theorem ni160 : notInt Tryz.prog 160 = true := by kernel_rfl
@[simp] theorem sl161 : slInfo Tryz.prog 161 = none := by kernel_rfl
@[simp] theorem ag161 : agInfo Tryz.prog 161 = some (false, 1) := by kernel_rfl
@[simp] theorem tk161 : tk Tryz.prog 161 = some (.other) := by kernel_rfl
@[simp] theorem ni161 : notInt Tryz.prog 161 = true := by kernel_rfl
@[simp] theorem zo161 : zOneHV Tryz.prog 161 = some (.lit (.pointer none)) := by kernel_rfl
@[simp] theorem sl162 : slInfo Tryz.prog 162 = none := by kernel_rfl
@[simp] theorem ag162 : agInfo Tryz.prog 162 = some (false, 1) := by kernel_rfl
@[simp] theorem tk162 : tk Tryz.prog 162 = some (.other) := by kernel_rfl
@[simp] theorem ni162 : notInt Tryz.prog 162 = true := by kernel_rfl
@[simp] theorem sl163 : slInfo Tryz.prog 163 = none := by kernel_rfl
@[simp] theorem ag163 : agInfo Tryz.prog 163 = some (false, 1) := by kernel_rfl
@[simp] theorem tk163 : tk Tryz.prog 163 = some (.int .u64) := by kernel_rfl
@[simp] theorem ni163 : notInt Tryz.prog 163 = false := by kernel_rfl
@[simp] theorem z163 : zeroHV Tryz.prog 163 = some [.lit (.int .u64 0)] := by kernel_rfl
@[simp] theorem zo163 : zOneHV Tryz.prog 163 = some (.lit (.int .u64 0)) := by kernel_rfl
@[simp] theorem sl164 : slInfo Tryz.prog 164 = none := by kernel_rfl
@[simp] theorem ag164 : agInfo Tryz.prog 164 = some (false, 1) := by kernel_rfl
@[simp] theorem tk164 : tk Tryz.prog 164 = some (.other) := by kernel_rfl
@[simp] theorem ni164 : notInt Tryz.prog 164 = true := by kernel_rfl
@[simp] theorem sl165 : slInfo Tryz.prog 165 = none := by kernel_rfl
@[simp] theorem ag165 : agInfo Tryz.prog 165 = some (false, 1) := by kernel_rfl
@[simp] theorem tk165 : tk Tryz.prog 165 = some (.other) := by kernel_rfl
@[simp] theorem ni165 : notInt Tryz.prog 165 = true := by kernel_rfl
@[simp] theorem sl166 : slInfo Tryz.prog 166 = none := by kernel_rfl
@[simp] theorem ag166 : agInfo Tryz.prog 166 = some (false, 1) := by kernel_rfl
@[simp] theorem tk166 : tk Tryz.prog 166 = some (.other) := by kernel_rfl
@[simp] theorem ni166 : notInt Tryz.prog 166 = true := by kernel_rfl
@[simp] theorem sl167 : slInfo Tryz.prog 167 = none := by kernel_rfl
@[simp] theorem ag167 : agInfo Tryz.prog 167 = some (false, 1) := by kernel_rfl
@[simp] theorem tk167 : tk Tryz.prog 167 = some (.other) := by kernel_rfl
@[simp] theorem ni167 : notInt Tryz.prog 167 = true := by kernel_rfl
@[simp] theorem sl168 : slInfo Tryz.prog 168 = none := by kernel_rfl
@[simp] theorem ag168 : agInfo Tryz.prog 168 = some (false, 1) := by kernel_rfl
@[simp] theorem tk168 : tk Tryz.prog 168 = some (.other) := by kernel_rfl
@[simp] theorem ni168 : notInt Tryz.prog 168 = true := by kernel_rfl
@[simp] theorem sl169 : slInfo Tryz.prog 169 = none := by kernel_rfl
@[simp] theorem ag169 : agInfo Tryz.prog 169 = some (false, 1) := by kernel_rfl
@[simp] theorem tk169 : tk Tryz.prog 169 = some (.other) := by kernel_rfl
@[simp] theorem ni169 : notInt Tryz.prog 169 = true := by kernel_rfl
@[simp] theorem sl170 : slInfo Tryz.prog 170 = none := by kernel_rfl
@[simp] theorem ag170 : agInfo Tryz.prog 170 = some (false, 1) := by kernel_rfl
@[simp] theorem tk170 : tk Tryz.prog 170 = some (.other) := by kernel_rfl
@[simp] theorem ni170 : notInt Tryz.prog 170 = true := by kernel_rfl
@[simp] theorem zo170 : zOneHV Tryz.prog 170 = some (.lit (.pointer none)) := by kernel_rfl
@[simp] theorem sl171 : slInfo Tryz.prog 171 = none := by kernel_rfl
@[simp] theorem ag171 : agInfo Tryz.prog 171 = some (false, 1) := by kernel_rfl
@[simp] theorem tk171 : tk Tryz.prog 171 = some (.other) := by kernel_rfl
@[simp] theorem ni171 : notInt Tryz.prog 171 = true := by kernel_rfl
@[simp] theorem sl172 : slInfo Tryz.prog 172 = none := by kernel_rfl
@[simp] theorem ag172 : agInfo Tryz.prog 172 = some (false, 1) := by kernel_rfl
@[simp] theorem tk172 : tk Tryz.prog 172 = some (.other) := by kernel_rfl
@[simp] theorem ni172 : notInt Tryz.prog 172 = true := by kernel_rfl
@[simp] theorem sl173 : slInfo Tryz.prog 173 = none := by kernel_rfl
@[simp] theorem ag173 : agInfo Tryz.prog 173 = some (false, 1) := by kernel_rfl
@[simp] theorem tk173 : tk Tryz.prog 173 = some (.other) := by kernel_rfl
@[simp] theorem ni173 : notInt Tryz.prog 173 = true := by kernel_rfl
@[simp] theorem zo173 : zOneHV Tryz.prog 173 = some (.lit (.pointer none)) := by kernel_rfl
@[simp] theorem sl174 : slInfo Tryz.prog 174 = none := by kernel_rfl
@[simp] theorem ag174 : agInfo Tryz.prog 174 = some (false, 1) := by kernel_rfl
@[simp] theorem tk174 : tk Tryz.prog 174 = some (.other) := by kernel_rfl
@[simp] theorem ni174 : notInt Tryz.prog 174 = true := by kernel_rfl
@[simp] theorem sl175 : slInfo Tryz.prog 175 = some (152, 1, 8) := by kernel_rfl
@[simp] theorem ag175 : agInfo Tryz.prog 175 = some (false, 1) := by kernel_rfl
@[simp] theorem tk175 : tk Tryz.prog 175 = some (.other) := by kernel_rfl
@[simp] theorem ni175 : notInt Tryz.prog 175 = true := by kernel_rfl
@[simp] theorem z175 : zeroHV Tryz.prog 175 = some [.sl 0 true []] := by kernel_rfl
@[simp] theorem zo175 : zOneHV Tryz.prog 175 = some (.sl 0 true []) := by kernel_rfl
@[simp] theorem sl176 : slInfo Tryz.prog 176 = none := by kernel_rfl
@[simp] theorem ag176 : agInfo Tryz.prog 176 = some (false, 1) := by kernel_rfl
@[simp] theorem tk176 : tk Tryz.prog 176 = some (.other) := by kernel_rfl
@[simp] theorem ni176 : notInt Tryz.prog 176 = true := by kernel_rfl
@[simp] theorem sl177 : slInfo Tryz.prog 177 = none := by kernel_rfl
@[simp] theorem ag177 : agInfo Tryz.prog 177 = some (false, 1) := by kernel_rfl
@[simp] theorem tk177 : tk Tryz.prog 177 = some (.other) := by kernel_rfl
@[simp] theorem ni177 : notInt Tryz.prog 177 = true := by kernel_rfl
@[simp] theorem sl178 : slInfo Tryz.prog 178 = none := by kernel_rfl
@[simp] theorem ag178 : agInfo Tryz.prog 178 = some (false, 1) := by kernel_rfl
@[simp] theorem tk178 : tk Tryz.prog 178 = some (.other) := by kernel_rfl
@[simp] theorem ni178 : notInt Tryz.prog 178 = true := by kernel_rfl
@[simp] theorem sl179 : slInfo Tryz.prog 179 = none := by kernel_rfl
@[simp] theorem ag179 : agInfo Tryz.prog 179 = some (false, 1) := by kernel_rfl
@[simp] theorem tk179 : tk Tryz.prog 179 = some (.other) := by kernel_rfl
@[simp] theorem ni179 : notInt Tryz.prog 179 = true := by kernel_rfl
@[simp] theorem sl180 : slInfo Tryz.prog 180 = none := by kernel_rfl
@[simp] theorem ag180 : agInfo Tryz.prog 180 = some (false, 1) := by kernel_rfl
@[simp] theorem tk180 : tk Tryz.prog 180 = some (.other) := by kernel_rfl
@[simp] theorem ni180 : notInt Tryz.prog 180 = true := by kernel_rfl
@[simp] theorem sl181 : slInfo Tryz.prog 181 = none := by kernel_rfl
@[simp] theorem ag181 : agInfo Tryz.prog 181 = some (false, 1) := by kernel_rfl
@[simp] theorem tk181 : tk Tryz.prog 181 = some (.other) := by kernel_rfl
@[simp] theorem ni181 : notInt Tryz.prog 181 = true := by kernel_rfl
@[simp] theorem sl182 : slInfo Tryz.prog 182 = none := by kernel_rfl
@[simp] theorem ag182 : agInfo Tryz.prog 182 = some (false, 1) := by kernel_rfl
@[simp] theorem tk182 : tk Tryz.prog 182 = some (.other) := by kernel_rfl
@[simp] theorem ni182 : notInt Tryz.prog 182 = true := by kernel_rfl
@[simp] theorem sl183 : slInfo Tryz.prog 183 = none := by kernel_rfl
@[simp] theorem ag183 : agInfo Tryz.prog 183 = some (false, 1) := by kernel_rfl
@[simp] theorem tk183 : tk Tryz.prog 183 = some (.other) := by kernel_rfl
@[simp] theorem ni183 : notInt Tryz.prog 183 = true := by kernel_rfl
@[simp] theorem sl184 : slInfo Tryz.prog 184 = none := by kernel_rfl
@[simp] theorem ar184 : arInfo Tryz.prog 184 = some (256, 5, 1) := by kernel_rfl
@[simp] theorem ag184 : agInfo Tryz.prog 184 = some (true, 256) := by kernel_rfl
@[simp] theorem tk184 : tk Tryz.prog 184 = some (.other) := by kernel_rfl
@[simp] theorem ni184 : notInt Tryz.prog 184 = true := by kernel_rfl
@[simp] theorem z184 : zeroHV Tryz.prog 184 = some [.lit (.int .u8 0), .lit (.int .u8 0), .lit (.int .u8 0), .lit (.int .u8 0), .lit (.int .u8 0), .lit (.int .u8 0), .lit (.int .u8 0), .lit (.int .u8 0), .lit (.int .u8 0), .lit (.int .u8 0), .lit (.int .u8 0), .lit (.int .u8 0), .lit (.int .u8 0), .lit (.int .u8 0), .lit (.int .u8 0), .lit (.int .u8 0), .lit (.int .u8 0), .lit (.int .u8 0), .lit (.int .u8 0), .lit (.int .u8 0), .lit (.int .u8 0), .lit (.int .u8 0), .lit (.int .u8 0), .lit (.int .u8 0), .lit (.int .u8 0), .lit (.int .u8 0), .lit (.int .u8 0), .lit (.int .u8 0), .lit (.int .u8 0), .lit (.int .u8 0), .lit (.int .u8 0), .lit (.int .u8 0), .lit (.int .u8 0), .lit (.int .u8 0), .lit (.int .u8 0), .lit (.int .u8 0), .lit (.int .u8 0), .lit (.int .u8 0), .lit (.int .u8 0), .lit (.int .u8 0), .lit (.int .u8 0), .lit (.int .u8 0), .lit (.int .u8 0), .lit (.int .u8 0), .lit (.int .u8 0), .lit (.int .u8 0), .lit (.int .u8 0), .lit (.int .u8 0), .lit (.int .u8 0), .lit (.int .u8 0), .lit (.int .u8 0), .lit (.int .u8 0), .lit (.int .u8 0), .lit (.int .u8 0), .lit (.int .u8 0), .lit (.int .u8 0), .lit (.int .u8 0), .lit (.int .u8 0), .lit (.int .u8 0), .lit (.int .u8 0), .lit (.int .u8 0), .lit (.int .u8 0), .lit (.int .u8 0), .lit (.int .u8 0), .lit (.int .u8 0), .lit (.int .u8 0), .lit (.int .u8 0), .lit (.int .u8 0), .lit (.int .u8 0), .lit (.int .u8 0), .lit (.int .u8 0), .lit (.int .u8 0), .lit (.int .u8 0), .lit (.int .u8 0), .lit (.int .u8 0), .lit (.int .u8 0), .lit (.int .u8 0), .lit (.int .u8 0), .lit (.int .u8 0), .lit (.int .u8 0), .lit (.int .u8 0), .lit (.int .u8 0), .lit (.int .u8 0), .lit (.int .u8 0), .lit (.int .u8 0), .lit (.int .u8 0), .lit (.int .u8 0), .lit (.int .u8 0), .lit (.int .u8 0), .lit (.int .u8 0), .lit (.int .u8 0), .lit (.int .u8 0), .lit (.int .u8 0), .lit (.int .u8 0), .lit (.int .u8 0), .lit (.int .u8 0), .lit (.int .u8 0), .lit (.int .u8 0), .lit (.int .u8 0), .lit (.int .u8 0), .lit (.int .u8 0), .lit (.int .u8 0), .lit (.int .u8 0), .lit (.int .u8 0), .lit (.int .u8 0), .lit (.int .u8 0), .lit (.int .u8 0), .lit (.int .u8 0), .lit (.int .u8 0), .lit (.int .u8 0), .lit (.int .u8 0), .lit (.int .u8 0), .lit (.int .u8 0), .lit (.int .u8 0), .lit (.int .u8 0), .lit (.int .u8 0), .lit (.int .u8 0), .lit (.int .u8 0), .lit (.int .u8 0), .lit (.int .u8 0), .lit (.int .u8 0), .lit (.int .u8 0), .lit (.int .u8 0), .lit (.int .u8 0), .lit (.int .u8 0), .lit (.int .u8 0), .lit (.int .u8 0), .lit (.int .u8 0), .lit (.int .u8 0), .lit (.int .u8 0), .lit (.int .u8 0), .lit (.int .u8 0), .lit (.int .u8 0), .lit (.int .u8 0), .lit (.int .u8 0), .lit (.int .u8 0), .lit (.int .u8 0), .lit (.int .u8 0), .lit (.int .u8 0), .lit (.int .u8 0), .lit (.int .u8 0), .lit (.int .u8 0), .lit (.int .u8 0), .lit (.int .u8 0), .lit (.int .u8 0), .lit (.int .u8 0), .lit (.int .u8 0), .lit (.int .u8 0), .lit (.int .u8 0), .lit (.int .u8 0), .lit (.int .u8 0), .lit (.int .u8 0), .lit (.int .u8 0), .lit (.int .u8 0), .lit (.int .u8 0), .lit (.int .u8 0), .lit (.int .u8 0), .lit (.int .u8 0), .lit (.int .u8 0), .lit (.int .u8 0), .lit (.int .u8 0), .lit (.int .u8 0), .lit (.int .u8 0), .lit (.int .u8 0), .lit (.int .u8 0), .lit (.int .u8 0), .lit (.int .u8 0), .lit (.int .u8 0), .lit (.int .u8 0), .lit (.int .u8 0), .lit (.int .u8 0), .lit (.int .u8 0), .lit (.int .u8 0), .lit (.int .u8 0), .lit (.int .u8 0), .lit (.int .u8 0), .lit (.int .u8 0), .lit (.int .u8 0), .lit (.int .u8 0), .lit (.int .u8 0), .lit (.int .u8 0), .lit (.int .u8 0), .lit (.int .u8 0), .lit (.int .u8 0), .lit (.int .u8 0), .lit (.int .u8 0), .lit (.int .u8 0), .lit (.int .u8 0), .lit (.int .u8 0), .lit (.int .u8 0), .lit (.int .u8 0), .lit (.int .u8 0), .lit (.int .u8 0), .lit (.int .u8 0), .lit (.int .u8 0), .lit (.int .u8 0), .lit (.int .u8 0), .lit (.int .u8 0), .lit (.int .u8 0), .lit (.int .u8 0), .lit (.int .u8 0), .lit (.int .u8 0), .lit (.int .u8 0), .lit (.int .u8 0), .lit (.int .u8 0), .lit (.int .u8 0), .lit (.int .u8 0), .lit (.int .u8 0), .lit (.int .u8 0), .lit (.int .u8 0), .lit (.int .u8 0), .lit (.int .u8 0), .lit (.int .u8 0), .lit (.int .u8 0), .lit (.int .u8 0), .lit (.int .u8 0), .lit (.int .u8 0), .lit (.int .u8 0), .lit (.int .u8 0), .lit (.int .u8 0), .lit (.int .u8 0), .lit (.int .u8 0), .lit (.int .u8 0), .lit (.int .u8 0), .lit (.int .u8 0), .lit (.int .u8 0), .lit (.int .u8 0), .lit (.int .u8 0), .lit (.int .u8 0), .lit (.int .u8 0), .lit (.int .u8 0), .lit (.int .u8 0), .lit (.int .u8 0), .lit (.int .u8 0), .lit (.int .u8 0), .lit (.int .u8 0), .lit (.int .u8 0), .lit (.int .u8 0), .lit (.int .u8 0), .lit (.int .u8 0), .lit (.int .u8 0), .lit (.int .u8 0), .lit (.int .u8 0), .lit (.int .u8 0), .lit (.int .u8 0), .lit (.int .u8 0), .lit (.int .u8 0), .lit (.int .u8 0), .lit (.int .u8 0), .lit (.int .u8 0), .lit (.int .u8 0), .lit (.int .u8 0), .lit (.int .u8 0), .lit (.int .u8 0), .lit (.int .u8 0), .lit (.int .u8 0)] := by kernel_rfl
@[simp] theorem zo184 : zOneHV Tryz.prog 184 = some (.agg [.lit (.int .u8 0), .lit (.int .u8 0), .lit (.int .u8 0), .lit (.int .u8 0), .lit (.int .u8 0), .lit (.int .u8 0), .lit (.int .u8 0), .lit (.int .u8 0), .lit (.int .u8 0), .lit (.int .u8 0), .lit (.int .u8 0), .lit (.int .u8 0), .lit (.int .u8 0), .lit (.int .u8 0), .lit (.int .u8 0), .lit (.int .u8 0), .lit (.int .u8 0), .lit (.int .u8 0), .lit (.int .u8 0), .lit (.int .u8 0), .lit (.int .u8 0), .lit (.int .u8 0), .lit (.int .u8 0), .lit (.int .u8 0), .lit (.int .u8 0), .lit (.int .u8 0), .lit (.int .u8 0), .lit (.int .u8 0), .lit (.int .u8 0), .lit (.int .u8 0), .lit (.int .u8 0), .lit (.int .u8 0), .lit (.int .u8 0), .lit (.int .u8 0), .lit (.int .u8 0), .lit (.int .u8 0), .lit (.int .u8 0), .lit (.int .u8 0), .lit (.int .u8 0), .lit (.int .u8 0), .lit (.int .u8 0), .lit (.int .u8 0), .lit (.int .u8 0), .lit (.int .u8 0), .lit (.int .u8 0), .lit (.int .u8 0), .lit (.int .u8 0), .lit (.int .u8 0), .lit (.int .u8 0), .lit (.int .u8 0), .lit (.int .u8 0), .lit (.int .u8 0), .lit (.int .u8 0), .lit (.int .u8 0), .lit (.int .u8 0), .lit (.int .u8 0), .lit (.int .u8 0), .lit (.int .u8 0), .lit (.int .u8 0), .lit (.int .u8 0), .lit (.int .u8 0), .lit (.int .u8 0), .lit (.int .u8 0), .lit (.int .u8 0), .lit (.int .u8 0), .lit (.int .u8 0), .lit (.int .u8 0), .lit (.int .u8 0), .lit (.int .u8 0), .lit (.int .u8 0), .lit (.int .u8 0), .lit (.int .u8 0), .lit (.int .u8 0), .lit (.int .u8 0), .lit (.int .u8 0), .lit (.int .u8 0), .lit (.int .u8 0), .lit (.int .u8 0), .lit (.int .u8 0), .lit (.int .u8 0), .lit (.int .u8 0), .lit (.int .u8 0), .lit (.int .u8 0), .lit (.int .u8 0), .lit (.int .u8 0), .lit (.int .u8 0), .lit (.int .u8 0), .lit (.int .u8 0), .lit (.int .u8 0), .lit (.int .u8 0), .lit (.int .u8 0), .lit (.int .u8 0), .lit (.int .u8 0), .lit (.int .u8 0), .lit (.int .u8 0), .lit (.int .u8 0), .lit (.int .u8 0), .lit (.int .u8 0), .lit (.int .u8 0), .lit (.int .u8 0), .lit (.int .u8 0), .lit (.int .u8 0), .lit (.int .u8 0), .lit (.int .u8 0), .lit (.int .u8 0), .lit (.int .u8 0), .lit (.int .u8 0), .lit (.int .u8 0), .lit (.int .u8 0), .lit (.int .u8 0), .lit (.int .u8 0), .lit (.int .u8 0), .lit (.int .u8 0), .lit (.int .u8 0), .lit (.int .u8 0), .lit (.int .u8 0), .lit (.int .u8 0), .lit (.int .u8 0), .lit (.int .u8 0), .lit (.int .u8 0), .lit (.int .u8 0), .lit (.int .u8 0), .lit (.int .u8 0), .lit (.int .u8 0), .lit (.int .u8 0), .lit (.int .u8 0), .lit (.int .u8 0), .lit (.int .u8 0), .lit (.int .u8 0), .lit (.int .u8 0), .lit (.int .u8 0), .lit (.int .u8 0), .lit (.int .u8 0), .lit (.int .u8 0), .lit (.int .u8 0), .lit (.int .u8 0), .lit (.int .u8 0), .lit (.int .u8 0), .lit (.int .u8 0), .lit (.int .u8 0), .lit (.int .u8 0), .lit (.int .u8 0), .lit (.int .u8 0), .lit (.int .u8 0), .lit (.int .u8 0), .lit (.int .u8 0), .lit (.int .u8 0), .lit (.int .u8 0), .lit (.int .u8 0), .lit (.int .u8 0), .lit (.int .u8 0), .lit (.int .u8 0), .lit (.int .u8 0), .lit (.int .u8 0), .lit (.int .u8 0), .lit (.int .u8 0), .lit (.int .u8 0), .lit (.int .u8 0), .lit (.int .u8 0), .lit (.int .u8 0), .lit (.int .u8 0), .lit (.int .u8 0), .lit (.int .u8 0), .lit (.int .u8 0), .lit (.int .u8 0), .lit (.int .u8 0), .lit (.int .u8 0), .lit (.int .u8 0), .lit (.int .u8 0), .lit (.int .u8 0), .lit (.int .u8 0), .lit (.int .u8 0), .lit (.int .u8 0), .lit (.int .u8 0), .lit (.int .u8 0), .lit (.int .u8 0), .lit (.int .u8 0), .lit (.int .u8 0), .lit (.int .u8 0), .lit (.int .u8 0), .lit (.int .u8 0), .lit (.int .u8 0), .lit (.int .u8 0), .lit (.int .u8 0), .lit (.int .u8 0), .lit (.int .u8 0), .lit (.int .u8 0), .lit (.int .u8 0), .lit (.int .u8 0), .lit (.int .u8 0), .lit (.int .u8 0), .lit (.int .u8 0), .lit (.int .u8 0), .lit (.int .u8 0), .lit (.int .u8 0), .lit (.int .u8 0), .lit (.int .u8 0), .lit (.int .u8 0), .lit (.int .u8 0), .lit (.int .u8 0), .lit (.int .u8 0), .lit (.int .u8 0), .lit (.int .u8 0), .lit (.int .u8 0), .lit (.int .u8 0), .lit (.int .u8 0), .lit (.int .u8 0), .lit (.int .u8 0), .lit (.int .u8 0), .lit (.int .u8 0), .lit (.int .u8 0), .lit (.int .u8 0), .lit (.int .u8 0), .lit (.int .u8 0), .lit (.int .u8 0), .lit (.int .u8 0), .lit (.int .u8 0), .lit (.int .u8 0), .lit (.int .u8 0), .lit (.int .u8 0), .lit (.int .u8 0), .lit (.int .u8 0), .lit (.int .u8 0), .lit (.int .u8 0), .lit (.int .u8 0), .lit (.int .u8 0), .lit (.int .u8 0), .lit (.int .u8 0), .lit (.int .u8 0), .lit (.int .u8 0), .lit (.int .u8 0), .lit (.int .u8 0), .lit (.int .u8 0), .lit (.int .u8 0), .lit (.int .u8 0), .lit (.int .u8 0), .lit (.int .u8 0), .lit (.int .u8 0), .lit (.int .u8 0), .lit (.int .u8 0), .lit (.int .u8 0), .lit (.int .u8 0), .lit (.int .u8 0), .lit (.int .u8 0), .lit (.int .u8 0), .lit (.int .u8 0), .lit (.int .u8 0), .lit (.int .u8 0), .lit (.int .u8 0), .lit (.int .u8 0), .lit (.int .u8 0), .lit (.int .u8 0), .lit (.int .u8 0), .lit (.int .u8 0), .lit (.int .u8 0), .lit (.int .u8 0)]) := by kernel_rfl
@[simp] theorem sl185 : slInfo Tryz.prog 185 = none := by kernel_rfl
@[simp] theorem ag185 : agInfo Tryz.prog 185 = some (true, 2) := by kernel_rfl
@[simp] theorem tk185 : tk Tryz.prog 185 = some (.other) := by kernel_rfl
@[simp] theorem ni185 : notInt Tryz.prog 185 = true := by kernel_rfl
@[simp] theorem z185 : zeroHV Tryz.prog 185 = some [.lit (.int .u8 0), .lit (.int .u8 0)] := by kernel_rfl
@[simp] theorem zo185 : zOneHV Tryz.prog 185 = some (.agg [.lit (.int .u8 0), .lit (.int .u8 0)]) := by kernel_rfl
@[simp] theorem fd185_0 : fdInfo Tryz.prog 185 0 = some (0, 1, false) := by kernel_rfl
@[simp] theorem fd185_1 : fdInfo Tryz.prog 185 1 = some (1, 1, false) := by kernel_rfl
@[simp] theorem pl185 : places Tryz.prog 185 = some [(0, 1), (1, 1)] := by kernel_rfl
@[simp] theorem sl186 : slInfo Tryz.prog 186 = none := by kernel_rfl
@[simp] theorem ag186 : agInfo Tryz.prog 186 = some (true, 2) := by kernel_rfl
@[simp] theorem tk186 : tk Tryz.prog 186 = some (.other) := by kernel_rfl
@[simp] theorem ni186 : notInt Tryz.prog 186 = true := by kernel_rfl
@[simp] theorem z186 : zeroHV Tryz.prog 186 = some [.lit (.int .u8 0), .lit (.int .u8 0)] := by kernel_rfl
@[simp] theorem zo186 : zOneHV Tryz.prog 186 = some (.agg [.lit (.int .u8 0), .lit (.int .u8 0)]) := by kernel_rfl
@[simp] theorem fd186_0 : fdInfo Tryz.prog 186 0 = some (0, 1, false) := by kernel_rfl
@[simp] theorem fd186_1 : fdInfo Tryz.prog 186 1 = some (1, 1, false) := by kernel_rfl
@[simp] theorem pl186 : places Tryz.prog 186 = some [(0, 1), (1, 1)] := by kernel_rfl
@[simp] theorem sl187 : slInfo Tryz.prog 187 = none := by kernel_rfl
@[simp] theorem ar187 : arInfo Tryz.prog 187 = some (16, 186, 2) := by kernel_rfl
@[simp] theorem ag187 : agInfo Tryz.prog 187 = some (true, 32) := by kernel_rfl
@[simp] theorem tk187 : tk Tryz.prog 187 = some (.other) := by kernel_rfl
@[simp] theorem ni187 : notInt Tryz.prog 187 = true := by kernel_rfl
@[simp] theorem z187 : zeroHV Tryz.prog 187 = some [.lit (.int .u8 0), .lit (.int .u8 0), .lit (.int .u8 0), .lit (.int .u8 0), .lit (.int .u8 0), .lit (.int .u8 0), .lit (.int .u8 0), .lit (.int .u8 0), .lit (.int .u8 0), .lit (.int .u8 0), .lit (.int .u8 0), .lit (.int .u8 0), .lit (.int .u8 0), .lit (.int .u8 0), .lit (.int .u8 0), .lit (.int .u8 0), .lit (.int .u8 0), .lit (.int .u8 0), .lit (.int .u8 0), .lit (.int .u8 0), .lit (.int .u8 0), .lit (.int .u8 0), .lit (.int .u8 0), .lit (.int .u8 0), .lit (.int .u8 0), .lit (.int .u8 0), .lit (.int .u8 0), .lit (.int .u8 0), .lit (.int .u8 0), .lit (.int .u8 0), .lit (.int .u8 0), .lit (.int .u8 0)] := by kernel_rfl
@[simp] theorem zo187 : zOneHV Tryz.prog 187 = some (.agg [.lit (.int .u8 0), .lit (.int .u8 0), .lit (.int .u8 0), .lit (.int .u8 0), .lit (.int .u8 0), .lit (.int .u8 0), .lit (.int .u8 0), .lit (.int .u8 0), .lit (.int .u8 0), .lit (.int .u8 0), .lit (.int .u8 0), .lit (.int .u8 0), .lit (.int .u8 0), .lit (.int .u8 0), .lit (.int .u8 0), .lit (.int .u8 0), .lit (.int .u8 0), .lit (.int .u8 0), .lit (.int .u8 0), .lit (.int .u8 0), .lit (.int .u8 0), .lit (.int .u8 0), .lit (.int .u8 0), .lit (.int .u8 0), .lit (.int .u8 0), .lit (.int .u8 0), .lit (.int .u8 0), .lit (.int .u8 0), .lit (.int .u8 0), .lit (.int .u8 0), .lit (.int .u8 0), .lit (.int .u8 0)]) := by kernel_rfl
@[simp] theorem sl188 : slInfo Tryz.prog 188 = none := by kernel_rfl
@[simp] theorem ag188 : agInfo Tryz.prog 188 = some (false, 1) := by kernel_rfl
@[simp] theorem tk188 : tk Tryz.prog 188 = some (.other) := by kernel_rfl
@[simp] theorem ni188 : notInt Tryz.prog 188 = true := by kernel_rfl
@[simp] theorem sl189 : slInfo Tryz.prog 189 = none := by kernel_rfl
@[simp] theorem ag189 : agInfo Tryz.prog 189 = some (true, 4) := by kernel_rfl
@[simp] theorem tk189 : tk Tryz.prog 189 = some (.other) := by kernel_rfl
@[simp] theorem ni189 : notInt Tryz.prog 189 = true := by kernel_rfl
@[simp] theorem z189 : zeroHV Tryz.prog 189 = some [.lit (.pointer none), .lit (.pointer none), .lit (.pointer none), .str []] := by kernel_rfl
@[simp] theorem zo189 : zOneHV Tryz.prog 189 = some (.agg [.lit (.pointer none), .lit (.pointer none), .lit (.pointer none), .str []]) := by kernel_rfl
@[simp] theorem fd189_0 : fdInfo Tryz.prog 189 0 = some (0, 1, false) := by kernel_rfl
@[simp] theorem fd189_1 : fdInfo Tryz.prog 189 1 = some (1, 1, false) := by kernel_rfl
@[simp] theorem fd189_2 : fdInfo Tryz.prog 189 2 = some (2, 1, false) := by kernel_rfl
@[simp] theorem fd189_3 : fdInfo Tryz.prog 189 3 = some (3, 1, false) := by kernel_rfl
@[simp] theorem pl189 : places Tryz.prog 189 = some [(0, 1), (1, 1), (2, 1), (3, 1)] := by kernel_rfl
@[simp] theorem sl190 : slInfo Tryz.prog 190 = none := by kernel_rfl
@[simp] theorem ag190 : agInfo Tryz.prog 190 = some (true, 4) := by kernel_rfl
@[simp] theorem tk190 : tk Tryz.prog 190 = some (.other) := by kernel_rfl
@[simp] theorem ni190 : notInt Tryz.prog 190 = true := by kernel_rfl
@[simp] theorem z190 : zeroHV Tryz.prog 190 = some [.lit (.pointer none), .lit (.pointer none), .lit (.pointer none), .str []] := by kernel_rfl
@[simp] theorem zo190 : zOneHV Tryz.prog 190 = some (.agg [.lit (.pointer none), .lit (.pointer none), .lit (.pointer none), .str []]) := by kernel_rfl
@[simp] theorem fd190_0 : fdInfo Tryz.prog 190 0 = some (0, 1, false) := by kernel_rfl
@[simp] theorem fd190_1 : fdInfo Tryz.prog 190 1 = some (1, 1, false) := by kernel_rfl
@[simp] theorem fd190_2 : fdInfo Tryz.prog 190 2 = some (2, 1, false) := by kernel_rfl
@[simp] theorem fd190_3 : fdInfo Tryz.prog 190 3 = some (3, 1, false) := by kernel_rfl
@[simp] theorem pl190 : places Tryz.prog 190 = some [(0, 1), (1, 1), (2, 1), (3, 1)] := by kernel_rfl
@[simp] theorem sl191 : slInfo Tryz.prog 191 = none := by kernel_rfl
@[simp] theorem ag191 : agInfo Tryz.prog 191 = some (true, 0) := by kernel_rfl
@[simp] theorem tk191 : tk Tryz.prog 191 = some (.other) := by kernel_rfl
@[simp] theorem ni191 : notInt Tryz.prog 191 = true := by kernel_rfl
@[simp] theorem z191 : zeroHV Tryz.prog 191 = some [] := by kernel_rfl
@[simp] theorem zo191 : zOneHV Tryz.prog 191 = some (.agg []) := by kernel_rfl
@[simp] theorem sl192 : slInfo Tryz.prog 192 = none := by kernel_rfl
@[simp] theorem ag192 : agInfo Tryz.prog 192 = some (true, 0) := by kernel_rfl
@[simp] theorem tk192 : tk Tryz.prog 192 = some (.other) := by kernel_rfl
@[simp] theorem ni192 : notInt Tryz.prog 192 = true := by kernel_rfl
@[simp] theorem z192 : zeroHV Tryz.prog 192 = some [] := by kernel_rfl
@[simp] theorem zo192 : zOneHV Tryz.prog 192 = some (.agg []) := by kernel_rfl
@[simp] theorem sl193 : slInfo Tryz.prog 193 = none := by kernel_rfl
@[simp] theorem ag193 : agInfo Tryz.prog 193 = some (true, 0) := by kernel_rfl
@[simp] theorem tk193 : tk Tryz.prog 193 = some (.other) := by kernel_rfl
@[simp] theorem ni193 : notInt Tryz.prog 193 = true := by kernel_rfl
@[simp] theorem z193 : zeroHV Tryz.prog 193 = some [] := by kernel_rfl
@[simp] theorem zo193 : zOneHV Tryz.prog 193 = some (.agg []) := by kernel_rfl
@[simp] theorem sl194 : slInfo Tryz.prog 194 = none := by kernel_rfl
@[simp] theorem ag194 : agInfo Tryz.prog 194 = some (false, 1) := by kernel_rfl
@[simp] theorem tk194 : tk Tryz.prog 194 = some (.int .u8) := by kernel_rfl
@[simp] theorem ni194 : notInt Tryz.prog 194 = false := by kernel_rfl
@[simp] theorem z194 : zeroHV Tryz.prog 194 = some [.lit (.int .u8 0)] := by kernel_rfl
@[simp] theorem zo194 : zOneHV Tryz.prog 194 = some (.lit (.int .u8 0)) := by kernel_rfl
@[simp] theorem sl195 : slInfo Tryz.prog 195 = none := by kernel_rfl
@[simp] theorem ag195 : agInfo Tryz.prog 195 = some (false, 1) := by kernel_rfl
@[simp] theorem tk195 : tk Tryz.prog 195 = some (.int .u8) := by kernel_rfl
@[simp] theorem ni195 : notInt Tryz.prog 195 = false := by kernel_rfl
@[simp] theorem z195 : zeroHV Tryz.prog 195 = some [.lit (.int .u8 0)] := by kernel_rfl
@[simp] theorem zo195 : zOneHV Tryz.prog 195 = some (.lit (.int .u8 0)) := by kernel_rfl
@[simp] theorem sl196 : slInfo Tryz.prog 196 = none := by kernel_rfl
@[simp] theorem ag196 : agInfo Tryz.prog 196 = some (false, 1) := by kernel_rfl
@[simp] theorem tk196 : tk Tryz.prog 196 = some (.other) := by kernel_rfl
@[simp] theorem ni196 : notInt Tryz.prog 196 = true := by kernel_rfl
@[simp] theorem sl197 : slInfo Tryz.prog 197 = none := by kernel_rfl
@[simp] theorem ag197 : agInfo Tryz.prog 197 = some (false, 1) := by kernel_rfl
@[simp] theorem tk197 : tk Tryz.prog 197 = some (.other) := by kernel_rfl
@[simp] theorem ni197 : notInt Tryz.prog 197 = true := by kernel_rfl
@[simp] theorem zo197 : zOneHV Tryz.prog 197 = some (.lit (.pointer none)) := by kernel_rfl
@[simp] theorem sl198 : slInfo Tryz.prog 198 = none := by kernel_rfl
@[simp] theorem ag198 : agInfo Tryz.prog 198 = some (false, 1) := by kernel_rfl
@[simp] theorem tk198 : tk Tryz.prog 198 = some (.int .i32) := by kernel_rfl
@[simp] theorem ni198 : notInt Tryz.prog 198 = false := by kernel_rfl
@[simp] theorem z198 : zeroHV Tryz.prog 198 = some [.lit (.int .i32 0)] := by kernel_rfl
@[simp] theorem zo198 : zOneHV Tryz.prog 198 = some (.lit (.int .i32 0)) := by kernel_rfl
@[simp] theorem sl199 : slInfo Tryz.prog 199 = none := by kernel_rfl
@[simp] theorem ag199 : agInfo Tryz.prog 199 = some (false, 1) := by kernel_rfl
@[simp] theorem tk199 : tk Tryz.prog 199 = some (.int .i32) := by kernel_rfl
@[simp] theorem ni199 : notInt Tryz.prog 199 = false := by kernel_rfl
@[simp] theorem z199 : zeroHV Tryz.prog 199 = some [.lit (.int .i32 0)] := by kernel_rfl
@[simp] theorem zo199 : zOneHV Tryz.prog 199 = some (.lit (.int .i32 0)) := by kernel_rfl
@[simp] theorem sl200 : slInfo Tryz.prog 200 = none := by kernel_rfl
@[simp] theorem ag200 : agInfo Tryz.prog 200 = some (true, 11) := by kernel_rfl
@[simp] theorem tk200 : tk Tryz.prog 200 = some (.other) := by kernel_rfl
@[simp] theorem ni200 : notInt Tryz.prog 200 = true := by kernel_rfl
@[simp] theorem z200 : zeroHV Tryz.prog 200 = some [.lit (.int .u64 0), .lit (.int .u64 0), .lit (.int .u32 0), .lit (.int .u8 0), .lit (.int .u8 0), .lit (.int .u8 0), .lit (.int .u8 0), .lit .nilFunc, .lit (.pointer none), .lit (.int .i32 0), .lit (.int .i32 0)] := by kernel_rfl
@[simp] theorem zo200 : zOneHV Tryz.prog 200 = some (.agg [.lit (.int .u64 0), .lit (.int .u64 0), .lit (.int .u32 0), .lit (.int .u8 0), .lit (.int .u8 0), .lit (.int .u8 0), .lit (.int .u8 0), .lit .nilFunc, .lit (.pointer none), .lit (.int .i32 0), .lit (.int .i32 0)]) := by kernel_rfl
@[simp] theorem fd200_0 : fdInfo Tryz.prog 200 0 = some (0, 1, false) := by kernel_rfl
@[simp] theorem fd200_1 : fdInfo Tryz.prog 200 1 = some (1, 1, false) := by kernel_rfl
@[simp] theorem fd200_2 : fdInfo Tryz.prog 200 2 = some (2, 1, false) := by kernel_rfl
@[simp] theorem fd200_3 : fdInfo Tryz.prog 200 3 = some (3, 1, false) := by kernel_rfl
@[simp] theorem fd200_4 : fdInfo Tryz.prog 200 4 = some (4, 1, false) := by kernel_rfl
@[simp] theorem fd200_5 : fdInfo Tryz.prog 200 5 = some (5, 1, false) := by kernel_rfl
@[simp] theorem fd200_6 : fdInfo Tryz.prog 200 6 = some (6, 1, false) := by kernel_rfl
@[simp] theorem fd200_7 : fdInfo Tryz.prog 200 7 = some (7, 1, false) := by kernel_rfl
@[simp] theorem fd200_8 : fdInfo Tryz.prog 200 8 = some (8, 1, false) := by kernel_rfl
@[simp] theorem fd200_9 : fdInfo Tryz.prog 200 9 = some (9, 1, false) := by kernel_rfl
@[simp] theorem fd200_10 : fdInfo Tryz.prog 200 10 = some (10, 1, false) := by kernel_rfl
@[simp] theorem pl200 : places Tryz.prog 200 = some [(0, 1), (1, 1), (2, 1), (3, 1), (4, 1), (5, 1), (6, 1), (7, 1), (8, 1), (9, 1), (10, 1)] := by kernel_rfl
@[simp] theorem sl201 : slInfo Tryz.prog 201 = none := by kernel_rfl
@[simp] theorem ag201 : agInfo Tryz.prog 201 = some (true, 11) := by kernel_rfl
@[simp] theorem tk201 : tk Tryz.prog 201 = some (.other) := by kernel_rfl
@[simp] theorem ni201 : notInt Tryz.prog 201 = true := by kernel_rfl
@[simp] theorem z201 : zeroHV Tryz.prog 201 = some [.lit (.int .u64 0), .lit (.int .u64 0), .lit (.int .u32 0), .lit (.int .u8 0), .lit (.int .u8 0), .lit (.int .u8 0), .lit (.int .u8 0), .lit .nilFunc, .lit (.pointer none), .lit (.int .i32 0), .lit (.int .i32 0)] := by kernel_rfl
@[simp] theorem zo201 : zOneHV Tryz.prog 201 = some (.agg [.lit (.int .u64 0), .lit (.int .u64 0), .lit (.int .u32 0), .lit (.int .u8 0), .lit (.int .u8 0), .lit (.int .u8 0), .lit (.int .u8 0), .lit .nilFunc, .lit (.pointer none), .lit (.int .i32 0), .lit (.int .i32 0)]) := by kernel_rfl
@[simp] theorem fd201_0 : fdInfo Tryz.prog 201 0 = some (0, 1, false) := by kernel_rfl
@[simp] theorem fd201_1 : fdInfo Tryz.prog 201 1 = some (1, 1, false) := by kernel_rfl
@[simp] theorem fd201_2 : fdInfo Tryz.prog 201 2 = some (2, 1, false) := by kernel_rfl
@[simp] theorem fd201_3 : fdInfo Tryz.prog 201 3 = some (3, 1, false) := by kernel_rfl
@[simp] theorem fd201_4 : fdInfo Tryz.prog 201 4 = some (4, 1, false) := by kernel_rfl
@[simp] theorem fd201_5 : fdInfo Tryz.prog 201 5 = some (5, 1, false) := by kernel_rfl
@[simp] theorem fd201_6 : fdInfo Tryz.prog 201 6 = some (6, 1, false) := by kernel_rfl
@[simp] theorem fd201_7 : fdInfo Tryz.prog 201 7 = some (7, 1, false) := by kernel_rfl
@[simp] theorem fd201_8 : fdInfo Tryz.prog 201 8 = some (8, 1, false) := by kernel_rfl
@[simp] theorem fd201_9 : fdInfo Tryz.prog 201 9 = some (9, 1, false) := by kernel_rfl
@[simp] theorem fd201_10 : fdInfo Tryz.prog 201 10 = some (10, 1, false) := by kernel_rfl
@[simp] theorem pl201 : places Tryz.prog 201 = some [(0, 1), (1, 1), (2, 1), (3, 1), (4, 1), (5, 1), (6, 1), (7, 1), (8, 1), (9, 1), (10, 1)] := by kernel_rfl
@[simp] theorem sl202 : slInfo Tryz.prog 202 = none := by kernel_rfl
@[simp] theorem ag202 : agInfo Tryz.prog 202 = some (true, 2) := by kernel_rfl
@[simp] theorem tk202 : tk Tryz.prog 202 = some (.other) := by kernel_rfl
@[simp] theorem ni202 : notInt Tryz.prog 202 = true := by kernel_rfl
@[simp] theorem z202 : zeroHV Tryz.prog 202 = some [.str [], .lit (.int .u8 0)] := by kernel_rfl
@[simp] theorem zo202 : zOneHV Tryz.prog 202 = some (.agg [.str [], .lit (.int .u8 0)]) := by kernel_rfl
@[simp] theorem fd202_0 : fdInfo Tryz.prog 202 0 = some (0, 1, false) := by kernel_rfl
@[simp] theorem fd202_1 : fdInfo Tryz.prog 202 1 = some (1, 1, false) := by kernel_rfl
@[simp] theorem pl202 : places Tryz.prog 202 = some [(0, 1), (1, 1)] := by kernel_rfl
@[simp] theorem sl203 : slInfo Tryz.prog 203 = none := by kernel_rfl
@[simp] theorem ag203 : agInfo Tryz.prog 203 = some (true, 2) := by kernel_rfl
@[simp] theorem tk203 : tk Tryz.prog 203 = some (.other) := by kernel_rfl
@[simp] theorem ni203 : notInt Tryz.prog 203 = true := by kernel_rfl
@[simp] theorem z203 : zeroHV Tryz.prog 203 = some [.str [], .lit (.int .u8 0)] := by kernel_rfl
@[simp] theorem zo203 : zOneHV Tryz.prog 203 = some (.agg [.str [], .lit (.int .u8 0)]) := by kernel_rfl
@[simp] theorem fd203_0 : fdInfo Tryz.prog 203 0 = some (0, 1, false) := by kernel_rfl
@[simp] theorem fd203_1 : fdInfo Tryz.prog 203 1 = some (1, 1, false) := by kernel_rfl
@[simp] theorem pl203 : places Tryz.prog 203 = some [(0, 1), (1, 1)] := by kernel_rfl
@[simp] theorem hb2 : hasBody Tryz.prog 2 = true := by kernel_rfl
@[simp] theorem hb3 : hasBody Tryz.prog 3 = true := by kernel_rfl
@[simp] theorem hb4 : hasBody Tryz.prog 4 = true := by kernel_rfl
@[simp] theorem hb5 : hasBody Tryz.prog 5 = true := by kernel_rfl
@[simp] theorem hb6 : hasBody Tryz.prog 6 = true := by kernel_rfl
@[simp] theorem hb7 : hasBody Tryz.prog 7 = true := by kernel_rfl
@[simp] theorem hb8 : hasBody Tryz.prog 8 = true := by kernel_rfl
@[simp] theorem hb9 : hasBody Tryz.prog 9 = true := by kernel_rfl
@[simp] theorem hb10 : hasBody Tryz.prog 10 = true := by kernel_rfl
@[simp] theorem hb11 : hasBody Tryz.prog 11 = true := by kernel_rfl
@[simp] theorem hb12 : hasBody Tryz.prog 12 = true := by kernel_rfl
@[simp] theorem hb13 : hasBody Tryz.prog 13 = true := by kernel_rfl
@[simp] theorem hb14 : hasBody Tryz.prog 14 = true := by kernel_rfl
@[simp] theorem hb15 : hasBody Tryz.prog 15 = true := by kernel_rfl
@[simp] theorem hb16 : hasBody Tryz.prog 16 = true := by kernel_rfl
@[simp] theorem hb17 : hasBody Tryz.prog 17 = true := by kernel_rfl
@[simp] theorem hb18 : hasBody Tryz.prog 18 = true := by kernel_rfl
@[simp] theorem hb19 : hasBody Tryz.prog 19 = true := by kernel_rfl
@[simp] theorem hb20 : hasBody Tryz.prog 20 = true := by kernel_rfl
@[simp] theorem hb21 : hasBody Tryz.prog 21 = true := by kernel_rfl
@[simp] theorem hb22 : hasBody Tryz.prog 22 = true := by kernel_rfl
@[simp] theorem hb23 : hasBody Tryz.prog 23 = true := by kernel_rfl
@[simp] theorem hb24 : hasBody Tryz.prog 24 = true := by kernel_rfl
@[simp] theorem hb25 : hasBody Tryz.prog 25 = true := by kernel_rfl
@[simp] theorem hb26 : hasBody Tryz.prog 26 = true := by kernel_rfl
@[simp] theorem hb27 : hasBody Tryz.prog 27 = true := by kernel_rfl
@[simp] theorem hb28 : hasBody Tryz.prog 28 = true := by kernel_rfl
@[simp] theorem hb29 : hasBody Tryz.prog 29 = true := by kernel_rfl
@[simp] theorem hb30 : hasBody Tryz.prog 30 = true := by kernel_rfl
@[simp] theorem hb31 : hasBody Tryz.prog 31 = true := by kernel_rfl
@[simp] theorem hb32 : hasBody Tryz.prog 32 = true := by kernel_rfl
@[simp] theorem hb33 : hasBody Tryz.prog 33 = true := by kernel_rfl
@[simp] theorem hb34 : hasBody Tryz.prog 34 = true := by kernel_rfl
@[simp] theorem hb35 : hasBody Tryz.prog 35 = true := by kernel_rfl
@[simp] theorem hb36 : hasBody Tryz.prog 36 = true := by kernel_rfl
@[simp] theorem hb37 : hasBody Tryz.prog 37 = true := by kernel_rfl
@[simp] theorem hb38 : hasBody Tryz.prog 38 = true := by kernel_rfl
@[simp] theorem hb39 : hasBody Tryz.prog 39 = true := by kernel_rfl
@[simp] theorem hb40 : hasBody Tryz.prog 40 = true := by kernel_rfl
@[simp] theorem hb41 : hasBody Tryz.prog 41 = true := by kernel_rfl
@[simp] theorem hb42 : hasBody Tryz.prog 42 = true := by kernel_rfl
@[simp] theorem hb43 : hasBody Tryz.prog 43 = true := by kernel_rfl
@[simp] theorem hb44 : hasBody Tryz.prog 44 = true := by kernel_rfl
@[simp] theorem hb45 : hasBody Tryz.prog 45 = true := by kernel_rfl
@[simp] theorem hb46 : hasBody Tryz.prog 46 = true := by kernel_rfl
@[simp] theorem hb47 : hasBody Tryz.prog 47 = true := by kernel_rfl
@[simp] theorem hb48 : hasBody Tryz.prog 48 = true := by kernel_rfl
@[simp] theorem hb49 : hasBody Tryz.prog 49 = true := by kernel_rfl
@[simp] theorem hb50 : hasBody Tryz.prog 50 = true := by kernel_rfl
@[simp] theorem hb51 : hasBody Tryz.prog 51 = true := by kernel_rfl
@[simp] theorem hb52 : hasBody Tryz.prog 52 = true := by kernel_rfl
@[simp] theorem hb53 : hasBody Tryz.prog 53 = true := by kernel_rfl
@[simp] theorem hb54 : hasBody Tryz.prog 54 = true := by kernel_rfl
@[simp] theorem hb55 : hasBody Tryz.prog 55 = true := by kernel_rfl
@[simp] theorem hb56 : hasBody Tryz.prog 56 = true := by kernel_rfl
@[simp] theorem hb57 : hasBody Tryz.prog 57 = true := by kernel_rfl
@[simp] theorem hb58 : hasBody Tryz.prog 58 = true := by kernel_rfl
@[simp] theorem hb59 : hasBody Tryz.prog 59 = true := by kernel_rfl
@[simp] theorem hb60 : hasBody Tryz.prog 60 = true := by kernel_rfl
@[simp] theorem hb61 : hasBody Tryz.prog 61 = true := by kernel_rfl
@[simp] theorem hb62 : hasBody Tryz.prog 62 = true := by kernel_rfl
@[simp] theorem hb63 : hasBody Tryz.prog 63 = true := by kernel_rfl
@[simp] theorem hb64 : hasBody Tryz.prog 64 = true := by kernel_rfl
@[simp] theorem hb65 : hasBody Tryz.prog 65 = true := by kernel_rfl
@[simp] theorem hb66 : hasBody Tryz.prog 66 = true := by kernel_rfl
@[simp] theorem hb67 : hasBody Tryz.prog 67 = true := by kernel_rfl
@[simp] theorem hb68 : hasBody Tryz.prog 68 = true := by kernel_rfl
@[simp] theorem hb72 : hasBody Tryz.prog 72 = true := by kernel_rfl
@[simp] theorem hb73 : hasBody Tryz.prog 73 = true := by kernel_rfl
@[simp] theorem hb74 : hasBody Tryz.prog 74 = true := by kernel_rfl
@[simp] theorem hb75 : hasBody Tryz.prog 75 = true := by kernel_rfl
@[simp] theorem hb76 : hasBody Tryz.prog 76 = true := by kernel_rfl
@[simp] theorem hb77 : hasBody Tryz.prog 77 = true := by kernel_rfl
@[simp] theorem hb78 : hasBody Tryz.prog 78 = true := by kernel_rfl
@[simp] theorem hb79 : hasBody Tryz.prog 79 = true := by kernel_rfl
@[simp] theorem hb80 : hasBody Tryz.prog 80 = true := by kernel_rfl
@[simp] theorem hb81 : hasBody Tryz.prog 81 = true := by kernel_rfl
@[simp] theorem hb82 : hasBody Tryz.prog 82 = true := by kernel_rfl
@[simp] theorem hb83 : hasBody Tryz.prog 83 = true := by kernel_rfl
@[simp] theorem hb84 : hasBody Tryz.prog 84 = true := by kernel_rfl
@[simp] theorem hb85 : hasBody Tryz.prog 85 = true := by kernel_rfl
@[simp] theorem hb86 : hasBody Tryz.prog 86 = true := by kernel_rfl
@[simp] theorem hb87 : hasBody Tryz.prog 87 = true := by kernel_rfl
@[simp] theorem hb97 : hasBody Tryz.prog 97 = true := by kernel_rfl
@[simp] theorem hb98 : hasBody Tryz.prog 98 = true := by kernel_rfl
@[simp] theorem hb99 : hasBody Tryz.prog 99 = true := by kernel_rfl
@[simp] theorem hb100 : hasBody Tryz.prog 100 = true := by kernel_rfl
@[simp] theorem hb101 : hasBody Tryz.prog 101 = true := by kernel_rfl
@[simp] theorem hb102 : hasBody Tryz.prog 102 = true := by kernel_rfl
@[simp] theorem hb103 : hasBody Tryz.prog 103 = true := by kernel_rfl
@[simp] theorem hb104 : hasBody Tryz.prog 104 = true := by kernel_rfl
@[simp] theorem hb105 : hasBody Tryz.prog 105 = true := by kernel_rfl
@[simp] theorem hb106 : hasBody Tryz.prog 106 = true := by kernel_rfl
@[simp] theorem hb107 : hasBody Tryz.prog 107 = true := by kernel_rfl
@[simp] theorem hb108 : hasBody Tryz.prog 108 = true := by kernel_rfl
@[simp] theorem hb109 : hasBody Tryz.prog 109 = true := by kernel_rfl
@[simp] theorem hb110 : hasBody Tryz.prog 110 = true := by kernel_rfl
@[simp] theorem hb111 : hasBody Tryz.prog 111 = true := by kernel_rfl
@[simp] theorem hb112 : hasBody Tryz.prog 112 = true := by kernel_rfl
@[simp] theorem hb113 : hasBody Tryz.prog 113 = true := by kernel_rfl
@[simp] theorem hb114 : hasBody Tryz.prog 114 = true := by kernel_rfl
@[simp] theorem hb115 : hasBody Tryz.prog 115 = true := by kernel_rfl
@[simp] theorem hb116 : hasBody Tryz.prog 116 = true := by kernel_rfl
@[simp] theorem hb117 : hasBody Tryz.prog 117 = true := by kernel_rfl
@[simp] theorem hb118 : hasBody Tryz.prog 118 = true := by kernel_rfl
@[simp] theorem hb119 : hasBody Tryz.prog 119 = true := by kernel_rfl
@[simp] theorem hb120 : hasBody Tryz.prog 120 = true := by kernel_rfl
@[simp] theorem hb121 : hasBody Tryz.prog 121 = true := by kernel_rfl
@[simp] theorem hb122 : hasBody Tryz.prog 122 = true := by kernel_rfl
@[simp] theorem hb123 : hasBody Tryz.prog 123 = true := by kernel_rfl
@[simp] theorem hb124 : hasBody Tryz.prog 124 = true := by kernel_rfl
@[simp] theorem hb125 : hasBody Tryz.prog 125 = true := by kernel_rfl
@[simp] theorem hb126 : hasBody Tryz.prog 126 = true := by kernel_rfl
@[simp] theorem hb127 : hasBody Tryz.prog 127 = true := by kernel_rfl
@[simp] theorem hb128 : hasBody Tryz.prog 128 = true := by kernel_rfl
@[simp] theorem hb129 : hasBody Tryz.prog 129 = true := by kernel_rfl
@[simp] theorem hb130 : hasBody Tryz.prog 130 = true := by kernel_rfl
@[simp] theorem hb131 : hasBody Tryz.prog 131 = true := by kernel_rfl
@[simp] theorem hb132 : hasBody Tryz.prog 132 = true := by kernel_rfl
@[simp] theorem hb133 : hasBody Tryz.prog 133 = true := by kernel_rfl
@[simp] theorem hb134 : hasBody Tryz.prog 134 = true := by kernel_rfl
@[simp] theorem hb135 : hasBody Tryz.prog 135 = true := by kernel_rfl
@[simp] theorem hb136 : hasBody Tryz.prog 136 = true := by kernel_rfl
@[simp] theorem hb137 : hasBody Tryz.prog 137 = true := by kernel_rfl
@[simp] theorem hb138 : hasBody Tryz.prog 138 = true := by kernel_rfl
@[simp] theorem hb139 : hasBody Tryz.prog 139 = true := by kernel_rfl
@[simp] theorem hb140 : hasBody Tryz.prog 140 = true := by kernel_rfl
@[simp] theorem hb141 : hasBody Tryz.prog 141 = true := by kernel_rfl
@[simp] theorem hb142 : hasBody Tryz.prog 142 = true := by kernel_rfl
@[simp] theorem hb143 : hasBody Tryz.prog 143 = true := by kernel_rfl
@[simp] theorem hb144 : hasBody Tryz.prog 144 = true := by kernel_rfl
@[simp] theorem hb145 : hasBody Tryz.prog 145 = true := by kernel_rfl
@[simp] theorem hb146 : hasBody Tryz.prog 146 = true := by kernel_rfl
@[simp] theorem hb147 : hasBody Tryz.prog 147 = true := by kernel_rfl
@[simp] theorem hb148 : hasBody Tryz.prog 148 = true := by kernel_rfl
@[simp] theorem hb149 : hasBody Tryz.prog 149 = true := by kernel_rfl
@[simp] theorem hb150 : hasBody Tryz.prog 150 = true := by kernel_rfl
@[simp] theorem hb151 : hasBody Tryz.prog 151 = true := by kernel_rfl
@[simp] theorem hb152 : hasBody Tryz.prog 152 = true := by kernel_rfl
@[simp] theorem hb154 : hasBody Tryz.prog 154 = true := by kernel_rfl
@[simp] theorem hb155 : hasBody Tryz.prog 155 = true := by kernel_rfl
@[simp] theorem hb156 : hasBody Tryz.prog 156 = true := by kernel_rfl
@[simp] theorem hb157 : hasBody Tryz.prog 157 = true := by kernel_rfl
@[simp] theorem hb159 : hasBody Tryz.prog 159 = true := by kernel_rfl
@[simp] theorem hb160 : hasBody Tryz.prog 160 = true := by kernel_rfl
@[simp] theorem hb162 : hasBody Tryz.prog 162 = true := by kernel_rfl
@[simp] theorem hb163 : hasBody Tryz.prog 163 = true := by kernel_rfl
@[simp] theorem hb188 : hasBody Tryz.prog 188 = true := by kernel_rfl
end Go.Proofs.YtcmomegkhoggpaaGreatDoor.Ty
set_option linter.unusedVariables false
set_option linter.unusedSectionVars false
set_option linter.unusedSimpArgs false
/- Lists of numbers, of strings, of trigrams with their offsets, as rows. -/
namespace Go.Hv
open Go Go.RowKit
variable [GI]
def intsHV (l : List Int) : List (List HV) := l.map fun x => [i64 x]
@[simp] theorem intsHV_length (l : List Int) : (intsHV l).length = l.length := by simp [intsHV]
@[simp] theorem intsHV_getElem (l : List Int) (k : Nat) (h : k < (intsHV l).length) : (intsHV l)[k] = (fun x => [i64 x]) (l[k]'(by simpa using h)) := by simp [intsHV]
@[simp] theorem intsHV_snoc (l : List Int) (x : Int) : intsHV l ++ [[i64 x]] = intsHV (l ++ [x]) := by simp [intsHV]
@[simp] theorem intsHV_nil : intsHV [] = [] := rfl
@[simp] theorem isILL_intsHV (l : List Int) : isILL (intsHV l) = true := by
 unfold intsHV
 rw [isILL_iff]
 intro x hx
 obtain ⟨a, _, rfl⟩ := List.mem_map.1 hx
 simp [isIL, isI]
def strsHV (l : List (List UInt8)) : List (List HV) := l.map fun x => [.str x]
@[simp] theorem strsHV_length (l : List (List UInt8)) : (strsHV l).length = l.length := by simp [strsHV]
@[simp] theorem strsHV_getElem (l : List (List UInt8)) (k : Nat) (h : k < (strsHV l).length) : (strsHV l)[k] = (fun x => [.str x]) (l[k]'(by simpa using h)) := by simp [strsHV]
@[simp] theorem strsHV_snoc (l : List (List UInt8)) (x : (List UInt8)) : strsHV l ++ [[.str x]] = strsHV (l ++ [x]) := by simp [strsHV]
@[simp] theorem strsHV_nil : strsHV [] = [] := rfl
@[simp] theorem isILL_strsHV (l : List (List UInt8)) : isILL (strsHV l) = true := by
 unfold strsHV
 rw [isILL_iff]
 intro x hx
 obtain ⟨a, _, rfl⟩ := List.mem_map.1 hx
 simp [isIL, isI]
theorem strsHV_mem {l : List (List UInt8)} {x : List HV} (h : x ∈ strsHV l) : ∃ a ∈ l, x = (fun x => [.str x]) a := by
 obtain ⟨a, ha, rfl⟩ := List.mem_map.1 h
 exact ⟨a, ha, rfl⟩
@[simp] theorem bytesHV_snoc (l : List UInt8) (x : UInt8) : bytesHV l ++ [[u8 x]] = bytesHV (l ++ [x]) := by simp [bytesHV]
@[simp] theorem tn2 (i : Nat) : ((i : Int) + 2).toNat = i + 2 := by omega
@[simp] theorem tn3 (i : Nat) : ((i : Int) + 3).toNat = i + 3 := by omega
@[simp] theorem tnAdd (i j : Nat) : ((i : Int) + (j : Int)).toNat = i + j := by omega
@[simp] theorem wrap_i64_u8 (c : UInt8) : IntKind.wrap .i64 (c.toNat : Int) = c.toNat := by
 have := c.toNat_lt
 exact wrap_i64 (by omega) (by omega)
@[simp] theorem min16 : min 16 (IntKind.bits .i64) = 16 := rfl
@[simp] theorem min8 : min 8 (IntKind.bits .i64) = 8 := rfl
structure Gram where
 code : Int
 off : List Int
 deriving DecidableEq
@[simp] def Gram.enc (g : Gram) : List HV := [i64 g.code, .sl 1 false (intsHV g.off)]
def gramsHV (l : List Gram) : List (List HV) := l.map fun x => x.enc
@[simp] theorem gramsHV_length (l : List Gram) : (gramsHV l).length = l.length := by simp [gramsHV]
@[simp] theorem gramsHV_getElem (l : List Gram) (k : Nat) (h : k < (gramsHV l).length) : (gramsHV l)[k] = (fun x => x.enc) (l[k]'(by simpa using h)) := by simp [gramsHV]
@[simp] theorem gramsHV_snoc (l : List Gram) (c : Int) (o : List Int) : gramsHV l ++ [[i64 c, .sl 1 false (intsHV o)]] = gramsHV (l ++ [⟨c, o⟩]) := by simp [gramsHV]
@[simp] theorem gramsHV_nil : gramsHV [] = [] := rfl
@[simp] theorem isILL_gramsHV (l : List Gram) : isILL (gramsHV l) = true := by
 unfold gramsHV
 rw [isILL_iff]
 intro x hx
 obtain ⟨a, _, rfl⟩ := List.mem_map.1 hx
 simp [isIL, isI]
theorem HLe.sl {sz : Nat} {f : Bool} {es es' : List (List HV)} (hl : es'.length = es.length) (h : ∀ (i : Nat) (x x' : List HV), es[i]? = some x → es'[i]? = some x' → HLeL x x') : HLe (.sl sz f es) (.sl sz f es') := by
 intro w dead v r
 cases r with
 | nil hf hA =>
  obtain rfl : es' = [] := List.eq_nil_of_length_eq_zero hl
  exact .nil hf hA
 | @sl _ _ _ cap b off g hsz hc hf hb hbl hcell h1 hh =>
  have key : ∀ (i : Nat) (x' : List HV), es'[i]? = some x' → ∃ x, es[i]? = some x ∧ HLeL x x' := fun i x' hx' => by
   have hi : i < es.length := by have := getElem?_lt hx'; omega
   exact ⟨_, List.getElem?_eq_getElem hi, h i _ x' (List.getElem?_eq_getElem hi) hx'⟩
  rw [← hl]
  refine .sl g (fun e he => ?_) (by omega) (fun h => by rw [hf h, hl]) hb hbl (fun i j hi hj => hcell i j (by omega) hj) (fun i j hi hj => h1 i j (by omega) hj) (fun i j e c he hc' => ?_)
  ·obtain ⟨i, hi⟩ := List.mem_iff_getElem?.1 he
   obtain ⟨x, hx, hle⟩ := key i e hi
   rw [← hle.length]
   exact hsz x (List.mem_of_getElem? hx)
  ·obtain ⟨x, hx, hle⟩ := key i e he
   obtain ⟨c0, hc0, hle'⟩ := hle.get j c hc'
   exact hle' _ _ _ (hh i j x c0 hx hc0)
end Go.Hv
set_option linter.unusedVariables false
/- Trigrams, in plain words: folded bytes, codes, the increasing list of the codes, their offsets. -/
namespace Go.Hv
def foldB (c : UInt8) : UInt8 := if 65 ≤ c ∧ c ≤ 90 then c + 32 else c
def foldS (s : List UInt8) : List UInt8 := s.map foldB
@[simp] theorem foldS_length (s : List UInt8) : (foldS s).length = s.length := by simp [foldS]
end Go.Hv
set_option linter.unusedVariables false
set_option linter.unusedSimpArgs false
/- Documents, postings and segments, in plain words. -/
namespace Go.Hv
structure Doc where
 id : Int
 repo : List UInt8
 path : List UInt8
 text : List UInt8
 on : List (List UInt8)
 deriving DecidableEq
structure Post where
 code : Int
 docs : List Gram
 deriving DecidableEq
structure Seg where
 docs : List Doc
 grams : List Post
 deriving DecidableEq
/-! ### Lists that increase by a number -/
def IncBy {α : Type} (f : α → Int) (l : List α) : Prop := l.Pairwise fun x y => f x < f y
/-! ### Merging by a number -/
def mergeBy {α : Type} (f : α → Int) (both : α → α → α) : List α → List α → List α
 | [], b => b
 | x :: a, [] => x :: a
 | x :: a, y :: b => if f x < f y then x :: mergeBy f both a (y :: b) else if f y < f x then y :: mergeBy f both (x :: a) b else both x y :: mergeBy f both a b
  termination_by a b => a.length + b.length
@[simp] theorem mergeBy_nil_left {α : Type} (f : α → Int) (both : α → α → α) (b : List α) : mergeBy f both [] b = b := by simp [mergeBy]
@[simp] theorem mergeBy_nil_right {α : Type} (f : α → Int) (both : α → α → α) (a : List α) : mergeBy f both a [] = a := by cases a <;> simp [mergeBy]
/-! ### The segment of documents -/
/-! ### A segment without some documents -/
def aliveB (dead : List Int) (i : Int) : Bool := !decide (i ∈ dead)
/-! ### The union of postings -/
end Go.Hv
set_option linter.unusedVariables false
set_option linter.unusedSimpArgs false
/- Right tables, the segment that Build returns, Merge, and the laws of layer 31 in plain words. -/
namespace Go.Hv
def letterV (c : UInt8) : Bool := decide (97 ≤ c ∧ c ≤ 122 ∨ 65 ≤ c ∧ c ≤ 90 ∨ 48 ≤ c ∧ c ≤ 57 ∨ c = 46 ∨ c = 95 ∨ c = 45)
def nameOK (s : List UInt8) : Bool := decide (1 ≤ s.length ∧ s.length ≤ 24 ∧ s ≠ [46] ∧ s ≠ [46, 46]) && s.all letterV
def partsV : List UInt8 → List (List UInt8)
 | [] => [[]]
 | c :: s => if c = 47 then [] :: partsV s else match partsV s with
  | [] => [[c]]
  | p :: r => (c :: p) :: r
def pathV (s : List UInt8) : Bool := decide (s.length ≤ 60) && (partsV s).all nameOK
def nameV (s : List UInt8) : Bool := pathV s && decide (47 ∉ s)
def textB (c : UInt8) : Bool := decide (c = 9 ∨ c = 10 ∨ 32 ≤ c ∧ c ≤ 126)
def textV (s : List UInt8) : Bool := decide (s.length ≤ 2000) && s.all textB
def incS : List (List UInt8) → Bool
 | [] => true
 | [_] => true
 | a :: b :: r => (!(Go.Op.bytesLess b a || decide (b = a))) && incS (b :: r)
def checkV (d : Doc) : Int :=
 if (nameV d.repo && pathV d.path && textV d.text) = false then 3
 else if d.on.all nameV = false then 3
 else if d.on = [] then 1
 else if incS d.on = false then 1
 else 0
def keyV (d : Doc) : List UInt8 × List UInt8 × List UInt8 := (d.repo, d.path, d.text)
def scanV : Int → List Doc → Int
 | _, [] => 0
 | last, d :: r => if d.id ≤ last ∨ d.id > 9999 then 2 else if checkV d ≠ 0 then checkV d else scanV d.id r
def rightV (l : List Doc) : Int :=
 if l.length > 64 then 4 else if scanV 0 l ≠ 0 then scanV 0 l else if (l.map keyV).Nodup then 0 else 7

theorem scanV_zero : ∀ (l : List Doc) (n : Int), scanV n l = 0 ↔ (∀ d ∈ l, n < d.id) ∧ IncBy Doc.id l ∧ ∀ d ∈ l, d.id ≤ 9999 ∧ checkV d = 0
 | [], n => by simp [scanV, IncBy]
 | d :: r, n => by
  unfold scanV IncBy
  rw [List.pairwise_cons]
  by_cases h1 : d.id ≤ n ∨ d.id > 9999
  ·rw [if_pos h1]
   constructor
   ·intro h; exact absurd h (by decide)
   ·rintro ⟨h2, _, h3⟩
    have := h2 d (by simp); have := (h3 d (by simp)).1; omega
  ·rw [if_neg h1]
   by_cases h2 : checkV d = 0
   ·rw [if_neg (by simpa using h2), scanV_zero r d.id]
    constructor
    ·rintro ⟨a, b, c⟩
     refine ⟨fun x hx => ?_, ⟨a, b⟩, fun x hx => ?_⟩
     ·rcases List.mem_cons.1 hx with rfl | hx
      ·omega
      ·have := a x hx; omega
     ·rcases List.mem_cons.1 hx with rfl | hx
      ·exact ⟨by omega, h2⟩
      ·exact c x hx
    ·rintro ⟨a, ⟨b, c⟩, e⟩
     exact ⟨b, c, fun x hx => e x (by simp [hx])⟩
   ·rw [if_pos h2]
    constructor
    ·intro h; exact absurd h h2
    ·rintro ⟨_, _, e⟩
     exact absurd (e d (by simp)).2 h2
theorem rightV_zero (l : List Doc) : rightV l = 0 ↔ l.length ≤ 64 ∧ (∀ d ∈ l, 0 < d.id) ∧ IncBy Doc.id l ∧ (∀ d ∈ l, d.id ≤ 9999 ∧ checkV d = 0) ∧ (l.map keyV).Nodup := by
 unfold rightV
 by_cases h1 : l.length > 64
 ·rw [if_pos h1]
  constructor
  ·intro h; exact absurd h (by decide)
  ·rintro ⟨h, _⟩; omega
 ·rw [if_neg h1]
  by_cases h2 : scanV 0 l = 0
  ·rw [if_neg (by simpa using h2)]
   obtain ⟨a, b, c⟩ := (scanV_zero l 0).1 h2
   by_cases h3 : (l.map keyV).Nodup
   ·rw [if_pos h3]; exact ⟨fun _ => ⟨by omega, a, b, c, h3⟩, fun _ => rfl⟩
   ·rw [if_neg h3]
    constructor
    ·intro h; exact absurd h (by decide)
    ·rintro ⟨_, _, _, _, h⟩; exact absurd h h3
  ·rw [if_pos h2]
   constructor
   ·intro h; exact absurd h h2
   ·rintro ⟨_, a, b, c, _⟩; exact absurd ((scanV_zero l 0).2 ⟨a, b, c⟩) h2
theorem right_inc {l : List Doc} (h : rightV l = 0) : IncBy Doc.id l := ((rightV_zero l).1 h).2.2.1
end Go.Hv
set_option linter.unusedVariables false
set_option linter.unusedSimpArgs false
/- Pick, and the document's Union, in plain words. -/
namespace Go.Hv
def rangeI (a b : Nat) : List Int := (List.range (b - a)).map fun i => ((a + i : Nat) : Int)
@[simp] theorem rangeI_length (a b : Nat) : (rangeI a b).length = b - a := by simp [rangeI]
@[simp] theorem rangeI_self (a : Nat) : rangeI a a = [] := by simp [rangeI]
/-! ### The document's Union -/
def mergeR : List Gram → List Gram → List Gram
 | [], b => b
 | x :: a, [] => x :: a
 | x :: a, y :: b => if x.code < y.code then x :: mergeR a (y :: b) else y :: mergeR (x :: a) b
  termination_by a b => a.length + b.length
@[simp] theorem mergeR_nil_left (b : List Gram) : mergeR [] b = b := by simp [mergeR]
@[simp] theorem mergeR_nil_right (a : List Gram) : mergeR a [] = a := by cases a <;> simp [mergeR]
end Go.Hv
set_option linter.unusedVariables false
set_option linter.unusedSectionVars false
set_option linter.unusedSimpArgs false
/- Maps whose values are rows of the walk's own: the i-th entry's row has the number B + i. -/
namespace Go.Hv
open Go Go.RowKit
variable [GI]
variable {P : Program} {K : Type}
def kentsF (enc : K → HV) (val : Nat → HV) : Nat → List K → List (HV × HV)
 | _, [] => []
 | i, k :: r => (enc k, val i) :: kentsF enc val (i + 1) r
theorem kentsF_length (enc : K → HV) (val : Nat → HV) : ∀ (ks : List K) (i : Nat), (kentsF enc val i ks).length = ks.length
 | [], _ => rfl
 | _ :: r, i => by simp [kentsF, kentsF_length enc val r]
theorem kentsF_get (enc : K → HV) (val : Nat → HV) : ∀ (ks : List K) (i j : Nat), (kentsF enc val i ks)[j]? = (ks[j]?).map fun k => (enc k, val (i + j))
 | [], _, _ => by simp [kentsF]
 | k :: r, i, 0 => by simp [kentsF]
 | k :: r, i, j + 1 => by
  simp only [kentsF, List.getElem?_cons_succ, kentsF_get enc val r]
  rw [show i + 1 + j = i + (j + 1) by omega]
theorem kentsF_append (enc : K → HV) (val : Nat → HV) (b : List K) : ∀ (a : List K) (i : Nat), kentsF enc val i (a ++ b) = kentsF enc val i a ++ kentsF enc val (i + a.length) b
 | [], i => by simp [kentsF]
 | k :: r, i => by
  simp only [List.cons_append, kentsF, kentsF_append enc val b r, List.length_cons]
  rw [show i + 1 + r.length = i + (r.length + 1) by omega]
def kents (enc : K → HV) (B : Nat) (ks : List K) : List (HV × HV) := kentsF enc (fun i => .ref (B + i)) 0 ks
@[simp] theorem kents_length (enc : K → HV) (B : Nat) (ks : List K) : (kents enc B ks).length = ks.length := kentsF_length ..
theorem kents_get (enc : K → HV) (B : Nat) (ks : List K) (j : Nat) : (kents enc B ks)[j]? = (ks[j]?).map fun k => (enc k, .ref (B + j)) := by
 unfold kents; rw [kentsF_get]; simp
@[simp] theorem kents_nil (enc : K → HV) (B : Nat) : kents enc B [] = [] := rfl
theorem kents_snoc (enc : K → HV) (B : Nat) (ks : List K) (k : K) : kents enc B (ks ++ [k]) = kents enc B ks ++ [(enc k, .ref (B + ks.length))] := by
 unfold kents; rw [kentsF_append]; simp [kentsF]
theorem kents_keys (enc : K → HV) (B : Nat) (ks : List K) : (kents enc B ks).map (·.1) = ks.map enc := by
 apply List.ext_getElem?
 intro i
 rw [List.getElem?_map, kents_get, List.getElem?_map]
 cases ks[i]? <;> rfl
theorem subM_kents {enc : K → HV} {B i : Nat} {ks : List K} (h : i < ks.length) : subM (B + i) .any .any (kents enc B ks) = (kents enc B ks).set i (enc ks[i], .any) := by
 apply List.ext_getElem?
 intro j
 unfold subM
 rw [List.getElem?_map, List.getElem?_set, kents_get]
 by_cases e : i = j
 ·subst e
  rw [if_pos rfl, if_pos (by simpa using h), List.getElem?_eq_getElem h]
  simp [HV.sub]
 ·rw [if_neg e]
  cases ks[j]? with
  | none => rfl
  | some k =>
   have : ¬ B + j = B + i := by omega
   have : ¬ j = i := by omega
   simp [HV.sub, this]
theorem subM_kents_out {enc : K → HV} {B id : Nat} {ks : List K} {x y : HV} (h : id < B ∨ B + ks.length ≤ id) : subM id x y (kents enc B ks) = kents enc B ks := by
 apply List.ext_getElem?
 intro j
 unfold subM
 rw [List.getElem?_map, kents_get]
 cases hk : ks[j]? with
 | none => rfl
 | some k =>
  have hj := getElem?_lt hk
  have : ¬ B + j = id := by omega
  simp [HV.sub, this]
def fents (enc : K → HV) (g : K → HV) (ks : List K) : List (HV × HV) := ks.map fun k => (enc k, g k)
@[simp] theorem fents_length (enc g : K → HV) (ks : List K) : (fents enc g ks).length = ks.length := by simp [fents]
theorem fents_get (enc g : K → HV) (ks : List K) (j : Nat) : (fents enc g ks)[j]? = (ks[j]?).map fun k => (enc k, g k) := by simp [fents]
end Go.Hv
set_option linter.unusedVariables false
set_option linter.unusedSectionVars false
set_option linter.unusedSimpArgs false
/- Documents, postings and segments as rows. -/
namespace Go.Hv
open Go Go.RowKit
variable [GI]
@[simp] def Doc.enc (d : Doc) : List HV := [i64 d.id, .str d.repo, .str d.path, .str d.text, .sl 1 false (strsHV d.on)]
@[simp] def Post.enc (p : Post) : List HV := [i64 p.code, .sl 2 false (gramsHV p.docs)]
def docsHV (l : List Doc) : List (List HV) := l.map fun x => x.enc
@[simp] theorem docsHV_length (l : List Doc) : (docsHV l).length = l.length := by simp [docsHV]
@[simp] theorem docsHV_getElem (l : List Doc) (k : Nat) (h : k < (docsHV l).length) : (docsHV l)[k] = (fun x => x.enc) (l[k]'(by simpa using h)) := by simp [docsHV]
theorem docsHV_append (a b : List Doc) : docsHV (a ++ b) = docsHV a ++ docsHV b := by simp [docsHV]
@[simp] theorem docsHV_snoc (l : List Doc) (i : Int) (r p t : List UInt8) (o : List (List UInt8)) : docsHV l ++ [[i64 i, .str r, .str p, .str t, .sl 1 false (strsHV o)]] = docsHV (l ++ [⟨i, r, p, t, o⟩]) := by simp [docsHV]
@[simp] theorem docsHV_nil : docsHV [] = [] := rfl
@[simp] theorem isILL_docsHV (l : List Doc) : isILL (docsHV l) = true := by
 unfold docsHV
 rw [isILL_iff]
 intro x hx
 obtain ⟨a, _, rfl⟩ := List.mem_map.1 hx
 simp [isIL, isI]
def postsHV (l : List Post) : List (List HV) := l.map fun x => x.enc
@[simp] theorem postsHV_length (l : List Post) : (postsHV l).length = l.length := by simp [postsHV]
@[simp] theorem postsHV_getElem (l : List Post) (k : Nat) (h : k < (postsHV l).length) : (postsHV l)[k] = (fun x => x.enc) (l[k]'(by simpa using h)) := by simp [postsHV]
@[simp] theorem postsHV_snoc (l : List Post) (c : Int) (o : List Gram) : postsHV l ++ [[i64 c, .sl 2 false (gramsHV o)]] = postsHV (l ++ [⟨c, o⟩]) := by simp [postsHV]
@[simp] theorem postsHV_nil : postsHV [] = [] := rfl
@[simp] theorem isILL_postsHV (l : List Post) : isILL (postsHV l) = true := by
 unfold postsHV
 rw [isILL_iff]
 intro x hx
 obtain ⟨a, _, rfl⟩ := List.mem_map.1 hx
 simp [isIL, isI]
@[simp] def Seg.enc (s : Seg) : List HV := [.sl 5 false (docsHV s.docs), .sl 2 false (postsHV s.grams)]
def segsHV (l : List Seg) : List (List HV) := l.map fun x => x.enc
@[simp] theorem segsHV_length (l : List Seg) : (segsHV l).length = l.length := by simp [segsHV]
@[simp] theorem segsHV_getElem (l : List Seg) (k : Nat) (h : k < (segsHV l).length) : (segsHV l)[k] = (fun x => x.enc) (l[k]'(by simpa using h)) := by simp [segsHV]
@[simp] theorem segsHV_snoc (l : List Seg) (d : List Doc) (g : List Post) : segsHV l ++ [[.sl 5 false (docsHV d), .sl 2 false (postsHV g)]] = segsHV (l ++ [⟨d, g⟩]) := by simp [segsHV]
@[simp] theorem segsHV_nil : segsHV [] = [] := rfl
@[simp] theorem isILL_segsHV (l : List Seg) : isILL (segsHV l) = true := by
 unfold segsHV
 rw [isILL_iff]
 intro x hx
 obtain ⟨a, _, rfl⟩ := List.mem_map.1 hx
 simp [isIL, isI]
end Go.Hv
set_option linter.unusedVariables false
set_option linter.unusedSimpArgs false
/- Trees of files: Right, Set and Apply, in plain words. -/
namespace Go.Hv
/-! ### The order of strings -/
abbrev ltB (a b : List UInt8) : Bool := Go.Op.bytesLess a b
theorem ltB_irrefl : ∀ a : List UInt8, ltB a a = false
 | [] => rfl
 | c :: a => by
  show (decide (c < c) || (c == c && ltB a a)) = false
  rw [ltB_irrefl a]; simp
theorem ltB_trans : ∀ {a b c : List UInt8}, ltB a b = true → ltB b c = true → ltB a c = true
 | a, b, [], _, h => by cases b <;> cases h
 | [], b, c :: cs, _, _ => rfl
 | x :: a, [], _, h, _ => by cases h
 | x :: a, y :: b, z :: c, h1, h2 => by
  have e1 : (decide (x < y) || (x == y && ltB a b)) = true := h1
  have e2 : (decide (y < z) || (y == z && ltB b c)) = true := h2
  show (decide (x < z) || (x == z && ltB a c)) = true
  simp only [Bool.or_eq_true, decide_eq_true_eq, Bool.and_eq_true, beq_iff_eq] at e1 e2 ⊢
  rcases e1 with h | ⟨rfl, h⟩
  ·rcases e2 with k | ⟨rfl, k⟩
   ·exact .inl (UInt8.lt_trans h k)
   ·exact .inl h
  ·rcases e2 with k | ⟨rfl, k⟩
   ·exact .inl k
   ·exact .inr ⟨rfl, ltB_trans h k⟩
theorem ltB_tri : ∀ {a b : List UInt8}, ltB a b = false → ltB b a = false → a = b
 | [], [], _, _ => rfl
 | [], _ :: _, h, _ => by cases h
 | _ :: _, [], _, h => by cases h
 | x :: a, y :: b, h1, h2 => by
  have e1 : (decide (x < y) || (x == y && ltB a b)) = false := h1
  have e2 : (decide (y < x) || (y == x && ltB b a)) = false := h2
  simp only [Bool.or_eq_false_iff, decide_eq_false_iff_not, Bool.and_eq_false_imp, beq_iff_eq] at e1 e2
  have hxy : x = y := UInt8.le_antisymm (UInt8.not_lt.1 e2.1) (UInt8.not_lt.1 e1.1)
  subst hxy
  rw [ltB_tri (e1.2 rfl) (e2.2 rfl)]
theorem ltB_ne {a b : List UInt8} (h : ltB a b = true) : a ≠ b := by rintro rfl; rw [ltB_irrefl] at h; cases h
theorem ltB_asymm {a b : List UInt8} (h : ltB a b = true) : ltB b a = false := by
 cases hb : ltB b a with
 | false => rfl
 | true => have := ltB_trans h hb; rw [ltB_irrefl] at this; cases this
def stepL (a b : List UInt8) : Bool := !(ltB b a || decide (b = a))
theorem stepL_iff (a b : List UInt8) : stepL a b = ltB a b := by
 unfold stepL
 cases h1 : ltB a b with
 | true => rw [ltB_asymm h1]; simp [(ltB_ne h1).symm]
 | false =>
  cases h2 : ltB b a with
  | true => simp
  | false => simp [ltB_tri h2 h1]
theorem pw_unique {α : Type} {r : α → α → Prop} (hirr : ∀ x, ¬ r x x) (htr : ∀ {x y z}, r x y → r y z → r x z) : ∀ {a b : List α}, a.Pairwise r → b.Pairwise r → (∀ x, x ∈ a ↔ x ∈ b) → a = b
 | [], [], _, _, _ => rfl
 | [], y :: b, _, _, h => by have := (h y).2 (by simp); simp at this
 | x :: a, [], _, _, h => by have := (h x).1 (by simp); simp at this
 | x :: a, y :: b, ha, hb, h => by
  rw [List.pairwise_cons] at ha hb
  have hxy : x = y := by
   rcases List.mem_cons.1 ((h x).1 (by simp)) with e | e
   ·exact e
   ·rcases List.mem_cons.1 ((h y).2 (by simp)) with e' | e'
    ·exact e'.symm
    ·exact absurd (htr (ha.1 y e') (hb.1 x e)) (hirr x)
  subst hxy
  rw [pw_unique hirr htr ha.2 hb.2 fun z => ?_]
  constructor
  ·intro hz
   rcases List.mem_cons.1 ((h z).1 (by simp [hz])) with rfl | e
   ·exact absurd (ha.1 z hz) (hirr z)
   ·exact e
  ·intro hz
   rcases List.mem_cons.1 ((h z).2 (by simp [hz])) with rfl | e
   ·exact absurd (hb.1 z hz) (hirr z)
   ·exact e
def firstE (f : Nat → Int) (n : Nat) : Int := (((List.range n).map f).find? fun e => decide (e ≠ 0)).getD 0
theorem firstE_zero (f : Nat → Int) (n : Nat) : firstE f n = 0 ↔ ∀ j, j < n → f j = 0 := by
 unfold firstE
 constructor
 ·intro h j hj
  cases hf : ((List.range n).map f).find? (fun e => decide (e ≠ 0)) with
  | none =>
   have := (List.find?_eq_none.1 hf) (f j) (List.mem_map.2 ⟨j, List.mem_range.2 hj, rfl⟩)
   simpa using this
  | some e =>
   rw [hf] at h
   have := List.find?_some hf
   simp only [Option.getD_some] at h
   simp [h] at this
 ·intro h
  rw [List.find?_eq_none.2]
  ·rfl
  ·intro x hx
   obtain ⟨j, hj, rfl⟩ := List.mem_map.1 hx
   simp [h j (List.mem_range.1 hj)]
theorem firstE_hit {f : Nat → Int} {n i : Nat} (hi : i < n) (h0 : ∀ j, j < i → f j = 0) (h1 : f i ≠ 0) : firstE f n = f i := by
 unfold firstE
 have e : List.range n = List.range i ++ i :: (List.range (n - i - 1)).map (fun k => i + 1 + k) := by
  conv => lhs; rw [show n = i + (1 + (n - i - 1)) by omega, List.range_add, List.range_add]
  simp [List.map_map, Function.comp_def, Nat.add_assoc]
 rw [e, List.map_append, List.find?_append, List.find?_eq_none.2, Option.none_or]
 ·simp [h1]
 ·intro x hx
  obtain ⟨j, hj, rfl⟩ := List.mem_map.1 hx
  simp [h0 j (List.mem_range.1 hj)]
/-! ### Files -/
structure File where
 path : List UInt8
 blob : Int
 deriving DecidableEq, Inhabited
def underV (p dir : List UInt8) : Bool := decide (dir = []) || (decide (dir.length < p.length) && decide (p.take dir.length = dir) && decide (p[dir.length]? = some 47))
theorem underV_prefix (p dir : List UInt8) : underV p dir = (decide (dir = []) || (dir ++ [47]).isPrefixOf p) := by
 unfold underV
 congr 1
 rw [Bool.eq_iff_iff]
 simp only [Bool.and_eq_true, decide_eq_true_eq, List.isPrefixOf_iff_prefix]
 constructor
 ·rintro ⟨⟨h1, h2⟩, h3⟩
  refine ⟨p.drop (dir.length + 1), ?_⟩
  conv => rhs; rw [← List.take_append_drop dir.length p, h2]
  rw [List.append_assoc]
  congr 1
  rw [List.drop_eq_getElem_cons h1, List.singleton_append]
  congr 1
  rw [List.getElem?_eq_getElem h1] at h3
  exact (Option.some.inj h3).symm
 ·rintro ⟨t, rfl⟩
  simp
def tErr (l : List File) (i : Nat) : Int :=
 match l[i]? with
 | none => 0
 | some f => if pathV f.path = false then 3 else if f.blob < 1 ∨ f.blob > 9999 then 2 else
  if 0 < i ∧ stepL (l[i - 1]?.getD default).path f.path = false then 7 else
  if (List.range l.length).any (fun k => decide (k ≠ i) && underV f.path (l[k]?.getD default).path) = true then 14 else 0
def rightT (l : List File) : Int := if l.length > 32 then 4 else firstE (tErr l) l.length
def SortedF (l : List File) : Prop := l.Pairwise fun a b => ltB a.path b.path = true
theorem rightT_sorted {l : List File} (h : rightT l = 0) : SortedF l ∧ l.length ≤ 32 ∧ ∀ f ∈ l, pathV f.path = true ∧ 1 ≤ f.blob ∧ f.blob ≤ 9999 := by
 unfold rightT at h
 by_cases hl : l.length > 32
 ·rw [if_pos hl] at h; exact absurd h (by decide)
 rw [if_neg hl] at h
 have h0 := (firstE_zero _ _).1 h
 have key : ∀ i (hi : i < l.length), pathV l[i].path = true ∧ 1 ≤ l[i].blob ∧ l[i].blob ≤ 9999 ∧ (0 < i → stepL (l[i - 1]'(by omega)).path l[i].path = true) := fun i hi => by
  have := h0 i hi
  unfold tErr at this
  rw [List.getElem?_eq_getElem hi] at this
  simp only at this
  by_cases c1 : pathV l[i].path = false
  ·rw [if_pos c1] at this; exact absurd this (by decide)
  rw [if_neg c1] at this
  by_cases c2 : l[i].blob < 1 ∨ l[i].blob > 9999
  ·rw [if_pos c2] at this; exact absurd this (by decide)
  rw [if_neg c2] at this
  by_cases c3 : 0 < i ∧ stepL (l[i - 1]?.getD default).path l[i].path = false
  ·rw [if_pos c3] at this; exact absurd this (by decide)
  refine ⟨by simpa using c1, by omega, by omega, fun hi0 => ?_⟩
  rw [List.getElem?_eq_getElem (show i - 1 < l.length by omega), Option.getD_some] at c3
  cases hs : stepL (l[i - 1]'(by omega)).path l[i].path with
  | true => rfl
  | false => exact absurd ⟨hi0, hs⟩ c3
 refine ⟨?_, by omega, fun f hf => ?_⟩
 ·unfold SortedF
  rw [List.pairwise_iff_getElem]
  intro i j hi hj hij
  have : ∀ d, (hd : i + d + 1 < l.length) → ltB l[i].path (l[i + d + 1]).path = true := by
   intro d
   induction d with
   | zero =>
    intro hd
    have := (key (i + 1) (by omega)).2.2.2 (by omega)
    rw [stepL_iff] at this
    simpa using this
   | succ d ih =>
    intro hd
    have h2 := (key (i + d + 2) (by omega)).2.2.2 (by omega)
    rw [stepL_iff] at h2
    exact ltB_trans (ih (by omega)) h2
  have := this (j - i - 1) (by omega)
  simpa [show i + (j - i - 1) + 1 = j by omega] using this
 ·obtain ⟨i, hi, rfl⟩ := List.mem_iff_getElem.1 hf
  have := key i hi
  exact ⟨this.1, this.2.1, this.2.2.1⟩
def setR (p : List UInt8) (b : Int) : Bool → List File → List File
 | inn, [] => if inn = true then [] else [⟨p, b⟩]
 | inn, x :: r => (if (!inn && !ltB x.path p) = true then [⟨p, b⟩] else []) ++ (if x.path = p then [] else [x]) ++ setR p b (inn || !ltB x.path p) r
def setV (l : List File) (p : List UInt8) (b : Int) : List File := setR p b (decide (b = 0)) l
theorem setR_true (p : List UInt8) (b : Int) : ∀ l, setR p b true l = l.filter fun x => decide (x.path ≠ p)
 | [] => rfl
 | x :: r => by
  show ([] ++ (if x.path = p then [] else [x])) ++ setR p b (true || !ltB x.path p) r = _
  rw [Bool.true_or, setR_true p b r]
  by_cases h : x.path = p <;> simp [h]
theorem setR_mem (p : List UInt8) (b : Int) (f : File) : ∀ (l : List File) (inn : Bool), f ∈ setR p b inn l ↔ (f ∈ l ∧ f.path ≠ p) ∨ (inn = false ∧ f = ⟨p, b⟩)
 | [], inn => by cases inn <;> simp [setR]
 | x :: r, inn => by
  unfold setR
  rw [List.mem_append, List.mem_append, setR_mem p b f r]
  cases inn <;> cases hx : ltB x.path p <;> by_cases hp : x.path = p <;> simp [hp, or_and_right] <;> grind
theorem setR_sorted (p : List UInt8) (b : Int) : ∀ (l : List File) (inn : Bool), SortedF l → SortedF (setR p b inn l)
 | [], inn, _ => by cases inn <;> simp [setR, SortedF]
 | x :: r, true, h => by rw [setR_true]; exact h.sublist List.filter_sublist
 | x :: r, false, h => by
  have h' := List.pairwise_cons.1 h
  unfold setR
  cases hx : ltB x.path p with
  | true =>
   have hne := ltB_ne hx
   rw [if_neg (by simp), if_neg hne]
   show SortedF (x :: setR p b false r)
   refine List.pairwise_cons.2 ⟨fun f hf => ?_, setR_sorted p b r false h'.2⟩
   rcases (setR_mem p b f r false).1 hf with ⟨h1, _⟩ | ⟨_, rfl⟩
   ·exact h'.1 f h1
   ·exact hx
  | false =>
   rw [if_pos (by rfl), List.append_assoc]
   show SortedF (⟨p, b⟩ :: ((if x.path = p then [] else [x]) ++ setR p b true r))
   rw [setR_true]
   have hs : SortedF ((if x.path = p then [] else [x]) ++ r.filter fun y => decide (y.path ≠ p)) := by
    split
    ·exact h'.2.sublist List.filter_sublist
    ·exact List.pairwise_cons.2 ⟨fun f hf => h'.1 f ((List.mem_filter.1 hf).1), h'.2.sublist List.filter_sublist⟩
   refine List.pairwise_cons.2 ⟨fun f hf => ?_, hs⟩
   have hlt : ∀ y : File, ltB x.path y.path = true → ltB p y.path = true := fun y hy => by
    by_cases e : x.path = p
    ·rw [← e]; exact hy
    ·refine ltB_trans ?_ hy
     cases hq : ltB p x.path with
     | true => rfl
     | false => exact absurd (ltB_tri hx hq) e
   rcases List.mem_append.1 hf with hf | hf
   ·split at hf
    ·simp at hf
    ·next e =>
     obtain rfl := List.mem_singleton.1 hf
     cases hq : ltB p f.path with
     | true => rfl
     | false => exact absurd (ltB_tri hx hq) e
   ·exact hlt f (h'.1 f ((List.mem_filter.1 hf).1))
theorem setV_sorted {l : List File} (h : SortedF l) (p : List UInt8) (b : Int) : SortedF (setV l p b) := setR_sorted p b l _ h
theorem setV_mem (l : List File) (p : List UInt8) (b : Int) (f : File) : f ∈ setV l p b ↔ (f ∈ l ∧ f.path ≠ p) ∨ (b ≠ 0 ∧ f = ⟨p, b⟩) := by
 unfold setV; rw [setR_mem]; simp
def thereV (r : List File) (p : List UInt8) : Bool := r.any fun f => decide (f.path = p)
def stepT (r : List File) (c : File) : Option (List File) := if c.blob = 0 ∧ thereV r c.path = false then none else some (setV r c.path c.blob)
def runT : List File → List File → Option (List File)
 | r, [] => some r
 | r, c :: cs => match stepT r c with
  | none => none
  | some r' => runT r' cs
def applyT (l c : List File) : List File × Int :=
 if rightT l ≠ 0 then ([], rightT l) else if c.length > 16 then ([], 4) else match runT l c with
 | none => ([], 8)
 | some r => if rightT r ≠ 0 then ([], rightT r) else (r, 0)
/-! ### The contents as a map: its keys in the order in which they came, and what each has. -/
structure MapOf (ks : List (List UInt8)) (f : List UInt8 → Int) (r : List File) : Prop where
 sorted : SortedF r
 nodup : ks.Nodup
 keys : ∀ p, p ∈ ks ↔ ∃ x ∈ r, x.path = p
 vals : ∀ x ∈ r, f x.path = x.blob
 nz : ∀ x ∈ r, x.blob ≠ 0
theorem MapOf.there {ks : List (List UInt8)} {f : List UInt8 → Int} {r : List File} (h : MapOf ks f r) (p : List UInt8) : thereV r p = decide (p ∈ ks) := by
 unfold thereV
 rw [Bool.eq_iff_iff]
 simp [h.keys p]
def updF (f : List UInt8 → Int) (p : List UInt8) (b : Int) : List UInt8 → Int := fun q => if q = p then b else f q
theorem MapOf.put {ks : List (List UInt8)} {f : List UInt8 → Int} {r : List File} (h : MapOf ks f r) (p : List UInt8) {b : Int} (hb : b ≠ 0) :
  MapOf (if p ∈ ks then ks else ks ++ [p]) (updF f p b) (setV r p b) where
 sorted := setV_sorted h.sorted p b
 nodup := by
  split
  ·exact h.nodup
  ·next hn => exact List.nodup_append.2 ⟨h.nodup, by simp, fun x hx y hy => by obtain rfl := List.mem_singleton.1 hy; rintro rfl; exact hn hx⟩
 keys := fun q => by
  have key : (∃ x ∈ setV r p b, x.path = q) ↔ q = p ∨ q ∈ ks := by
   constructor
   ·rintro ⟨x, hx, rfl⟩
    rcases (setV_mem r p b x).1 hx with ⟨h1, h2⟩ | ⟨_, rfl⟩
    ·exact .inr ((h.keys _).2 ⟨x, h1, rfl⟩)
    ·exact .inl rfl
   ·intro hq
    by_cases e : q = p
    ·exact ⟨⟨p, b⟩, (setV_mem r p b _).2 (.inr ⟨hb, rfl⟩), e.symm⟩
    ·obtain ⟨x, hx, rfl⟩ := (h.keys q).1 (hq.resolve_left e)
     exact ⟨x, (setV_mem r p b x).2 (.inl ⟨hx, e⟩), rfl⟩
  rw [key]
  split
  ·next hp => exact ⟨.inr, fun hq => hq.elim (fun e => e ▸ hp) id⟩
  ·simp [or_comm]
 vals := fun x hx => by
  unfold updF
  rcases (setV_mem r p b x).1 hx with ⟨h1, h2⟩ | ⟨_, rfl⟩
  ·rw [if_neg h2]; exact h.vals x h1
  ·rw [if_pos rfl]
 nz := fun x hx => by
  rcases (setV_mem r p b x).1 hx with ⟨h1, h2⟩ | ⟨_, rfl⟩
  ·exact h.nz x h1
  ·exact hb
theorem MapOf.del {ks : List (List UInt8)} {f : List UInt8 → Int} {r : List File} (h : MapOf ks f r) (p : List UInt8) : MapOf (ks.erase p) f (setV r p 0) where
 sorted := setV_sorted h.sorted p 0
 nodup := h.nodup.erase p
 keys := fun q => by
  rw [h.nodup.mem_erase_iff, h.keys q]
  constructor
  ·rintro ⟨hq, x, hx, rfl⟩
   exact ⟨x, (setV_mem r p 0 x).2 (.inl ⟨hx, hq⟩), rfl⟩
  ·rintro ⟨x, hx, rfl⟩
   rcases (setV_mem r p 0 x).1 hx with ⟨h1, h2⟩ | ⟨h1, _⟩
   ·exact ⟨h2, x, h1, rfl⟩
   ·exact absurd rfl h1
 vals := fun x hx => by
  rcases (setV_mem r p 0 x).1 hx with ⟨h1, h2⟩ | ⟨h1, _⟩
  ·exact h.vals x h1
  ·exact absurd rfl h1
 nz := fun x hx => by
  rcases (setV_mem r p 0 x).1 hx with ⟨h1, h2⟩ | ⟨h1, _⟩
  ·exact h.nz x h1
  ·exact absurd rfl h1
end Go.Hv

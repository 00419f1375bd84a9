import Derived.Test.YtlbmbnpknobjdaaGreatDoorHv1
import Derived.Test.YtlbmbnpknobjdaaGreatDoorHv2
import Derived.Test.YtlbmbnpknobjdaaGreatDoorHv3
import Derived.Test.YtlbmbnpknobjdaaGreatDoorHv4
import Derived.Test.YtlbmbnpknobjdaaGreatDoorHv5
import Derived.Test.YtlbmbnpknobjdaaGreatDoorHv6
import Derived.Test.YtlbmbnpknobjdaaGreatDoorHv7
import Derived.Test.YtlbmbnpknobjdaaGreatDoorHv8
import Derived.Test.YtlbmbnpknobjdaaGreatDoorHv9
import Derived.Test.YtlbmbnpknobjdaaGreatDoorHv10
import Derived.Test.YtlbmbnpknobjdaaGreatDoorHv11
import Derived.Test.YtlbmbnpknobjdaaGreatDoorHv12
import Derived.Test.YtlbmbnpknobjdaaGreatDoorHv13
import Derived.Test.YtlbmbnpknobjdaaGreatDoorHvE
import Derived.Test.YtlbmbnpknobjdaaGreatDoorHvM
import Derived.Test.YtlbmbnpknobjdaaGreatDoorHv14
import Derived.Test.YtlbmbnpknobjdaaGreatDoorHv15
import Derived.Test.YtlbmbnpknobjdaaGreatDoorHvM2
import Derived.Test.YtlbmbnpknobjdaaGreatDoorHv16
import Derived.Test.YtlbmbnpknobjdaaGreatDoorHv17
import Derived.Test.YtlbmbnpknobjdaaGreatDoorHv18
import Derived.Test.YtlbmbnpknobjdaaGreatDoorHv19
import Derived.Test.YtlbmbnpknobjdaaGreatDoorHv20
import Derived.Test.YtlbmbnpknobjdaaGreatDoorHv21
import Derived.Test.YtlbmbnpknobjdaaGreatDoorHv22
import Derived.Test.YtlbmbnpknobjdaaGreatDoorHv23
import Derived.Test.YtlbmbnpknobjdaaGreatDoorHv24
import Derived.Test.YtlbmbnpknobjdaaGreatDoorHv25
import Derived.Test.YtlbmbnpknobjdaaGreatDoorHv27
import Derived.Test.YtlbmbnpknobjdaaGreatDoorHv28
import Derived.Test.YtlbmbnpknobjdaaGreatDoorHv29
import Derived.Test.YtlbmbnpknobjdaaGreatDoorHv30
import Derived.Test.YtlbmbnpknobjdaaGreatDoorHv31
import Derived.Test.YtlbmbnpknobjdaaGreatDoorHv32
import Derived.Test.YtlbmbnpknobjdaaGreatDoorHv33
import Derived.Test.YtlbmbnpknobjdaaGreatDoorHv26
import Derived.Test.YtlbmbnpknobjdaaGreatDoorHv34
import Derived.Test.YtlbmbnpknobjdaaGreatDoorHv37
import Derived.Test.YtlbmbnpknobjdaaGreatDoorHv42
import Derived.Test.YtlbmbnpknobjdaaGreatDoorHv36
import Derived.Test.YtlbmbnpknobjdaaGreatDoorHv35
import Derived.Test.YtlbmbnpknobjdaaGreatDoorProg
import Derived.KernelRfl
set_option linter.unusedVariables false
instance : Go.Hv.GI := Go.Hv.GI.int0
namespace Go.Proofs.YtlbmbnpknobjdaaGreatDoor.Ty
open Go Go.Hv Go.Proofs
@[simp] theorem sl0 : slInfo Tryz.prog 0 = none := by kernel_rfl
@[simp] theorem ag0 : agInfo Tryz.prog 0 = some (false, 1) := by kernel_rfl
@[simp] theorem tk0 : tk Tryz.prog 0 = some (.other) := by kernel_rfl
@[simp] theorem ni0 : notInt Tryz.prog 0 = true := by kernel_rfl
@[simp] theorem sl1 : slInfo Tryz.prog 1 = none := by kernel_rfl
@[simp] theorem ag1 : agInfo Tryz.prog 1 = some (false, 1) := by kernel_rfl
@[simp] theorem tk1 : tk Tryz.prog 1 = some (.other) := by kernel_rfl
@[simp] theorem ni1 : notInt Tryz.prog 1 = true := by kernel_rfl
@[simp] theorem sl2 : slInfo Tryz.prog 2 = none := by kernel_rfl
@[simp] theorem ag2 : agInfo Tryz.prog 2 = some (false, 1) := by kernel_rfl
@[simp] theorem tk2 : tk Tryz.prog 2 = some (.int .i64) := by kernel_rfl
@[simp] theorem ni2 : notInt Tryz.prog 2 = false := by kernel_rfl
@[simp] theorem z2 : zeroHV Tryz.prog 2 = some [.lit (.int .i64 0)] := by kernel_rfl
@[simp] theorem zo2 : zOneHV Tryz.prog 2 = some (.lit (.int .i64 0)) := by kernel_rfl
@[simp] theorem sl3 : slInfo Tryz.prog 3 = none := by kernel_rfl
@[simp] theorem ag3 : agInfo Tryz.prog 3 = some (false, 1) := by kernel_rfl
@[simp] theorem tk3 : tk Tryz.prog 3 = some (.int .i64) := by kernel_rfl
@[simp] theorem ni3 : notInt Tryz.prog 3 = false := by kernel_rfl
@[simp] theorem z3 : zeroHV Tryz.prog 3 = some [.lit (.int .i64 0)] := by kernel_rfl
@[simp] theorem zo3 : zOneHV Tryz.prog 3 = some (.lit (.int .i64 0)) := by kernel_rfl
@[simp] theorem sl4 : slInfo Tryz.prog 4 = none := by kernel_rfl
@[simp] theorem ag4 : agInfo Tryz.prog 4 = some (false, 1) := by kernel_rfl
@[simp] theorem tk4 : tk Tryz.prog 4 = some (.bool) := by kernel_rfl
@[simp] theorem ni4 : notInt Tryz.prog 4 = true := by kernel_rfl
@[simp] theorem z4 : zeroHV Tryz.prog 4 = some [.lit (.bool false)] := by kernel_rfl
@[simp] theorem zo4 : zOneHV Tryz.prog 4 = some (.lit (.bool false)) := by kernel_rfl
@[simp] theorem sl5 : slInfo Tryz.prog 5 = none := by kernel_rfl
@[simp] theorem ag5 : agInfo Tryz.prog 5 = some (false, 1) := by kernel_rfl
@[simp] theorem tk5 : tk Tryz.prog 5 = some (.int .u8) := by kernel_rfl
@[simp] theorem ni5 : notInt Tryz.prog 5 = false := by kernel_rfl
@[simp] theorem z5 : zeroHV Tryz.prog 5 = some [.lit (.int .u8 0)] := by kernel_rfl
@[simp] theorem zo5 : zOneHV Tryz.prog 5 = some (.lit (.int .u8 0)) := by kernel_rfl
@[simp] theorem sl6 : slInfo Tryz.prog 6 = none := by kernel_rfl
@[simp] theorem ag6 : agInfo Tryz.prog 6 = some (false, 1) := by kernel_rfl
@[simp] theorem tk6 : tk Tryz.prog 6 = some (.int .u8) := by kernel_rfl
@[simp] theorem ni6 : notInt Tryz.prog 6 = false := by kernel_rfl
@[simp] theorem z6 : zeroHV Tryz.prog 6 = some [.lit (.int .u8 0)] := by kernel_rfl
@[simp] theorem zo6 : zOneHV Tryz.prog 6 = some (.lit (.int .u8 0)) := by kernel_rfl
@[simp] theorem sl7 : slInfo Tryz.prog 7 = none := by kernel_rfl
@[simp] theorem ag7 : agInfo Tryz.prog 7 = some (true, 4) := by kernel_rfl
@[simp] theorem tk7 : tk Tryz.prog 7 = some (.other) := by kernel_rfl
@[simp] theorem ni7 : notInt Tryz.prog 7 = true := by kernel_rfl
@[simp] theorem z7 : zeroHV Tryz.prog 7 = some [.lit (.int .i64 0), .lit (.int .i64 0), .lit (.bool false), .lit (.int .u8 0)] := by kernel_rfl
@[simp] theorem zo7 : zOneHV Tryz.prog 7 = some (.agg [.lit (.int .i64 0), .lit (.int .i64 0), .lit (.bool false), .lit (.int .u8 0)]) := by kernel_rfl
@[simp] theorem fd7_0 : fdInfo Tryz.prog 7 0 = some (0, 1, false) := by kernel_rfl
@[simp] theorem fd7_1 : fdInfo Tryz.prog 7 1 = some (1, 1, false) := by kernel_rfl
@[simp] theorem fd7_2 : fdInfo Tryz.prog 7 2 = some (2, 1, false) := by kernel_rfl
@[simp] theorem fd7_3 : fdInfo Tryz.prog 7 3 = some (3, 1, false) := by kernel_rfl
@[simp] theorem pl7 : places Tryz.prog 7 = some [(0, 1), (1, 1), (2, 1), (3, 1)] := by kernel_rfl
@[simp] theorem sl8 : slInfo Tryz.prog 8 = none := by kernel_rfl
@[simp] theorem ag8 : agInfo Tryz.prog 8 = some (true, 4) := by kernel_rfl
@[simp] theorem tk8 : tk Tryz.prog 8 = some (.other) := by kernel_rfl
@[simp] theorem ni8 : notInt Tryz.prog 8 = true := by kernel_rfl
@[simp] theorem z8 : zeroHV Tryz.prog 8 = some [.lit (.int .i64 0), .lit (.int .i64 0), .lit (.bool false), .lit (.int .u8 0)] := by kernel_rfl
@[simp] theorem zo8 : zOneHV Tryz.prog 8 = some (.agg [.lit (.int .i64 0), .lit (.int .i64 0), .lit (.bool false), .lit (.int .u8 0)]) := by kernel_rfl
@[simp] theorem fd8_0 : fdInfo Tryz.prog 8 0 = some (0, 1, false) := by kernel_rfl
@[simp] theorem fd8_1 : fdInfo Tryz.prog 8 1 = some (1, 1, false) := by kernel_rfl
@[simp] theorem fd8_2 : fdInfo Tryz.prog 8 2 = some (2, 1, false) := by kernel_rfl
@[simp] theorem fd8_3 : fdInfo Tryz.prog 8 3 = some (3, 1, false) := by kernel_rfl
@[simp] theorem pl8 : places Tryz.prog 8 = some [(0, 1), (1, 1), (2, 1), (3, 1)] := by kernel_rfl
@[simp] theorem sl9 : slInfo Tryz.prog 9 = none := by kernel_rfl
@[simp] theorem ag9 : agInfo Tryz.prog 9 = some (false, 1) := by kernel_rfl
@[simp] theorem tk9 : tk Tryz.prog 9 = some (.string) := by kernel_rfl
@[simp] theorem ni9 : notInt Tryz.prog 9 = true := by kernel_rfl
@[simp] theorem z9 : zeroHV Tryz.prog 9 = some [.str []] := by kernel_rfl
@[simp] theorem zo9 : zOneHV Tryz.prog 9 = some (.str []) := by kernel_rfl
@[simp] theorem sl10 : slInfo Tryz.prog 10 = none := by kernel_rfl
@[simp] theorem ag10 : agInfo Tryz.prog 10 = some (false, 1) := by kernel_rfl
@[simp] theorem tk10 : tk Tryz.prog 10 = some (.string) := by kernel_rfl
@[simp] theorem ni10 : notInt Tryz.prog 10 = true := by kernel_rfl
@[simp] theorem z10 : zeroHV Tryz.prog 10 = some [.str []] := by kernel_rfl
@[simp] theorem zo10 : zOneHV Tryz.prog 10 = some (.str []) := by kernel_rfl
@[simp] theorem sl11 : slInfo Tryz.prog 11 = none := by kernel_rfl
@[simp] theorem ag11 : agInfo Tryz.prog 11 = some (false, 1) := by kernel_rfl
@[simp] theorem tk11 : tk Tryz.prog 11 = some (.string) := by kernel_rfl
@[simp] theorem ni11 : notInt Tryz.prog 11 = true := by kernel_rfl
@[simp] theorem z11 : zeroHV Tryz.prog 11 = some [.str []] := by kernel_rfl
@[simp] theorem zo11 : zOneHV Tryz.prog 11 = some (.str []) := by kernel_rfl
@[simp] theorem sl12 : slInfo Tryz.prog 12 = none := by kernel_rfl
@[simp] theorem ag12 : agInfo Tryz.prog 12 = some (false, 1) := by kernel_rfl
@[simp] theorem tk12 : tk Tryz.prog 12 = some (.int .u64) := by kernel_rfl
@[simp] theorem ni12 : notInt Tryz.prog 12 = false := by kernel_rfl
@[simp] theorem z12 : zeroHV Tryz.prog 12 = some [.lit (.int .u64 0)] := by kernel_rfl
@[simp] theorem zo12 : zOneHV Tryz.prog 12 = some (.lit (.int .u64 0)) := by kernel_rfl
@[simp] theorem sl13 : slInfo Tryz.prog 13 = none := by kernel_rfl
@[simp] theorem ag13 : agInfo Tryz.prog 13 = some (true, 2) := by kernel_rfl
@[simp] theorem tk13 : tk Tryz.prog 13 = some (.other) := by kernel_rfl
@[simp] theorem ni13 : notInt Tryz.prog 13 = true := by kernel_rfl
@[simp] theorem z13 : zeroHV Tryz.prog 13 = some [.str [], .lit (.int .u64 0)] := by kernel_rfl
@[simp] theorem zo13 : zOneHV Tryz.prog 13 = some (.agg [.str [], .lit (.int .u64 0)]) := by kernel_rfl
@[simp] theorem fd13_0 : fdInfo Tryz.prog 13 0 = some (0, 1, false) := by kernel_rfl
@[simp] theorem fd13_1 : fdInfo Tryz.prog 13 1 = some (1, 1, false) := by kernel_rfl
@[simp] theorem pl13 : places Tryz.prog 13 = some [(0, 1), (1, 1)] := by kernel_rfl
@[simp] theorem sl14 : slInfo Tryz.prog 14 = none := by kernel_rfl
@[simp] theorem ag14 : agInfo Tryz.prog 14 = some (true, 2) := by kernel_rfl
@[simp] theorem tk14 : tk Tryz.prog 14 = some (.other) := by kernel_rfl
@[simp] theorem ni14 : notInt Tryz.prog 14 = true := by kernel_rfl
@[simp] theorem z14 : zeroHV Tryz.prog 14 = some [.str [], .lit (.int .u64 0)] := by kernel_rfl
@[simp] theorem zo14 : zOneHV Tryz.prog 14 = some (.agg [.str [], .lit (.int .u64 0)]) := by kernel_rfl
@[simp] theorem fd14_0 : fdInfo Tryz.prog 14 0 = some (0, 1, false) := by kernel_rfl
@[simp] theorem fd14_1 : fdInfo Tryz.prog 14 1 = some (1, 1, false) := by kernel_rfl
@[simp] theorem pl14 : places Tryz.prog 14 = some [(0, 1), (1, 1)] := by kernel_rfl
@[simp] theorem sl15 : slInfo Tryz.prog 15 = none := by kernel_rfl
@[simp] theorem ag15 : agInfo Tryz.prog 15 = some (false, 1) := by kernel_rfl
@[simp] theorem tk15 : tk Tryz.prog 15 = some (.other) := by kernel_rfl
@[simp] theorem ni15 : notInt Tryz.prog 15 = true := by kernel_rfl
@[simp] theorem zo15 : zOneHV Tryz.prog 15 = some (.lit (.pointer none)) := by kernel_rfl
@[simp] theorem sl16 : slInfo Tryz.prog 16 = none := by kernel_rfl
@[simp] theorem ag16 : agInfo Tryz.prog 16 = some (false, 1) := by kernel_rfl
@[simp] theorem tk16 : tk Tryz.prog 16 = some (.other) := by kernel_rfl
@[simp] theorem ni16 : notInt Tryz.prog 16 = true := by kernel_rfl
@[simp] theorem zo16 : zOneHV Tryz.prog 16 = some (.lit (.pointer none)) := by kernel_rfl
@[simp] theorem sl17 : slInfo Tryz.prog 17 = none := by kernel_rfl
@[simp] theorem ag17 : agInfo Tryz.prog 17 = some (false, 1) := by kernel_rfl
@[simp] theorem tk17 : tk Tryz.prog 17 = some (.other) := by kernel_rfl
@[simp] theorem ni17 : notInt Tryz.prog 17 = true := by kernel_rfl
@[simp] theorem zo17 : zOneHV Tryz.prog 17 = some (.lit (.pointer none)) := by kernel_rfl
@[simp] theorem sl18 : slInfo Tryz.prog 18 = none := by kernel_rfl
@[simp] theorem ag18 : agInfo Tryz.prog 18 = some (true, 1) := by kernel_rfl
@[simp] theorem tk18 : tk Tryz.prog 18 = some (.other) := by kernel_rfl
@[simp] theorem ni18 : notInt Tryz.prog 18 = true := by kernel_rfl
@[simp] theorem z18 : zeroHV Tryz.prog 18 = some [.lit (.pointer none)] := by kernel_rfl
@[simp] theorem zo18 : zOneHV Tryz.prog 18 = some (.agg [.lit (.pointer none)]) := by kernel_rfl
@[simp] theorem fd18_0 : fdInfo Tryz.prog 18 0 = some (0, 1, false) := by kernel_rfl
@[simp] theorem pl18 : places Tryz.prog 18 = some [(0, 1)] := by kernel_rfl
@[simp] theorem sl19 : slInfo Tryz.prog 19 = none := by kernel_rfl
@[simp] theorem ag19 : agInfo Tryz.prog 19 = some (true, 1) := by kernel_rfl
@[simp] theorem tk19 : tk Tryz.prog 19 = some (.other) := by kernel_rfl
@[simp] theorem ni19 : notInt Tryz.prog 19 = true := by kernel_rfl
@[simp] theorem z19 : zeroHV Tryz.prog 19 = some [.lit (.pointer none)] := by kernel_rfl
@[simp] theorem zo19 : zOneHV Tryz.prog 19 = some (.agg [.lit (.pointer none)]) := by kernel_rfl
@[simp] theorem fd19_0 : fdInfo Tryz.prog 19 0 = some (0, 1, false) := by kernel_rfl
@[simp] theorem pl19 : places Tryz.prog 19 = some [(0, 1)] := by kernel_rfl
@[simp] theorem sl20 : slInfo Tryz.prog 20 = none := by kernel_rfl
@[simp] theorem ag20 : agInfo Tryz.prog 20 = some (false, 1) := by kernel_rfl
@[simp] theorem tk20 : tk Tryz.prog 20 = some (.other) := by kernel_rfl
@[simp] theorem ni20 : notInt Tryz.prog 20 = true := by kernel_rfl
@[simp] theorem sl21 : slInfo Tryz.prog 21 = none := by kernel_rfl
@[simp] theorem ag21 : agInfo Tryz.prog 21 = some (false, 1) := by kernel_rfl
@[simp] theorem tk21 : tk Tryz.prog 21 = some (.int .i32) := by kernel_rfl
@[simp] theorem ni21 : notInt Tryz.prog 21 = false := by kernel_rfl
@[simp] theorem z21 : zeroHV Tryz.prog 21 = some [.lit (.int .i32 0)] := by kernel_rfl
@[simp] theorem zo21 : zOneHV Tryz.prog 21 = some (.lit (.int .i32 0)) := by kernel_rfl
@[simp] theorem sl22 : slInfo Tryz.prog 22 = some (52, 5, 80) := by kernel_rfl
@[simp] theorem ag22 : agInfo Tryz.prog 22 = some (false, 1) := by kernel_rfl
@[simp] theorem tk22 : tk Tryz.prog 22 = some (.other) := by kernel_rfl
@[simp] theorem ni22 : notInt Tryz.prog 22 = true := by kernel_rfl
@[simp] theorem z22 : zeroHV Tryz.prog 22 = some [.sl 0 true []] := by kernel_rfl
@[simp] theorem zo22 : zOneHV Tryz.prog 22 = some (.sl 0 true []) := by kernel_rfl
@[simp] theorem sl23 : slInfo Tryz.prog 23 = none := by kernel_rfl
@[simp] theorem ag23 : agInfo Tryz.prog 23 = some (false, 1) := by kernel_rfl
@[simp] theorem tk23 : tk Tryz.prog 23 = some (.other) := by kernel_rfl
@[simp] theorem ni23 : notInt Tryz.prog 23 = true := by kernel_rfl
@[simp] theorem sl24 : slInfo Tryz.prog 24 = none := by kernel_rfl
@[simp] theorem ag24 : agInfo Tryz.prog 24 = some (false, 1) := by kernel_rfl
@[simp] theorem tk24 : tk Tryz.prog 24 = some (.other) := by kernel_rfl
@[simp] theorem ni24 : notInt Tryz.prog 24 = true := by kernel_rfl
@[simp] theorem sl25 : slInfo Tryz.prog 25 = some (70, 2, 32) := by kernel_rfl
@[simp] theorem ag25 : agInfo Tryz.prog 25 = some (false, 1) := by kernel_rfl
@[simp] theorem tk25 : tk Tryz.prog 25 = some (.other) := by kernel_rfl
@[simp] theorem ni25 : notInt Tryz.prog 25 = true := by kernel_rfl
@[simp] theorem z25 : zeroHV Tryz.prog 25 = some [.sl 0 true []] := by kernel_rfl
@[simp] theorem zo25 : zOneHV Tryz.prog 25 = some (.sl 0 true []) := by kernel_rfl
@[simp] theorem sl26 : slInfo Tryz.prog 26 = none := by kernel_rfl
@[simp] theorem ag26 : agInfo Tryz.prog 26 = some (true, 2) := by kernel_rfl
@[simp] theorem tk26 : tk Tryz.prog 26 = some (.other) := by kernel_rfl
@[simp] theorem ni26 : notInt Tryz.prog 26 = true := by kernel_rfl
@[simp] theorem z26 : zeroHV Tryz.prog 26 = some [.sl 0 true [], .sl 0 true []] := by kernel_rfl
@[simp] theorem zo26 : zOneHV Tryz.prog 26 = some (.agg [.sl 0 true [], .sl 0 true []]) := by kernel_rfl
@[simp] theorem fd26_0 : fdInfo Tryz.prog 26 0 = some (0, 1, false) := by kernel_rfl
@[simp] theorem fd26_1 : fdInfo Tryz.prog 26 1 = some (1, 1, false) := by kernel_rfl
@[simp] theorem pl26 : places Tryz.prog 26 = some [(0, 1), (1, 1)] := by kernel_rfl
@[simp] theorem sl27 : slInfo Tryz.prog 27 = none := by kernel_rfl
@[simp] theorem ag27 : agInfo Tryz.prog 27 = some (true, 2) := by kernel_rfl
@[simp] theorem tk27 : tk Tryz.prog 27 = some (.other) := by kernel_rfl
@[simp] theorem ni27 : notInt Tryz.prog 27 = true := by kernel_rfl
@[simp] theorem z27 : zeroHV Tryz.prog 27 = some [.sl 0 true [], .sl 0 true []] := by kernel_rfl
@[simp] theorem zo27 : zOneHV Tryz.prog 27 = some (.agg [.sl 0 true [], .sl 0 true []]) := by kernel_rfl
@[simp] theorem fd27_0 : fdInfo Tryz.prog 27 0 = some (0, 1, false) := by kernel_rfl
@[simp] theorem fd27_1 : fdInfo Tryz.prog 27 1 = some (1, 1, false) := by kernel_rfl
@[simp] theorem pl27 : places Tryz.prog 27 = some [(0, 1), (1, 1)] := by kernel_rfl
@[simp] theorem sl28 : slInfo Tryz.prog 28 = none := by kernel_rfl
@[simp] theorem ag28 : agInfo Tryz.prog 28 = some (false, 1) := by kernel_rfl
@[simp] theorem tk28 : tk Tryz.prog 28 = some (.int .i64) := by kernel_rfl
@[simp] theorem ni28 : notInt Tryz.prog 28 = false := by kernel_rfl
@[simp] theorem z28 : zeroHV Tryz.prog 28 = some [.lit (.int .i64 0)] := by kernel_rfl
@[simp] theorem zo28 : zOneHV Tryz.prog 28 = some (.lit (.int .i64 0)) := by kernel_rfl
@[simp] theorem sl29 : slInfo Tryz.prog 29 = none := by kernel_rfl
@[simp] theorem ag29 : agInfo Tryz.prog 29 = some (false, 1) := by kernel_rfl
@[simp] theorem tk29 : tk Tryz.prog 29 = some (.other) := by kernel_rfl
@[simp] theorem ni29 : notInt Tryz.prog 29 = true := by kernel_rfl
@[simp] theorem sl30 : slInfo Tryz.prog 30 = none := by kernel_rfl
@[simp] theorem ag30 : agInfo Tryz.prog 30 = some (false, 1) := by kernel_rfl
@[simp] theorem tk30 : tk Tryz.prog 30 = some (.other) := by kernel_rfl
@[simp] theorem ni30 : notInt Tryz.prog 30 = true := by kernel_rfl
@[simp] theorem sl31 : slInfo Tryz.prog 31 = none := by kernel_rfl
@[simp] theorem ag31 : agInfo Tryz.prog 31 = some (false, 1) := by kernel_rfl
@[simp] theorem tk31 : tk Tryz.prog 31 = some (.other) := by kernel_rfl
@[simp] theorem ni31 : notInt Tryz.prog 31 = true := by kernel_rfl
@[simp] theorem sl32 : slInfo Tryz.prog 32 = none := by kernel_rfl
@[simp] theorem ag32 : agInfo Tryz.prog 32 = some (false, 1) := by kernel_rfl
@[simp] theorem tk32 : tk Tryz.prog 32 = some (.other) := by kernel_rfl
@[simp] theorem ni32 : notInt Tryz.prog 32 = true := by kernel_rfl
@[simp] theorem sl33 : slInfo Tryz.prog 33 = none := by kernel_rfl
@[simp] theorem ag33 : agInfo Tryz.prog 33 = some (false, 1) := by kernel_rfl
@[simp] theorem tk33 : tk Tryz.prog 33 = some (.other) := by kernel_rfl
@[simp] theorem ni33 : notInt Tryz.prog 33 = true := by kernel_rfl
@[simp] theorem sl34 : slInfo Tryz.prog 34 = none := by kernel_rfl
@[simp] theorem ag34 : agInfo Tryz.prog 34 = some (false, 1) := by kernel_rfl
@[simp] theorem tk34 : tk Tryz.prog 34 = some (.other) := by kernel_rfl
@[simp] theorem ni34 : notInt Tryz.prog 34 = true := by kernel_rfl
@[simp] theorem sl35 : slInfo Tryz.prog 35 = none := by kernel_rfl
@[simp] theorem ag35 : agInfo Tryz.prog 35 = some (false, 1) := by kernel_rfl
@[simp] theorem tk35 : tk Tryz.prog 35 = some (.other) := by kernel_rfl
@[simp] theorem ni35 : notInt Tryz.prog 35 = true := by kernel_rfl
@[simp] theorem sl36 : slInfo Tryz.prog 36 = some (3, 1, 8) := by kernel_rfl
@[simp] theorem ag36 : agInfo Tryz.prog 36 = some (false, 1) := by kernel_rfl
@[simp] theorem tk36 : tk Tryz.prog 36 = some (.other) := by kernel_rfl
@[simp] theorem ni36 : notInt Tryz.prog 36 = true := by kernel_rfl
@[simp] theorem z36 : zeroHV Tryz.prog 36 = some [.sl 0 true []] := by kernel_rfl
@[simp] theorem zo36 : zOneHV Tryz.prog 36 = some (.sl 0 true []) := by kernel_rfl
@[simp] theorem sl37 : slInfo Tryz.prog 37 = none := by kernel_rfl
@[simp] theorem ag37 : agInfo Tryz.prog 37 = some (false, 1) := by kernel_rfl
@[simp] theorem tk37 : tk Tryz.prog 37 = some (.other) := by kernel_rfl
@[simp] theorem ni37 : notInt Tryz.prog 37 = true := by kernel_rfl
@[simp] theorem sl38 : slInfo Tryz.prog 38 = none := by kernel_rfl
@[simp] theorem ag38 : agInfo Tryz.prog 38 = some (false, 1) := by kernel_rfl
@[simp] theorem tk38 : tk Tryz.prog 38 = some (.other) := by kernel_rfl
@[simp] theorem ni38 : notInt Tryz.prog 38 = true := by kernel_rfl
@[simp] theorem sl39 : slInfo Tryz.prog 39 = none := by kernel_rfl
@[simp] theorem ag39 : agInfo Tryz.prog 39 = some (false, 1) := by kernel_rfl
@[simp] theorem tk39 : tk Tryz.prog 39 = some (.other) := by kernel_rfl
@[simp] theorem ni39 : notInt Tryz.prog 39 = true := by kernel_rfl
@[simp] theorem sl40 : slInfo Tryz.prog 40 = some (42, 3, 40) := by kernel_rfl
@[simp] theorem ag40 : agInfo Tryz.prog 40 = some (false, 1) := by kernel_rfl
@[simp] theorem tk40 : tk Tryz.prog 40 = some (.other) := by kernel_rfl
@[simp] theorem ni40 : notInt Tryz.prog 40 = true := by kernel_rfl
@[simp] theorem z40 : zeroHV Tryz.prog 40 = some [.sl 0 true []] := by kernel_rfl
@[simp] theorem zo40 : zOneHV Tryz.prog 40 = some (.sl 0 true []) := by kernel_rfl
@[simp] theorem sl41 : slInfo Tryz.prog 41 = none := by kernel_rfl
@[simp] theorem ag41 : agInfo Tryz.prog 41 = some (true, 3) := by kernel_rfl
@[simp] theorem tk41 : tk Tryz.prog 41 = some (.other) := by kernel_rfl
@[simp] theorem ni41 : notInt Tryz.prog 41 = true := by kernel_rfl
@[simp] theorem z41 : zeroHV Tryz.prog 41 = some [.lit (.int .i64 0), .lit (.int .i64 0), .sl 0 true []] := by kernel_rfl
@[simp] theorem zo41 : zOneHV Tryz.prog 41 = some (.agg [.lit (.int .i64 0), .lit (.int .i64 0), .sl 0 true []]) := by kernel_rfl
@[simp] theorem fd41_0 : fdInfo Tryz.prog 41 0 = some (0, 1, false) := by kernel_rfl
@[simp] theorem fd41_1 : fdInfo Tryz.prog 41 1 = some (1, 1, false) := by kernel_rfl
@[simp] theorem fd41_2 : fdInfo Tryz.prog 41 2 = some (2, 1, false) := by kernel_rfl
@[simp] theorem pl41 : places Tryz.prog 41 = some [(0, 1), (1, 1), (2, 1)] := by kernel_rfl
@[simp] theorem sl42 : slInfo Tryz.prog 42 = none := by kernel_rfl
@[simp] theorem ag42 : agInfo Tryz.prog 42 = some (true, 3) := by kernel_rfl
@[simp] theorem tk42 : tk Tryz.prog 42 = some (.other) := by kernel_rfl
@[simp] theorem ni42 : notInt Tryz.prog 42 = true := by kernel_rfl
@[simp] theorem z42 : zeroHV Tryz.prog 42 = some [.lit (.int .i64 0), .lit (.int .i64 0), .sl 0 true []] := by kernel_rfl
@[simp] theorem zo42 : zOneHV Tryz.prog 42 = some (.agg [.lit (.int .i64 0), .lit (.int .i64 0), .sl 0 true []]) := by kernel_rfl
@[simp] theorem fd42_0 : fdInfo Tryz.prog 42 0 = some (0, 1, false) := by kernel_rfl
@[simp] theorem fd42_1 : fdInfo Tryz.prog 42 1 = some (1, 1, false) := by kernel_rfl
@[simp] theorem fd42_2 : fdInfo Tryz.prog 42 2 = some (2, 1, false) := by kernel_rfl
@[simp] theorem pl42 : places Tryz.prog 42 = some [(0, 1), (1, 1), (2, 1)] := by kernel_rfl
@[simp] theorem sl43 : slInfo Tryz.prog 43 = none := by kernel_rfl
@[simp] theorem ag43 : agInfo Tryz.prog 43 = some (false, 1) := by kernel_rfl
@[simp] theorem tk43 : tk Tryz.prog 43 = some (.other) := by kernel_rfl
@[simp] theorem ni43 : notInt Tryz.prog 43 = true := by kernel_rfl
@[simp] theorem sl44 : slInfo Tryz.prog 44 = none := by kernel_rfl
@[simp] theorem ag44 : agInfo Tryz.prog 44 = some (false, 1) := by kernel_rfl
@[simp] theorem tk44 : tk Tryz.prog 44 = some (.other) := by kernel_rfl
@[simp] theorem ni44 : notInt Tryz.prog 44 = true := by kernel_rfl
@[simp] theorem sl45 : slInfo Tryz.prog 45 = some (62, 2, 32) := by kernel_rfl
@[simp] theorem ag45 : agInfo Tryz.prog 45 = some (false, 1) := by kernel_rfl
@[simp] theorem tk45 : tk Tryz.prog 45 = some (.other) := by kernel_rfl
@[simp] theorem ni45 : notInt Tryz.prog 45 = true := by kernel_rfl
@[simp] theorem z45 : zeroHV Tryz.prog 45 = some [.sl 0 true []] := by kernel_rfl
@[simp] theorem zo45 : zOneHV Tryz.prog 45 = some (.sl 0 true []) := by kernel_rfl
@[simp] theorem sl46 : slInfo Tryz.prog 46 = none := by kernel_rfl
@[simp] theorem ag46 : agInfo Tryz.prog 46 = some (false, 1) := by kernel_rfl
@[simp] theorem tk46 : tk Tryz.prog 46 = some (.other) := by kernel_rfl
@[simp] theorem ni46 : notInt Tryz.prog 46 = true := by kernel_rfl
@[simp] theorem sl47 : slInfo Tryz.prog 47 = none := by kernel_rfl
@[simp] theorem ag47 : agInfo Tryz.prog 47 = some (false, 1) := by kernel_rfl
@[simp] theorem tk47 : tk Tryz.prog 47 = some (.other) := by kernel_rfl
@[simp] theorem ni47 : notInt Tryz.prog 47 = true := by kernel_rfl
@[simp] theorem sl48 : slInfo Tryz.prog 48 = none := by kernel_rfl
@[simp] theorem ag48 : agInfo Tryz.prog 48 = some (false, 1) := by kernel_rfl
@[simp] theorem tk48 : tk Tryz.prog 48 = some (.other) := by kernel_rfl
@[simp] theorem ni48 : notInt Tryz.prog 48 = true := by kernel_rfl
@[simp] theorem sl49 : slInfo Tryz.prog 49 = none := by kernel_rfl
@[simp] theorem ag49 : agInfo Tryz.prog 49 = some (false, 1) := by kernel_rfl
@[simp] theorem tk49 : tk Tryz.prog 49 = some (.other) := by kernel_rfl
@[simp] theorem ni49 : notInt Tryz.prog 49 = true := by kernel_rfl
@[simp] theorem sl50 : slInfo Tryz.prog 50 = some (9, 1, 16) := by kernel_rfl
@[simp] theorem ag50 : agInfo Tryz.prog 50 = some (false, 1) := by kernel_rfl
@[simp] theorem tk50 : tk Tryz.prog 50 = some (.other) := by kernel_rfl
@[simp] theorem ni50 : notInt Tryz.prog 50 = true := by kernel_rfl
@[simp] theorem z50 : zeroHV Tryz.prog 50 = some [.sl 0 true []] := by kernel_rfl
@[simp] theorem zo50 : zOneHV Tryz.prog 50 = some (.sl 0 true []) := by kernel_rfl
@[simp] theorem sl51 : slInfo Tryz.prog 51 = none := by kernel_rfl
@[simp] theorem ag51 : agInfo Tryz.prog 51 = some (true, 5) := by kernel_rfl
@[simp] theorem tk51 : tk Tryz.prog 51 = some (.other) := by kernel_rfl
@[simp] theorem ni51 : notInt Tryz.prog 51 = true := by kernel_rfl
@[simp] theorem z51 : zeroHV Tryz.prog 51 = some [.lit (.int .i64 0), .str [], .str [], .str [], .sl 0 true []] := by kernel_rfl
@[simp] theorem zo51 : zOneHV Tryz.prog 51 = some (.agg [.lit (.int .i64 0), .str [], .str [], .str [], .sl 0 true []]) := by kernel_rfl
@[simp] theorem fd51_0 : fdInfo Tryz.prog 51 0 = some (0, 1, false) := by kernel_rfl
@[simp] theorem fd51_1 : fdInfo Tryz.prog 51 1 = some (1, 1, false) := by kernel_rfl
@[simp] theorem fd51_2 : fdInfo Tryz.prog 51 2 = some (2, 1, false) := by kernel_rfl
@[simp] theorem fd51_3 : fdInfo Tryz.prog 51 3 = some (3, 1, false) := by kernel_rfl
@[simp] theorem fd51_4 : fdInfo Tryz.prog 51 4 = some (4, 1, false) := by kernel_rfl
@[simp] theorem pl51 : places Tryz.prog 51 = some [(0, 1), (1, 1), (2, 1), (3, 1), (4, 1)] := by kernel_rfl
@[simp] theorem sl52 : slInfo Tryz.prog 52 = none := by kernel_rfl
@[simp] theorem ag52 : agInfo Tryz.prog 52 = some (true, 5) := by kernel_rfl
@[simp] theorem tk52 : tk Tryz.prog 52 = some (.other) := by kernel_rfl
@[simp] theorem ni52 : notInt Tryz.prog 52 = true := by kernel_rfl
@[simp] theorem z52 : zeroHV Tryz.prog 52 = some [.lit (.int .i64 0), .str [], .str [], .str [], .sl 0 true []] := by kernel_rfl
@[simp] theorem zo52 : zOneHV Tryz.prog 52 = some (.agg [.lit (.int .i64 0), .str [], .str [], .str [], .sl 0 true []]) := by kernel_rfl
@[simp] theorem fd52_0 : fdInfo Tryz.prog 52 0 = some (0, 1, false) := by kernel_rfl
@[simp] theorem fd52_1 : fdInfo Tryz.prog 52 1 = some (1, 1, false) := by kernel_rfl
@[simp] theorem fd52_2 : fdInfo Tryz.prog 52 2 = some (2, 1, false) := by kernel_rfl
@[simp] theorem fd52_3 : fdInfo Tryz.prog 52 3 = some (3, 1, false) := by kernel_rfl
@[simp] theorem fd52_4 : fdInfo Tryz.prog 52 4 = some (4, 1, false) := by kernel_rfl
@[simp] theorem pl52 : places Tryz.prog 52 = some [(0, 1), (1, 1), (2, 1), (3, 1), (4, 1)] := by kernel_rfl
@[simp] theorem sl53 : slInfo Tryz.prog 53 = none := by kernel_rfl
@[simp] theorem ag53 : agInfo Tryz.prog 53 = some (false, 1) := by kernel_rfl
@[simp] theorem tk53 : tk Tryz.prog 53 = some (.other) := by kernel_rfl
@[simp] theorem ni53 : notInt Tryz.prog 53 = true := by kernel_rfl
@[simp] theorem sl54 : slInfo Tryz.prog 54 = none := by kernel_rfl
@[simp] theorem ag54 : agInfo Tryz.prog 54 = some (false, 1) := by kernel_rfl
@[simp] theorem tk54 : tk Tryz.prog 54 = some (.other) := by kernel_rfl
@[simp] theorem ni54 : notInt Tryz.prog 54 = true := by kernel_rfl
@[simp] theorem sl55 : slInfo Tryz.prog 55 = none := by kernel_rfl
@[simp] theorem ag55 : agInfo Tryz.prog 55 = some (false, 1) := by kernel_rfl
@[simp] theorem tk55 : tk Tryz.prog 55 = some (.other) := by kernel_rfl
@[simp] theorem ni55 : notInt Tryz.prog 55 = true := by kernel_rfl
@[simp] theorem sl56 : slInfo Tryz.prog 56 = none := by kernel_rfl
@[simp] theorem ag56 : agInfo Tryz.prog 56 = some (false, 1) := by kernel_rfl
@[simp] theorem tk56 : tk Tryz.prog 56 = some (.other) := by kernel_rfl
@[simp] theorem ni56 : notInt Tryz.prog 56 = true := by kernel_rfl
@[simp] theorem sl57 : slInfo Tryz.prog 57 = none := by kernel_rfl
@[simp] theorem ag57 : agInfo Tryz.prog 57 = some (false, 1) := by kernel_rfl
@[simp] theorem tk57 : tk Tryz.prog 57 = some (.other) := by kernel_rfl
@[simp] theorem ni57 : notInt Tryz.prog 57 = true := by kernel_rfl
@[simp] theorem sl58 : slInfo Tryz.prog 58 = none := by kernel_rfl
@[simp] theorem ag58 : agInfo Tryz.prog 58 = some (false, 1) := by kernel_rfl
@[simp] theorem tk58 : tk Tryz.prog 58 = some (.other) := by kernel_rfl
@[simp] theorem ni58 : notInt Tryz.prog 58 = true := by kernel_rfl
@[simp] theorem sl59 : slInfo Tryz.prog 59 = none := by kernel_rfl
@[simp] theorem ag59 : agInfo Tryz.prog 59 = some (false, 1) := by kernel_rfl
@[simp] theorem tk59 : tk Tryz.prog 59 = some (.other) := by kernel_rfl
@[simp] theorem ni59 : notInt Tryz.prog 59 = true := by kernel_rfl
@[simp] theorem sl60 : slInfo Tryz.prog 60 = none := by kernel_rfl
@[simp] theorem ag60 : agInfo Tryz.prog 60 = some (false, 1) := by kernel_rfl
@[simp] theorem tk60 : tk Tryz.prog 60 = some (.other) := by kernel_rfl
@[simp] theorem ni60 : notInt Tryz.prog 60 = true := by kernel_rfl
@[simp] theorem sl61 : slInfo Tryz.prog 61 = none := by kernel_rfl
@[simp] theorem ag61 : agInfo Tryz.prog 61 = some (true, 2) := by kernel_rfl
@[simp] theorem tk61 : tk Tryz.prog 61 = some (.other) := by kernel_rfl
@[simp] theorem ni61 : notInt Tryz.prog 61 = true := by kernel_rfl
@[simp] theorem z61 : zeroHV Tryz.prog 61 = some [.lit (.int .i64 0), .sl 0 true []] := by kernel_rfl
@[simp] theorem zo61 : zOneHV Tryz.prog 61 = some (.agg [.lit (.int .i64 0), .sl 0 true []]) := by kernel_rfl
@[simp] theorem fd61_0 : fdInfo Tryz.prog 61 0 = some (0, 1, false) := by kernel_rfl
@[simp] theorem fd61_1 : fdInfo Tryz.prog 61 1 = some (1, 1, false) := by kernel_rfl
@[simp] theorem pl61 : places Tryz.prog 61 = some [(0, 1), (1, 1)] := by kernel_rfl
@[simp] theorem sl62 : slInfo Tryz.prog 62 = none := by kernel_rfl
@[simp] theorem ag62 : agInfo Tryz.prog 62 = some (true, 2) := by kernel_rfl
@[simp] theorem tk62 : tk Tryz.prog 62 = some (.other) := by kernel_rfl
@[simp] theorem ni62 : notInt Tryz.prog 62 = true := by kernel_rfl
@[simp] theorem z62 : zeroHV Tryz.prog 62 = some [.lit (.int .i64 0), .sl 0 true []] := by kernel_rfl
@[simp] theorem zo62 : zOneHV Tryz.prog 62 = some (.agg [.lit (.int .i64 0), .sl 0 true []]) := by kernel_rfl
@[simp] theorem fd62_0 : fdInfo Tryz.prog 62 0 = some (0, 1, false) := by kernel_rfl
@[simp] theorem fd62_1 : fdInfo Tryz.prog 62 1 = some (1, 1, false) := by kernel_rfl
@[simp] theorem pl62 : places Tryz.prog 62 = some [(0, 1), (1, 1)] := by kernel_rfl
@[simp] theorem sl63 : slInfo Tryz.prog 63 = none := by kernel_rfl
@[simp] theorem ag63 : agInfo Tryz.prog 63 = some (false, 1) := by kernel_rfl
@[simp] theorem mp63 : mpInfo Tryz.prog 63 = some (3, 45) := by kernel_rfl
@[simp] theorem tk63 : tk Tryz.prog 63 = some (.other) := by kernel_rfl
@[simp] theorem ni63 : notInt Tryz.prog 63 = true := by kernel_rfl
@[simp] theorem z63 : zeroHV Tryz.prog 63 = some [.mp []] := by kernel_rfl
@[simp] theorem zo63 : zOneHV Tryz.prog 63 = some (.mp []) := by kernel_rfl
@[simp] theorem sl64 : slInfo Tryz.prog 64 = some (67, 2, 32) := by kernel_rfl
@[simp] theorem ag64 : agInfo Tryz.prog 64 = some (false, 1) := by kernel_rfl
@[simp] theorem tk64 : tk Tryz.prog 64 = some (.other) := by kernel_rfl
@[simp] theorem ni64 : notInt Tryz.prog 64 = true := by kernel_rfl
@[simp] theorem z64 : zeroHV Tryz.prog 64 = some [.sl 0 true []] := by kernel_rfl
@[simp] theorem zo64 : zOneHV Tryz.prog 64 = some (.sl 0 true []) := by kernel_rfl
@[simp] theorem sl65 : slInfo Tryz.prog 65 = none := by kernel_rfl
@[simp] theorem ag65 : agInfo Tryz.prog 65 = some (false, 1) := by kernel_rfl
@[simp] theorem tk65 : tk Tryz.prog 65 = some (.other) := by kernel_rfl
@[simp] theorem ni65 : notInt Tryz.prog 65 = true := by kernel_rfl
@[simp] theorem sl66 : slInfo Tryz.prog 66 = none := by kernel_rfl
@[simp] theorem ag66 : agInfo Tryz.prog 66 = some (true, 2) := by kernel_rfl
@[simp] theorem tk66 : tk Tryz.prog 66 = some (.other) := by kernel_rfl
@[simp] theorem ni66 : notInt Tryz.prog 66 = true := by kernel_rfl
@[simp] theorem z66 : zeroHV Tryz.prog 66 = some [.lit (.int .i64 0), .sl 0 true []] := by kernel_rfl
@[simp] theorem zo66 : zOneHV Tryz.prog 66 = some (.agg [.lit (.int .i64 0), .sl 0 true []]) := by kernel_rfl
@[simp] theorem fd66_0 : fdInfo Tryz.prog 66 0 = some (0, 1, false) := by kernel_rfl
@[simp] theorem fd66_1 : fdInfo Tryz.prog 66 1 = some (1, 1, false) := by kernel_rfl
@[simp] theorem pl66 : places Tryz.prog 66 = some [(0, 1), (1, 1)] := by kernel_rfl
@[simp] theorem sl67 : slInfo Tryz.prog 67 = none := by kernel_rfl
@[simp] theorem ag67 : agInfo Tryz.prog 67 = some (true, 2) := by kernel_rfl
@[simp] theorem tk67 : tk Tryz.prog 67 = some (.other) := by kernel_rfl
@[simp] theorem ni67 : notInt Tryz.prog 67 = true := by kernel_rfl
@[simp] theorem z67 : zeroHV Tryz.prog 67 = some [.lit (.int .i64 0), .sl 0 true []] := by kernel_rfl
@[simp] theorem zo67 : zOneHV Tryz.prog 67 = some (.agg [.lit (.int .i64 0), .sl 0 true []]) := by kernel_rfl
@[simp] theorem fd67_0 : fdInfo Tryz.prog 67 0 = some (0, 1, false) := by kernel_rfl
@[simp] theorem fd67_1 : fdInfo Tryz.prog 67 1 = some (1, 1, false) := by kernel_rfl
@[simp] theorem pl67 : places Tryz.prog 67 = some [(0, 1), (1, 1)] := by kernel_rfl
@[simp] theorem sl68 : slInfo Tryz.prog 68 = none := by kernel_rfl
@[simp] theorem ag68 : agInfo Tryz.prog 68 = some (false, 1) := by kernel_rfl
@[simp] theorem tk68 : tk Tryz.prog 68 = some (.other) := by kernel_rfl
@[simp] theorem ni68 : notInt Tryz.prog 68 = true := by kernel_rfl
@[simp] theorem sl69 : slInfo Tryz.prog 69 = none := by kernel_rfl
@[simp] theorem ag69 : agInfo Tryz.prog 69 = some (true, 2) := by kernel_rfl
@[simp] theorem tk69 : tk Tryz.prog 69 = some (.other) := by kernel_rfl
@[simp] theorem ni69 : notInt Tryz.prog 69 = true := by kernel_rfl
@[simp] theorem z69 : zeroHV Tryz.prog 69 = some [.lit (.int .i64 0), .sl 0 true []] := by kernel_rfl
@[simp] theorem zo69 : zOneHV Tryz.prog 69 = some (.agg [.lit (.int .i64 0), .sl 0 true []]) := by kernel_rfl
@[simp] theorem fd69_0 : fdInfo Tryz.prog 69 0 = some (0, 1, false) := by kernel_rfl
@[simp] theorem fd69_1 : fdInfo Tryz.prog 69 1 = some (1, 1, false) := by kernel_rfl
@[simp] theorem pl69 : places Tryz.prog 69 = some [(0, 1), (1, 1)] := by kernel_rfl
@[simp] theorem sl70 : slInfo Tryz.prog 70 = none := by kernel_rfl
@[simp] theorem ag70 : agInfo Tryz.prog 70 = some (true, 2) := by kernel_rfl
@[simp] theorem tk70 : tk Tryz.prog 70 = some (.other) := by kernel_rfl
@[simp] theorem ni70 : notInt Tryz.prog 70 = true := by kernel_rfl
@[simp] theorem z70 : zeroHV Tryz.prog 70 = some [.lit (.int .i64 0), .sl 0 true []] := by kernel_rfl
@[simp] theorem zo70 : zOneHV Tryz.prog 70 = some (.agg [.lit (.int .i64 0), .sl 0 true []]) := by kernel_rfl
@[simp] theorem fd70_0 : fdInfo Tryz.prog 70 0 = some (0, 1, false) := by kernel_rfl
@[simp] theorem fd70_1 : fdInfo Tryz.prog 70 1 = some (1, 1, false) := by kernel_rfl
@[simp] theorem pl70 : places Tryz.prog 70 = some [(0, 1), (1, 1)] := by kernel_rfl
@[simp] theorem sl71 : slInfo Tryz.prog 71 = none := by kernel_rfl
@[simp] theorem ag71 : agInfo Tryz.prog 71 = some (false, 1) := by kernel_rfl
@[simp] theorem tk71 : tk Tryz.prog 71 = some (.other) := by kernel_rfl
@[simp] theorem ni71 : notInt Tryz.prog 71 = true := by kernel_rfl
@[simp] theorem sl72 : slInfo Tryz.prog 72 = none := by kernel_rfl
@[simp] theorem ag72 : agInfo Tryz.prog 72 = some (false, 1) := by kernel_rfl
@[simp] theorem tk72 : tk Tryz.prog 72 = some (.other) := by kernel_rfl
@[simp] theorem ni72 : notInt Tryz.prog 72 = true := by kernel_rfl
@[simp] theorem sl73 : slInfo Tryz.prog 73 = none := by kernel_rfl
@[simp] theorem ag73 : agInfo Tryz.prog 73 = some (false, 1) := by kernel_rfl
@[simp] theorem tk73 : tk Tryz.prog 73 = some (.other) := by kernel_rfl
@[simp] theorem ni73 : notInt Tryz.prog 73 = true := by kernel_rfl
@[simp] theorem sl74 : slInfo Tryz.prog 74 = none := by kernel_rfl
@[simp] theorem ag74 : agInfo Tryz.prog 74 = some (false, 1) := by kernel_rfl
@[simp] theorem tk74 : tk Tryz.prog 74 = some (.other) := by kernel_rfl
@[simp] theorem ni74 : notInt Tryz.prog 74 = true := by kernel_rfl
@[simp] theorem sl75 : slInfo Tryz.prog 75 = none := by kernel_rfl
@[simp] theorem ag75 : agInfo Tryz.prog 75 = some (false, 1) := by kernel_rfl
@[simp] theorem tk75 : tk Tryz.prog 75 = some (.other) := by kernel_rfl
@[simp] theorem ni75 : notInt Tryz.prog 75 = true := by kernel_rfl
@[simp] theorem sl76 : slInfo Tryz.prog 76 = none := by kernel_rfl
@[simp] theorem ag76 : agInfo Tryz.prog 76 = some (false, 1) := by kernel_rfl
@[simp] theorem tk76 : tk Tryz.prog 76 = some (.other) := by kernel_rfl
@[simp] theorem ni76 : notInt Tryz.prog 76 = true := by kernel_rfl
@[simp] theorem sl77 : slInfo Tryz.prog 77 = none := by kernel_rfl
@[simp] theorem ag77 : agInfo Tryz.prog 77 = some (false, 1) := by kernel_rfl
@[simp] theorem tk77 : tk Tryz.prog 77 = some (.other) := by kernel_rfl
@[simp] theorem ni77 : notInt Tryz.prog 77 = true := by kernel_rfl
@[simp] theorem sl78 : slInfo Tryz.prog 78 = none := by kernel_rfl
@[simp] theorem ag78 : agInfo Tryz.prog 78 = some (false, 1) := by kernel_rfl
@[simp] theorem tk78 : tk Tryz.prog 78 = some (.other) := by kernel_rfl
@[simp] theorem ni78 : notInt Tryz.prog 78 = true := by kernel_rfl
@[simp] theorem sl79 : slInfo Tryz.prog 79 = none := by kernel_rfl
@[simp] theorem ag79 : agInfo Tryz.prog 79 = some (false, 1) := by kernel_rfl
@[simp] theorem tk79 : tk Tryz.prog 79 = some (.other) := by kernel_rfl
@[simp] theorem ni79 : notInt Tryz.prog 79 = true := by kernel_rfl
@[simp] theorem sl80 : slInfo Tryz.prog 80 = none := by kernel_rfl
@[simp] theorem ag80 : agInfo Tryz.prog 80 = some (true, 3) := by kernel_rfl
@[simp] theorem tk80 : tk Tryz.prog 80 = some (.other) := by kernel_rfl
@[simp] theorem ni80 : notInt Tryz.prog 80 = true := by kernel_rfl
@[simp] theorem z80 : zeroHV Tryz.prog 80 = some [.str [], .str [], .str []] := by kernel_rfl
@[simp] theorem zo80 : zOneHV Tryz.prog 80 = some (.agg [.str [], .str [], .str []]) := by kernel_rfl
@[simp] theorem fd80_0 : fdInfo Tryz.prog 80 0 = some (0, 1, false) := by kernel_rfl
@[simp] theorem fd80_1 : fdInfo Tryz.prog 80 1 = some (1, 1, false) := by kernel_rfl
@[simp] theorem fd80_2 : fdInfo Tryz.prog 80 2 = some (2, 1, false) := by kernel_rfl
@[simp] theorem pl80 : places Tryz.prog 80 = some [(0, 1), (1, 1), (2, 1)] := by kernel_rfl
@[simp] theorem sl81 : slInfo Tryz.prog 81 = none := by kernel_rfl
@[simp] theorem ag81 : agInfo Tryz.prog 81 = some (true, 3) := by kernel_rfl
@[simp] theorem tk81 : tk Tryz.prog 81 = some (.other) := by kernel_rfl
@[simp] theorem ni81 : notInt Tryz.prog 81 = true := by kernel_rfl
@[simp] theorem z81 : zeroHV Tryz.prog 81 = some [.str [], .str [], .str []] := by kernel_rfl
@[simp] theorem zo81 : zOneHV Tryz.prog 81 = some (.agg [.str [], .str [], .str []]) := by kernel_rfl
@[simp] theorem fd81_0 : fdInfo Tryz.prog 81 0 = some (0, 1, false) := by kernel_rfl
@[simp] theorem fd81_1 : fdInfo Tryz.prog 81 1 = some (1, 1, false) := by kernel_rfl
@[simp] theorem fd81_2 : fdInfo Tryz.prog 81 2 = some (2, 1, false) := by kernel_rfl
@[simp] theorem pl81 : places Tryz.prog 81 = some [(0, 1), (1, 1), (2, 1)] := by kernel_rfl
@[simp] theorem sl82 : slInfo Tryz.prog 82 = none := by kernel_rfl
@[simp] theorem ag82 : agInfo Tryz.prog 82 = some (false, 1) := by kernel_rfl
@[simp] theorem tk82 : tk Tryz.prog 82 = some (.other) := by kernel_rfl
@[simp] theorem ni82 : notInt Tryz.prog 82 = true := by kernel_rfl
@[simp] theorem sl83 : slInfo Tryz.prog 83 = none := by kernel_rfl
@[simp] theorem ag83 : agInfo Tryz.prog 83 = some (false, 1) := by kernel_rfl
@[simp] theorem tk83 : tk Tryz.prog 83 = some (.other) := by kernel_rfl
@[simp] theorem ni83 : notInt Tryz.prog 83 = true := by kernel_rfl
@[simp] theorem sl84 : slInfo Tryz.prog 84 = none := by kernel_rfl
@[simp] theorem ag84 : agInfo Tryz.prog 84 = some (false, 1) := by kernel_rfl
@[simp] theorem tk84 : tk Tryz.prog 84 = some (.other) := by kernel_rfl
@[simp] theorem ni84 : notInt Tryz.prog 84 = true := by kernel_rfl
@[simp] theorem sl85 : slInfo Tryz.prog 85 = none := by kernel_rfl
@[simp] theorem ag85 : agInfo Tryz.prog 85 = some (false, 1) := by kernel_rfl
@[simp] theorem tk85 : tk Tryz.prog 85 = some (.other) := by kernel_rfl
@[simp] theorem ni85 : notInt Tryz.prog 85 = true := by kernel_rfl
@[simp] theorem sl86 : slInfo Tryz.prog 86 = none := by kernel_rfl
@[simp] theorem ag86 : agInfo Tryz.prog 86 = some (false, 1) := by kernel_rfl
@[simp] theorem tk86 : tk Tryz.prog 86 = some (.other) := by kernel_rfl
@[simp] theorem ni86 : notInt Tryz.prog 86 = true := by kernel_rfl
@[simp] theorem sl87 : slInfo Tryz.prog 87 = none := by kernel_rfl
@[simp] theorem ag87 : agInfo Tryz.prog 87 = some (false, 1) := by kernel_rfl
@[simp] theorem tk87 : tk Tryz.prog 87 = some (.other) := by kernel_rfl
@[simp] theorem ni87 : notInt Tryz.prog 87 = true := by kernel_rfl
@[simp] theorem sl88 : slInfo Tryz.prog 88 = none := by kernel_rfl
@[simp] theorem ag88 : agInfo Tryz.prog 88 = some (false, 1) := by kernel_rfl
@[simp] theorem tk88 : tk Tryz.prog 88 = some (.other) := by kernel_rfl
@[simp] theorem ni88 : notInt Tryz.prog 88 = true := by kernel_rfl
@[simp] theorem sl89 : slInfo Tryz.prog 89 = none := by kernel_rfl
@[simp] theorem ag89 : agInfo Tryz.prog 89 = some (false, 1) := by kernel_rfl
@[simp] theorem tk89 : tk Tryz.prog 89 = some (.other) := by kernel_rfl
@[simp] theorem ni89 : notInt Tryz.prog 89 = true := by kernel_rfl
@[simp] theorem sl90 : slInfo Tryz.prog 90 = none := by kernel_rfl
@[simp] theorem ag90 : agInfo Tryz.prog 90 = some (false, 1) := by kernel_rfl
@[simp] theorem mp90 : mpInfo Tryz.prog 90 = some (3, 36) := by kernel_rfl
@[simp] theorem tk90 : tk Tryz.prog 90 = some (.other) := by kernel_rfl
@[simp] theorem ni90 : notInt Tryz.prog 90 = true := by kernel_rfl
@[simp] theorem z90 : zeroHV Tryz.prog 90 = some [.mp []] := by kernel_rfl
@[simp] theorem zo90 : zOneHV Tryz.prog 90 = some (.mp []) := by kernel_rfl
@[simp] theorem sl91 : slInfo Tryz.prog 91 = none := by kernel_rfl
@[simp] theorem ag91 : agInfo Tryz.prog 91 = some (false, 1) := by kernel_rfl
@[simp] theorem tk91 : tk Tryz.prog 91 = some (.other) := by kernel_rfl
@[simp] theorem ni91 : notInt Tryz.prog 91 = true := by kernel_rfl
@[simp] theorem sl92 : slInfo Tryz.prog 92 = none := by kernel_rfl
@[simp] theorem ag92 : agInfo Tryz.prog 92 = some (false, 1) := by kernel_rfl
@[simp] theorem tk92 : tk Tryz.prog 92 = some (.other) := by kernel_rfl
@[simp] theorem ni92 : notInt Tryz.prog 92 = true := by kernel_rfl
@[simp] theorem sl93 : slInfo Tryz.prog 93 = none := by kernel_rfl
@[simp] theorem ag93 : agInfo Tryz.prog 93 = some (false, 1) := by kernel_rfl
@[simp] theorem tk93 : tk Tryz.prog 93 = some (.other) := by kernel_rfl
@[simp] theorem ni93 : notInt Tryz.prog 93 = true := by kernel_rfl
@[simp] theorem sl94 : slInfo Tryz.prog 94 = none := by kernel_rfl
@[simp] theorem ag94 : agInfo Tryz.prog 94 = some (false, 1) := by kernel_rfl
@[simp] theorem tk94 : tk Tryz.prog 94 = some (.other) := by kernel_rfl
@[simp] theorem ni94 : notInt Tryz.prog 94 = true := by kernel_rfl
@[simp] theorem sl95 : slInfo Tryz.prog 95 = none := by kernel_rfl
@[simp] theorem ag95 : agInfo Tryz.prog 95 = some (false, 1) := by kernel_rfl
@[simp] theorem tk95 : tk Tryz.prog 95 = some (.other) := by kernel_rfl
@[simp] theorem ni95 : notInt Tryz.prog 95 = true := by kernel_rfl
@[simp] theorem sl96 : slInfo Tryz.prog 96 = none := by kernel_rfl
@[simp] theorem ag96 : agInfo Tryz.prog 96 = some (false, 1) := by kernel_rfl
@[simp] theorem mp96 : mpInfo Tryz.prog 96 = some (81, 4) := by kernel_rfl
@[simp] theorem tk96 : tk Tryz.prog 96 = some (.other) := by kernel_rfl
@[simp] theorem ni96 : notInt Tryz.prog 96 = true := by kernel_rfl
@[simp] theorem z96 : zeroHV Tryz.prog 96 = some [.mp []] := by kernel_rfl
@[simp] theorem zo96 : zOneHV Tryz.prog 96 = some (.mp []) := by kernel_rfl
@[simp] theorem sl97 : slInfo Tryz.prog 97 = none := by kernel_rfl
@[simp] theorem ag97 : agInfo Tryz.prog 97 = some (false, 1) := by kernel_rfl
@[simp] theorem tk97 : tk Tryz.prog 97 = some (.other) := by kernel_rfl
@[simp] theorem ni97 : notInt Tryz.prog 97 = true := by kernel_rfl
@[simp] theorem sl98 : slInfo Tryz.prog 98 = none := by kernel_rfl
@[simp] theorem ag98 : agInfo Tryz.prog 98 = some (false, 1) := by kernel_rfl
@[simp] theorem tk98 : tk Tryz.prog 98 = some (.other) := by kernel_rfl
@[simp] theorem ni98 : notInt Tryz.prog 98 = true := by kernel_rfl
@[simp] theorem sl99 : slInfo Tryz.prog 99 = none := by kernel_rfl
@[simp] theorem ag99 : agInfo Tryz.prog 99 = some (false, 1) := by kernel_rfl
@[simp] theorem tk99 : tk Tryz.prog 99 = some (.other) := by kernel_rfl
@[simp] theorem ni99 : notInt Tryz.prog 99 = true := by kernel_rfl
@[simp] theorem sl100 : slInfo Tryz.prog 100 = none := by kernel_rfl
@[simp] theorem ag100 : agInfo Tryz.prog 100 = some (false, 1) := by kernel_rfl
@[simp] theorem tk100 : tk Tryz.prog 100 = some (.other) := by kernel_rfl
@[simp] theorem ni100 : notInt Tryz.prog 100 = true := by kernel_rfl
@[simp] theorem sl101 : slInfo Tryz.prog 101 = none := by kernel_rfl
@[simp] theorem ag101 : agInfo Tryz.prog 101 = some (false, 1) := by kernel_rfl
@[simp] theorem tk101 : tk Tryz.prog 101 = some (.other) := by kernel_rfl
@[simp] theorem ni101 : notInt Tryz.prog 101 = true := by kernel_rfl
@[simp] theorem sl102 : slInfo Tryz.prog 102 = none := by kernel_rfl
@[simp] theorem ag102 : agInfo Tryz.prog 102 = some (false, 1) := by kernel_rfl
@[simp] theorem tk102 : tk Tryz.prog 102 = some (.int .u64) := by kernel_rfl
@[simp] theorem ni102 : notInt Tryz.prog 102 = false := by kernel_rfl
@[simp] theorem z102 : zeroHV Tryz.prog 102 = some [.lit (.int .u64 0)] := by kernel_rfl
@[simp] theorem zo102 : zOneHV Tryz.prog 102 = some (.lit (.int .u64 0)) := by kernel_rfl
@[simp] theorem sl103 : slInfo Tryz.prog 103 = none := by kernel_rfl
@[simp] theorem ag103 : agInfo Tryz.prog 103 = some (false, 1) := by kernel_rfl
@[simp] theorem tk103 : tk Tryz.prog 103 = some (.other) := by kernel_rfl
@[simp] theorem ni103 : notInt Tryz.prog 103 = true := by kernel_rfl
@[simp] theorem sl104 : slInfo Tryz.prog 104 = none := by kernel_rfl
@[simp] theorem ag104 : agInfo Tryz.prog 104 = some (false, 1) := by kernel_rfl
@[simp] theorem tk104 : tk Tryz.prog 104 = some (.other) := by kernel_rfl
@[simp] theorem ni104 : notInt Tryz.prog 104 = true := by kernel_rfl
@[simp] theorem sl105 : slInfo Tryz.prog 105 = none := by kernel_rfl
@[simp] theorem ag105 : agInfo Tryz.prog 105 = some (false, 1) := by kernel_rfl
@[simp] theorem tk105 : tk Tryz.prog 105 = some (.other) := by kernel_rfl
@[simp] theorem ni105 : notInt Tryz.prog 105 = true := by kernel_rfl
@[simp] theorem sl106 : slInfo Tryz.prog 106 = none := by kernel_rfl
@[simp] theorem ag106 : agInfo Tryz.prog 106 = some (false, 1) := by kernel_rfl
@[simp] theorem tk106 : tk Tryz.prog 106 = some (.other) := by kernel_rfl
@[simp] theorem ni106 : notInt Tryz.prog 106 = true := by kernel_rfl
@[simp] theorem sl107 : slInfo Tryz.prog 107 = none := by kernel_rfl
@[simp] theorem ag107 : agInfo Tryz.prog 107 = some (false, 1) := by kernel_rfl
@[simp] theorem tk107 : tk Tryz.prog 107 = some (.other) := by kernel_rfl
@[simp] theorem ni107 : notInt Tryz.prog 107 = true := by kernel_rfl
@[simp] theorem sl108 : slInfo Tryz.prog 108 = none := by kernel_rfl
@[simp] theorem ag108 : agInfo Tryz.prog 108 = some (false, 1) := by kernel_rfl
@[simp] theorem tk108 : tk Tryz.prog 108 = some (.other) := by kernel_rfl
@[simp] theorem ni108 : notInt Tryz.prog 108 = true := by kernel_rfl
@[simp] theorem sl109 : slInfo Tryz.prog 109 = none := by kernel_rfl
@[simp] theorem ag109 : agInfo Tryz.prog 109 = some (false, 1) := by kernel_rfl
@[simp] theorem tk109 : tk Tryz.prog 109 = some (.other) := by kernel_rfl
@[simp] theorem ni109 : notInt Tryz.prog 109 = true := by kernel_rfl
@[simp] theorem sl110 : slInfo Tryz.prog 110 = none := by kernel_rfl
@[simp] theorem ag110 : agInfo Tryz.prog 110 = some (false, 1) := by kernel_rfl
@[simp] theorem tk110 : tk Tryz.prog 110 = some (.other) := by kernel_rfl
@[simp] theorem ni110 : notInt Tryz.prog 110 = true := by kernel_rfl
@[simp] theorem sl111 : slInfo Tryz.prog 111 = none := by kernel_rfl
@[simp] theorem ag111 : agInfo Tryz.prog 111 = some (false, 1) := by kernel_rfl
@[simp] theorem tk111 : tk Tryz.prog 111 = some (.other) := by kernel_rfl
@[simp] theorem ni111 : notInt Tryz.prog 111 = true := by kernel_rfl
@[simp] theorem sl112 : slInfo Tryz.prog 112 = none := by kernel_rfl
@[simp] theorem ag112 : agInfo Tryz.prog 112 = some (false, 1) := by kernel_rfl
@[simp] theorem tk112 : tk Tryz.prog 112 = some (.other) := by kernel_rfl
@[simp] theorem ni112 : notInt Tryz.prog 112 = true := by kernel_rfl
@[simp] theorem sl113 : slInfo Tryz.prog 113 = none := by kernel_rfl
@[simp] theorem ag113 : agInfo Tryz.prog 113 = some (false, 1) := by kernel_rfl
@[simp] theorem tk113 : tk Tryz.prog 113 = some (.other) := by kernel_rfl
@[simp] theorem ni113 : notInt Tryz.prog 113 = true := by kernel_rfl
@[simp] theorem sl114 : slInfo Tryz.prog 114 = none := by kernel_rfl
@[simp] theorem ag114 : agInfo Tryz.prog 114 = some (false, 1) := by kernel_rfl
@[simp] theorem tk114 : tk Tryz.prog 114 = some (.other) := by kernel_rfl
@[simp] theorem ni114 : notInt Tryz.prog 114 = true := by kernel_rfl
@[simp] theorem sl115 : slInfo Tryz.prog 115 = none := by kernel_rfl
@[simp] theorem ag115 : agInfo Tryz.prog 115 = some (false, 1) := by kernel_rfl
@[simp] theorem tk115 : tk Tryz.prog 115 = some (.other) := by kernel_rfl
@[simp] theorem ni115 : notInt Tryz.prog 115 = true := by kernel_rfl
@[simp] theorem sl116 : slInfo Tryz.prog 116 = none := by kernel_rfl
@[simp] theorem ag116 : agInfo Tryz.prog 116 = some (false, 1) := by kernel_rfl
@[simp] theorem tk116 : tk Tryz.prog 116 = some (.other) := by kernel_rfl
@[simp] theorem ni116 : notInt Tryz.prog 116 = true := by kernel_rfl
@[simp] theorem sl117 : slInfo Tryz.prog 117 = none := by kernel_rfl
@[simp] theorem ag117 : agInfo Tryz.prog 117 = some (false, 1) := by kernel_rfl
@[simp] theorem tk117 : tk Tryz.prog 117 = some (.other) := by kernel_rfl
@[simp] theorem ni117 : notInt Tryz.prog 117 = true := by kernel_rfl
@[simp] theorem sl118 : slInfo Tryz.prog 118 = none := by kernel_rfl
@[simp] theorem ag118 : agInfo Tryz.prog 118 = some (false, 1) := by kernel_rfl
@[simp] theorem tk118 : tk Tryz.prog 118 = some (.other) := by kernel_rfl
@[simp] theorem ni118 : notInt Tryz.prog 118 = true := by kernel_rfl
@[simp] theorem sl119 : slInfo Tryz.prog 119 = some (5, 1, 1) := by kernel_rfl
@[simp] theorem ag119 : agInfo Tryz.prog 119 = some (false, 1) := by kernel_rfl
@[simp] theorem tk119 : tk Tryz.prog 119 = some (.bytes) := by kernel_rfl
@[simp] theorem ni119 : notInt Tryz.prog 119 = true := by kernel_rfl
@[simp] theorem z119 : zeroHV Tryz.prog 119 = some [.sl 0 true []] := by kernel_rfl
@[simp] theorem zo119 : zOneHV Tryz.prog 119 = some (.sl 0 true []) := by kernel_rfl
@[simp] theorem sl120 : slInfo Tryz.prog 120 = none := by kernel_rfl
@[simp] theorem ag120 : agInfo Tryz.prog 120 = some (false, 1) := by kernel_rfl
@[simp] theorem tk120 : tk Tryz.prog 120 = some (.other) := by kernel_rfl
@[simp] theorem ni120 : notInt Tryz.prog 120 = true := by kernel_rfl
@[simp] theorem sl121 : slInfo Tryz.prog 121 = none := by kernel_rfl
@[simp] theorem ag121 : agInfo Tryz.prog 121 = some (false, 1) := by kernel_rfl
@[simp] theorem tk121 : tk Tryz.prog 121 = some (.other) := by kernel_rfl
@[simp] theorem ni121 : notInt Tryz.prog 121 = true := by kernel_rfl
@[simp] theorem sl122 : slInfo Tryz.prog 122 = none := by kernel_rfl
@[simp] theorem ag122 : agInfo Tryz.prog 122 = some (false, 1) := by kernel_rfl
@[simp] theorem tk122 : tk Tryz.prog 122 = some (.other) := by kernel_rfl
@[simp] theorem ni122 : notInt Tryz.prog 122 = true := by kernel_rfl
@[simp] theorem sl123 : slInfo Tryz.prog 123 = none := by kernel_rfl
@[simp] theorem ag123 : agInfo Tryz.prog 123 = some (false, 1) := by kernel_rfl
@[simp] theorem tk123 : tk Tryz.prog 123 = some (.int .i64) := by kernel_rfl
@[simp] theorem ni123 : notInt Tryz.prog 123 = false := by kernel_rfl
@[simp] theorem z123 : zeroHV Tryz.prog 123 = some [.lit (.int .i64 0)] := by kernel_rfl
@[simp] theorem zo123 : zOneHV Tryz.prog 123 = some (.lit (.int .i64 0)) := by kernel_rfl
@[simp] theorem sl124 : slInfo Tryz.prog 124 = none := by kernel_rfl
@[simp] theorem ag124 : agInfo Tryz.prog 124 = some (false, 1) := by kernel_rfl
@[simp] theorem tk124 : tk Tryz.prog 124 = some (.other) := by kernel_rfl
@[simp] theorem ni124 : notInt Tryz.prog 124 = true := by kernel_rfl
@[simp] theorem sl125 : slInfo Tryz.prog 125 = none := by kernel_rfl
@[simp] theorem ag125 : agInfo Tryz.prog 125 = some (false, 1) := by kernel_rfl
@[simp] theorem tk125 : tk Tryz.prog 125 = some (.other) := by kernel_rfl
@[simp] theorem ni125 : notInt Tryz.prog 125 = true := by kernel_rfl
@[simp] theorem sl126 : slInfo Tryz.prog 126 = none := by kernel_rfl
@[simp] theorem ag126 : agInfo Tryz.prog 126 = some (false, 1) := by kernel_rfl
@[simp] theorem tk126 : tk Tryz.prog 126 = some (.other) := by kernel_rfl
@[simp] theorem ni126 : notInt Tryz.prog 126 = true := by kernel_rfl
@[simp] theorem sl127 : slInfo Tryz.prog 127 = none := by kernel_rfl
@[simp] theorem ag127 : agInfo Tryz.prog 127 = some (false, 1) := by kernel_rfl
@[simp] theorem tk127 : tk Tryz.prog 127 = some (.other) := by kernel_rfl
@[simp] theorem ni127 : notInt Tryz.prog 127 = true := by kernel_rfl
@[simp] theorem sl128 : slInfo Tryz.prog 128 = none := by kernel_rfl
@[simp] theorem ag128 : agInfo Tryz.prog 128 = some (false, 1) := by kernel_rfl
@[simp] theorem tk128 : tk Tryz.prog 128 = some (.other) := by kernel_rfl
@[simp] theorem ni128 : notInt Tryz.prog 128 = true := by kernel_rfl
@[simp] theorem sl129 : slInfo Tryz.prog 129 = none := by kernel_rfl
@[simp] theorem ag129 : agInfo Tryz.prog 129 = some (false, 1) := by kernel_rfl
@[simp] theorem tk129 : tk Tryz.prog 129 = some (.other) := by kernel_rfl
@[simp] theorem ni129 : notInt Tryz.prog 129 = true := by kernel_rfl
@[simp] theorem sl130 : slInfo Tryz.prog 130 = none := by kernel_rfl
@[simp] theorem ag130 : agInfo Tryz.prog 130 = some (false, 1) := by kernel_rfl
@[simp] theorem tk130 : tk Tryz.prog 130 = some (.int .u32) := by kernel_rfl
@[simp] theorem ni130 : notInt Tryz.prog 130 = false := by kernel_rfl
@[simp] theorem z130 : zeroHV Tryz.prog 130 = some [.lit (.int .u32 0)] := by kernel_rfl
@[simp] theorem zo130 : zOneHV Tryz.prog 130 = some (.lit (.int .u32 0)) := by kernel_rfl
@[simp] theorem sl131 : slInfo Tryz.prog 131 = none := by kernel_rfl
@[simp] theorem ag131 : agInfo Tryz.prog 131 = some (false, 1) := by kernel_rfl
@[simp] theorem tk131 : tk Tryz.prog 131 = some (.other) := by kernel_rfl
@[simp] theorem ni131 : notInt Tryz.prog 131 = true := by kernel_rfl
@[simp] theorem sl132 : slInfo Tryz.prog 132 = none := by kernel_rfl
@[simp] theorem ag132 : agInfo Tryz.prog 132 = some (false, 1) := by kernel_rfl
@[simp] theorem tk132 : tk Tryz.prog 132 = some (.int .u64) := by kernel_rfl
@[simp] theorem ni132 : notInt Tryz.prog 132 = false := by kernel_rfl
@[simp] theorem z132 : zeroHV Tryz.prog 132 = some [.lit (.int .u64 0)] := by kernel_rfl
@[simp] theorem zo132 : zOneHV Tryz.prog 132 = some (.lit (.int .u64 0)) := by kernel_rfl
@[simp] theorem sl133 : slInfo Tryz.prog 133 = none := by kernel_rfl
@[simp] theorem ag133 : agInfo Tryz.prog 133 = some (false, 1) := by kernel_rfl
@[simp] theorem tk133 : tk Tryz.prog 133 = some (.other) := by kernel_rfl
@[simp] theorem ni133 : notInt Tryz.prog 133 = true := by kernel_rfl
@[simp] theorem sl134 : slInfo Tryz.prog 134 = none := by kernel_rfl
@[simp] theorem ag134 : agInfo Tryz.prog 134 = some (false, 1) := by kernel_rfl
@[simp] theorem tk134 : tk Tryz.prog 134 = some (.other) := by kernel_rfl
@[simp] theorem ni134 : notInt Tryz.prog 134 = true := by kernel_rfl
@[simp] theorem sl135 : slInfo Tryz.prog 135 = none := by kernel_rfl
@[simp] theorem ag135 : agInfo Tryz.prog 135 = some (false, 1) := by kernel_rfl
@[simp] theorem tk135 : tk Tryz.prog 135 = some (.other) := by kernel_rfl
@[simp] theorem ni135 : notInt Tryz.prog 135 = true := by kernel_rfl
@[simp] theorem sl136 : slInfo Tryz.prog 136 = none := by kernel_rfl
@[simp] theorem ag136 : agInfo Tryz.prog 136 = some (false, 1) := by kernel_rfl
@[simp] theorem tk136 : tk Tryz.prog 136 = some (.other) := by kernel_rfl
@[simp] theorem ni136 : notInt Tryz.prog 136 = true := by kernel_rfl
@[simp] theorem sl137 : slInfo Tryz.prog 137 = none := by kernel_rfl
@[simp] theorem ag137 : agInfo Tryz.prog 137 = some (false, 1) := by kernel_rfl
@[simp] theorem tk137 : tk Tryz.prog 137 = some (.other) := by kernel_rfl
@[simp] theorem ni137 : notInt Tryz.prog 137 = true := by kernel_rfl
@[simp] theorem sl138 : slInfo Tryz.prog 138 = none := by kernel_rfl
@[simp] theorem ag138 : agInfo Tryz.prog 138 = some (false, 1) := by kernel_rfl
@[simp] theorem tk138 : tk Tryz.prog 138 = some (.other) := by kernel_rfl
@[simp] theorem ni138 : notInt Tryz.prog 138 = true := by kernel_rfl
@[simp] theorem sl139 : slInfo Tryz.prog 139 = none := by kernel_rfl
@[simp] theorem ag139 : agInfo Tryz.prog 139 = some (false, 1) := by kernel_rfl
@[simp] theorem tk139 : tk Tryz.prog 139 = some (.other) := by kernel_rfl
@[simp] theorem ni139 : notInt Tryz.prog 139 = true := by kernel_rfl
@[simp] theorem sl140 : slInfo Tryz.prog 140 = none := by kernel_rfl
@[simp] theorem ag140 : agInfo Tryz.prog 140 = some (false, 1) := by kernel_rfl
@[simp] theorem tk140 : tk Tryz.prog 140 = some (.other) := by kernel_rfl
@[simp] theorem ni140 : notInt Tryz.prog 140 = true := by kernel_rfl
@[simp] theorem sl141 : slInfo Tryz.prog 141 = none := by kernel_rfl
@[simp] theorem ag141 : agInfo Tryz.prog 141 = some (false, 1) := by kernel_rfl
@[simp] theorem tk141 : tk Tryz.prog 141 = some (.other) := by kernel_rfl
@[simp] theorem ni141 : notInt Tryz.prog 141 = true := by kernel_rfl
@[simp] theorem sl142 : slInfo Tryz.prog 142 = none := by kernel_rfl
@[simp] theorem ag142 : agInfo Tryz.prog 142 = some (false, 1) := by kernel_rfl
@[simp] theorem tk142 : tk Tryz.prog 142 = some (.other) := by kernel_rfl
@[simp] theorem ni142 : notInt Tryz.prog 142 = true := by kernel_rfl
@[simp] theorem sl143 : slInfo Tryz.prog 143 = none := by kernel_rfl
@[simp] theorem ag143 : agInfo Tryz.prog 143 = some (false, 1) := by kernel_rfl
@[simp] theorem tk143 : tk Tryz.prog 143 = some (.other) := by kernel_rfl
@[simp] theorem ni143 : notInt Tryz.prog 143 = true := by kernel_rfl
@[simp] theorem sl144 : slInfo Tryz.prog 144 = none := by kernel_rfl
@[simp] theorem ag144 : agInfo Tryz.prog 144 = some (false, 1) := by kernel_rfl
@[simp] theorem tk144 : tk Tryz.prog 144 = some (.int .u64) := by kernel_rfl
@[simp] theorem ni144 : notInt Tryz.prog 144 = false := by kernel_rfl
@[simp] theorem z144 : zeroHV Tryz.prog 144 = some [.lit (.int .u64 0)] := by kernel_rfl
@[simp] theorem zo144 : zOneHV Tryz.prog 144 = some (.lit (.int .u64 0)) := by kernel_rfl
@[simp] theorem sl145 : slInfo Tryz.prog 145 = none := by kernel_rfl
@[simp] theorem ag145 : agInfo Tryz.prog 145 = some (false, 1) := by kernel_rfl
@[simp] theorem tk145 : tk Tryz.prog 145 = some (.other) := by kernel_rfl
@[simp] theorem ni145 : notInt Tryz.prog 145 = true := by kernel_rfl
@[simp] theorem sl146 : slInfo Tryz.prog 146 = none := by kernel_rfl
@[simp] theorem ag146 : agInfo Tryz.prog 146 = some (false, 1) := by kernel_rfl
@[simp] theorem tk146 : tk Tryz.prog 146 = some (.other) := by kernel_rfl
@[simp] theorem ni146 : notInt Tryz.prog 146 = true := by kernel_rfl
@[simp] theorem sl147 : slInfo Tryz.prog 147 = none := by kernel_rfl
@[simp] theorem ag147 : agInfo Tryz.prog 147 = some (false, 1) := by kernel_rfl
@[simp] theorem tk147 : tk Tryz.prog 147 = some (.other) := by kernel_rfl
@[simp] theorem ni147 : notInt Tryz.prog 147 = true := by kernel_rfl
@[simp] theorem sl148 : slInfo Tryz.prog 148 = none := by kernel_rfl
@[simp] theorem ag148 : agInfo Tryz.prog 148 = some (false, 1) := by kernel_rfl
@[simp] theorem tk148 : tk Tryz.prog 148 = some (.other) := by kernel_rfl
@[simp] theorem ni148 : notInt Tryz.prog 148 = true := by kernel_rfl
@[simp] theorem zo148 : zOneHV Tryz.prog 148 = some (.lit (.pointer none)) := by kernel_rfl
@[simp] theorem sl149 : slInfo Tryz.prog 149 = none := by kernel_rfl
@[simp] theorem ag149 : agInfo Tryz.prog 149 = some (false, 1) := by kernel_rfl
@[simp] theorem tk149 : tk Tryz.prog 149 = some (.other) := by kernel_rfl
@[simp] theorem ni149 : notInt Tryz.prog 149 = true := by kernel_rfl
@[simp] theorem sl150 : slInfo Tryz.prog 150 = none := by kernel_rfl
@[simp] theorem ag150 : agInfo Tryz.prog 150 = some (false, 1) := by kernel_rfl
@[simp] theorem tk150 : tk Tryz.prog 150 = some (.other) := by kernel_rfl
@[simp] theorem ni150 : notInt Tryz.prog 150 = true := by kernel_rfl
@[simp] theorem sl151 : slInfo Tryz.prog 151 = none := by kernel_rfl
@[simp] theorem ag151 : agInfo Tryz.prog 151 = some (false, 1) := by kernel_rfl
@[simp] theorem tk151 : tk Tryz.prog 151 = some (.other) := by kernel_rfl
@[simp] theorem ni151 : notInt Tryz.prog 151 = true := by kernel_rfl
@[simp] theorem sl152 : slInfo Tryz.prog 152 = none := by kernel_rfl
@[simp] theorem ag152 : agInfo Tryz.prog 152 = some (false, 1) := by kernel_rfl
@[simp] theorem tk152 : tk Tryz.prog 152 = some (.other) := by kernel_rfl
@[simp] theorem ni152 : notInt Tryz.prog 152 = true := by kernel_rfl
@[simp] theorem sl153 : slInfo Tryz.prog 153 = none := by kernel_rfl
@[simp] theorem ag153 : agInfo Tryz.prog 153 = some (false, 1) := by kernel_rfl
@[simp] theorem tk153 : tk Tryz.prog 153 = some (.other) := by kernel_rfl
@[simp] theorem ni153 : notInt Tryz.prog 153 = true := by kernel_rfl
@[simp] theorem sl154 : slInfo Tryz.prog 154 = none := by kernel_rfl
@[simp] theorem ag154 : agInfo Tryz.prog 154 = some (false, 1) := by kernel_rfl
@[simp] theorem tk154 : tk Tryz.prog 154 = some (.other) := by kernel_rfl
@[simp] theorem ni154 : notInt Tryz.prog 154 = true := by kernel_rfl
@[simp] theorem sl155 : slInfo Tryz.prog 155 = none := by kernel_rfl
@[simp] theorem ag155 : agInfo Tryz.prog 155 = some (false, 1) := by kernel_rfl
@[simp] theorem tk155 : tk Tryz.prog 155 = some (.other) := by kernel_rfl
@[simp] theorem ni155 : notInt Tryz.prog 155 = true := by kernel_rfl
@[simp] theorem sl156 : slInfo Tryz.prog 156 = none := by kernel_rfl
@[simp] theorem ag156 : agInfo Tryz.prog 156 = some (false, 1) := by kernel_rfl
@[simp] theorem tk156 : tk Tryz.prog 156 = some (.other) := by kernel_rfl
@[simp] theorem ni156 : notInt Tryz.prog 156 = true := by kernel_rfl
@[simp] theorem sl157 : slInfo Tryz.prog 157 = none := by kernel_rfl
@[simp] theorem ag157 : agInfo Tryz.prog 157 = some (false, 1) := by kernel_rfl
@[simp] theorem tk157 : tk Tryz.prog 157 = some (.other) := by kernel_rfl
@[simp] theorem ni157 : notInt Tryz.prog 157 = true := by kernel_rfl
@[simp] theorem sl158 : slInfo Tryz.prog 158 = none := by kernel_rfl
@[simp] theorem ag158 : agInfo Tryz.prog 158 = some (false, 1) := by kernel_rfl
@[simp] theorem tk158 : tk Tryz.prog 158 = some (.other) := by kernel_rfl
@[simp] theorem ni158 : notInt Tryz.prog 158 = true := by kernel_rfl
@[simp] theorem sl159 : slInfo Tryz.prog 159 = none := by kernel_rfl
@[simp] theorem ag159 : agInfo Tryz.prog 159 = some (false, 1) := by kernel_rfl
@[simp] theorem tk159 : tk Tryz.prog 159 = some (.other) := by kernel_rfl
@[simp] theorem ni159 : notInt Tryz.prog 159 = true := by kernel_rfl
@[simp] theorem zo159 : zOneHV Tryz.prog 159 = some (.lit (.pointer none)) := by kernel_rfl
@[simp] theorem sl160 : slInfo Tryz.prog 160 = none := by kernel_rfl
@[simp] theorem ag160 : agInfo Tryz.prog 160 = some (false, 1) := by kernel_rfl
@[simp] theorem tk160 : tk Tryz.prog 160 = some (.other) := by kernel_rfl
@[simp] theorem ni160 : notInt Tryz.prog 160 = true := by kernel_rfl
@[simp] theorem sl161 : slInfo Tryz.prog 161 = none := by kernel_rfl
@[simp] theorem ag161 : agInfo Tryz.prog 161 = some (false, 1) := by kernel_rfl
@[simp] theorem tk161 : tk Tryz.prog 161 = some (.other) := by kernel_rfl
@[simp] theorem ni161 : notInt Tryz.prog 161 = true := by kernel_rfl
@[simp] theorem sl162 : slInfo Tryz.prog 162 = none := by kernel_rfl
@[simp] theorem ag162 : agInfo Tryz.prog 162 = some (false, 1) := by kernel_rfl
@[simp] theorem tk162 : tk Tryz.prog 162 = some (.other) := by kernel_rfl
@[simp] theorem ni162 : notInt Tryz.prog 162 = true := by kernel_rfl
@[simp] theorem sl163 : slInfo Tryz.prog 163 = none := by kernel_rfl
@[simp] theorem ag163 : agInfo Tryz.prog 163 = some (false, 1) := by kernel_rfl
@[simp] theorem tk163 : tk Tryz.prog 163 = some (.other) := by kernel_rfl
@[simp] theorem ni163 : notInt Tryz.prog 163 = true := by kernel_rfl
@[simp] theorem sl164 : slInfo Tryz.prog 164 = none := by kernel_rfl
@[simp] theorem ag164 : agInfo Tryz.prog 164 = some (false, 1) := by kernel_rfl
@[simp] theorem tk164 : tk Tryz.prog 164 = some (.other) := by kernel_rfl
@[simp] theorem ni164 : notInt Tryz.prog 164 = true := by kernel_rfl
@[simp] theorem sl165 : slInfo Tryz.prog 165 = none := by kernel_rfl
@[simp] theorem ag165 : agInfo Tryz.prog 165 = some (false, 1) := by kernel_rfl
@[simp] theorem tk165 : tk Tryz.prog 165 = some (.other) := by kernel_rfl
@[simp] theorem ni165 : notInt Tryz.prog 165 = true := by kernel_rfl
@[simp] theorem sl166 : slInfo Tryz.prog 166 = none := by kernel_rfl
@[simp] theorem ag166 : agInfo Tryz.prog 166 = some (false, 1) := by kernel_rfl
@[simp] theorem tk166 : tk Tryz.prog 166 = some (.other) := by kernel_rfl
@[simp] theorem ni166 : notInt Tryz.prog 166 = true := by kernel_rfl
@[simp] theorem sl167 : slInfo Tryz.prog 167 = none := by kernel_rfl
@[simp] theorem ag167 : agInfo Tryz.prog 167 = some (false, 1) := by kernel_rfl
@[simp] theorem tk167 : tk Tryz.prog 167 = some (.other) := by kernel_rfl
@[simp] theorem ni167 : notInt Tryz.prog 167 = true := by kernel_rfl
@[simp] theorem sl168 : slInfo Tryz.prog 168 = none := by kernel_rfl
@[simp] theorem ag168 : agInfo Tryz.prog 168 = some (false, 1) := by kernel_rfl
@[simp] theorem tk168 : tk Tryz.prog 168 = some (.other) := by kernel_rfl
@[simp] theorem ni168 : notInt Tryz.prog 168 = true := by kernel_rfl
@[simp] theorem sl169 : slInfo Tryz.prog 169 = none := by kernel_rfl
@[simp] theorem ag169 : agInfo Tryz.prog 169 = some (false, 1) := by kernel_rfl
@[simp] theorem tk169 : tk Tryz.prog 169 = some (.other) := by kernel_rfl
@[simp] theorem ni169 : notInt Tryz.prog 169 = true := by kernel_rfl
@[simp] theorem sl170 : slInfo Tryz.prog 170 = none := by kernel_rfl
@[simp] theorem ag170 : agInfo Tryz.prog 170 = some (false, 1) := by kernel_rfl
@[simp] theorem tk170 : tk Tryz.prog 170 = some (.other) := by kernel_rfl
@[simp] theorem ni170 : notInt Tryz.prog 170 = true := by kernel_rfl
@[simp] theorem sl171 : slInfo Tryz.prog 171 = none := by kernel_rfl
@[simp] theorem ag171 : agInfo Tryz.prog 171 = some (false, 1) := by kernel_rfl
@[simp] theorem tk171 : tk Tryz.prog 171 = some (.other) := by kernel_rfl
@[simp] theorem ni171 : notInt Tryz.prog 171 = true := by kernel_rfl
@[simp] theorem sl172 : slInfo Tryz.prog 172 = none := by kernel_rfl
@[simp] theorem ag172 : agInfo Tryz.prog 172 = some (false, 1) := by kernel_rfl
@[simp] theorem tk172 : tk Tryz.prog 172 = some (.other) := by kernel_rfl
@[simp] theorem ni172 : notInt Tryz.prog 172 = true := by kernel_rfl
@[simp] theorem sl173 : slInfo Tryz.prog 173 = none := by kernel_rfl
@[simp] theorem ag173 : agInfo Tryz.prog 173 = some (false, 1) := by kernel_rfl
@[simp] theorem tk173 : tk Tryz.prog 173 = some (.other) := by kernel_rfl
@[simp] theorem ni173 : notInt Tryz.prog 173 = true := by kernel_rfl
@[simp] theorem sl174 : slInfo Tryz.prog 174 = none := by kernel_rfl
@[simp] theorem ar174 : arInfo Tryz.prog 174 = some (256, 5, 1) := by kernel_rfl
@[simp] theorem ag174 : agInfo Tryz.prog 174 = some (true, 256) := by kernel_rfl
@[simp] theorem tk174 : tk Tryz.prog 174 = some (.other) := by kernel_rfl
@[simp] theorem ni174 : notInt Tryz.prog 174 = true := by kernel_rfl
@[simp] theorem z174 : zeroHV Tryz.prog 174 = some [.lit (.int .u8 0), .lit (.int .u8 0), .lit (.int .u8 0), .lit (.int .u8 0), .lit (.int .u8 0), .lit (.int .u8 0), .lit (.int .u8 0), .lit (.int .u8 0), .lit (.int .u8 0), .lit (.int .u8 0), .lit (.int .u8 0), .lit (.int .u8 0), .lit (.int .u8 0), .lit (.int .u8 0), .lit (.int .u8 0), .lit (.int .u8 0), .lit (.int .u8 0), .lit (.int .u8 0), .lit (.int .u8 0), .lit (.int .u8 0), .lit (.int .u8 0), .lit (.int .u8 0), .lit (.int .u8 0), .lit (.int .u8 0), .lit (.int .u8 0), .lit (.int .u8 0), .lit (.int .u8 0), .lit (.int .u8 0), .lit (.int .u8 0), .lit (.int .u8 0), .lit (.int .u8 0), .lit (.int .u8 0), .lit (.int .u8 0), .lit (.int .u8 0), .lit (.int .u8 0), .lit (.int .u8 0), .lit (.int .u8 0), .lit (.int .u8 0), .lit (.int .u8 0), .lit (.int .u8 0), .lit (.int .u8 0), .lit (.int .u8 0), .lit (.int .u8 0), .lit (.int .u8 0), .lit (.int .u8 0), .lit (.int .u8 0), .lit (.int .u8 0), .lit (.int .u8 0), .lit (.int .u8 0), .lit (.int .u8 0), .lit (.int .u8 0), .lit (.int .u8 0), .lit (.int .u8 0), .lit (.int .u8 0), .lit (.int .u8 0), .lit (.int .u8 0), .lit (.int .u8 0), .lit (.int .u8 0), .lit (.int .u8 0), .lit (.int .u8 0), .lit (.int .u8 0), .lit (.int .u8 0), .lit (.int .u8 0), .lit (.int .u8 0), .lit (.int .u8 0), .lit (.int .u8 0), .lit (.int .u8 0), .lit (.int .u8 0), .lit (.int .u8 0), .lit (.int .u8 0), .lit (.int .u8 0), .lit (.int .u8 0), .lit (.int .u8 0), .lit (.int .u8 0), .lit (.int .u8 0), .lit (.int .u8 0), .lit (.int .u8 0), .lit (.int .u8 0), .lit (.int .u8 0), .lit (.int .u8 0), .lit (.int .u8 0), .lit (.int .u8 0), .lit (.int .u8 0), .lit (.int .u8 0), .lit (.int .u8 0), .lit (.int .u8 0), .lit (.int .u8 0), .lit (.int .u8 0), .lit (.int .u8 0), .lit (.int .u8 0), .lit (.int .u8 0), .lit (.int .u8 0), .lit (.int .u8 0), .lit (.int .u8 0), .lit (.int .u8 0), .lit (.int .u8 0), .lit (.int .u8 0), .lit (.int .u8 0), .lit (.int .u8 0), .lit (.int .u8 0), .lit (.int .u8 0), .lit (.int .u8 0), .lit (.int .u8 0), .lit (.int .u8 0), .lit (.int .u8 0), .lit (.int .u8 0), .lit (.int .u8 0), .lit (.int .u8 0), .lit (.int .u8 0), .lit (.int .u8 0), .lit (.int .u8 0), .lit (.int .u8 0), .lit (.int .u8 0), .lit (.int .u8 0), .lit (.int .u8 0), .lit (.int .u8 0), .lit (.int .u8 0), .lit (.int .u8 0), .lit (.int .u8 0), .lit (.int .u8 0), .lit (.int .u8 0), .lit (.int .u8 0), .lit (.int .u8 0), .lit (.int .u8 0), .lit (.int .u8 0), .lit (.int .u8 0), .lit (.int .u8 0), .lit (.int .u8 0), .lit (.int .u8 0), .lit (.int .u8 0), .lit (.int .u8 0), .lit (.int .u8 0), .lit (.int .u8 0), .lit (.int .u8 0), .lit (.int .u8 0), .lit (.int .u8 0), .lit (.int .u8 0), .lit (.int .u8 0), .lit (.int .u8 0), .lit (.int .u8 0), .lit (.int .u8 0), .lit (.int .u8 0), .lit (.int .u8 0), .lit (.int .u8 0), .lit (.int .u8 0), .lit (.int .u8 0), .lit (.int .u8 0), .lit (.int .u8 0), .lit (.int .u8 0), .lit (.int .u8 0), .lit (.int .u8 0), .lit (.int .u8 0), .lit (.int .u8 0), .lit (.int .u8 0), .lit (.int .u8 0), .lit (.int .u8 0), .lit (.int .u8 0), .lit (.int .u8 0), .lit (.int .u8 0), .lit (.int .u8 0), .lit (.int .u8 0), .lit (.int .u8 0), .lit (.int .u8 0), .lit (.int .u8 0), .lit (.int .u8 0), .lit (.int .u8 0), .lit (.int .u8 0), .lit (.int .u8 0), .lit (.int .u8 0), .lit (.int .u8 0), .lit (.int .u8 0), .lit (.int .u8 0), .lit (.int .u8 0), .lit (.int .u8 0), .lit (.int .u8 0), .lit (.int .u8 0), .lit (.int .u8 0), .lit (.int .u8 0), .lit (.int .u8 0), .lit (.int .u8 0), .lit (.int .u8 0), .lit (.int .u8 0), .lit (.int .u8 0), .lit (.int .u8 0), .lit (.int .u8 0), .lit (.int .u8 0), .lit (.int .u8 0), .lit (.int .u8 0), .lit (.int .u8 0), .lit (.int .u8 0), .lit (.int .u8 0), .lit (.int .u8 0), .lit (.int .u8 0), .lit (.int .u8 0), .lit (.int .u8 0), .lit (.int .u8 0), .lit (.int .u8 0), .lit (.int .u8 0), .lit (.int .u8 0), .lit (.int .u8 0), .lit (.int .u8 0), .lit (.int .u8 0), .lit (.int .u8 0), .lit (.int .u8 0), .lit (.int .u8 0), .lit (.int .u8 0), .lit (.int .u8 0), .lit (.int .u8 0), .lit (.int .u8 0), .lit (.int .u8 0), .lit (.int .u8 0), .lit (.int .u8 0), .lit (.int .u8 0), .lit (.int .u8 0), .lit (.int .u8 0), .lit (.int .u8 0), .lit (.int .u8 0), .lit (.int .u8 0), .lit (.int .u8 0), .lit (.int .u8 0), .lit (.int .u8 0), .lit (.int .u8 0), .lit (.int .u8 0), .lit (.int .u8 0), .lit (.int .u8 0), .lit (.int .u8 0), .lit (.int .u8 0), .lit (.int .u8 0), .lit (.int .u8 0), .lit (.int .u8 0), .lit (.int .u8 0), .lit (.int .u8 0), .lit (.int .u8 0), .lit (.int .u8 0), .lit (.int .u8 0), .lit (.int .u8 0), .lit (.int .u8 0), .lit (.int .u8 0), .lit (.int .u8 0), .lit (.int .u8 0), .lit (.int .u8 0), .lit (.int .u8 0), .lit (.int .u8 0), .lit (.int .u8 0), .lit (.int .u8 0), .lit (.int .u8 0), .lit (.int .u8 0), .lit (.int .u8 0), .lit (.int .u8 0), .lit (.int .u8 0), .lit (.int .u8 0), .lit (.int .u8 0), .lit (.int .u8 0), .lit (.int .u8 0), .lit (.int .u8 0), .lit (.int .u8 0)] := by kernel_rfl
@[simp] theorem zo174 : zOneHV Tryz.prog 174 = some (.agg [.lit (.int .u8 0), .lit (.int .u8 0), .lit (.int .u8 0), .lit (.int .u8 0), .lit (.int .u8 0), .lit (.int .u8 0), .lit (.int .u8 0), .lit (.int .u8 0), .lit (.int .u8 0), .lit (.int .u8 0), .lit (.int .u8 0), .lit (.int .u8 0), .lit (.int .u8 0), .lit (.int .u8 0), .lit (.int .u8 0), .lit (.int .u8 0), .lit (.int .u8 0), .lit (.int .u8 0), .lit (.int .u8 0), .lit (.int .u8 0), .lit (.int .u8 0), .lit (.int .u8 0), .lit (.int .u8 0), .lit (.int .u8 0), .lit (.int .u8 0), .lit (.int .u8 0), .lit (.int .u8 0), .lit (.int .u8 0), .lit (.int .u8 0), .lit (.int .u8 0), .lit (.int .u8 0), .lit (.int .u8 0), .lit (.int .u8 0), .lit (.int .u8 0), .lit (.int .u8 0), .lit (.int .u8 0), .lit (.int .u8 0), .lit (.int .u8 0), .lit (.int .u8 0), .lit (.int .u8 0), .lit (.int .u8 0), .lit (.int .u8 0), .lit (.int .u8 0), .lit (.int .u8 0), .lit (.int .u8 0), .lit (.int .u8 0), .lit (.int .u8 0), .lit (.int .u8 0), .lit (.int .u8 0), .lit (.int .u8 0), .lit (.int .u8 0), .lit (.int .u8 0), .lit (.int .u8 0), .lit (.int .u8 0), .lit (.int .u8 0), .lit (.int .u8 0), .lit (.int .u8 0), .lit (.int .u8 0), .lit (.int .u8 0), .lit (.int .u8 0), .lit (.int .u8 0), .lit (.int .u8 0), .lit (.int .u8 0), .lit (.int .u8 0), .lit (.int .u8 0), .lit (.int .u8 0), .lit (.int .u8 0), .lit (.int .u8 0), .lit (.int .u8 0), .lit (.int .u8 0), .lit (.int .u8 0), .lit (.int .u8 0), .lit (.int .u8 0), .lit (.int .u8 0), .lit (.int .u8 0), .lit (.int .u8 0), .lit (.int .u8 0), .lit (.int .u8 0), .lit (.int .u8 0), .lit (.int .u8 0), .lit (.int .u8 0), .lit (.int .u8 0), .lit (.int .u8 0), .lit (.int .u8 0), .lit (.int .u8 0), .lit (.int .u8 0), .lit (.int .u8 0), .lit (.int .u8 0), .lit (.int .u8 0), .lit (.int .u8 0), .lit (.int .u8 0), .lit (.int .u8 0), .lit (.int .u8 0), .lit (.int .u8 0), .lit (.int .u8 0), .lit (.int .u8 0), .lit (.int .u8 0), .lit (.int .u8 0), .lit (.int .u8 0), .lit (.int .u8 0), .lit (.int .u8 0), .lit (.int .u8 0), .lit (.int .u8 0), .lit (.int .u8 0), .lit (.int .u8 0), .lit (.int .u8 0), .lit (.int .u8 0), .lit (.int .u8 0), .lit (.int .u8 0), .lit (.int .u8 0), .lit (.int .u8 0), .lit (.int .u8 0), .lit (.int .u8 0), .lit (.int .u8 0), .lit (.int .u8 0), .lit (.int .u8 0), .lit (.int .u8 0), .lit (.int .u8 0), .lit (.int .u8 0), .lit (.int .u8 0), .lit (.int .u8 0), .lit (.int .u8 0), .lit (.int .u8 0), .lit (.int .u8 0), .lit (.int .u8 0), .lit (.int .u8 0), .lit (.int .u8 0), .lit (.int .u8 0), .lit (.int .u8 0), .lit (.int .u8 0), .lit (.int .u8 0), .lit (.int .u8 0), .lit (.int .u8 0), .lit (.int .u8 0), .lit (.int .u8 0), .lit (.int .u8 0), .lit (.int .u8 0), .lit (.int .u8 0), .lit (.int .u8 0), .lit (.int .u8 0), .lit (.int .u8 0), .lit (.int .u8 0), .lit (.int .u8 0), .lit (.int .u8 0), .lit (.int .u8 0), .lit (.int .u8 0), .lit (.int .u8 0), .lit (.int .u8 0), .lit (.int .u8 0), .lit (.int .u8 0), .lit (.int .u8 0), .lit (.int .u8 0), .lit (.int .u8 0), .lit (.int .u8 0), .lit (.int .u8 0), .lit (.int .u8 0), .lit (.int .u8 0), .lit (.int .u8 0), .lit (.int .u8 0), .lit (.int .u8 0), .lit (.int .u8 0), .lit (.int .u8 0), .lit (.int .u8 0), .lit (.int .u8 0), .lit (.int .u8 0), .lit (.int .u8 0), .lit (.int .u8 0), .lit (.int .u8 0), .lit (.int .u8 0), .lit (.int .u8 0), .lit (.int .u8 0), .lit (.int .u8 0), .lit (.int .u8 0), .lit (.int .u8 0), .lit (.int .u8 0), .lit (.int .u8 0), .lit (.int .u8 0), .lit (.int .u8 0), .lit (.int .u8 0), .lit (.int .u8 0), .lit (.int .u8 0), .lit (.int .u8 0), .lit (.int .u8 0), .lit (.int .u8 0), .lit (.int .u8 0), .lit (.int .u8 0), .lit (.int .u8 0), .lit (.int .u8 0), .lit (.int .u8 0), .lit (.int .u8 0), .lit (.int .u8 0), .lit (.int .u8 0), .lit (.int .u8 0), .lit (.int .u8 0), .lit (.int .u8 0), .lit (.int .u8 0), .lit (.int .u8 0), .lit (.int .u8 0), .lit (.int .u8 0), .lit (.int .u8 0), .lit (.int .u8 0), .lit (.int .u8 0), .lit (.int .u8 0), .lit (.int .u8 0), .lit (.int .u8 0), .lit (.int .u8 0), .lit (.int .u8 0), .lit (.int .u8 0), .lit (.int .u8 0), .lit (.int .u8 0), .lit (.int .u8 0), .lit (.int .u8 0), .lit (.int .u8 0), .lit (.int .u8 0), .lit (.int .u8 0), .lit (.int .u8 0), .lit (.int .u8 0), .lit (.int .u8 0), .lit (.int .u8 0), .lit (.int .u8 0), .lit (.int .u8 0), .lit (.int .u8 0), .lit (.int .u8 0), .lit (.int .u8 0), .lit (.int .u8 0), .lit (.int .u8 0), .lit (.int .u8 0), .lit (.int .u8 0), .lit (.int .u8 0), .lit (.int .u8 0), .lit (.int .u8 0), .lit (.int .u8 0), .lit (.int .u8 0), .lit (.int .u8 0), .lit (.int .u8 0), .lit (.int .u8 0), .lit (.int .u8 0), .lit (.int .u8 0), .lit (.int .u8 0), .lit (.int .u8 0), .lit (.int .u8 0), .lit (.int .u8 0), .lit (.int .u8 0), .lit (.int .u8 0), .lit (.int .u8 0), .lit (.int .u8 0), .lit (.int .u8 0), .lit (.int .u8 0), .lit (.int .u8 0), .lit (.int .u8 0), .lit (.int .u8 0), .lit (.int .u8 0), .lit (.int .u8 0), .lit (.int .u8 0), .lit (.int .u8 0), .lit (.int .u8 0)]) := by kernel_rfl
@[simp] theorem sl175 : slInfo Tryz.prog 175 = none := by kernel_rfl
@[simp] theorem ag175 : agInfo Tryz.prog 175 = some (true, 2) := by kernel_rfl
@[simp] theorem tk175 : tk Tryz.prog 175 = some (.other) := by kernel_rfl
@[simp] theorem ni175 : notInt Tryz.prog 175 = true := by kernel_rfl
@[simp] theorem z175 : zeroHV Tryz.prog 175 = some [.lit (.int .u8 0), .lit (.int .u8 0)] := by kernel_rfl
@[simp] theorem zo175 : zOneHV Tryz.prog 175 = some (.agg [.lit (.int .u8 0), .lit (.int .u8 0)]) := by kernel_rfl
@[simp] theorem fd175_0 : fdInfo Tryz.prog 175 0 = some (0, 1, false) := by kernel_rfl
@[simp] theorem fd175_1 : fdInfo Tryz.prog 175 1 = some (1, 1, false) := by kernel_rfl
@[simp] theorem pl175 : places Tryz.prog 175 = some [(0, 1), (1, 1)] := by kernel_rfl
@[simp] theorem sl176 : slInfo Tryz.prog 176 = none := by kernel_rfl
@[simp] theorem ag176 : agInfo Tryz.prog 176 = some (true, 2) := by kernel_rfl
@[simp] theorem tk176 : tk Tryz.prog 176 = some (.other) := by kernel_rfl
@[simp] theorem ni176 : notInt Tryz.prog 176 = true := by kernel_rfl
@[simp] theorem z176 : zeroHV Tryz.prog 176 = some [.lit (.int .u8 0), .lit (.int .u8 0)] := by kernel_rfl
@[simp] theorem zo176 : zOneHV Tryz.prog 176 = some (.agg [.lit (.int .u8 0), .lit (.int .u8 0)]) := by kernel_rfl
@[simp] theorem fd176_0 : fdInfo Tryz.prog 176 0 = some (0, 1, false) := by kernel_rfl
@[simp] theorem fd176_1 : fdInfo Tryz.prog 176 1 = some (1, 1, false) := by kernel_rfl
@[simp] theorem pl176 : places Tryz.prog 176 = some [(0, 1), (1, 1)] := by kernel_rfl
@[simp] theorem sl177 : slInfo Tryz.prog 177 = none := by kernel_rfl
@[simp] theorem ar177 : arInfo Tryz.prog 177 = some (16, 176, 2) := by kernel_rfl
@[simp] theorem ag177 : agInfo Tryz.prog 177 = some (true, 32) := by kernel_rfl
@[simp] theorem tk177 : tk Tryz.prog 177 = some (.other) := by kernel_rfl
@[simp] theorem ni177 : notInt Tryz.prog 177 = true := by kernel_rfl
@[simp] theorem z177 : zeroHV Tryz.prog 177 = some [.lit (.int .u8 0), .lit (.int .u8 0), .lit (.int .u8 0), .lit (.int .u8 0), .lit (.int .u8 0), .lit (.int .u8 0), .lit (.int .u8 0), .lit (.int .u8 0), .lit (.int .u8 0), .lit (.int .u8 0), .lit (.int .u8 0), .lit (.int .u8 0), .lit (.int .u8 0), .lit (.int .u8 0), .lit (.int .u8 0), .lit (.int .u8 0), .lit (.int .u8 0), .lit (.int .u8 0), .lit (.int .u8 0), .lit (.int .u8 0), .lit (.int .u8 0), .lit (.int .u8 0), .lit (.int .u8 0), .lit (.int .u8 0), .lit (.int .u8 0), .lit (.int .u8 0), .lit (.int .u8 0), .lit (.int .u8 0), .lit (.int .u8 0), .lit (.int .u8 0), .lit (.int .u8 0), .lit (.int .u8 0)] := by kernel_rfl
@[simp] theorem zo177 : zOneHV Tryz.prog 177 = some (.agg [.lit (.int .u8 0), .lit (.int .u8 0), .lit (.int .u8 0), .lit (.int .u8 0), .lit (.int .u8 0), .lit (.int .u8 0), .lit (.int .u8 0), .lit (.int .u8 0), .lit (.int .u8 0), .lit (.int .u8 0), .lit (.int .u8 0), .lit (.int .u8 0), .lit (.int .u8 0), .lit (.int .u8 0), .lit (.int .u8 0), .lit (.int .u8 0), .lit (.int .u8 0), .lit (.int .u8 0), .lit (.int .u8 0), .lit (.int .u8 0), .lit (.int .u8 0), .lit (.int .u8 0), .lit (.int .u8 0), .lit (.int .u8 0), .lit (.int .u8 0), .lit (.int .u8 0), .lit (.int .u8 0), .lit (.int .u8 0), .lit (.int .u8 0), .lit (.int .u8 0), .lit (.int .u8 0), .lit (.int .u8 0)]) := by kernel_rfl
@[simp] theorem sl178 : slInfo Tryz.prog 178 = none := by kernel_rfl
@[simp] theorem ag178 : agInfo Tryz.prog 178 = some (false, 1) := by kernel_rfl
@[simp] theorem tk178 : tk Tryz.prog 178 = some (.other) := by kernel_rfl
@[simp] theorem ni178 : notInt Tryz.prog 178 = true := by kernel_rfl
@[simp] theorem sl179 : slInfo Tryz.prog 179 = none := by kernel_rfl
@[simp] theorem ag179 : agInfo Tryz.prog 179 = some (true, 4) := by kernel_rfl
@[simp] theorem tk179 : tk Tryz.prog 179 = some (.other) := by kernel_rfl
@[simp] theorem ni179 : notInt Tryz.prog 179 = true := by kernel_rfl
@[simp] theorem z179 : zeroHV Tryz.prog 179 = some [.lit (.pointer none), .lit (.pointer none), .lit (.pointer none), .str []] := by kernel_rfl
@[simp] theorem zo179 : zOneHV Tryz.prog 179 = some (.agg [.lit (.pointer none), .lit (.pointer none), .lit (.pointer none), .str []]) := by kernel_rfl
@[simp] theorem fd179_0 : fdInfo Tryz.prog 179 0 = some (0, 1, false) := by kernel_rfl
@[simp] theorem fd179_1 : fdInfo Tryz.prog 179 1 = some (1, 1, false) := by kernel_rfl
@[simp] theorem fd179_2 : fdInfo Tryz.prog 179 2 = some (2, 1, false) := by kernel_rfl
@[simp] theorem fd179_3 : fdInfo Tryz.prog 179 3 = some (3, 1, false) := by kernel_rfl
@[simp] theorem pl179 : places Tryz.prog 179 = some [(0, 1), (1, 1), (2, 1), (3, 1)] := by kernel_rfl
@[simp] theorem sl180 : slInfo Tryz.prog 180 = none := by kernel_rfl
@[simp] theorem ag180 : agInfo Tryz.prog 180 = some (true, 4) := by kernel_rfl
@[simp] theorem tk180 : tk Tryz.prog 180 = some (.other) := by kernel_rfl
@[simp] theorem ni180 : notInt Tryz.prog 180 = true := by kernel_rfl
@[simp] theorem z180 : zeroHV Tryz.prog 180 = some [.lit (.pointer none), .lit (.pointer none), .lit (.pointer none), .str []] := by kernel_rfl
@[simp] theorem zo180 : zOneHV Tryz.prog 180 = some (.agg [.lit (.pointer none), .lit (.pointer none), .lit (.pointer none), .str []]) := by kernel_rfl
@[simp] theorem fd180_0 : fdInfo Tryz.prog 180 0 = some (0, 1, false) := by kernel_rfl
@[simp] theorem fd180_1 : fdInfo Tryz.prog 180 1 = some (1, 1, false) := by kernel_rfl
@[simp] theorem fd180_2 : fdInfo Tryz.prog 180 2 = some (2, 1, false) := by kernel_rfl
@[simp] theorem fd180_3 : fdInfo Tryz.prog 180 3 = some (3, 1, false) := by kernel_rfl
@[simp] theorem pl180 : places Tryz.prog 180 = some [(0, 1), (1, 1), (2, 1), (3, 1)] := by kernel_rfl
@[simp] theorem sl181 : slInfo Tryz.prog 181 = none := by kernel_rfl
@[simp] theorem ag181 : agInfo Tryz.prog 181 = some (true, 0) := by kernel_rfl
@[simp] theorem tk181 : tk Tryz.prog 181 = some (.other) := by kernel_rfl
@[simp] theorem ni181 : notInt Tryz.prog 181 = true := by kernel_rfl
@[simp] theorem z181 : zeroHV Tryz.prog 181 = some [] := by kernel_rfl
@[simp] theorem zo181 : zOneHV Tryz.prog 181 = some (.agg []) := by kernel_rfl
@[simp] theorem sl182 : slInfo Tryz.prog 182 = none := by kernel_rfl
@[simp] theorem ag182 : agInfo Tryz.prog 182 = some (true, 0) := by kernel_rfl
@[simp] theorem tk182 : tk Tryz.prog 182 = some (.other) := by kernel_rfl
@[simp] theorem ni182 : notInt Tryz.prog 182 = true := by kernel_rfl
@[simp] theorem z182 : zeroHV Tryz.prog 182 = some [] := by kernel_rfl
@[simp] theorem zo182 : zOneHV Tryz.prog 182 = some (.agg []) := by kernel_rfl
@[simp] theorem sl183 : slInfo Tryz.prog 183 = none := by kernel_rfl
@[simp] theorem ag183 : agInfo Tryz.prog 183 = some (true, 0) := by kernel_rfl
@[simp] theorem tk183 : tk Tryz.prog 183 = some (.other) := by kernel_rfl
@[simp] theorem ni183 : notInt Tryz.prog 183 = true := by kernel_rfl
@[simp] theorem z183 : zeroHV Tryz.prog 183 = some [] := by kernel_rfl
@[simp] theorem zo183 : zOneHV Tryz.prog 183 = some (.agg []) := by kernel_rfl
@[simp] theorem sl184 : slInfo Tryz.prog 184 = none := by kernel_rfl
@[simp] theorem ag184 : agInfo Tryz.prog 184 = some (false, 1) := by kernel_rfl
@[simp] theorem tk184 : tk Tryz.prog 184 = some (.other) := by kernel_rfl
@[simp] theorem ni184 : notInt Tryz.prog 184 = true := by kernel_rfl
@[simp] theorem sl185 : slInfo Tryz.prog 185 = none := by kernel_rfl
@[simp] theorem ag185 : agInfo Tryz.prog 185 = some (false, 1) := by kernel_rfl
@[simp] theorem tk185 : tk Tryz.prog 185 = some (.int .u8) := by kernel_rfl
@[simp] theorem ni185 : notInt Tryz.prog 185 = false := by kernel_rfl
@[simp] theorem z185 : zeroHV Tryz.prog 185 = some [.lit (.int .u8 0)] := by kernel_rfl
@[simp] theorem zo185 : zOneHV Tryz.prog 185 = some (.lit (.int .u8 0)) := by kernel_rfl
@[simp] theorem sl186 : slInfo Tryz.prog 186 = none := by kernel_rfl
@[simp] theorem ag186 : agInfo Tryz.prog 186 = some (false, 1) := by kernel_rfl
@[simp] theorem tk186 : tk Tryz.prog 186 = some (.int .u8) := by kernel_rfl
@[simp] theorem ni186 : notInt Tryz.prog 186 = false := by kernel_rfl
@[simp] theorem z186 : zeroHV Tryz.prog 186 = some [.lit (.int .u8 0)] := by kernel_rfl
@[simp] theorem zo186 : zOneHV Tryz.prog 186 = some (.lit (.int .u8 0)) := by kernel_rfl
@[simp] theorem sl187 : slInfo Tryz.prog 187 = none := by kernel_rfl
@[simp] theorem ag187 : agInfo Tryz.prog 187 = some (false, 1) := by kernel_rfl
@[simp] theorem tk187 : tk Tryz.prog 187 = some (.other) := by kernel_rfl
@[simp] theorem ni187 : notInt Tryz.prog 187 = true := by kernel_rfl
@[simp] theorem sl188 : slInfo Tryz.prog 188 = none := by kernel_rfl
@[simp] theorem ag188 : agInfo Tryz.prog 188 = some (false, 1) := by kernel_rfl
@[simp] theorem tk188 : tk Tryz.prog 188 = some (.other) := by kernel_rfl
@[simp] theorem ni188 : notInt Tryz.prog 188 = true := by kernel_rfl
@[simp] theorem zo188 : zOneHV Tryz.prog 188 = some (.lit (.pointer none)) := by kernel_rfl
@[simp] theorem sl189 : slInfo Tryz.prog 189 = none := by kernel_rfl
@[simp] theorem ag189 : agInfo Tryz.prog 189 = some (false, 1) := by kernel_rfl
@[simp] theorem tk189 : tk Tryz.prog 189 = some (.int .i32) := by kernel_rfl
@[simp] theorem ni189 : notInt Tryz.prog 189 = false := by kernel_rfl
@[simp] theorem z189 : zeroHV Tryz.prog 189 = some [.lit (.int .i32 0)] := by kernel_rfl
@[simp] theorem zo189 : zOneHV Tryz.prog 189 = some (.lit (.int .i32 0)) := by kernel_rfl
@[simp] theorem sl190 : slInfo Tryz.prog 190 = none := by kernel_rfl
@[simp] theorem ag190 : agInfo Tryz.prog 190 = some (false, 1) := by kernel_rfl
@[simp] theorem tk190 : tk Tryz.prog 190 = some (.int .i32) := by kernel_rfl
@[simp] theorem ni190 : notInt Tryz.prog 190 = false := by kernel_rfl
@[simp] theorem z190 : zeroHV Tryz.prog 190 = some [.lit (.int .i32 0)] := by kernel_rfl
@[simp] theorem zo190 : zOneHV Tryz.prog 190 = some (.lit (.int .i32 0)) := by kernel_rfl
@[simp] theorem sl191 : slInfo Tryz.prog 191 = none := by kernel_rfl
@[simp] theorem ag191 : agInfo Tryz.prog 191 = some (true, 11) := by kernel_rfl
@[simp] theorem tk191 : tk Tryz.prog 191 = some (.other) := by kernel_rfl
@[simp] theorem ni191 : notInt Tryz.prog 191 = true := by kernel_rfl
@[simp] theorem z191 : zeroHV Tryz.prog 191 = some [.lit (.int .u64 0), .lit (.int .u64 0), .lit (.int .u32 0), .lit (.int .u8 0), .lit (.int .u8 0), .lit (.int .u8 0), .lit (.int .u8 0), .lit .nilFunc, .lit (.pointer none), .lit (.int .i32 0), .lit (.int .i32 0)] := by kernel_rfl
@[simp] theorem zo191 : zOneHV Tryz.prog 191 = some (.agg [.lit (.int .u64 0), .lit (.int .u64 0), .lit (.int .u32 0), .lit (.int .u8 0), .lit (.int .u8 0), .lit (.int .u8 0), .lit (.int .u8 0), .lit .nilFunc, .lit (.pointer none), .lit (.int .i32 0), .lit (.int .i32 0)]) := by kernel_rfl
@[simp] theorem fd191_0 : fdInfo Tryz.prog 191 0 = some (0, 1, false) := by kernel_rfl
@[simp] theorem fd191_1 : fdInfo Tryz.prog 191 1 = some (1, 1, false) := by kernel_rfl
@[simp] theorem fd191_2 : fdInfo Tryz.prog 191 2 = some (2, 1, false) := by kernel_rfl
@[simp] theorem fd191_3 : fdInfo Tryz.prog 191 3 = some (3, 1, false) := by kernel_rfl
@[simp] theorem fd191_4 : fdInfo Tryz.prog 191 4 = some (4, 1, false) := by kernel_rfl
@[simp] theorem fd191_5 : fdInfo Tryz.prog 191 5 = some (5, 1, false) := by kernel_rfl
@[simp] theorem fd191_6 : fdInfo Tryz.prog 191 6 = some (6, 1, false) := by kernel_rfl
@[simp] theorem fd191_7 : fdInfo Tryz.prog 191 7 = some (7, 1, false) := by kernel_rfl
@[simp] theorem fd191_8 : fdInfo Tryz.prog 191 8 = some (8, 1, false) := by kernel_rfl
@[simp] theorem fd191_9 : fdInfo Tryz.prog 191 9 = some (9, 1, false) := by kernel_rfl
@[simp] theorem fd191_10 : fdInfo Tryz.prog 191 10 = some (10, 1, false) := by kernel_rfl
@[simp] theorem pl191 : places Tryz.prog 191 = some [(0, 1), (1, 1), (2, 1), (3, 1), (4, 1), (5, 1), (6, 1), (7, 1), (8, 1), (9, 1), (10, 1)] := by kernel_rfl
@[simp] theorem sl192 : slInfo Tryz.prog 192 = none := by kernel_rfl
@[simp] theorem ag192 : agInfo Tryz.prog 192 = some (true, 11) := by kernel_rfl
@[simp] theorem tk192 : tk Tryz.prog 192 = some (.other) := by kernel_rfl
@[simp] theorem ni192 : notInt Tryz.prog 192 = true := by kernel_rfl
@[simp] theorem z192 : zeroHV Tryz.prog 192 = some [.lit (.int .u64 0), .lit (.int .u64 0), .lit (.int .u32 0), .lit (.int .u8 0), .lit (.int .u8 0), .lit (.int .u8 0), .lit (.int .u8 0), .lit .nilFunc, .lit (.pointer none), .lit (.int .i32 0), .lit (.int .i32 0)] := by kernel_rfl
@[simp] theorem zo192 : zOneHV Tryz.prog 192 = some (.agg [.lit (.int .u64 0), .lit (.int .u64 0), .lit (.int .u32 0), .lit (.int .u8 0), .lit (.int .u8 0), .lit (.int .u8 0), .lit (.int .u8 0), .lit .nilFunc, .lit (.pointer none), .lit (.int .i32 0), .lit (.int .i32 0)]) := by kernel_rfl
@[simp] theorem fd192_0 : fdInfo Tryz.prog 192 0 = some (0, 1, false) := by kernel_rfl
@[simp] theorem fd192_1 : fdInfo Tryz.prog 192 1 = some (1, 1, false) := by kernel_rfl
@[simp] theorem fd192_2 : fdInfo Tryz.prog 192 2 = some (2, 1, false) := by kernel_rfl
@[simp] theorem fd192_3 : fdInfo Tryz.prog 192 3 = some (3, 1, false) := by kernel_rfl
@[simp] theorem fd192_4 : fdInfo Tryz.prog 192 4 = some (4, 1, false) := by kernel_rfl
@[simp] theorem fd192_5 : fdInfo Tryz.prog 192 5 = some (5, 1, false) := by kernel_rfl
@[simp] theorem fd192_6 : fdInfo Tryz.prog 192 6 = some (6, 1, false) := by kernel_rfl
@[simp] theorem fd192_7 : fdInfo Tryz.prog 192 7 = some (7, 1, false) := by kernel_rfl
@[simp] theorem fd192_8 : fdInfo Tryz.prog 192 8 = some (8, 1, false) := by kernel_rfl
@[simp] theorem fd192_9 : fdInfo Tryz.prog 192 9 = some (9, 1, false) := by kernel_rfl
@[simp] theorem fd192_10 : fdInfo Tryz.prog 192 10 = some (10, 1, false) := by kernel_rfl
@[simp] theorem pl192 : places Tryz.prog 192 = some [(0, 1), (1, 1), (2, 1), (3, 1), (4, 1), (5, 1), (6, 1), (7, 1), (8, 1), (9, 1), (10, 1)] := by kernel_rfl
@[simp] theorem sl193 : slInfo Tryz.prog 193 = none := by kernel_rfl
@[simp] theorem ag193 : agInfo Tryz.prog 193 = some (false, 1) := by kernel_rfl
@[simp] theorem tk193 : tk Tryz.prog 193 = some (.other) := by kernel_rfl
@[simp] theorem ni193 : notInt Tryz.prog 193 = true := by kernel_rfl
@[simp] theorem hb2 : hasBody Tryz.prog 2 = true := by kernel_rfl
@[simp] theorem hb3 : hasBody Tryz.prog 3 = true := by kernel_rfl
@[simp] theorem hb4 : hasBody Tryz.prog 4 = true := by kernel_rfl
@[simp] theorem hb5 : hasBody Tryz.prog 5 = true := by kernel_rfl
@[simp] theorem hb6 : hasBody Tryz.prog 6 = true := by kernel_rfl
@[simp] theorem hb7 : hasBody Tryz.prog 7 = true := by kernel_rfl
@[simp] theorem hb8 : hasBody Tryz.prog 8 = true := by kernel_rfl
@[simp] theorem hb9 : hasBody Tryz.prog 9 = true := by kernel_rfl
@[simp] theorem hb10 : hasBody Tryz.prog 10 = true := by kernel_rfl
@[simp] theorem hb11 : hasBody Tryz.prog 11 = true := by kernel_rfl
@[simp] theorem hb12 : hasBody Tryz.prog 12 = true := by kernel_rfl
@[simp] theorem hb13 : hasBody Tryz.prog 13 = true := by kernel_rfl
@[simp] theorem hb14 : hasBody Tryz.prog 14 = true := by kernel_rfl
@[simp] theorem hb15 : hasBody Tryz.prog 15 = true := by kernel_rfl
@[simp] theorem hb16 : hasBody Tryz.prog 16 = true := by kernel_rfl
@[simp] theorem hb17 : hasBody Tryz.prog 17 = true := by kernel_rfl
@[simp] theorem hb18 : hasBody Tryz.prog 18 = true := by kernel_rfl
@[simp] theorem hb19 : hasBody Tryz.prog 19 = true := by kernel_rfl
@[simp] theorem hb20 : hasBody Tryz.prog 20 = true := by kernel_rfl
@[simp] theorem hb21 : hasBody Tryz.prog 21 = true := by kernel_rfl
@[simp] theorem hb22 : hasBody Tryz.prog 22 = true := by kernel_rfl
@[simp] theorem hb23 : hasBody Tryz.prog 23 = true := by kernel_rfl
@[simp] theorem hb24 : hasBody Tryz.prog 24 = true := by kernel_rfl
@[simp] theorem hb25 : hasBody Tryz.prog 25 = true := by kernel_rfl
@[simp] theorem hb26 : hasBody Tryz.prog 26 = true := by kernel_rfl
@[simp] theorem hb27 : hasBody Tryz.prog 27 = true := by kernel_rfl
@[simp] theorem hb28 : hasBody Tryz.prog 28 = true := by kernel_rfl
@[simp] theorem hb29 : hasBody Tryz.prog 29 = true := by kernel_rfl
@[simp] theorem hb30 : hasBody Tryz.prog 30 = true := by kernel_rfl
@[simp] theorem hb31 : hasBody Tryz.prog 31 = true := by kernel_rfl
@[simp] theorem hb32 : hasBody Tryz.prog 32 = true := by kernel_rfl
@[simp] theorem hb33 : hasBody Tryz.prog 33 = true := by kernel_rfl
@[simp] theorem hb34 : hasBody Tryz.prog 34 = true := by kernel_rfl
@[simp] theorem hb35 : hasBody Tryz.prog 35 = true := by kernel_rfl
@[simp] theorem hb36 : hasBody Tryz.prog 36 = true := by kernel_rfl
@[simp] theorem hb37 : hasBody Tryz.prog 37 = true := by kernel_rfl
@[simp] theorem hb38 : hasBody Tryz.prog 38 = true := by kernel_rfl
@[simp] theorem hb39 : hasBody Tryz.prog 39 = true := by kernel_rfl
@[simp] theorem hb40 : hasBody Tryz.prog 40 = true := by kernel_rfl
@[simp] theorem hb41 : hasBody Tryz.prog 41 = true := by kernel_rfl
@[simp] theorem hb42 : hasBody Tryz.prog 42 = true := by kernel_rfl
@[simp] theorem hb43 : hasBody Tryz.prog 43 = true := by kernel_rfl
@[simp] theorem hb44 : hasBody Tryz.prog 44 = true := by kernel_rfl
@[simp] theorem hb45 : hasBody Tryz.prog 45 = true := by kernel_rfl
@[simp] theorem hb46 : hasBody Tryz.prog 46 = true := by kernel_rfl
@[simp] theorem hb47 : hasBody Tryz.prog 47 = true := by kernel_rfl
@[simp] theorem hb48 : hasBody Tryz.prog 48 = true := by kernel_rfl
@[simp] theorem hb49 : hasBody Tryz.prog 49 = true := by kernel_rfl
@[simp] theorem hb50 : hasBody Tryz.prog 50 = true := by kernel_rfl
@[simp] theorem hb51 : hasBody Tryz.prog 51 = true := by kernel_rfl
@[simp] theorem hb52 : hasBody Tryz.prog 52 = true := by kernel_rfl
@[simp] theorem hb53 : hasBody Tryz.prog 53 = true := by kernel_rfl
@[simp] theorem hb54 : hasBody Tryz.prog 54 = true := by kernel_rfl
@[simp] theorem hb55 : hasBody Tryz.prog 55 = true := by kernel_rfl
@[simp] theorem hb56 : hasBody Tryz.prog 56 = true := by kernel_rfl
@[simp] theorem hb57 : hasBody Tryz.prog 57 = true := by kernel_rfl
@[simp] theorem hb58 : hasBody Tryz.prog 58 = true := by kernel_rfl
@[simp] theorem hb59 : hasBody Tryz.prog 59 = true := by kernel_rfl
@[simp] theorem hb60 : hasBody Tryz.prog 60 = true := by kernel_rfl
@[simp] theorem hb61 : hasBody Tryz.prog 61 = true := by kernel_rfl
@[simp] theorem hb62 : hasBody Tryz.prog 62 = true := by kernel_rfl
@[simp] theorem hb63 : hasBody Tryz.prog 63 = true := by kernel_rfl
@[simp] theorem hb64 : hasBody Tryz.prog 64 = true := by kernel_rfl
@[simp] theorem hb65 : hasBody Tryz.prog 65 = true := by kernel_rfl
@[simp] theorem hb66 : hasBody Tryz.prog 66 = true := by kernel_rfl
@[simp] theorem hb67 : hasBody Tryz.prog 67 = true := by kernel_rfl
@[simp] theorem hb68 : hasBody Tryz.prog 68 = true := by kernel_rfl
@[simp] theorem hb69 : hasBody Tryz.prog 69 = true := by kernel_rfl
@[simp] theorem hb70 : hasBody Tryz.prog 70 = true := by kernel_rfl
@[simp] theorem hb71 : hasBody Tryz.prog 71 = true := by kernel_rfl
@[simp] theorem hb72 : hasBody Tryz.prog 72 = true := by kernel_rfl
@[simp] theorem hb73 : hasBody Tryz.prog 73 = true := by kernel_rfl
@[simp] theorem hb74 : hasBody Tryz.prog 74 = true := by kernel_rfl
@[simp] theorem hb75 : hasBody Tryz.prog 75 = true := by kernel_rfl
@[simp] theorem hb76 : hasBody Tryz.prog 76 = true := by kernel_rfl
@[simp] theorem hb77 : hasBody Tryz.prog 77 = true := by kernel_rfl
@[simp] theorem hb78 : hasBody Tryz.prog 78 = true := by kernel_rfl
@[simp] theorem hb79 : hasBody Tryz.prog 79 = true := by kernel_rfl
@[simp] theorem hb80 : hasBody Tryz.prog 80 = true := by kernel_rfl
@[simp] theorem hb81 : hasBody Tryz.prog 81 = true := by kernel_rfl
@[simp] theorem hb82 : hasBody Tryz.prog 82 = true := by kernel_rfl
@[simp] theorem hb83 : hasBody Tryz.prog 83 = true := by kernel_rfl
@[simp] theorem hb84 : hasBody Tryz.prog 84 = true := by kernel_rfl
@[simp] theorem hb85 : hasBody Tryz.prog 85 = true := by kernel_rfl
@[simp] theorem hb86 : hasBody Tryz.prog 86 = true := by kernel_rfl
@[simp] theorem hb87 : hasBody Tryz.prog 87 = true := by kernel_rfl
@[simp] theorem hb88 : hasBody Tryz.prog 88 = true := by kernel_rfl
@[simp] theorem hb89 : hasBody Tryz.prog 89 = true := by kernel_rfl
@[simp] theorem hb90 : hasBody Tryz.prog 90 = true := by kernel_rfl
@[simp] theorem hb91 : hasBody Tryz.prog 91 = true := by kernel_rfl
@[simp] theorem hb92 : hasBody Tryz.prog 92 = true := by kernel_rfl
@[simp] theorem hb93 : hasBody Tryz.prog 93 = true := by kernel_rfl
@[simp] theorem hb94 : hasBody Tryz.prog 94 = true := by kernel_rfl
@[simp] theorem hb95 : hasBody Tryz.prog 95 = true := by kernel_rfl
@[simp] theorem hb96 : hasBody Tryz.prog 96 = true := by kernel_rfl
@[simp] theorem hb97 : hasBody Tryz.prog 97 = true := by kernel_rfl
@[simp] theorem hb98 : hasBody Tryz.prog 98 = true := by kernel_rfl
@[simp] theorem hb99 : hasBody Tryz.prog 99 = true := by kernel_rfl
@[simp] theorem hb100 : hasBody Tryz.prog 100 = true := by kernel_rfl
@[simp] theorem hb101 : hasBody Tryz.prog 101 = true := by kernel_rfl
@[simp] theorem hb102 : hasBody Tryz.prog 102 = true := by kernel_rfl
@[simp] theorem hb103 : hasBody Tryz.prog 103 = true := by kernel_rfl
@[simp] theorem hb104 : hasBody Tryz.prog 104 = true := by kernel_rfl
@[simp] theorem hb105 : hasBody Tryz.prog 105 = true := by kernel_rfl
@[simp] theorem hb106 : hasBody Tryz.prog 106 = true := by kernel_rfl
@[simp] theorem hb107 : hasBody Tryz.prog 107 = true := by kernel_rfl
@[simp] theorem hb108 : hasBody Tryz.prog 108 = true := by kernel_rfl
@[simp] theorem hb109 : hasBody Tryz.prog 109 = true := by kernel_rfl
@[simp] theorem hb110 : hasBody Tryz.prog 110 = true := by kernel_rfl
@[simp] theorem hb111 : hasBody Tryz.prog 111 = true := by kernel_rfl
@[simp] theorem hb112 : hasBody Tryz.prog 112 = true := by kernel_rfl
@[simp] theorem hb113 : hasBody Tryz.prog 113 = true := by kernel_rfl
@[simp] theorem hb114 : hasBody Tryz.prog 114 = true := by kernel_rfl
@[simp] theorem hb115 : hasBody Tryz.prog 115 = true := by kernel_rfl
@[simp] theorem hb116 : hasBody Tryz.prog 116 = true := by kernel_rfl
@[simp] theorem hb117 : hasBody Tryz.prog 117 = true := by kernel_rfl
@[simp] theorem hb118 : hasBody Tryz.prog 118 = true := by kernel_rfl
@[simp] theorem hb119 : hasBody Tryz.prog 119 = true := by kernel_rfl
@[simp] theorem hb120 : hasBody Tryz.prog 120 = true := by kernel_rfl
@[simp] theorem hb121 : hasBody Tryz.prog 121 = true := by kernel_rfl
@[simp] theorem hb122 : hasBody Tryz.prog 122 = true := by kernel_rfl
@[simp] theorem hb123 : hasBody Tryz.prog 123 = true := by kernel_rfl
@[simp] theorem hb124 : hasBody Tryz.prog 124 = true := by kernel_rfl
@[simp] theorem hb125 : hasBody Tryz.prog 125 = true := by kernel_rfl
@[simp] theorem hb126 : hasBody Tryz.prog 126 = true := by kernel_rfl
@[simp] theorem hb127 : hasBody Tryz.prog 127 = true := by kernel_rfl
@[simp] theorem hb128 : hasBody Tryz.prog 128 = true := by kernel_rfl
@[simp] theorem hb129 : hasBody Tryz.prog 129 = true := by kernel_rfl
@[simp] theorem hb130 : hasBody Tryz.prog 130 = true := by kernel_rfl
@[simp] theorem hb131 : hasBody Tryz.prog 131 = true := by kernel_rfl
@[simp] theorem hb132 : hasBody Tryz.prog 132 = true := by kernel_rfl
@[simp] theorem hb133 : hasBody Tryz.prog 133 = true := by kernel_rfl
@[simp] theorem hb134 : hasBody Tryz.prog 134 = true := by kernel_rfl
@[simp] theorem hb135 : hasBody Tryz.prog 135 = true := by kernel_rfl
@[simp] theorem hb136 : hasBody Tryz.prog 136 = true := by kernel_rfl
@[simp] theorem hb137 : hasBody Tryz.prog 137 = true := by kernel_rfl
@[simp] theorem hb138 : hasBody Tryz.prog 138 = true := by kernel_rfl
@[simp] theorem hb139 : hasBody Tryz.prog 139 = true := by kernel_rfl
@[simp] theorem hb140 : hasBody Tryz.prog 140 = true := by kernel_rfl
@[simp] theorem hb141 : hasBody Tryz.prog 141 = true := by kernel_rfl
@[simp] theorem hb142 : hasBody Tryz.prog 142 = true := by kernel_rfl
@[simp] theorem hb143 : hasBody Tryz.prog 143 = true := by kernel_rfl
@[simp] theorem hb144 : hasBody Tryz.prog 144 = true := by kernel_rfl
@[simp] theorem hb145 : hasBody Tryz.prog 145 = true := by kernel_rfl
@[simp] theorem hb146 : hasBody Tryz.prog 146 = true := by kernel_rfl
@[simp] theorem hb147 : hasBody Tryz.prog 147 = true := by kernel_rfl
@[simp] theorem hb148 : hasBody Tryz.prog 148 = true := by kernel_rfl
@[simp] theorem hb149 : hasBody Tryz.prog 149 = true := by kernel_rfl
@[simp] theorem hb150 : hasBody Tryz.prog 150 = true := by kernel_rfl
@[simp] theorem hb151 : hasBody Tryz.prog 151 = true := by kernel_rfl
@[simp] theorem hb152 : hasBody Tryz.prog 152 = true := by kernel_rfl
@[simp] theorem hb153 : hasBody Tryz.prog 153 = true := by kernel_rfl
@[simp] theorem hb154 : hasBody Tryz.prog 154 = true := by kernel_rfl
@[simp] theorem hb155 : hasBody Tryz.prog 155 = true := by kernel_rfl
@[simp] theorem hb156 : hasBody Tryz.prog 156 = true := by kernel_rfl
@[simp] theorem hb157 : hasBody Tryz.prog 157 = true := by kernel_rfl
@[simp] theorem hb158 : hasBody Tryz.prog 158 = true := by kernel_rfl
@[simp] theorem hb159 : hasBody Tryz.prog 159 = true := by kernel_rfl
@[simp] theorem hb160 : hasBody Tryz.prog 160 = true := by kernel_rfl
@[simp] theorem hb161 : hasBody Tryz.prog 161 = true := by kernel_rfl
@[simp] theorem hb162 : hasBody Tryz.prog 162 = true := by kernel_rfl
@[simp] theorem hb163 : hasBody Tryz.prog 163 = true := by kernel_rfl
@[simp] theorem hb164 : hasBody Tryz.prog 164 = true := by kernel_rfl
@[simp] theorem hb165 : hasBody Tryz.prog 165 = true := by kernel_rfl
@[simp] theorem hb166 : hasBody Tryz.prog 166 = true := by kernel_rfl
@[simp] theorem hb167 : hasBody Tryz.prog 167 = true := by kernel_rfl
@[simp] theorem hb168 : hasBody Tryz.prog 168 = true := by kernel_rfl
@[simp] theorem hb169 : hasBody Tryz.prog 169 = true := by kernel_rfl
@[simp] theorem hb170 : hasBody Tryz.prog 170 = true := by kernel_rfl
@[simp] theorem hb171 : hasBody Tryz.prog 171 = true := by kernel_rfl
@[simp] theorem hb173 : hasBody Tryz.prog 173 = true := by kernel_rfl
@[simp] theorem hb174 : hasBody Tryz.prog 174 = true := by kernel_rfl
@[simp] theorem hb175 : hasBody Tryz.prog 175 = true := by kernel_rfl
@[simp] theorem hb176 : hasBody Tryz.prog 176 = true := by kernel_rfl
@[simp] theorem hb179 : hasBody Tryz.prog 179 = true := by kernel_rfl
@[simp] theorem hb180 : hasBody Tryz.prog 180 = true := by kernel_rfl
@[simp] theorem hb202 : hasBody Tryz.prog 202 = true := by kernel_rfl
end Go.Proofs.YtlbmbnpknobjdaaGreatDoor.Ty
set_option linter.unusedVariables false
set_option linter.unusedSectionVars false
set_option linter.unusedSimpArgs false
/- Lists of numbers, of strings, of trigrams with their offsets, as rows. -/
namespace Go.Hv
open Go Go.RowKit
variable [GI]
def intsHV (l : List Int) : List (List HV) := l.map fun x => [i64 x]
@[simp] theorem intsHV_length (l : List Int) : (intsHV l).length = l.length := by simp [intsHV]
@[simp] theorem intsHV_getElem (l : List Int) (k : Nat) (h : k < (intsHV l).length) : (intsHV l)[k] = (fun x => [i64 x]) (l[k]'(by simpa using h)) := by simp [intsHV]
@[simp] theorem intsHV_snoc (l : List Int) (x : Int) : intsHV l ++ [[i64 x]] = intsHV (l ++ [x]) := by simp [intsHV]
@[simp] theorem intsHV_nil : intsHV [] = [] := rfl
@[simp] theorem isILL_intsHV (l : List Int) : isILL (intsHV l) = true := by
  unfold intsHV
  rw [isILL_iff]
  intro x hx
  obtain ⟨a, _, rfl⟩ := List.mem_map.1 hx
  simp [isIL, isI]
def strsHV (l : List (List UInt8)) : List (List HV) := l.map fun x => [.str x]
@[simp] theorem strsHV_length (l : List (List UInt8)) : (strsHV l).length = l.length := by simp [strsHV]
@[simp] theorem strsHV_getElem (l : List (List UInt8)) (k : Nat) (h : k < (strsHV l).length) : (strsHV l)[k] = (fun x => [.str x]) (l[k]'(by simpa using h)) := by simp [strsHV]
@[simp] theorem strsHV_snoc (l : List (List UInt8)) (x : (List UInt8)) : strsHV l ++ [[.str x]] = strsHV (l ++ [x]) := by simp [strsHV]
@[simp] theorem strsHV_nil : strsHV [] = [] := rfl
@[simp] theorem isILL_strsHV (l : List (List UInt8)) : isILL (strsHV l) = true := by
  unfold strsHV
  rw [isILL_iff]
  intro x hx
  obtain ⟨a, _, rfl⟩ := List.mem_map.1 hx
  simp [isIL, isI]
theorem strsHV_mem {l : List (List UInt8)} {x : List HV} (h : x ∈ strsHV l) : ∃ a ∈ l, x = (fun x => [.str x]) a := by
  obtain ⟨a, ha, rfl⟩ := List.mem_map.1 h
  exact ⟨a, ha, rfl⟩
@[simp] theorem bytesHV_snoc (l : List UInt8) (x : UInt8) : bytesHV l ++ [[u8 x]] = bytesHV (l ++ [x]) := by simp [bytesHV]
@[simp] theorem tn2 (i : Nat) : ((i : Int) + 2).toNat = i + 2 := by omega
@[simp] theorem tn3 (i : Nat) : ((i : Int) + 3).toNat = i + 3 := by omega
@[simp] theorem tnAdd (i j : Nat) : ((i : Int) + (j : Int)).toNat = i + j := by omega
@[simp] theorem wrap_i64_u8 (c : UInt8) : IntKind.wrap .i64 (c.toNat : Int) = c.toNat := by
  have := c.toNat_lt
  exact wrap_i64 (by omega) (by omega)
@[simp] theorem min16 : min 16 (IntKind.bits .i64) = 16 := rfl
@[simp] theorem min8 : min 8 (IntKind.bits .i64) = 8 := rfl
structure Gram where
  code : Int
  off : List Int
  deriving DecidableEq
@[simp] def Gram.enc (g : Gram) : List HV := [i64 g.code, .sl 1 false (intsHV g.off)]
def gramsHV (l : List Gram) : List (List HV) := l.map fun x => x.enc
@[simp] theorem gramsHV_length (l : List Gram) : (gramsHV l).length = l.length := by simp [gramsHV]
@[simp] theorem gramsHV_getElem (l : List Gram) (k : Nat) (h : k < (gramsHV l).length) : (gramsHV l)[k] = (fun x => x.enc) (l[k]'(by simpa using h)) := by simp [gramsHV]
@[simp] theorem gramsHV_snoc (l : List Gram) (c : Int) (o : List Int) : gramsHV l ++ [[i64 c, .sl 1 false (intsHV o)]] = gramsHV (l ++ [⟨c, o⟩]) := by simp [gramsHV]
@[simp] theorem gramsHV_nil : gramsHV [] = [] := rfl
@[simp] theorem isILL_gramsHV (l : List Gram) : isILL (gramsHV l) = true := by
  unfold gramsHV
  rw [isILL_iff]
  intro x hx
  obtain ⟨a, _, rfl⟩ := List.mem_map.1 hx
  simp [isIL, isI]
theorem HLe.sl {sz : Nat} {f : Bool} {es es' : List (List HV)} (hl : es'.length = es.length) (h : ∀ (i : Nat) (x x' : List HV), es[i]? = some x → es'[i]? = some x' → HLeL x x') : HLe (.sl sz f es) (.sl sz f es') := by
  intro w dead v r
  cases r with
  | nil hf hA =>
    obtain rfl : es' = [] := List.eq_nil_of_length_eq_zero hl
    exact .nil hf hA
  | @sl _ _ _ cap b off g hsz hc hf hb hbl hcell h1 hh =>
    have key : ∀ (i : Nat) (x' : List HV), es'[i]? = some x' → ∃ x, es[i]? = some x ∧ HLeL x x' := fun i x' hx' => by
      have hi : i < es.length := by have := getElem?_lt hx'; omega
      exact ⟨_, List.getElem?_eq_getElem hi, h i _ x' (List.getElem?_eq_getElem hi) hx'⟩
    rw [← hl]
    refine .sl g (fun e he => ?_) (by omega) (fun h => by rw [hf h, hl]) hb hbl (fun i j hi hj => hcell i j (by omega) hj) (fun i j hi hj => h1 i j (by omega) hj) (fun i j e c he hc' => ?_)
    · obtain ⟨i, hi⟩ := List.mem_iff_getElem?.1 he
      obtain ⟨x, hx, hle⟩ := key i e hi
      rw [← hle.length]
      exact hsz x (List.mem_of_getElem? hx)
    · obtain ⟨x, hx, hle⟩ := key i e he
      obtain ⟨c0, hc0, hle'⟩ := hle.get j c hc'
      exact hle' _ _ _ (hh i j x c0 hx hc0)
end Go.Hv
set_option linter.unusedVariables false
/- Trigrams, in plain words: folded bytes, codes, the increasing list of the codes, their offsets. -/
namespace Go.Hv
def foldB (c : UInt8) : UInt8 := if 65 ≤ c ∧ c ≤ 90 then c + 32 else c
def foldS (s : List UInt8) : List UInt8 := s.map foldB
@[simp] theorem foldS_length (s : List UInt8) : (foldS s).length = s.length := by simp [foldS]
def code3 (a b c : UInt8) : Int := (a.toNat : Int) * 65536 + (b.toNat : Int) * 256 + (c.toNat : Int)
def codeAt (s : List UInt8) (i : Nat) : Int := code3 (foldB (s.getD i 0)) (foldB (s.getD (i + 1) 0)) (foldB (s.getD (i + 2) 0))
theorem code3_lt (a b c : UInt8) : 0 ≤ code3 a b c ∧ code3 a b c < 16777216 := by
  have := a.toNat_lt; have := b.toNat_lt; have := c.toNat_lt
  unfold code3; omega
theorem code3_inj {a b c a' b' c' : UInt8} (h : code3 a b c = code3 a' b' c') : a = a' ∧ b = b' ∧ c = c' := by
  have := a.toNat_lt; have := b.toNat_lt; have := c.toNat_lt; have := a'.toNat_lt; have := b'.toNat_lt; have := c'.toNat_lt
  unfold code3 at h
  exact ⟨UInt8.toNat_inj.1 (by omega), UInt8.toNat_inj.1 (by omega), UInt8.toNat_inj.1 (by omega)⟩
def ins (l : List Int) (n : Int) : List Int :=
  match l with
  | [] => [n]
  | x :: r => if x < n then x :: ins r n else if x = n then x :: r else n :: x :: r
def Inc (l : List Int) : Prop := l.Pairwise (· < ·)
theorem ins_mem (l : List Int) (n x : Int) : x ∈ ins l n ↔ x ∈ l ∨ x = n := by
  induction l with
  | nil => simp [ins]
  | cons y r ih =>
    unfold ins
    split
    · simp only [List.mem_cons, ih]
      constructor
      · rintro (h | h | h) <;> simp [h]
      · rintro ((h | h) | h) <;> simp [h]
    · split
      · next h => subst h; simp only [List.mem_cons]; constructor
                  · rintro (h | h) <;> simp [h]
                  · rintro ((h | h) | h) <;> simp [h]
      · simp only [List.mem_cons]; constructor
        · rintro (h | h | h) <;> simp [h]
        · rintro ((h | h) | h) <;> simp [h]
theorem ins_inc {l : List Int} (h : Inc l) (n : Int) : Inc (ins l n) := by
  induction l with
  | nil => simp [ins, Inc]
  | cons y r ih =>
    unfold Inc at h
    rw [List.pairwise_cons] at h
    have ih' := ih h.2
    unfold ins
    split
    · next hlt =>
      unfold Inc
      rw [List.pairwise_cons]
      refine ⟨fun z hz => ?_, ih'⟩
      rcases (ins_mem r n z).1 hz with hz | rfl
      · exact h.1 z hz
      · exact hlt
    · split
      · exact List.pairwise_cons.2 h
      · next h1 h2 =>
        refine List.pairwise_cons.2 ⟨fun z hz => ?_, List.pairwise_cons.2 h⟩
        rcases List.mem_cons.1 hz with rfl | hz
        · omega
        · have := h.1 z hz; omega
theorem inc_unique : ∀ {a b : List Int}, Inc a → Inc b → (∀ x, x ∈ a ↔ x ∈ b) → a = b
  | [], [], _, _, _ => rfl
  | [], y :: b, _, _, h => by have := (h y).2 (by simp); simp at this
  | x :: a, [], _, _, h => by have := (h x).1 (by simp); simp at this
  | x :: a, y :: b, ha, hb, h => by
    unfold Inc at ha hb
    rw [List.pairwise_cons] at ha hb
    have hxy : x = y := by
      have h1 := (h x).1 (by simp)
      have h2 := (h y).2 (by simp)
      rcases List.mem_cons.1 h1 with h1 | h1
      · exact h1
      · rcases List.mem_cons.1 h2 with h2 | h2
        · exact h2.symm
        · have := hb.1 x h1; have := ha.1 y h2; omega
    subst hxy
    have : a = b := inc_unique ha.2 hb.2 (fun z => by
      constructor
      · intro hz
        have h1 := (h z).1 (by simp [hz])
        rcases List.mem_cons.1 h1 with rfl | h1
        · have := ha.1 z hz; omega
        · exact h1
      · intro hz
        have h1 := (h z).2 (by simp [hz])
        rcases List.mem_cons.1 h1 with rfl | h1
        · have := hb.1 z hz; omega
        · exact h1)
    rw [this]
def ofK (s : List UInt8) (k : Nat) : List Int := ((List.range k).map (codeAt s)).foldl ins []
theorem ofK_succ (s : List UInt8) (k : Nat) : ofK s (k + 1) = ins (ofK s k) (codeAt s k) := by
  unfold ofK; rw [List.range_succ, List.map_append, List.foldl_append]; rfl
def ofV (s : List UInt8) : List Int := ofK s (s.length - 2)
theorem ofK_inc (s : List UInt8) (k : Nat) : Inc (ofK s k) := by
  induction k with
  | zero => simp [ofK, Inc]
  | succ k ih => rw [ofK_succ]; exact ins_inc ih _
theorem ofK_mem (s : List UInt8) (k : Nat) (c : Int) : c ∈ ofK s k ↔ ∃ i, i < k ∧ codeAt s i = c := by
  induction k with
  | zero => simp [ofK]
  | succ k ih =>
    rw [ofK_succ, ins_mem, ih]
    constructor
    · rintro (⟨i, h1, h2⟩ | rfl)
      · exact ⟨i, by omega, h2⟩
      · exact ⟨k, by omega, rfl⟩
    · rintro ⟨i, h1, h2⟩
      by_cases e : i = k
      · subst e; exact .inr h2.symm
      · exact .inl ⟨i, by omega, h2⟩
theorem ins_length (l : List Int) (n : Int) : (ins l n).length ≤ l.length + 1 := by
  induction l with
  | nil => simp [ins]
  | cons y r ih =>
    unfold ins
    split
    · simp; omega
    · split <;> simp
theorem ofK_length (s : List UInt8) (k : Nat) : (ofK s k).length ≤ k := by
  induction k with
  | zero => simp [ofK]
  | succ k ih => rw [ofK_succ]; have := ins_length (ofK s k) (codeAt s k); omega
def offK (s : List UInt8) (k : Nat) (c : Int) : List Int := ((List.range k).filter fun i => decide (codeAt s i = c)).map fun i : Nat => (i : Int)
theorem offK_succ (s : List UInt8) (k : Nat) (c : Int) : offK s (k + 1) c = offK s k c ++ (if codeAt s k = c then [(k : Int)] else []) := by
  unfold offK; rw [List.range_succ, List.filter_append, List.map_append]
  by_cases e : codeAt s k = c <;> simp [e]
theorem offK_length (s : List UInt8) (k : Nat) (c : Int) : (offK s k c).length ≤ k := by
  unfold offK; rw [List.length_map]; have := List.length_filter_le (fun i => decide (codeAt s i = c)) (List.range k); simpa using this
def gramsV (s : List UInt8) : List Gram := (ofV s).map fun c => ⟨c, offK s (s.length - 2) c⟩
def atV (l : List Gram) (c : Int) : List Int := match l.find? (fun g => decide (g.code = c)) with
  | some g => g.off
  | none => []
end Go.Hv
set_option linter.unusedVariables false
set_option linter.unusedSimpArgs false
namespace Go.Hv
open Go Go.Hv Go.Proofs
open Go.Proofs.YtlbmbnpknobjdaaGreatDoor
theorem foldB_lo {c : UInt8} (h : (c.toNat : Int) < 65) : foldB c = c := by
  unfold foldB; rw [if_neg]; rintro ⟨h1, h2⟩; rw [UInt8.le_iff_toNat_le] at h1; simp at h1; omega
theorem foldB_hi {c : UInt8} (h : 90 < (c.toNat : Int)) : foldB c = c := by
  unfold foldB; rw [if_neg]; rintro ⟨h1, h2⟩; rw [UInt8.le_iff_toNat_le] at h2; simp at h2; omega
theorem foldB_mid {c : UInt8} (h1 : 65 ≤ (c.toNat : Int)) (h2 : (c.toNat : Int) ≤ 90) : (foldB c).toNat = c.toNat + 32 := by
  have : 65 ≤ c ∧ c ≤ 90 := by simp only [UInt8.le_iff_toNat_le]; simp; omega
  unfold foldB; rw [if_pos this, UInt8.toNat_add]; simp; omega
def foldK (s : List UInt8) (k : Nat) : List UInt8 := foldS (s.take k) ++ s.drop k
@[simp] theorem foldK_length (s : List UInt8) (k : Nat) : (foldK s k).length = s.length := by simp [foldK]; omega
theorem foldK_zero (s : List UInt8) : foldK s 0 = s := by simp [foldK, foldS]
theorem foldK_all (s : List UInt8) : foldK s s.length = foldS s := by simp [foldK]
theorem foldK_get? (s : List UInt8) (k i : Nat) : (foldK s k)[i]? = if i < k then (s[i]?).map foldB else s[i]? := by
  unfold foldK foldS
  simp only [List.getElem?_append, List.length_map, List.length_take, List.getElem?_map, List.getElem?_take, List.getElem?_drop]
  by_cases h : i < k
  · by_cases h2 : i < s.length
    · simp [h, h2]; intro h3; omega
    · rw [if_neg (by omega), List.getElem?_eq_none (by omega), List.getElem?_eq_none (by omega)]; simp
  · rw [if_neg (by omega), if_neg h]
    by_cases h2 : k ≤ s.length
    · rw [Nat.min_eq_left h2, show k + (i - k) = i by omega]
    · rw [List.getElem?_eq_none (by omega), List.getElem?_eq_none (by omega)]
theorem foldK_get {s : List UInt8} {k : Nat} (h : k < s.length) (h' : k < (foldK s k).length) : (foldK s k)[k] = s[k] := by
  have := foldK_get? s k k
  rw [if_neg (Nat.lt_irrefl _), List.getElem?_eq_getElem h', List.getElem?_eq_getElem h] at this
  exact Option.some.inj this
theorem foldK_succ {s : List UInt8} {k : Nat} (h : k < s.length) : foldK s (k + 1) = (foldK s k).set k (foldB s[k]) := by
  apply List.ext_getElem?
  intro i
  rw [List.getElem?_set, foldK_get?, foldK_get?]
  by_cases e : k = i
  · subst e; simp [h]
  · rw [if_neg e]
    by_cases e2 : i < k
    · rw [if_pos e2, if_pos (by omega)]
    · rw [if_neg e2, if_neg (by omega)]
theorem bytesHV_set (l : List UInt8) (k : Nat) (b : UInt8) : (bytesHV l).set k [u8 b] = bytesHV (l.set k b) := by simp [bytesHV, List.map_set]
theorem foldK_same {s : List UInt8} {k : Nat} (h : k < s.length) (e : foldB s[k] = s[k]) : foldK s (k + 1) = foldK s k := by
  rw [foldK_succ h, e]
  apply List.ext_getElem?
  intro i
  rw [List.getElem?_set]
  split
  · next e' => subst e'; rw [if_pos (by simpa using h), List.getElem?_eq_getElem (by simpa using h), foldK_get h]
  · rfl
theorem fold_spec (c : UInt8) : Spec1 Tryz.prog 105 [u8 c] (u8 (foldB c)) := by
  refine Spec1.of_HT Tryz.func105 rfl (by rw [Tryz.ntmps105]; simp) rfl ?_
  rw [Tryz.ntmps105]
  refine HT.seq ?_
  refine HT.region ?_   -- R0
  simp (disch := first | omega | (simp <;> omega) | fail) [wrap_i64, wrap_u64, wrap_u8']
  refine HT.seq ?_
  refine HT.seq ?_
  by_cases c1 : (c.toNat : Int) < 65
  · skip
    refine HT.region ?_   -- R1
    simp (disch := first | omega | (simp <;> omega) | fail) [wrap_i64, wrap_u64, wrap_u8']
    refine HT.cond' ?_   -- if 8
    simp (disch := first | omega | (simp <;> omega) | fail) [wrap_i64, wrap_u64, wrap_u8']
    refine HT.skip ?_
    simp (disch := first | omega | (simp <;> omega) | fail) [wrap_i64, wrap_u64, wrap_u8']
    refine HT.seq ?_
    refine HT.region ?_   -- R3
    simp (disch := first | omega | (simp <;> omega) | fail) [wrap_i64, wrap_u64, wrap_u8']
    refine HT.ret ?_
    first | (simp (disch := first | omega | (simp <;> omega) | fail) [wrap_i64, wrap_u64, wrap_u8', foldB_lo, foldB_hi]; done) | (simp (disch := first | omega | (simp <;> omega) | fail) [wrap_i64, wrap_u64, wrap_u8', foldB_mid]; omega)
  by_cases c2 : 90 < (c.toNat : Int)
  · skip
    refine HT.region ?_   -- R1
    simp (disch := first | omega | (simp <;> omega) | fail) [wrap_i64, wrap_u64, wrap_u8']
    refine HT.cond' ?_   -- if 8
    simp (disch := first | omega | (simp <;> omega) | fail) [wrap_i64, wrap_u64, wrap_u8']
    refine HT.skip ?_
    simp (disch := first | omega | (simp <;> omega) | fail) [wrap_i64, wrap_u64, wrap_u8']
    refine HT.seq ?_
    refine HT.region ?_   -- R3
    simp (disch := first | omega | (simp <;> omega) | fail) [wrap_i64, wrap_u64, wrap_u8']
    refine HT.ret ?_
    first | (simp (disch := first | omega | (simp <;> omega) | fail) [wrap_i64, wrap_u64, wrap_u8', foldB_lo, foldB_hi]; done) | (simp (disch := first | omega | (simp <;> omega) | fail) [wrap_i64, wrap_u64, wrap_u8', foldB_mid]; omega)
  refine HT.region ?_   -- R1
  simp (disch := first | omega | (simp <;> omega) | fail) [wrap_i64, wrap_u64, wrap_u8']
  refine HT.cond' ?_   -- if 8
  simp (disch := first | omega | (simp <;> omega) | fail) [wrap_i64, wrap_u64, wrap_u8']
  refine HT.seq ?_
  refine HT.region ?_   -- R2
  simp (disch := first | omega | (simp <;> omega) | fail) [wrap_i64, wrap_u64, wrap_u8']
  refine HT.ret ?_
  first | (simp (disch := first | omega | (simp <;> omega) | fail) [wrap_i64, wrap_u64, wrap_u8', foldB_lo, foldB_hi]; done) | (simp (disch := first | omega | (simp <;> omega) | fail) [wrap_i64, wrap_u64, wrap_u8', foldB_mid]; omega)
theorem Fold_spec (s : List UInt8) (hs : s.length ≤ 140737488355328) : Spec1 Tryz.prog 67 [.str s] (.str (foldS s)) := by
  refine Spec1.of_HT Tryz.func67 rfl (by rw [Tryz.ntmps67]; simp) rfl ?_
  rw [Tryz.ntmps67]
  refine HT.seq ?_
  refine HT.region ?_   -- R0
  simp (disch := first | omega | (simp <;> omega) | fail) [wrap_i64, wrap_u64, wrap_u8']
  refine HT.seq ?_
  refine HT.region ?_   -- R1
  simp (disch := first | omega | (simp <;> omega) | fail) [wrap_i64, wrap_u64, wrap_u8']
  refine HT.seq ?_
  refine HT.seq ?_
  refine HT.region ?_   -- R2
  simp (disch := first | omega | (simp <;> omega) | fail) [wrap_i64, wrap_u64, wrap_u8']
  refine HT.block ?_
  refine HT.loopK (fun k : {k : Nat // k ≤ s.length} => [.s 10 (i64 k), .o 7 (.row 5 1 (bytesHV (foldK s k)))]) [3, 8, 9] [] (fun k => s.length - k) (⟨0, by omega⟩) ?_ ?_   -- block 0 turned [10, 18, 19]
  · simp (disch := first | omega | (simp <;> omega) | fail) [wrap_i64, wrap_u64, wrap_u8', foldK_zero]
  rintro ⟨k, hk⟩
  simp (disch := first | omega | (simp <;> omega) | fail) [wrap_i64, wrap_u64, wrap_u8']
  refine HT.seq ?_
  refine HT.region ?_   -- R3
  simp (disch := first | omega | (simp <;> omega) | fail) [wrap_i64, wrap_u64, wrap_u8']
  refine HT.seq ?_
  refine HT.cond' ?_   -- if 11
  simp (disch := first | omega | (simp <;> omega) | fail) [wrap_i64, wrap_u64, wrap_u8']
  refine ⟨fun h11 => ?_, fun h11 => ?_⟩
  · skip
    have hk' : k < s.length := by omega
    refine HT.skip ?_
    simp (disch := first | omega | (simp <;> omega) | fail) [wrap_i64, wrap_u64, wrap_u8']
    refine HT.seq ?_
    refine HT.block ?_
    refine HT.seq ?_
    refine HT.region ?_   -- R4
    simp (disch := first | omega | (simp <;> omega) | fail) [wrap_i64, wrap_u64, wrap_u8', foldK_get]
    refine HT.seq ?_
    by_cases c1 : (s[k].toNat : Int) < 65
    · skip
      refine HT.region ?_   -- R5
      simp (disch := first | omega | (simp <;> omega) | fail) [wrap_i64, wrap_u64, wrap_u8']
      refine HT.cond' ?_   -- if 20
      simp (disch := first | omega | (simp <;> omega) | fail) [wrap_i64, wrap_u64, wrap_u8']
      refine HT.skip ?_
      simp (disch := first | omega | (simp <;> omega) | fail) [wrap_i64, wrap_u64, wrap_u8']
      refine HT.region ?_   -- R7
      simp (disch := first | omega | (simp <;> omega) | fail) [wrap_i64, wrap_u64, wrap_u8']
      refine Round.mk' (⟨k + 1, by omega⟩) (by dsimp only; omega) rfl ?_
      simp (disch := first | omega | (simp <;> omega) | fail) [wrap_i64, wrap_u64, wrap_u8']
      first | rw [foldK_same hk' (foldB_lo c1)] | rw [foldK_same hk' (foldB_hi c2)] | (rw [foldK_succ hk', ← bytesHV_set, show (s[k].toNat : Int) + 97 - 65 = ((foldB s[k]).toNat : Int) by rw [foldB_mid (by omega) (by omega)]; omega])
    by_cases c2 : 90 < (s[k].toNat : Int)
    · skip
      refine HT.region ?_   -- R5
      simp (disch := first | omega | (simp <;> omega) | fail) [wrap_i64, wrap_u64, wrap_u8']
      refine HT.cond' ?_   -- if 20
      simp (disch := first | omega | (simp <;> omega) | fail) [wrap_i64, wrap_u64, wrap_u8']
      refine HT.skip ?_
      simp (disch := first | omega | (simp <;> omega) | fail) [wrap_i64, wrap_u64, wrap_u8']
      refine HT.region ?_   -- R7
      simp (disch := first | omega | (simp <;> omega) | fail) [wrap_i64, wrap_u64, wrap_u8']
      refine Round.mk' (⟨k + 1, by omega⟩) (by dsimp only; omega) rfl ?_
      simp (disch := first | omega | (simp <;> omega) | fail) [wrap_i64, wrap_u64, wrap_u8']
      first | rw [foldK_same hk' (foldB_lo c1)] | rw [foldK_same hk' (foldB_hi c2)] | (rw [foldK_succ hk', ← bytesHV_set, show (s[k].toNat : Int) + 97 - 65 = ((foldB s[k]).toNat : Int) by rw [foldB_mid (by omega) (by omega)]; omega])
    refine HT.region ?_   -- R5
    simp (disch := first | omega | (simp <;> omega) | fail) [wrap_i64, wrap_u64, wrap_u8']
    refine HT.cond' ?_   -- if 20
    simp (disch := first | omega | (simp <;> omega) | fail) [wrap_i64, wrap_u64, wrap_u8']
    refine HT.region ?_   -- R6
    simp (disch := first | omega | (simp <;> omega) | fail) [wrap_i64, wrap_u64, wrap_u8']
    refine HT.region ?_   -- R7
    simp (disch := first | omega | (simp <;> omega) | fail) [wrap_i64, wrap_u64, wrap_u8']
    refine Round.mk' (⟨k + 1, by omega⟩) (by dsimp only; omega) rfl ?_
    simp (disch := first | omega | (simp <;> omega) | fail) [wrap_i64, wrap_u64, wrap_u8']
    first | rw [foldK_same hk' (foldB_lo c1)] | rw [foldK_same hk' (foldB_hi c2)] | (rw [foldK_succ hk', ← bytesHV_set, show (s[k].toNat : Int) + 97 - 65 = ((foldB s[k]).toNat : Int) by rw [foldB_mid (by omega) (by omega)]; omega])
  · skip
    obtain rfl : k = s.length := by omega
    refine HT.exit ?_
    simp (disch := first | omega | (simp <;> omega) | fail) [wrap_i64, wrap_u64, wrap_u8']
    refine HT.seq ?_
    refine HT.region ?_   -- R8
    simp (disch := first | omega | (simp <;> omega) | fail) [wrap_i64, wrap_u64, wrap_u8', unbytes_bytesHV, foldK_all]
    refine HT.ret ?_
    simp (disch := first | omega | (simp <;> omega) | fail) [wrap_i64, wrap_u64, wrap_u8']
theorem getD_eq {s : List UInt8} {i : Nat} (h : i < s.length) : s.getD i 0 = s[i] := by simp [List.getD, h]
theorem codeAt_eq {s : List UInt8} {i : Nat} (h : i + 2 < s.length) : codeAt s i = code3 (foldB s[i]) (foldB s[i + 1]) (foldB s[i + 2]) := by
  unfold codeAt; rw [getD_eq (by omega), getD_eq (by omega), getD_eq h]
theorem shl_or (a b k : Nat) (hb : b < 2 ^ k) : (a * 2 ^ k) ||| b = a * 2 ^ k + b := by
  rw [← Nat.shiftLeft_eq, ← Nat.shiftLeft_add_eq_or_of_lt hb]
theorem bv_or {x y : Int} {n m : Nat} (hx : x = n) (hy : y = m) (hn : n < 2 ^ 40) (hm : m < 2 ^ 40) : IntKind.wrap .i64 (((BitVec.ofInt IntKind.i64.bits x) ||| (BitVec.ofInt IntKind.i64.bits y)).toNat : Int) = ((n ||| m : Nat) : Int) := by
  subst hx; subst hy
  have h1 : n ||| m < 2 ^ 40 := Nat.or_lt_two_pow hn hm
  have : ((BitVec.ofInt IntKind.i64.bits (n : Int)) ||| (BitVec.ofInt IntKind.i64.bits (m : Int))).toNat = n ||| m := by
    rw [BitVec.toNat_or, BitVec.ofInt_natCast, BitVec.ofInt_natCast, BitVec.toNat_ofNat, BitVec.toNat_ofNat, Nat.mod_eq_of_lt (by show n < 2 ^ 64; omega), Nat.mod_eq_of_lt (by show m < 2 ^ 64; omega)]
  rw [this, wrap_i64 (by omega) (by omega)]
theorem or_code (a b c : UInt8) : IntKind.wrap .i64 (((BitVec.ofInt IntKind.i64.bits (IntKind.wrap .i64 (((BitVec.ofInt IntKind.i64.bits ((a.toNat : Int) * 65536)) ||| (BitVec.ofInt IntKind.i64.bits ((b.toNat : Int) * 256))).toNat : Int))) ||| (BitVec.ofInt IntKind.i64.bits (c.toNat : Int))).toNat : Int) = code3 a b c := by
  have ha := a.toNat_lt; have hb := b.toNat_lt; have hc := c.toNat_lt
  have e1 : a.toNat * 65536 ||| b.toNat * 256 = (a.toNat * 256 + b.toNat) * 2 ^ 8 := by
    have h := shl_or a.toNat (b.toNat * 256) 16 (by omega)
    rw [show (2 : Nat) ^ 16 = 65536 by rfl] at h
    rw [h]; omega
  have e2 := bv_or (x := (a.toNat : Int) * 65536) (y := (b.toNat : Int) * 256) (n := a.toNat * 65536) (m := b.toNat * 256) (by omega) (by omega) (by omega) (by omega)
  rw [e2, e1]
  rw [bv_or (n := (a.toNat * 256 + b.toNat) * 2 ^ 8) (m := c.toNat) (by omega) (by omega) (by omega) (by omega), shl_or _ _ 8 (by omega)]
  unfold code3; omega
theorem refat_spec (s : List UInt8) (i : Nat) (h : i + 2 < s.length) (hs : s.length ≤ 140737488355328) : Spec1 Tryz.prog 66 [.str s, i64 i] (i64 (codeAt s i)) := by
  have h0 := (foldB s[i]).toNat_lt; have h1 := (foldB s[i + 1]).toNat_lt; have h2 := (foldB s[i + 2]).toNat_lt
  refine Spec1.of_HT Tryz.func66 rfl (by rw [Tryz.ntmps66]; simp) rfl ?_
  rw [Tryz.ntmps66]
  refine HT.seq ?_
  refine HT.region ?_   -- R0
  simp (disch := first | omega | (simp <;> omega) | fail) [wrap_i64, wrap_u64, wrap_u8']
  refine HT.seq ?_
  refine HT.draw [.batch [0, 1, 2, 3, 4, 5, 6, 7, 8, 9, 10, 11, 12, 13, 14, 15, 16, 17, 18, 19, 20, 21]] (by kernel_rfl) ?_   -- R1
  simp (disch := first | omega | (simp <;> omega) | fail) [wrap_i64, wrap_u64, wrap_u8']
  refine stepK.mk (.call1 _ _ _ rfl Ty.hb105 rfl rfl (fold_spec _)) ?_
  simp (disch := first | omega | (simp <;> omega) | fail) [wrap_i64, wrap_u64, wrap_u8']
  refine stepK.mk (.call1 _ _ _ rfl Ty.hb105 rfl rfl (fold_spec _)) ?_
  simp (disch := first | omega | (simp <;> omega) | fail) [wrap_i64, wrap_u64, wrap_u8']
  refine stepK.mk (.call1 _ _ _ rfl Ty.hb105 rfl rfl (fold_spec _)) ?_
  simp (disch := first | omega | (simp <;> omega) | fail) [wrap_i64, wrap_u64, wrap_u8']
  refine HT.ret ?_
  simp (disch := first | omega | (simp <;> omega) | fail) [wrap_i64, wrap_u64, wrap_u8', codeAt_eq h, code3]
theorem code_spec (s : List UInt8) (i : Nat) (h : i + 2 < s.length) (hs : s.length ≤ 140737488355328) : Spec1 Tryz.prog 110 [.str s, i64 i] (i64 (code3 s[i] s[i + 1] s[i + 2])) := by
  have h0 := s[i].toNat_lt; have h1 := s[i + 1].toNat_lt; have h2 := s[i + 2].toNat_lt
  refine Spec1.of_HT Tryz.func110 rfl (by rw [Tryz.ntmps110]; simp) rfl ?_
  rw [Tryz.ntmps110]
  refine HT.seq ?_
  refine HT.region ?_   -- R0
  simp (disch := first | omega | (simp <;> omega) | fail) [wrap_i64, wrap_u64, wrap_u8', -BitVec.toNat_or, -BitVec.toNat_ofInt, -BitVec.ofInt_natCast]
  refine HT.seq ?_
  refine HT.draw [.batch [0, 1, 2, 3, 4, 5, 6, 7, 8, 9, 10, 11, 12, 13, 14, 15, 16, 17, 18]] (by kernel_rfl) ?_   -- R1
  simp (disch := first | omega | (simp <;> omega) | fail) [wrap_i64, wrap_u64, wrap_u8', -BitVec.toNat_or, -BitVec.toNat_ofInt, -BitVec.ofInt_natCast]
  refine HT.ret ?_
  simp (disch := first | omega | (simp <;> omega) | fail) [wrap_i64, wrap_u64, wrap_u8', -BitVec.toNat_or, -BitVec.toNat_ofInt, -BitVec.ofInt_natCast, or_code]
theorem foldS_get {s : List UInt8} {i : Nat} (h : i < s.length) (h' : i < (foldS s).length) : (foldS s)[i] = foldB s[i] := by simp [foldS]
def codeV (s : List UInt8) : Int := if s.length = 3 then codeAt s 0 else 0
theorem codeAt_foldS {s : List UInt8} {i : Nat} (h : i + 2 < s.length) : codeAt s i = code3 ((foldS s)[i]'(by simp; omega)) ((foldS s)[i + 1]'(by simp; omega)) ((foldS s)[i + 2]'(by simp; omega)) := by
  rw [codeAt_eq h, foldS_get (by omega), foldS_get (by omega), foldS_get h]
end Go.Hv
set_option linter.unusedVariables false
set_option linter.unusedSimpArgs false
namespace Go.Hv
open Go Go.Hv Go.Proofs
open Go.Proofs.YtlbmbnpknobjdaaGreatDoor
theorem atV_cons (g : Gram) (l : List Gram) (c : Int) : atV (g :: l) c = if g.code = c then g.off else atV l c := by
  unfold atV
  by_cases h : g.code = c <;> simp [h]
theorem atV_drop {l : List Gram} {k : Nat} (h : k < l.length) (c : Int) : atV (l.drop k) c = if l[k].code = c then l[k].off else atV (l.drop (k + 1)) c := by
  rw [List.drop_eq_getElem_cons h, atV_cons]
theorem refAt_spec (f : Bool) (l : List Gram) (c : Int) (hl : l.length ≤ 140737488355328) : Spec1 Tryz.prog 46 [.sl 2 f (gramsHV l), i64 c] (.sl 1 false (intsHV (atV l c))) := by
  refine Spec1.of_HT Tryz.func46 rfl (by rw [Tryz.ntmps46]; simp) rfl ?_
  rw [Tryz.ntmps46]
  refine HT.seq ?_
  refine HT.region ?_   -- R0
  simp (disch := first | omega | (simp <;> omega) | fail) [wrap_i64, wrap_u64, wrap_u8']
  refine HT.seq ?_
  refine HT.seq ?_
  refine HT.region ?_   -- R1
  simp (disch := first | omega | (simp <;> omega) | fail) [wrap_i64, wrap_u64, wrap_u8']
  refine HT.block ?_
  refine HT.loopK (fun k : {k : Nat // k ≤ l.length ∧ atV l c = atV (l.drop k) c} => [.s 5 (i64 k)]) [0, 1] [] (fun k => l.length - k) (⟨0, by simp⟩) ?_ ?_   -- block 0 turned [5]
  · simp (disch := first | omega | (simp <;> omega) | fail) [wrap_i64, wrap_u64, wrap_u8']
  rintro ⟨k, hk, hg⟩
  simp (disch := first | omega | (simp <;> omega) | fail) [wrap_i64, wrap_u64, wrap_u8']
  refine HT.seq ?_
  refine HT.seq ?_
  refine HT.region ?_   -- R2
  simp (disch := first | omega | (simp <;> omega) | fail) [wrap_i64, wrap_u64, wrap_u8']
  refine HT.cond' ?_   -- if 9
  simp (disch := first | omega | (simp <;> omega) | fail) [wrap_i64, wrap_u64, wrap_u8']
  refine ⟨fun h9 => ?_, fun h9 => ?_⟩
  · skip
    have hk' : k < l.length := by omega
    rw [atV_drop hk'] at hg
    refine HT.skip ?_
    simp (disch := first | omega | (simp <;> omega) | fail) [wrap_i64, wrap_u64, wrap_u8']
    refine HT.seq ?_
    refine HT.block ?_
    refine HT.seq ?_
    refine HT.region ?_   -- R4
    simp (disch := first | omega | (simp <;> omega) | fail) [wrap_i64, wrap_u64, wrap_u8']
    refine HT.cond' ?_   -- if 18
    simp (disch := first | omega | (simp <;> omega) | fail) [wrap_i64, wrap_u64, wrap_u8']
    refine ⟨fun h18 => ?_, fun h18 => ?_⟩
    · skip
      refine HT.seq ?_
      refine HT.region ?_   -- R5
      simp (disch := first | omega | (simp <;> omega) | fail) [wrap_i64, wrap_u64, wrap_u8']
      refine HT.ret ?_
      simp (disch := first | omega | (simp <;> omega) | fail) [wrap_i64, wrap_u64, wrap_u8', hg, h18]
    · skip
      refine HT.skip ?_
      simp (disch := first | omega | (simp <;> omega) | fail) [wrap_i64, wrap_u64, wrap_u8']
      refine HT.region ?_   -- R3
      simp (disch := first | omega | (simp <;> omega) | fail) [wrap_i64, wrap_u64, wrap_u8']
      refine Round.mk' (⟨k + 1, by omega, by rw [hg, if_neg h18]⟩) (by dsimp only; omega) rfl ?_
      simp (disch := first | omega | (simp <;> omega) | fail) [wrap_i64, wrap_u64, wrap_u8']
  · skip
    obtain rfl : k = l.length := by omega
    rw [List.drop_length] at hg
    refine HT.exit ?_
    simp (disch := first | omega | (simp <;> omega) | fail) [wrap_i64, wrap_u64, wrap_u8']
    refine HT.seq ?_
    refine HT.region ?_   -- R6
    simp (disch := first | omega | (simp <;> omega) | fail) [wrap_i64, wrap_u64, wrap_u8']
    refine HT.weaken (HS.le_wk 4 (.sl 1 false []) (by decide) rfl rfl (HLe.nilf 0 1 true)) ?_
    refine HT.ret ?_
    simp (disch := first | omega | (simp <;> omega) | fail) [wrap_i64, wrap_u64, wrap_u8', hg, show atV [] c = [] from rfl]
end Go.Hv
set_option linter.unusedVariables false
set_option linter.unusedSimpArgs false
namespace Go.Hv
open Go Go.Hv Go.Proofs
open Go.Proofs.YtlbmbnpknobjdaaGreatDoor
theorem ins_at {l : List Int} {n : Int} : ∀ {k : Nat}, k ≤ l.length → (∀ x ∈ l.take k, x < n) → (∀ x, l[k]? = some x → n ≤ x) → ins l n = if l[k]? = some n then l else l.take k ++ n :: l.drop k := by
  induction l with
  | nil => intro k hk h1 h2; simp at hk; subst hk; simp [ins]
  | cons y r ih =>
    intro k hk h1 h2
    cases k with
    | zero =>
      have := h2 y rfl
      unfold ins
      rw [if_neg (by omega)]
      by_cases e : y = n
      · simp [e]
      · simp [e]
    | succ k =>
      have hy := h1 y (by simp)
      unfold ins
      rw [if_pos hy, ih (k := k) (by simpa using hk) (fun x hx => h1 x (by simp [hx])) (fun x hx => h2 x (by simpa using hx))]
      simp only [List.getElem?_cons_succ]
      split <;> simp
set_option maxHeartbeats 1000000 in
theorem insert_spec (l : List Int) (n : Int) (hl : l.length ≤ 1000000) : Spec1 Tryz.prog 71 [.sl 1 false (intsHV l), i64 n] (.sl 1 false (intsHV (ins l n))) := by
  refine Spec1.of_HT Tryz.func71 rfl (by rw [Tryz.ntmps71]; simp) rfl ?_
  rw [Tryz.ntmps71]
  refine HT.seq ?_
  refine HT.region ?_   -- R0
  simp (disch := first | omega | (simp <;> omega) | fail) [wrap_i64, wrap_u64, wrap_u8']
  refine HT.seq ?_
  refine HT.region ?_   -- R1
  simp (disch := first | omega | (simp <;> omega) | fail) [wrap_i64, wrap_u64, wrap_u8']
  refine HT.joinX (fun p : {k : Nat // k ≤ l.length ∧ (∀ x ∈ l.take k, x < n) ∧ ∀ x, l[k]? = some x → n ≤ x} => [.s 5 (i64 p.1)]) [0, 1, 28, 29, 30, 31, 32, 33] [] ?_ ?_
  · skip
    refine HT.block ?_
    refine HT.loopK (fun k : {k : Nat // k ≤ l.length ∧ ∀ x ∈ l.take k, x < n} => [.s 5 (i64 k)]) [0, 1, 28, 29, 30, 31, 32, 33] [] (fun k => l.length - k) (⟨0, by simp⟩) ?_ ?_   -- block 0 turned [5, 14, 15, 16, 17, 18, 19]
    · simp (disch := first | omega | (simp <;> omega) | fail) [wrap_i64, wrap_u64, wrap_u8']
    rintro ⟨k, hk, hg⟩
    simp (disch := first | omega | (simp <;> omega) | fail) [wrap_i64, wrap_u64, wrap_u8']
    refine HT.seq ?_
    refine HT.seq ?_
    by_cases c1 : l.length ≤ k
    · skip
      refine HT.region ?_   -- R2
      simp (disch := first | omega | (simp <;> omega) | fail) [wrap_i64, wrap_u64, wrap_u8']
      refine HT.cond' ?_   -- if 20
      simp (disch := first | omega | (simp <;> omega) | fail) [wrap_i64, wrap_u64, wrap_u8']
      refine HT.exit ?_
      simp (disch := first | omega | (simp <;> omega) | fail) [wrap_i64, wrap_u64, wrap_u8']
      refine Pick.mk' (⟨k, hk, hg, fun x hx => by first | (rw [List.getElem?_eq_none c1] at hx; cases hx) | (rw [List.getElem?_eq_getElem hk'] at hx; cases hx; exact c2)⟩) rfl ?_
      simp (disch := first | omega | (simp <;> omega) | fail) [wrap_i64, wrap_u64, wrap_u8']
    have hk' : k < l.length := by omega
    by_cases c2 : n ≤ l[k]
    · skip
      refine HT.region ?_   -- R2
      simp (disch := first | omega | (simp <;> omega) | fail) [wrap_i64, wrap_u64, wrap_u8']
      refine HT.cond' ?_   -- if 20
      simp (disch := first | omega | (simp <;> omega) | fail) [wrap_i64, wrap_u64, wrap_u8']
      refine HT.exit ?_
      simp (disch := first | omega | (simp <;> omega) | fail) [wrap_i64, wrap_u64, wrap_u8']
      refine Pick.mk' (⟨k, hk, hg, fun x hx => by first | (rw [List.getElem?_eq_none c1] at hx; cases hx) | (rw [List.getElem?_eq_getElem hk'] at hx; cases hx; exact c2)⟩) rfl ?_
      simp (disch := first | omega | (simp <;> omega) | fail) [wrap_i64, wrap_u64, wrap_u8']
    refine HT.region ?_   -- R2
    simp (disch := first | omega | (simp <;> omega) | fail) [wrap_i64, wrap_u64, wrap_u8']
    refine HT.cond' ?_   -- if 20
    simp (disch := first | omega | (simp <;> omega) | fail) [wrap_i64, wrap_u64, wrap_u8']
    refine HT.skip ?_
    simp (disch := first | omega | (simp <;> omega) | fail) [wrap_i64, wrap_u64, wrap_u8']
    refine HT.block ?_
    refine HT.region ?_   -- R3
    simp (disch := first | omega | (simp <;> omega) | fail) [wrap_i64, wrap_u64, wrap_u8']
    refine Round.mk' (⟨k + 1, by omega, fun x hx => by rw [List.take_succ_eq_append_getElem hk'] at hx; rcases List.mem_append.1 hx with hx | hx; exact hg x hx; simp at hx; subst hx; omega⟩) (by dsimp only; omega) rfl ?_
    simp (disch := first | omega | (simp <;> omega) | fail) [wrap_i64, wrap_u64, wrap_u8']
  · rintro ⟨k, hk, hg, hle⟩
    simp (disch := first | omega | (simp <;> omega) | fail) [wrap_i64, wrap_u64, wrap_u8']
    have hins := ins_at hk hg hle
    refine HT.joinX (fun p : {u : Unit // l[k]? ≠ some n} => []) [0, 1, 5] [] ?_ ?_
    · skip
      refine HT.seq ?_
      by_cases c3 : l.length ≤ k
      · skip
        refine HT.region ?_   -- R4
        simp (disch := first | omega | (simp <;> omega) | fail) [wrap_i64, wrap_u64, wrap_u8']
        refine HT.cond' ?_   -- if 34
        simp (disch := first | omega | (simp <;> omega) | fail) [wrap_i64, wrap_u64, wrap_u8']
        refine HT.skip ?_
        simp (disch := first | omega | (simp <;> omega) | fail) [wrap_i64, wrap_u64, wrap_u8']
        refine Pick.mk' (⟨(), by first | (rw [List.getElem?_eq_none c3]; simp) | (rw [List.getElem?_eq_getElem hk2]; simpa using c4)⟩) rfl ?_
        simp (disch := first | omega | (simp <;> omega) | fail) [wrap_i64, wrap_u64, wrap_u8']
      have hk2 : k < l.length := by omega
      by_cases c4 : ¬ l[k] = n
      · skip
        refine HT.region ?_   -- R4
        simp (disch := first | omega | (simp <;> omega) | fail) [wrap_i64, wrap_u64, wrap_u8']
        refine HT.cond' ?_   -- if 34
        simp (disch := first | omega | (simp <;> omega) | fail) [wrap_i64, wrap_u64, wrap_u8']
        refine HT.skip ?_
        simp (disch := first | omega | (simp <;> omega) | fail) [wrap_i64, wrap_u64, wrap_u8']
        refine Pick.mk' (⟨(), by first | (rw [List.getElem?_eq_none c3]; simp) | (rw [List.getElem?_eq_getElem hk2]; simpa using c4)⟩) rfl ?_
        simp (disch := first | omega | (simp <;> omega) | fail) [wrap_i64, wrap_u64, wrap_u8']
      refine HT.region ?_   -- R4
      simp (disch := first | omega | (simp <;> omega) | fail) [wrap_i64, wrap_u64, wrap_u8']
      refine HT.cond' ?_   -- if 34
      simp (disch := first | omega | (simp <;> omega) | fail) [wrap_i64, wrap_u64, wrap_u8']
      refine HT.seq ?_
      refine HT.region ?_   -- R5
      simp (disch := first | omega | (simp <;> omega) | fail) [wrap_i64, wrap_u64, wrap_u8']
      refine HT.ret ?_
      rw [if_pos (by rw [List.getElem?_eq_getElem hk2]; simpa using c4)] at hins
      simp (disch := first | omega | (simp <;> omega) | fail) [wrap_i64, wrap_u64, wrap_u8', hins]
    · rintro ⟨_, hne⟩
      simp (disch := first | omega | (simp <;> omega) | fail) [wrap_i64, wrap_u64, wrap_u8']
      rw [if_neg hne] at hins
      refine HT.seq ?_
      refine HT.region ?_   -- R6
      simp (disch := first | omega | (simp <;> omega) | fail) [wrap_i64, wrap_u64, wrap_u8']
      refine HT.seq ?_
      refine HT.seq ?_
      refine HT.region ?_   -- R7
      simp (disch := first | omega | (simp <;> omega) | fail) [wrap_i64, wrap_u64, wrap_u8']
      refine HT.weaken (HS.le_own (t := 6) 200 3 1 _ (by decide) rfl (by decide)) ?_
      refine HT.block ?_
      refine HT.loopK (fun j : {j : Nat // j ≤ k} => [.s 7 (i64 j), .s 6 (.ref 200), .o 200 (.row 3 1 (intsHV (l.take j)))]) [0, 1, 5] [] (fun j => k - j) (⟨0, by omega⟩) ?_ ?_   -- block 2 turned [6, 7]
      · simp (disch := first | omega | (simp <;> omega) | fail) [wrap_i64, wrap_u64, wrap_u8']
      rintro ⟨j, hj⟩
      simp (disch := first | omega | (simp <;> omega) | fail) [wrap_i64, wrap_u64, wrap_u8']
      refine HT.seq ?_
      refine HT.seq ?_
      refine HT.region ?_   -- R8
      simp (disch := first | omega | (simp <;> omega) | fail) [wrap_i64, wrap_u64, wrap_u8']
      refine HT.cond' ?_   -- if 38
      simp (disch := first | omega | (simp <;> omega) | fail) [wrap_i64, wrap_u64, wrap_u8']
      refine ⟨fun h38 => ?_, fun h38 => ?_⟩
      · skip
        have hj' : j < l.length := by omega
        refine HT.skip ?_
        simp (disch := first | omega | (simp <;> omega) | fail) [wrap_i64, wrap_u64, wrap_u8']
        refine HT.seq ?_
        refine HT.block ?_
        refine HT.region ?_   -- R10
        simp (disch := first | omega | (simp <;> omega) | fail) [wrap_i64, wrap_u64, wrap_u8']
        refine HT.region ?_   -- R9
        simp (disch := first | omega | (simp <;> omega) | fail) [wrap_i64, wrap_u64, wrap_u8']
        refine Round.mk' (⟨j + 1, by omega⟩) (by dsimp only; omega) rfl ?_
        simp (disch := first | omega | (simp <;> omega) | fail) [wrap_i64, wrap_u64, wrap_u8']
      · skip
        obtain rfl : j = k := by omega
        refine HT.exit ?_
        simp (disch := first | omega | (simp <;> omega) | fail) [wrap_i64, wrap_u64, wrap_u8']
        refine HT.seq ?_
        refine HT.region ?_   -- R11
        simp (disch := first | omega | (simp <;> omega) | fail) [wrap_i64, wrap_u64, wrap_u8']
        refine HT.seq ?_
        refine HT.seq ?_
        refine HT.region ?_   -- R12
        simp (disch := first | omega | (simp <;> omega) | fail) [wrap_i64, wrap_u64, wrap_u8']
        refine HT.block ?_
        refine HT.loopK (fun i : {i : Nat // j ≤ i ∧ i ≤ l.length} => [.s 8 (i64 i), .s 6 (.ref 200), .o 200 (.row 3 1 (intsHV (l.take j ++ n :: (l.drop j).take (i - j))))]) [0] [] (fun i => l.length - i) (⟨j, by omega⟩) ?_ ?_   -- block 4 turned [6, 8]
        · simp (disch := first | omega | (simp <;> omega) | fail) [wrap_i64, wrap_u64, wrap_u8', intsHV_snoc]
        rintro ⟨i, hi⟩
        simp (disch := first | omega | (simp <;> omega) | fail) [wrap_i64, wrap_u64, wrap_u8']
        refine HT.seq ?_
        refine HT.seq ?_
        refine HT.region ?_   -- R13
        simp (disch := first | omega | (simp <;> omega) | fail) [wrap_i64, wrap_u64, wrap_u8']
        refine HT.cond' ?_   -- if 56
        simp (disch := first | omega | (simp <;> omega) | fail) [wrap_i64, wrap_u64, wrap_u8']
        refine ⟨fun h56 => ?_, fun h56 => ?_⟩
        · skip
          have hi' : i < l.length := by omega
          refine HT.skip ?_
          simp (disch := first | omega | (simp <;> omega) | fail) [wrap_i64, wrap_u64, wrap_u8']
          refine HT.seq ?_
          refine HT.block ?_
          refine HT.region ?_   -- R15
          simp (disch := first | omega | (simp <;> omega) | fail) [wrap_i64, wrap_u64, wrap_u8']
          refine HT.region ?_   -- R14
          simp (disch := first | omega | (simp <;> omega) | fail) [wrap_i64, wrap_u64, wrap_u8']
          refine Round.mk' (⟨i + 1, by omega⟩) (by dsimp only; omega) rfl ?_
          simp (disch := first | omega | (simp <;> omega) | fail) [wrap_i64, wrap_u64, wrap_u8']
          rw [show i + 1 - j = (i - j) + 1 by omega, List.take_succ_eq_append_getElem (show i - j < (l.drop j).length by simp; omega)]
          simp [show j + (i - j) = i by omega]
        · skip
          obtain rfl : i = l.length := by omega
          have ht : (l.drop j).take (l.length - j) = l.drop j := List.take_of_length_le (by simp)
          refine HT.exit ?_
          simp (disch := first | omega | (simp <;> omega) | fail) [wrap_i64, wrap_u64, wrap_u8']
          refine HT.seq ?_
          refine HT.region ?_   -- R16
          simp (disch := first | omega | (simp <;> omega) | fail) [wrap_i64, wrap_u64, wrap_u8']
          refine HT.ret ?_
          simp (disch := first | omega | (simp <;> omega) | fail) [wrap_i64, wrap_u64, wrap_u8', hins, ht]
end Go.Hv

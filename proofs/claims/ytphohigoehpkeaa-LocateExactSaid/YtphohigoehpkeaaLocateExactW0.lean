import Derived.Test.YtphohigoehpkeaaHv1
import Derived.Test.YtphohigoehpkeaaHv2
import Derived.Test.YtphohigoehpkeaaHv3
import Derived.Test.YtphohigoehpkeaaHv4
import Derived.Test.YtphohigoehpkeaaHv5
import Derived.Test.YtphohigoehpkeaaHv6
import Derived.Test.YtphohigoehpkeaaHv7
import Derived.Test.YtphohigoehpkeaaHv8
import Derived.Test.YtphohigoehpkeaaHv9
import Derived.Test.YtphohigoehpkeaaHv10
import Derived.Test.YtphohigoehpkeaaHv11
import Derived.Test.YtphohigoehpkeaaHv12
import Derived.Test.YtphohigoehpkeaaHv13
import Derived.Test.YtphohigoehpkeaaHvE
import Derived.Test.YtphohigoehpkeaaHvM
import Derived.Test.YtphohigoehpkeaaHv14
import Derived.Test.YtphohigoehpkeaaHv15
import Derived.Test.YtphohigoehpkeaaHvM2
import Derived.Test.YtphohigoehpkeaaHv16
import Derived.Test.YtphohigoehpkeaaHv17
import Derived.Test.YtphohigoehpkeaaHv18
import Derived.Test.YtphohigoehpkeaaHv19
import Derived.Test.YtphohigoehpkeaaHv20
import Derived.Test.YtphohigoehpkeaaHv21
import Derived.Test.YtphohigoehpkeaaHv22
import Derived.Test.YtphohigoehpkeaaHv23
import Derived.Test.YtphohigoehpkeaaHv24
import Derived.Test.YtphohigoehpkeaaHv25
import Derived.Test.YtphohigoehpkeaaHv27
import Derived.Test.YtphohigoehpkeaaHv28
import Derived.Test.YtphohigoehpkeaaHv29
import Derived.Test.YtphohigoehpkeaaHv30
import Derived.Test.YtphohigoehpkeaaHv31
import Derived.Test.YtphohigoehpkeaaHv32
import Derived.Test.YtphohigoehpkeaaHv33
import Derived.Test.YtphohigoehpkeaaHv26
import Derived.Test.YtphohigoehpkeaaHv34
import Derived.Test.YtphohigoehpkeaaHv35
import Derived.Test.YtphohigoehpkeaaHv36
import Derived.Test.YtphohigoehpkeaaProg
import Derived.KernelRfl
set_option linter.unusedVariables false
instance : Go.Hv.GI := Go.Hv.GI.int0
namespace Go.Proofs.Ytphohigoehpkeaa.Ty
open Go Go.Hv Go.Proofs
@[simp] theorem sl0 : slInfo Try.prog 0 = none := by kernel_rfl
@[simp] theorem ag0 : agInfo Try.prog 0 = some (false, 1) := by kernel_rfl
@[simp] theorem tk0 : tk Try.prog 0 = some (.other) := by kernel_rfl
@[simp] theorem ni0 : notInt Try.prog 0 = true := by kernel_rfl
@[simp] theorem sl1 : slInfo Try.prog 1 = none := by kernel_rfl
@[simp] theorem ag1 : agInfo Try.prog 1 = some (false, 1) := by kernel_rfl
@[simp] theorem tk1 : tk Try.prog 1 = some (.other) := by kernel_rfl
@[simp] theorem ni1 : notInt Try.prog 1 = true := by kernel_rfl
@[simp] theorem sl2 : slInfo Try.prog 2 = none := by kernel_rfl
@[simp] theorem ag2 : agInfo Try.prog 2 = some (false, 1) := by kernel_rfl
@[simp] theorem tk2 : tk Try.prog 2 = some (.int .i64) := by kernel_rfl
@[simp] theorem ni2 : notInt Try.prog 2 = false := by kernel_rfl
@[simp] theorem z2 : zeroHV Try.prog 2 = some [.lit (.int .i64 0)] := by kernel_rfl
@[simp] theorem zo2 : zOneHV Try.prog 2 = some (.lit (.int .i64 0)) := by kernel_rfl
@[simp] theorem sl3 : slInfo Try.prog 3 = none := by kernel_rfl
@[simp] theorem ag3 : agInfo Try.prog 3 = some (false, 1) := by kernel_rfl
@[simp] theorem tk3 : tk Try.prog 3 = some (.int .i64) := by kernel_rfl
@[simp] theorem ni3 : notInt Try.prog 3 = false := by kernel_rfl
@[simp] theorem z3 : zeroHV Try.prog 3 = some [.lit (.int .i64 0)] := by kernel_rfl
@[simp] theorem zo3 : zOneHV Try.prog 3 = some (.lit (.int .i64 0)) := by kernel_rfl
@[simp] theorem sl4 : slInfo Try.prog 4 = none := by kernel_rfl
@[simp] theorem ag4 : agInfo Try.prog 4 = some (false, 1) := by kernel_rfl
@[simp] theorem tk4 : tk Try.prog 4 = some (.bool) := by kernel_rfl
@[simp] theorem ni4 : notInt Try.prog 4 = true := by kernel_rfl
@[simp] theorem z4 : zeroHV Try.prog 4 = some [.lit (.bool false)] := by kernel_rfl
@[simp] theorem zo4 : zOneHV Try.prog 4 = some (.lit (.bool false)) := by kernel_rfl
@[simp] theorem sl5 : slInfo Try.prog 5 = none := by kernel_rfl
@[simp] theorem ag5 : agInfo Try.prog 5 = some (false, 1) := by kernel_rfl
@[simp] theorem tk5 : tk Try.prog 5 = some (.int .u8) := by kernel_rfl
@[simp] theorem ni5 : notInt Try.prog 5 = false := by kernel_rfl
@[simp] theorem z5 : zeroHV Try.prog 5 = some [.lit (.int .u8 0)] := by kernel_rfl
@[simp] theorem zo5 : zOneHV Try.prog 5 = some (.lit (.int .u8 0)) := by kernel_rfl
@[simp] theorem sl6 : slInfo Try.prog 6 = none := by kernel_rfl
@[simp] theorem ag6 : agInfo Try.prog 6 = some (false, 1) := by kernel_rfl
@[simp] theorem tk6 : tk Try.prog 6 = some (.int .u8) := by kernel_rfl
@[simp] theorem ni6 : notInt Try.prog 6 = false := by kernel_rfl
@[simp] theorem z6 : zeroHV Try.prog 6 = some [.lit (.int .u8 0)] := by kernel_rfl
@[simp] theorem zo6 : zOneHV Try.prog 6 = some (.lit (.int .u8 0)) := by kernel_rfl
@[simp] theorem sl7 : slInfo Try.prog 7 = none := by kernel_rfl
@[simp] theorem ag7 : agInfo Try.prog 7 = some (true, 4) := by kernel_rfl
@[simp] theorem tk7 : tk Try.prog 7 = some (.other) := by kernel_rfl
@[simp] theorem ni7 : notInt Try.prog 7 = true := by kernel_rfl
@[simp] theorem z7 : zeroHV Try.prog 7 = some [.lit (.int .i64 0), .lit (.int .i64 0), .lit (.bool false), .lit (.int .u8 0)] := by kernel_rfl
@[simp] theorem zo7 : zOneHV Try.prog 7 = some (.agg [.lit (.int .i64 0), .lit (.int .i64 0), .lit (.bool false), .lit (.int .u8 0)]) := by kernel_rfl
@[simp] theorem fd7_0 : fdInfo Try.prog 7 0 = some (0, 1, false) := by kernel_rfl
@[simp] theorem fd7_1 : fdInfo Try.prog 7 1 = some (1, 1, false) := by kernel_rfl
@[simp] theorem fd7_2 : fdInfo Try.prog 7 2 = some (2, 1, false) := by kernel_rfl
@[simp] theorem fd7_3 : fdInfo Try.prog 7 3 = some (3, 1, false) := by kernel_rfl
@[simp] theorem pl7 : places Try.prog 7 = some [(0, 1), (1, 1), (2, 1), (3, 1)] := by kernel_rfl
@[simp] theorem sl8 : slInfo Try.prog 8 = none := by kernel_rfl
@[simp] theorem ag8 : agInfo Try.prog 8 = some (true, 4) := by kernel_rfl
@[simp] theorem tk8 : tk Try.prog 8 = some (.other) := by kernel_rfl
@[simp] theorem ni8 : notInt Try.prog 8 = true := by kernel_rfl
@[simp] theorem z8 : zeroHV Try.prog 8 = some [.lit (.int .i64 0), .lit (.int .i64 0), .lit (.bool false), .lit (.int .u8 0)] := by kernel_rfl
@[simp] theorem zo8 : zOneHV Try.prog 8 = some (.agg [.lit (.int .i64 0), .lit (.int .i64 0), .lit (.bool false), .lit (.int .u8 0)]) := by kernel_rfl
@[simp] theorem fd8_0 : fdInfo Try.prog 8 0 = some (0, 1, false) := by kernel_rfl
@[simp] theorem fd8_1 : fdInfo Try.prog 8 1 = some (1, 1, false) := by kernel_rfl
@[simp] theorem fd8_2 : fdInfo Try.prog 8 2 = some (2, 1, false) := by kernel_rfl
@[simp] theorem fd8_3 : fdInfo Try.prog 8 3 = some (3, 1, false) := by kernel_rfl
@[simp] theorem pl8 : places Try.prog 8 = some [(0, 1), (1, 1), (2, 1), (3, 1)] := by kernel_rfl
@[simp] theorem sl9 : slInfo Try.prog 9 = none := by kernel_rfl
@[simp] theorem ag9 : agInfo Try.prog 9 = some (false, 1) := by kernel_rfl
@[simp] theorem tk9 : tk Try.prog 9 = some (.string) := by kernel_rfl
@[simp] theorem ni9 : notInt Try.prog 9 = true := by kernel_rfl
@[simp] theorem z9 : zeroHV Try.prog 9 = some [.str []] := by kernel_rfl
@[simp] theorem zo9 : zOneHV Try.prog 9 = some (.str []) := by kernel_rfl
@[simp] theorem sl10 : slInfo Try.prog 10 = none := by kernel_rfl
@[simp] theorem ag10 : agInfo Try.prog 10 = some (false, 1) := by kernel_rfl
@[simp] theorem tk10 : tk Try.prog 10 = some (.string) := by kernel_rfl
@[simp] theorem ni10 : notInt Try.prog 10 = true := by kernel_rfl
@[simp] theorem z10 : zeroHV Try.prog 10 = some [.str []] := by kernel_rfl
@[simp] theorem zo10 : zOneHV Try.prog 10 = some (.str []) := by kernel_rfl
@[simp] theorem sl11 : slInfo Try.prog 11 = none := by kernel_rfl
@[simp] theorem ag11 : agInfo Try.prog 11 = some (false, 1) := by kernel_rfl
@[simp] theorem tk11 : tk Try.prog 11 = some (.string) := by kernel_rfl
@[simp] theorem ni11 : notInt Try.prog 11 = true := by kernel_rfl
@[simp] theorem z11 : zeroHV Try.prog 11 = some [.str []] := by kernel_rfl
@[simp] theorem zo11 : zOneHV Try.prog 11 = some (.str []) := by kernel_rfl
@[simp] theorem sl12 : slInfo Try.prog 12 = none := by kernel_rfl
@[simp] theorem ag12 : agInfo Try.prog 12 = some (false, 1) := by kernel_rfl
@[simp] theorem tk12 : tk Try.prog 12 = some (.int .u64) := by kernel_rfl
@[simp] theorem ni12 : notInt Try.prog 12 = false := by kernel_rfl
@[simp] theorem z12 : zeroHV Try.prog 12 = some [.lit (.int .u64 0)] := by kernel_rfl
@[simp] theorem zo12 : zOneHV Try.prog 12 = some (.lit (.int .u64 0)) := by kernel_rfl
@[simp] theorem sl13 : slInfo Try.prog 13 = none := by kernel_rfl
@[simp] theorem ag13 : agInfo Try.prog 13 = some (true, 2) := by kernel_rfl
@[simp] theorem tk13 : tk Try.prog 13 = some (.other) := by kernel_rfl
@[simp] theorem ni13 : notInt Try.prog 13 = true := by kernel_rfl
@[simp] theorem z13 : zeroHV Try.prog 13 = some [.str [], .lit (.int .u64 0)] := by kernel_rfl
@[simp] theorem zo13 : zOneHV Try.prog 13 = some (.agg [.str [], .lit (.int .u64 0)]) := by kernel_rfl
@[simp] theorem fd13_0 : fdInfo Try.prog 13 0 = some (0, 1, false) := by kernel_rfl
@[simp] theorem fd13_1 : fdInfo Try.prog 13 1 = some (1, 1, false) := by kernel_rfl
@[simp] theorem pl13 : places Try.prog 13 = some [(0, 1), (1, 1)] := by kernel_rfl
@[simp] theorem sl14 : slInfo Try.prog 14 = none := by kernel_rfl
@[simp] theorem ag14 : agInfo Try.prog 14 = some (true, 2) := by kernel_rfl
@[simp] theorem tk14 : tk Try.prog 14 = some (.other) := by kernel_rfl
@[simp] theorem ni14 : notInt Try.prog 14 = true := by kernel_rfl
@[simp] theorem z14 : zeroHV Try.prog 14 = some [.str [], .lit (.int .u64 0)] := by kernel_rfl
@[simp] theorem zo14 : zOneHV Try.prog 14 = some (.agg [.str [], .lit (.int .u64 0)]) := by kernel_rfl
@[simp] theorem fd14_0 : fdInfo Try.prog 14 0 = some (0, 1, false) := by kernel_rfl
@[simp] theorem fd14_1 : fdInfo Try.prog 14 1 = some (1, 1, false) := by kernel_rfl
@[simp] theorem pl14 : places Try.prog 14 = some [(0, 1), (1, 1)] := by kernel_rfl
@[simp] theorem sl15 : slInfo Try.prog 15 = none := by kernel_rfl
@[simp] theorem ag15 : agInfo Try.prog 15 = some (false, 1) := by kernel_rfl
@[simp] theorem tk15 : tk Try.prog 15 = some (.other) := by kernel_rfl
@[simp] theorem ni15 : notInt Try.prog 15 = true := by kernel_rfl
@[simp] theorem zo15 : zOneHV Try.prog 15 = some (.lit (.pointer none)) := by kernel_rfl
@[simp] theorem sl16 : slInfo Try.prog 16 = none := by kernel_rfl
@[simp] theorem ag16 : agInfo Try.prog 16 = some (false, 1) := by kernel_rfl
@[simp] theorem tk16 : tk Try.prog 16 = some (.other) := by kernel_rfl
@[simp] theorem ni16 : notInt Try.prog 16 = true := by kernel_rfl
@[simp] theorem zo16 : zOneHV Try.prog 16 = some (.lit (.pointer none)) := by kernel_rfl
@[simp] theorem sl17 : slInfo Try.prog 17 = none := by kernel_rfl
@[simp] theorem ag17 : agInfo Try.prog 17 = some (false, 1) := by kernel_rfl
@[simp] theorem tk17 : tk Try.prog 17 = some (.other) := by kernel_rfl
@[simp] theorem ni17 : notInt Try.prog 17 = true := by kernel_rfl
@[simp] theorem zo17 : zOneHV Try.prog 17 = some (.lit (.pointer none)) := by kernel_rfl
@[simp] theorem sl18 : slInfo Try.prog 18 = none := by kernel_rfl
@[simp] theorem ag18 : agInfo Try.prog 18 = some (true, 1) := by kernel_rfl
@[simp] theorem tk18 : tk Try.prog 18 = some (.other) := by kernel_rfl
@[simp] theorem ni18 : notInt Try.prog 18 = true := by kernel_rfl
@[simp] theorem z18 : zeroHV Try.prog 18 = some [.lit (.pointer none)] := by kernel_rfl
@[simp] theorem zo18 : zOneHV Try.prog 18 = some (.agg [.lit (.pointer none)]) := by kernel_rfl
@[simp] theorem fd18_0 : fdInfo Try.prog 18 0 = some (0, 1, false) := by kernel_rfl
@[simp] theorem pl18 : places Try.prog 18 = some [(0, 1)] := by kernel_rfl
@[simp] theorem sl19 : slInfo Try.prog 19 = none := by kernel_rfl
@[simp] theorem ag19 : agInfo Try.prog 19 = some (true, 1) := by kernel_rfl
@[simp] theorem tk19 : tk Try.prog 19 = some (.other) := by kernel_rfl
@[simp] theorem ni19 : notInt Try.prog 19 = true := by kernel_rfl
@[simp] theorem z19 : zeroHV Try.prog 19 = some [.lit (.pointer none)] := by kernel_rfl
@[simp] theorem zo19 : zOneHV Try.prog 19 = some (.agg [.lit (.pointer none)]) := by kernel_rfl
@[simp] theorem fd19_0 : fdInfo Try.prog 19 0 = some (0, 1, false) := by kernel_rfl
@[simp] theorem pl19 : places Try.prog 19 = some [(0, 1)] := by kernel_rfl
@[simp] theorem sl20 : slInfo Try.prog 20 = none := by kernel_rfl
@[simp] theorem ag20 : agInfo Try.prog 20 = some (false, 1) := by kernel_rfl
@[simp] theorem tk20 : tk Try.prog 20 = some (.other) := by kernel_rfl
@[simp] theorem ni20 : notInt Try.prog 20 = true := by kernel_rfl
@[simp] theorem sl21 : slInfo Try.prog 21 = none := by kernel_rfl
@[simp] theorem ag21 : agInfo Try.prog 21 = some (false, 1) := by kernel_rfl
@[simp] theorem tk21 : tk Try.prog 21 = some (.int .i32) := by kernel_rfl
@[simp] theorem ni21 : notInt Try.prog 21 = false := by kernel_rfl
@[simp] theorem z21 : zeroHV Try.prog 21 = some [.lit (.int .i32 0)] := by kernel_rfl
@[simp] theorem zo21 : zOneHV Try.prog 21 = some (.lit (.int .i32 0)) := by kernel_rfl
@[simp] theorem sl22 : slInfo Try.prog 22 = none := by kernel_rfl
@[simp] theorem ag22 : agInfo Try.prog 22 = some (false, 1) := by kernel_rfl
@[simp] theorem tk22 : tk Try.prog 22 = some (.other) := by kernel_rfl
@[simp] theorem ni22 : notInt Try.prog 22 = true := by kernel_rfl
@[simp] theorem sl23 : slInfo Try.prog 23 = none := by kernel_rfl
@[simp] theorem ag23 : agInfo Try.prog 23 = some (false, 1) := by kernel_rfl
@[simp] theorem tk23 : tk Try.prog 23 = some (.other) := by kernel_rfl
@[simp] theorem ni23 : notInt Try.prog 23 = true := by kernel_rfl
@[simp] theorem sl24 : slInfo Try.prog 24 = some (3, 1, 8) := by kernel_rfl
@[simp] theorem ag24 : agInfo Try.prog 24 = some (false, 1) := by kernel_rfl
@[simp] theorem tk24 : tk Try.prog 24 = some (.other) := by kernel_rfl
@[simp] theorem ni24 : notInt Try.prog 24 = true := by kernel_rfl
@[simp] theorem z24 : zeroHV Try.prog 24 = some [.sl 0 true []] := by kernel_rfl
@[simp] theorem zo24 : zOneHV Try.prog 24 = some (.sl 0 true []) := by kernel_rfl
@[simp] theorem sl25 : slInfo Try.prog 25 = none := by kernel_rfl
@[simp] theorem ag25 : agInfo Try.prog 25 = some (false, 1) := by kernel_rfl
@[simp] theorem tk25 : tk Try.prog 25 = some (.other) := by kernel_rfl
@[simp] theorem ni25 : notInt Try.prog 25 = true := by kernel_rfl
@[simp] theorem sl26 : slInfo Try.prog 26 = none := by kernel_rfl
@[simp] theorem ag26 : agInfo Try.prog 26 = some (false, 1) := by kernel_rfl
@[simp] theorem tk26 : tk Try.prog 26 = some (.other) := by kernel_rfl
@[simp] theorem ni26 : notInt Try.prog 26 = true := by kernel_rfl
@[simp] theorem sl27 : slInfo Try.prog 27 = none := by kernel_rfl
@[simp] theorem ag27 : agInfo Try.prog 27 = some (false, 1) := by kernel_rfl
@[simp] theorem tk27 : tk Try.prog 27 = some (.other) := by kernel_rfl
@[simp] theorem ni27 : notInt Try.prog 27 = true := by kernel_rfl
@[simp] theorem sl28 : slInfo Try.prog 28 = none := by kernel_rfl
@[simp] theorem ag28 : agInfo Try.prog 28 = some (false, 1) := by kernel_rfl
@[simp] theorem tk28 : tk Try.prog 28 = some (.other) := by kernel_rfl
@[simp] theorem ni28 : notInt Try.prog 28 = true := by kernel_rfl
@[simp] theorem sl29 : slInfo Try.prog 29 = none := by kernel_rfl
@[simp] theorem ag29 : agInfo Try.prog 29 = some (false, 1) := by kernel_rfl
@[simp] theorem tk29 : tk Try.prog 29 = some (.other) := by kernel_rfl
@[simp] theorem ni29 : notInt Try.prog 29 = true := by kernel_rfl
@[simp] theorem sl30 : slInfo Try.prog 30 = some (32, 2, 32) := by kernel_rfl
@[simp] theorem ag30 : agInfo Try.prog 30 = some (false, 1) := by kernel_rfl
@[simp] theorem tk30 : tk Try.prog 30 = some (.other) := by kernel_rfl
@[simp] theorem ni30 : notInt Try.prog 30 = true := by kernel_rfl
@[simp] theorem z30 : zeroHV Try.prog 30 = some [.sl 0 true []] := by kernel_rfl
@[simp] theorem zo30 : zOneHV Try.prog 30 = some (.sl 0 true []) := by kernel_rfl
@[simp] theorem sl31 : slInfo Try.prog 31 = none := by kernel_rfl
@[simp] theorem ag31 : agInfo Try.prog 31 = some (true, 2) := by kernel_rfl
@[simp] theorem tk31 : tk Try.prog 31 = some (.other) := by kernel_rfl
@[simp] theorem ni31 : notInt Try.prog 31 = true := by kernel_rfl
@[simp] theorem z31 : zeroHV Try.prog 31 = some [.lit (.int .i64 0), .sl 0 true []] := by kernel_rfl
@[simp] theorem zo31 : zOneHV Try.prog 31 = some (.agg [.lit (.int .i64 0), .sl 0 true []]) := by kernel_rfl
@[simp] theorem fd31_0 : fdInfo Try.prog 31 0 = some (0, 1, false) := by kernel_rfl
@[simp] theorem fd31_1 : fdInfo Try.prog 31 1 = some (1, 1, false) := by kernel_rfl
@[simp] theorem pl31 : places Try.prog 31 = some [(0, 1), (1, 1)] := by kernel_rfl
@[simp] theorem sl32 : slInfo Try.prog 32 = none := by kernel_rfl
@[simp] theorem ag32 : agInfo Try.prog 32 = some (true, 2) := by kernel_rfl
@[simp] theorem tk32 : tk Try.prog 32 = some (.other) := by kernel_rfl
@[simp] theorem ni32 : notInt Try.prog 32 = true := by kernel_rfl
@[simp] theorem z32 : zeroHV Try.prog 32 = some [.lit (.int .i64 0), .sl 0 true []] := by kernel_rfl
@[simp] theorem zo32 : zOneHV Try.prog 32 = some (.agg [.lit (.int .i64 0), .sl 0 true []]) := by kernel_rfl
@[simp] theorem fd32_0 : fdInfo Try.prog 32 0 = some (0, 1, false) := by kernel_rfl
@[simp] theorem fd32_1 : fdInfo Try.prog 32 1 = some (1, 1, false) := by kernel_rfl
@[simp] theorem pl32 : places Try.prog 32 = some [(0, 1), (1, 1)] := by kernel_rfl
@[simp] theorem sl33 : slInfo Try.prog 33 = none := by kernel_rfl
@[simp] theorem ag33 : agInfo Try.prog 33 = some (false, 1) := by kernel_rfl
@[simp] theorem tk33 : tk Try.prog 33 = some (.other) := by kernel_rfl
@[simp] theorem ni33 : notInt Try.prog 33 = true := by kernel_rfl
@[simp] theorem sl34 : slInfo Try.prog 34 = none := by kernel_rfl
@[simp] theorem ag34 : agInfo Try.prog 34 = some (false, 1) := by kernel_rfl
@[simp] theorem tk34 : tk Try.prog 34 = some (.other) := by kernel_rfl
@[simp] theorem ni34 : notInt Try.prog 34 = true := by kernel_rfl
@[simp] theorem sl35 : slInfo Try.prog 35 = none := by kernel_rfl
@[simp] theorem ag35 : agInfo Try.prog 35 = some (false, 1) := by kernel_rfl
@[simp] theorem tk35 : tk Try.prog 35 = some (.other) := by kernel_rfl
@[simp] theorem ni35 : notInt Try.prog 35 = true := by kernel_rfl
@[simp] theorem sl36 : slInfo Try.prog 36 = none := by kernel_rfl
@[simp] theorem ag36 : agInfo Try.prog 36 = some (false, 1) := by kernel_rfl
@[simp] theorem tk36 : tk Try.prog 36 = some (.other) := by kernel_rfl
@[simp] theorem ni36 : notInt Try.prog 36 = true := by kernel_rfl
@[simp] theorem sl37 : slInfo Try.prog 37 = none := by kernel_rfl
@[simp] theorem ag37 : agInfo Try.prog 37 = some (false, 1) := by kernel_rfl
@[simp] theorem tk37 : tk Try.prog 37 = some (.other) := by kernel_rfl
@[simp] theorem ni37 : notInt Try.prog 37 = true := by kernel_rfl
@[simp] theorem sl38 : slInfo Try.prog 38 = none := by kernel_rfl
@[simp] theorem ag38 : agInfo Try.prog 38 = some (false, 1) := by kernel_rfl
@[simp] theorem tk38 : tk Try.prog 38 = some (.other) := by kernel_rfl
@[simp] theorem ni38 : notInt Try.prog 38 = true := by kernel_rfl
@[simp] theorem sl39 : slInfo Try.prog 39 = none := by kernel_rfl
@[simp] theorem ag39 : agInfo Try.prog 39 = some (false, 1) := by kernel_rfl
@[simp] theorem tk39 : tk Try.prog 39 = some (.other) := by kernel_rfl
@[simp] theorem ni39 : notInt Try.prog 39 = true := by kernel_rfl
@[simp] theorem sl40 : slInfo Try.prog 40 = none := by kernel_rfl
@[simp] theorem ag40 : agInfo Try.prog 40 = some (false, 1) := by kernel_rfl
@[simp] theorem tk40 : tk Try.prog 40 = some (.other) := by kernel_rfl
@[simp] theorem ni40 : notInt Try.prog 40 = true := by kernel_rfl
@[simp] theorem sl41 : slInfo Try.prog 41 = none := by kernel_rfl
@[simp] theorem ag41 : agInfo Try.prog 41 = some (false, 1) := by kernel_rfl
@[simp] theorem tk41 : tk Try.prog 41 = some (.other) := by kernel_rfl
@[simp] theorem ni41 : notInt Try.prog 41 = true := by kernel_rfl
@[simp] theorem sl42 : slInfo Try.prog 42 = none := by kernel_rfl
@[simp] theorem ag42 : agInfo Try.prog 42 = some (false, 1) := by kernel_rfl
@[simp] theorem tk42 : tk Try.prog 42 = some (.other) := by kernel_rfl
@[simp] theorem ni42 : notInt Try.prog 42 = true := by kernel_rfl
@[simp] theorem sl43 : slInfo Try.prog 43 = none := by kernel_rfl
@[simp] theorem ag43 : agInfo Try.prog 43 = some (false, 1) := by kernel_rfl
@[simp] theorem tk43 : tk Try.prog 43 = some (.other) := by kernel_rfl
@[simp] theorem ni43 : notInt Try.prog 43 = true := by kernel_rfl
@[simp] theorem sl44 : slInfo Try.prog 44 = none := by kernel_rfl
@[simp] theorem ag44 : agInfo Try.prog 44 = some (false, 1) := by kernel_rfl
@[simp] theorem tk44 : tk Try.prog 44 = some (.other) := by kernel_rfl
@[simp] theorem ni44 : notInt Try.prog 44 = true := by kernel_rfl
@[simp] theorem sl45 : slInfo Try.prog 45 = none := by kernel_rfl
@[simp] theorem ag45 : agInfo Try.prog 45 = some (false, 1) := by kernel_rfl
@[simp] theorem tk45 : tk Try.prog 45 = some (.other) := by kernel_rfl
@[simp] theorem ni45 : notInt Try.prog 45 = true := by kernel_rfl
@[simp] theorem sl46 : slInfo Try.prog 46 = none := by kernel_rfl
@[simp] theorem ag46 : agInfo Try.prog 46 = some (false, 1) := by kernel_rfl
@[simp] theorem tk46 : tk Try.prog 46 = some (.other) := by kernel_rfl
@[simp] theorem ni46 : notInt Try.prog 46 = true := by kernel_rfl
@[simp] theorem sl47 : slInfo Try.prog 47 = none := by kernel_rfl
@[simp] theorem ag47 : agInfo Try.prog 47 = some (false, 1) := by kernel_rfl
@[simp] theorem tk47 : tk Try.prog 47 = some (.other) := by kernel_rfl
@[simp] theorem ni47 : notInt Try.prog 47 = true := by kernel_rfl
@[simp] theorem sl48 : slInfo Try.prog 48 = none := by kernel_rfl
@[simp] theorem ag48 : agInfo Try.prog 48 = some (false, 1) := by kernel_rfl
@[simp] theorem tk48 : tk Try.prog 48 = some (.other) := by kernel_rfl
@[simp] theorem ni48 : notInt Try.prog 48 = true := by kernel_rfl
@[simp] theorem sl49 : slInfo Try.prog 49 = none := by kernel_rfl
@[simp] theorem ag49 : agInfo Try.prog 49 = some (false, 1) := by kernel_rfl
@[simp] theorem tk49 : tk Try.prog 49 = some (.other) := by kernel_rfl
@[simp] theorem ni49 : notInt Try.prog 49 = true := by kernel_rfl
@[simp] theorem sl50 : slInfo Try.prog 50 = some (5, 1, 1) := by kernel_rfl
@[simp] theorem ag50 : agInfo Try.prog 50 = some (false, 1) := by kernel_rfl
@[simp] theorem tk50 : tk Try.prog 50 = some (.bytes) := by kernel_rfl
@[simp] theorem ni50 : notInt Try.prog 50 = true := by kernel_rfl
@[simp] theorem z50 : zeroHV Try.prog 50 = some [.sl 0 true []] := by kernel_rfl
@[simp] theorem zo50 : zOneHV Try.prog 50 = some (.sl 0 true []) := by kernel_rfl
@[simp] theorem sl51 : slInfo Try.prog 51 = none := by kernel_rfl
@[simp] theorem ag51 : agInfo Try.prog 51 = some (false, 1) := by kernel_rfl
@[simp] theorem tk51 : tk Try.prog 51 = some (.other) := by kernel_rfl
@[simp] theorem ni51 : notInt Try.prog 51 = true := by kernel_rfl
@[simp] theorem sl52 : slInfo Try.prog 52 = none := by kernel_rfl
@[simp] theorem ag52 : agInfo Try.prog 52 = some (false, 1) := by kernel_rfl
@[simp] theorem tk52 : tk Try.prog 52 = some (.other) := by kernel_rfl
@[simp] theorem ni52 : notInt Try.prog 52 = true := by kernel_rfl
@[simp] theorem sl53 : slInfo Try.prog 53 = none := by kernel_rfl
@[simp] theorem ag53 : agInfo Try.prog 53 = some (false, 1) := by kernel_rfl
@[simp] theorem tk53 : tk Try.prog 53 = some (.other) := by kernel_rfl
@[simp] theorem ni53 : notInt Try.prog 53 = true := by kernel_rfl
@[simp] theorem sl54 : slInfo Try.prog 54 = none := by kernel_rfl
@[simp] theorem ag54 : agInfo Try.prog 54 = some (false, 1) := by kernel_rfl
@[simp] theorem tk54 : tk Try.prog 54 = some (.other) := by kernel_rfl
@[simp] theorem ni54 : notInt Try.prog 54 = true := by kernel_rfl
@[simp] theorem sl55 : slInfo Try.prog 55 = none := by kernel_rfl
@[simp] theorem ag55 : agInfo Try.prog 55 = some (false, 1) := by kernel_rfl
@[simp] theorem tk55 : tk Try.prog 55 = some (.other) := by kernel_rfl
@[simp] theorem ni55 : notInt Try.prog 55 = true := by kernel_rfl
@[simp] theorem sl56 : slInfo Try.prog 56 = none := by kernel_rfl
@[simp] theorem ag56 : agInfo Try.prog 56 = some (false, 1) := by kernel_rfl
@[simp] theorem tk56 : tk Try.prog 56 = some (.other) := by kernel_rfl
@[simp] theorem ni56 : notInt Try.prog 56 = true := by kernel_rfl
@[simp] theorem sl57 : slInfo Try.prog 57 = none := by kernel_rfl
@[simp] theorem ag57 : agInfo Try.prog 57 = some (false, 1) := by kernel_rfl
@[simp] theorem tk57 : tk Try.prog 57 = some (.other) := by kernel_rfl
@[simp] theorem ni57 : notInt Try.prog 57 = true := by kernel_rfl
@[simp] theorem sl58 : slInfo Try.prog 58 = none := by kernel_rfl
@[simp] theorem ag58 : agInfo Try.prog 58 = some (false, 1) := by kernel_rfl
@[simp] theorem tk58 : tk Try.prog 58 = some (.other) := by kernel_rfl
@[simp] theorem ni58 : notInt Try.prog 58 = true := by kernel_rfl
@[simp] theorem sl59 : slInfo Try.prog 59 = none := by kernel_rfl
@[simp] theorem ag59 : agInfo Try.prog 59 = some (false, 1) := by kernel_rfl
@[simp] theorem tk59 : tk Try.prog 59 = some (.other) := by kernel_rfl
@[simp] theorem ni59 : notInt Try.prog 59 = true := by kernel_rfl
@[simp] theorem sl60 : slInfo Try.prog 60 = none := by kernel_rfl
@[simp] theorem ag60 : agInfo Try.prog 60 = some (false, 1) := by kernel_rfl
@[simp] theorem tk60 : tk Try.prog 60 = some (.other) := by kernel_rfl
@[simp] theorem ni60 : notInt Try.prog 60 = true := by kernel_rfl
@[simp] theorem sl61 : slInfo Try.prog 61 = none := by kernel_rfl
@[simp] theorem ag61 : agInfo Try.prog 61 = some (false, 1) := by kernel_rfl
@[simp] theorem tk61 : tk Try.prog 61 = some (.other) := by kernel_rfl
@[simp] theorem ni61 : notInt Try.prog 61 = true := by kernel_rfl
@[simp] theorem sl62 : slInfo Try.prog 62 = none := by kernel_rfl
@[simp] theorem ag62 : agInfo Try.prog 62 = some (false, 1) := by kernel_rfl
@[simp] theorem tk62 : tk Try.prog 62 = some (.other) := by kernel_rfl
@[simp] theorem ni62 : notInt Try.prog 62 = true := by kernel_rfl
@[simp] theorem sl63 : slInfo Try.prog 63 = none := by kernel_rfl
@[simp] theorem ag63 : agInfo Try.prog 63 = some (false, 1) := by kernel_rfl
@[simp] theorem tk63 : tk Try.prog 63 = some (.other) := by kernel_rfl
@[simp] theorem ni63 : notInt Try.prog 63 = true := by kernel_rfl
@[simp] theorem sl64 : slInfo Try.prog 64 = none := by kernel_rfl
@[simp] theorem ag64 : agInfo Try.prog 64 = some (false, 1) := by kernel_rfl
@[simp] theorem tk64 : tk Try.prog 64 = some (.other) := by kernel_rfl
@[simp] theorem ni64 : notInt Try.prog 64 = true := by kernel_rfl
@[simp] theorem sl65 : slInfo Try.prog 65 = none := by kernel_rfl
@[simp] theorem ag65 : agInfo Try.prog 65 = some (false, 1) := by kernel_rfl
@[simp] theorem tk65 : tk Try.prog 65 = some (.other) := by kernel_rfl
@[simp] theorem ni65 : notInt Try.prog 65 = true := by kernel_rfl
@[simp] theorem sl66 : slInfo Try.prog 66 = none := by kernel_rfl
@[simp] theorem ag66 : agInfo Try.prog 66 = some (false, 1) := by kernel_rfl
@[simp] theorem mp66 : mpInfo Try.prog 66 = some (3, 24) := by kernel_rfl
@[simp] theorem tk66 : tk Try.prog 66 = some (.other) := by kernel_rfl
@[simp] theorem ni66 : notInt Try.prog 66 = true := by kernel_rfl
@[simp] theorem z66 : zeroHV Try.prog 66 = some [.mp []] := by kernel_rfl
@[simp] theorem zo66 : zOneHV Try.prog 66 = some (.mp []) := by kernel_rfl
@[simp] theorem sl67 : slInfo Try.prog 67 = none := by kernel_rfl
@[simp] theorem ag67 : agInfo Try.prog 67 = some (false, 1) := by kernel_rfl
@[simp] theorem tk67 : tk Try.prog 67 = some (.other) := by kernel_rfl
@[simp] theorem ni67 : notInt Try.prog 67 = true := by kernel_rfl
@[simp] theorem sl68 : slInfo Try.prog 68 = none := by kernel_rfl
@[simp] theorem ag68 : agInfo Try.prog 68 = some (false, 1) := by kernel_rfl
@[simp] theorem tk68 : tk Try.prog 68 = some (.int .u64) := by kernel_rfl
@[simp] theorem ni68 : notInt Try.prog 68 = false := by kernel_rfl
@[simp] theorem z68 : zeroHV Try.prog 68 = some [.lit (.int .u64 0)] := by kernel_rfl
@[simp] theorem zo68 : zOneHV Try.prog 68 = some (.lit (.int .u64 0)) := by kernel_rfl
@[simp] theorem sl69 : slInfo Try.prog 69 = none := by kernel_rfl
@[simp] theorem ag69 : agInfo Try.prog 69 = some (false, 1) := by kernel_rfl
@[simp] theorem tk69 : tk Try.prog 69 = some (.other) := by kernel_rfl
@[simp] theorem ni69 : notInt Try.prog 69 = true := by kernel_rfl
@[simp] theorem sl70 : slInfo Try.prog 70 = none := by kernel_rfl
@[simp] theorem ag70 : agInfo Try.prog 70 = some (false, 1) := by kernel_rfl
@[simp] theorem tk70 : tk Try.prog 70 = some (.other) := by kernel_rfl
@[simp] theorem ni70 : notInt Try.prog 70 = true := by kernel_rfl
@[simp] theorem sl71 : slInfo Try.prog 71 = none := by kernel_rfl
@[simp] theorem ag71 : agInfo Try.prog 71 = some (false, 1) := by kernel_rfl
@[simp] theorem tk71 : tk Try.prog 71 = some (.other) := by kernel_rfl
@[simp] theorem ni71 : notInt Try.prog 71 = true := by kernel_rfl
@[simp] theorem sl72 : slInfo Try.prog 72 = none := by kernel_rfl
@[simp] theorem ag72 : agInfo Try.prog 72 = some (false, 1) := by kernel_rfl
@[simp] theorem tk72 : tk Try.prog 72 = some (.other) := by kernel_rfl
@[simp] theorem ni72 : notInt Try.prog 72 = true := by kernel_rfl
@[simp] theorem sl73 : slInfo Try.prog 73 = none := by kernel_rfl
@[simp] theorem ag73 : agInfo Try.prog 73 = some (false, 1) := by kernel_rfl
@[simp] theorem tk73 : tk Try.prog 73 = some (.other) := by kernel_rfl
@[simp] theorem ni73 : notInt Try.prog 73 = true := by kernel_rfl
@[simp] theorem sl74 : slInfo Try.prog 74 = none := by kernel_rfl
@[simp] theorem ag74 : agInfo Try.prog 74 = some (false, 1) := by kernel_rfl
@[simp] theorem tk74 : tk Try.prog 74 = some (.other) := by kernel_rfl
@[simp] theorem ni74 : notInt Try.prog 74 = true := by kernel_rfl
@[simp] theorem sl75 : slInfo Try.prog 75 = none := by kernel_rfl
@[simp] theorem ag75 : agInfo Try.prog 75 = some (false, 1) := by kernel_rfl
@[simp] theorem tk75 : tk Try.prog 75 = some (.other) := by kernel_rfl
@[simp] theorem ni75 : notInt Try.prog 75 = true := by kernel_rfl
@[simp] theorem sl76 : slInfo Try.prog 76 = none := by kernel_rfl
@[simp] theorem ag76 : agInfo Try.prog 76 = some (false, 1) := by kernel_rfl
@[simp] theorem tk76 : tk Try.prog 76 = some (.other) := by kernel_rfl
@[simp] theorem ni76 : notInt Try.prog 76 = true := by kernel_rfl
@[simp] theorem sl77 : slInfo Try.prog 77 = none := by kernel_rfl
@[simp] theorem ag77 : agInfo Try.prog 77 = some (false, 1) := by kernel_rfl
@[simp] theorem tk77 : tk Try.prog 77 = some (.other) := by kernel_rfl
@[simp] theorem ni77 : notInt Try.prog 77 = true := by kernel_rfl
@[simp] theorem sl78 : slInfo Try.prog 78 = none := by kernel_rfl
@[simp] theorem ag78 : agInfo Try.prog 78 = some (false, 1) := by kernel_rfl
@[simp] theorem tk78 : tk Try.prog 78 = some (.other) := by kernel_rfl
@[simp] theorem ni78 : notInt Try.prog 78 = true := by kernel_rfl
@[simp] theorem sl79 : slInfo Try.prog 79 = none := by kernel_rfl
@[simp] theorem ag79 : agInfo Try.prog 79 = some (false, 1) := by kernel_rfl
@[simp] theorem tk79 : tk Try.prog 79 = some (.other) := by kernel_rfl
@[simp] theorem ni79 : notInt Try.prog 79 = true := by kernel_rfl
@[simp] theorem sl80 : slInfo Try.prog 80 = none := by kernel_rfl
@[simp] theorem ag80 : agInfo Try.prog 80 = some (false, 1) := by kernel_rfl
@[simp] theorem tk80 : tk Try.prog 80 = some (.int .i64) := by kernel_rfl
@[simp] theorem ni80 : notInt Try.prog 80 = false := by kernel_rfl
@[simp] theorem z80 : zeroHV Try.prog 80 = some [.lit (.int .i64 0)] := by kernel_rfl
@[simp] theorem zo80 : zOneHV Try.prog 80 = some (.lit (.int .i64 0)) := by kernel_rfl
@[simp] theorem sl81 : slInfo Try.prog 81 = none := by kernel_rfl
@[simp] theorem ag81 : agInfo Try.prog 81 = some (false, 1) := by kernel_rfl
@[simp] theorem tk81 : tk Try.prog 81 = some (.other) := by kernel_rfl
@[simp] theorem ni81 : notInt Try.prog 81 = true := by kernel_rfl
@[simp] theorem sl82 : slInfo Try.prog 82 = none := by kernel_rfl
@[simp] theorem ag82 : agInfo Try.prog 82 = some (false, 1) := by kernel_rfl
@[simp] theorem tk82 : tk Try.prog 82 = some (.other) := by kernel_rfl
@[simp] theorem ni82 : notInt Try.prog 82 = true := by kernel_rfl
@[simp] theorem sl83 : slInfo Try.prog 83 = none := by kernel_rfl
@[simp] theorem ag83 : agInfo Try.prog 83 = some (false, 1) := by kernel_rfl
@[simp] theorem tk83 : tk Try.prog 83 = some (.other) := by kernel_rfl
@[simp] theorem ni83 : notInt Try.prog 83 = true := by kernel_rfl
@[simp] theorem sl84 : slInfo Try.prog 84 = none := by kernel_rfl
@[simp] theorem ag84 : agInfo Try.prog 84 = some (false, 1) := by kernel_rfl
@[simp] theorem tk84 : tk Try.prog 84 = some (.other) := by kernel_rfl
@[simp] theorem ni84 : notInt Try.prog 84 = true := by kernel_rfl
@[simp] theorem sl85 : slInfo Try.prog 85 = none := by kernel_rfl
@[simp] theorem ag85 : agInfo Try.prog 85 = some (false, 1) := by kernel_rfl
@[simp] theorem tk85 : tk Try.prog 85 = some (.other) := by kernel_rfl
@[simp] theorem ni85 : notInt Try.prog 85 = true := by kernel_rfl
@[simp] theorem sl86 : slInfo Try.prog 86 = none := by kernel_rfl
@[simp] theorem ag86 : agInfo Try.prog 86 = some (false, 1) := by kernel_rfl
@[simp] theorem tk86 : tk Try.prog 86 = some (.int .u32) := by kernel_rfl
@[simp] theorem ni86 : notInt Try.prog 86 = false := by kernel_rfl
@[simp] theorem z86 : zeroHV Try.prog 86 = some [.lit (.int .u32 0)] := by kernel_rfl
@[simp] theorem zo86 : zOneHV Try.prog 86 = some (.lit (.int .u32 0)) := by kernel_rfl
@[simp] theorem sl87 : slInfo Try.prog 87 = none := by kernel_rfl
@[simp] theorem ag87 : agInfo Try.prog 87 = some (false, 1) := by kernel_rfl
@[simp] theorem tk87 : tk Try.prog 87 = some (.other) := by kernel_rfl
@[simp] theorem ni87 : notInt Try.prog 87 = true := by kernel_rfl
@[simp] theorem sl88 : slInfo Try.prog 88 = none := by kernel_rfl
@[simp] theorem ag88 : agInfo Try.prog 88 = some (false, 1) := by kernel_rfl
@[simp] theorem tk88 : tk Try.prog 88 = some (.int .u64) := by kernel_rfl
@[simp] theorem ni88 : notInt Try.prog 88 = false := by kernel_rfl
@[simp] theorem z88 : zeroHV Try.prog 88 = some [.lit (.int .u64 0)] := by kernel_rfl
@[simp] theorem zo88 : zOneHV Try.prog 88 = some (.lit (.int .u64 0)) := by kernel_rfl
@[simp] theorem sl89 : slInfo Try.prog 89 = none := by kernel_rfl
@[simp] theorem ag89 : agInfo Try.prog 89 = some (false, 1) := by kernel_rfl
@[simp] theorem tk89 : tk Try.prog 89 = some (.other) := by kernel_rfl
@[simp] theorem ni89 : notInt Try.prog 89 = true := by kernel_rfl
@[simp] theorem sl90 : slInfo Try.prog 90 = none := by kernel_rfl
@[simp] theorem ag90 : agInfo Try.prog 90 = some (false, 1) := by kernel_rfl
@[simp] theorem tk90 : tk Try.prog 90 = some (.other) := by kernel_rfl
@[simp] theorem ni90 : notInt Try.prog 90 = true := by kernel_rfl
@[simp] theorem sl91 : slInfo Try.prog 91 = none := by kernel_rfl
@[simp] theorem ag91 : agInfo Try.prog 91 = some (false, 1) := by kernel_rfl
@[simp] theorem tk91 : tk Try.prog 91 = some (.other) := by kernel_rfl
@[simp] theorem ni91 : notInt Try.prog 91 = true := by kernel_rfl
@[simp] theorem sl92 : slInfo Try.prog 92 = none := by kernel_rfl
@[simp] theorem ag92 : agInfo Try.prog 92 = some (false, 1) := by kernel_rfl
@[simp] theorem tk92 : tk Try.prog 92 = some (.other) := by kernel_rfl
@[simp] theorem ni92 : notInt Try.prog 92 = true := by kernel_rfl
@[simp] theorem sl93 : slInfo Try.prog 93 = none := by kernel_rfl
@[simp] theorem ag93 : agInfo Try.prog 93 = some (false, 1) := by kernel_rfl
@[simp] theorem tk93 : tk Try.prog 93 = some (.other) := by kernel_rfl
@[simp] theorem ni93 : notInt Try.prog 93 = true := by kernel_rfl
@[simp] theorem sl94 : slInfo Try.prog 94 = none := by kernel_rfl
@[simp] theorem ag94 : agInfo Try.prog 94 = some (false, 1) := by kernel_rfl
@[simp] theorem tk94 : tk Try.prog 94 = some (.other) := by kernel_rfl
@[simp] theorem ni94 : notInt Try.prog 94 = true := by kernel_rfl
@[simp] theorem sl95 : slInfo Try.prog 95 = none := by kernel_rfl
@[simp] theorem ag95 : agInfo Try.prog 95 = some (false, 1) := by kernel_rfl
@[simp] theorem tk95 : tk Try.prog 95 = some (.int .u64) := by kernel_rfl
@[simp] theorem ni95 : notInt Try.prog 95 = false := by kernel_rfl
@[simp] theorem z95 : zeroHV Try.prog 95 = some [.lit (.int .u64 0)] := by kernel_rfl
@[simp] theorem zo95 : zOneHV Try.prog 95 = some (.lit (.int .u64 0)) := by kernel_rfl
@[simp] theorem sl96 : slInfo Try.prog 96 = none := by kernel_rfl
@[simp] theorem ag96 : agInfo Try.prog 96 = some (false, 1) := by kernel_rfl
@[simp] theorem tk96 : tk Try.prog 96 = some (.other) := by kernel_rfl
@[simp] theorem ni96 : notInt Try.prog 96 = true := by kernel_rfl
@[simp] theorem sl97 : slInfo Try.prog 97 = none := by kernel_rfl
@[simp] theorem ag97 : agInfo Try.prog 97 = some (false, 1) := by kernel_rfl
@[simp] theorem tk97 : tk Try.prog 97 = some (.other) := by kernel_rfl
@[simp] theorem ni97 : notInt Try.prog 97 = true := by kernel_rfl
@[simp] theorem sl98 : slInfo Try.prog 98 = none := by kernel_rfl
@[simp] theorem ag98 : agInfo Try.prog 98 = some (false, 1) := by kernel_rfl
@[simp] theorem tk98 : tk Try.prog 98 = some (.other) := by kernel_rfl
@[simp] theorem ni98 : notInt Try.prog 98 = true := by kernel_rfl
@[simp] theorem sl99 : slInfo Try.prog 99 = none := by kernel_rfl
@[simp] theorem ag99 : agInfo Try.prog 99 = some (false, 1) := by kernel_rfl
@[simp] theorem tk99 : tk Try.prog 99 = some (.other) := by kernel_rfl
@[simp] theorem ni99 : notInt Try.prog 99 = true := by kernel_rfl
@[simp] theorem zo99 : zOneHV Try.prog 99 = some (.lit (.pointer none)) := by kernel_rfl
@[simp] theorem sl100 : slInfo Try.prog 100 = none := by kernel_rfl
@[simp] theorem ag100 : agInfo Try.prog 100 = some (false, 1) := by kernel_rfl
@[simp] theorem tk100 : tk Try.prog 100 = some (.other) := by kernel_rfl
@[simp] theorem ni100 : notInt Try.prog 100 = true := by kernel_rfl
@[simp] theorem sl101 : slInfo Try.prog 101 = none := by kernel_rfl
@[simp] theorem ag101 : agInfo Try.prog 101 = some (false, 1) := by kernel_rfl
@[simp] theorem tk101 : tk Try.prog 101 = some (.other) := by kernel_rfl
@[simp] theorem ni101 : notInt Try.prog 101 = true := by kernel_rfl
@[simp] theorem sl102 : slInfo Try.prog 102 = none := by kernel_rfl
@[simp] theorem ag102 : agInfo Try.prog 102 = some (false, 1) := by kernel_rfl
@[simp] theorem tk102 : tk Try.prog 102 = some (.other) := by kernel_rfl
@[simp] theorem ni102 : notInt Try.prog 102 = true := by kernel_rfl
@[simp] theorem sl103 : slInfo Try.prog 103 = none := by kernel_rfl
@[simp] theorem ag103 : agInfo Try.prog 103 = some (false, 1) := by kernel_rfl
@[simp] theorem tk103 : tk Try.prog 103 = some (.other) := by kernel_rfl
@[simp] theorem ni103 : notInt Try.prog 103 = true := by kernel_rfl
@[simp] theorem sl104 : slInfo Try.prog 104 = none := by kernel_rfl
@[simp] theorem ag104 : agInfo Try.prog 104 = some (false, 1) := by kernel_rfl
@[simp] theorem tk104 : tk Try.prog 104 = some (.other) := by kernel_rfl
@[simp] theorem ni104 : notInt Try.prog 104 = true := by kernel_rfl
@[simp] theorem sl105 : slInfo Try.prog 105 = none := by kernel_rfl
@[simp] theorem ag105 : agInfo Try.prog 105 = some (false, 1) := by kernel_rfl
@[simp] theorem tk105 : tk Try.prog 105 = some (.other) := by kernel_rfl
@[simp] theorem ni105 : notInt Try.prog 105 = true := by kernel_rfl
@[simp] theorem zo105 : zOneHV Try.prog 105 = some (.lit (.pointer none)) := by kernel_rfl
@[simp] theorem sl106 : slInfo Try.prog 106 = none := by kernel_rfl
@[simp] theorem ag106 : agInfo Try.prog 106 = some (false, 1) := by kernel_rfl
@[simp] theorem tk106 : tk Try.prog 106 = some (.other) := by kernel_rfl
@[simp] theorem ni106 : notInt Try.prog 106 = true := by kernel_rfl
@[simp] theorem sl107 : slInfo Try.prog 107 = none := by kernel_rfl
@[simp] theorem ag107 : agInfo Try.prog 107 = some (false, 1) := by kernel_rfl
@[simp] theorem tk107 : tk Try.prog 107 = some (.other) := by kernel_rfl
@[simp] theorem ni107 : notInt Try.prog 107 = true := by kernel_rfl
@[simp] theorem sl108 : slInfo Try.prog 108 = none := by kernel_rfl
@[simp] theorem ag108 : agInfo Try.prog 108 = some (false, 1) := by kernel_rfl
@[simp] theorem tk108 : tk Try.prog 108 = some (.other) := by kernel_rfl
@[simp] theorem ni108 : notInt Try.prog 108 = true := by kernel_rfl
@[simp] theorem sl109 : slInfo Try.prog 109 = none := by kernel_rfl
@[simp] theorem ag109 : agInfo Try.prog 109 = some (false, 1) := by kernel_rfl
@[simp] theorem tk109 : tk Try.prog 109 = some (.other) := by kernel_rfl
@[simp] theorem ni109 : notInt Try.prog 109 = true := by kernel_rfl
@[simp] theorem sl110 : slInfo Try.prog 110 = none := by kernel_rfl
@[simp] theorem ag110 : agInfo Try.prog 110 = some (true, 4) := by kernel_rfl
@[simp] theorem tk110 : tk Try.prog 110 = some (.other) := by kernel_rfl
@[simp] theorem ni110 : notInt Try.prog 110 = true := by kernel_rfl
@[simp] theorem z110 : zeroHV Try.prog 110 = some [.lit (.pointer none), .lit (.pointer none), .lit (.pointer none), .str []] := by kernel_rfl
@[simp] theorem zo110 : zOneHV Try.prog 110 = some (.agg [.lit (.pointer none), .lit (.pointer none), .lit (.pointer none), .str []]) := by kernel_rfl
@[simp] theorem fd110_0 : fdInfo Try.prog 110 0 = some (0, 1, false) := by kernel_rfl
@[simp] theorem fd110_1 : fdInfo Try.prog 110 1 = some (1, 1, false) := by kernel_rfl
@[simp] theorem fd110_2 : fdInfo Try.prog 110 2 = some (2, 1, false) := by kernel_rfl
@[simp] theorem fd110_3 : fdInfo Try.prog 110 3 = some (3, 1, false) := by kernel_rfl
@[simp] theorem pl110 : places Try.prog 110 = some [(0, 1), (1, 1), (2, 1), (3, 1)] := by kernel_rfl
@[simp] theorem sl111 : slInfo Try.prog 111 = none := by kernel_rfl
@[simp] theorem ag111 : agInfo Try.prog 111 = some (true, 4) := by kernel_rfl
@[simp] theorem tk111 : tk Try.prog 111 = some (.other) := by kernel_rfl
@[simp] theorem ni111 : notInt Try.prog 111 = true := by kernel_rfl
@[simp] theorem z111 : zeroHV Try.prog 111 = some [.lit (.pointer none), .lit (.pointer none), .lit (.pointer none), .str []] := by kernel_rfl
@[simp] theorem zo111 : zOneHV Try.prog 111 = some (.agg [.lit (.pointer none), .lit (.pointer none), .lit (.pointer none), .str []]) := by kernel_rfl
@[simp] theorem fd111_0 : fdInfo Try.prog 111 0 = some (0, 1, false) := by kernel_rfl
@[simp] theorem fd111_1 : fdInfo Try.prog 111 1 = some (1, 1, false) := by kernel_rfl
@[simp] theorem fd111_2 : fdInfo Try.prog 111 2 = some (2, 1, false) := by kernel_rfl
@[simp] theorem fd111_3 : fdInfo Try.prog 111 3 = some (3, 1, false) := by kernel_rfl
@[simp] theorem pl111 : places Try.prog 111 = some [(0, 1), (1, 1), (2, 1), (3, 1)] := by kernel_rfl
@[simp] theorem sl112 : slInfo Try.prog 112 = none := by kernel_rfl
@[simp] theorem ag112 : agInfo Try.prog 112 = some (true, 0) := by kernel_rfl
@[simp] theorem tk112 : tk Try.prog 112 = some (.other) := by kernel_rfl
@[simp] theorem ni112 : notInt Try.prog 112 = true := by kernel_rfl
@[simp] theorem z112 : zeroHV Try.prog 112 = some [] := by kernel_rfl
@[simp] theorem zo112 : zOneHV Try.prog 112 = some (.agg []) := by kernel_rfl
@[simp] theorem sl113 : slInfo Try.prog 113 = none := by kernel_rfl
@[simp] theorem ag113 : agInfo Try.prog 113 = some (true, 0) := by kernel_rfl
@[simp] theorem tk113 : tk Try.prog 113 = some (.other) := by kernel_rfl
@[simp] theorem ni113 : notInt Try.prog 113 = true := by kernel_rfl
@[simp] theorem z113 : zeroHV Try.prog 113 = some [] := by kernel_rfl
@[simp] theorem zo113 : zOneHV Try.prog 113 = some (.agg []) := by kernel_rfl
@[simp] theorem sl114 : slInfo Try.prog 114 = none := by kernel_rfl
@[simp] theorem ag114 : agInfo Try.prog 114 = some (true, 0) := by kernel_rfl
@[simp] theorem tk114 : tk Try.prog 114 = some (.other) := by kernel_rfl
@[simp] theorem ni114 : notInt Try.prog 114 = true := by kernel_rfl
@[simp] theorem z114 : zeroHV Try.prog 114 = some [] := by kernel_rfl
@[simp] theorem zo114 : zOneHV Try.prog 114 = some (.agg []) := by kernel_rfl
@[simp] theorem sl115 : slInfo Try.prog 115 = none := by kernel_rfl
@[simp] theorem ag115 : agInfo Try.prog 115 = some (false, 1) := by kernel_rfl
@[simp] theorem tk115 : tk Try.prog 115 = some (.other) := by kernel_rfl
@[simp] theorem ni115 : notInt Try.prog 115 = true := by kernel_rfl
@[simp] theorem sl116 : slInfo Try.prog 116 = none := by kernel_rfl
@[simp] theorem ag116 : agInfo Try.prog 116 = some (false, 1) := by kernel_rfl
@[simp] theorem tk116 : tk Try.prog 116 = some (.int .u8) := by kernel_rfl
@[simp] theorem ni116 : notInt Try.prog 116 = false := by kernel_rfl
@[simp] theorem z116 : zeroHV Try.prog 116 = some [.lit (.int .u8 0)] := by kernel_rfl
@[simp] theorem zo116 : zOneHV Try.prog 116 = some (.lit (.int .u8 0)) := by kernel_rfl
@[simp] theorem sl117 : slInfo Try.prog 117 = none := by kernel_rfl
@[simp] theorem ag117 : agInfo Try.prog 117 = some (false, 1) := by kernel_rfl
@[simp] theorem tk117 : tk Try.prog 117 = some (.int .u8) := by kernel_rfl
@[simp] theorem ni117 : notInt Try.prog 117 = false := by kernel_rfl
@[simp] theorem z117 : zeroHV Try.prog 117 = some [.lit (.int .u8 0)] := by kernel_rfl
@[simp] theorem zo117 : zOneHV Try.prog 117 = some (.lit (.int .u8 0)) := by kernel_rfl
@[simp] theorem sl118 : slInfo Try.prog 118 = none := by kernel_rfl
@[simp] theorem ag118 : agInfo Try.prog 118 = some (false, 1) := by kernel_rfl
@[simp] theorem tk118 : tk Try.prog 118 = some (.other) := by kernel_rfl
@[simp] theorem ni118 : notInt Try.prog 118 = true := by kernel_rfl
@[simp] theorem sl119 : slInfo Try.prog 119 = none := by kernel_rfl
@[simp] theorem ag119 : agInfo Try.prog 119 = some (false, 1) := by kernel_rfl
@[simp] theorem tk119 : tk Try.prog 119 = some (.other) := by kernel_rfl
@[simp] theorem ni119 : notInt Try.prog 119 = true := by kernel_rfl
@[simp] theorem zo119 : zOneHV Try.prog 119 = some (.lit (.pointer none)) := by kernel_rfl
@[simp] theorem sl120 : slInfo Try.prog 120 = none := by kernel_rfl
@[simp] theorem ag120 : agInfo Try.prog 120 = some (false, 1) := by kernel_rfl
@[simp] theorem tk120 : tk Try.prog 120 = some (.int .i32) := by kernel_rfl
@[simp] theorem ni120 : notInt Try.prog 120 = false := by kernel_rfl
@[simp] theorem z120 : zeroHV Try.prog 120 = some [.lit (.int .i32 0)] := by kernel_rfl
@[simp] theorem zo120 : zOneHV Try.prog 120 = some (.lit (.int .i32 0)) := by kernel_rfl
@[simp] theorem sl121 : slInfo Try.prog 121 = none := by kernel_rfl
@[simp] theorem ag121 : agInfo Try.prog 121 = some (false, 1) := by kernel_rfl
@[simp] theorem tk121 : tk Try.prog 121 = some (.int .i32) := by kernel_rfl
@[simp] theorem ni121 : notInt Try.prog 121 = false := by kernel_rfl
@[simp] theorem z121 : zeroHV Try.prog 121 = some [.lit (.int .i32 0)] := by kernel_rfl
@[simp] theorem zo121 : zOneHV Try.prog 121 = some (.lit (.int .i32 0)) := by kernel_rfl
@[simp] theorem sl122 : slInfo Try.prog 122 = none := by kernel_rfl
@[simp] theorem ag122 : agInfo Try.prog 122 = some (true, 11) := by kernel_rfl
@[simp] theorem tk122 : tk Try.prog 122 = some (.other) := by kernel_rfl
@[simp] theorem ni122 : notInt Try.prog 122 = true := by kernel_rfl
@[simp] theorem z122 : zeroHV Try.prog 122 = some [.lit (.int .u64 0), .lit (.int .u64 0), .lit (.int .u32 0), .lit (.int .u8 0), .lit (.int .u8 0), .lit (.int .u8 0), .lit (.int .u8 0), .lit .nilFunc, .lit (.pointer none), .lit (.int .i32 0), .lit (.int .i32 0)] := by kernel_rfl
@[simp] theorem zo122 : zOneHV Try.prog 122 = some (.agg [.lit (.int .u64 0), .lit (.int .u64 0), .lit (.int .u32 0), .lit (.int .u8 0), .lit (.int .u8 0), .lit (.int .u8 0), .lit (.int .u8 0), .lit .nilFunc, .lit (.pointer none), .lit (.int .i32 0), .lit (.int .i32 0)]) := by kernel_rfl
@[simp] theorem fd122_0 : fdInfo Try.prog 122 0 = some (0, 1, false) := by kernel_rfl
@[simp] theorem fd122_1 : fdInfo Try.prog 122 1 = some (1, 1, false) := by kernel_rfl
@[simp] theorem fd122_2 : fdInfo Try.prog 122 2 = some (2, 1, false) := by kernel_rfl
@[simp] theorem fd122_3 : fdInfo Try.prog 122 3 = some (3, 1, false) := by kernel_rfl
@[simp] theorem fd122_4 : fdInfo Try.prog 122 4 = some (4, 1, false) := by kernel_rfl
@[simp] theorem fd122_5 : fdInfo Try.prog 122 5 = some (5, 1, false) := by kernel_rfl
@[simp] theorem fd122_6 : fdInfo Try.prog 122 6 = some (6, 1, false) := by kernel_rfl
@[simp] theorem fd122_7 : fdInfo Try.prog 122 7 = some (7, 1, false) := by kernel_rfl
@[simp] theorem fd122_8 : fdInfo Try.prog 122 8 = some (8, 1, false) := by kernel_rfl
@[simp] theorem fd122_9 : fdInfo Try.prog 122 9 = some (9, 1, false) := by kernel_rfl
@[simp] theorem fd122_10 : fdInfo Try.prog 122 10 = some (10, 1, false) := by kernel_rfl
@[simp] theorem pl122 : places Try.prog 122 = some [(0, 1), (1, 1), (2, 1), (3, 1), (4, 1), (5, 1), (6, 1), (7, 1), (8, 1), (9, 1), (10, 1)] := by kernel_rfl
@[simp] theorem sl123 : slInfo Try.prog 123 = none := by kernel_rfl
@[simp] theorem ag123 : agInfo Try.prog 123 = some (true, 11) := by kernel_rfl
@[simp] theorem tk123 : tk Try.prog 123 = some (.other) := by kernel_rfl
@[simp] theorem ni123 : notInt Try.prog 123 = true := by kernel_rfl
@[simp] theorem z123 : zeroHV Try.prog 123 = some [.lit (.int .u64 0), .lit (.int .u64 0), .lit (.int .u32 0), .lit (.int .u8 0), .lit (.int .u8 0), .lit (.int .u8 0), .lit (.int .u8 0), .lit .nilFunc, .lit (.pointer none), .lit (.int .i32 0), .lit (.int .i32 0)] := by kernel_rfl
@[simp] theorem zo123 : zOneHV Try.prog 123 = some (.agg [.lit (.int .u64 0), .lit (.int .u64 0), .lit (.int .u32 0), .lit (.int .u8 0), .lit (.int .u8 0), .lit (.int .u8 0), .lit (.int .u8 0), .lit .nilFunc, .lit (.pointer none), .lit (.int .i32 0), .lit (.int .i32 0)]) := by kernel_rfl
@[simp] theorem fd123_0 : fdInfo Try.prog 123 0 = some (0, 1, false) := by kernel_rfl
@[simp] theorem fd123_1 : fdInfo Try.prog 123 1 = some (1, 1, false) := by kernel_rfl
@[simp] theorem fd123_2 : fdInfo Try.prog 123 2 = some (2, 1, false) := by kernel_rfl
@[simp] theorem fd123_3 : fdInfo Try.prog 123 3 = some (3, 1, false) := by kernel_rfl
@[simp] theorem fd123_4 : fdInfo Try.prog 123 4 = some (4, 1, false) := by kernel_rfl
@[simp] theorem fd123_5 : fdInfo Try.prog 123 5 = some (5, 1, false) := by kernel_rfl
@[simp] theorem fd123_6 : fdInfo Try.prog 123 6 = some (6, 1, false) := by kernel_rfl
@[simp] theorem fd123_7 : fdInfo Try.prog 123 7 = some (7, 1, false) := by kernel_rfl
@[simp] theorem fd123_8 : fdInfo Try.prog 123 8 = some (8, 1, false) := by kernel_rfl
@[simp] theorem fd123_9 : fdInfo Try.prog 123 9 = some (9, 1, false) := by kernel_rfl
@[simp] theorem fd123_10 : fdInfo Try.prog 123 10 = some (10, 1, false) := by kernel_rfl
@[simp] theorem pl123 : places Try.prog 123 = some [(0, 1), (1, 1), (2, 1), (3, 1), (4, 1), (5, 1), (6, 1), (7, 1), (8, 1), (9, 1), (10, 1)] := by kernel_rfl
@[simp] theorem sl124 : slInfo Try.prog 124 = none := by kernel_rfl
@[simp] theorem ag124 : agInfo Try.prog 124 = some (false, 1) := by kernel_rfl
@[simp] theorem tk124 : tk Try.prog 124 = some (.other) := by kernel_rfl
@[simp] theorem ni124 : notInt Try.prog 124 = true := by kernel_rfl
@[simp] theorem hb2 : hasBody Try.prog 2 = true := by kernel_rfl
@[simp] theorem hb3 : hasBody Try.prog 3 = true := by kernel_rfl
@[simp] theorem hb4 : hasBody Try.prog 4 = true := by kernel_rfl
@[simp] theorem hb5 : hasBody Try.prog 5 = true := by kernel_rfl
@[simp] theorem hb6 : hasBody Try.prog 6 = true := by kernel_rfl
@[simp] theorem hb7 : hasBody Try.prog 7 = true := by kernel_rfl
@[simp] theorem hb8 : hasBody Try.prog 8 = true := by kernel_rfl
@[simp] theorem hb9 : hasBody Try.prog 9 = true := by kernel_rfl
@[simp] theorem hb10 : hasBody Try.prog 10 = true := by kernel_rfl
@[simp] theorem hb11 : hasBody Try.prog 11 = true := by kernel_rfl
@[simp] theorem hb12 : hasBody Try.prog 12 = true := by kernel_rfl
@[simp] theorem hb13 : hasBody Try.prog 13 = true := by kernel_rfl
@[simp] theorem hb14 : hasBody Try.prog 14 = true := by kernel_rfl
@[simp] theorem hb15 : hasBody Try.prog 15 = true := by kernel_rfl
@[simp] theorem hb16 : hasBody Try.prog 16 = true := by kernel_rfl
@[simp] theorem hb17 : hasBody Try.prog 17 = true := by kernel_rfl
@[simp] theorem hb18 : hasBody Try.prog 18 = true := by kernel_rfl
@[simp] theorem hb19 : hasBody Try.prog 19 = true := by kernel_rfl
@[simp] theorem hb20 : hasBody Try.prog 20 = true := by kernel_rfl
@[simp] theorem hb21 : hasBody Try.prog 21 = true := by kernel_rfl
@[simp] theorem hb22 : hasBody Try.prog 22 = true := by kernel_rfl
@[simp] theorem hb23 : hasBody Try.prog 23 = true := by kernel_rfl
@[simp] theorem hb24 : hasBody Try.prog 24 = true := by kernel_rfl
@[simp] theorem hb25 : hasBody Try.prog 25 = true := by kernel_rfl
@[simp] theorem hb26 : hasBody Try.prog 26 = true := by kernel_rfl
@[simp] theorem hb27 : hasBody Try.prog 27 = true := by kernel_rfl
@[simp] theorem hb28 : hasBody Try.prog 28 = true := by kernel_rfl
@[simp] theorem hb29 : hasBody Try.prog 29 = true := by kernel_rfl
@[simp] theorem hb30 : hasBody Try.prog 30 = true := by kernel_rfl
@[simp] theorem hb31 : hasBody Try.prog 31 = true := by kernel_rfl
@[simp] theorem hb32 : hasBody Try.prog 32 = true := by kernel_rfl
@[simp] theorem hb33 : hasBody Try.prog 33 = true := by kernel_rfl
@[simp] theorem hb34 : hasBody Try.prog 34 = true := by kernel_rfl
@[simp] theorem hb35 : hasBody Try.prog 35 = true := by kernel_rfl
@[simp] theorem hb36 : hasBody Try.prog 36 = true := by kernel_rfl
@[simp] theorem hb37 : hasBody Try.prog 37 = true := by kernel_rfl
@[simp] theorem hb38 : hasBody Try.prog 38 = true := by kernel_rfl
@[simp] theorem hb39 : hasBody Try.prog 39 = true := by kernel_rfl
@[simp] theorem hb40 : hasBody Try.prog 40 = true := by kernel_rfl
@[simp] theorem hb41 : hasBody Try.prog 41 = true := by kernel_rfl
@[simp] theorem hb42 : hasBody Try.prog 42 = true := by kernel_rfl
@[simp] theorem hb43 : hasBody Try.prog 43 = true := by kernel_rfl
@[simp] theorem hb44 : hasBody Try.prog 44 = true := by kernel_rfl
@[simp] theorem hb45 : hasBody Try.prog 45 = true := by kernel_rfl
@[simp] theorem hb46 : hasBody Try.prog 46 = true := by kernel_rfl
@[simp] theorem hb47 : hasBody Try.prog 47 = true := by kernel_rfl
@[simp] theorem hb48 : hasBody Try.prog 48 = true := by kernel_rfl
@[simp] theorem hb49 : hasBody Try.prog 49 = true := by kernel_rfl
@[simp] theorem hb50 : hasBody Try.prog 50 = true := by kernel_rfl
@[simp] theorem hb51 : hasBody Try.prog 51 = true := by kernel_rfl
@[simp] theorem hb52 : hasBody Try.prog 52 = true := by kernel_rfl
@[simp] theorem hb53 : hasBody Try.prog 53 = true := by kernel_rfl
@[simp] theorem hb54 : hasBody Try.prog 54 = true := by kernel_rfl
@[simp] theorem hb55 : hasBody Try.prog 55 = true := by kernel_rfl
@[simp] theorem hb56 : hasBody Try.prog 56 = true := by kernel_rfl
@[simp] theorem hb57 : hasBody Try.prog 57 = true := by kernel_rfl
@[simp] theorem hb58 : hasBody Try.prog 58 = true := by kernel_rfl
@[simp] theorem hb59 : hasBody Try.prog 59 = true := by kernel_rfl
@[simp] theorem hb60 : hasBody Try.prog 60 = true := by kernel_rfl
@[simp] theorem hb61 : hasBody Try.prog 61 = true := by kernel_rfl
@[simp] theorem hb62 : hasBody Try.prog 62 = true := by kernel_rfl
@[simp] theorem hb63 : hasBody Try.prog 63 = true := by kernel_rfl
@[simp] theorem hb64 : hasBody Try.prog 64 = true := by kernel_rfl
@[simp] theorem hb65 : hasBody Try.prog 65 = true := by kernel_rfl
@[simp] theorem hb66 : hasBody Try.prog 66 = true := by kernel_rfl
@[simp] theorem hb67 : hasBody Try.prog 67 = true := by kernel_rfl
@[simp] theorem hb68 : hasBody Try.prog 68 = true := by kernel_rfl
@[simp] theorem hb69 : hasBody Try.prog 69 = true := by kernel_rfl
@[simp] theorem hb70 : hasBody Try.prog 70 = true := by kernel_rfl
@[simp] theorem hb71 : hasBody Try.prog 71 = true := by kernel_rfl
@[simp] theorem hb72 : hasBody Try.prog 72 = true := by kernel_rfl
@[simp] theorem hb73 : hasBody Try.prog 73 = true := by kernel_rfl
@[simp] theorem hb74 : hasBody Try.prog 74 = true := by kernel_rfl
@[simp] theorem hb76 : hasBody Try.prog 76 = true := by kernel_rfl
@[simp] theorem hb77 : hasBody Try.prog 77 = true := by kernel_rfl
@[simp] theorem hb78 : hasBody Try.prog 78 = true := by kernel_rfl
@[simp] theorem hb79 : hasBody Try.prog 79 = true := by kernel_rfl
@[simp] theorem hb80 : hasBody Try.prog 80 = true := by kernel_rfl
@[simp] theorem hb81 : hasBody Try.prog 81 = true := by kernel_rfl
@[simp] theorem hb82 : hasBody Try.prog 82 = true := by kernel_rfl
@[simp] theorem hb83 : hasBody Try.prog 83 = true := by kernel_rfl
@[simp] theorem hb84 : hasBody Try.prog 84 = true := by kernel_rfl
@[simp] theorem hb85 : hasBody Try.prog 85 = true := by kernel_rfl
@[simp] theorem hb86 : hasBody Try.prog 86 = true := by kernel_rfl
@[simp] theorem hb87 : hasBody Try.prog 87 = true := by kernel_rfl
@[simp] theorem hb88 : hasBody Try.prog 88 = true := by kernel_rfl
@[simp] theorem hb89 : hasBody Try.prog 89 = true := by kernel_rfl
@[simp] theorem hb90 : hasBody Try.prog 90 = true := by kernel_rfl
@[simp] theorem hb91 : hasBody Try.prog 91 = true := by kernel_rfl
@[simp] theorem hb92 : hasBody Try.prog 92 = true := by kernel_rfl
@[simp] theorem hb93 : hasBody Try.prog 93 = true := by kernel_rfl
@[simp] theorem hb94 : hasBody Try.prog 94 = true := by kernel_rfl
@[simp] theorem hb95 : hasBody Try.prog 95 = true := by kernel_rfl
@[simp] theorem hb96 : hasBody Try.prog 96 = true := by kernel_rfl
@[simp] theorem hb97 : hasBody Try.prog 97 = true := by kernel_rfl
@[simp] theorem hb98 : hasBody Try.prog 98 = true := by kernel_rfl
@[simp] theorem hb99 : hasBody Try.prog 99 = true := by kernel_rfl
@[simp] theorem hb100 : hasBody Try.prog 100 = true := by kernel_rfl
@[simp] theorem hb101 : hasBody Try.prog 101 = true := by kernel_rfl
@[simp] theorem hb102 : hasBody Try.prog 102 = true := by kernel_rfl
@[simp] theorem hb103 : hasBody Try.prog 103 = true := by kernel_rfl
@[simp] theorem hb104 : hasBody Try.prog 104 = true := by kernel_rfl
@[simp] theorem hb105 : hasBody Try.prog 105 = true := by kernel_rfl
@[simp] theorem hb107 : hasBody Try.prog 107 = true := by kernel_rfl
@[simp] theorem hb108 : hasBody Try.prog 108 = true := by kernel_rfl
@[simp] theorem hb109 : hasBody Try.prog 109 = true := by kernel_rfl
@[simp] theorem hb110 : hasBody Try.prog 110 = true := by kernel_rfl
@[simp] theorem hb111 : hasBody Try.prog 111 = true := by kernel_rfl
@[simp] theorem hb112 : hasBody Try.prog 112 = true := by kernel_rfl
@[simp] theorem hb113 : hasBody Try.prog 113 = true := by kernel_rfl
@[simp] theorem hb114 : hasBody Try.prog 114 = true := by kernel_rfl
@[simp] theorem hb115 : hasBody Try.prog 115 = true := by kernel_rfl
@[simp] theorem hb116 : hasBody Try.prog 116 = true := by kernel_rfl
@[simp] theorem hb118 : hasBody Try.prog 118 = true := by kernel_rfl
@[simp] theorem hb119 : hasBody Try.prog 119 = true := by kernel_rfl
@[simp] theorem hb120 : hasBody Try.prog 120 = true := by kernel_rfl
end Go.Proofs.Ytphohigoehpkeaa.Ty
set_option linter.unusedVariables false
set_option linter.unusedSectionVars false
set_option linter.unusedSimpArgs false
/- Lists of numbers, of strings, of trigrams with their offsets, as rows. -/
namespace Go.Hv
open Go Go.RowKit
variable [GI]
def intsHV (l : List Int) : List (List HV) := l.map fun x => [i64 x]
@[simp] theorem intsHV_length (l : List Int) : (intsHV l).length = l.length := by simp [intsHV]
@[simp] theorem intsHV_getElem (l : List Int) (k : Nat) (h : k < (intsHV l).length) : (intsHV l)[k] = (fun x => [i64 x]) (l[k]'(by simpa using h)) := by simp [intsHV]
theorem intsHV_append (a b : List Int) : intsHV (a ++ b) = intsHV a ++ intsHV b := by simp [intsHV]
theorem intsHV_cons (a : Int) (b : List Int) : intsHV (a :: b) = (fun x => [i64 x]) a :: intsHV b := rfl
@[simp] theorem intsHV_snoc (l : List Int) (x : Int) : intsHV l ++ [[i64 x]] = intsHV (l ++ [x]) := by simp [intsHV]
@[simp] theorem intsHV_nil : intsHV [] = [] := rfl
@[simp] theorem isILL_intsHV (l : List Int) : isILL (intsHV l) = true := by
  unfold intsHV
  rw [isILL_iff]
  intro x hx
  obtain ⟨a, _, rfl⟩ := List.mem_map.1 hx
  simp [isIL, isI]
theorem intsHV_mem {l : List Int} {x : List HV} (h : x ∈ intsHV l) : ∃ a ∈ l, x = (fun x => [i64 x]) a := by
  obtain ⟨a, ha, rfl⟩ := List.mem_map.1 h
  exact ⟨a, ha, rfl⟩
def strsHV (l : List (List UInt8)) : List (List HV) := l.map fun x => [.str x]
@[simp] theorem strsHV_length (l : List (List UInt8)) : (strsHV l).length = l.length := by simp [strsHV]
@[simp] theorem strsHV_getElem (l : List (List UInt8)) (k : Nat) (h : k < (strsHV l).length) : (strsHV l)[k] = (fun x => [.str x]) (l[k]'(by simpa using h)) := by simp [strsHV]
theorem strsHV_append (a b : List (List UInt8)) : strsHV (a ++ b) = strsHV a ++ strsHV b := by simp [strsHV]
theorem strsHV_cons (a : (List UInt8)) (b : List (List UInt8)) : strsHV (a :: b) = (fun x => [.str x]) a :: strsHV b := rfl
@[simp] theorem strsHV_snoc (l : List (List UInt8)) (x : (List UInt8)) : strsHV l ++ [[.str x]] = strsHV (l ++ [x]) := by simp [strsHV]
@[simp] theorem strsHV_nil : strsHV [] = [] := rfl
@[simp] theorem isILL_strsHV (l : List (List UInt8)) : isILL (strsHV l) = true := by
  unfold strsHV
  rw [isILL_iff]
  intro x hx
  obtain ⟨a, _, rfl⟩ := List.mem_map.1 hx
  simp [isIL, isI]
theorem strsHV_mem {l : List (List UInt8)} {x : List HV} (h : x ∈ strsHV l) : ∃ a ∈ l, x = (fun x => [.str x]) a := by
  obtain ⟨a, ha, rfl⟩ := List.mem_map.1 h
  exact ⟨a, ha, rfl⟩
@[simp] theorem bytesHV_snoc (l : List UInt8) (x : UInt8) : bytesHV l ++ [[u8 x]] = bytesHV (l ++ [x]) := by simp [bytesHV]
@[simp] theorem tn2 (i : Nat) : ((i : Int) + 2).toNat = i + 2 := by omega
@[simp] theorem tn3 (i : Nat) : ((i : Int) + 3).toNat = i + 3 := by omega
@[simp] theorem tnAdd (i j : Nat) : ((i : Int) + (j : Int)).toNat = i + j := by omega
@[simp] theorem wrap_i64_u8 (c : UInt8) : IntKind.wrap .i64 (c.toNat : Int) = c.toNat := by
  have := c.toNat_lt
  exact wrap_i64 (by omega) (by omega)
@[simp] theorem min16 : min 16 (IntKind.bits .i64) = 16 := rfl
@[simp] theorem min8 : min 8 (IntKind.bits .i64) = 8 := rfl
/-- A trigram with its offsets. -/
structure Gram where
  code : Int
  off : List Int
  deriving DecidableEq
@[simp] def Gram.enc (g : Gram) : List HV := [i64 g.code, .sl 1 false (intsHV g.off)]
def gramsHV (l : List Gram) : List (List HV) := l.map fun x => x.enc
@[simp] theorem gramsHV_length (l : List Gram) : (gramsHV l).length = l.length := by simp [gramsHV]
@[simp] theorem gramsHV_getElem (l : List Gram) (k : Nat) (h : k < (gramsHV l).length) : (gramsHV l)[k] = (fun x => x.enc) (l[k]'(by simpa using h)) := by simp [gramsHV]
theorem gramsHV_append (a b : List Gram) : gramsHV (a ++ b) = gramsHV a ++ gramsHV b := by simp [gramsHV]
theorem gramsHV_cons (a : Gram) (b : List Gram) : gramsHV (a :: b) = (fun x => x.enc) a :: gramsHV b := rfl
@[simp] theorem gramsHV_snoc (l : List Gram) (c : Int) (o : List Int) : gramsHV l ++ [[i64 c, .sl 1 false (intsHV o)]] = gramsHV (l ++ [⟨c, o⟩]) := by simp [gramsHV]
@[simp] theorem gramsHV_nil : gramsHV [] = [] := rfl
@[simp] theorem isILL_gramsHV (l : List Gram) : isILL (gramsHV l) = true := by
  unfold gramsHV
  rw [isILL_iff]
  intro x hx
  obtain ⟨a, _, rfl⟩ := List.mem_map.1 hx
  simp [isIL, isI]
theorem gramsHV_mem {l : List Gram} {x : List HV} (h : x ∈ gramsHV l) : ∃ a ∈ l, x = (fun x => x.enc) a := by
  obtain ⟨a, ha, rfl⟩ := List.mem_map.1 h
  exact ⟨a, ha, rfl⟩
/-- Elements that tell less. -/
theorem HLe.sl {sz : Nat} {f : Bool} {es es' : List (List HV)} (hl : es'.length = es.length) (h : ∀ (i : Nat) (x x' : List HV), es[i]? = some x → es'[i]? = some x' → HLeL x x') : HLe (.sl sz f es) (.sl sz f es') := by
  intro w dead v r
  cases r with
  | nil hf hA =>
    obtain rfl : es' = [] := List.eq_nil_of_length_eq_zero hl
    exact .nil hf hA
  | @sl _ _ _ cap b off g hsz hc hf hb hbl hcell h1 hh =>
    have key : ∀ (i : Nat) (x' : List HV), es'[i]? = some x' → ∃ x, es[i]? = some x ∧ HLeL x x' := fun i x' hx' => by
      have hi : i < es.length := by have := getElem?_lt hx'; omega
      exact ⟨_, List.getElem?_eq_getElem hi, h i _ x' (List.getElem?_eq_getElem hi) hx'⟩
    rw [← hl]
    refine .sl g (fun e he => ?_) (by omega) (fun h => by rw [hf h, hl]) hb hbl (fun i j hi hj => hcell i j (by omega) hj) (fun i j hi hj => h1 i j (by omega) hj) (fun i j e c he hc' => ?_)
    · obtain ⟨i, hi⟩ := List.mem_iff_getElem?.1 he
      obtain ⟨x, hx, hle⟩ := key i e hi
      rw [← hle.length]
      exact hsz x (List.mem_of_getElem? hx)
    · obtain ⟨x, hx, hle⟩ := key i e he
      obtain ⟨c0, hc0, hle'⟩ := hle.get j c hc'
      exact hle' _ _ _ (hh i j x c0 hx hc0)
end Go.Hv
set_option linter.unusedVariables false
/- Trigrams, in plain words: folded bytes, codes, the increasing list of the codes, their offsets. -/
namespace Go.Hv
def foldB (c : UInt8) : UInt8 := if 65 ≤ c ∧ c ≤ 90 then c + 32 else c
def foldS (s : List UInt8) : List UInt8 := s.map foldB
@[simp] theorem foldS_length (s : List UInt8) : (foldS s).length = s.length := by simp [foldS]
/-- The code of three bytes. -/
def code3 (a b c : UInt8) : Int := (a.toNat : Int) * 65536 + (b.toNat : Int) * 256 + (c.toNat : Int)
/-- The code of the folded bytes at an offset. -/
def codeAt (s : List UInt8) (i : Nat) : Int := code3 (foldB (s.getD i 0)) (foldB (s.getD (i + 1) 0)) (foldB (s.getD (i + 2) 0))
theorem code3_lt (a b c : UInt8) : 0 ≤ code3 a b c ∧ code3 a b c < 16777216 := by
  have := a.toNat_lt; have := b.toNat_lt; have := c.toNat_lt
  unfold code3; omega
theorem code3_inj {a b c a' b' c' : UInt8} (h : code3 a b c = code3 a' b' c') : a = a' ∧ b = b' ∧ c = c' := by
  have := a.toNat_lt; have := b.toNat_lt; have := c.toNat_lt; have := a'.toNat_lt; have := b'.toNat_lt; have := c'.toNat_lt
  unfold code3 at h
  exact ⟨UInt8.toNat_inj.1 (by omega), UInt8.toNat_inj.1 (by omega), UInt8.toNat_inj.1 (by omega)⟩
/-- A number put into an increasing list, once. -/
def ins (l : List Int) (n : Int) : List Int :=
  match l with
  | [] => [n]
  | x :: r => if x < n then x :: ins r n else if x = n then x :: r else n :: x :: r
def Inc (l : List Int) : Prop := l.Pairwise (· < ·)
theorem ins_mem (l : List Int) (n x : Int) : x ∈ ins l n ↔ x ∈ l ∨ x = n := by
  induction l with
  | nil => simp [ins]
  | cons y r ih =>
    unfold ins
    split
    · simp only [List.mem_cons, ih]
      constructor
      · rintro (h | h | h) <;> simp [h]
      · rintro ((h | h) | h) <;> simp [h]
    · split
      · next h => subst h; simp only [List.mem_cons]; constructor
                  · rintro (h | h) <;> simp [h]
                  · rintro ((h | h) | h) <;> simp [h]
      · simp only [List.mem_cons]; constructor
        · rintro (h | h | h) <;> simp [h]
        · rintro ((h | h) | h) <;> simp [h]
theorem ins_inc {l : List Int} (h : Inc l) (n : Int) : Inc (ins l n) := by
  induction l with
  | nil => simp [ins, Inc]
  | cons y r ih =>
    unfold Inc at h
    rw [List.pairwise_cons] at h
    have ih' := ih h.2
    unfold ins
    split
    · next hlt =>
      unfold Inc
      rw [List.pairwise_cons]
      refine ⟨fun z hz => ?_, ih'⟩
      rcases (ins_mem r n z).1 hz with hz | rfl
      · exact h.1 z hz
      · exact hlt
    · split
      · exact List.pairwise_cons.2 h
      · next h1 h2 =>
        refine List.pairwise_cons.2 ⟨fun z hz => ?_, List.pairwise_cons.2 h⟩
        rcases List.mem_cons.1 hz with rfl | hz
        · omega
        · have := h.1 z hz; omega
/-- Two increasing lists with the same elements are one. -/
theorem inc_unique : ∀ {a b : List Int}, Inc a → Inc b → (∀ x, x ∈ a ↔ x ∈ b) → a = b
  | [], [], _, _, _ => rfl
  | [], y :: b, _, _, h => by have := (h y).2 (by simp); simp at this
  | x :: a, [], _, _, h => by have := (h x).1 (by simp); simp at this
  | x :: a, y :: b, ha, hb, h => by
    unfold Inc at ha hb
    rw [List.pairwise_cons] at ha hb
    have hxy : x = y := by
      have h1 := (h x).1 (by simp)
      have h2 := (h y).2 (by simp)
      rcases List.mem_cons.1 h1 with h1 | h1
      · exact h1
      · rcases List.mem_cons.1 h2 with h2 | h2
        · exact h2.symm
        · have := hb.1 x h1; have := ha.1 y h2; omega
    subst hxy
    have : a = b := inc_unique ha.2 hb.2 (fun z => by
      constructor
      · intro hz
        have h1 := (h z).1 (by simp [hz])
        rcases List.mem_cons.1 h1 with rfl | h1
        · have := ha.1 z hz; omega
        · exact h1
      · intro hz
        have h1 := (h z).2 (by simp [hz])
        rcases List.mem_cons.1 h1 with rfl | h1
        · have := hb.1 z hz; omega
        · exact h1)
    rw [this]
/-- The codes of all trigrams of the first k offsets. -/
def ofK (s : List UInt8) (k : Nat) : List Int := ((List.range k).map (codeAt s)).foldl ins []
theorem ofK_succ (s : List UInt8) (k : Nat) : ofK s (k + 1) = ins (ofK s k) (codeAt s k) := by
  unfold ofK; rw [List.range_succ, List.map_append, List.foldl_append]; rfl
def ofV (s : List UInt8) : List Int := ofK s (s.length - 2)
theorem ofK_inc (s : List UInt8) (k : Nat) : Inc (ofK s k) := by
  induction k with
  | zero => simp [ofK, Inc]
  | succ k ih => rw [ofK_succ]; exact ins_inc ih _
theorem ofK_mem (s : List UInt8) (k : Nat) (c : Int) : c ∈ ofK s k ↔ ∃ i, i < k ∧ codeAt s i = c := by
  induction k with
  | zero => simp [ofK]
  | succ k ih =>
    rw [ofK_succ, ins_mem, ih]
    constructor
    · rintro (⟨i, h1, h2⟩ | rfl)
      · exact ⟨i, by omega, h2⟩
      · exact ⟨k, by omega, rfl⟩
    · rintro ⟨i, h1, h2⟩
      by_cases e : i = k
      · subst e; exact .inr h2.symm
      · exact .inl ⟨i, by omega, h2⟩
theorem ins_length (l : List Int) (n : Int) : (ins l n).length ≤ l.length + 1 := by
  induction l with
  | nil => simp [ins]
  | cons y r ih =>
    unfold ins
    split
    · simp; omega
    · split <;> simp
theorem ofK_length (s : List UInt8) (k : Nat) : (ofK s k).length ≤ k := by
  induction k with
  | zero => simp [ofK]
  | succ k ih => rw [ofK_succ]; have := ins_length (ofK s k) (codeAt s k); omega
/-- The offsets of a code among the first k. -/
def offK (s : List UInt8) (k : Nat) (c : Int) : List Int := ((List.range k).filter fun i => decide (codeAt s i = c)).map fun i : Nat => (i : Int)
theorem offK_succ (s : List UInt8) (k : Nat) (c : Int) : offK s (k + 1) c = offK s k c ++ (if codeAt s k = c then [(k : Int)] else []) := by
  unfold offK; rw [List.range_succ, List.filter_append, List.map_append]
  by_cases e : codeAt s k = c <;> simp [e]
theorem offK_length (s : List UInt8) (k : Nat) (c : Int) : (offK s k c).length ≤ k := by
  unfold offK; rw [List.length_map]; have := List.length_filter_le (fun i => decide (codeAt s i = c)) (List.range k); simpa using this
def gramsV (s : List UInt8) : List Gram := (ofV s).map fun c => ⟨c, offK s (s.length - 2) c⟩
def atV (l : List Gram) (c : Int) : List Int := match l.find? (fun g => decide (g.code = c)) with
  | some g => g.off
  | none => []
end Go.Hv
set_option linter.unusedVariables false
set_option linter.unusedSimpArgs false
namespace Go.Hv
open Go Go.Hv Go.Proofs
open Go.Proofs.Ytphohigoehpkeaa
theorem foldB_lo {c : UInt8} (h : (c.toNat : Int) < 65) : foldB c = c := by
  unfold foldB; rw [if_neg]; rintro ⟨h1, h2⟩; rw [UInt8.le_iff_toNat_le] at h1; simp at h1; omega
theorem foldB_hi {c : UInt8} (h : 90 < (c.toNat : Int)) : foldB c = c := by
  unfold foldB; rw [if_neg]; rintro ⟨h1, h2⟩; rw [UInt8.le_iff_toNat_le] at h2; simp at h2; omega
theorem foldB_mid {c : UInt8} (h1 : 65 ≤ (c.toNat : Int)) (h2 : (c.toNat : Int) ≤ 90) : (foldB c).toNat = c.toNat + 32 := by
  have : 65 ≤ c ∧ c ≤ 90 := by simp only [UInt8.le_iff_toNat_le]; simp; omega
  unfold foldB; rw [if_pos this, UInt8.toNat_add]; simp; omega
/-- The first k bytes are folded. -/
def foldK (s : List UInt8) (k : Nat) : List UInt8 := foldS (s.take k) ++ s.drop k
@[simp] theorem foldK_length (s : List UInt8) (k : Nat) : (foldK s k).length = s.length := by simp [foldK]; omega
theorem foldK_zero (s : List UInt8) : foldK s 0 = s := by simp [foldK, foldS]
theorem foldK_all (s : List UInt8) : foldK s s.length = foldS s := by simp [foldK]
theorem foldK_get? (s : List UInt8) (k i : Nat) : (foldK s k)[i]? = if i < k then (s[i]?).map foldB else s[i]? := by
  unfold foldK foldS
  simp only [List.getElem?_append, List.length_map, List.length_take, List.getElem?_map, List.getElem?_take, List.getElem?_drop]
  by_cases h : i < k
  · by_cases h2 : i < s.length
    · simp [h, h2]; intro h3; omega
    · rw [if_neg (by omega), List.getElem?_eq_none (by omega), List.getElem?_eq_none (by omega)]; simp
  · rw [if_neg (by omega), if_neg h]
    by_cases h2 : k ≤ s.length
    · rw [Nat.min_eq_left h2, show k + (i - k) = i by omega]
    · rw [List.getElem?_eq_none (by omega), List.getElem?_eq_none (by omega)]
theorem foldK_get {s : List UInt8} {k : Nat} (h : k < s.length) (h' : k < (foldK s k).length) : (foldK s k)[k] = s[k] := by
  have := foldK_get? s k k
  rw [if_neg (Nat.lt_irrefl _), List.getElem?_eq_getElem h', List.getElem?_eq_getElem h] at this
  exact Option.some.inj this
theorem foldK_succ {s : List UInt8} {k : Nat} (h : k < s.length) : foldK s (k + 1) = (foldK s k).set k (foldB s[k]) := by
  apply List.ext_getElem?
  intro i
  rw [List.getElem?_set, foldK_get?, foldK_get?]
  by_cases e : k = i
  · subst e; simp [h]
  · rw [if_neg e]
    by_cases e2 : i < k
    · rw [if_pos e2, if_pos (by omega)]
    · rw [if_neg e2, if_neg (by omega)]
theorem bytesHV_set (l : List UInt8) (k : Nat) (b : UInt8) : (bytesHV l).set k [u8 b] = bytesHV (l.set k b) := by simp [bytesHV, List.map_set]
theorem foldK_same {s : List UInt8} {k : Nat} (h : k < s.length) (e : foldB s[k] = s[k]) : foldK s (k + 1) = foldK s k := by
  rw [foldK_succ h, e]
  apply List.ext_getElem?
  intro i
  rw [List.getElem?_set]
  split
  · next e' => subst e'; rw [if_pos (by simpa using h), List.getElem?_eq_getElem (by simpa using h), foldK_get h]
  · rfl
theorem fold_spec (c : UInt8) : Spec1 Try.prog 83 [u8 c] (u8 (foldB c)) := by
  refine Spec1.of_HT Try.func83 rfl (by rw [Try.ntmps83]; simp) rfl ?_
  rw [Try.ntmps83]
  refine HT.seq ?_
  refine HT.region ?_   -- R0
  simp (disch := first | omega | (simp <;> omega) | fail) [wrap_i64, wrap_u64, wrap_u8']
  refine HT.seq ?_
  refine HT.seq ?_
  by_cases c1 : (c.toNat : Int) < 65
  · skip
    refine HT.region ?_   -- R1
    simp (disch := first | omega | (simp <;> omega) | fail) [wrap_i64, wrap_u64, wrap_u8']
    refine HT.cond' ?_   -- if 8
    simp (disch := first | omega | (simp <;> omega) | fail) [wrap_i64, wrap_u64, wrap_u8']
    refine HT.skip ?_
    simp (disch := first | omega | (simp <;> omega) | fail) [wrap_i64, wrap_u64, wrap_u8']
    refine HT.seq ?_
    refine HT.region ?_   -- R3
    simp (disch := first | omega | (simp <;> omega) | fail) [wrap_i64, wrap_u64, wrap_u8']
    refine HT.ret ?_
    first | (simp (disch := first | omega | (simp <;> omega) | fail) [wrap_i64, wrap_u64, wrap_u8', foldB_lo, foldB_hi]; done) | (simp (disch := first | omega | (simp <;> omega) | fail) [wrap_i64, wrap_u64, wrap_u8', foldB_mid]; omega)
  by_cases c2 : 90 < (c.toNat : Int)
  · skip
    refine HT.region ?_   -- R1
    simp (disch := first | omega | (simp <;> omega) | fail) [wrap_i64, wrap_u64, wrap_u8']
    refine HT.cond' ?_   -- if 8
    simp (disch := first | omega | (simp <;> omega) | fail) [wrap_i64, wrap_u64, wrap_u8']
    refine HT.skip ?_
    simp (disch := first | omega | (simp <;> omega) | fail) [wrap_i64, wrap_u64, wrap_u8']
    refine HT.seq ?_
    refine HT.region ?_   -- R3
    simp (disch := first | omega | (simp <;> omega) | fail) [wrap_i64, wrap_u64, wrap_u8']
    refine HT.ret ?_
    first | (simp (disch := first | omega | (simp <;> omega) | fail) [wrap_i64, wrap_u64, wrap_u8', foldB_lo, foldB_hi]; done) | (simp (disch := first | omega | (simp <;> omega) | fail) [wrap_i64, wrap_u64, wrap_u8', foldB_mid]; omega)
  refine HT.region ?_   -- R1
  simp (disch := first | omega | (simp <;> omega) | fail) [wrap_i64, wrap_u64, wrap_u8']
  refine HT.cond' ?_   -- if 8
  simp (disch := first | omega | (simp <;> omega) | fail) [wrap_i64, wrap_u64, wrap_u8']
  refine HT.seq ?_
  refine HT.region ?_   -- R2
  simp (disch := first | omega | (simp <;> omega) | fail) [wrap_i64, wrap_u64, wrap_u8']
  refine HT.ret ?_
  first | (simp (disch := first | omega | (simp <;> omega) | fail) [wrap_i64, wrap_u64, wrap_u8', foldB_lo, foldB_hi]; done) | (simp (disch := first | omega | (simp <;> omega) | fail) [wrap_i64, wrap_u64, wrap_u8', foldB_mid]; omega)
theorem Fold_spec (s : List UInt8) (hs : s.length ≤ 140737488355328) : Spec1 Try.prog 67 [.str s] (.str (foldS s)) := by
  refine Spec1.of_HT Try.func67 rfl (by rw [Try.ntmps67]; simp) rfl ?_
  rw [Try.ntmps67]
  refine HT.seq ?_
  refine HT.region ?_   -- R0
  simp (disch := first | omega | (simp <;> omega) | fail) [wrap_i64, wrap_u64, wrap_u8']
  refine HT.seq ?_
  refine HT.region ?_   -- R1
  simp (disch := first | omega | (simp <;> omega) | fail) [wrap_i64, wrap_u64, wrap_u8']
  refine HT.seq ?_
  refine HT.seq ?_
  refine HT.region ?_   -- R2
  simp (disch := first | omega | (simp <;> omega) | fail) [wrap_i64, wrap_u64, wrap_u8']
  refine HT.block ?_
  refine HT.loopK (fun k : {k : Nat // k ≤ s.length} => [.s 10 (i64 k), .o 7 (.row 5 1 (bytesHV (foldK s k)))]) [3, 8, 9] [] (fun k => s.length - k) (⟨0, by omega⟩) ?_ ?_   -- block 0 turned [10, 18, 19]
  · simp (disch := first | omega | (simp <;> omega) | fail) [wrap_i64, wrap_u64, wrap_u8', foldK_zero]
  rintro ⟨k, hk⟩
  simp (disch := first | omega | (simp <;> omega) | fail) [wrap_i64, wrap_u64, wrap_u8']
  refine HT.seq ?_
  refine HT.region ?_   -- R3
  simp (disch := first | omega | (simp <;> omega) | fail) [wrap_i64, wrap_u64, wrap_u8']
  refine HT.seq ?_
  refine HT.cond' ?_   -- if 11
  simp (disch := first | omega | (simp <;> omega) | fail) [wrap_i64, wrap_u64, wrap_u8']
  refine ⟨fun h11 => ?_, fun h11 => ?_⟩
  · skip
    have hk' : k < s.length := by omega
    refine HT.skip ?_
    simp (disch := first | omega | (simp <;> omega) | fail) [wrap_i64, wrap_u64, wrap_u8']
    refine HT.seq ?_
    refine HT.block ?_
    refine HT.seq ?_
    refine HT.region ?_   -- R4
    simp (disch := first | omega | (simp <;> omega) | fail) [wrap_i64, wrap_u64, wrap_u8', foldK_get]
    refine HT.seq ?_
    by_cases c1 : (s[k].toNat : Int) < 65
    · skip
      refine HT.region ?_   -- R5
      simp (disch := first | omega | (simp <;> omega) | fail) [wrap_i64, wrap_u64, wrap_u8']
      refine HT.cond' ?_   -- if 20
      simp (disch := first | omega | (simp <;> omega) | fail) [wrap_i64, wrap_u64, wrap_u8']
      refine HT.skip ?_
      simp (disch := first | omega | (simp <;> omega) | fail) [wrap_i64, wrap_u64, wrap_u8']
      refine HT.region ?_   -- R7
      simp (disch := first | omega | (simp <;> omega) | fail) [wrap_i64, wrap_u64, wrap_u8']
      refine Round.mk' (⟨k + 1, by omega⟩) (by dsimp only; omega) rfl ?_
      simp (disch := first | omega | (simp <;> omega) | fail) [wrap_i64, wrap_u64, wrap_u8']
      first | rw [foldK_same hk' (foldB_lo c1)] | rw [foldK_same hk' (foldB_hi c2)] | (rw [foldK_succ hk', ← bytesHV_set, show (s[k].toNat : Int) + 97 - 65 = ((foldB s[k]).toNat : Int) by rw [foldB_mid (by omega) (by omega)]; omega])
    by_cases c2 : 90 < (s[k].toNat : Int)
    · skip
      refine HT.region ?_   -- R5
      simp (disch := first | omega | (simp <;> omega) | fail) [wrap_i64, wrap_u64, wrap_u8']
      refine HT.cond' ?_   -- if 20
      simp (disch := first | omega | (simp <;> omega) | fail) [wrap_i64, wrap_u64, wrap_u8']
      refine HT.skip ?_
      simp (disch := first | omega | (simp <;> omega) | fail) [wrap_i64, wrap_u64, wrap_u8']
      refine HT.region ?_   -- R7
      simp (disch := first | omega | (simp <;> omega) | fail) [wrap_i64, wrap_u64, wrap_u8']
      refine Round.mk' (⟨k + 1, by omega⟩) (by dsimp only; omega) rfl ?_
      simp (disch := first | omega | (simp <;> omega) | fail) [wrap_i64, wrap_u64, wrap_u8']
      first | rw [foldK_same hk' (foldB_lo c1)] | rw [foldK_same hk' (foldB_hi c2)] | (rw [foldK_succ hk', ← bytesHV_set, show (s[k].toNat : Int) + 97 - 65 = ((foldB s[k]).toNat : Int) by rw [foldB_mid (by omega) (by omega)]; omega])
    refine HT.region ?_   -- R5
    simp (disch := first | omega | (simp <;> omega) | fail) [wrap_i64, wrap_u64, wrap_u8']
    refine HT.cond' ?_   -- if 20
    simp (disch := first | omega | (simp <;> omega) | fail) [wrap_i64, wrap_u64, wrap_u8']
    refine HT.region ?_   -- R6
    simp (disch := first | omega | (simp <;> omega) | fail) [wrap_i64, wrap_u64, wrap_u8']
    refine HT.region ?_   -- R7
    simp (disch := first | omega | (simp <;> omega) | fail) [wrap_i64, wrap_u64, wrap_u8']
    refine Round.mk' (⟨k + 1, by omega⟩) (by dsimp only; omega) rfl ?_
    simp (disch := first | omega | (simp <;> omega) | fail) [wrap_i64, wrap_u64, wrap_u8']
    first | rw [foldK_same hk' (foldB_lo c1)] | rw [foldK_same hk' (foldB_hi c2)] | (rw [foldK_succ hk', ← bytesHV_set, show (s[k].toNat : Int) + 97 - 65 = ((foldB s[k]).toNat : Int) by rw [foldB_mid (by omega) (by omega)]; omega])
  · skip
    obtain rfl : k = s.length := by omega
    refine HT.exit ?_
    simp (disch := first | omega | (simp <;> omega) | fail) [wrap_i64, wrap_u64, wrap_u8']
    refine HT.seq ?_
    refine HT.region ?_   -- R8
    simp (disch := first | omega | (simp <;> omega) | fail) [wrap_i64, wrap_u64, wrap_u8', unbytes_bytesHV, foldK_all]
    refine HT.ret ?_
    simp (disch := first | omega | (simp <;> omega) | fail) [wrap_i64, wrap_u64, wrap_u8']
theorem getD_eq {s : List UInt8} {i : Nat} (h : i < s.length) : s.getD i 0 = s[i] := by simp [List.getD, h]
theorem codeAt_eq {s : List UInt8} {i : Nat} (h : i + 2 < s.length) : codeAt s i = code3 (foldB s[i]) (foldB s[i + 1]) (foldB s[i + 2]) := by
  unfold codeAt; rw [getD_eq (by omega), getD_eq (by omega), getD_eq h]
theorem shl_or (a b k : Nat) (hb : b < 2 ^ k) : (a * 2 ^ k) ||| b = a * 2 ^ k + b := by
  rw [← Nat.shiftLeft_eq, ← Nat.shiftLeft_add_eq_or_of_lt hb]
theorem bv_or {x y : Int} {n m : Nat} (hx : x = n) (hy : y = m) (hn : n < 2 ^ 40) (hm : m < 2 ^ 40) : IntKind.wrap .i64 (((BitVec.ofInt IntKind.i64.bits x) ||| (BitVec.ofInt IntKind.i64.bits y)).toNat : Int) = ((n ||| m : Nat) : Int) := by
  subst hx; subst hy
  have h1 : n ||| m < 2 ^ 40 := Nat.or_lt_two_pow hn hm
  have : ((BitVec.ofInt IntKind.i64.bits (n : Int)) ||| (BitVec.ofInt IntKind.i64.bits (m : Int))).toNat = n ||| m := by
    rw [BitVec.toNat_or, BitVec.ofInt_natCast, BitVec.ofInt_natCast, BitVec.toNat_ofNat, BitVec.toNat_ofNat, Nat.mod_eq_of_lt (by show n < 2 ^ 64; omega), Nat.mod_eq_of_lt (by show m < 2 ^ 64; omega)]
  rw [this, wrap_i64 (by omega) (by omega)]
theorem or_code (a b c : UInt8) : IntKind.wrap .i64 (((BitVec.ofInt IntKind.i64.bits (IntKind.wrap .i64 (((BitVec.ofInt IntKind.i64.bits ((a.toNat : Int) * 65536)) ||| (BitVec.ofInt IntKind.i64.bits ((b.toNat : Int) * 256))).toNat : Int))) ||| (BitVec.ofInt IntKind.i64.bits (c.toNat : Int))).toNat : Int) = code3 a b c := by
  have ha := a.toNat_lt; have hb := b.toNat_lt; have hc := c.toNat_lt
  have e1 : a.toNat * 65536 ||| b.toNat * 256 = (a.toNat * 256 + b.toNat) * 2 ^ 8 := by
    have h := shl_or a.toNat (b.toNat * 256) 16 (by omega)
    rw [show (2 : Nat) ^ 16 = 65536 by rfl] at h
    rw [h]; omega
  have e2 := bv_or (x := (a.toNat : Int) * 65536) (y := (b.toNat : Int) * 256) (n := a.toNat * 65536) (m := b.toNat * 256) (by omega) (by omega) (by omega) (by omega)
  rw [e2, e1]
  rw [bv_or (n := (a.toNat * 256 + b.toNat) * 2 ^ 8) (m := c.toNat) (by omega) (by omega) (by omega) (by omega), shl_or _ _ 8 (by omega)]
  unfold code3; omega
theorem refat_spec (s : List UInt8) (i : Nat) (h : i + 2 < s.length) (hs : s.length ≤ 140737488355328) : Spec1 Try.prog 68 [.str s, i64 i] (i64 (codeAt s i)) := by
  have h0 := (foldB s[i]).toNat_lt; have h1 := (foldB s[i + 1]).toNat_lt; have h2 := (foldB s[i + 2]).toNat_lt
  refine Spec1.of_HT Try.func68 rfl (by rw [Try.ntmps68]; simp) rfl ?_
  rw [Try.ntmps68]
  refine HT.seq ?_
  refine HT.region ?_   -- R0
  simp (disch := first | omega | (simp <;> omega) | fail) [wrap_i64, wrap_u64, wrap_u8']
  refine HT.seq ?_
  refine HT.draw [.batch [0, 1, 2, 3, 4, 5, 6, 7, 8, 9, 10, 11, 12, 13, 14, 15, 16, 17, 18, 19, 20, 21]] (by kernel_rfl) ?_   -- R1
  simp (disch := first | omega | (simp <;> omega) | fail) [wrap_i64, wrap_u64, wrap_u8']
  refine stepK.mk (.call1 _ _ _ rfl Ty.hb83 rfl rfl (fold_spec _)) ?_
  simp (disch := first | omega | (simp <;> omega) | fail) [wrap_i64, wrap_u64, wrap_u8']
  refine stepK.mk (.call1 _ _ _ rfl Ty.hb83 rfl rfl (fold_spec _)) ?_
  simp (disch := first | omega | (simp <;> omega) | fail) [wrap_i64, wrap_u64, wrap_u8']
  refine stepK.mk (.call1 _ _ _ rfl Ty.hb83 rfl rfl (fold_spec _)) ?_
  simp (disch := first | omega | (simp <;> omega) | fail) [wrap_i64, wrap_u64, wrap_u8']
  refine HT.ret ?_
  simp (disch := first | omega | (simp <;> omega) | fail) [wrap_i64, wrap_u64, wrap_u8', codeAt_eq h, code3]
theorem code_spec (s : List UInt8) (i : Nat) (h : i + 2 < s.length) (hs : s.length ≤ 140737488355328) : Spec1 Try.prog 66 [.str s, i64 i] (i64 (code3 s[i] s[i + 1] s[i + 2])) := by
  have h0 := s[i].toNat_lt; have h1 := s[i + 1].toNat_lt; have h2 := s[i + 2].toNat_lt
  refine Spec1.of_HT Try.func66 rfl (by rw [Try.ntmps66]; simp) rfl ?_
  rw [Try.ntmps66]
  refine HT.seq ?_
  refine HT.region ?_   -- R0
  simp (disch := first | omega | (simp <;> omega) | fail) [wrap_i64, wrap_u64, wrap_u8', -BitVec.toNat_or, -BitVec.toNat_ofInt, -BitVec.ofInt_natCast]
  refine HT.seq ?_
  refine HT.draw [.batch [0, 1, 2, 3, 4, 5, 6, 7, 8, 9, 10, 11, 12, 13, 14, 15, 16, 17, 18]] (by kernel_rfl) ?_   -- R1
  simp (disch := first | omega | (simp <;> omega) | fail) [wrap_i64, wrap_u64, wrap_u8', -BitVec.toNat_or, -BitVec.toNat_ofInt, -BitVec.ofInt_natCast]
  refine HT.ret ?_
  simp (disch := first | omega | (simp <;> omega) | fail) [wrap_i64, wrap_u64, wrap_u8', -BitVec.toNat_or, -BitVec.toNat_ofInt, -BitVec.ofInt_natCast, or_code]
theorem foldS_get {s : List UInt8} {i : Nat} (h : i < s.length) (h' : i < (foldS s).length) : (foldS s)[i] = foldB s[i] := by simp [foldS]
/-- What Code hands back. -/
def codeV (s : List UInt8) : Int := if s.length = 3 then codeAt s 0 else 0
theorem codeAt_foldS {s : List UInt8} {i : Nat} (h : i + 2 < s.length) : codeAt s i = code3 ((foldS s)[i]'(by simp; omega)) ((foldS s)[i + 1]'(by simp; omega)) ((foldS s)[i + 2]'(by simp; omega)) := by
  rw [codeAt_eq h, foldS_get (by omega), foldS_get (by omega), foldS_get h]
theorem Code_spec (s : List UInt8) (hs : s.length ≤ 140737488355328) : SpecT Try.prog 31 [.str s] [i64 (codeV s), bo (decide (s.length = 3))] := by
  refine SpecT.of_HT Try.func31 rfl (by rw [Try.ntmps31]; simp) (rs := [.tmp 2, .tmp 3]) rfl (by decide) ?_
  rw [Try.ntmps31]
  refine HT.seq ?_
  refine HT.region ?_   -- R0
  simp (disch := first | omega | (simp <;> omega) | fail) [wrap_i64, wrap_u64, wrap_u8']
  refine HT.seq ?_
  refine HT.seq ?_
  by_cases c1 : ¬ s.length = 3
  · skip
    refine HT.region ?_   -- R1
    simp (disch := first | omega | (simp <;> omega) | fail) [wrap_i64, wrap_u64, wrap_u8']
    refine HT.cond' ?_   -- if 6
    simp (disch := first | omega | (simp <;> omega) | fail) [wrap_i64, wrap_u64, wrap_u8']
    refine HT.seq ?_
    refine HT.region ?_   -- R2
    simp (disch := first | omega | (simp <;> omega) | fail) [wrap_i64, wrap_u64, wrap_u8']
    refine HT.ret ?_
    simp (disch := first | omega | (simp <;> omega) | fail) [wrap_i64, wrap_u64, wrap_u8', codeV, c1]
  refine HT.region ?_   -- R1
  simp (disch := first | omega | (simp <;> omega) | fail) [wrap_i64, wrap_u64, wrap_u8']
  refine HT.cond' ?_   -- if 6
  simp (disch := first | omega | (simp <;> omega) | fail) [wrap_i64, wrap_u64, wrap_u8']
  refine HT.skip ?_
  simp (disch := first | omega | (simp <;> omega) | fail) [wrap_i64, wrap_u64, wrap_u8']
  refine HT.seq ?_
  refine HT.region ?_   -- R3
  simp (disch := first | omega | (simp <;> omega) | fail) [wrap_i64, wrap_u64, wrap_u8']
  refine stepK.mk (.call1 _ _ _ _ rfl Ty.hb67 rfl (Fold_spec s (by omega)) rfl rfl) ?_
  simp (disch := first | omega | (simp <;> omega) | fail) [wrap_i64, wrap_u64, wrap_u8']
  refine stepK.mk (.call1 _ _ _ _ rfl Ty.hb66 rfl (code_spec (foldS s) 0 (by simp; omega) (by simp; omega)) rfl rfl) ?_
  simp (disch := first | omega | (simp <;> omega) | fail) [wrap_i64, wrap_u64, wrap_u8']
  refine HT.ret ?_
  have c2 : s.length = 3 := by omega
  have h := codeAt_foldS (s := s) (i := 0) (by omega)
  simp [codeV, c2, h]
theorem refCode_spec (s : List UInt8) (hs : s.length ≤ 140737488355328) : SpecT Try.prog 32 [.str s] [i64 (codeV s), bo (decide (s.length = 3))] := by
  refine SpecT.of_HT Try.func32 rfl (by rw [Try.ntmps32]; simp) (rs := [.tmp 2, .tmp 3]) rfl (by decide) ?_
  rw [Try.ntmps32]
  refine HT.seq ?_
  refine HT.region ?_   -- R0
  simp (disch := first | omega | (simp <;> omega) | fail) [wrap_i64, wrap_u64, wrap_u8']
  refine HT.seq ?_
  refine HT.seq ?_
  by_cases c1 : ¬ s.length = 3
  · skip
    refine HT.region ?_   -- R1
    simp (disch := first | omega | (simp <;> omega) | fail) [wrap_i64, wrap_u64, wrap_u8']
    refine HT.cond' ?_   -- if 6
    simp (disch := first | omega | (simp <;> omega) | fail) [wrap_i64, wrap_u64, wrap_u8']
    refine HT.seq ?_
    refine HT.region ?_   -- R2
    simp (disch := first | omega | (simp <;> omega) | fail) [wrap_i64, wrap_u64, wrap_u8']
    refine HT.ret ?_
    simp (disch := first | omega | (simp <;> omega) | fail) [wrap_i64, wrap_u64, wrap_u8', codeV, c1]
  refine HT.region ?_   -- R1
  simp (disch := first | omega | (simp <;> omega) | fail) [wrap_i64, wrap_u64, wrap_u8']
  refine HT.cond' ?_   -- if 6
  simp (disch := first | omega | (simp <;> omega) | fail) [wrap_i64, wrap_u64, wrap_u8']
  refine HT.skip ?_
  simp (disch := first | omega | (simp <;> omega) | fail) [wrap_i64, wrap_u64, wrap_u8']
  refine HT.seq ?_
  refine HT.region ?_   -- R3
  simp (disch := first | omega | (simp <;> omega) | fail) [wrap_i64, wrap_u64, wrap_u8']
  refine stepK.mk (.call1 _ _ _ _ rfl Ty.hb68 rfl (refat_spec s 0 (by omega) (by omega)) rfl rfl) ?_
  simp (disch := first | omega | (simp <;> omega) | fail) [wrap_i64, wrap_u64, wrap_u8']
  refine HT.ret ?_
  have c2 : s.length = 3 := by omega
  simp [codeV, c2]
/-- The bytes of a code. -/
def bytes3 (n : Int) : List UInt8 := [UInt8.ofNat (n / 65536 % 256).toNat, UInt8.ofNat (n / 256 % 256).toNat, UInt8.ofNat (n % 256).toNat]
def strV (n : Int) : List UInt8 := if 0 ≤ n ∧ n < 16777216 then bytes3 n else []
def strOK (n : Int) : Bool := decide (0 ≤ n ∧ n < 16777216)
theorem unb3 (x y z : Int) : unbytes [[.lit (.int .u8 (IntKind.wrap .u8 x))], [.lit (.int .u8 (IntKind.wrap .u8 y))], [.lit (.int .u8 (IntKind.wrap .u8 z))]] = some [UInt8.ofNat (x % 256).toNat, UInt8.ofNat (y % 256).toNat, UInt8.ofNat (z % 256).toNat] := by
  have e : ∀ n : Int, HV.lit (.int .u8 (IntKind.wrap .u8 n)) = u8 (UInt8.ofNat (n % 256).toNat) := fun n => by
    have : IntKind.wrap .u8 n = n % 256 := by simp [IntKind.wrap, IntKind.bits, IntKind.signed]
    rw [u8_wrap, this]
  rw [e, e, e]
  exact unbytes_bytesHV [UInt8.ofNat (x % 256).toNat, UInt8.ofNat (y % 256).toNat, UInt8.ofNat (z % 256).toNat]
theorem fdiv_pos' (n : Int) (k : Int) (h : 0 ≤ k) : n.fdiv k = n / k := Int.fdiv_eq_ediv_of_nonneg n h
theorem strV_no {n : Int} (h : n < 0 ∨ 16777216 ≤ n) : strV n = [] ∧ strOK n = false := by
  unfold strV strOK; rw [if_neg (by omega)]; simp; omega
theorem strV_yes {n : Int} (h : ¬ n < 0) (h2 : ¬ 16777216 ≤ n) : strV n = bytes3 n ∧ strOK n = true := by
  unfold strV strOK; rw [if_pos (by omega)]; simp; omega
theorem String_spec (n : Int) : SpecT Try.prog 33 [i64 n] [.str (strV n), bo (strOK n)] := by
  refine SpecT.of_HT Try.func33 rfl (by rw [Try.ntmps33]; simp) (rs := [.tmp 2, .tmp 3]) rfl (by decide) ?_
  rw [Try.ntmps33]
  refine HT.seq ?_
  refine HT.region ?_   -- R0
  simp (disch := first | omega | (simp <;> omega) | fail) [wrap_i64, wrap_u64, wrap_u8']
  refine HT.seq ?_
  refine HT.seq ?_
  by_cases c1 : n < 0
  · skip
    refine HT.region ?_   -- R1
    simp (disch := first | omega | (simp <;> omega) | fail) [wrap_i64, wrap_u64, wrap_u8']
    refine HT.cond' ?_   -- if 9
    simp (disch := first | omega | (simp <;> omega) | fail) [wrap_i64, wrap_u64, wrap_u8']
    refine HT.seq ?_
    refine HT.region ?_   -- R2
    simp (disch := first | omega | (simp <;> omega) | fail) [wrap_i64, wrap_u64, wrap_u8']
    refine HT.ret ?_
    first | exact (by have h := strV_no (n := n) (.inl c1); simp [h]) | exact (by have h := strV_no (n := n) (.inr c2); simp [h])
  by_cases c2 : 16777216 ≤ n
  · skip
    refine HT.region ?_   -- R1
    simp (disch := first | omega | (simp <;> omega) | fail) [wrap_i64, wrap_u64, wrap_u8']
    refine HT.cond' ?_   -- if 9
    simp (disch := first | omega | (simp <;> omega) | fail) [wrap_i64, wrap_u64, wrap_u8']
    refine HT.seq ?_
    refine HT.region ?_   -- R2
    simp (disch := first | omega | (simp <;> omega) | fail) [wrap_i64, wrap_u64, wrap_u8']
    refine HT.ret ?_
    first | exact (by have h := strV_no (n := n) (.inl c1); simp [h]) | exact (by have h := strV_no (n := n) (.inr c2); simp [h])
  refine HT.region ?_   -- R1
  simp (disch := first | omega | (simp <;> omega) | fail) [wrap_i64, wrap_u64, wrap_u8']
  refine HT.cond' ?_   -- if 9
  simp (disch := first | omega | (simp <;> omega) | fail) [wrap_i64, wrap_u64, wrap_u8']
  refine HT.skip ?_
  simp (disch := first | omega | (simp <;> omega) | fail) [wrap_i64, wrap_u64, wrap_u8']
  refine HT.seq ?_
  refine HT.region ?_   -- R3
  simp (disch := first | omega | (simp <;> omega) | fail) [wrap_i64, wrap_u64, wrap_u8', unb3]
  refine HT.ret ?_
  have h := strV_yes c1 c2
  simp (disch := first | omega | (simp <;> omega) | fail) [wrap_i64, wrap_u64, wrap_u8', h, bytes3, fdiv_pos']
theorem refString_spec (n : Int) : SpecT Try.prog 34 [i64 n] [.str (strV n), bo (strOK n)] := by
  refine SpecT.of_HT Try.func34 rfl (by rw [Try.ntmps34]; simp) (rs := [.tmp 2, .tmp 3]) rfl (by decide) ?_
  rw [Try.ntmps34]
  refine HT.seq ?_
  refine HT.region ?_   -- R0
  simp (disch := first | omega | (simp <;> omega) | fail) [wrap_i64, wrap_u64, wrap_u8']
  refine HT.seq ?_
  refine HT.seq ?_
  by_cases c1 : n < 0
  · skip
    refine HT.region ?_   -- R1
    simp (disch := first | omega | (simp <;> omega) | fail) [wrap_i64, wrap_u64, wrap_u8']
    refine HT.cond' ?_   -- if 9
    simp (disch := first | omega | (simp <;> omega) | fail) [wrap_i64, wrap_u64, wrap_u8']
    refine HT.seq ?_
    refine HT.region ?_   -- R2
    simp (disch := first | omega | (simp <;> omega) | fail) [wrap_i64, wrap_u64, wrap_u8']
    refine HT.ret ?_
    first | exact (by have h := strV_no (n := n) (.inl c1); simp [h]) | exact (by have h := strV_no (n := n) (.inr c2); simp [h])
  by_cases c2 : 16777216 ≤ n
  · skip
    refine HT.region ?_   -- R1
    simp (disch := first | omega | (simp <;> omega) | fail) [wrap_i64, wrap_u64, wrap_u8']
    refine HT.cond' ?_   -- if 9
    simp (disch := first | omega | (simp <;> omega) | fail) [wrap_i64, wrap_u64, wrap_u8']
    refine HT.seq ?_
    refine HT.region ?_   -- R2
    simp (disch := first | omega | (simp <;> omega) | fail) [wrap_i64, wrap_u64, wrap_u8']
    refine HT.ret ?_
    first | exact (by have h := strV_no (n := n) (.inl c1); simp [h]) | exact (by have h := strV_no (n := n) (.inr c2); simp [h])
  refine HT.region ?_   -- R1
  simp (disch := first | omega | (simp <;> omega) | fail) [wrap_i64, wrap_u64, wrap_u8']
  refine HT.cond' ?_   -- if 9
  simp (disch := first | omega | (simp <;> omega) | fail) [wrap_i64, wrap_u64, wrap_u8']
  refine HT.skip ?_
  simp (disch := first | omega | (simp <;> omega) | fail) [wrap_i64, wrap_u64, wrap_u8']
  refine HT.seq ?_
  refine HT.region ?_   -- R3
  simp (disch := first | omega | (simp <;> omega) | fail) [wrap_i64, wrap_u64, wrap_u8', unb3]
  refine HT.ret ?_
  have h := strV_yes c1 c2
  simp (disch := first | omega | (simp <;> omega) | fail) [wrap_i64, wrap_u64, wrap_u8', h, bytes3, Int.tdiv_eq_ediv_of_nonneg]
end Go.Hv
set_option linter.unusedVariables false
set_option linter.unusedSimpArgs false
namespace Go.Hv
open Go Go.Hv Go.Proofs
open Go.Proofs.Ytphohigoehpkeaa
theorem take_all_eq {a b : List Int} (hl : a.length = b.length) (h : ∀ i, i < a.length → a[i]? = b[i]?) : a = b := by
  apply List.ext_getElem?
  intro i
  rcases Nat.lt_or_ge i a.length with h1 | h1
  · exact h i h1
  · rw [List.getElem?_eq_none h1, List.getElem?_eq_none (by omega)]
theorem agree_succ {α : Type} {a b : List α} {k : Nat} (hg : ∀ i, i < k → a[i]? = b[i]?) (h : a[k]? = b[k]?) : ∀ i, i < k + 1 → a[i]? = b[i]? := fun i hi => by
  rcases Nat.lt_or_ge i k with h1 | h1
  · exact hg i h1
  · have : i = k := by omega
    subst this; exact h
theorem SameInts_spec (f g : Bool) (a b : List Int) (ha : a.length ≤ 140737488355328) : Spec1 Try.prog 35 [.sl 1 f (intsHV a), .sl 1 g (intsHV b)] (bo (decide (a = b))) := by
  refine Spec1.of_HT Try.func35 rfl (by rw [Try.ntmps35]; simp) rfl ?_
  rw [Try.ntmps35]
  refine HT.seq ?_
  refine HT.region ?_   -- R0
  simp (disch := first | omega | (simp <;> omega) | fail) [wrap_i64, wrap_u64, wrap_u8']
  refine HT.seq ?_
  refine HT.seq ?_
  by_cases c1 : ¬ a.length = b.length
  · skip
    refine HT.region ?_   -- R1
    simp (disch := first | omega | (simp <;> omega) | fail) [wrap_i64, wrap_u64, wrap_u8']
    refine HT.cond' ?_   -- if 10
    simp (disch := first | omega | (simp <;> omega) | fail) [wrap_i64, wrap_u64, wrap_u8']
    refine HT.seq ?_
    refine HT.region ?_   -- R2
    simp (disch := first | omega | (simp <;> omega) | fail) [wrap_i64, wrap_u64, wrap_u8']
    refine HT.ret ?_
    have : a ≠ b := fun h => c1 (by rw [h])
    simp (disch := first | omega | (simp <;> omega) | fail) [wrap_i64, wrap_u64, wrap_u8', this]
  refine HT.region ?_   -- R1
  simp (disch := first | omega | (simp <;> omega) | fail) [wrap_i64, wrap_u64, wrap_u8']
  refine HT.cond' ?_   -- if 10
  simp (disch := first | omega | (simp <;> omega) | fail) [wrap_i64, wrap_u64, wrap_u8']
  refine HT.skip ?_
  simp (disch := first | omega | (simp <;> omega) | fail) [wrap_i64, wrap_u64, wrap_u8']
  refine HT.seq ?_
  refine HT.seq ?_
  refine HT.region ?_   -- R3
  simp (disch := first | omega | (simp <;> omega) | fail) [wrap_i64, wrap_u64, wrap_u8']
  refine HT.block ?_
  refine HT.loopK (fun k : {k : Nat // k ≤ a.length ∧ ∀ i, i < k → a[i]? = b[i]?} => [.s 5 (i64 k)]) [0, 1] [] (fun k => a.length - k) (⟨0, by omega, by intro i hi; omega⟩) ?_ ?_   -- block 0 turned [5]
  · simp (disch := first | omega | (simp <;> omega) | fail) [wrap_i64, wrap_u64, wrap_u8']
  rintro ⟨k, hk, hg⟩
  simp (disch := first | omega | (simp <;> omega) | fail) [wrap_i64, wrap_u64, wrap_u8']
  refine HT.seq ?_
  refine HT.seq ?_
  refine HT.region ?_   -- R4
  simp (disch := first | omega | (simp <;> omega) | fail) [wrap_i64, wrap_u64, wrap_u8']
  refine HT.cond' ?_   -- if 14
  simp (disch := first | omega | (simp <;> omega) | fail) [wrap_i64, wrap_u64, wrap_u8']
  refine ⟨fun h14 => ?_, fun h14 => ?_⟩
  · skip
    have hk' : k < a.length := by omega
    have hkb : k < b.length := by omega
    refine HT.skip ?_
    simp (disch := first | omega | (simp <;> omega) | fail) [wrap_i64, wrap_u64, wrap_u8']
    refine HT.seq ?_
    refine HT.block ?_
    refine HT.seq ?_
    refine HT.draw [.batch [0, 1, 2, 3, 4, 5, 6, 7, 8]] (by kernel_rfl) ?_   -- R6
    simp (disch := first | omega | (simp <;> omega) | fail) [wrap_i64, wrap_u64, wrap_u8']
    refine HT.cond' ?_   -- if 25
    simp (disch := first | omega | (simp <;> omega) | fail) [wrap_i64, wrap_u64, wrap_u8']
    refine ⟨fun h25 => ?_, fun h25 => ?_⟩
    · skip
      refine HT.seq ?_
      refine HT.region ?_   -- R7
      simp (disch := first | omega | (simp <;> omega) | fail) [wrap_i64, wrap_u64, wrap_u8']
      refine HT.ret ?_
      have : a ≠ b := fun h => by subst h; simp at h25
      simp (disch := first | omega | (simp <;> omega) | fail) [wrap_i64, wrap_u64, wrap_u8', this]
    · skip
      refine HT.skip ?_
      simp (disch := first | omega | (simp <;> omega) | fail) [wrap_i64, wrap_u64, wrap_u8']
      refine HT.region ?_   -- R5
      simp (disch := first | omega | (simp <;> omega) | fail) [wrap_i64, wrap_u64, wrap_u8']
      refine Round.mk' (⟨k + 1, by omega, agree_succ hg (by rw [List.getElem?_eq_getElem hk', List.getElem?_eq_getElem hkb, h25])⟩) (by dsimp only; omega) rfl ?_
      simp (disch := first | omega | (simp <;> omega) | fail) [wrap_i64, wrap_u64, wrap_u8']
  · skip
    obtain rfl : k = a.length := by omega
    refine HT.exit ?_
    simp (disch := first | omega | (simp <;> omega) | fail) [wrap_i64, wrap_u64, wrap_u8']
    refine HT.seq ?_
    refine HT.region ?_   -- R8
    simp (disch := first | omega | (simp <;> omega) | fail) [wrap_i64, wrap_u64, wrap_u8']
    refine HT.ret ?_
    have : a = b := take_all_eq (by omega) hg
    simp (disch := first | omega | (simp <;> omega) | fail) [wrap_i64, wrap_u64, wrap_u8', this]
theorem Ints_spec (f g : Bool) (a b : List Int) (ha : a.length ≤ 140737488355328) : Spec1 Try.prog 17 [.sl 1 f (intsHV a), .sl 1 g (intsHV b)] (bo (decide (a = b))) := by
  refine Spec1.of_HT Try.func17 rfl (by rw [Try.ntmps17]; simp) rfl ?_
  rw [Try.ntmps17]
  refine HT.seq ?_
  refine HT.region ?_   -- R0
  simp (disch := first | omega | (simp <;> omega) | fail) [wrap_i64, wrap_u64, wrap_u8']
  refine HT.seq ?_
  refine HT.seq ?_
  by_cases c1 : ¬ a.length = b.length
  · skip
    refine HT.region ?_   -- R1
    simp (disch := first | omega | (simp <;> omega) | fail) [wrap_i64, wrap_u64, wrap_u8']
    refine HT.cond' ?_   -- if 10
    simp (disch := first | omega | (simp <;> omega) | fail) [wrap_i64, wrap_u64, wrap_u8']
    refine HT.seq ?_
    refine HT.region ?_   -- R2
    simp (disch := first | omega | (simp <;> omega) | fail) [wrap_i64, wrap_u64, wrap_u8']
    refine HT.ret ?_
    have : a ≠ b := fun h => c1 (by rw [h])
    simp (disch := first | omega | (simp <;> omega) | fail) [wrap_i64, wrap_u64, wrap_u8', this]
  refine HT.region ?_   -- R1
  simp (disch := first | omega | (simp <;> omega) | fail) [wrap_i64, wrap_u64, wrap_u8']
  refine HT.cond' ?_   -- if 10
  simp (disch := first | omega | (simp <;> omega) | fail) [wrap_i64, wrap_u64, wrap_u8']
  refine HT.skip ?_
  simp (disch := first | omega | (simp <;> omega) | fail) [wrap_i64, wrap_u64, wrap_u8']
  refine HT.seq ?_
  refine HT.seq ?_
  refine HT.region ?_   -- R3
  simp (disch := first | omega | (simp <;> omega) | fail) [wrap_i64, wrap_u64, wrap_u8']
  refine HT.block ?_
  refine HT.loopK (fun k : {k : Nat // k ≤ a.length ∧ ∀ i, i < k → a[i]? = b[i]?} => [.s 5 (i64 k)]) [0, 1] [] (fun k => a.length - k) (⟨0, by omega, by intro i hi; omega⟩) ?_ ?_   -- block 0 turned [5]
  · simp (disch := first | omega | (simp <;> omega) | fail) [wrap_i64, wrap_u64, wrap_u8']
  rintro ⟨k, hk, hg⟩
  simp (disch := first | omega | (simp <;> omega) | fail) [wrap_i64, wrap_u64, wrap_u8']
  refine HT.seq ?_
  refine HT.seq ?_
  refine HT.region ?_   -- R4
  simp (disch := first | omega | (simp <;> omega) | fail) [wrap_i64, wrap_u64, wrap_u8']
  refine HT.cond' ?_   -- if 14
  simp (disch := first | omega | (simp <;> omega) | fail) [wrap_i64, wrap_u64, wrap_u8']
  refine ⟨fun h14 => ?_, fun h14 => ?_⟩
  · skip
    have hk' : k < a.length := by omega
    have hkb : k < b.length := by omega
    refine HT.skip ?_
    simp (disch := first | omega | (simp <;> omega) | fail) [wrap_i64, wrap_u64, wrap_u8']
    refine HT.seq ?_
    refine HT.block ?_
    refine HT.seq ?_
    refine HT.draw [.batch [0, 1, 2, 3, 4, 5, 6, 7, 8]] (by kernel_rfl) ?_   -- R6
    simp (disch := first | omega | (simp <;> omega) | fail) [wrap_i64, wrap_u64, wrap_u8']
    refine HT.cond' ?_   -- if 25
    simp (disch := first | omega | (simp <;> omega) | fail) [wrap_i64, wrap_u64, wrap_u8']
    refine ⟨fun h25 => ?_, fun h25 => ?_⟩
    · skip
      refine HT.seq ?_
      refine HT.region ?_   -- R7
      simp (disch := first | omega | (simp <;> omega) | fail) [wrap_i64, wrap_u64, wrap_u8']
      refine HT.ret ?_
      have : a ≠ b := fun h => by subst h; simp at h25
      simp (disch := first | omega | (simp <;> omega) | fail) [wrap_i64, wrap_u64, wrap_u8', this]
    · skip
      refine HT.skip ?_
      simp (disch := first | omega | (simp <;> omega) | fail) [wrap_i64, wrap_u64, wrap_u8']
      refine HT.region ?_   -- R5
      simp (disch := first | omega | (simp <;> omega) | fail) [wrap_i64, wrap_u64, wrap_u8']
      refine Round.mk' (⟨k + 1, by omega, agree_succ hg (by rw [List.getElem?_eq_getElem hk', List.getElem?_eq_getElem hkb, h25])⟩) (by dsimp only; omega) rfl ?_
      simp (disch := first | omega | (simp <;> omega) | fail) [wrap_i64, wrap_u64, wrap_u8']
  · skip
    obtain rfl : k = a.length := by omega
    refine HT.exit ?_
    simp (disch := first | omega | (simp <;> omega) | fail) [wrap_i64, wrap_u64, wrap_u8']
    refine HT.seq ?_
    refine HT.region ?_   -- R8
    simp (disch := first | omega | (simp <;> omega) | fail) [wrap_i64, wrap_u64, wrap_u8']
    refine HT.ret ?_
    have : a = b := take_all_eq (by omega) hg
    simp (disch := first | omega | (simp <;> omega) | fail) [wrap_i64, wrap_u64, wrap_u8', this]
theorem atV_cons (g : Gram) (l : List Gram) (c : Int) : atV (g :: l) c = if g.code = c then g.off else atV l c := by
  unfold atV
  by_cases h : g.code = c <;> simp [h]
theorem atV_drop {l : List Gram} {k : Nat} (h : k < l.length) (c : Int) : atV (l.drop k) c = if l[k].code = c then l[k].off else atV (l.drop (k + 1)) c := by
  rw [List.drop_eq_getElem_cons h, atV_cons]
theorem At_spec (f : Bool) (l : List Gram) (c : Int) (hl : l.length ≤ 140737488355328) : Spec1 Try.prog 40 [.sl 2 f (gramsHV l), i64 c] (.sl 1 false (intsHV (atV l c))) := by
  refine Spec1.of_HT Try.func40 rfl (by rw [Try.ntmps40]; simp) rfl ?_
  rw [Try.ntmps40]
  refine HT.seq ?_
  refine HT.region ?_   -- R0
  simp (disch := first | omega | (simp <;> omega) | fail) [wrap_i64, wrap_u64, wrap_u8']
  refine HT.seq ?_
  refine HT.seq ?_
  refine HT.region ?_   -- R1
  simp (disch := first | omega | (simp <;> omega) | fail) [wrap_i64, wrap_u64, wrap_u8']
  refine HT.block ?_
  refine HT.loopK (fun k : {k : Nat // k ≤ l.length ∧ atV l c = atV (l.drop k) c} => [.s 8 (i64 k)]) [0, 1, 7] [] (fun k => l.length - k) (⟨0, by simp⟩) ?_ ?_   -- block 0 turned [8]
  · simp (disch := first | omega | (simp <;> omega) | fail) [wrap_i64, wrap_u64, wrap_u8']
  rintro ⟨k, hk, hg⟩
  simp (disch := first | omega | (simp <;> omega) | fail) [wrap_i64, wrap_u64, wrap_u8']
  refine HT.seq ?_
  refine HT.region ?_   -- R2
  simp (disch := first | omega | (simp <;> omega) | fail) [wrap_i64, wrap_u64, wrap_u8']
  refine HT.seq ?_
  refine HT.cond' ?_   -- if 9
  simp (disch := first | omega | (simp <;> omega) | fail) [wrap_i64, wrap_u64, wrap_u8']
  refine ⟨fun h9 => ?_, fun h9 => ?_⟩
  · skip
    have hk' : k < l.length := by omega
    rw [atV_drop hk'] at hg
    refine HT.skip ?_
    simp (disch := first | omega | (simp <;> omega) | fail) [wrap_i64, wrap_u64, wrap_u8']
    refine HT.seq ?_
    refine HT.block ?_
    refine HT.seq ?_
    refine HT.region ?_   -- R3
    simp (disch := first | omega | (simp <;> omega) | fail) [wrap_i64, wrap_u64, wrap_u8']
    refine HT.seq ?_
    refine HT.region ?_   -- R4
    simp (disch := first | omega | (simp <;> omega) | fail) [wrap_i64, wrap_u64, wrap_u8']
    refine HT.cond' ?_   -- if 17
    simp (disch := first | omega | (simp <;> omega) | fail) [wrap_i64, wrap_u64, wrap_u8']
    refine ⟨fun h17 => ?_, fun h17 => ?_⟩
    · skip
      refine HT.seq ?_
      refine HT.region ?_   -- R5
      simp (disch := first | omega | (simp <;> omega) | fail) [wrap_i64, wrap_u64, wrap_u8']
      refine HT.ret ?_
      simp (disch := first | omega | (simp <;> omega) | fail) [wrap_i64, wrap_u64, wrap_u8', hg, h17]
    · skip
      refine HT.skip ?_
      simp (disch := first | omega | (simp <;> omega) | fail) [wrap_i64, wrap_u64, wrap_u8']
      refine HT.region ?_   -- R6
      simp (disch := first | omega | (simp <;> omega) | fail) [wrap_i64, wrap_u64, wrap_u8']
      refine Round.mk' (⟨k + 1, by omega, by rw [hg, if_neg h17]⟩) (by dsimp only; omega) rfl ?_
      simp (disch := first | omega | (simp <;> omega) | fail) [wrap_i64, wrap_u64, wrap_u8']
  · skip
    obtain rfl : k = l.length := by omega
    rw [List.drop_length] at hg
    refine HT.exit ?_
    simp (disch := first | omega | (simp <;> omega) | fail) [wrap_i64, wrap_u64, wrap_u8']
    refine HT.seq ?_
    refine HT.region ?_   -- R7
    simp (disch := first | omega | (simp <;> omega) | fail) [wrap_i64, wrap_u64, wrap_u8']
    refine HT.weaken (HS.le_wk 4 (.sl 1 false []) (by decide) rfl rfl (HLe.nilf 0 1 true)) ?_
    refine HT.ret ?_
    simp (disch := first | omega | (simp <;> omega) | fail) [wrap_i64, wrap_u64, wrap_u8', hg, show atV [] c = [] from rfl]
theorem refAt_spec (f : Bool) (l : List Gram) (c : Int) (hl : l.length ≤ 140737488355328) : Spec1 Try.prog 41 [.sl 2 f (gramsHV l), i64 c] (.sl 1 false (intsHV (atV l c))) := by
  refine Spec1.of_HT Try.func41 rfl (by rw [Try.ntmps41]; simp) rfl ?_
  rw [Try.ntmps41]
  refine HT.seq ?_
  refine HT.region ?_   -- R0
  simp (disch := first | omega | (simp <;> omega) | fail) [wrap_i64, wrap_u64, wrap_u8']
  refine HT.seq ?_
  refine HT.seq ?_
  refine HT.region ?_   -- R1
  simp (disch := first | omega | (simp <;> omega) | fail) [wrap_i64, wrap_u64, wrap_u8']
  refine HT.block ?_
  refine HT.loopK (fun k : {k : Nat // k ≤ l.length ∧ atV l c = atV (l.drop k) c} => [.s 5 (i64 k)]) [0, 1] [] (fun k => l.length - k) (⟨0, by simp⟩) ?_ ?_   -- block 0 turned [5]
  · simp (disch := first | omega | (simp <;> omega) | fail) [wrap_i64, wrap_u64, wrap_u8']
  rintro ⟨k, hk, hg⟩
  simp (disch := first | omega | (simp <;> omega) | fail) [wrap_i64, wrap_u64, wrap_u8']
  refine HT.seq ?_
  refine HT.seq ?_
  refine HT.region ?_   -- R2
  simp (disch := first | omega | (simp <;> omega) | fail) [wrap_i64, wrap_u64, wrap_u8']
  refine HT.cond' ?_   -- if 9
  simp (disch := first | omega | (simp <;> omega) | fail) [wrap_i64, wrap_u64, wrap_u8']
  refine ⟨fun h9 => ?_, fun h9 => ?_⟩
  · skip
    have hk' : k < l.length := by omega
    rw [atV_drop hk'] at hg
    refine HT.skip ?_
    simp (disch := first | omega | (simp <;> omega) | fail) [wrap_i64, wrap_u64, wrap_u8']
    refine HT.seq ?_
    refine HT.block ?_
    refine HT.seq ?_
    refine HT.region ?_   -- R4
    simp (disch := first | omega | (simp <;> omega) | fail) [wrap_i64, wrap_u64, wrap_u8']
    refine HT.cond' ?_   -- if 18
    simp (disch := first | omega | (simp <;> omega) | fail) [wrap_i64, wrap_u64, wrap_u8']
    refine ⟨fun h18 => ?_, fun h18 => ?_⟩
    · skip
      refine HT.seq ?_
      refine HT.region ?_   -- R5
      simp (disch := first | omega | (simp <;> omega) | fail) [wrap_i64, wrap_u64, wrap_u8']
      refine HT.ret ?_
      simp (disch := first | omega | (simp <;> omega) | fail) [wrap_i64, wrap_u64, wrap_u8', hg, h18]
    · skip
      refine HT.skip ?_
      simp (disch := first | omega | (simp <;> omega) | fail) [wrap_i64, wrap_u64, wrap_u8']
      refine HT.region ?_   -- R3
      simp (disch := first | omega | (simp <;> omega) | fail) [wrap_i64, wrap_u64, wrap_u8']
      refine Round.mk' (⟨k + 1, by omega, by rw [hg, if_neg h18]⟩) (by dsimp only; omega) rfl ?_
      simp (disch := first | omega | (simp <;> omega) | fail) [wrap_i64, wrap_u64, wrap_u8']
  · skip
    obtain rfl : k = l.length := by omega
    rw [List.drop_length] at hg
    refine HT.exit ?_
    simp (disch := first | omega | (simp <;> omega) | fail) [wrap_i64, wrap_u64, wrap_u8']
    refine HT.seq ?_
    refine HT.region ?_   -- R6
    simp (disch := first | omega | (simp <;> omega) | fail) [wrap_i64, wrap_u64, wrap_u8']
    refine HT.weaken (HS.le_wk 4 (.sl 1 false []) (by decide) rfl rfl (HLe.nilf 0 1 true)) ?_
    refine HT.ret ?_
    simp (disch := first | omega | (simp <;> omega) | fail) [wrap_i64, wrap_u64, wrap_u8', hg, show atV [] c = [] from rfl]
theorem grams_ext {a b : List Gram} (hl : a.length = b.length) (h : ∀ i, i < a.length → a[i]? = b[i]?) : a = b := by
  apply List.ext_getElem?
  intro i
  rcases Nat.lt_or_ge i a.length with h1 | h1
  · exact h i h1
  · rw [List.getElem?_eq_none h1, List.getElem?_eq_none (by omega)]
theorem gram_eq {a b : Gram} (h1 : a.code = b.code) (h2 : a.off = b.off) : a = b := by cases a; cases b; simp_all
theorem SameGrams_spec (f g : Bool) (a b : List Gram) (ha : a.length ≤ 140737488355328) (hao : ∀ x ∈ a, x.off.length ≤ 140737488355328) : Spec1 Try.prog 37 [.sl 2 f (gramsHV a), .sl 2 g (gramsHV b)] (bo (decide (a = b))) := by
  refine Spec1.of_HT Try.func37 rfl (by rw [Try.ntmps37]; simp) rfl ?_
  rw [Try.ntmps37]
  refine HT.seq ?_
  refine HT.region ?_   -- R0
  simp (disch := first | omega | (simp <;> omega) | fail) [wrap_i64, wrap_u64, wrap_u8']
  refine HT.seq ?_
  refine HT.seq ?_
  by_cases c1 : ¬ a.length = b.length
  · skip
    refine HT.region ?_   -- R1
    simp (disch := first | omega | (simp <;> omega) | fail) [wrap_i64, wrap_u64, wrap_u8']
    refine HT.cond' ?_   -- if 10
    simp (disch := first | omega | (simp <;> omega) | fail) [wrap_i64, wrap_u64, wrap_u8']
    refine HT.seq ?_
    refine HT.region ?_   -- R2
    simp (disch := first | omega | (simp <;> omega) | fail) [wrap_i64, wrap_u64, wrap_u8']
    refine HT.ret ?_
    have : a ≠ b := fun h => c1 (by rw [h])
    simp (disch := first | omega | (simp <;> omega) | fail) [wrap_i64, wrap_u64, wrap_u8', this]
  refine HT.region ?_   -- R1
  simp (disch := first | omega | (simp <;> omega) | fail) [wrap_i64, wrap_u64, wrap_u8']
  refine HT.cond' ?_   -- if 10
  simp (disch := first | omega | (simp <;> omega) | fail) [wrap_i64, wrap_u64, wrap_u8']
  refine HT.skip ?_
  simp (disch := first | omega | (simp <;> omega) | fail) [wrap_i64, wrap_u64, wrap_u8']
  refine HT.seq ?_
  refine HT.seq ?_
  refine HT.region ?_   -- R3
  simp (disch := first | omega | (simp <;> omega) | fail) [wrap_i64, wrap_u64, wrap_u8']
  refine HT.block ?_
  refine HT.loopK (fun k : {k : Nat // k ≤ a.length ∧ ∀ i, i < k → a[i]? = b[i]?} => [.s 5 (i64 k)]) [0, 1] [] (fun k => a.length - k) (⟨0, by omega, by intro i hi; omega⟩) ?_ ?_   -- block 0 turned [5, 29, 30, 31, 32, 33, 34, 35, 36, 37, 38, 39, 40]
  · simp (disch := first | omega | (simp <;> omega) | fail) [wrap_i64, wrap_u64, wrap_u8']
  rintro ⟨k, hk, hg⟩
  simp (disch := first | omega | (simp <;> omega) | fail) [wrap_i64, wrap_u64, wrap_u8']
  refine HT.seq ?_
  refine HT.seq ?_
  refine HT.region ?_   -- R4
  simp (disch := first | omega | (simp <;> omega) | fail) [wrap_i64, wrap_u64, wrap_u8']
  refine HT.cond' ?_   -- if 14
  simp (disch := first | omega | (simp <;> omega) | fail) [wrap_i64, wrap_u64, wrap_u8']
  refine ⟨fun h14 => ?_, fun h14 => ?_⟩
  · skip
    have hk' : k < a.length := by omega
    have hkb : k < b.length := by omega
    refine HT.skip ?_
    simp (disch := first | omega | (simp <;> omega) | fail) [wrap_i64, wrap_u64, wrap_u8']
    refine HT.seq ?_
    refine HT.block ?_
    refine HT.seq ?_
    by_cases d1 : ¬ a[k].code = b[k].code
    · skip
      refine HT.draw [.batch [0, 1, 2, 3, 4, 5, 6, 7, 8, 9, 10, 11, 12, 13, 14, 15, 16, 17, 18, 19, 20, 21, 22, 23, 24]] (by kernel_rfl) ?_   -- R6
      simp (disch := first | omega | (simp <;> omega) | fail) [wrap_i64, wrap_u64, wrap_u8']
      refine HT.cond' ?_   -- if 41
      simp (disch := first | omega | (simp <;> omega) | fail) [wrap_i64, wrap_u64, wrap_u8']
      refine HT.seq ?_
      refine HT.region ?_   -- R7
      simp (disch := first | omega | (simp <;> omega) | fail) [wrap_i64, wrap_u64, wrap_u8']
      refine HT.ret ?_
      have : a ≠ b := fun h => by subst h; first | exact d1 rfl | exact d2 rfl
      simp (disch := first | omega | (simp <;> omega) | fail) [wrap_i64, wrap_u64, wrap_u8', this]
    rw [Classical.not_not] at d1
    by_cases d2 : ¬ a[k].off = b[k].off
    · skip
      refine HT.draw [.batch [0, 1, 2, 3, 4, 5, 6, 7, 8, 9, 10, 11, 12, 13, 14, 15, 16, 17, 18, 19, 20, 21, 22, 23, 24]] (by kernel_rfl) ?_   -- R6
      simp (disch := first | omega | (simp <;> omega) | fail) [wrap_i64, wrap_u64, wrap_u8']
      refine stepK.mk (.call1 _ _ _ rfl Ty.hb35 rfl rfl (SameInts_spec false false _ _ (hao _ (List.getElem_mem hk')))) ?_
      simp (disch := first | omega | (simp <;> omega) | fail) [wrap_i64, wrap_u64, wrap_u8', d2]
      refine HT.cond' ?_   -- if 41
      simp (disch := first | omega | (simp <;> omega) | fail) [wrap_i64, wrap_u64, wrap_u8']
      refine HT.seq ?_
      refine HT.region ?_   -- R7
      simp (disch := first | omega | (simp <;> omega) | fail) [wrap_i64, wrap_u64, wrap_u8']
      refine HT.ret ?_
      have : a ≠ b := fun h => by subst h; first | exact d1 rfl | exact d2 rfl
      simp (disch := first | omega | (simp <;> omega) | fail) [wrap_i64, wrap_u64, wrap_u8', this]
    rw [Classical.not_not] at d2
    refine HT.draw [.batch [0, 1, 2, 3, 4, 5, 6, 7, 8, 9, 10, 11, 12, 13, 14, 15, 16, 17, 18, 19, 20, 21, 22, 23, 24]] (by kernel_rfl) ?_   -- R6
    simp (disch := first | omega | (simp <;> omega) | fail) [wrap_i64, wrap_u64, wrap_u8']
    refine stepK.mk (.call1 _ _ _ rfl Ty.hb35 rfl rfl (SameInts_spec false false _ _ (hao _ (List.getElem_mem hk')))) ?_
    simp (disch := first | omega | (simp <;> omega) | fail) [wrap_i64, wrap_u64, wrap_u8', d2]
    refine HT.cond' ?_   -- if 41
    simp (disch := first | omega | (simp <;> omega) | fail) [wrap_i64, wrap_u64, wrap_u8']
    refine HT.skip ?_
    simp (disch := first | omega | (simp <;> omega) | fail) [wrap_i64, wrap_u64, wrap_u8']
    refine HT.region ?_   -- R5
    simp (disch := first | omega | (simp <;> omega) | fail) [wrap_i64, wrap_u64, wrap_u8']
    refine Round.mk' (⟨k + 1, by omega, agree_succ hg (by rw [List.getElem?_eq_getElem hk', List.getElem?_eq_getElem hkb, gram_eq d1 d2])⟩) (by dsimp only; omega) rfl ?_
    simp (disch := first | omega | (simp <;> omega) | fail) [wrap_i64, wrap_u64, wrap_u8']
  · skip
    obtain rfl : k = a.length := by omega
    refine HT.exit ?_
    simp (disch := first | omega | (simp <;> omega) | fail) [wrap_i64, wrap_u64, wrap_u8']
    refine HT.seq ?_
    refine HT.region ?_   -- R8
    simp (disch := first | omega | (simp <;> omega) | fail) [wrap_i64, wrap_u64, wrap_u8']
    refine HT.ret ?_
    have : a = b := grams_ext (by omega) hg
    simp (disch := first | omega | (simp <;> omega) | fail) [wrap_i64, wrap_u64, wrap_u8', this]
end Go.Hv

import Derived.Test.YtmpgljmmjipioaaHv1
import Derived.Test.YtmpgljmmjipioaaHv2
import Derived.Test.YtmpgljmmjipioaaHv3
import Derived.Test.YtmpgljmmjipioaaHv4
import Derived.Test.YtmpgljmmjipioaaHv5
import Derived.Test.YtmpgljmmjipioaaHv6
import Derived.Test.YtmpgljmmjipioaaHv7
import Derived.Test.YtmpgljmmjipioaaHv8
import Derived.Test.YtmpgljmmjipioaaHv9
import Derived.Test.YtmpgljmmjipioaaHv10
import Derived.Test.YtmpgljmmjipioaaHv11
import Derived.Test.YtmpgljmmjipioaaHv12
import Derived.Test.YtmpgljmmjipioaaHv13
import Derived.Test.YtmpgljmmjipioaaHvE
import Derived.Test.YtmpgljmmjipioaaHv14
import Derived.Test.YtmpgljmmjipioaaHv15
import Derived.Test.YtmpgljmmjipioaaHv16
import Derived.Test.YtmpgljmmjipioaaHv17
import Derived.Test.YtmpgljmmjipioaaHv18
import Derived.Test.YtmpgljmmjipioaaHv19
import Derived.Test.YtmpgljmmjipioaaHv20
import Derived.Test.YtmpgljmmjipioaaHv21
import Derived.Test.YtmpgljmmjipioaaHv22
import Derived.Test.YtmpgljmmjipioaaHv23
import Derived.Test.YtmpgljmmjipioaaHv24
import Derived.Test.YtmpgljmmjipioaaHv25
import Derived.Test.YtmpgljmmjipioaaHv26
import Derived.Test.YtmpgljmmjipioaaHv27
import Derived.Test.YtmpgljmmjipioaaHv28
import Derived.Test.YtmpgljmmjipioaaHv29
import Derived.Test.YtmpgljmmjipioaaHv30
import Derived.Test.YtmpgljmmjipioaaProg
import Derived.KernelRfl
set_option linter.unusedVariables false
namespace Go.Proofs.Ytmpgljmmjipioaa.Ty
open Go Go.Hv Go.Proofs
@[simp] theorem sl0 : slInfo Try.prog 0 = none := by kernel_rfl
@[simp] theorem ag0 : agInfo Try.prog 0 = some (false, 1) := by kernel_rfl
@[simp] theorem tk0 : tk Try.prog 0 = some (.other) := by kernel_rfl
@[simp] theorem ni0 : notInt Try.prog 0 = true := by kernel_rfl
@[simp] theorem sl1 : slInfo Try.prog 1 = none := by kernel_rfl
@[simp] theorem ag1 : agInfo Try.prog 1 = some (false, 1) := by kernel_rfl
@[simp] theorem tk1 : tk Try.prog 1 = some (.other) := by kernel_rfl
@[simp] theorem ni1 : notInt Try.prog 1 = true := by kernel_rfl
@[simp] theorem sl2 : slInfo Try.prog 2 = none := by kernel_rfl
@[simp] theorem ag2 : agInfo Try.prog 2 = some (false, 1) := by kernel_rfl
@[simp] theorem tk2 : tk Try.prog 2 = some (.int .i64) := by kernel_rfl
@[simp] theorem ni2 : notInt Try.prog 2 = false := by kernel_rfl
@[simp] theorem z2 : zeroHV Try.prog 2 = some [.lit (.int .i64 0)] := by kernel_rfl
@[simp] theorem sl3 : slInfo Try.prog 3 = none := by kernel_rfl
@[simp] theorem ag3 : agInfo Try.prog 3 = some (false, 1) := by kernel_rfl
@[simp] theorem tk3 : tk Try.prog 3 = some (.int .i64) := by kernel_rfl
@[simp] theorem ni3 : notInt Try.prog 3 = false := by kernel_rfl
@[simp] theorem z3 : zeroHV Try.prog 3 = some [.lit (.int .i64 0)] := by kernel_rfl
@[simp] theorem sl4 : slInfo Try.prog 4 = none := by kernel_rfl
@[simp] theorem ag4 : agInfo Try.prog 4 = some (false, 1) := by kernel_rfl
@[simp] theorem tk4 : tk Try.prog 4 = some (.bool) := by kernel_rfl
@[simp] theorem ni4 : notInt Try.prog 4 = true := by kernel_rfl
@[simp] theorem z4 : zeroHV Try.prog 4 = some [.lit (.bool false)] := by kernel_rfl
@[simp] theorem sl5 : slInfo Try.prog 5 = none := by kernel_rfl
@[simp] theorem ag5 : agInfo Try.prog 5 = some (false, 1) := by kernel_rfl
@[simp] theorem tk5 : tk Try.prog 5 = some (.int .u8) := by kernel_rfl
@[simp] theorem ni5 : notInt Try.prog 5 = false := by kernel_rfl
@[simp] theorem z5 : zeroHV Try.prog 5 = some [.lit (.int .u8 0)] := by kernel_rfl
@[simp] theorem sl6 : slInfo Try.prog 6 = none := by kernel_rfl
@[simp] theorem ag6 : agInfo Try.prog 6 = some (false, 1) := by kernel_rfl
@[simp] theorem tk6 : tk Try.prog 6 = some (.int .u8) := by kernel_rfl
@[simp] theorem ni6 : notInt Try.prog 6 = false := by kernel_rfl
@[simp] theorem z6 : zeroHV Try.prog 6 = some [.lit (.int .u8 0)] := by kernel_rfl
@[simp] theorem sl7 : slInfo Try.prog 7 = none := by kernel_rfl
@[simp] theorem ag7 : agInfo Try.prog 7 = some (true, 4) := by kernel_rfl
@[simp] theorem tk7 : tk Try.prog 7 = some (.other) := by kernel_rfl
@[simp] theorem ni7 : notInt Try.prog 7 = true := by kernel_rfl
@[simp] theorem z7 : zeroHV Try.prog 7 = some [.lit (.int .i64 0), .lit (.int .i64 0), .lit (.bool false), .lit (.int .u8 0)] := by kernel_rfl
@[simp] theorem fd7_0 : fdInfo Try.prog 7 0 = some (0, 1, false) := by kernel_rfl
@[simp] theorem fd7_1 : fdInfo Try.prog 7 1 = some (1, 1, false) := by kernel_rfl
@[simp] theorem fd7_2 : fdInfo Try.prog 7 2 = some (2, 1, false) := by kernel_rfl
@[simp] theorem fd7_3 : fdInfo Try.prog 7 3 = some (3, 1, false) := by kernel_rfl
@[simp] theorem pl7 : places Try.prog 7 = some [(0, 1), (1, 1), (2, 1), (3, 1)] := by kernel_rfl
@[simp] theorem sl8 : slInfo Try.prog 8 = none := by kernel_rfl
@[simp] theorem ag8 : agInfo Try.prog 8 = some (true, 4) := by kernel_rfl
@[simp] theorem tk8 : tk Try.prog 8 = some (.other) := by kernel_rfl
@[simp] theorem ni8 : notInt Try.prog 8 = true := by kernel_rfl
@[simp] theorem z8 : zeroHV Try.prog 8 = some [.lit (.int .i64 0), .lit (.int .i64 0), .lit (.bool false), .lit (.int .u8 0)] := by kernel_rfl
@[simp] theorem fd8_0 : fdInfo Try.prog 8 0 = some (0, 1, false) := by kernel_rfl
@[simp] theorem fd8_1 : fdInfo Try.prog 8 1 = some (1, 1, false) := by kernel_rfl
@[simp] theorem fd8_2 : fdInfo Try.prog 8 2 = some (2, 1, false) := by kernel_rfl
@[simp] theorem fd8_3 : fdInfo Try.prog 8 3 = some (3, 1, false) := by kernel_rfl
@[simp] theorem pl8 : places Try.prog 8 = some [(0, 1), (1, 1), (2, 1), (3, 1)] := by kernel_rfl
@[simp] theorem sl9 : slInfo Try.prog 9 = none := by kernel_rfl
@[simp] theorem ag9 : agInfo Try.prog 9 = some (false, 1) := by kernel_rfl
@[simp] theorem tk9 : tk Try.prog 9 = some (.string) := by kernel_rfl
@[simp] theorem ni9 : notInt Try.prog 9 = true := by kernel_rfl
@[simp] theorem z9 : zeroHV Try.prog 9 = some [.str []] := by kernel_rfl
@[simp] theorem sl10 : slInfo Try.prog 10 = none := by kernel_rfl
@[simp] theorem ag10 : agInfo Try.prog 10 = some (false, 1) := by kernel_rfl
@[simp] theorem tk10 : tk Try.prog 10 = some (.string) := by kernel_rfl
@[simp] theorem ni10 : notInt Try.prog 10 = true := by kernel_rfl
@[simp] theorem z10 : zeroHV Try.prog 10 = some [.str []] := by kernel_rfl
@[simp] theorem sl11 : slInfo Try.prog 11 = none := by kernel_rfl
@[simp] theorem ag11 : agInfo Try.prog 11 = some (false, 1) := by kernel_rfl
@[simp] theorem tk11 : tk Try.prog 11 = some (.string) := by kernel_rfl
@[simp] theorem ni11 : notInt Try.prog 11 = true := by kernel_rfl
@[simp] theorem z11 : zeroHV Try.prog 11 = some [.str []] := by kernel_rfl
@[simp] theorem sl12 : slInfo Try.prog 12 = none := by kernel_rfl
@[simp] theorem ag12 : agInfo Try.prog 12 = some (false, 1) := by kernel_rfl
@[simp] theorem tk12 : tk Try.prog 12 = some (.int .u64) := by kernel_rfl
@[simp] theorem ni12 : notInt Try.prog 12 = false := by kernel_rfl
@[simp] theorem z12 : zeroHV Try.prog 12 = some [.lit (.int .u64 0)] := by kernel_rfl
@[simp] theorem sl13 : slInfo Try.prog 13 = none := by kernel_rfl
@[simp] theorem ag13 : agInfo Try.prog 13 = some (true, 2) := by kernel_rfl
@[simp] theorem tk13 : tk Try.prog 13 = some (.other) := by kernel_rfl
@[simp] theorem ni13 : notInt Try.prog 13 = true := by kernel_rfl
@[simp] theorem z13 : zeroHV Try.prog 13 = some [.str [], .lit (.int .u64 0)] := by kernel_rfl
@[simp] theorem fd13_0 : fdInfo Try.prog 13 0 = some (0, 1, false) := by kernel_rfl
@[simp] theorem fd13_1 : fdInfo Try.prog 13 1 = some (1, 1, false) := by kernel_rfl
@[simp] theorem pl13 : places Try.prog 13 = some [(0, 1), (1, 1)] := by kernel_rfl
@[simp] theorem sl14 : slInfo Try.prog 14 = none := by kernel_rfl
@[simp] theorem ag14 : agInfo Try.prog 14 = some (true, 2) := by kernel_rfl
@[simp] theorem tk14 : tk Try.prog 14 = some (.other) := by kernel_rfl
@[simp] theorem ni14 : notInt Try.prog 14 = true := by kernel_rfl
@[simp] theorem z14 : zeroHV Try.prog 14 = some [.str [], .lit (.int .u64 0)] := by kernel_rfl
@[simp] theorem fd14_0 : fdInfo Try.prog 14 0 = some (0, 1, false) := by kernel_rfl
@[simp] theorem fd14_1 : fdInfo Try.prog 14 1 = some (1, 1, false) := by kernel_rfl
@[simp] theorem pl14 : places Try.prog 14 = some [(0, 1), (1, 1)] := by kernel_rfl
@[simp] theorem sl15 : slInfo Try.prog 15 = none := by kernel_rfl
@[simp] theorem ag15 : agInfo Try.prog 15 = some (false, 1) := by kernel_rfl
@[simp] theorem tk15 : tk Try.prog 15 = some (.other) := by kernel_rfl
@[simp] theorem ni15 : notInt Try.prog 15 = true := by kernel_rfl
@[simp] theorem sl16 : slInfo Try.prog 16 = none := by kernel_rfl
@[simp] theorem ag16 : agInfo Try.prog 16 = some (false, 1) := by kernel_rfl
@[simp] theorem tk16 : tk Try.prog 16 = some (.other) := by kernel_rfl
@[simp] theorem ni16 : notInt Try.prog 16 = true := by kernel_rfl
@[simp] theorem sl17 : slInfo Try.prog 17 = none := by kernel_rfl
@[simp] theorem ag17 : agInfo Try.prog 17 = some (false, 1) := by kernel_rfl
@[simp] theorem tk17 : tk Try.prog 17 = some (.other) := by kernel_rfl
@[simp] theorem ni17 : notInt Try.prog 17 = true := by kernel_rfl
@[simp] theorem sl18 : slInfo Try.prog 18 = none := by kernel_rfl
@[simp] theorem ag18 : agInfo Try.prog 18 = some (true, 1) := by kernel_rfl
@[simp] theorem tk18 : tk Try.prog 18 = some (.other) := by kernel_rfl
@[simp] theorem ni18 : notInt Try.prog 18 = true := by kernel_rfl
@[simp] theorem z18 : zeroHV Try.prog 18 = some [.lit (.pointer none)] := by kernel_rfl
@[simp] theorem fd18_0 : fdInfo Try.prog 18 0 = some (0, 1, false) := by kernel_rfl
@[simp] theorem pl18 : places Try.prog 18 = some [(0, 1)] := by kernel_rfl
@[simp] theorem sl19 : slInfo Try.prog 19 = none := by kernel_rfl
@[simp] theorem ag19 : agInfo Try.prog 19 = some (true, 1) := by kernel_rfl
@[simp] theorem tk19 : tk Try.prog 19 = some (.other) := by kernel_rfl
@[simp] theorem ni19 : notInt Try.prog 19 = true := by kernel_rfl
@[simp] theorem z19 : zeroHV Try.prog 19 = some [.lit (.pointer none)] := by kernel_rfl
@[simp] theorem fd19_0 : fdInfo Try.prog 19 0 = some (0, 1, false) := by kernel_rfl
@[simp] theorem pl19 : places Try.prog 19 = some [(0, 1)] := by kernel_rfl
@[simp] theorem sl20 : slInfo Try.prog 20 = none := by kernel_rfl
@[simp] theorem ag20 : agInfo Try.prog 20 = some (false, 1) := by kernel_rfl
@[simp] theorem tk20 : tk Try.prog 20 = some (.other) := by kernel_rfl
@[simp] theorem ni20 : notInt Try.prog 20 = true := by kernel_rfl
@[simp] theorem sl21 : slInfo Try.prog 21 = none := by kernel_rfl
@[simp] theorem ag21 : agInfo Try.prog 21 = some (false, 1) := by kernel_rfl
@[simp] theorem tk21 : tk Try.prog 21 = some (.int .i32) := by kernel_rfl
@[simp] theorem ni21 : notInt Try.prog 21 = false := by kernel_rfl
@[simp] theorem z21 : zeroHV Try.prog 21 = some [.lit (.int .i32 0)] := by kernel_rfl
@[simp] theorem sl22 : slInfo Try.prog 22 = none := by kernel_rfl
@[simp] theorem ag22 : agInfo Try.prog 22 = some (false, 1) := by kernel_rfl
@[simp] theorem tk22 : tk Try.prog 22 = some (.other) := by kernel_rfl
@[simp] theorem ni22 : notInt Try.prog 22 = true := by kernel_rfl
@[simp] theorem sl23 : slInfo Try.prog 23 = none := by kernel_rfl
@[simp] theorem ag23 : agInfo Try.prog 23 = some (false, 1) := by kernel_rfl
@[simp] theorem tk23 : tk Try.prog 23 = some (.int .u32) := by kernel_rfl
@[simp] theorem ni23 : notInt Try.prog 23 = false := by kernel_rfl
@[simp] theorem z23 : zeroHV Try.prog 23 = some [.lit (.int .u32 0)] := by kernel_rfl
@[simp] theorem sl24 : slInfo Try.prog 24 = none := by kernel_rfl
@[simp] theorem ag24 : agInfo Try.prog 24 = some (false, 1) := by kernel_rfl
@[simp] theorem tk24 : tk Try.prog 24 = some (.other) := by kernel_rfl
@[simp] theorem ni24 : notInt Try.prog 24 = true := by kernel_rfl
@[simp] theorem sl25 : slInfo Try.prog 25 = none := by kernel_rfl
@[simp] theorem ag25 : agInfo Try.prog 25 = some (false, 1) := by kernel_rfl
@[simp] theorem tk25 : tk Try.prog 25 = some (.other) := by kernel_rfl
@[simp] theorem ni25 : notInt Try.prog 25 = true := by kernel_rfl
@[simp] theorem sl26 : slInfo Try.prog 26 = none := by kernel_rfl
@[simp] theorem ag26 : agInfo Try.prog 26 = some (false, 1) := by kernel_rfl
@[simp] theorem tk26 : tk Try.prog 26 = some (.other) := by kernel_rfl
@[simp] theorem ni26 : notInt Try.prog 26 = true := by kernel_rfl
@[simp] theorem sl27 : slInfo Try.prog 27 = some (48, 5, 80) := by kernel_rfl
@[simp] theorem ag27 : agInfo Try.prog 27 = some (false, 1) := by kernel_rfl
@[simp] theorem tk27 : tk Try.prog 27 = some (.other) := by kernel_rfl
@[simp] theorem ni27 : notInt Try.prog 27 = true := by kernel_rfl
@[simp] theorem z27 : zeroHV Try.prog 27 = some [.sl 0 true []] := by kernel_rfl
@[simp] theorem sl28 : slInfo Try.prog 28 = some (27, 1, 24) := by kernel_rfl
@[simp] theorem ag28 : agInfo Try.prog 28 = some (false, 1) := by kernel_rfl
@[simp] theorem tk28 : tk Try.prog 28 = some (.other) := by kernel_rfl
@[simp] theorem ni28 : notInt Try.prog 28 = true := by kernel_rfl
@[simp] theorem z28 : zeroHV Try.prog 28 = some [.sl 0 true []] := by kernel_rfl
@[simp] theorem sl29 : slInfo Try.prog 29 = none := by kernel_rfl
@[simp] theorem ag29 : agInfo Try.prog 29 = some (false, 1) := by kernel_rfl
@[simp] theorem tk29 : tk Try.prog 29 = some (.other) := by kernel_rfl
@[simp] theorem ni29 : notInt Try.prog 29 = true := by kernel_rfl
@[simp] theorem sl30 : slInfo Try.prog 30 = none := by kernel_rfl
@[simp] theorem ag30 : agInfo Try.prog 30 = some (false, 1) := by kernel_rfl
@[simp] theorem tk30 : tk Try.prog 30 = some (.other) := by kernel_rfl
@[simp] theorem ni30 : notInt Try.prog 30 = true := by kernel_rfl
@[simp] theorem sl31 : slInfo Try.prog 31 = none := by kernel_rfl
@[simp] theorem ag31 : agInfo Try.prog 31 = some (false, 1) := by kernel_rfl
@[simp] theorem tk31 : tk Try.prog 31 = some (.other) := by kernel_rfl
@[simp] theorem ni31 : notInt Try.prog 31 = true := by kernel_rfl
@[simp] theorem sl32 : slInfo Try.prog 32 = some (3, 1, 8) := by kernel_rfl
@[simp] theorem ag32 : agInfo Try.prog 32 = some (false, 1) := by kernel_rfl
@[simp] theorem tk32 : tk Try.prog 32 = some (.other) := by kernel_rfl
@[simp] theorem ni32 : notInt Try.prog 32 = true := by kernel_rfl
@[simp] theorem z32 : zeroHV Try.prog 32 = some [.sl 0 true []] := by kernel_rfl
@[simp] theorem sl33 : slInfo Try.prog 33 = none := by kernel_rfl
@[simp] theorem ag33 : agInfo Try.prog 33 = some (true, 3) := by kernel_rfl
@[simp] theorem tk33 : tk Try.prog 33 = some (.other) := by kernel_rfl
@[simp] theorem ni33 : notInt Try.prog 33 = true := by kernel_rfl
@[simp] theorem z33 : zeroHV Try.prog 33 = some [.sl 0 true [], .sl 0 true [], .sl 0 true []] := by kernel_rfl
@[simp] theorem fd33_0 : fdInfo Try.prog 33 0 = some (0, 1, false) := by kernel_rfl
@[simp] theorem fd33_1 : fdInfo Try.prog 33 1 = some (1, 1, false) := by kernel_rfl
@[simp] theorem fd33_2 : fdInfo Try.prog 33 2 = some (2, 1, false) := by kernel_rfl
@[simp] theorem pl33 : places Try.prog 33 = some [(0, 1), (1, 1), (2, 1)] := by kernel_rfl
@[simp] theorem sl34 : slInfo Try.prog 34 = none := by kernel_rfl
@[simp] theorem ag34 : agInfo Try.prog 34 = some (true, 3) := by kernel_rfl
@[simp] theorem tk34 : tk Try.prog 34 = some (.other) := by kernel_rfl
@[simp] theorem ni34 : notInt Try.prog 34 = true := by kernel_rfl
@[simp] theorem z34 : zeroHV Try.prog 34 = some [.sl 0 true [], .sl 0 true [], .sl 0 true []] := by kernel_rfl
@[simp] theorem fd34_0 : fdInfo Try.prog 34 0 = some (0, 1, false) := by kernel_rfl
@[simp] theorem fd34_1 : fdInfo Try.prog 34 1 = some (1, 1, false) := by kernel_rfl
@[simp] theorem fd34_2 : fdInfo Try.prog 34 2 = some (2, 1, false) := by kernel_rfl
@[simp] theorem pl34 : places Try.prog 34 = some [(0, 1), (1, 1), (2, 1)] := by kernel_rfl
@[simp] theorem sl35 : slInfo Try.prog 35 = some (34, 3, 72) := by kernel_rfl
@[simp] theorem ag35 : agInfo Try.prog 35 = some (false, 1) := by kernel_rfl
@[simp] theorem tk35 : tk Try.prog 35 = some (.other) := by kernel_rfl
@[simp] theorem ni35 : notInt Try.prog 35 = true := by kernel_rfl
@[simp] theorem z35 : zeroHV Try.prog 35 = some [.sl 0 true []] := by kernel_rfl
@[simp] theorem sl36 : slInfo Try.prog 36 = none := by kernel_rfl
@[simp] theorem ag36 : agInfo Try.prog 36 = some (false, 1) := by kernel_rfl
@[simp] theorem tk36 : tk Try.prog 36 = some (.int .i64) := by kernel_rfl
@[simp] theorem ni36 : notInt Try.prog 36 = false := by kernel_rfl
@[simp] theorem z36 : zeroHV Try.prog 36 = some [.lit (.int .i64 0)] := by kernel_rfl
@[simp] theorem sl37 : slInfo Try.prog 37 = none := by kernel_rfl
@[simp] theorem ag37 : agInfo Try.prog 37 = some (false, 1) := by kernel_rfl
@[simp] theorem tk37 : tk Try.prog 37 = some (.other) := by kernel_rfl
@[simp] theorem ni37 : notInt Try.prog 37 = true := by kernel_rfl
@[simp] theorem sl38 : slInfo Try.prog 38 = none := by kernel_rfl
@[simp] theorem ag38 : agInfo Try.prog 38 = some (false, 1) := by kernel_rfl
@[simp] theorem tk38 : tk Try.prog 38 = some (.other) := by kernel_rfl
@[simp] theorem ni38 : notInt Try.prog 38 = true := by kernel_rfl
@[simp] theorem sl39 : slInfo Try.prog 39 = none := by kernel_rfl
@[simp] theorem ag39 : agInfo Try.prog 39 = some (false, 1) := by kernel_rfl
@[simp] theorem tk39 : tk Try.prog 39 = some (.other) := by kernel_rfl
@[simp] theorem ni39 : notInt Try.prog 39 = true := by kernel_rfl
@[simp] theorem sl40 : slInfo Try.prog 40 = none := by kernel_rfl
@[simp] theorem ag40 : agInfo Try.prog 40 = some (false, 1) := by kernel_rfl
@[simp] theorem tk40 : tk Try.prog 40 = some (.other) := by kernel_rfl
@[simp] theorem ni40 : notInt Try.prog 40 = true := by kernel_rfl
@[simp] theorem sl41 : slInfo Try.prog 41 = none := by kernel_rfl
@[simp] theorem ag41 : agInfo Try.prog 41 = some (false, 1) := by kernel_rfl
@[simp] theorem tk41 : tk Try.prog 41 = some (.other) := by kernel_rfl
@[simp] theorem ni41 : notInt Try.prog 41 = true := by kernel_rfl
@[simp] theorem sl42 : slInfo Try.prog 42 = none := by kernel_rfl
@[simp] theorem ag42 : agInfo Try.prog 42 = some (false, 1) := by kernel_rfl
@[simp] theorem tk42 : tk Try.prog 42 = some (.other) := by kernel_rfl
@[simp] theorem ni42 : notInt Try.prog 42 = true := by kernel_rfl
@[simp] theorem sl43 : slInfo Try.prog 43 = none := by kernel_rfl
@[simp] theorem ag43 : agInfo Try.prog 43 = some (false, 1) := by kernel_rfl
@[simp] theorem tk43 : tk Try.prog 43 = some (.other) := by kernel_rfl
@[simp] theorem ni43 : notInt Try.prog 43 = true := by kernel_rfl
@[simp] theorem sl44 : slInfo Try.prog 44 = some (5, 1, 1) := by kernel_rfl
@[simp] theorem ag44 : agInfo Try.prog 44 = some (false, 1) := by kernel_rfl
@[simp] theorem tk44 : tk Try.prog 44 = some (.bytes) := by kernel_rfl
@[simp] theorem ni44 : notInt Try.prog 44 = true := by kernel_rfl
@[simp] theorem z44 : zeroHV Try.prog 44 = some [.sl 0 true []] := by kernel_rfl
@[simp] theorem sl45 : slInfo Try.prog 45 = none := by kernel_rfl
@[simp] theorem ag45 : agInfo Try.prog 45 = some (false, 1) := by kernel_rfl
@[simp] theorem tk45 : tk Try.prog 45 = some (.other) := by kernel_rfl
@[simp] theorem ni45 : notInt Try.prog 45 = true := by kernel_rfl
@[simp] theorem sl46 : slInfo Try.prog 46 = some (9, 1, 16) := by kernel_rfl
@[simp] theorem ag46 : agInfo Try.prog 46 = some (false, 1) := by kernel_rfl
@[simp] theorem tk46 : tk Try.prog 46 = some (.other) := by kernel_rfl
@[simp] theorem ni46 : notInt Try.prog 46 = true := by kernel_rfl
@[simp] theorem z46 : zeroHV Try.prog 46 = some [.sl 0 true []] := by kernel_rfl
@[simp] theorem sl47 : slInfo Try.prog 47 = none := by kernel_rfl
@[simp] theorem ag47 : agInfo Try.prog 47 = some (true, 5) := by kernel_rfl
@[simp] theorem tk47 : tk Try.prog 47 = some (.other) := by kernel_rfl
@[simp] theorem ni47 : notInt Try.prog 47 = true := by kernel_rfl
@[simp] theorem z47 : zeroHV Try.prog 47 = some [.lit (.int .i64 0), .str [], .str [], .str [], .sl 0 true []] := by kernel_rfl
@[simp] theorem fd47_0 : fdInfo Try.prog 47 0 = some (0, 1, false) := by kernel_rfl
@[simp] theorem fd47_1 : fdInfo Try.prog 47 1 = some (1, 1, false) := by kernel_rfl
@[simp] theorem fd47_2 : fdInfo Try.prog 47 2 = some (2, 1, false) := by kernel_rfl
@[simp] theorem fd47_3 : fdInfo Try.prog 47 3 = some (3, 1, false) := by kernel_rfl
@[simp] theorem fd47_4 : fdInfo Try.prog 47 4 = some (4, 1, false) := by kernel_rfl
@[simp] theorem pl47 : places Try.prog 47 = some [(0, 1), (1, 1), (2, 1), (3, 1), (4, 1)] := by kernel_rfl
@[simp] theorem sl48 : slInfo Try.prog 48 = none := by kernel_rfl
@[simp] theorem ag48 : agInfo Try.prog 48 = some (true, 5) := by kernel_rfl
@[simp] theorem tk48 : tk Try.prog 48 = some (.other) := by kernel_rfl
@[simp] theorem ni48 : notInt Try.prog 48 = true := by kernel_rfl
@[simp] theorem z48 : zeroHV Try.prog 48 = some [.lit (.int .i64 0), .str [], .str [], .str [], .sl 0 true []] := by kernel_rfl
@[simp] theorem fd48_0 : fdInfo Try.prog 48 0 = some (0, 1, false) := by kernel_rfl
@[simp] theorem fd48_1 : fdInfo Try.prog 48 1 = some (1, 1, false) := by kernel_rfl
@[simp] theorem fd48_2 : fdInfo Try.prog 48 2 = some (2, 1, false) := by kernel_rfl
@[simp] theorem fd48_3 : fdInfo Try.prog 48 3 = some (3, 1, false) := by kernel_rfl
@[simp] theorem fd48_4 : fdInfo Try.prog 48 4 = some (4, 1, false) := by kernel_rfl
@[simp] theorem pl48 : places Try.prog 48 = some [(0, 1), (1, 1), (2, 1), (3, 1), (4, 1)] := by kernel_rfl
@[simp] theorem sl49 : slInfo Try.prog 49 = none := by kernel_rfl
@[simp] theorem ag49 : agInfo Try.prog 49 = some (false, 1) := by kernel_rfl
@[simp] theorem tk49 : tk Try.prog 49 = some (.other) := by kernel_rfl
@[simp] theorem ni49 : notInt Try.prog 49 = true := by kernel_rfl
@[simp] theorem sl50 : slInfo Try.prog 50 = none := by kernel_rfl
@[simp] theorem ag50 : agInfo Try.prog 50 = some (false, 1) := by kernel_rfl
@[simp] theorem tk50 : tk Try.prog 50 = some (.other) := by kernel_rfl
@[simp] theorem ni50 : notInt Try.prog 50 = true := by kernel_rfl
@[simp] theorem sl51 : slInfo Try.prog 51 = none := by kernel_rfl
@[simp] theorem ag51 : agInfo Try.prog 51 = some (false, 1) := by kernel_rfl
@[simp] theorem tk51 : tk Try.prog 51 = some (.other) := by kernel_rfl
@[simp] theorem ni51 : notInt Try.prog 51 = true := by kernel_rfl
@[simp] theorem sl52 : slInfo Try.prog 52 = none := by kernel_rfl
@[simp] theorem ag52 : agInfo Try.prog 52 = some (false, 1) := by kernel_rfl
@[simp] theorem tk52 : tk Try.prog 52 = some (.other) := by kernel_rfl
@[simp] theorem ni52 : notInt Try.prog 52 = true := by kernel_rfl
@[simp] theorem sl53 : slInfo Try.prog 53 = none := by kernel_rfl
@[simp] theorem ag53 : agInfo Try.prog 53 = some (false, 1) := by kernel_rfl
@[simp] theorem tk53 : tk Try.prog 53 = some (.other) := by kernel_rfl
@[simp] theorem ni53 : notInt Try.prog 53 = true := by kernel_rfl
@[simp] theorem sl54 : slInfo Try.prog 54 = none := by kernel_rfl
@[simp] theorem ag54 : agInfo Try.prog 54 = some (true, 3) := by kernel_rfl
@[simp] theorem tk54 : tk Try.prog 54 = some (.other) := by kernel_rfl
@[simp] theorem ni54 : notInt Try.prog 54 = true := by kernel_rfl
@[simp] theorem z54 : zeroHV Try.prog 54 = some [.str [], .str [], .str []] := by kernel_rfl
@[simp] theorem fd54_0 : fdInfo Try.prog 54 0 = some (0, 1, false) := by kernel_rfl
@[simp] theorem fd54_1 : fdInfo Try.prog 54 1 = some (1, 1, false) := by kernel_rfl
@[simp] theorem fd54_2 : fdInfo Try.prog 54 2 = some (2, 1, false) := by kernel_rfl
@[simp] theorem pl54 : places Try.prog 54 = some [(0, 1), (1, 1), (2, 1)] := by kernel_rfl
@[simp] theorem sl55 : slInfo Try.prog 55 = none := by kernel_rfl
@[simp] theorem ag55 : agInfo Try.prog 55 = some (true, 3) := by kernel_rfl
@[simp] theorem tk55 : tk Try.prog 55 = some (.other) := by kernel_rfl
@[simp] theorem ni55 : notInt Try.prog 55 = true := by kernel_rfl
@[simp] theorem z55 : zeroHV Try.prog 55 = some [.str [], .str [], .str []] := by kernel_rfl
@[simp] theorem fd55_0 : fdInfo Try.prog 55 0 = some (0, 1, false) := by kernel_rfl
@[simp] theorem fd55_1 : fdInfo Try.prog 55 1 = some (1, 1, false) := by kernel_rfl
@[simp] theorem fd55_2 : fdInfo Try.prog 55 2 = some (2, 1, false) := by kernel_rfl
@[simp] theorem pl55 : places Try.prog 55 = some [(0, 1), (1, 1), (2, 1)] := by kernel_rfl
@[simp] theorem sl56 : slInfo Try.prog 56 = none := by kernel_rfl
@[simp] theorem ag56 : agInfo Try.prog 56 = some (false, 1) := by kernel_rfl
@[simp] theorem tk56 : tk Try.prog 56 = some (.other) := by kernel_rfl
@[simp] theorem ni56 : notInt Try.prog 56 = true := by kernel_rfl
@[simp] theorem sl57 : slInfo Try.prog 57 = none := by kernel_rfl
@[simp] theorem ag57 : agInfo Try.prog 57 = some (false, 1) := by kernel_rfl
@[simp] theorem tk57 : tk Try.prog 57 = some (.other) := by kernel_rfl
@[simp] theorem ni57 : notInt Try.prog 57 = true := by kernel_rfl
@[simp] theorem sl58 : slInfo Try.prog 58 = none := by kernel_rfl
@[simp] theorem ar58 : arInfo Try.prog 58 = some (16, 23, 1) := by kernel_rfl
@[simp] theorem ag58 : agInfo Try.prog 58 = some (true, 16) := by kernel_rfl
@[simp] theorem tk58 : tk Try.prog 58 = some (.other) := by kernel_rfl
@[simp] theorem ni58 : notInt Try.prog 58 = true := by kernel_rfl
@[simp] theorem z58 : zeroHV Try.prog 58 = some [.lit (.int .u32 0), .lit (.int .u32 0), .lit (.int .u32 0), .lit (.int .u32 0), .lit (.int .u32 0), .lit (.int .u32 0), .lit (.int .u32 0), .lit (.int .u32 0), .lit (.int .u32 0), .lit (.int .u32 0), .lit (.int .u32 0), .lit (.int .u32 0), .lit (.int .u32 0), .lit (.int .u32 0), .lit (.int .u32 0), .lit (.int .u32 0)] := by kernel_rfl
@[simp] theorem sl59 : slInfo Try.prog 59 = none := by kernel_rfl
@[simp] theorem ag59 : agInfo Try.prog 59 = some (false, 1) := by kernel_rfl
@[simp] theorem tk59 : tk Try.prog 59 = some (.other) := by kernel_rfl
@[simp] theorem ni59 : notInt Try.prog 59 = true := by kernel_rfl
@[simp] theorem sl60 : slInfo Try.prog 60 = none := by kernel_rfl
@[simp] theorem ag60 : agInfo Try.prog 60 = some (false, 1) := by kernel_rfl
@[simp] theorem tk60 : tk Try.prog 60 = some (.int .u64) := by kernel_rfl
@[simp] theorem ni60 : notInt Try.prog 60 = false := by kernel_rfl
@[simp] theorem z60 : zeroHV Try.prog 60 = some [.lit (.int .u64 0)] := by kernel_rfl
@[simp] theorem sl61 : slInfo Try.prog 61 = none := by kernel_rfl
@[simp] theorem ag61 : agInfo Try.prog 61 = some (false, 1) := by kernel_rfl
@[simp] theorem tk61 : tk Try.prog 61 = some (.other) := by kernel_rfl
@[simp] theorem ni61 : notInt Try.prog 61 = true := by kernel_rfl
@[simp] theorem sl62 : slInfo Try.prog 62 = none := by kernel_rfl
@[simp] theorem ag62 : agInfo Try.prog 62 = some (false, 1) := by kernel_rfl
@[simp] theorem tk62 : tk Try.prog 62 = some (.other) := by kernel_rfl
@[simp] theorem ni62 : notInt Try.prog 62 = true := by kernel_rfl
@[simp] theorem sl63 : slInfo Try.prog 63 = none := by kernel_rfl
@[simp] theorem ag63 : agInfo Try.prog 63 = some (true, 4) := by kernel_rfl
@[simp] theorem tk63 : tk Try.prog 63 = some (.other) := by kernel_rfl
@[simp] theorem ni63 : notInt Try.prog 63 = true := by kernel_rfl
@[simp] theorem z63 : zeroHV Try.prog 63 = some [.lit (.pointer none), .lit (.pointer none), .lit (.pointer none), .str []] := by kernel_rfl
@[simp] theorem fd63_0 : fdInfo Try.prog 63 0 = some (0, 1, false) := by kernel_rfl
@[simp] theorem fd63_1 : fdInfo Try.prog 63 1 = some (1, 1, false) := by kernel_rfl
@[simp] theorem fd63_2 : fdInfo Try.prog 63 2 = some (2, 1, false) := by kernel_rfl
@[simp] theorem fd63_3 : fdInfo Try.prog 63 3 = some (3, 1, false) := by kernel_rfl
@[simp] theorem pl63 : places Try.prog 63 = some [(0, 1), (1, 1), (2, 1), (3, 1)] := by kernel_rfl
@[simp] theorem sl64 : slInfo Try.prog 64 = none := by kernel_rfl
@[simp] theorem ag64 : agInfo Try.prog 64 = some (true, 4) := by kernel_rfl
@[simp] theorem tk64 : tk Try.prog 64 = some (.other) := by kernel_rfl
@[simp] theorem ni64 : notInt Try.prog 64 = true := by kernel_rfl
@[simp] theorem z64 : zeroHV Try.prog 64 = some [.lit (.pointer none), .lit (.pointer none), .lit (.pointer none), .str []] := by kernel_rfl
@[simp] theorem fd64_0 : fdInfo Try.prog 64 0 = some (0, 1, false) := by kernel_rfl
@[simp] theorem fd64_1 : fdInfo Try.prog 64 1 = some (1, 1, false) := by kernel_rfl
@[simp] theorem fd64_2 : fdInfo Try.prog 64 2 = some (2, 1, false) := by kernel_rfl
@[simp] theorem fd64_3 : fdInfo Try.prog 64 3 = some (3, 1, false) := by kernel_rfl
@[simp] theorem pl64 : places Try.prog 64 = some [(0, 1), (1, 1), (2, 1), (3, 1)] := by kernel_rfl
@[simp] theorem sl65 : slInfo Try.prog 65 = none := by kernel_rfl
@[simp] theorem ag65 : agInfo Try.prog 65 = some (true, 0) := by kernel_rfl
@[simp] theorem tk65 : tk Try.prog 65 = some (.other) := by kernel_rfl
@[simp] theorem ni65 : notInt Try.prog 65 = true := by kernel_rfl
@[simp] theorem z65 : zeroHV Try.prog 65 = some [] := by kernel_rfl
@[simp] theorem sl66 : slInfo Try.prog 66 = none := by kernel_rfl
@[simp] theorem ag66 : agInfo Try.prog 66 = some (true, 0) := by kernel_rfl
@[simp] theorem tk66 : tk Try.prog 66 = some (.other) := by kernel_rfl
@[simp] theorem ni66 : notInt Try.prog 66 = true := by kernel_rfl
@[simp] theorem z66 : zeroHV Try.prog 66 = some [] := by kernel_rfl
@[simp] theorem sl67 : slInfo Try.prog 67 = none := by kernel_rfl
@[simp] theorem ag67 : agInfo Try.prog 67 = some (true, 0) := by kernel_rfl
@[simp] theorem tk67 : tk Try.prog 67 = some (.other) := by kernel_rfl
@[simp] theorem ni67 : notInt Try.prog 67 = true := by kernel_rfl
@[simp] theorem z67 : zeroHV Try.prog 67 = some [] := by kernel_rfl
@[simp] theorem sl68 : slInfo Try.prog 68 = none := by kernel_rfl
@[simp] theorem ag68 : agInfo Try.prog 68 = some (false, 1) := by kernel_rfl
@[simp] theorem tk68 : tk Try.prog 68 = some (.other) := by kernel_rfl
@[simp] theorem ni68 : notInt Try.prog 68 = true := by kernel_rfl
@[simp] theorem sl69 : slInfo Try.prog 69 = none := by kernel_rfl
@[simp] theorem ag69 : agInfo Try.prog 69 = some (false, 1) := by kernel_rfl
@[simp] theorem tk69 : tk Try.prog 69 = some (.int .u8) := by kernel_rfl
@[simp] theorem ni69 : notInt Try.prog 69 = false := by kernel_rfl
@[simp] theorem z69 : zeroHV Try.prog 69 = some [.lit (.int .u8 0)] := by kernel_rfl
@[simp] theorem sl70 : slInfo Try.prog 70 = none := by kernel_rfl
@[simp] theorem ag70 : agInfo Try.prog 70 = some (false, 1) := by kernel_rfl
@[simp] theorem tk70 : tk Try.prog 70 = some (.int .u8) := by kernel_rfl
@[simp] theorem ni70 : notInt Try.prog 70 = false := by kernel_rfl
@[simp] theorem z70 : zeroHV Try.prog 70 = some [.lit (.int .u8 0)] := by kernel_rfl
@[simp] theorem sl71 : slInfo Try.prog 71 = none := by kernel_rfl
@[simp] theorem ag71 : agInfo Try.prog 71 = some (false, 1) := by kernel_rfl
@[simp] theorem tk71 : tk Try.prog 71 = some (.other) := by kernel_rfl
@[simp] theorem ni71 : notInt Try.prog 71 = true := by kernel_rfl
@[simp] theorem sl72 : slInfo Try.prog 72 = none := by kernel_rfl
@[simp] theorem ag72 : agInfo Try.prog 72 = some (false, 1) := by kernel_rfl
@[simp] theorem tk72 : tk Try.prog 72 = some (.other) := by kernel_rfl
@[simp] theorem ni72 : notInt Try.prog 72 = true := by kernel_rfl
@[simp] theorem sl73 : slInfo Try.prog 73 = none := by kernel_rfl
@[simp] theorem ag73 : agInfo Try.prog 73 = some (false, 1) := by kernel_rfl
@[simp] theorem tk73 : tk Try.prog 73 = some (.int .i32) := by kernel_rfl
@[simp] theorem ni73 : notInt Try.prog 73 = false := by kernel_rfl
@[simp] theorem z73 : zeroHV Try.prog 73 = some [.lit (.int .i32 0)] := by kernel_rfl
@[simp] theorem sl74 : slInfo Try.prog 74 = none := by kernel_rfl
@[simp] theorem ag74 : agInfo Try.prog 74 = some (false, 1) := by kernel_rfl
@[simp] theorem tk74 : tk Try.prog 74 = some (.int .i32) := by kernel_rfl
@[simp] theorem ni74 : notInt Try.prog 74 = false := by kernel_rfl
@[simp] theorem z74 : zeroHV Try.prog 74 = some [.lit (.int .i32 0)] := by kernel_rfl
@[simp] theorem sl75 : slInfo Try.prog 75 = none := by kernel_rfl
@[simp] theorem ag75 : agInfo Try.prog 75 = some (true, 11) := by kernel_rfl
@[simp] theorem tk75 : tk Try.prog 75 = some (.other) := by kernel_rfl
@[simp] theorem ni75 : notInt Try.prog 75 = true := by kernel_rfl
@[simp] theorem z75 : zeroHV Try.prog 75 = some [.lit (.int .u64 0), .lit (.int .u64 0), .lit (.int .u32 0), .lit (.int .u8 0), .lit (.int .u8 0), .lit (.int .u8 0), .lit (.int .u8 0), .lit .nilFunc, .lit (.pointer none), .lit (.int .i32 0), .lit (.int .i32 0)] := by kernel_rfl
@[simp] theorem fd75_0 : fdInfo Try.prog 75 0 = some (0, 1, false) := by kernel_rfl
@[simp] theorem fd75_1 : fdInfo Try.prog 75 1 = some (1, 1, false) := by kernel_rfl
@[simp] theorem fd75_2 : fdInfo Try.prog 75 2 = some (2, 1, false) := by kernel_rfl
@[simp] theorem fd75_3 : fdInfo Try.prog 75 3 = some (3, 1, false) := by kernel_rfl
@[simp] theorem fd75_4 : fdInfo Try.prog 75 4 = some (4, 1, false) := by kernel_rfl
@[simp] theorem fd75_5 : fdInfo Try.prog 75 5 = some (5, 1, false) := by kernel_rfl
@[simp] theorem fd75_6 : fdInfo Try.prog 75 6 = some (6, 1, false) := by kernel_rfl
@[simp] theorem fd75_7 : fdInfo Try.prog 75 7 = some (7, 1, false) := by kernel_rfl
@[simp] theorem fd75_8 : fdInfo Try.prog 75 8 = some (8, 1, false) := by kernel_rfl
@[simp] theorem fd75_9 : fdInfo Try.prog 75 9 = some (9, 1, false) := by kernel_rfl
@[simp] theorem fd75_10 : fdInfo Try.prog 75 10 = some (10, 1, false) := by kernel_rfl
@[simp] theorem pl75 : places Try.prog 75 = some [(0, 1), (1, 1), (2, 1), (3, 1), (4, 1), (5, 1), (6, 1), (7, 1), (8, 1), (9, 1), (10, 1)] := by kernel_rfl
@[simp] theorem sl76 : slInfo Try.prog 76 = none := by kernel_rfl
@[simp] theorem ag76 : agInfo Try.prog 76 = some (true, 11) := by kernel_rfl
@[simp] theorem tk76 : tk Try.prog 76 = some (.other) := by kernel_rfl
@[simp] theorem ni76 : notInt Try.prog 76 = true := by kernel_rfl
@[simp] theorem z76 : zeroHV Try.prog 76 = some [.lit (.int .u64 0), .lit (.int .u64 0), .lit (.int .u32 0), .lit (.int .u8 0), .lit (.int .u8 0), .lit (.int .u8 0), .lit (.int .u8 0), .lit .nilFunc, .lit (.pointer none), .lit (.int .i32 0), .lit (.int .i32 0)] := by kernel_rfl
@[simp] theorem fd76_0 : fdInfo Try.prog 76 0 = some (0, 1, false) := by kernel_rfl
@[simp] theorem fd76_1 : fdInfo Try.prog 76 1 = some (1, 1, false) := by kernel_rfl
@[simp] theorem fd76_2 : fdInfo Try.prog 76 2 = some (2, 1, false) := by kernel_rfl
@[simp] theorem fd76_3 : fdInfo Try.prog 76 3 = some (3, 1, false) := by kernel_rfl
@[simp] theorem fd76_4 : fdInfo Try.prog 76 4 = some (4, 1, false) := by kernel_rfl
@[simp] theorem fd76_5 : fdInfo Try.prog 76 5 = some (5, 1, false) := by kernel_rfl
@[simp] theorem fd76_6 : fdInfo Try.prog 76 6 = some (6, 1, false) := by kernel_rfl
@[simp] theorem fd76_7 : fdInfo Try.prog 76 7 = some (7, 1, false) := by kernel_rfl
@[simp] theorem fd76_8 : fdInfo Try.prog 76 8 = some (8, 1, false) := by kernel_rfl
@[simp] theorem fd76_9 : fdInfo Try.prog 76 9 = some (9, 1, false) := by kernel_rfl
@[simp] theorem fd76_10 : fdInfo Try.prog 76 10 = some (10, 1, false) := by kernel_rfl
@[simp] theorem pl76 : places Try.prog 76 = some [(0, 1), (1, 1), (2, 1), (3, 1), (4, 1), (5, 1), (6, 1), (7, 1), (8, 1), (9, 1), (10, 1)] := by kernel_rfl
@[simp] theorem sl77 : slInfo Try.prog 77 = none := by kernel_rfl
@[simp] theorem ag77 : agInfo Try.prog 77 = some (false, 1) := by kernel_rfl
@[simp] theorem tk77 : tk Try.prog 77 = some (.other) := by kernel_rfl
@[simp] theorem ni77 : notInt Try.prog 77 = true := by kernel_rfl
@[simp] theorem hb2 : hasBody Try.prog 2 = true := by kernel_rfl
@[simp] theorem hb3 : hasBody Try.prog 3 = true := by kernel_rfl
@[simp] theorem hb4 : hasBody Try.prog 4 = true := by kernel_rfl
@[simp] theorem hb5 : hasBody Try.prog 5 = true := by kernel_rfl
@[simp] theorem hb6 : hasBody Try.prog 6 = true := by kernel_rfl
@[simp] theorem hb7 : hasBody Try.prog 7 = true := by kernel_rfl
@[simp] theorem hb8 : hasBody Try.prog 8 = true := by kernel_rfl
@[simp] theorem hb9 : hasBody Try.prog 9 = true := by kernel_rfl
@[simp] theorem hb10 : hasBody Try.prog 10 = true := by kernel_rfl
@[simp] theorem hb11 : hasBody Try.prog 11 = true := by kernel_rfl
@[simp] theorem hb12 : hasBody Try.prog 12 = true := by kernel_rfl
@[simp] theorem hb13 : hasBody Try.prog 13 = true := by kernel_rfl
@[simp] theorem hb14 : hasBody Try.prog 14 = true := by kernel_rfl
@[simp] theorem hb15 : hasBody Try.prog 15 = true := by kernel_rfl
@[simp] theorem hb16 : hasBody Try.prog 16 = true := by kernel_rfl
@[simp] theorem hb17 : hasBody Try.prog 17 = true := by kernel_rfl
@[simp] theorem hb18 : hasBody Try.prog 18 = true := by kernel_rfl
@[simp] theorem hb19 : hasBody Try.prog 19 = true := by kernel_rfl
@[simp] theorem hb20 : hasBody Try.prog 20 = true := by kernel_rfl
@[simp] theorem hb21 : hasBody Try.prog 21 = true := by kernel_rfl
@[simp] theorem hb22 : hasBody Try.prog 22 = true := by kernel_rfl
@[simp] theorem hb23 : hasBody Try.prog 23 = true := by kernel_rfl
@[simp] theorem hb24 : hasBody Try.prog 24 = true := by kernel_rfl
@[simp] theorem hb25 : hasBody Try.prog 25 = true := by kernel_rfl
@[simp] theorem hb26 : hasBody Try.prog 26 = true := by kernel_rfl
@[simp] theorem hb27 : hasBody Try.prog 27 = true := by kernel_rfl
@[simp] theorem hb28 : hasBody Try.prog 28 = true := by kernel_rfl
@[simp] theorem hb29 : hasBody Try.prog 29 = true := by kernel_rfl
@[simp] theorem hb30 : hasBody Try.prog 30 = true := by kernel_rfl
@[simp] theorem hb31 : hasBody Try.prog 31 = true := by kernel_rfl
@[simp] theorem hb32 : hasBody Try.prog 32 = true := by kernel_rfl
@[simp] theorem hb33 : hasBody Try.prog 33 = true := by kernel_rfl
end Go.Proofs.Ytmpgljmmjipioaa.Ty
set_option linter.unusedVariables false
set_option linter.unusedSimpArgs false
namespace Go.Hv
open Go
/-! ### The register's step -/
def step1 (x : BitVec 32) : BitVec 32 := if x.getLsbD 0 then (x >>> 1) ^^^ 2197175160#32 else x >>> 1
def stepN : Nat → BitVec 32 → BitVec 32
  | 0, x => x
  | n + 1, x => step1 (stepN n x)
theorem and1 (x : BitVec 32) : (((x &&& 1#32).toNat : Int) = 1) ↔ x.getLsbD 0 = true := by
  rw [BitVec.toNat_and, BitVec.getLsbD, Nat.testBit_zero, show (1#32).toNat = 1 from rfl, Nat.and_one_is_mod]
  simp
  omega

theorem stepN_add (a b : Nat) (x : BitVec 32) : stepN (a + b) x = stepN a (stepN b x) := by
  induction a with
  | zero => simp [stepN]
  | succ a ih => rw [show a + 1 + b = (a + b) + 1 by omega]; simp [stepN, ih]
theorem stepN_comm (n : Nat) (x : BitVec 32) : stepN n (step1 x) = step1 (stepN n x) := by
  rw [show step1 x = stepN 1 x from rfl, ← stepN_add, show n + 1 = 1 + n by omega, stepN_add]; rfl
theorem step1_xor (x y : BitVec 32) : step1 (x ^^^ y) = step1 x ^^^ step1 y := by
  unfold step1
  rw [BitVec.getLsbD_xor]
  have e : (x ^^^ y) >>> 1 = (x >>> 1) ^^^ (y >>> 1) := by
    apply BitVec.eq_of_getLsbD_eq; intro i hi; simp
  rw [e]
  have d : (2197175160#32) ^^^ 2197175160#32 = 0#32 := by simp
  cases x.getLsbD 0 <;> cases y.getLsbD 0 <;> simp only [Bool.xor_true, Bool.xor_false, Bool.false_eq_true, if_true, if_false, Bool.not_true, Bool.not_false]
  · rw [BitVec.xor_assoc]
  · rw [BitVec.xor_assoc, BitVec.xor_assoc, BitVec.xor_comm 2197175160#32]
  · apply BitVec.eq_of_getLsbD_eq; intro i hi
    simp only [BitVec.getLsbD_xor]
    cases (x >>> 1).getLsbD i <;> cases (y >>> 1).getLsbD i <;> cases (2197175160#32).getLsbD i <;> rfl
theorem stepN_xor (n : Nat) (x y : BitVec 32) : stepN n (x ^^^ y) = stepN n x ^^^ stepN n y := by
  induction n with
  | zero => rfl
  | succ n ih => simp only [stepN, ih, step1_xor]
theorem step1_even {x : BitVec 32} (h : x.getLsbD 0 = false) : step1 x = x >>> 1 := by unfold step1; rw [h]; rfl
theorem stepN_low (n : Nat) : ∀ {x : BitVec 32}, (∀ i, i < n → x.getLsbD i = false) → stepN n x = x >>> n := by
  induction n with
  | zero => intro x h; simp [stepN]
  | succ n ih =>
    intro x h
    rw [stepN, ih (fun i hi => h i (by omega)), step1_even (by simp [h n (by omega)])]
    apply BitVec.eq_of_getLsbD_eq; intro i hi; simp [Nat.add_assoc]
theorem stepN_nibble (x : BitVec 32) : stepN 4 x = (x >>> 4) ^^^ stepN 4 (x &&& 15#32) := by
  have e : x = (x &&& ~~~ 15#32) ^^^ (x &&& 15#32) := by
    apply BitVec.eq_of_getLsbD_eq; intro i hi
    simp only [BitVec.getLsbD_xor, BitVec.getLsbD_and, BitVec.getLsbD_not]
    cases x.getLsbD i <;> cases (15#32).getLsbD i <;> simp [hi]
  conv => lhs; rw [e]
  rw [stepN_xor, stepN_low 4 (x := x &&& ~~~ 15#32)]
  · congr 1
    apply BitVec.eq_of_getLsbD_eq; intro i hi
    simp only [BitVec.getLsbD_ushiftRight, BitVec.getLsbD_and, BitVec.getLsbD_not]
    have : (15#32).getLsbD (4 + i) = false := by
      have : ∀ j, j < 32 → (15#32).getLsbD (4 + j) = false := by decide
      exact this i hi
    rw [this]
    rcases Nat.lt_or_ge (4 + i) 32 with h | h
    · simp [h]
    · simp [h, BitVec.getLsbD_of_ge x (4 + i) h]
  · intro i hi
    simp only [BitVec.getLsbD_and, BitVec.getLsbD_not]
    have : ∀ j, j < 4 → (15#32).getLsbD j = true := by decide
    simp [this i hi]

/-- One byte into the register. -/
def takeV (r : BitVec 32) (c : UInt8) : BitVec 32 := stepN 8 (r ^^^ BitVec.ofNat 32 c.toNat)
def extendV (r : BitVec 32) (l : List UInt8) : BitVec 32 := ~~~ l.foldl takeV (~~~ r)
def sumV (l : List UInt8) : BitVec 32 := extendV 0#32 l
theorem takeV_two (r : BitVec 32) (c : UInt8) : takeV r c = (((r ^^^ BitVec.ofNat 32 c.toNat) >>> 4 ^^^ stepN 4 ((r ^^^ BitVec.ofNat 32 c.toNat) &&& 15#32)) >>> 4) ^^^
    stepN 4 (((r ^^^ BitVec.ofNat 32 c.toNat) >>> 4 ^^^ stepN 4 ((r ^^^ BitVec.ofNat 32 c.toNat) &&& 15#32)) &&& 15#32) := by
  unfold takeV
  rw [show (8 : Nat) = 4 + 4 from rfl, stepN_add, stepN_nibble (stepN 4 _), stepN_nibble]
end Go.Hv
set_option linter.unusedVariables false
set_option linter.unusedSimpArgs false
namespace Go.Hv
open Go Go.Hv Go.Proofs
open Go.Proofs.Ytmpgljmmjipioaa
theorem take_spec (r : BitVec 32) (c : UInt8) : Spec1 Try.prog 33 [u32 r, u8 c] (u32 (takeV r c)) := by
  refine Spec1.of_HT Try.func33 rfl (by rw [Try.ntmps33]; simp) rfl ?_
  rw [Try.ntmps33]
  refine HT.seq (HT.region ?_)
  simp
  refine HT.seq (HT.region ?_)
  simp 
  refine HT.seq (HT.seq (HT.region ?_))
  simp
  refine HT.block (HT.loop (fun k : {k : Nat // k ≤ 8} => ⟨[.s 0 (u32 (stepN k (r ^^^ BitVec.ofNat 32 c.toNat))), .s 5 (i64 k)], 24⟩) (fun k => 8 - k) ⟨0, by omega⟩ (HS.le_fits ?_) ?_)
  · simp [stepN]
  rintro ⟨k, hk⟩
  refine HT.seq (HT.seq (HT.region ?_))
  simp
  refine HT.cond' ?_
  simp
  constructor
  · intro h
    refine HT.skip ?_
    simp
    refine HT.join [.s 0 (u32 (stepN (k+1) (r ^^^ BitVec.ofNat 32 c.toNat))), .s 5 (i64 k)] ?_ ?_
    · refine HT.block (HT.seq (HT.region ?_))
      simp
      refine HT.seq (HT.region ?_)
      simp 
      refine HT.seq (HT.region ?_)
      simp
      refine HT.cond' ?_
      simp
      constructor
      · intro h
        refine HT.region ?_
        simp [stepN, step1, h]
      · intro h
        refine HT.skip ?_
        simp [stepN, step1, h]
    · refine HT.region ?_
      simp
      refine ⟨k+1, by omega, by omega, HS.le_fits ?_⟩
      simp
      rw [wrap_i64] <;> omega
  · intro h
    refine HT.exit ?_
    simp
    refine HT.seq (HT.region ?_)
    simp
    refine HT.ret ?_
    simp [takeV, show k = 8 by omega]
def tabL (k : Nat) : List HV := (List.range k).map (fun i => u32 (stepN 4 (BitVec.ofNat 32 i))) ++ List.replicate (16 - k) (u32 0#32)
theorem tabL_succ {k : Nat} (h : k < 16) (x : HV) (hx : x = u32 (stepN 4 (BitVec.ofNat 32 k))) : (tabL k).take k ++ x :: (tabL k).drop (k + 1) = tabL (k + 1) := by
  subst hx
  unfold tabL
  rw [List.range_succ, List.take_append_of_le_length (by simp), List.take_of_length_le (by simp), List.map_append, List.append_assoc, List.drop_append, List.drop_of_length_le (by simp)]
  simp
  omega
theorem tabL_length {k : Nat} (h : k ≤ 16) : (tabL k).length = 16 := by simp [tabL]; omega
theorem tabL_one {k : Nat} : ∀ x ∈ tabL k, HV.one x = true := by
  intro x hx
  simp [tabL] at hx
  rcases hx with ⟨i, _, rfl⟩ | ⟨_, rfl⟩ <;> simp
theorem tabL_one' (k : Nat) : (∀ x, x ∈ tabL k → HV.one x = true) ↔ True := ⟨fun _ => trivial, fun _ => tabL_one⟩
theorem f32_spec : Spec1 Try.prog 32 [] (.agg (tabL 16)) := by
  refine Spec1.of_HT Try.func32 rfl (by rw [Try.ntmps32]; simp) rfl ?_
  rw [Try.ntmps32]
  refine HT.seq ?_
  refine HT.region ?_   -- R0
  simp
  refine HT.seq ?_
  refine HT.region ?_   -- R1
  simp
  refine HT.seq ?_
  refine HT.seq ?_
  refine HT.region ?_   -- R2
  simp
  refine HT.block ?_
  refine HT.loop (fun k : {k : Nat // k ≤ 16} => ⟨[.s 0 (.ptr 0 0), .s 1 (.ptr 1 0), .s 4 (i64 k), .o 0 (.box (tabL 0)), .o 1 (.box (tabL k))], 25⟩) (fun k => 16 - k) ⟨0, by omega⟩ (HS.le_fits ?_) ?_   -- turned: [2, 3, 4, 5, 6, 7, 8, 9, 10, 11, 12, 13, 14, 15, 16, 17, 18, 19, 20, 21, 22, 23]
  · simp [tabL, U_zero]
  rintro ⟨k, hk⟩
  refine HT.seq ?_
  refine HT.region ?_   -- R3
  simp
  refine HT.seq ?_
  refine HT.cond' ?_
  simp
  constructor
  · intro h16
    have hk' : k < 16 := by omega
    refine HT.skip ?_
    simp
    refine HT.seq ?_
    refine HT.block ?_
    refine HT.seq ?_
    refine HT.region ?_   -- R4
    simp
    refine HT.seq ?_
    refine HT.region ?_   -- R5
    simp [U_conv]
    refine HT.seq ?_
    refine HT.seq ?_
    refine HT.region ?_   -- R6
    simp
    refine HT.block ?_
    refine HT.loop (fun j : {k : Nat // k ≤ 4} => ⟨[.s 0 (.ptr 0 0), .s 1 (.ptr 1 0), .s 4 (i64 k), .s 2 (i64 k), .s 3 (u32 (stepN j (BitVec.ofNat 32 k))), .s 9 (i64 j), .o 0 (.box (tabL 0)), .o 1 (.box (tabL k))], 25⟩) (fun k => 4 - k) ⟨0, by omega⟩ (HS.le_fits ?_) ?_
    · simp [stepN]
    rintro ⟨j, hj⟩
    refine HT.seq ?_
    refine HT.region ?_   -- R7
    simp
    refine HT.seq ?_
    refine HT.cond' ?_
    simp
    constructor
    · intro h
      refine HT.skip ?_
      simp
      refine HT.seq ?_
      refine HT.block ?_
      refine HT.seq ?_
      refine HT.region ?_   -- R8
      simp [-BitVec.toNat_and]
      refine HT.cond' ?_
      simp [-BitVec.toNat_and]
      constructor
      · intro h
        refine HT.region ?_   -- R9
        simp
        refine HT.region ?_   -- R11
        simp
        refine ⟨j + 1, by omega, by omega, HS.le_fits ?_⟩
        rw [and1] at h
        simp [stepN, step1, h] at h ⊢
        rw [wrap_i64] <;> omega
      · intro h
        refine HT.region ?_   -- R10
        simp
        refine HT.region ?_   -- R11
        simp
        refine ⟨j + 1, by omega, by omega, HS.le_fits ?_⟩
        rw [and1, Bool.not_eq_true] at h
        simp only [stepN, step1, h]
        simp
        rw [wrap_i64] <;> omega
    · intro h
      refine HT.exit ?_
      simp
      refine HT.region ?_   -- R12
      simp [h16, show k ≤ 15 by omega, show j = 4 by omega, tabL_length hk, tabL_succ hk']
      refine HT.region ?_   -- R13
      simp
      refine ⟨k + 1, by omega, by omega, HS.le_fits ?_⟩
      simp
      rw [wrap_i64] <;> omega
  · intro h
    refine HT.exit ?_
    simp
    refine HT.seq ?_
    refine HT.region ?_   -- R14
    simp [show k = 16 by omega, tabL_length (Nat.le_refl 16), List.take_of_length_le, tabL_one', tabL_length (Nat.zero_le 16), List.drop_of_length_le]
    refine HT.ret ?_
    have hI : isIL (tabL 16) = true := by simp [tabL, isIL_iff, isI]
    simp [tabL_length (Nat.le_refl 16), List.take_of_length_le, rdL_isI _ _ hI]
end Go.Hv
set_option linter.unusedVariables false
set_option linter.unusedSimpArgs false
namespace Go.Hv
open Go Go.Hv Go.Proofs
open Go.Proofs.Ytmpgljmmjipioaa
theorem tabL_get {y : BitVec 32} (h : y.toNat < 16) : (tabL 16)[y.toNat]? = some (u32 (stepN 4 y)) := by
  unfold tabL
  rw [List.getElem?_append_left (by simpa using h)]
  simp [h]
theorem and15 (x : BitVec 32) : (x &&& 15#32).toNat < 16 := by
  rw [BitVec.toNat_and]; have := Nat.and_le_right (n := x.toNat) (m := (15#32).toNat); simp at this ⊢; omega
theorem and15i (x : BitVec 32) : ((x &&& 15#32).toNat : Int) < 16 := by have := and15 x; omega
theorem and15l (x : BitVec 32) : (x &&& 15#32).toNat ≤ 15 := by have := and15 x; omega
theorem take1_drop {α : Type} {l : List α} {k : Nat} {x : α} (h : l[k]? = some x) : (l.drop k).take 1 = [x] := by
  obtain ⟨hl, rfl⟩ := List.getElem?_eq_some_iff.1 h
  rw [List.drop_eq_getElem_cons hl]; rfl
theorem tabL_cut (x : BitVec 32) : ((tabL 16).drop ((x &&& 15#32).toNat)).take 1 = [u32 (stepN 4 (x &&& 15#32))] := take1_drop (tabL_get (and15 x))
theorem subL_tab (id : Nat) (a b : HV) : subL id a b (tabL 16) = tabL 16 := subL_isI _ _ _ _ (by simp [tabL, isIL_iff, isI])
theorem f28_spec (full : Bool) (r : BitVec 32) (l : List UInt8) (hl : l.length < 2 ^ 62) : Spec1 Try.prog 28 [u32 r, .sl 1 full (bytesHV l)] (u32 (extendV r l)) := by
  refine Spec1.of_HT Try.func28 rfl (by rw [Try.ntmps28]; simp) rfl ?_
  rw [Try.ntmps28]
  refine HT.seq ?_
  refine HT.region ?_   -- R0
  simp
  refine HT.seq ?_
  refine HT.region ?_   -- R1 calls [32]
  simp
  refine stepK.mk (.call1 _ _ _ _ rfl Ty.hb32 rfl f32_spec (by simp [scalL_iff, tabL, scal]) rfl) ?_
  simp [subL_tab, tabL_one', tabL_length (Nat.le_refl 16)]
  refine HT.seq ?_
  refine HT.region ?_   -- R2
  simp
  refine HT.seq ?_
  refine HT.seq ?_
  refine HT.region ?_   -- R3
  simp
  refine HT.block ?_
  refine HT.loop (fun k : {k : Nat // k ≤ l.length} => ⟨[.s 12 (.sl 1 full (bytesHV l)), .s 13 (i64 l.length), .s 5 (.ptr 5 0), .o 5 (.box (tabL 16)), .s 6 (u32 ((l.take k).foldl takeV (~~~ r))), .s 14 (i64 k)], 39⟩) (fun k => l.length - k) ⟨0, by omega⟩ (HS.le_fits ?_) ?_   -- turned: [6, 8, 14, 15, 16, 17, 18, 19, 20, 21, 22, 23, 24, 25, 26, 27, 28, 29, 30, 31, 32, 33, 34, 35, 36]
  · simp [subL_tab]
  rintro ⟨k, hk⟩
  refine HT.seq ?_
  refine HT.region ?_   -- R4
  simp
  refine HT.seq ?_
  refine HT.cond' ?_
  simp
  constructor
  · intro h
    have hk' : k < l.length := by omega
    refine HT.skip ?_
    simp
    refine HT.seq ?_
    refine HT.block ?_
    refine HT.seq ?_
    refine HT.region ?_   -- R5
    simp [hk', h]
    refine HT.seq ?_
    refine HT.region ?_   -- R6
    simp
    refine HT.seq ?_
    refine HT.region ?_   -- R7
    simp [-BitVec.toNat_and, and15i, and15l, tabL_length (Nat.le_refl 16), tabL_cut]
    refine HT.region ?_   -- R8
    simp [-BitVec.toNat_and, and15i, and15l, tabL_length (Nat.le_refl 16), tabL_cut]
    refine HT.region ?_   -- R9
    simp
    refine ⟨k + 1, by omega, by omega, HS.le_fits ?_⟩
    simp [foldl_take_succ _ _ _ _ hk', takeV_two]
    rw [wrap_i64] <;> omega
  · intro h
    refine HT.exit ?_
    simp
    refine HT.seq ?_
    refine HT.region ?_   -- R10
    simp
    refine HT.ret ?_
    simp [extendV, show k = l.length by omega]
theorem f29_spec (full : Bool) (r : BitVec 32) (l : List UInt8) (hl : l.length < 2 ^ 62) : Spec1 Try.prog 29 [u32 r, .sl 1 full (bytesHV l)] (u32 (extendV r l)) := by
  refine Spec1.of_HT Try.func29 rfl (by rw [Try.ntmps29]; simp) rfl ?_
  rw [Try.ntmps29]
  refine HT.seq ?_
  refine HT.region ?_   -- R0
  simp
  refine HT.seq ?_
  refine HT.region ?_   -- R1
  simp
  refine HT.seq ?_
  refine HT.seq ?_
  refine HT.region ?_   -- R2
  simp
  refine HT.block ?_
  refine HT.loop (fun k : {k : Nat // k ≤ l.length} => ⟨[.s 1 (.sl 1 full (bytesHV l)), .s 5 (u32 ((l.take k).foldl takeV (~~~ r))), .s 6 (i64 k)], 23⟩) (fun k => l.length - k) ⟨0, by omega⟩ (HS.le_fits ?_) ?_   -- turned: [5, 6, 9, 10, 11, 12, 13, 14, 15, 16, 17, 18, 19, 20]
  · simp
  rintro ⟨k, hk⟩
  refine HT.seq ?_
  refine HT.seq ?_
  refine HT.region ?_   -- R3
  simp
  refine HT.cond' ?_
  simp
  constructor
  · intro h
    have hk' : k < l.length := by omega
    refine HT.skip ?_
    simp
    refine HT.seq ?_
    refine HT.block ?_
    refine HT.region ?_   -- R5 calls [33]
    simp [hk', h]
    refine stepK.mk (.call1 _ _ _ _ rfl Ty.hb33 rfl (take_spec _ _) rfl rfl) ?_
    simp
    refine HT.region ?_   -- R4
    simp
    refine ⟨k + 1, by omega, by omega, HS.le_fits ?_⟩
    simp [foldl_take_succ _ _ _ _ hk']
    rw [wrap_i64] <;> omega
  · intro h
    refine HT.exit ?_
    simp
    refine HT.seq ?_
    refine HT.region ?_   -- R6
    simp
    refine HT.ret ?_
    simp [extendV, show k = l.length by omega]
theorem f22_spec (full : Bool) (l : List UInt8) (hl : l.length < 2 ^ 62) : Spec1 Try.prog 22 [.sl 1 full (bytesHV l)] (u32 (sumV l)) := by
  refine Spec1.of_HT Try.func22 rfl (by rw [Try.ntmps22]; simp) rfl ?_
  rw [Try.ntmps22]
  refine HT.seq ?_
  refine HT.region ?_   -- R0
  simp
  refine HT.seq ?_
  refine HT.region ?_   -- R1 calls [28]
  simp
  refine stepK.mk (.call1 _ _ _ _ rfl Ty.hb28 rfl (by rw [U_zero]; exact f28_spec full 0#32 l hl) rfl rfl) ?_
  simp
  refine HT.ret ?_
  simp [sumV]
theorem f23_spec (full : Bool) (l : List UInt8) (hl : l.length < 2 ^ 62) : Spec1 Try.prog 23 [.sl 1 full (bytesHV l)] (u32 (sumV l)) := by
  refine Spec1.of_HT Try.func23 rfl (by rw [Try.ntmps23]; simp) rfl ?_
  rw [Try.ntmps23]
  refine HT.seq ?_
  refine HT.region ?_   -- R0
  simp
  refine HT.seq ?_
  refine HT.region ?_   -- R1 calls [29]
  simp
  refine stepK.mk (.call1 _ _ _ _ rfl Ty.hb29 rfl (by rw [U_zero]; exact f29_spec full 0#32 l hl) rfl rfl) ?_
  simp
  refine HT.ret ?_
  simp [sumV]
end Go.Hv
set_option linter.unusedVariables false
set_option linter.unusedSimpArgs false
namespace Go.Hv
open Go Go.Hv Go.Proofs
open Go.Proofs.Ytmpgljmmjipioaa
/-- What is summed for a shard. -/
def weightB (r p : List UInt8) (n : Int) : List UInt8 := r ++ 0 :: (p ++ [0, UInt8.ofNat (IntKind.wrap .u8 n).toNat])
def weightV (r p : List UInt8) (n : Int) : BitVec 32 := sumV (weightB r p n)
theorem f9_spec (r p : List UInt8) (n : Int) (hr : r.length ≤ 1048576) (hp : p.length ≤ 1048576) : Spec1 Try.prog 9 [.str r, .str p, i64 n] (u32 (weightV r p n)) := by
  refine Spec1.of_HT Try.func9 rfl (by rw [Try.ntmps9]; simp) rfl ?_
  rw [Try.ntmps9]
  refine HT.seq ?_
  refine HT.region ?_   -- R0
  simp
  have b1 : ∀ N, 4000000 ≤ N → r.length ≤ N := fun N h => by omega
  have b2 : ∀ N, 4000000 ≤ N → r.length + 1 + p.length ≤ N := fun N h => by omega
  have b3 : ∀ N, 4000000 ≤ N → r.length + (p.length + 1) ≤ N := fun N h => by omega
  have b4 : ∀ N, 4000000 ≤ N → r.length + (p.length + 1 + 2) ≤ N := fun N h => by omega
  refine HT.seq ?_
  refine HT.region ?_   -- R1
  simp [b1]
  refine HT.seq ?_
  refine HT.region ?_   -- R2
  simp [b2, b3]
  refine HT.seq ?_
  refine HT.region ?_   -- R3 calls [22]
  simp [b2, b3, b4]
  refine stepK.mk (.call1 _ _ [.sl 1 false (bytesHV (weightB r p n))] _ rfl Ty.hb22 ?_ (f22_spec _ _ ?_) rfl rfl) ?_
  · simp only [weightB, bytesHV_append, bytesHV_cons, bytesHV_nil, ← u8_wrap]
    simp
  · simp [weightB]; omega
  simp
  refine HT.ret ?_
  simp [weightV]
theorem f10_spec (r p : List UInt8) (n : Int) (hr : r.length ≤ 1048576) (hp : p.length ≤ 1048576) : Spec1 Try.prog 10 [.str r, .str p, i64 n] (u32 (weightV r p n)) := by
  refine Spec1.of_HT Try.func10 rfl (by rw [Try.ntmps10]; simp) rfl ?_
  rw [Try.ntmps10]
  have b1 : ∀ N, 4000000 ≤ N → r.length ≤ N := fun N h => by omega
  have b2 : ∀ N, 4000000 ≤ N → r.length + 1 + p.length ≤ N := fun N h => by omega
  have b3 : ∀ N, 4000000 ≤ N → r.length + (p.length + 1) ≤ N := fun N h => by omega
  have b4 : ∀ N, 4000000 ≤ N → r.length + (p.length + 1 + 2) ≤ N := fun N h => by omega
  refine HT.seq ?_
  refine HT.region ?_   -- R0
  simp
  refine HT.seq ?_
  refine HT.region ?_   -- R1
  simp
  refine HT.seq ?_
  refine HT.seq ?_
  refine HT.region ?_   -- R2
  simp
  refine HT.block ?_
  refine HT.loop (fun k : {k : Nat // k ≤ r.length} => ⟨[.s 0 (.str r), .s 1 (.str p), .s 2 (i64 n), .s 7 (.ref 7), .o 7 (.row 5 1 (bytesHV (r.take k))), .s 8 (i64 k)], 47⟩) (fun k => r.length - k) ⟨0, by omega⟩ (HS.le.trans (HS.le_own (t := 7) 7 5 1 _ (by decide) rfl (by decide)) (HS.le_fits ?_)) ?_
  · simp
  rintro ⟨k, hk⟩
  refine HT.seq ?_
  refine HT.seq ?_
  refine HT.region ?_   -- R3
  simp
  refine HT.cond' ?_
  simp
  constructor
  · intro h
    have hk' : k < r.length := by omega
    have b5 : ∀ N, 4000000 ≤ N → min k r.length + 1 ≤ N := fun N h => by omega
    have b6 : ∀ N, 4000000 ≤ N → min k r.length ≤ N := fun N h => by omega
    refine HT.skip ?_
    simp
    refine HT.seq ?_
    refine HT.block ?_
    refine HT.region ?_   -- R5
    simp [h, hk', b5, b6]
    refine HT.region ?_   -- R4
    simp
    refine ⟨k + 1, by omega, by omega, HS.le_fits ?_⟩
    simp only [List.take_succ_eq_append_getElem hk', bytesHV_append, bytesHV_cons, bytesHV_nil]
    simp
    rw [wrap_i64] <;> omega
  · intro h
    obtain rfl : k = r.length := by omega
    refine HT.exit ?_
    simp
    refine HT.seq ?_
    refine HT.region ?_   -- R6
    simp [b1]
    refine HT.seq ?_
    refine HT.seq ?_
    refine HT.region ?_   -- R7
    simp
    refine HT.block ?_
    refine HT.loop (fun k : {k : Nat // k ≤ p.length} => ⟨[.s 1 (.str p), .s 2 (i64 n), .s 7 (.ref 7), .o 7 (.row 5 1 (bytesHV (r ++ 0 :: p.take k))), .s 9 (i64 k)], 47⟩) (fun k => p.length - k) ⟨0, by omega⟩ (HS.le_fits ?_) ?_
    · simp [bytesHV_append, bytesHV_cons]
    rintro ⟨k, hk⟩
    refine HT.seq ?_
    refine HT.seq ?_
    refine HT.region ?_   -- R8
    simp
    refine HT.cond' ?_
    simp
    constructor
    · intro h
      have hk' : k < p.length := by omega
      have b5 : ∀ N, 4000000 ≤ N → r.length + (min k p.length + 1) + 1 ≤ N := fun N h => by omega
      have b6 : ∀ N, 4000000 ≤ N → r.length + (min k p.length + 1) ≤ N := fun N h => by omega
      refine HT.skip ?_
      simp
      refine HT.seq ?_
      refine HT.block ?_
      refine HT.region ?_   -- R10
      simp [h, hk', b5, b6]
      refine HT.region ?_   -- R9
      simp
      refine ⟨k + 1, by omega, by omega, HS.le_fits ?_⟩
      simp only [List.take_succ_eq_append_getElem hk', bytesHV_append, bytesHV_cons, bytesHV_nil]
      simp
      rw [wrap_i64] <;> omega
    · intro h
      obtain rfl : k = p.length := by omega
      refine HT.exit ?_
      simp
      refine HT.seq ?_
      refine HT.region ?_   -- R11
      simp [b3]
      refine HT.seq ?_
      refine HT.region ?_   -- R12
      simp [b3, b4]
      refine HT.seq ?_
      refine HT.region ?_   -- R13 calls [23]
      simp
      refine stepK.mk (.call1 _ _ [.sl 1 false (bytesHV (weightB r p n))] _ rfl Ty.hb23 ?_ (f23_spec _ _ ?_) rfl rfl) ?_
      · simp only [weightB, bytesHV_append, bytesHV_cons, bytesHV_nil, ← u8_wrap]
        simp
      · simp [weightB]; omega
      simp
      refine HT.ret ?_
      simp [weightV]
end Go.Hv
set_option linter.unusedVariables false
set_option linter.unusedSimpArgs false
namespace Go.Hv
open Go Go.Hv Go.Proofs
open Go.Proofs.Ytmpgljmmjipioaa
/-- The best shard so far, and its weight. -/
def ofStep (r p : List UInt8) : Nat → Int × BitVec 32
  | 0 => (-1, 0#32)
  | k + 1 => if (ofStep r p k).1 < 0 ∨ (ofStep r p k).2 < weightV r p k then ((k : Int), weightV r p k) else ofStep r p k
def ofV (r p : List UInt8) (n : Int) : Int := (ofStep r p n.toNat).1
theorem f11_spec (r p : List UInt8) (n : Int) (hr : r.length ≤ 1048576) (hp : p.length ≤ 1048576) (hn : n ≤ 400) : Spec1 Try.prog 11 [.str r, .str p, i64 n] (i64 (ofV r p n)) := by
  refine Spec1.of_HT Try.func11 rfl (by rw [Try.ntmps11]; simp) rfl ?_
  rw [Try.ntmps11]
  refine HT.seq ?_
  refine HT.region ?_   -- R0
  simp
  refine HT.seq ?_
  refine HT.region ?_   -- R1
  simp
  refine HT.seq ?_
  refine HT.region ?_   -- R2
  simp
  refine HT.seq ?_
  refine HT.seq ?_
  refine HT.region ?_   -- R3
  simp
  refine HT.block ?_
  refine HT.loop (fun k : {k : Nat // k ≤ n.toNat} => ⟨[.s 0 (.str r), .s 1 (.str p), .s 11 (i64 n), .s 12 (i64 k), .s 7 (i64 (ofStep r p k).1), .s 8 (u32 (ofStep r p k).2)], 30⟩) (fun k => n.toNat - k) ⟨0, by omega⟩ (HS.le_fits ?_) ?_   -- turned: [7, 8, 9, 10, 12, 13, 14, 15, 16, 17, 18, 19, 20, 21, 22, 23, 24, 25, 26, 27, 28]
  · simp [ofStep, U_zero]
  rintro ⟨k, hk⟩
  refine HT.seq ?_
  refine HT.region ?_   -- R4
  simp
  refine HT.seq ?_
  refine HT.cond' ?_
  simp
  constructor
  · intro h
    refine HT.skip ?_
    simp
    refine HT.seq ?_
    refine HT.block ?_
    refine HT.seq ?_
    refine HT.region ?_   -- R5
    simp
    refine HT.seq ?_
    refine HT.region ?_   -- R6 calls [9]
    simp
    refine stepK.mk (.call1 _ _ _ _ rfl Ty.hb9 rfl (f9_spec _ _ _ hr hp) rfl rfl) ?_
    simp
    by_cases hb : (ofStep r p k).1 < 0
    · refine HT.seq ?_
      refine HT.region ?_   -- R7
      simp [hb]
      refine HT.cond' ?_
      simp
      refine HT.region ?_   -- R8
      simp
      refine HT.region ?_   -- R9
      simp
      refine ⟨k + 1, by omega, by omega, HS.le_fits ?_⟩
      simp [ofStep, hb]
      rw [wrap_i64] <;> omega
    · by_cases hw : (ofStep r p k).2 < weightV r p k
      · refine HT.seq ?_
        refine HT.region ?_   -- R7
        simp [hb, hw]
        refine HT.cond' ?_
        simp
        refine HT.region ?_   -- R8
        simp
        refine HT.region ?_   -- R9
        simp
        refine ⟨k + 1, by omega, by omega, HS.le_fits ?_⟩
        simp [ofStep, hb, hw]
        rw [wrap_i64] <;> omega
      · refine HT.seq ?_
        refine HT.region ?_   -- R7
        simp [hb, hw]
        refine HT.cond' ?_
        simp
        refine HT.skip ?_
        simp
        refine HT.region ?_   -- R9
        simp
        refine ⟨k + 1, by omega, by omega, HS.le_fits ?_⟩
        simp [ofStep, hb, hw]
        rw [wrap_i64] <;> omega
  · intro h
    obtain rfl : k = n.toNat := by omega
    refine HT.exit ?_
    simp
    refine HT.seq ?_
    refine HT.region ?_   -- R10
    simp
    refine HT.ret ?_
    simp [ofV]
theorem f12_spec (r p : List UInt8) (n : Int) (hr : r.length ≤ 1048576) (hp : p.length ≤ 1048576) (hn : n ≤ 400) : Spec1 Try.prog 12 [.str r, .str p, i64 n] (i64 (ofV r p n)) := by
  refine Spec1.of_HT Try.func12 rfl (by rw [Try.ntmps12]; simp) rfl ?_
  rw [Try.ntmps12]
  refine HT.seq ?_
  refine HT.region ?_   -- R0
  simp
  refine HT.seq ?_
  refine HT.region ?_   -- R1
  simp
  refine HT.seq ?_
  refine HT.region ?_   -- R2
  simp
  refine HT.seq ?_
  refine HT.seq ?_
  refine HT.region ?_   -- R3
  simp
  refine HT.block ?_
  refine HT.loop (fun k : {k : Nat // k ≤ n.toNat} => ⟨[.s 0 (.str r), .s 1 (.str p), .s 2 (i64 n), .s 9 (i64 k), .s 7 (i64 (ofStep r p k).1), .s 8 (u32 (ofStep r p k).2)], 30⟩) (fun k => n.toNat - k) ⟨0, by omega⟩ (HS.le_fits ?_) ?_   -- turned: [7, 8, 9, 10, 11, 12, 13, 14, 15, 16, 17, 18, 19, 20, 21, 22, 23, 24, 25, 26, 27, 28]
  · simp [ofStep, U_zero]
  rintro ⟨k, hk⟩
  refine HT.seq ?_
  refine HT.seq ?_
  refine HT.region ?_   -- R4
  simp
  refine HT.cond' ?_
  simp
  constructor
  · intro h
    refine HT.skip ?_
    simp
    refine HT.seq ?_
    refine HT.block ?_
    refine HT.seq ?_
    refine HT.region ?_   -- R6 calls [10]
    simp
    refine stepK.mk (.call1 _ _ _ _ rfl Ty.hb10 rfl (f10_spec _ _ _ hr hp) rfl rfl) ?_
    simp
    by_cases hb : (ofStep r p k).1 < 0
    · refine HT.seq ?_
      refine HT.region ?_   -- R7
      simp [hb]
      refine HT.cond' ?_
      simp
      refine HT.seq ?_
      refine HT.region ?_   -- R8
      simp
      refine HT.region ?_   -- R9
      simp
      refine HT.region ?_   -- R5
      simp
      refine ⟨k + 1, by omega, by omega, HS.le_fits ?_⟩
      simp [ofStep, hb]
      rw [wrap_i64] <;> omega
    · by_cases hw : (ofStep r p k).2 < weightV r p k
      · refine HT.seq ?_
        refine HT.region ?_   -- R7
        simp [hb, hw]
        refine HT.cond' ?_
        simp
        refine HT.seq ?_
        refine HT.region ?_   -- R8
        simp
        refine HT.region ?_   -- R9
        simp
        refine HT.region ?_   -- R5
        simp
        refine ⟨k + 1, by omega, by omega, HS.le_fits ?_⟩
        simp [ofStep, hb, hw]
        rw [wrap_i64] <;> omega
      · refine HT.seq ?_
        refine HT.region ?_   -- R7
        simp [hb, hw]
        refine HT.cond' ?_
        simp
        refine HT.skip ?_
        simp
        refine HT.region ?_   -- R5
        simp
        refine ⟨k + 1, by omega, by omega, HS.le_fits ?_⟩
        simp [ofStep, hb, hw]
        rw [wrap_i64] <;> omega
  · intro h
    obtain rfl : k = n.toNat := by omega
    refine HT.exit ?_
    simp
    refine HT.seq ?_
    refine HT.region ?_   -- R10
    simp
    refine HT.ret ?_
    simp [ofV]
end Go.Hv
set_option linter.unusedVariables false
set_option linter.unusedSimpArgs false
namespace Go.Hv
open Go Go.Hv Go.Proofs
open Go.Proofs.Ytmpgljmmjipioaa
structure Doc where
  id : Int
  repo : List UInt8
  path : List UInt8
  text : List UInt8
  on : List (List UInt8)
  osz : Nat
  full : Bool
def strsHV (l : List (List UInt8)) : List (List HV) := l.map fun s => [.str s]
@[simp] def Doc.enc (d : Doc) : List HV := [i64 d.id, .str d.repo, .str d.path, .str d.text, .sl d.osz d.full (strsHV d.on)]
def Doc.zero : Doc := ⟨0, [], [], [], [], 0, true⟩
def docsHV (l : List Doc) : List (List HV) := l.map Doc.enc
@[simp] theorem isILL_strsHV (l : List (List UInt8)) : isILL (strsHV l) = true := by simp [isILL, strsHV, isIL, isI]
@[simp] theorem isILL_docsHV (l : List Doc) : isILL (docsHV l) = true := by simp [isILL, docsHV, isIL, isI]
@[simp] theorem docsHV_length (l : List Doc) : (docsHV l).length = l.length := by simp [docsHV]
@[simp] theorem docsHV_getElem (l : List Doc) (k : Nat) (h : k < (docsHV l).length) : (docsHV l)[k] = (l[k]'(by simpa using h)).enc := by simp [docsHV]
def getV (l : List Doc) (id : Int) : Option Doc := l.find? (fun d => d.id == id)
theorem getV_drop {l : List Doc} {k : Nat} (h : k < l.length) (id : Int) : getV (l.drop k) id = if l[k].id = id then some l[k] else getV (l.drop (k + 1)) id := by
  rw [List.drop_eq_getElem_cons h]
  unfold getV
  rw [List.find?_cons]
  by_cases e : l[k].id = id
  · simp [e]
  · have : (l[k].id == id) = false := by simp [e]
    rw [this, if_neg e]
theorem f25_spec (full : Bool) (l : List Doc) (id : Int) (hl : l.length < 2 ^ 40) : SpecT Try.prog 25 [.sl 5 full (docsHV l), i64 id] [.agg ((getV l id).getD .zero).enc, bo (getV l id).isSome] := by
  refine SpecT.of_HT Try.func25 rfl (by rw [Try.ntmps25]; simp) (rs := [.cell 4 48, .tmp 5]) rfl (by decide) ?_
  rw [Try.ntmps25]
  refine HT.seq ?_
  refine HT.region ?_   -- R0
  simp
  refine HT.seq ?_
  refine HT.seq ?_
  refine HT.region ?_   -- R1
  simp
  refine HT.block ?_
  refine HT.loop (fun k : {k : Nat // k ≤ l.length ∧ getV l id = getV (l.drop k) id} => ⟨[.s 1 (i64 id), .s 4 (.ptr 4 0), .o 4 (.box Doc.zero.enc), .s 8 (.sl 5 full (docsHV l)), .s 9 (i64 l.length), .s 10 (i64 k)], 21⟩) (fun k => l.length - k) ⟨0, by simp⟩ (HS.le_fits ?_) ?_
  · simp [Doc.zero, strsHV]
  rintro ⟨k, hk, hg⟩
  refine HT.seq ?_
  refine HT.region ?_   -- R2
  simp
  refine HT.seq ?_
  refine HT.cond' ?_
  simp
  constructor
  · intro h
    have hk' : k < l.length := by omega
    rw [getV_drop hk'] at hg
    refine HT.skip ?_
    simp
    refine HT.seq ?_
    refine HT.block ?_
    refine HT.seq ?_
    refine HT.region ?_   -- R3
    simp [h, hk']
    refine HT.seq ?_
    refine HT.region ?_   -- R4
    simp
    refine HT.cond' ?_
    simp
    constructor
    · intro h
      refine HT.seq ?_
      refine HT.region ?_   -- R5
      simp
      refine HT.ret ?_
      simp [hg, h]
    · intro h
      refine HT.skip ?_
      simp
      refine HT.region ?_   -- R6
      simp
      refine ⟨k + 1, by omega, ⟨by omega, by rw [hg, if_neg h]⟩, HS.le_fits ?_⟩
      simp
      rw [wrap_i64] <;> omega
  · intro h
    obtain rfl : k = l.length := by omega
    rw [List.drop_length] at hg
    have hg0 : getV l id = none := by rw [hg]; rfl
    refine HT.exit ?_
    simp
    refine HT.seq ?_
    refine HT.region ?_   -- R7
    simp
    refine HT.ret ?_
    simp [hg0, Doc.zero, strsHV]
/-- The error's number. -/
def errHV (n : Int) : HV := i64 n
theorem f16_dead : SpecT Try.prog 16 [.sl 0 true [], .agg [.sl 0 true [], .sl 1 true [[i64 1]], .sl 0 true []], i64 2] [.sl 0 true [], i64 8] := by
  refine SpecT.of_HT Try.func16 rfl (by rw [Try.ntmps16]; simp) (rs := [.tmp 6, .tmp 7]) rfl (by decide) ?_
  rw [Try.ntmps16]
  refine HT.seq ?_
  refine HT.region ?_   -- R0
  simp
  refine HT.seq ?_
  refine HT.seq ?_
  refine HT.region ?_   -- R1
  simp
  refine HT.block ?_
  refine HT.loop (fun k : Unit => ⟨[.s 0 (.sl 0 true []), .s 31 (.sl 1 true [[i64 1]]), .s 32 (i64 1), .s 33 (i64 0)], 163⟩) (fun k => 0) () (HS.le_fits ?_) ?_
  · simp
  intro k
  refine HT.seq ?_
  refine HT.region ?_   -- R2
  simp
  refine HT.seq ?_
  refine HT.cond' ?_
  simp
  refine HT.skip ?_
  simp
  refine HT.seq ?_
  refine HT.block ?_
  refine HT.seq ?_
  refine HT.region ?_   -- R3
  simp
  refine HT.seq ?_
  refine HT.region ?_   -- R4 calls [25]
  simp
  refine stepK.mk (.callTf _ _ [.sl 0 true [], i64 1] _ _ rfl Ty.hb25 rfl rfl (SpecT.args (.cons (HLe.nil 0 5 true) (.cons (HLe.refl _) .nil)) (f25_spec true [] 1 (by decide))) rfl) ?_
  simp [getV, Doc.zero, strsHV]
  refine HT.seq ?_
  refine HT.region ?_   -- R5
  simp
  refine HT.cond' ?_
  simp
  refine HT.seq ?_
  refine HT.region ?_   -- R6
  simp
  refine HT.ret ?_
  simp
theorem f16_range (n : Int) (hn : n < 1 ∨ 4 < n) : SpecT Try.prog 16 [.sl 0 true [], .agg [.sl 0 true [], .sl 0 true [], .sl 0 true []], i64 n] [.sl 0 true [], i64 2] := by
  refine SpecT.of_HT Try.func16 rfl (by rw [Try.ntmps16]; simp) (rs := [.tmp 6, .tmp 7]) rfl (by decide) ?_
  rw [Try.ntmps16]
  refine HT.seq ?_
  refine HT.region ?_   -- R0
  simp
  refine HT.seq ?_
  refine HT.seq ?_
  refine HT.region ?_   -- R1
  simp
  refine HT.block ?_
  refine HT.loop (fun k : Unit => ⟨[.s 2 (i64 n), .s 0 (.sl 0 true []), .s 32 (i64 0), .s 33 (i64 0), .s 4 (.ptr 4 0), .o 4 (.box [.sl 0 true [], .sl 0 true [], .sl 0 true []])], 163⟩) (fun k => 0) () (HS.le_fits ?_) ?_
  · simp
  intro k
  refine HT.seq ?_
  refine HT.region ?_   -- R2
  simp
  refine HT.seq ?_
  refine HT.cond' ?_
  simp
  refine HT.exit ?_
  simp
  refine HT.seq ?_
  refine HT.seq ?_
  refine HT.region ?_   -- R8
  simp
  refine HT.block ?_
  refine HT.loop (fun k : Unit => ⟨[.s 2 (i64 n), .s 48 (i64 0), .s 49 (i64 0)], 163⟩) (fun k => 0) () (HS.le_fits ?_) ?_
  · simp
  intro k
  refine HT.seq ?_
  refine HT.region ?_   -- R9
  simp
  refine HT.seq ?_
  refine HT.cond' ?_
  simp
  refine HT.exit ?_
  simp
  by_cases h1 : n < 1
  · refine HT.seq ?_
    refine HT.seq ?_
    refine HT.region ?_   -- R15
    simp [h1]
    refine HT.cond' ?_
    simp
    refine HT.seq ?_
    refine HT.region ?_   -- R16
    simp
    refine HT.ret ?_
    simp
  · have h2 : 4 < n := by omega
    refine HT.seq ?_
    refine HT.seq ?_
    refine HT.region ?_   -- R15
    simp [h1, h2]
    refine HT.cond' ?_
    simp
    refine HT.seq ?_
    refine HT.region ?_   -- R16
    simp
    refine HT.ret ?_
    simp
theorem f13_three : SpecO Try.prog 13 [.sl 0 true [], i64 3] 27 1 [[.sl 0 true []], [.sl 0 true []], [.sl 0 true []]] := by
  refine SpecO.of_HT Try.func13 rfl (by rw [Try.ntmps13]; simp) rfl ?_
  rw [Try.ntmps13]
  refine HT.seq ?_
  refine HT.region ?_   -- R0
  simp
  refine HT.seq ?_
  refine HT.seq ?_
  refine HT.region ?_   -- R1
  simp
  refine HT.cond' ?_
  simp
  refine HT.skip ?_
  simp
  refine HT.seq ?_
  refine HT.region ?_   -- R3
  simp
  refine HT.seq ?_
  refine HT.seq ?_
  refine HT.region ?_   -- R4
  simp
  refine HT.block ?_
  refine HT.loop (fun k : Unit => ⟨[.s 18 (i64 0), .s 19 (i64 0), .s 5 (.ref 16), .o 16 (.row 27 1 [[.sl 0 true []], [.sl 0 true []], [.sl 0 true []]])], 41⟩) (fun k => 0) () (HS.le_fits ?_) ?_
  · simp
  intro k
  refine HT.seq ?_
  refine HT.region ?_   -- R5
  simp
  refine HT.seq ?_
  refine HT.cond' ?_
  simp
  refine HT.exit ?_
  simp
  refine HT.seq ?_
  refine HT.region ?_   -- R10
  simp
  refine HT.ret ?_
  simp
end Go.Hv
set_option linter.unusedVariables false
set_option linter.unusedSimpArgs false
namespace Go.Hv
open Go Go.Hv Go.Proofs
open Go.Proofs.Ytmpgljmmjipioaa
theorem weight_empty : weightV [] [] 0 = 1617208186#32 := by decide +kernel
theorem f8_spec : Spec1 Try.prog 8 [] (bo true) := by
  refine Spec1.of_HT Try.func8 rfl (by rw [Try.ntmps8]; simp) rfl ?_
  rw [Try.ntmps8]
  refine HT.seq ?_
  refine HT.region ?_   -- R0
  simp
  refine HT.seq ?_
  refine HT.region ?_   -- R1 calls [16]
  simp
  refine stepK.mk (.callTf _ _ _ _ _ rfl Ty.hb16 rfl rfl f16_dead rfl) ?_
  simp
  refine HT.seq ?_
  refine HT.region ?_   -- R2 calls [16]
  simp
  refine stepK.mk (.callTf _ _ _ _ _ rfl Ty.hb16 rfl rfl (f16_range 0 (by decide)) rfl) ?_
  simp
  refine HT.seq ?_
  refine HT.region ?_   -- R3 calls [16]
  simp
  refine stepK.mk (.callTf _ _ _ _ _ rfl Ty.hb16 rfl rfl (f16_range 5 (by decide)) rfl) ?_
  simp
  refine HT.seq ?_
  refine HT.seq ?_
  refine HT.region ?_   -- R4 calls [11, 11]
  simp
  refine stepK.mk (.call1 _ _ _ _ rfl Ty.hb11 rfl (f11_spec _ _ 1 (by decide) (by decide) (by decide)) rfl rfl) ?_
  simp [ofV, ofStep]
  refine stepK.mk (.call1 _ _ _ _ rfl Ty.hb11 rfl (f11_spec _ _ 0 (by decide) (by decide) (by decide)) rfl rfl) ?_
  simp [ofV, ofStep]
  refine HT.cond' ?_
  simp
  refine HT.skip ?_
  simp
  refine HT.seq ?_
  refine HT.region ?_   -- R6 calls [9, 13]
  simp
  refine stepK.mk (.call1 _ _ _ _ rfl Ty.hb9 rfl (f9_spec _ _ 0 (by decide) (by decide)) rfl rfl) ?_
  simp [weight_empty]
  refine stepK.mk (.callO _ _ _ _ _ _ _ _ rfl Ty.hb13 rfl rfl f13_three rfl rfl) ?_
  simp
  refine HT.ret ?_
  simp
theorem f3_spec (r p : List UInt8) (n : Int) : Spec1 Try.prog 3 [.str r, .str p, i64 n] (bo true) := by
  refine Spec1.of_HT Try.func3 rfl (by rw [Try.ntmps3]; simp) rfl ?_
  rw [Try.ntmps3]
  refine HT.seq ?_
  refine HT.region ?_   -- R0
  simp
  refine HT.seq ?_
  refine HT.seq ?_
  refine HT.region ?_   -- R1 calls [8]
  simp
  refine stepK.mk (.call1 _ _ _ _ rfl Ty.hb8 rfl f8_spec rfl rfl) ?_
  simp
  refine HT.cond' ?_
  simp
  refine HT.skip ?_
  simp
  refine HT.seq ?_
  refine HT.seq ?_
  refine HT.region ?_   -- R3
  by_cases hr : 200 < (r.length : Int)
  · simp [hr]
    refine HT.cond' ?_
    simp
    refine HT.seq ?_
    refine HT.region ?_   -- R4
    simp
    refine HT.ret ?_
    simp
  by_cases hp : 200 < (p.length : Int)
  · simp [hr, hp]
    refine HT.cond' ?_
    simp
    refine HT.seq ?_
    refine HT.region ?_   -- R4
    simp
    refine HT.ret ?_
    simp
  simp [hr, hp]
  refine HT.cond' ?_
  simp
  refine HT.skip ?_
  simp
  refine HT.seq ?_
  refine HT.region ?_   -- R5 calls [9, 10, 11, 12]
  simp
  refine stepK.mk (.call1 _ _ _ _ rfl Ty.hb9 rfl (f9_spec r p n (by omega) (by omega)) rfl rfl) ?_
  simp
  refine stepK.mk (.call1 _ _ _ _ rfl Ty.hb10 rfl (f10_spec r p n (by omega) (by omega)) rfl rfl) ?_
  by_cases hn : 300 < n
  · simp [hn]
    refine HT.ret ?_
    simp
  simp [hn]
  refine stepK.mk (.call1 _ _ _ _ rfl Ty.hb11 rfl (f11_spec r p n (by omega) (by omega) (by omega)) rfl rfl) ?_
  simp
  refine stepK.mk (.call1 _ _ _ _ rfl Ty.hb12 rfl (f12_spec r p n (by omega) (by omega) (by omega)) rfl rfl) ?_
  simp
  refine HT.ret ?_
  simp
end Go.Hv
set_option linter.unusedVariables false
set_option linter.unusedSimpArgs false
namespace Go.Hv
open Go Go.Hv Go.Proofs
open Go.Proofs.Ytmpgljmmjipioaa
theorem ofStep_lt (r p : List UInt8) : ∀ k : Nat, (ofStep r p k).1 < k ∧ (1 ≤ k → 0 ≤ (ofStep r p k).1)
  | 0 => ⟨by simp [ofStep], by omega⟩
  | k + 1 => by
    have ih := ofStep_lt r p k
    simp only [ofStep]
    split
    · exact ⟨by simp; try omega, fun _ => by simp; try omega⟩
    · next h => exact ⟨by omega, fun _ => by have := not_or.1 h; omega⟩
theorem ofV_next (r p : List UInt8) {n : Int} (h : 1 ≤ n) : 0 ≤ ofV r p n ∧ ofV r p n < n ∧ (ofV r p (n + 1) = ofV r p n ∨ ofV r p (n + 1) = n) := by
  have hb := ofStep_lt r p n.toNat
  unfold ofV
  refine ⟨hb.2 (by omega), by omega, ?_⟩
  rw [show (n + 1).toNat = n.toNat + 1 by omega, ofStep]
  split
  · right; simp; omega
  · left; rfl
theorem f6_spec (r p : List UInt8) (n : Int) : Spec1 Try.prog 6 [.str r, .str p, i64 n] (bo true) := by
  refine Spec1.of_HT Try.func6 rfl (by rw [Try.ntmps6]; simp) rfl ?_
  rw [Try.ntmps6]
  refine HT.seq ?_
  refine HT.region ?_   -- R0
  simp
  refine HT.seq ?_
  refine HT.seq ?_
  refine HT.region ?_   -- R1 calls [8]
  simp
  refine stepK.mk (.call1 _ _ _ _ rfl Ty.hb8 rfl f8_spec rfl rfl) ?_
  simp
  refine HT.cond' ?_
  simp
  refine HT.skip ?_
  simp
  refine HT.seq ?_
  refine HT.seq ?_
  refine HT.region ?_   -- R3
  by_cases hr : 200 < (r.length : Int)
  · simp [hr]
    refine HT.cond' ?_
    simp
    refine HT.seq ?_
    refine HT.region ?_   -- R4
    simp
    refine HT.ret ?_
    simp
  by_cases hp : 200 < (p.length : Int)
  · simp [hr, hp]
    refine HT.cond' ?_
    simp
    refine HT.seq ?_
    refine HT.region ?_   -- R4
    simp
    refine HT.ret ?_
    simp
  by_cases hn : 300 < n
  · simp [hr, hp, hn]
    refine HT.cond' ?_
    simp
    refine HT.seq ?_
    refine HT.region ?_   -- R4
    simp
    refine HT.ret ?_
    simp
  by_cases h1 : n < 1
  · simp [hr, hp, hn, h1]
    refine HT.cond' ?_
    simp
    refine HT.seq ?_
    refine HT.region ?_   -- R4
    simp
    refine HT.ret ?_
    simp
  simp [hr, hp, hn, h1]
  refine HT.cond' ?_
  simp
  refine HT.skip ?_
  simp
  have hw : IntKind.wrap .i64 (n + 1) = n + 1 := wrap_i64 (by omega) (by omega)
  refine HT.seq ?_
  refine HT.region ?_   -- R5 calls [11]
  simp
  refine stepK.mk (.call1 _ _ _ _ rfl Ty.hb11 rfl (f11_spec r p n (by omega) (by omega) (by omega)) rfl rfl) ?_
  simp
  refine HT.seq ?_
  refine HT.region ?_   -- R6 calls [11]
  simp [hw]
  refine stepK.mk (.call1 _ _ _ _ rfl Ty.hb11 rfl (f11_spec r p (n + 1) (by omega) (by omega) (by omega)) rfl rfl) ?_
  simp
  obtain ⟨q1, q2, q3⟩ := ofV_next r p (n := n) (by omega)
  refine HT.seq ?_
  refine HT.region ?_   -- R7
  by_cases q4 : ofV r p (n + 1) = ofV r p n
  · simp [q1, q2, q4]
    refine HT.ret ?_
    simp
  · have q5 : ofV r p (n + 1) = n := by rcases q3 with h | h; exact absurd h q4; exact h
    have q6 : ¬ n = ofV r p n := by rw [← q5]; rw [q5] at q4 ⊢; exact q4
    simp [q1, q2, q5, q6]
    refine HT.ret ?_
    simp
end Go.Hv
set_option linter.unusedVariables false
set_option linter.unusedSimpArgs false
namespace Go.Hv
open Go Go.Hv Go.Proofs
open Go.Proofs.Ytmpgljmmjipioaa
def intsHV (l : List Int) : List (List HV) := l.map fun n => [i64 n]
@[simp] theorem intsHV_length (l : List Int) : (intsHV l).length = l.length := by simp [intsHV]
@[simp] theorem intsHV_getElem (l : List Int) (k : Nat) (h : k < (intsHV l).length) : (intsHV l)[k] = [i64 (l[k]'(by simpa using h))] := by simp [intsHV]
@[simp] theorem isILL_intsHV (l : List Int) : isILL (intsHV l) = true := by simp [isILL, intsHV, isIL, isI]
theorem intsHV_append (a b : List Int) : intsHV (a ++ b) = intsHV a ++ intsHV b := by simp [intsHV]
@[simp] theorem intsHV_nil : intsHV [] = [] := rfl
theorem intsHV_cons (a : Int) (b : List Int) : intsHV (a :: b) = [i64 a] :: intsHV b := rfl
theorem f19_spec (fa fb : Bool) (x y : List Int) (hx : x.length < 2 ^ 40) : Spec1 Try.prog 19 [.sl 1 fa (intsHV x), .sl 1 fb (intsHV y)] (bo (decide (x = y))) := by
  refine Spec1.of_HT Try.func19 rfl (by rw [Try.ntmps19]; simp) rfl ?_
  rw [Try.ntmps19]
  refine HT.seq ?_
  refine HT.region ?_   -- R0
  simp
  refine HT.seq ?_
  refine HT.seq ?_
  refine HT.region ?_   -- R1
  simp
  refine HT.cond' ?_
  simp
  constructor
  · intro h
    refine HT.seq ?_
    refine HT.region ?_   -- R2
    simp
    refine HT.ret ?_
    have : x ≠ y := fun e => h (by rw [e])
    simp [this]
  · intro h
    refine HT.skip ?_
    simp
    refine HT.seq ?_
    refine HT.seq ?_
    refine HT.region ?_   -- R3
    simp
    refine HT.block ?_
    refine HT.loop (fun k : {k : Nat // k ≤ x.length ∧ x.take k = y.take k} => ⟨[.s 0 (.sl 1 fa (intsHV x)), .s 1 (.sl 1 fb (intsHV y)), .s 5 (i64 k)], 26⟩) (fun k => x.length - k) ⟨0, by simp⟩ (HS.le_fits ?_) ?_   -- turned: [4, 5, 11, 12, 13, 14, 15, 16, 17, 18, 19, 20, 21, 22, 23, 24, 25]
    · simp
    rintro ⟨k, hk, hg⟩
    refine HT.seq ?_
    refine HT.seq ?_
    refine HT.region ?_   -- R4
    simp
    refine HT.cond' ?_
    simp
    constructor
    · intro h
      have hk1 : k < x.length := by omega
      have hk2 : k < y.length := by omega
      refine HT.skip ?_
      simp
      refine HT.seq ?_
      refine HT.block ?_
      refine HT.seq ?_
      refine HT.draw [.batch [0, 1, 2, 3, 4, 5, 6, 7, 8]] (by kernel_rfl) ?_   -- R6
      simp [hk1, hk2, show (k : Int) < x.length by omega, show (k : Int) < y.length by omega]
      refine HT.cond' ?_
      simp
      constructor
      · intro h
        refine HT.seq ?_
        refine HT.region ?_   -- R7
        simp
        refine HT.ret ?_
        have : x ≠ y := fun e => h (by subst e; rfl)
        simp [this]
      · intro h
        refine HT.skip ?_
        simp
        refine HT.region ?_   -- R5
        simp
        refine ⟨k + 1, by omega, ⟨by omega, by rw [List.take_succ_eq_append_getElem hk1, List.take_succ_eq_append_getElem hk2, hg, h]⟩, HS.le_fits ?_⟩
        simp
        rw [wrap_i64] <;> omega
    · intro h
      refine HT.exit ?_
      simp
      refine HT.seq ?_
      refine HT.region ?_   -- R8
      simp
      refine HT.ret ?_
      have : x = y := by rw [List.take_of_length_le (by omega), List.take_of_length_le (by omega)] at hg; exact hg
      simp [this]
/-- The documents that move from a shards to b. -/
def movesV (l : List Doc) (a b : Int) : List Int := (l.filter fun d => !decide (ofV d.repo d.path a = ofV d.repo d.path b)).map (·.id)
theorem movesV_length (l : List Doc) (a b : Int) : (movesV l a b).length ≤ l.length := by
  unfold movesV; rw [List.length_map]; exact List.length_filter_le _ _
theorem movesV_succ {l : List Doc} {k : Nat} (h : k < l.length) (a b : Int) : movesV (l.take (k + 1)) a b = movesV (l.take k) a b ++ (if ofV l[k].repo l[k].path a = ofV l[k].repo l[k].path b then [] else [l[k].id]) := by
  rw [List.take_succ_eq_append_getElem h]
  unfold movesV
  rw [List.filter_append, List.map_append]
  congr 1
  by_cases e : ofV l[k].repo l[k].path a = ofV l[k].repo l[k].path b <;> simp [e]
def Short (l : List Doc) : Prop := ∀ d ∈ l, d.repo.length ≤ 1048576 ∧ d.path.length ≤ 1048576
theorem f20_spec (full : Bool) (l : List Doc) (a b : Int) (hl : l.length ≤ 1048576) (hs : Short l) (ha : a ≤ 400) (hb : b ≤ 400) : Spec1 Try.prog 20 [.sl 5 full (docsHV l), i64 a, i64 b] (.sl 1 false (intsHV (movesV l a b))) := by
  refine Spec1.of_HT Try.func20 rfl (by rw [Try.ntmps20]; simp) rfl ?_
  rw [Try.ntmps20]
  refine HT.seq ?_
  refine HT.region ?_   -- R0
  simp
  refine HT.seq ?_
  refine HT.region ?_   -- R1
  simp
  refine HT.seq ?_
  refine HT.seq ?_
  refine HT.region ?_   -- R2
  simp
  refine HT.block ?_
  refine HT.loop (fun k : {k : Nat // k ≤ l.length} => ⟨[.s 1 (i64 a), .s 2 (i64 b), .s 10 (.sl 5 full (docsHV l)), .s 11 (i64 l.length), .s 12 (i64 k), .s 7 (.ref 7), .o 7 (.row 3 1 (intsHV (movesV (l.take k) a b)))], 36⟩) (fun k => l.length - k) ⟨0, by omega⟩ (HS.le.trans (HS.le_own (t := 7) 7 3 1 _ (by decide) rfl (by decide)) (HS.le_fits ?_)) ?_
  · simp [movesV]
  rintro ⟨k, hk⟩
  refine HT.seq ?_
  refine HT.region ?_   -- R3
  simp
  refine HT.seq ?_
  refine HT.cond' ?_
  simp
  constructor
  · intro h
    have hk' : k < l.length := by omega
    have hsk := hs _ (List.getElem_mem hk')
    have b1 : ∀ N, 4000000 ≤ N → (movesV (l.take k) a b).length ≤ N := fun N h => by have := movesV_length (l.take k) a b; simp at this; omega
    have b2 : ∀ N, 4000000 ≤ N → (movesV (l.take k) a b).length + 1 ≤ N := fun N h => by have := movesV_length (l.take k) a b; simp at this; omega
    have b3 : ∀ N, 40000000 ≤ N → ((movesV (l.take k) a b).length + 1) * 8 ≤ N := fun N h => by have := movesV_length (l.take k) a b; simp at this; omega
    refine HT.skip ?_
    simp
    refine HT.seq ?_
    refine HT.block ?_
    refine HT.seq ?_
    refine HT.region ?_   -- R4
    simp [h, hk']
    refine HT.seq ?_
    refine HT.draw [.batch [0, 1, 2, 3, 4, 5, 6, 7, 8, 9, 10, 11, 12]] (by kernel_rfl) ?_   -- R5 calls [11, 11]
    simp
    refine stepK.mk (.call1 _ _ _ rfl Ty.hb11 rfl rfl (f11_spec _ _ _ hsk.1 hsk.2 ha)) ?_
    simp
    refine stepK.mk (.call1 _ _ _ rfl Ty.hb11 rfl rfl (f11_spec _ _ _ hsk.1 hsk.2 hb)) ?_
    simp
    refine HT.cond' ?_
    simp
    constructor
    · intro h
      refine HT.region ?_   -- R6
      simp [b1, b2, b3]
      refine HT.region ?_   -- R7
      simp
      refine ⟨k + 1, by omega, by omega, HS.le_fits ?_⟩
      rw [movesV_succ hk', if_neg h, intsHV_append, intsHV_cons]
      simp
      rw [wrap_i64] <;> omega
    · intro h
      refine HT.skip ?_
      simp
      refine HT.region ?_   -- R7
      simp
      refine ⟨k + 1, by omega, by omega, HS.le_fits ?_⟩
      rw [movesV_succ hk', if_pos h]
      simp
      rw [wrap_i64] <;> omega
  · intro h
    obtain rfl : k = l.length := by omega
    refine HT.exit ?_
    simp
    refine HT.seq ?_
    refine HT.region ?_   -- R8
    simp
    refine HT.ret ?_
    simp
theorem f21_spec (full : Bool) (l : List Doc) (a b : Int) (hl : l.length ≤ 1048576) (hs : Short l) (ha : a ≤ 400) (hb : b ≤ 400) : Spec1 Try.prog 21 [.sl 5 full (docsHV l), i64 a, i64 b] (.sl 1 false (intsHV (movesV l a b))) := by
  refine Spec1.of_HT Try.func21 rfl (by rw [Try.ntmps21]; simp) rfl ?_
  rw [Try.ntmps21]
  refine HT.seq ?_
  refine HT.region ?_   -- R0
  simp
  refine HT.seq ?_
  refine HT.region ?_   -- R1
  simp
  refine HT.seq ?_
  refine HT.seq ?_
  refine HT.region ?_   -- R2
  simp
  refine HT.block ?_
  refine HT.loop (fun k : {k : Nat // k ≤ l.length} => ⟨[.s 1 (i64 a), .s 2 (i64 b), .s 0 (.sl 5 full (docsHV l)), .s 8 (i64 k), .s 7 (.ref 7), .o 7 (.row 3 1 (intsHV (movesV (l.take k) a b)))], 49⟩) (fun k => l.length - k) ⟨0, by omega⟩ (HS.le.trans (HS.le_own (t := 7) 7 3 1 _ (by decide) rfl (by decide)) (HS.le_fits ?_)) ?_
  · simp [movesV]
  rintro ⟨k, hk⟩
  refine HT.seq ?_
  refine HT.seq ?_
  refine HT.region ?_   -- R3
  simp
  refine HT.cond' ?_
  simp
  constructor
  · intro h
    have hk' : k < l.length := by omega
    have hsk := hs _ (List.getElem_mem hk')
    have b1 : ∀ N, 4000000 ≤ N → (movesV (l.take k) a b).length ≤ N := fun N h => by have := movesV_length (l.take k) a b; simp at this; omega
    have b2 : ∀ N, 4000000 ≤ N → (movesV (l.take k) a b).length + 1 ≤ N := fun N h => by have := movesV_length (l.take k) a b; simp at this; omega
    have b3 : ∀ N, 40000000 ≤ N → ((movesV (l.take k) a b).length + 1) * 8 ≤ N := fun N h => by have := movesV_length (l.take k) a b; simp at this; omega
    refine HT.skip ?_
    simp
    refine HT.seq ?_
    refine HT.block ?_
    refine HT.seq ?_
    refine HT.draw [.batch [0, 1, 2, 3, 4, 5, 6, 7, 8, 9, 10, 11, 12, 13, 14, 15, 16, 17, 18, 19, 20, 21, 22, 23, 24]] (by kernel_rfl) ?_   -- R5 calls [12, 12]
    simp [h, hk']
    refine stepK.mk (.call1 _ _ _ rfl Ty.hb12 rfl rfl (f12_spec _ _ _ hsk.1 hsk.2 ha)) ?_
    simp [h, hk']
    refine stepK.mk (.call1 _ _ _ rfl Ty.hb12 rfl rfl (f12_spec _ _ _ hsk.1 hsk.2 hb)) ?_
    simp
    refine HT.cond' ?_
    simp
    constructor
    · intro hne
      refine HT.region ?_   -- R6
      simp [b1, b2, b3, h, hk']
      refine HT.region ?_   -- R4
      simp
      refine ⟨k + 1, by omega, by omega, HS.le_fits ?_⟩
      rw [movesV_succ hk', if_neg hne, intsHV_append, intsHV_cons]
      simp
      rw [wrap_i64] <;> omega
    · intro heq
      refine HT.skip ?_
      simp
      refine HT.region ?_   -- R4
      simp
      refine ⟨k + 1, by omega, by omega, HS.le_fits ?_⟩
      rw [movesV_succ hk', if_pos heq]
      simp
      rw [wrap_i64] <;> omega
  · intro h
    obtain rfl : k = l.length := by omega
    refine HT.exit ?_
    simp
    refine HT.seq ?_
    refine HT.region ?_   -- R7
    simp
    refine HT.ret ?_
    simp
theorem f7_spec (full : Bool) (l : List Doc) (a b : Int) (hl : l.length ≤ 1048576) (hs : Short l) : Spec1 Try.prog 7 [.sl 5 full (docsHV l), i64 a, i64 b] (bo true) := by
  refine Spec1.of_HT Try.func7 rfl (by rw [Try.ntmps7]; simp) rfl ?_
  rw [Try.ntmps7]
  refine HT.seq ?_
  refine HT.region ?_   -- R0
  simp
  refine HT.seq ?_
  refine HT.seq ?_
  refine HT.region ?_   -- R1 calls [8]
  simp
  refine stepK.mk (.call1 _ _ _ _ rfl Ty.hb8 rfl (f8_spec) rfl rfl) ?_
  simp
  refine HT.cond' ?_
  simp
  refine HT.skip ?_
  simp
  refine HT.seq ?_
  refine HT.region ?_   -- R3 calls [20, 21, 19]
  by_cases h1 : 80 < (l.length : Int)
  · simp [h1]
    refine HT.ret ?_
    simp
  by_cases h2 : 300 < a
  · simp [h1, h2]
    refine HT.ret ?_
    simp
  by_cases h3 : 300 < b
  · simp [h1, h2, h3]
    refine HT.ret ?_
    simp
  simp [h1, h2, h3]
  refine stepK.mk (.call1f _ _ _ _ _ rfl Ty.hb20 rfl rfl (f20_spec full l a b hl hs (by omega) (by omega)) rfl) ?_
  simp
  refine stepK.mk (.call1f _ _ _ _ _ rfl Ty.hb21 rfl rfl (f21_spec full l a b hl hs (by omega) (by omega)) rfl) ?_
  simp
  refine stepK.mk (.call1 _ _ _ _ rfl Ty.hb19 rfl (f19_spec _ _ _ _ (by have := movesV_length l a b; omega)) rfl rfl) ?_
  simp
  refine HT.ret ?_
  simp
end Go.Hv
set_option linter.unusedVariables false
set_option linter.unusedSimpArgs false
namespace Go.Hv
open Go Go.Hv
/-! ### Documents that are handed in -/
@[reducible] def strSh : ShT := .str
@[reducible] def strsSh : ShT := .sl 1 .str
@[reducible] def docSh : ShT := .st [.int .i64, .str, .str, .str, .sl 1 .str]
@[reducible] def docsSh : ShT := .sl 5 docSh
theorem map_choice {α β : Type} {f : β → α} {p : β → Prop} : ∀ {es : List α}, (∀ x ∈ es, ∃ d, x = f d ∧ p d) → ∃ l : List β, es = l.map f ∧ ∀ d ∈ l, p d
  | [], _ => ⟨[], rfl, by simp⟩
  | x :: r, h => by
    obtain ⟨d, rfl, hd⟩ := h x (by simp)
    obtain ⟨l, rfl, hl⟩ := map_choice (es := r) (f := f) (p := p) (fun y hy => h y (by simp [hy]))
    exact ⟨d :: l, rfl, fun y hy => by rcases List.mem_cons.1 hy with rfl | hy; exact hd; exact hl y hy⟩
theorem rd_str {B : Nat} {x : List HV} (h : Rd B .str x) : ∃ s, x = [.str s] ∧ s.length ≤ B := by
  cases h with | str l hl => exact ⟨l, rfl, hl⟩
theorem rd_int {B : Nat} {k : IntKind} {x : List HV} (h : Rd B (.int k) x) : ∃ n, x = [.lit (.int k n)] ∧ (Lit.int k n).wf = true := by
  cases h with | int k n hw => exact ⟨n, rfl, hw⟩
theorem rd_strs {B : Nat} {x : List HV} (h : Rd B strsSh x) : ∃ sz full on, x = [.sl sz full (strsHV on)] ∧ on.length ≤ B ∧ (on ≠ [] → sz = 1) ∧ ∀ s ∈ on, s.length ≤ B := by
  cases h with
  | nil => exact ⟨0, true, [], rfl, Nat.zero_le _, by simp, by simp⟩
  | sl sz e es hl hz h =>
    obtain ⟨on, rfl, hon⟩ := map_choice (f := fun s => [HV.str s]) (p := fun s => s.length ≤ B) (fun x hx => rd_str (h x hx))
    exact ⟨1, false, on, rfl, by simpa using hl, fun _ => rfl, hon⟩
def DocB (B : Nat) (d : Doc) : Prop := d.repo.length ≤ B ∧ d.path.length ≤ B ∧ d.text.length ≤ B ∧ d.on.length ≤ B ∧ (∀ s ∈ d.on, s.length ≤ B) ∧ (Lit.int .i64 d.id).wf = true ∧ (d.on ≠ [] → d.osz = 1)
theorem rd_doc {B : Nat} {x : List HV} (h : Rd B docSh x) : ∃ d : Doc, x = d.enc ∧ DocB B d := by
  cases h with
  | st fs hs h =>
    cases h with
    | cons h1 h =>
    cases h with
    | cons h2 h =>
    cases h with
    | cons h3 h =>
    cases h with
    | cons h4 h =>
    cases h with
    | cons h5 h =>
    cases h
    obtain ⟨n, rfl, hn⟩ := rd_int h1
    obtain ⟨r, rfl, hr⟩ := rd_str h2
    obtain ⟨p, rfl, hp⟩ := rd_str h3
    obtain ⟨t, rfl, ht⟩ := rd_str h4
    obtain ⟨sz, full, on, rfl, ho, hsz, hos⟩ := rd_strs h5
    exact ⟨⟨n, r, p, t, on, sz, full⟩, rfl, hr, hp, ht, ho, hos, hn, hsz⟩
theorem rd_docs {B : Nat} {x : List HV} (h : Rd B docsSh x) : ∃ (c : HV) (full : Bool) (l : List Doc), x = [c] ∧ HLe c (.sl 5 full (docsHV l)) ∧ l.length ≤ B ∧ ∀ d ∈ l, DocB B d := by
  cases h with
  | nil => exact ⟨_, true, [], rfl, HLe.nil 0 5 true, Nat.zero_le _, by simp⟩
  | sl sz e es hl hz h =>
    obtain ⟨l, rfl, hb⟩ := map_choice (f := Doc.enc) (p := DocB B) (fun x hx => rd_doc (h x hx))
    exact ⟨_, false, l, rfl, HLe.refl _, by simpa using hl, hb⟩
theorem reps_one {w : World} {dead : Nat → Prop} {c : HV} {v : Value} (h : Reps w dead [c] [v]) : IRep w dead c v := by
  cases h with | cons h1 _ => exact h1
/-- What a slice of documents tells. -/
theorem docs_of_trod {H : Type} {enc : TypeId × Value → H} {P : Program} {w : World} {sp : Nat → Bool} {held : Bool} {t : TypeId} {a : Option Addr} {n c : Nat} {d : DataW H} {ps : List MemPlace} {B : Nat} (hk : shOK P docsSh t = true)
    (h : DataW.Trod enc P w 0 sp held t (.slice a n c) d ps) (hB : bulkD d ≤ B) : ∃ (full : Bool) (l : List Doc), IRep w (fun _ => False) (.sl 5 full (docsHV l)) (.slice a n c) ∧ l.length ≤ B ∧ ∀ d ∈ l, DocB B d := by
  obtain ⟨hs, h1, h2⟩ := arg_of_trod docsSh hk h hB
  obtain ⟨x, full, l, rfl, hle, hl, hb⟩ := rd_docs h1
  exact ⟨full, l, hle _ _ _ (reps_one h2), hl, hb⟩
end Go.Hv
set_option linter.unusedVariables false
set_option linter.unusedSimpArgs false
namespace Go.Hv
open Go Go.Hv Go.Proofs
open Go.Proofs.Ytmpgljmmjipioaa
theorem docsHV_append (a b : List Doc) : docsHV (a ++ b) = docsHV a ++ docsHV b := by simp [docsHV]
theorem docsHV_cons (a : Doc) (b : List Doc) : docsHV (a :: b) = a.enc :: docsHV b := rfl
@[simp] theorem docsHV_nil : docsHV [] = [] := rfl
theorem refs1_get {B n k : Nat} (h : k < n) : (refs B 1 n)[k]? = some [.ref (B + k)] := by
  unfold refs; rw [List.getElem?_map, List.getElem?_range h]; simp
@[simp] theorem refs1_getElem {B n k : Nat} (h : k < (refs B 1 n).length) : (refs B 1 n)[k] = [.ref (B + k)] := by simp [refs]
theorem refs1_sub {B n k : Nat} (h : k < n) : subLL (B + k) .any .any (refs B 1 n) = (refs B 1 n).set k [.any] := by
  rw [subLL_refs (by omega) (by decide)]
  have : (refs B 1 n).getD k [] = [.ref (B + k)] := by rw [List.getD_eq_getElem?_getD, refs1_get h]; rfl
  simp only [Nat.div_one, Nat.mod_one, this]
  rfl
theorem refs1_back {B n k : Nat} (h : k < n) : (refs B 1 n).set k [.ref (B + k)] = refs B 1 n := by
  apply List.ext_getElem?
  intro i
  rw [List.getElem?_set]
  split
  · next e => subst e; rw [if_pos (by simpa using h), refs1_get h]
  · rfl
/-- The documents of a shard. -/
def partV (l : List Doc) (n : Int) (i : Nat) : List Doc := l.filter fun d => decide (ofV d.repo d.path n = (i : Int))
theorem partV_succ {l : List Doc} {k : Nat} (h : k < l.length) (n : Int) (i : Nat) : partV (l.take (k + 1)) n i = partV (l.take k) n i ++ (if ofV l[k].repo l[k].path n = (i : Int) then [l[k]] else []) := by
  rw [List.take_succ_eq_append_getElem h]
  unfold partV
  rw [List.filter_append]
  congr 1
  by_cases e : ofV l[k].repo l[k].path n = (i : Int) <;> simp [e]
theorem partV_length (l : List Doc) (n : Int) (i : Nat) : (partV l n i).length ≤ l.length := List.length_filter_le _ _
theorem ofV_range (r p : List UInt8) {n : Nat} (h : 1 ≤ n) : ∃ k : Nat, ofV r p n = (k : Int) ∧ k < n := by
  obtain ⟨h1, h2, _⟩ := ofV_next r p (n := n) (by omega)
  exact ⟨(ofV r p n).toNat, by omega, by omega⟩
def spreadH (l : List Doc) (n : Nat) : HV := .sl 1 false (frzs 1 n fun i => (5, docsHV (partV l n i)))
theorem f13_spec (full : Bool) (l : List Doc) (n : Nat) (hl : l.length ≤ 1048576) (hs : Short l) (h1 : 1 ≤ n) (h4 : n ≤ 4) : Spec1 Try.prog 13 [.sl 5 full (docsHV l), i64 n] (spreadH l n) := by
  refine Spec1.of_HT Try.func13 rfl (by rw [Try.ntmps13]; simp) rfl ?_
  rw [Try.ntmps13]
  refine HT.seq ?_
  refine HT.region ?_   -- R0
  simp
  refine HT.seq ?_
  refine HT.seq ?_
  refine HT.region ?_   -- R1
  simp [show ¬ (n : Int) < 1 by omega, show ¬ 4 < (n : Int) by omega]
  refine HT.cond' ?_
  simp
  refine HT.skip ?_
  simp
  refine HT.seq ?_
  refine HT.region ?_   -- R3
  simp [show 24 * (n : Int) ≤ 281474976710656 by omega, show (n : Int) ≤ 9223372036854775807 by omega]
  refine HT.seq ?_
  refine HT.seq ?_
  refine HT.region ?_   -- R4
  simp
  refine HT.block ?_
  refine HT.loop (fun k : {k : Nat // k ≤ l.length} => ⟨[.s 1 (i64 n), .s 5 (.ref 16), .s 17 (.sl 5 full (docsHV l)), .s 18 (i64 l.length), .s 19 (i64 k), .o 16 (.row 27 1 (refs 1000 1 n)),
      .os (fam 1000 n fun i => .row 48 5 (docsHV (partV (l.take k) n i)))], 41⟩) (fun k => l.length - k) ⟨0, by omega⟩
    (HS.le.trans (HS.le_fits (M := [.s 1 (i64 n), .s 5 (.ref 16), .s 17 (.sl 5 full (docsHV l)), .s 18 (i64 l.length), .s 19 (i64 0), .o 16 (.row 27 1 (List.replicate n [.sl 0 true []]))]) ?_)
      (HS.le.trans (HS.le_rows (id := 16) (e := 27) (sz := 1) (es := List.replicate n [.sl 0 true []]) 1000 (fun _ => (48, 5)) ?_ ?_ ?_ (fun _ => by decide)) (HS.le_fits ?_))) ?_
  · simp
  · simp [evB, lowR, belowO, lowRL]
  · simp
  · intro x hx c hc
    obtain ⟨_, rfl⟩ := List.mem_replicate.1 hx
    simp at hc
    exact ⟨0, hc⟩
  · simp [partV]
    intro id o h
    simp only [fam, Option.ite_none_right_eq_some, Option.some.injEq] at h
    obtain ⟨h, rfl⟩ := h
    simp [fam, h, show ¬ 16 = id by omega]
  rintro ⟨k, hk⟩
  refine HT.seq ?_
  refine HT.region ?_   -- R5
  simp
  refine HT.seq ?_
  refine HT.cond' ?_
  simp
  constructor
  · intro h
    have hk' : k < l.length := by omega
    have hsk := hs _ (List.getElem_mem hk')
    obtain ⟨q, hq, hqn⟩ := ofV_range l[k].repo l[k].path h1
    have b1 : ∀ N, 4000000 ≤ N → (partV (l.take k) n q).length ≤ N := fun N h => by have := partV_length (l.take k) n q; simp at this; omega
    have b2 : ∀ N, 4000000 ≤ N → (partV (l.take k) n q).length + 1 ≤ N := fun N h => by have := partV_length (l.take k) n q; simp at this; omega
    have b3 : ∀ N, 400000000 ≤ N → ((partV (l.take k) n q).length + 1) * 80 ≤ N := fun N h => by have := partV_length (l.take k) n q; simp at this; omega
    refine HT.skip ?_
    simp
    refine HT.seq ?_
    refine HT.block ?_
    refine HT.seq ?_
    refine HT.region ?_   -- R6
    simp [h, hk']
    refine HT.seq ?_
    refine HT.region ?_   -- R7 calls [11]
    simp
    refine stepK.mk (.call1 _ _ _ _ rfl Ty.hb11 rfl (f11_spec _ _ n hsk.1 hsk.2 (by omega)) rfl rfl) ?_
    simp [hq]
    refine HT.draw [.take 0, .take 1, .take 2, .take 3, .batch [4, 5, 6, 7], .one 8, .batch [9], .one 10] (by kernel_rfl) ?_   -- R8
    simp [hqn, Nat.mod_one, refs1_get hqn, refs1_sub hqn, refs1_back hqn, show (q : Int) < (n : Int) by omega, fam, b1, b2, b3, show ∀ m, m < 1000 → ¬ m = 1000 + q by intro m h; omega, show ∀ m, m < 1000 → ¬ 1000 + q = m by intro m h; omega]
    refine HT.region ?_   -- R9
    simp
    refine ⟨k + 1, by omega, by omega, HS.le_fits ?_⟩
    simp [show ∀ m, m < 1000 → ¬ 1000 + q = m by intro m h; omega, show ∀ m, m < 1000 → ¬ m = 1000 + q by intro m h; omega, refs1_sub hqn, refs1_back hqn]
    refine ⟨?_, fun id o h => ?_⟩
    · rw [wrap_i64] <;> omega
    · simp only [fam, Option.ite_none_right_eq_some, Option.some.injEq] at h
      obtain ⟨h, rfl⟩ := h
      obtain ⟨m, rfl⟩ : ∃ m, id = 1000 + m := ⟨id - 1000, by omega⟩
      rw [partV_succ hk']
      by_cases e : q = m
      · subst e
        simp [hq, docsHV_append, docsHV_cons]
        omega
      · have e2 : ¬ (q : Int) = (m : Int) := by omega
        simp [hq, e, e2, fam, show ∀ p, p < 1000 → ¬ p = 1000 + m by intro m h; omega, show ∀ p, p < 1000 → ¬ 1000 + m = p by intro m h; omega, show m < n by omega]
  · intro h
    obtain rfl : k = l.length := by omega
    refine HT.exit ?_
    simp
    refine HT.weaken (HS.le.trans (HS.le_frz (id := 16) (e := 27) (sz := 1) (m := n) 1000 (fun i => (5, docsHV (partV l n i))) ?_ (by decide) ?_) (HS.le_fits (M := [.s 5 (.ref 16), .o 16 (.row 27 1 (frzs 1 n fun i => (5, docsHV (partV l n i))))]) ?_)) ?_
    · simp
    · intro k hk
      refine ⟨48, ?_, by simp⟩
      simp [fam, show ¬ 16 = 1000 + k by omega, show k < n by omega]
    · simp
    refine HT.seq ?_
    refine HT.region ?_   -- R10
    simp
    refine HT.ret ?_
    simp [spreadH]
end Go.Hv
set_option linter.unusedVariables false
set_option linter.unusedSimpArgs false
namespace Go.Hv
open Go Go.Hv Go.Proofs
open Go.Proofs.Ytmpgljmmjipioaa
@[simp] theorem strsHV_length (l : List (List UInt8)) : (strsHV l).length = l.length := by simp [strsHV]
@[simp] theorem strsHV_getElem (l : List (List UInt8)) (k : Nat) (h : k < (strsHV l).length) : (strsHV l)[k] = [.str (l[k]'(by simpa using h))] := by simp [strsHV]
@[simp] theorem ak55 : aggKey Try.prog 55 = true := by kernel_rfl
theorem cells9 : Try.prog.cellsOf 9 = 1 := by kernel_rfl
theorem cells55 : Try.prog.cellsOf 55 = 3 := by kernel_rfl
theorem key55 {a b c : List UInt8} (ha : a.length ≤ 1048576) (hb : b.length ≤ 1048576) (hc : c.length ≤ 1048576) : keyH Try.prog 10 55 [.str a, .str b, .str c] = some [.string a, .string b, .string c] := by
  have h : ∀ x : List UInt8, x.length ≤ 1048576 → x.length ≤ maxLen := fun x hx => by unfold maxLen; omega
  simp [keyH, Try.underlying55, Try.underlying9, cells9, cells55, h a ha, h b hb, h c hc, List.mapM_cons]
theorem aggEq55 {a b c a' b' c' : List UInt8} (ha : a.length ≤ 1048576) (hb : b.length ≤ 1048576) (hc : c.length ≤ 1048576) (ha' : a'.length ≤ 1048576) (hb' : b'.length ≤ 1048576) (hc' : c'.length ≤ 1048576) :
    aggEq Try.prog 55 [.str a, .str b, .str c] [.str a', .str b', .str c'] = some (decide (a = a' ∧ b = b' ∧ c = c')) := by
  unfold aggEq
  rw [if_pos ak55, key55 ha hb hc, key55 ha' hb' hc']
  simp
theorem f30_spec (d : Doc) : Spec1 Try.prog 30 [.agg d.enc] (.agg [.str d.repo, .str d.path, .str d.text]) := by
  refine Spec1.of_HT Try.func30 rfl (by rw [Try.ntmps30]; simp) rfl ?_
  rw [Try.ntmps30]
  refine HT.seq ?_
  refine HT.region ?_   -- R0
  simp
  refine HT.seq ?_
  refine HT.region ?_   -- R1
  simp
  refine HT.ret ?_
  simp
theorem f31_spec (sa sb : Nat) (fa fb : Bool) (x y : List (List UInt8)) (hx : x.length < 2 ^ 40) (h1 : x ≠ [] → sa = 1) (h2 : y ≠ [] → sb = 1) : Spec1 Try.prog 31 [.sl sa fa (strsHV x), .sl sb fb (strsHV y)] (bo (decide (x = y))) := by
  refine Spec1.of_HT Try.func31 rfl (by rw [Try.ntmps31]; simp) rfl ?_
  rw [Try.ntmps31]
  refine HT.seq ?_
  refine HT.region ?_   -- R0
  simp
  refine HT.seq ?_
  refine HT.seq ?_
  refine HT.region ?_   -- R1
  simp
  refine HT.cond' ?_
  simp
  constructor
  · intro h
    refine HT.seq ?_
    refine HT.region ?_   -- R2
    simp
    refine HT.ret ?_
    have : x ≠ y := fun e => h (by rw [e])
    simp [this]
  · intro h
    refine HT.skip ?_
    simp
    refine HT.seq ?_
    refine HT.seq ?_
    refine HT.region ?_   -- R3
    simp
    refine HT.block ?_
    refine HT.loop (fun k : {k : Nat // k ≤ x.length ∧ x.take k = y.take k} => ⟨[.s 0 (.sl sa fa (strsHV x)), .s 1 (.sl sb fb (strsHV y)), .s 5 (i64 k)], 26⟩) (fun k => x.length - k) ⟨0, by simp⟩ (HS.le_fits ?_) ?_
    · simp
    rintro ⟨k, hk, hg⟩
    refine HT.seq ?_
    refine HT.seq ?_
    refine HT.region ?_   -- R4
    simp
    refine HT.cond' ?_
    simp
    constructor
    · intro h
      have hk1 : k < x.length := by omega
      have hk2 : k < y.length := by omega
      obtain rfl := h1 (fun e => by subst e; simp at hk1)
      obtain rfl := h2 (fun e => by subst e; simp at hk2)
      refine HT.skip ?_
      simp
      refine HT.seq ?_
      refine HT.block ?_
      refine HT.seq ?_
      refine HT.draw [.batch [0, 1, 2, 3, 4, 5, 6, 7, 8]] (by kernel_rfl) ?_   -- R6
      simp [hk1, hk2, show (k : Int) < x.length by omega, show (k : Int) < y.length by omega]
      refine HT.cond' ?_
      simp
      constructor
      · intro h
        refine HT.seq ?_
        refine HT.region ?_   -- R7
        simp
        refine HT.ret ?_
        have : x ≠ y := fun e => h (by subst e; rfl)
        simp [this]
      · intro h
        refine HT.skip ?_
        simp
        refine HT.region ?_   -- R5
        simp
        refine ⟨k + 1, by omega, ⟨by omega, by rw [List.take_succ_eq_append_getElem hk1, List.take_succ_eq_append_getElem hk2, hg, h]⟩, HS.le_fits ?_⟩
        simp
        rw [wrap_i64] <;> omega
    · intro h
      refine HT.exit ?_
      simp
      refine HT.seq ?_
      refine HT.region ?_   -- R8
      simp
      refine HT.ret ?_
      have : x = y := by rw [List.take_of_length_le (by omega), List.take_of_length_le (by omega)] at hg; exact hg
      simp [this]
end Go.Hv
set_option linter.unusedVariables false
set_option linter.unusedSimpArgs false
namespace Go.Hv
open Go Go.Hv Go.Proofs
open Go.Proofs.Ytmpgljmmjipioaa
def DocK (d : Doc) : Prop := d.repo.length ≤ 1048576 ∧ d.path.length ≤ 1048576 ∧ d.text.length ≤ 1048576 ∧ d.on.length < 2 ^ 40 ∧ (d.on ≠ [] → d.osz = 1)
def sameD (d e : Doc) : Bool := decide (d.id = e.id) && (decide (d.repo = e.repo ∧ d.path = e.path ∧ d.text = e.text) && decide (d.on = e.on))
theorem sameD_refl (d : Doc) : sameD d d = true := by simp [sameD]
theorem f24_spec (d e : Doc) (hd : DocK d) (he : DocK e) : Spec1 Try.prog 24 [.agg d.enc, .agg e.enc] (bo (sameD d e)) := by
  refine Spec1.of_HT Try.func24 rfl (by rw [Try.ntmps24]; simp) rfl ?_
  rw [Try.ntmps24]
  obtain ⟨d1, d2, d3, d4, d5⟩ := hd
  obtain ⟨e1, e2, e3, e4, e5⟩ := he
  refine HT.seq ?_
  refine HT.region ?_   -- R0
  simp
  refine HT.seq ?_
  refine HT.draw [.batch [0, 1, 2, 3, 4, 5, 6, 7, 8, 9, 10, 11, 12, 13, 14, 15, 16, 17, 18, 19]] (by kernel_rfl) ?_   -- R1 calls [30, 30, 31]
  by_cases h1 : d.id = e.id
  · simp [h1]
    refine stepK.mk (.call1 _ _ _ rfl Ty.hb30 rfl rfl (f30_spec { d with id := e.id })) ?_
    simp
    refine stepK.mk (.call1 _ _ _ rfl Ty.hb30 rfl rfl (f30_spec e)) ?_
    by_cases h2 : d.repo = e.repo ∧ d.path = e.path ∧ d.text = e.text
    · simp [aggEq55 e1 e2 e3 e1 e2 e3, h2]
      refine stepK.mk (.call1 _ _ _ rfl Ty.hb31 rfl rfl (f31_spec _ _ _ _ d.on e.on d4 d5 e5)) ?_
      simp
      refine HT.ret ?_
      simp [sameD, h1, h2]
    · simp [aggEq55 d1 d2 d3 e1 e2 e3, h2]
      refine HT.ret ?_
      simp [sameD, h1, h2]
  · simp [h1]
    refine HT.ret ?_
    simp [sameD, h1]
def sameL (x y : List Doc) : Bool := decide (x.length = y.length) && (List.range x.length).all fun k => match x[k]?, y[k]? with
  | some d, some e => sameD d e
  | _, _ => false
theorem sameL_refl (x : List Doc) : sameL x x = true := by
  simp only [sameL, decide_true, Bool.true_and, List.all_eq_true, List.mem_range]
  intro k hk
  simp [hk, sameD_refl]
theorem f15_spec (fa fb : Bool) (x y : List Doc) (hx : x.length < 2 ^ 40) (kx : ∀ d ∈ x, DocK d) (ky : ∀ d ∈ y, DocK d) : Spec1 Try.prog 15 [.sl 5 fa (docsHV x), .sl 5 fb (docsHV y)] (bo (sameL x y)) := by
  refine Spec1.of_HT Try.func15 rfl (by rw [Try.ntmps15]; simp) rfl ?_
  rw [Try.ntmps15]
  refine HT.seq ?_
  refine HT.region ?_   -- R0
  simp
  refine HT.seq ?_
  refine HT.seq ?_
  refine HT.region ?_   -- R1
  simp
  refine HT.cond' ?_
  simp
  constructor
  · intro h
    refine HT.seq ?_
    refine HT.region ?_   -- R2
    simp
    refine HT.ret ?_
    have hxy : ¬ x.length = y.length := by omega
    simp [sameL, hxy]
  · intro h
    refine HT.skip ?_
    simp
    refine HT.seq ?_
    refine HT.seq ?_
    refine HT.region ?_   -- R3
    simp
    refine HT.block ?_
    refine HT.loop (fun k : {k : Nat // k ≤ x.length ∧ ∀ j, j < k → (match x[j]?, y[j]? with | some d, some e => sameD d e | _, _ => false) = true} => ⟨[.s 0 (.sl 5 fa (docsHV x)), .s 1 (.sl 5 fb (docsHV y)), .s 5 (i64 k)], 27⟩) (fun k => x.length - k) ⟨0, by omega, by omega⟩ (HS.le_fits ?_) ?_
    · simp
    rintro ⟨k, hk, hg⟩
    refine HT.seq ?_
    refine HT.seq ?_
    refine HT.region ?_   -- R4
    simp
    refine HT.cond' ?_
    simp
    constructor
    · intro h
      have hk1 : k < x.length := by omega
      have hk2 : k < y.length := by omega
      refine HT.skip ?_
      simp
      refine HT.seq ?_
      refine HT.block ?_
      refine HT.seq ?_
      refine HT.draw [.batch [0, 1, 2, 3, 4, 5, 6, 7, 8, 9]] (by kernel_rfl) ?_   -- R6 calls [24]
      simp [hk1, hk2, show (k : Int) < x.length by omega, show (k : Int) < y.length by omega]
      refine stepK.mk (.call1 _ _ _ rfl Ty.hb24 rfl rfl (f24_spec x[k] y[k] (kx _ (List.getElem_mem hk1)) (ky _ (List.getElem_mem hk2)))) ?_
      simp
      refine HT.cond' ?_
      simp
      constructor
      · intro h
        refine HT.seq ?_
        refine HT.region ?_   -- R7
        simp
        refine HT.ret ?_
        have : sameL x y = false := by
          simp only [sameL, Bool.and_eq_false_iff, List.all_eq_false, List.mem_range]
          exact .inr ⟨k, hk1, by simp [hk1, hk2, h]⟩
        simp [this]
      · intro h
        refine HT.skip ?_
        simp
        refine HT.region ?_   -- R5
        simp
        refine ⟨k + 1, by omega, ⟨by omega, fun j hj => ?_⟩, HS.le_fits ?_⟩
        · rcases Nat.lt_or_ge j k with h' | h'
          · exact hg j h'
          · obtain rfl : j = k := by omega
            simp [hk1, hk2, h]
        simp
        rw [wrap_i64] <;> omega
    · intro h'
      refine HT.exit ?_
      simp
      refine HT.seq ?_
      refine HT.region ?_   -- R8
      simp
      refine HT.ret ?_
      have : sameL x y = true := by
        simp only [sameL, Bool.and_eq_true, decide_eq_true_eq, List.all_eq_true, List.mem_range]
        exact ⟨by omega, fun j hj => hg j (by omega)⟩
      simp [this]
end Go.Hv
set_option linter.unusedVariables false
set_option linter.unusedSimpArgs false
namespace Go.Hv
open Go Go.Hv Go.Proofs
open Go.Proofs.Ytmpgljmmjipioaa
def partsH (l : List Doc) (n : Int) (i : Nat) : List (List HV) := (List.range i).map fun k => [.sl 5 false (docsHV (partV l n k))]
theorem partsH_succ (l : List Doc) (n : Int) (i : Nat) : partsH l n (i + 1) = partsH l n i ++ [[.sl 5 false (docsHV (partV l n i))]] := by
  unfold partsH; rw [List.range_succ, List.map_append]; rfl
@[simp] theorem partsH_length (l : List Doc) (n : Int) (i : Nat) : (partsH l n i).length = i := by simp [partsH]
@[simp] theorem isILL_partsH (l : List Doc) (n : Int) (i : Nat) : isILL (partsH l n i) = true := by simp [isILL, partsH, isIL, isI]
theorem frzs_parts (l : List Doc) (n : Int) (m : Nat) : (frzs 1 m fun i => (5, docsHV (partV l n i))) = partsH l n m := by
  unfold frzs partsH; simp
theorem f13_range (full : Bool) (l : List Doc) (n : Int) (h : n < 1 ∨ 4 < n) : Spec1 Try.prog 13 [.sl 5 full (docsHV l), i64 n] (.sl 0 true []) := by
  refine Spec1.of_HT Try.func13 rfl (by rw [Try.ntmps13]; simp) rfl ?_
  rw [Try.ntmps13]
  refine HT.seq ?_
  refine HT.region ?_   -- R0
  simp
  refine HT.seq ?_
  refine HT.seq ?_
  refine HT.region ?_   -- R1
  by_cases h1 : n < 1
  · simp [h1]
    refine HT.cond' ?_
    simp
    refine HT.seq ?_
    refine HT.region ?_
    simp
    refine HT.ret ?_
    simp
  · have h2 : 4 < n := by omega
    simp [h1, h2]
    refine HT.cond' ?_
    simp
    refine HT.seq ?_
    refine HT.region ?_
    simp
    refine HT.ret ?_
    simp
theorem f14_range (full : Bool) (l : List Doc) (n : Int) (h : n < 1 ∨ 4 < n) : Spec1 Try.prog 14 [.sl 5 full (docsHV l), i64 n] (.sl 0 true []) := by
  refine Spec1.of_HT Try.func14 rfl (by rw [Try.ntmps14]; simp) rfl ?_
  rw [Try.ntmps14]
  refine HT.seq ?_
  refine HT.region ?_   -- R0
  simp
  refine HT.seq ?_
  refine HT.seq ?_
  refine HT.region ?_   -- R1
  by_cases h1 : n < 1
  · simp [h1]
    refine HT.cond' ?_
    simp
    refine HT.seq ?_
    refine HT.region ?_
    simp
    refine HT.ret ?_
    simp
  · have h2 : 4 < n := by omega
    simp [h1, h2]
    refine HT.cond' ?_
    simp
    refine HT.seq ?_
    refine HT.region ?_
    simp
    refine HT.ret ?_
    simp
theorem f14_spec (full : Bool) (l : List Doc) (n : Nat) (hl : l.length ≤ 1048576) (hs : Short l) (h1 : 1 ≤ n) (h4 : n ≤ 4) : Spec1 Try.prog 14 [.sl 5 full (docsHV l), i64 n] (.sl 1 false (partsH l n n)) := by
  refine Spec1.of_HT Try.func14 rfl (by rw [Try.ntmps14]; simp) rfl ?_
  rw [Try.ntmps14]
  refine HT.seq ?_
  refine HT.region ?_   -- R0
  simp
  refine HT.seq ?_
  refine HT.seq ?_
  refine HT.region ?_   -- R1
  simp [show ¬ (n : Int) < 1 by omega, show ¬ 4 < (n : Int) by omega]
  refine HT.cond' ?_
  simp
  refine HT.skip ?_
  simp
  refine HT.seq ?_
  refine HT.region ?_   -- R3
  simp
  refine HT.seq ?_
  refine HT.seq ?_
  refine HT.region ?_   -- R4
  simp
  refine HT.block ?_
  refine HT.loop (fun i : {i : Nat // i ≤ n} => ⟨[.s 0 (.sl 5 full (docsHV l)), .s 1 (i64 n), .s 5 (.ref 5), .s 6 (i64 i), .o 5 (.row 27 1 (partsH l n i))], 52⟩) (fun i => n - i) ⟨0, by omega⟩ (HS.le.trans (HS.le_own (t := 5) 5 27 1 _ (by decide) rfl (by decide)) (HS.le_fits ?_)) ?_
  · simp [partsH]
  rintro ⟨i, hi⟩
  refine HT.seq ?_
  refine HT.seq ?_
  refine HT.region ?_   -- R5
  simp
  refine HT.cond' ?_
  simp
  constructor
  · intro hin
    refine HT.skip ?_
    simp
    refine HT.seq ?_
    refine HT.block ?_
    refine HT.seq ?_
    refine HT.region ?_   -- R7
    simp
    refine HT.seq ?_
    refine HT.seq ?_
    refine HT.region ?_   -- R8
    simp
    refine HT.block ?_
    refine HT.loop (fun k : {k : Nat // k ≤ l.length} => ⟨[.s 0 (.sl 5 full (docsHV l)), .s 1 (i64 n), .s 5 (.ref 5), .s 6 (i64 i), .o 5 (.row 27 1 (partsH l n i)), .s 7 (.ref 7), .o 7 (.row 48 5 (docsHV (partV (l.take k) n i))), .s 8 (i64 k)], 52⟩) (fun k => l.length - k) ⟨0, by omega⟩ (HS.le.trans (HS.le_own (t := 7) 7 48 5 _ (by decide) rfl (by decide)) (HS.le_fits ?_)) ?_
    · simp [partV]
    rintro ⟨k, hk⟩
    refine HT.seq ?_
    refine HT.seq ?_
    refine HT.region ?_   -- R9
    simp
    refine HT.cond' ?_
    simp
    constructor
    · intro h
      have hk' : k < l.length := by omega
      have hsk := hs _ (List.getElem_mem hk')
      have b1 : ∀ N, 4000000 ≤ N → (partV (l.take k) n i).length ≤ N := fun N h => by have := partV_length (l.take k) n i; simp at this; omega
      have b2 : ∀ N, 4000000 ≤ N → (partV (l.take k) n i).length + 1 ≤ N := fun N h => by have := partV_length (l.take k) n i; simp at this; omega
      have b3 : ∀ N, 400000000 ≤ N → ((partV (l.take k) n i).length + 1) * 80 ≤ N := fun N h => by have := partV_length (l.take k) n i; simp at this; omega
      refine HT.skip ?_
      simp
      refine HT.seq ?_
      refine HT.block ?_
      refine HT.seq ?_
      refine HT.draw [.batch [0, 1, 2, 3, 4, 5, 6, 7, 8, 9, 10, 11, 12, 13]] (by kernel_rfl) ?_   -- R11 calls [12]
      simp [h, hk']
      refine stepK.mk (.call1 _ _ _ rfl Ty.hb12 rfl rfl (f12_spec _ _ n hsk.1 hsk.2 (by omega))) ?_
      simp
      refine HT.cond' ?_
      simp
      constructor
      · intro he
        refine HT.region ?_   -- R12
        simp [h, hk', b1, b2, b3]
        refine HT.region ?_   -- R10
        simp
        refine ⟨k + 1, by omega, by omega, HS.le_fits ?_⟩
        rw [partV_succ hk', if_pos he, docsHV_append, docsHV_cons]
        simp
        rw [wrap_i64] <;> omega
      · intro he
        refine HT.skip ?_
        simp
        refine HT.region ?_   -- R10
        simp
        refine ⟨k + 1, by omega, by omega, HS.le_fits ?_⟩
        rw [partV_succ hk', if_neg he]
        simp
        rw [wrap_i64] <;> omega
    · intro h
      obtain rfl : k = l.length := by omega
      refine HT.exit ?_
      simp
      refine HT.region ?_   -- R13
      simp [show i + 1 ≤ 9223372036854775807 by omega, show i ≤ 9223372036854775806 by omega, show (i + 1) * 24 ≤ 140737488355328 by omega]
      refine HT.region ?_   -- R6
      simp
      refine ⟨i + 1, by omega, by omega, HS.le_fits ?_⟩
      rw [partsH_succ]
      simp
      rw [wrap_i64] <;> omega
  · intro h
    obtain rfl : i = n := by omega
    refine HT.exit ?_
    simp
    refine HT.seq ?_
    refine HT.region ?_   -- R14
    simp
    refine HT.ret ?_
    simp
end Go.Hv
set_option linter.unusedVariables false
set_option linter.unusedSimpArgs false
namespace Go.Hv
open Go Go.Hv Go.Proofs
open Go.Proofs.Ytmpgljmmjipioaa
@[simp] theorem partsH_getElem (l : List Doc) (n : Int) (i k : Nat) (h : k < (partsH l n i).length) : (partsH l n i)[k] = [.sl 5 false (docsHV (partV l n k))] := by simp [partsH]
theorem f13_parts (full : Bool) (l : List Doc) (n : Nat) (hl : l.length ≤ 1048576) (hs : Short l) (h1 : 1 ≤ n) (h4 : n ≤ 4) : Spec1 Try.prog 13 [.sl 5 full (docsHV l), i64 n] (.sl 1 false (partsH l n n)) := by
  have := f13_spec full l n hl hs h1 h4
  unfold spreadH at this
  rw [frzs_parts] at this
  exact this
theorem f4_spec (full : Bool) (l : List Doc) (n : Int) (hl : l.length ≤ 1048576) (hk : ∀ d ∈ l, DocK d) : Spec1 Try.prog 4 [.sl 5 full (docsHV l), i64 n] (bo true) := by
  have hs : Short l := fun d hd => ⟨(hk d hd).1, (hk d hd).2.1⟩
  refine Spec1.of_HT Try.func4 rfl (by rw [Try.ntmps4]; simp) rfl ?_
  rw [Try.ntmps4]
  refine HT.seq ?_
  refine HT.region ?_   -- R0
  simp
  refine HT.seq ?_
  refine HT.seq ?_
  refine HT.region ?_   -- R1
  simp
  refine stepK.mk (.call1 _ _ _ _ rfl Ty.hb8 rfl f8_spec rfl rfl) ?_
  simp
  refine HT.cond' ?_
  simp
  refine HT.skip ?_
  simp
  refine HT.seq ?_
  refine HT.seq ?_
  refine HT.region ?_   -- R3
  by_cases h80 : 80 < (l.length : Int)
  · simp [h80]
    refine HT.cond' ?_
    simp
    refine HT.seq ?_
    refine HT.region ?_   -- R4
    simp
    refine HT.ret ?_
    simp
  simp [h80]
  refine HT.cond' ?_
  simp
  refine HT.skip ?_
  simp
  refine HT.seq ?_
  refine HT.region ?_   -- R5
  simp
  by_cases hr : n < 1 ∨ 4 < n
  · refine stepK.mk (.call1f _ _ _ _ _ rfl Ty.hb13 rfl rfl (f13_range full l n hr) rfl) ?_
    simp
    refine HT.seq ?_
    refine HT.region ?_   -- R6
    simp
    refine stepK.mk (.call1f _ _ _ _ _ rfl Ty.hb14 rfl rfl (f14_range full l n hr) rfl) ?_
    simp
    refine HT.seq ?_
    refine HT.seq ?_
    refine HT.region ?_   -- R7
    simp
    refine HT.cond' ?_
    simp
    refine HT.skip ?_
    simp
    refine HT.seq ?_
    refine HT.seq ?_
    refine HT.region ?_   -- R9
    simp
    refine HT.block ?_
    refine HT.loop (fun k : Unit => ⟨[.s 5 (.sl 0 true []), .s 7 (i64 0)], 40⟩) (fun k => 0) () (HS.le_fits ?_) ?_
    · simp
    intro k
    refine HT.seq ?_
    refine HT.seq ?_
    refine HT.region ?_   -- R10
    simp
    refine HT.cond' ?_
    simp
    refine HT.exit ?_
    simp
    refine HT.seq ?_
    refine HT.region ?_   -- R14
    simp
    refine HT.ret ?_
    simp
  obtain ⟨m, rfl⟩ : ∃ m : Nat, n = m := ⟨n.toNat, by omega⟩
  refine stepK.mk (.call1f _ _ _ _ _ rfl Ty.hb13 rfl rfl (f13_parts full l m hl hs (by omega) (by omega)) rfl) ?_
  simp
  refine HT.seq ?_
  refine HT.region ?_   -- R6
  simp
  refine stepK.mk (.call1f _ _ _ _ _ rfl Ty.hb14 rfl rfl (f14_spec full l m hl hs (by omega) (by omega)) rfl) ?_
  simp
  refine HT.seq ?_
  refine HT.seq ?_
  refine HT.region ?_   -- R7
  simp
  refine HT.cond' ?_
  simp
  refine HT.skip ?_
  simp
  refine HT.seq ?_
  refine HT.seq ?_
  refine HT.region ?_   -- R9
  simp
  refine HT.block ?_
  refine HT.loop (fun k : {k : Nat // k ≤ m} => ⟨[.s 5 (.sl 1 false (partsH l m m)), .s 6 (.sl 1 false (partsH l m m)), .s 7 (i64 k)], 40⟩) (fun k => m - k) ⟨0, by omega⟩ (HS.le_fits ?_) ?_
  · simp
  rintro ⟨k, hkm⟩
  refine HT.seq ?_
  refine HT.seq ?_
  refine HT.region ?_   -- R10
  simp
  refine HT.cond' ?_
  simp
  constructor
  · intro h
    have hk' : k < m := by omega
    have hkk : ∀ d ∈ partV l m k, DocK d := fun d hd => hk d (List.mem_filter.1 hd).1
    refine HT.skip ?_
    simp
    refine HT.seq ?_
    refine HT.block ?_
    refine HT.seq ?_
    refine HT.draw [.batch [0, 1, 2, 3, 4, 5, 6, 7, 8, 9]] (by kernel_rfl) ?_   -- R12 calls [15]
    simp [h, hk']
    refine stepK.mk (.call1 _ _ _ rfl Ty.hb15 rfl rfl (f15_spec false false (partV l m k) (partV l m k) (by have := partV_length l m k; omega) hkk hkk)) ?_
    simp [sameL_refl]
    refine HT.cond' ?_
    simp
    refine HT.skip ?_
    simp
    refine HT.region ?_   -- R11
    simp
    refine ⟨k + 1, by omega, by omega, HS.le_fits ?_⟩
    simp
    rw [wrap_i64] <;> omega
  · intro h
    refine HT.exit ?_
    simp
    refine HT.seq ?_
    refine HT.region ?_   -- R14
    simp
    refine HT.ret ?_
    simp
end Go.Hv

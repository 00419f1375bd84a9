import Derived.Test.YtmpgljmmjipioaaHv18
import Derived.Test.YtmpgljmmjipioaaProg
import Derived.KernelRfl
set_option linter.unusedVariables false
namespace Go.Proofs.Ytmpgljmmjipioaa.Ty
open Go Go.Hv Go.Proofs
@[simp] theorem sl0 : slInfo Try.prog 0 = none := by kernel_rfl
@[simp] theorem ag0 : agInfo Try.prog 0 = some (false, 1) := by kernel_rfl
@[simp] theorem tk0 : tk Try.prog 0 = some (.other) := by kernel_rfl
@[simp] theorem ni0 : notInt Try.prog 0 = true := by kernel_rfl
@[simp] theorem sl1 : slInfo Try.prog 1 = none := by kernel_rfl
@[simp] theorem ag1 : agInfo Try.prog 1 = some (false, 1) := by kernel_rfl
@[simp] theorem tk1 : tk Try.prog 1 = some (.other) := by kernel_rfl
@[simp] theorem ni1 : notInt Try.prog 1 = true := by kernel_rfl
@[simp] theorem sl2 : slInfo Try.prog 2 = none := by kernel_rfl
@[simp] theorem ag2 : agInfo Try.prog 2 = some (false, 1) := by kernel_rfl
@[simp] theorem tk2 : tk Try.prog 2 = some (.int .i64) := by kernel_rfl
@[simp] theorem ni2 : notInt Try.prog 2 = false := by kernel_rfl
@[simp] theorem z2 : zeroHV Try.prog 2 = some [.lit (.int .i64 0)] := by kernel_rfl
@[simp] theorem sl3 : slInfo Try.prog 3 = none := by kernel_rfl
@[simp] theorem ag3 : agInfo Try.prog 3 = some (false, 1) := by kernel_rfl
@[simp] theorem tk3 : tk Try.prog 3 = some (.int .i64) := by kernel_rfl
@[simp] theorem ni3 : notInt Try.prog 3 = false := by kernel_rfl
@[simp] theorem z3 : zeroHV Try.prog 3 = some [.lit (.int .i64 0)] := by kernel_rfl
@[simp] theorem sl4 : slInfo Try.prog 4 = none := by kernel_rfl
@[simp] theorem ag4 : agInfo Try.prog 4 = some (false, 1) := by kernel_rfl
@[simp] theorem tk4 : tk Try.prog 4 = some (.bool) := by kernel_rfl
@[simp] theorem ni4 : notInt Try.prog 4 = true := by kernel_rfl
@[simp] theorem z4 : zeroHV Try.prog 4 = some [.lit (.bool false)] := by kernel_rfl
@[simp] theorem sl5 : slInfo Try.prog 5 = none := by kernel_rfl
@[simp] theorem ag5 : agInfo Try.prog 5 = some (false, 1) := by kernel_rfl
@[simp] theorem tk5 : tk Try.prog 5 = some (.int .u8) := by kernel_rfl
@[simp] theorem ni5 : notInt Try.prog 5 = false := by kernel_rfl
@[simp] theorem z5 : zeroHV Try.prog 5 = some [.lit (.int .u8 0)] := by kernel_rfl
@[simp] theorem sl6 : slInfo Try.prog 6 = none := by kernel_rfl
@[simp] theorem ag6 : agInfo Try.prog 6 = some (false, 1) := by kernel_rfl
@[simp] theorem tk6 : tk Try.prog 6 = some (.int .u8) := by kernel_rfl
@[simp] theorem ni6 : notInt Try.prog 6 = false := by kernel_rfl
@[simp] theorem z6 : zeroHV Try.prog 6 = some [.lit (.int .u8 0)] := by kernel_rfl
@[simp] theorem sl7 : slInfo Try.prog 7 = none := by kernel_rfl
@[simp] theorem ag7 : agInfo Try.prog 7 = some (true, 4) := by kernel_rfl
@[simp] theorem tk7 : tk Try.prog 7 = some (.other) := by kernel_rfl
@[simp] theorem ni7 : notInt Try.prog 7 = true := by kernel_rfl
@[simp] theorem z7 : zeroHV Try.prog 7 = some [.lit (.int .i64 0), .lit (.int .i64 0), .lit (.bool false), .lit (.int .u8 0)] := by kernel_rfl
@[simp] theorem fd7_0 : fdInfo Try.prog 7 0 = some (0, 1, false) := by kernel_rfl
@[simp] theorem fd7_1 : fdInfo Try.prog 7 1 = some (1, 1, false) := by kernel_rfl
@[simp] theorem fd7_2 : fdInfo Try.prog 7 2 = some (2, 1, false) := by kernel_rfl
@[simp] theorem fd7_3 : fdInfo Try.prog 7 3 = some (3, 1, false) := by kernel_rfl
@[simp] theorem pl7 : places Try.prog 7 = some [(0, 1), (1, 1), (2, 1), (3, 1)] := by kernel_rfl
@[simp] theorem sl8 : slInfo Try.prog 8 = none := by kernel_rfl
@[simp] theorem ag8 : agInfo Try.prog 8 = some (true, 4) := by kernel_rfl
@[simp] theorem tk8 : tk Try.prog 8 = some (.other) := by kernel_rfl
@[simp] theorem ni8 : notInt Try.prog 8 = true := by kernel_rfl
@[simp] theorem z8 : zeroHV Try.prog 8 = some [.lit (.int .i64 0), .lit (.int .i64 0), .lit (.bool false), .lit (.int .u8 0)] := by kernel_rfl
@[simp] theorem fd8_0 : fdInfo Try.prog 8 0 = some (0, 1, false) := by kernel_rfl
@[simp] theorem fd8_1 : fdInfo Try.prog 8 1 = some (1, 1, false) := by kernel_rfl
@[simp] theorem fd8_2 : fdInfo Try.prog 8 2 = some (2, 1, false) := by kernel_rfl
@[simp] theorem fd8_3 : fdInfo Try.prog 8 3 = some (3, 1, false) := by kernel_rfl
@[simp] theorem pl8 : places Try.prog 8 = some [(0, 1), (1, 1), (2, 1), (3, 1)] := by kernel_rfl
@[simp] theorem sl9 : slInfo Try.prog 9 = none := by kernel_rfl
@[simp] theorem ag9 : agInfo Try.prog 9 = some (false, 1) := by kernel_rfl
@[simp] theorem tk9 : tk Try.prog 9 = some (.string) := by kernel_rfl
@[simp] theorem ni9 : notInt Try.prog 9 = true := by kernel_rfl
@[simp] theorem z9 : zeroHV Try.prog 9 = some [.str []] := by kernel_rfl
@[simp] theorem sl10 : slInfo Try.prog 10 = none := by kernel_rfl
@[simp] theorem ag10 : agInfo Try.prog 10 = some (false, 1) := by kernel_rfl
@[simp] theorem tk10 : tk Try.prog 10 = some (.string) := by kernel_rfl
@[simp] theorem ni10 : notInt Try.prog 10 = true := by kernel_rfl
@[simp] theorem z10 : zeroHV Try.prog 10 = some [.str []] := by kernel_rfl
@[simp] theorem sl11 : slInfo Try.prog 11 = none := by kernel_rfl
@[simp] theorem ag11 : agInfo Try.prog 11 = some (false, 1) := by kernel_rfl
@[simp] theorem tk11 : tk Try.prog 11 = some (.string) := by kernel_rfl
@[simp] theorem ni11 : notInt Try.prog 11 = true := by kernel_rfl
@[simp] theorem z11 : zeroHV Try.prog 11 = some [.str []] := by kernel_rfl
@[simp] theorem sl12 : slInfo Try.prog 12 = none := by kernel_rfl
@[simp] theorem ag12 : agInfo Try.prog 12 = some (false, 1) := by kernel_rfl
@[simp] theorem tk12 : tk Try.prog 12 = some (.int .u64) := by kernel_rfl
@[simp] theorem ni12 : notInt Try.prog 12 = false := by kernel_rfl
@[simp] theorem z12 : zeroHV Try.prog 12 = some [.lit (.int .u64 0)] := by kernel_rfl
@[simp] theorem sl13 : slInfo Try.prog 13 = none := by kernel_rfl
@[simp] theorem ag13 : agInfo Try.prog 13 = some (true, 2) := by kernel_rfl
@[simp] theorem tk13 : tk Try.prog 13 = some (.other) := by kernel_rfl
@[simp] theorem ni13 : notInt Try.prog 13 = true := by kernel_rfl
@[simp] theorem z13 : zeroHV Try.prog 13 = some [.str [], .lit (.int .u64 0)] := by kernel_rfl
@[simp] theorem fd13_0 : fdInfo Try.prog 13 0 = some (0, 1, false) := by kernel_rfl
@[simp] theorem fd13_1 : fdInfo Try.prog 13 1 = some (1, 1, false) := by kernel_rfl
@[simp] theorem pl13 : places Try.prog 13 = some [(0, 1), (1, 1)] := by kernel_rfl
@[simp] theorem sl14 : slInfo Try.prog 14 = none := by kernel_rfl
@[simp] theorem ag14 : agInfo Try.prog 14 = some (true, 2) := by kernel_rfl
@[simp] theorem tk14 : tk Try.prog 14 = some (.other) := by kernel_rfl
@[simp] theorem ni14 : notInt Try.prog 14 = true := by kernel_rfl
@[simp] theorem z14 : zeroHV Try.prog 14 = some [.str [], .lit (.int .u64 0)] := by kernel_rfl
@[simp] theorem fd14_0 : fdInfo Try.prog 14 0 = some (0, 1, false) := by kernel_rfl
@[simp] theorem fd14_1 : fdInfo Try.prog 14 1 = some (1, 1, false) := by kernel_rfl
@[simp] theorem pl14 : places Try.prog 14 = some [(0, 1), (1, 1)] := by kernel_rfl
@[simp] theorem sl15 : slInfo Try.prog 15 = none := by kernel_rfl
@[simp] theorem ag15 : agInfo Try.prog 15 = some (false, 1) := by kernel_rfl
@[simp] theorem tk15 : tk Try.prog 15 = some (.other) := by kernel_rfl
@[simp] theorem ni15 : notInt Try.prog 15 = true := by kernel_rfl
@[simp] theorem sl16 : slInfo Try.prog 16 = none := by kernel_rfl
@[simp] theorem ag16 : agInfo Try.prog 16 = some (false, 1) := by kernel_rfl
@[simp] theorem tk16 : tk Try.prog 16 = some (.other) := by kernel_rfl
@[simp] theorem ni16 : notInt Try.prog 16 = true := by kernel_rfl
@[simp] theorem sl17 : slInfo Try.prog 17 = none := by kernel_rfl
@[simp] theorem ag17 : agInfo Try.prog 17 = some (false, 1) := by kernel_rfl
@[simp] theorem tk17 : tk Try.prog 17 = some (.other) := by kernel_rfl
@[simp] theorem ni17 : notInt Try.prog 17 = true := by kernel_rfl
@[simp] theorem sl18 : slInfo Try.prog 18 = none := by kernel_rfl
@[simp] theorem ag18 : agInfo Try.prog 18 = some (true, 1) := by kernel_rfl
@[simp] theorem tk18 : tk Try.prog 18 = some (.other) := by kernel_rfl
@[simp] theorem ni18 : notInt Try.prog 18 = true := by kernel_rfl
@[simp] theorem z18 : zeroHV Try.prog 18 = some [.lit (.pointer none)] := by kernel_rfl
@[simp] theorem fd18_0 : fdInfo Try.prog 18 0 = some (0, 1, false) := by kernel_rfl
@[simp] theorem pl18 : places Try.prog 18 = some [(0, 1)] := by kernel_rfl
@[simp] theorem sl19 : slInfo Try.prog 19 = none := by kernel_rfl
@[simp] theorem ag19 : agInfo Try.prog 19 = some (true, 1) := by kernel_rfl
@[simp] theorem tk19 : tk Try.prog 19 = some (.other) := by kernel_rfl
@[simp] theorem ni19 : notInt Try.prog 19 = true := by kernel_rfl
@[simp] theorem z19 : zeroHV Try.prog 19 = some [.lit (.pointer none)] := by kernel_rfl
@[simp] theorem fd19_0 : fdInfo Try.prog 19 0 = some (0, 1, false) := by kernel_rfl
@[simp] theorem pl19 : places Try.prog 19 = some [(0, 1)] := by kernel_rfl
@[simp] theorem sl20 : slInfo Try.prog 20 = none := by kernel_rfl
@[simp] theorem ag20 : agInfo Try.prog 20 = some (false, 1) := by kernel_rfl
@[simp] theorem tk20 : tk Try.prog 20 = some (.other) := by kernel_rfl
@[simp] theorem ni20 : notInt Try.prog 20 = true := by kernel_rfl
@[simp] theorem sl21 : slInfo Try.prog 21 = none := by kernel_rfl
@[simp] theorem ag21 : agInfo Try.prog 21 = some (false, 1) := by kernel_rfl
@[simp] theorem tk21 : tk Try.prog 21 = some (.int .i32) := by kernel_rfl
@[simp] theorem ni21 : notInt Try.prog 21 = false := by kernel_rfl
@[simp] theorem z21 : zeroHV Try.prog 21 = some [.lit (.int .i32 0)] := by kernel_rfl
@[simp] theorem sl22 : slInfo Try.prog 22 = none := by kernel_rfl
@[simp] theorem ag22 : agInfo Try.prog 22 = some (false, 1) := by kernel_rfl
@[simp] theorem tk22 : tk Try.prog 22 = some (.other) := by kernel_rfl
@[simp] theorem ni22 : notInt Try.prog 22 = true := by kernel_rfl
@[simp] theorem sl23 : slInfo Try.prog 23 = none := by kernel_rfl
@[simp] theorem ag23 : agInfo Try.prog 23 = some (false, 1) := by kernel_rfl
@[simp] theorem tk23 : tk Try.prog 23 = some (.int .u32) := by kernel_rfl
@[simp] theorem ni23 : notInt Try.prog 23 = false := by kernel_rfl
@[simp] theorem z23 : zeroHV Try.prog 23 = some [.lit (.int .u32 0)] := by kernel_rfl
@[simp] theorem sl24 : slInfo Try.prog 24 = none := by kernel_rfl
@[simp] theorem ag24 : agInfo Try.prog 24 = some (false, 1) := by kernel_rfl
@[simp] theorem tk24 : tk Try.prog 24 = some (.other) := by kernel_rfl
@[simp] theorem ni24 : notInt Try.prog 24 = true := by kernel_rfl
@[simp] theorem sl25 : slInfo Try.prog 25 = none := by kernel_rfl
@[simp] theorem ag25 : agInfo Try.prog 25 = some (false, 1) := by kernel_rfl
@[simp] theorem tk25 : tk Try.prog 25 = some (.other) := by kernel_rfl
@[simp] theorem ni25 : notInt Try.prog 25 = true := by kernel_rfl
@[simp] theorem sl26 : slInfo Try.prog 26 = none := by kernel_rfl
@[simp] theorem ag26 : agInfo Try.prog 26 = some (false, 1) := by kernel_rfl
@[simp] theorem tk26 : tk Try.prog 26 = some (.other) := by kernel_rfl
@[simp] theorem ni26 : notInt Try.prog 26 = true := by kernel_rfl
@[simp] theorem sl27 : slInfo Try.prog 27 = some (48, 5, 80) := by kernel_rfl
@[simp] theorem ag27 : agInfo Try.prog 27 = some (false, 1) := by kernel_rfl
@[simp] theorem tk27 : tk Try.prog 27 = some (.other) := by kernel_rfl
@[simp] theorem ni27 : notInt Try.prog 27 = true := by kernel_rfl
@[simp] theorem z27 : zeroHV Try.prog 27 = some [.sl 0 true []] := by kernel_rfl
@[simp] theorem sl28 : slInfo Try.prog 28 = some (27, 1, 24) := by kernel_rfl
@[simp] theorem ag28 : agInfo Try.prog 28 = some (false, 1) := by kernel_rfl
@[simp] theorem tk28 : tk Try.prog 28 = some (.other) := by kernel_rfl
@[simp] theorem ni28 : notInt Try.prog 28 = true := by kernel_rfl
@[simp] theorem z28 : zeroHV Try.prog 28 = some [.sl 0 true []] := by kernel_rfl
@[simp] theorem sl29 : slInfo Try.prog 29 = none := by kernel_rfl
@[simp] theorem ag29 : agInfo Try.prog 29 = some (false, 1) := by kernel_rfl
@[simp] theorem tk29 : tk Try.prog 29 = some (.other) := by kernel_rfl
@[simp] theorem ni29 : notInt Try.prog 29 = true := by kernel_rfl
@[simp] theorem sl30 : slInfo Try.prog 30 = none := by kernel_rfl
@[simp] theorem ag30 : agInfo Try.prog 30 = some (false, 1) := by kernel_rfl
@[simp] theorem tk30 : tk Try.prog 30 = some (.other) := by kernel_rfl
@[simp] theorem ni30 : notInt Try.prog 30 = true := by kernel_rfl
@[simp] theorem sl31 : slInfo Try.prog 31 = none := by kernel_rfl
@[simp] theorem ag31 : agInfo Try.prog 31 = some (false, 1) := by kernel_rfl
@[simp] theorem tk31 : tk Try.prog 31 = some (.other) := by kernel_rfl
@[simp] theorem ni31 : notInt Try.prog 31 = true := by kernel_rfl
@[simp] theorem sl32 : slInfo Try.prog 32 = some (3, 1, 8) := by kernel_rfl
@[simp] theorem ag32 : agInfo Try.prog 32 = some (false, 1) := by kernel_rfl
@[simp] theorem tk32 : tk Try.prog 32 = some (.other) := by kernel_rfl
@[simp] theorem ni32 : notInt Try.prog 32 = true := by kernel_rfl
@[simp] theorem z32 : zeroHV Try.prog 32 = some [.sl 0 true []] := by kernel_rfl
@[simp] theorem sl33 : slInfo Try.prog 33 = none := by kernel_rfl
@[simp] theorem ag33 : agInfo Try.prog 33 = some (true, 3) := by kernel_rfl
@[simp] theorem tk33 : tk Try.prog 33 = some (.other) := by kernel_rfl
@[simp] theorem ni33 : notInt Try.prog 33 = true := by kernel_rfl
@[simp] theorem z33 : zeroHV Try.prog 33 = some [.sl 0 true [], .sl 0 true [], .sl 0 true []] := by kernel_rfl
@[simp] theorem fd33_0 : fdInfo Try.prog 33 0 = some (0, 1, false) := by kernel_rfl
@[simp] theorem fd33_1 : fdInfo Try.prog 33 1 = some (1, 1, false) := by kernel_rfl
@[simp] theorem fd33_2 : fdInfo Try.prog 33 2 = some (2, 1, false) := by kernel_rfl
@[simp] theorem pl33 : places Try.prog 33 = some [(0, 1), (1, 1), (2, 1)] := by kernel_rfl
@[simp] theorem sl34 : slInfo Try.prog 34 = none := by kernel_rfl
@[simp] theorem ag34 : agInfo Try.prog 34 = some (true, 3) := by kernel_rfl
@[simp] theorem tk34 : tk Try.prog 34 = some (.other) := by kernel_rfl
@[simp] theorem ni34 : notInt Try.prog 34 = true := by kernel_rfl
@[simp] theorem z34 : zeroHV Try.prog 34 = some [.sl 0 true [], .sl 0 true [], .sl 0 true []] := by kernel_rfl
@[simp] theorem fd34_0 : fdInfo Try.prog 34 0 = some (0, 1, false) := by kernel_rfl
@[simp] theorem fd34_1 : fdInfo Try.prog 34 1 = some (1, 1, false) := by kernel_rfl
@[simp] theorem fd34_2 : fdInfo Try.prog 34 2 = some (2, 1, false) := by kernel_rfl
@[simp] theorem pl34 : places Try.prog 34 = some [(0, 1), (1, 1), (2, 1)] := by kernel_rfl
@[simp] theorem sl35 : slInfo Try.prog 35 = some (34, 3, 72) := by kernel_rfl
@[simp] theorem ag35 : agInfo Try.prog 35 = some (false, 1) := by kernel_rfl
@[simp] theorem tk35 : tk Try.prog 35 = some (.other) := by kernel_rfl
@[simp] theorem ni35 : notInt Try.prog 35 = true := by kernel_rfl
@[simp] theorem z35 : zeroHV Try.prog 35 = some [.sl 0 true []] := by kernel_rfl
@[simp] theorem sl36 : slInfo Try.prog 36 = none := by kernel_rfl
@[simp] theorem ag36 : agInfo Try.prog 36 = some (false, 1) := by kernel_rfl
@[simp] theorem tk36 : tk Try.prog 36 = some (.int .i64) := by kernel_rfl
@[simp] theorem ni36 : notInt Try.prog 36 = false := by kernel_rfl
@[simp] theorem z36 : zeroHV Try.prog 36 = some [.lit (.int .i64 0)] := by kernel_rfl
@[simp] theorem sl37 : slInfo Try.prog 37 = none := by kernel_rfl
@[simp] theorem ag37 : agInfo Try.prog 37 = some (false, 1) := by kernel_rfl
@[simp] theorem tk37 : tk Try.prog 37 = some (.other) := by kernel_rfl
@[simp] theorem ni37 : notInt Try.prog 37 = true := by kernel_rfl
@[simp] theorem sl38 : slInfo Try.prog 38 = none := by kernel_rfl
@[simp] theorem ag38 : agInfo Try.prog 38 = some (false, 1) := by kernel_rfl
@[simp] theorem tk38 : tk Try.prog 38 = some (.other) := by kernel_rfl
@[simp] theorem ni38 : notInt Try.prog 38 = true := by kernel_rfl
@[simp] theorem sl39 : slInfo Try.prog 39 = none := by kernel_rfl
@[simp] theorem ag39 : agInfo Try.prog 39 = some (false, 1) := by kernel_rfl
@[simp] theorem tk39 : tk Try.prog 39 = some (.other) := by kernel_rfl
@[simp] theorem ni39 : notInt Try.prog 39 = true := by kernel_rfl
@[simp] theorem sl40 : slInfo Try.prog 40 = none := by kernel_rfl
@[simp] theorem ag40 : agInfo Try.prog 40 = some (false, 1) := by kernel_rfl
@[simp] theorem tk40 : tk Try.prog 40 = some (.other) := by kernel_rfl
@[simp] theorem ni40 : notInt Try.prog 40 = true := by kernel_rfl
@[simp] theorem sl41 : slInfo Try.prog 41 = none := by kernel_rfl
@[simp] theorem ag41 : agInfo Try.prog 41 = some (false, 1) := by kernel_rfl
@[simp] theorem tk41 : tk Try.prog 41 = some (.other) := by kernel_rfl
@[simp] theorem ni41 : notInt Try.prog 41 = true := by kernel_rfl
@[simp] theorem sl42 : slInfo Try.prog 42 = none := by kernel_rfl
@[simp] theorem ag42 : agInfo Try.prog 42 = some (false, 1) := by kernel_rfl
@[simp] theorem tk42 : tk Try.prog 42 = some (.other) := by kernel_rfl
@[simp] theorem ni42 : notInt Try.prog 42 = true := by kernel_rfl
@[simp] theorem sl43 : slInfo Try.prog 43 = none := by kernel_rfl
@[simp] theorem ag43 : agInfo Try.prog 43 = some (false, 1) := by kernel_rfl
@[simp] theorem tk43 : tk Try.prog 43 = some (.other) := by kernel_rfl
@[simp] theorem ni43 : notInt Try.prog 43 = true := by kernel_rfl
@[simp] theorem sl44 : slInfo Try.prog 44 = some (5, 1, 1) := by kernel_rfl
@[simp] theorem ag44 : agInfo Try.prog 44 = some (false, 1) := by kernel_rfl
@[simp] theorem tk44 : tk Try.prog 44 = some (.bytes) := by kernel_rfl
@[simp] theorem ni44 : notInt Try.prog 44 = true := by kernel_rfl
@[simp] theorem z44 : zeroHV Try.prog 44 = some [.sl 0 true []] := by kernel_rfl
@[simp] theorem sl45 : slInfo Try.prog 45 = none := by kernel_rfl
@[simp] theorem ag45 : agInfo Try.prog 45 = some (false, 1) := by kernel_rfl
@[simp] theorem tk45 : tk Try.prog 45 = some (.other) := by kernel_rfl
@[simp] theorem ni45 : notInt Try.prog 45 = true := by kernel_rfl
@[simp] theorem sl46 : slInfo Try.prog 46 = some (9, 1, 16) := by kernel_rfl
@[simp] theorem ag46 : agInfo Try.prog 46 = some (false, 1) := by kernel_rfl
@[simp] theorem tk46 : tk Try.prog 46 = some (.other) := by kernel_rfl
@[simp] theorem ni46 : notInt Try.prog 46 = true := by kernel_rfl
@[simp] theorem z46 : zeroHV Try.prog 46 = some [.sl 0 true []] := by kernel_rfl
@[simp] theorem sl47 : slInfo Try.prog 47 = none := by kernel_rfl
@[simp] theorem ag47 : agInfo Try.prog 47 = some (true, 5) := by kernel_rfl
@[simp] theorem tk47 : tk Try.prog 47 = some (.other) := by kernel_rfl
@[simp] theorem ni47 : notInt Try.prog 47 = true := by kernel_rfl
@[simp] theorem z47 : zeroHV Try.prog 47 = some [.lit (.int .i64 0), .str [], .str [], .str [], .sl 0 true []] := by kernel_rfl
@[simp] theorem fd47_0 : fdInfo Try.prog 47 0 = some (0, 1, false) := by kernel_rfl
@[simp] theorem fd47_1 : fdInfo Try.prog 47 1 = some (1, 1, false) := by kernel_rfl
@[simp] theorem fd47_2 : fdInfo Try.prog 47 2 = some (2, 1, false) := by kernel_rfl
@[simp] theorem fd47_3 : fdInfo Try.prog 47 3 = some (3, 1, false) := by kernel_rfl
@[simp] theorem fd47_4 : fdInfo Try.prog 47 4 = some (4, 1, false) := by kernel_rfl
@[simp] theorem pl47 : places Try.prog 47 = some [(0, 1), (1, 1), (2, 1), (3, 1), (4, 1)] := by kernel_rfl
@[simp] theorem sl48 : slInfo Try.prog 48 = none := by kernel_rfl
@[simp] theorem ag48 : agInfo Try.prog 48 = some (true, 5) := by kernel_rfl
@[simp] theorem tk48 : tk Try.prog 48 = some (.other) := by kernel_rfl
@[simp] theorem ni48 : notInt Try.prog 48 = true := by kernel_rfl
@[simp] theorem z48 : zeroHV Try.prog 48 = some [.lit (.int .i64 0), .str [], .str [], .str [], .sl 0 true []] := by kernel_rfl
@[simp] theorem fd48_0 : fdInfo Try.prog 48 0 = some (0, 1, false) := by kernel_rfl
@[simp] theorem fd48_1 : fdInfo Try.prog 48 1 = some (1, 1, false) := by kernel_rfl
@[simp] theorem fd48_2 : fdInfo Try.prog 48 2 = some (2, 1, false) := by kernel_rfl
@[simp] theorem fd48_3 : fdInfo Try.prog 48 3 = some (3, 1, false) := by kernel_rfl
@[simp] theorem fd48_4 : fdInfo Try.prog 48 4 = some (4, 1, false) := by kernel_rfl
@[simp] theorem pl48 : places Try.prog 48 = some [(0, 1), (1, 1), (2, 1), (3, 1), (4, 1)] := by kernel_rfl
@[simp] theorem sl49 : slInfo Try.prog 49 = none := by kernel_rfl
@[simp] theorem ag49 : agInfo Try.prog 49 = some (false, 1) := by kernel_rfl
@[simp] theorem tk49 : tk Try.prog 49 = some (.other) := by kernel_rfl
@[simp] theorem ni49 : notInt Try.prog 49 = true := by kernel_rfl
@[simp] theorem sl50 : slInfo Try.prog 50 = none := by kernel_rfl
@[simp] theorem ag50 : agInfo Try.prog 50 = some (false, 1) := by kernel_rfl
@[simp] theorem tk50 : tk Try.prog 50 = some (.other) := by kernel_rfl
@[simp] theorem ni50 : notInt Try.prog 50 = true := by kernel_rfl
@[simp] theorem sl51 : slInfo Try.prog 51 = none := by kernel_rfl
@[simp] theorem ag51 : agInfo Try.prog 51 = some (false, 1) := by kernel_rfl
@[simp] theorem tk51 : tk Try.prog 51 = some (.other) := by kernel_rfl
@[simp] theorem ni51 : notInt Try.prog 51 = true := by kernel_rfl
@[simp] theorem sl52 : slInfo Try.prog 52 = none := by kernel_rfl
@[simp] theorem ag52 : agInfo Try.prog 52 = some (false, 1) := by kernel_rfl
@[simp] theorem tk52 : tk Try.prog 52 = some (.other) := by kernel_rfl
@[simp] theorem ni52 : notInt Try.prog 52 = true := by kernel_rfl
@[simp] theorem sl53 : slInfo Try.prog 53 = none := by kernel_rfl
@[simp] theorem ag53 : agInfo Try.prog 53 = some (false, 1) := by kernel_rfl
@[simp] theorem tk53 : tk Try.prog 53 = some (.other) := by kernel_rfl
@[simp] theorem ni53 : notInt Try.prog 53 = true := by kernel_rfl
@[simp] theorem sl54 : slInfo Try.prog 54 = none := by kernel_rfl
@[simp] theorem ag54 : agInfo Try.prog 54 = some (true, 3) := by kernel_rfl
@[simp] theorem tk54 : tk Try.prog 54 = some (.other) := by kernel_rfl
@[simp] theorem ni54 : notInt Try.prog 54 = true := by kernel_rfl
@[simp] theorem z54 : zeroHV Try.prog 54 = some [.str [], .str [], .str []] := by kernel_rfl
@[simp] theorem fd54_0 : fdInfo Try.prog 54 0 = some (0, 1, false) := by kernel_rfl
@[simp] theorem fd54_1 : fdInfo Try.prog 54 1 = some (1, 1, false) := by kernel_rfl
@[simp] theorem fd54_2 : fdInfo Try.prog 54 2 = some (2, 1, false) := by kernel_rfl
@[simp] theorem pl54 : places Try.prog 54 = some [(0, 1), (1, 1), (2, 1)] := by kernel_rfl
@[simp] theorem sl55 : slInfo Try.prog 55 = none := by kernel_rfl
@[simp] theorem ag55 : agInfo Try.prog 55 = some (true, 3) := by kernel_rfl
@[simp] theorem tk55 : tk Try.prog 55 = some (.other) := by kernel_rfl
@[simp] theorem ni55 : notInt Try.prog 55 = true := by kernel_rfl
@[simp] theorem z55 : zeroHV Try.prog 55 = some [.str [], .str [], .str []] := by kernel_rfl
@[simp] theorem fd55_0 : fdInfo Try.prog 55 0 = some (0, 1, false) := by kernel_rfl
@[simp] theorem fd55_1 : fdInfo Try.prog 55 1 = some (1, 1, false) := by kernel_rfl
@[simp] theorem fd55_2 : fdInfo Try.prog 55 2 = some (2, 1, false) := by kernel_rfl
@[simp] theorem pl55 : places Try.prog 55 = some [(0, 1), (1, 1), (2, 1)] := by kernel_rfl
@[simp] theorem sl56 : slInfo Try.prog 56 = none := by kernel_rfl
@[simp] theorem ag56 : agInfo Try.prog 56 = some (false, 1) := by kernel_rfl
@[simp] theorem tk56 : tk Try.prog 56 = some (.other) := by kernel_rfl
@[simp] theorem ni56 : notInt Try.prog 56 = true := by kernel_rfl
@[simp] theorem sl57 : slInfo Try.prog 57 = none := by kernel_rfl
@[simp] theorem ag57 : agInfo Try.prog 57 = some (false, 1) := by kernel_rfl
@[simp] theorem tk57 : tk Try.prog 57 = some (.other) := by kernel_rfl
@[simp] theorem ni57 : notInt Try.prog 57 = true := by kernel_rfl
@[simp] theorem sl58 : slInfo Try.prog 58 = none := by kernel_rfl
@[simp] theorem ar58 : arInfo Try.prog 58 = some (16, 23, 1) := by kernel_rfl
@[simp] theorem ag58 : agInfo Try.prog 58 = some (true, 16) := by kernel_rfl
@[simp] theorem tk58 : tk Try.prog 58 = some (.other) := by kernel_rfl
@[simp] theorem ni58 : notInt Try.prog 58 = true := by kernel_rfl
@[simp] theorem z58 : zeroHV Try.prog 58 = some [.lit (.int .u32 0), .lit (.int .u32 0), .lit (.int .u32 0), .lit (.int .u32 0), .lit (.int .u32 0), .lit (.int .u32 0), .lit (.int .u32 0), .lit (.int .u32 0), .lit (.int .u32 0), .lit (.int .u32 0), .lit (.int .u32 0), .lit (.int .u32 0), .lit (.int .u32 0), .lit (.int .u32 0), .lit (.int .u32 0), .lit (.int .u32 0)] := by kernel_rfl
@[simp] theorem sl59 : slInfo Try.prog 59 = none := by kernel_rfl
@[simp] theorem ag59 : agInfo Try.prog 59 = some (false, 1) := by kernel_rfl
@[simp] theorem tk59 : tk Try.prog 59 = some (.other) := by kernel_rfl
@[simp] theorem ni59 : notInt Try.prog 59 = true := by kernel_rfl
@[simp] theorem sl60 : slInfo Try.prog 60 = none := by kernel_rfl
@[simp] theorem ag60 : agInfo Try.prog 60 = some (false, 1) := by kernel_rfl
@[simp] theorem tk60 : tk Try.prog 60 = some (.int .u64) := by kernel_rfl
@[simp] theorem ni60 : notInt Try.prog 60 = false := by kernel_rfl
@[simp] theorem z60 : zeroHV Try.prog 60 = some [.lit (.int .u64 0)] := by kernel_rfl
@[simp] theorem sl61 : slInfo Try.prog 61 = none := by kernel_rfl
@[simp] theorem ag61 : agInfo Try.prog 61 = some (false, 1) := by kernel_rfl
@[simp] theorem tk61 : tk Try.prog 61 = some (.other) := by kernel_rfl
@[simp] theorem ni61 : notInt Try.prog 61 = true := by kernel_rfl
@[simp] theorem sl62 : slInfo Try.prog 62 = none := by kernel_rfl
@[simp] theorem ag62 : agInfo Try.prog 62 = some (false, 1) := by kernel_rfl
@[simp] theorem tk62 : tk Try.prog 62 = some (.other) := by kernel_rfl
@[simp] theorem ni62 : notInt Try.prog 62 = true := by kernel_rfl
@[simp] theorem sl63 : slInfo Try.prog 63 = none := by kernel_rfl
@[simp] theorem ag63 : agInfo Try.prog 63 = some (true, 4) := by kernel_rfl
@[simp] theorem tk63 : tk Try.prog 63 = some (.other) := by kernel_rfl
@[simp] theorem ni63 : notInt Try.prog 63 = true := by kernel_rfl
@[simp] theorem z63 : zeroHV Try.prog 63 = some [.lit (.pointer none), .lit (.pointer none), .lit (.pointer none), .str []] := by kernel_rfl
@[simp] theorem fd63_0 : fdInfo Try.prog 63 0 = some (0, 1, false) := by kernel_rfl
@[simp] theorem fd63_1 : fdInfo Try.prog 63 1 = some (1, 1, false) := by kernel_rfl
@[simp] theorem fd63_2 : fdInfo Try.prog 63 2 = some (2, 1, false) := by kernel_rfl
@[simp] theorem fd63_3 : fdInfo Try.prog 63 3 = some (3, 1, false) := by kernel_rfl
@[simp] theorem pl63 : places Try.prog 63 = some [(0, 1), (1, 1), (2, 1), (3, 1)] := by kernel_rfl
@[simp] theorem sl64 : slInfo Try.prog 64 = none := by kernel_rfl
@[simp] theorem ag64 : agInfo Try.prog 64 = some (true, 4) := by kernel_rfl
@[simp] theorem tk64 : tk Try.prog 64 = some (.other) := by kernel_rfl
@[simp] theorem ni64 : notInt Try.prog 64 = true := by kernel_rfl
@[simp] theorem z64 : zeroHV Try.prog 64 = some [.lit (.pointer none), .lit (.pointer none), .lit (.pointer none), .str []] := by kernel_rfl
@[simp] theorem fd64_0 : fdInfo Try.prog 64 0 = some (0, 1, false) := by kernel_rfl
@[simp] theorem fd64_1 : fdInfo Try.prog 64 1 = some (1, 1, false) := by kernel_rfl
@[simp] theorem fd64_2 : fdInfo Try.prog 64 2 = some (2, 1, false) := by kernel_rfl
@[simp] theorem fd64_3 : fdInfo Try.prog 64 3 = some (3, 1, false) := by kernel_rfl
@[simp] theorem pl64 : places Try.prog 64 = some [(0, 1), (1, 1), (2, 1), (3, 1)] := by kernel_rfl
@[simp] theorem sl65 : slInfo Try.prog 65 = none := by kernel_rfl
@[simp] theorem ag65 : agInfo Try.prog 65 = some (true, 0) := by kernel_rfl
@[simp] theorem tk65 : tk Try.prog 65 = some (.other) := by kernel_rfl
@[simp] theorem ni65 : notInt Try.prog 65 = true := by kernel_rfl
@[simp] theorem z65 : zeroHV Try.prog 65 = some [] := by kernel_rfl
@[simp] theorem sl66 : slInfo Try.prog 66 = none := by kernel_rfl
@[simp] theorem ag66 : agInfo Try.prog 66 = some (true, 0) := by kernel_rfl
@[simp] theorem tk66 : tk Try.prog 66 = some (.other) := by kernel_rfl
@[simp] theorem ni66 : notInt Try.prog 66 = true := by kernel_rfl
@[simp] theorem z66 : zeroHV Try.prog 66 = some [] := by kernel_rfl
@[simp] theorem sl67 : slInfo Try.prog 67 = none := by kernel_rfl
@[simp] theorem ag67 : agInfo Try.prog 67 = some (true, 0) := by kernel_rfl
@[simp] theorem tk67 : tk Try.prog 67 = some (.other) := by kernel_rfl
@[simp] theorem ni67 : notInt Try.prog 67 = true := by kernel_rfl
@[simp] theorem z67 : zeroHV Try.prog 67 = some [] := by kernel_rfl
@[simp] theorem sl68 : slInfo Try.prog 68 = none := by kernel_rfl
@[simp] theorem ag68 : agInfo Try.prog 68 = some (false, 1) := by kernel_rfl
@[simp] theorem tk68 : tk Try.prog 68 = some (.other) := by kernel_rfl
@[simp] theorem ni68 : notInt Try.prog 68 = true := by kernel_rfl
@[simp] theorem sl69 : slInfo Try.prog 69 = none := by kernel_rfl
@[simp] theorem ag69 : agInfo Try.prog 69 = some (false, 1) := by kernel_rfl
@[simp] theorem tk69 : tk Try.prog 69 = some (.int .u8) := by kernel_rfl
@[simp] theorem ni69 : notInt Try.prog 69 = false := by kernel_rfl
@[simp] theorem z69 : zeroHV Try.prog 69 = some [.lit (.int .u8 0)] := by kernel_rfl
@[simp] theorem sl70 : slInfo Try.prog 70 = none := by kernel_rfl
@[simp] theorem ag70 : agInfo Try.prog 70 = some (false, 1) := by kernel_rfl
@[simp] theorem tk70 : tk Try.prog 70 = some (.int .u8) := by kernel_rfl
@[simp] theorem ni70 : notInt Try.prog 70 = false := by kernel_rfl
@[simp] theorem z70 : zeroHV Try.prog 70 = some [.lit (.int .u8 0)] := by kernel_rfl
@[simp] theorem sl71 : slInfo Try.prog 71 = none := by kernel_rfl
@[simp] theorem ag71 : agInfo Try.prog 71 = some (false, 1) := by kernel_rfl
@[simp] theorem tk71 : tk Try.prog 71 = some (.other) := by kernel_rfl
@[simp] theorem ni71 : notInt Try.prog 71 = true := by kernel_rfl
@[simp] theorem sl72 : slInfo Try.prog 72 = none := by kernel_rfl
@[simp] theorem ag72 : agInfo Try.prog 72 = some (false, 1) := by kernel_rfl
@[simp] theorem tk72 : tk Try.prog 72 = some (.other) := by kernel_rfl
@[simp] theorem ni72 : notInt Try.prog 72 = true := by kernel_rfl
@[simp] theorem sl73 : slInfo Try.prog 73 = none := by kernel_rfl
@[simp] theorem ag73 : agInfo Try.prog 73 = some (false, 1) := by kernel_rfl
@[simp] theorem tk73 : tk Try.prog 73 = some (.int .i32) := by kernel_rfl
@[simp] theorem ni73 : notInt Try.prog 73 = false := by kernel_rfl
@[simp] theorem z73 : zeroHV Try.prog 73 = some [.lit (.int .i32 0)] := by kernel_rfl
@[simp] theorem sl74 : slInfo Try.prog 74 = none := by kernel_rfl
@[simp] theorem ag74 : agInfo Try.prog 74 = some (false, 1) := by kernel_rfl
@[simp] theorem tk74 : tk Try.prog 74 = some (.int .i32) := by kernel_rfl
@[simp] theorem ni74 : notInt Try.prog 74 = false := by kernel_rfl
@[simp] theorem z74 : zeroHV Try.prog 74 = some [.lit (.int .i32 0)] := by kernel_rfl
@[simp] theorem sl75 : slInfo Try.prog 75 = none := by kernel_rfl
@[simp] theorem ag75 : agInfo Try.prog 75 = some (true, 11) := by kernel_rfl
@[simp] theorem tk75 : tk Try.prog 75 = some (.other) := by kernel_rfl
@[simp] theorem ni75 : notInt Try.prog 75 = true := by kernel_rfl
@[simp] theorem z75 : zeroHV Try.prog 75 = some [.lit (.int .u64 0), .lit (.int .u64 0), .lit (.int .u32 0), .lit (.int .u8 0), .lit (.int .u8 0), .lit (.int .u8 0), .lit (.int .u8 0), .lit .nilFunc, .lit (.pointer none), .lit (.int .i32 0), .lit (.int .i32 0)] := by kernel_rfl
@[simp] theorem fd75_0 : fdInfo Try.prog 75 0 = some (0, 1, false) := by kernel_rfl
@[simp] theorem fd75_1 : fdInfo Try.prog 75 1 = some (1, 1, false) := by kernel_rfl
@[simp] theorem fd75_2 : fdInfo Try.prog 75 2 = some (2, 1, false) := by kernel_rfl
@[simp] theorem fd75_3 : fdInfo Try.prog 75 3 = some (3, 1, false) := by kernel_rfl
@[simp] theorem fd75_4 : fdInfo Try.prog 75 4 = some (4, 1, false) := by kernel_rfl
@[simp] theorem fd75_5 : fdInfo Try.prog 75 5 = some (5, 1, false) := by kernel_rfl
@[simp] theorem fd75_6 : fdInfo Try.prog 75 6 = some (6, 1, false) := by kernel_rfl
@[simp] theorem fd75_7 : fdInfo Try.prog 75 7 = some (7, 1, false) := by kernel_rfl
@[simp] theorem fd75_8 : fdInfo Try.prog 75 8 = some (8, 1, false) := by kernel_rfl
@[simp] theorem fd75_9 : fdInfo Try.prog 75 9 = some (9, 1, false) := by kernel_rfl
@[simp] theorem fd75_10 : fdInfo Try.prog 75 10 = some (10, 1, false) := by kernel_rfl
@[simp] theorem pl75 : places Try.prog 75 = some [(0, 1), (1, 1), (2, 1), (3, 1), (4, 1), (5, 1), (6, 1), (7, 1), (8, 1), (9, 1), (10, 1)] := by kernel_rfl
@[simp] theorem sl76 : slInfo Try.prog 76 = none := by kernel_rfl
@[simp] theorem ag76 : agInfo Try.prog 76 = some (true, 11) := by kernel_rfl
@[simp] theorem tk76 : tk Try.prog 76 = some (.other) := by kernel_rfl
@[simp] theorem ni76 : notInt Try.prog 76 = true := by kernel_rfl
@[simp] theorem z76 : zeroHV Try.prog 76 = some [.lit (.int .u64 0), .lit (.int .u64 0), .lit (.int .u32 0), .lit (.int .u8 0), .lit (.int .u8 0), .lit (.int .u8 0), .lit (.int .u8 0), .lit .nilFunc, .lit (.pointer none), .lit (.int .i32 0), .lit (.int .i32 0)] := by kernel_rfl
@[simp] theorem fd76_0 : fdInfo Try.prog 76 0 = some (0, 1, false) := by kernel_rfl
@[simp] theorem fd76_1 : fdInfo Try.prog 76 1 = some (1, 1, false) := by kernel_rfl
@[simp] theorem fd76_2 : fdInfo Try.prog 76 2 = some (2, 1, false) := by kernel_rfl
@[simp] theorem fd76_3 : fdInfo Try.prog 76 3 = some (3, 1, false) := by kernel_rfl
@[simp] theorem fd76_4 : fdInfo Try.prog 76 4 = some (4, 1, false) := by kernel_rfl
@[simp] theorem fd76_5 : fdInfo Try.prog 76 5 = some (5, 1, false) := by kernel_rfl
@[simp] theorem fd76_6 : fdInfo Try.prog 76 6 = some (6, 1, false) := by kernel_rfl
@[simp] theorem fd76_7 : fdInfo Try.prog 76 7 = some (7, 1, false) := by kernel_rfl
@[simp] theorem fd76_8 : fdInfo Try.prog 76 8 = some (8, 1, false) := by kernel_rfl
@[simp] theorem fd76_9 : fdInfo Try.prog 76 9 = some (9, 1, false) := by kernel_rfl
@[simp] theorem fd76_10 : fdInfo Try.prog 76 10 = some (10, 1, false) := by kernel_rfl
@[simp] theorem pl76 : places Try.prog 76 = some [(0, 1), (1, 1), (2, 1), (3, 1), (4, 1), (5, 1), (6, 1), (7, 1), (8, 1), (9, 1), (10, 1)] := by kernel_rfl
@[simp] theorem sl77 : slInfo Try.prog 77 = none := by kernel_rfl
@[simp] theorem ag77 : agInfo Try.prog 77 = some (false, 1) := by kernel_rfl
@[simp] theorem tk77 : tk Try.prog 77 = some (.other) := by kernel_rfl
@[simp] theorem ni77 : notInt Try.prog 77 = true := by kernel_rfl
@[simp] theorem hb2 : hasBody Try.prog 2 = true := by kernel_rfl
@[simp] theorem hb3 : hasBody Try.prog 3 = true := by kernel_rfl
@[simp] theorem hb4 : hasBody Try.prog 4 = true := by kernel_rfl
@[simp] theorem hb5 : hasBody Try.prog 5 = true := by kernel_rfl
@[simp] theorem hb6 : hasBody Try.prog 6 = true := by kernel_rfl
@[simp] theorem hb7 : hasBody Try.prog 7 = true := by kernel_rfl
@[simp] theorem hb8 : hasBody Try.prog 8 = true := by kernel_rfl
@[simp] theorem hb9 : hasBody Try.prog 9 = true := by kernel_rfl
@[simp] theorem hb10 : hasBody Try.prog 10 = true := by kernel_rfl
@[simp] theorem hb11 : hasBody Try.prog 11 = true := by kernel_rfl
@[simp] theorem hb12 : hasBody Try.prog 12 = true := by kernel_rfl
@[simp] theorem hb13 : hasBody Try.prog 13 = true := by kernel_rfl
@[simp] theorem hb14 : hasBody Try.prog 14 = true := by kernel_rfl
@[simp] theorem hb15 : hasBody Try.prog 15 = true := by kernel_rfl
@[simp] theorem hb16 : hasBody Try.prog 16 = true := by kernel_rfl
@[simp] theorem hb17 : hasBody Try.prog 17 = true := by kernel_rfl
@[simp] theorem hb18 : hasBody Try.prog 18 = true := by kernel_rfl
@[simp] theorem hb19 : hasBody Try.prog 19 = true := by kernel_rfl
@[simp] theorem hb20 : hasBody Try.prog 20 = true := by kernel_rfl
@[simp] theorem hb21 : hasBody Try.prog 21 = true := by kernel_rfl
@[simp] theorem hb22 : hasBody Try.prog 22 = true := by kernel_rfl
@[simp] theorem hb23 : hasBody Try.prog 23 = true := by kernel_rfl
@[simp] theorem hb24 : hasBody Try.prog 24 = true := by kernel_rfl
@[simp] theorem hb25 : hasBody Try.prog 25 = true := by kernel_rfl
@[simp] theorem hb26 : hasBody Try.prog 26 = true := by kernel_rfl
@[simp] theorem hb27 : hasBody Try.prog 27 = true := by kernel_rfl
@[simp] theorem hb28 : hasBody Try.prog 28 = true := by kernel_rfl
@[simp] theorem hb29 : hasBody Try.prog 29 = true := by kernel_rfl
@[simp] theorem hb30 : hasBody Try.prog 30 = true := by kernel_rfl
@[simp] theorem hb31 : hasBody Try.prog 31 = true := by kernel_rfl
@[simp] theorem hb32 : hasBody Try.prog 32 = true := by kernel_rfl
@[simp] theorem hb33 : hasBody Try.prog 33 = true := by kernel_rfl
end Go.Proofs.Ytmpgljmmjipioaa.Ty

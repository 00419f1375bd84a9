import Derived.Test.YtcmomegkhoggpaaGreatDoorWC4
import Derived.Shelf.SlSortFuncK.WholeK
import Derived.Shelf.GgSortFunc.Tiny
import Derived.Deep.QuietTactic
import Derived.BigQuiet
set_option linter.unusedVariables false
set_option linter.unusedSimpArgs false
namespace Go.Hv
open Go Go.Hv Go.Proofs Go.Stab Go.Lib Go.RowKit
open Go.Proofs.YtcmomegkhoggpaaGreatDoor
set_option maxHeartbeats 1000000 in
theorem swapRange_spec [GI] {α : Type} {enc : α → List HV} {key : α → Int} {V : Value} {ob : Option Nat} {e sz g sf : Nat} {lb sb : Array Value} {N : Nat} (hx : SortCtx Tryz.prog enc key V ob e sz g sf lb sb N) (l : List α) (a b n : Nat) (ai bi ni : Int) (ea : ai = a) (eb : bi = b) (en : ni = n) (hl : l.length = N) (ha : a + n ≤ N) (hb : b + n ≤ N) (hab : a ≠ b) : SpecX Tryz.prog 149 #[] [.agg [fnv g lb, fnv sf sb], i64 ai, i64 bi, i64 ni] V ob e sz (mapE enc l) (.lit (.tuple #[])) (mapE enc (swN l a b n)) := by
 subst ea; subst eb; subst en
 have hN := hx.hN
 have hil := hx.il
 have hsb : ∀ (i : Nat) (a b : HV) (l : List α), subLL i a b (mapE enc l) = mapE enc l := fun i a b l => subLL_isILL i a b _ (hil l)
 refine SpecX.of_HT Tryz.func149 rfl (by rw [Tryz.ntmps149]; simp) rfl Ty.hb149 ?_
 rw [Tryz.ntmps149]
 refine HT.seq ?_;refine HT.region ?_;simp (disch := first|omega|(simp<;>omega)|fail) [wr3, hil, hsb]
 refine HT.seq ?_;refine HT.region ?_;simp (disch := first|omega|(simp<;>omega)|fail) [wr3, hil, hsb]
 refine HT.block ?_;refine HT.loopK (fun k : {k : Nat // k ≤ n} => [.s 8 (i64 k), .o 900 (.prow V ob e sz (mapE enc (swN l a b k)))]) [1, 2, 3, 4] [4] (fun k => n - k) (⟨0, by omega⟩) ?_ ?_
 ·simp (disch := first|omega|(simp<;>omega)|fail) [wr3, hil, hsb, swN]
 rintro ⟨k, hk⟩
 simp (disch := first|omega|(simp<;>omega)|fail) [wr3, hil, hsb]
 refine HT.seq ?_;refine HT.seq ?_;refine HT.region ?_;simp (disch := first|omega|(simp<;>omega)|fail) [wr3, hil, hsb]
 refine HT.cond' ?_;simp (disch := first|omega|(simp<;>omega)|fail) [wr3, hil, hsb]
 refine ⟨fun h11 => ?_, fun h11 => ?_⟩
 ·have hk' : k < n := by omega
  have hsl := swN_length l a b k
  refine HT.skip ?_;simp (disch := first|omega|(simp<;>omega)|fail) [wr3, hil, hsb]
  refine HT.seq ?_;refine HT.block ?_;refine HT.region ?_;simp (disch := first|omega|(simp<;>omega)|fail) [wr3, hil, hsb]
  refine stepK.mk (.callX _ _ _ 900 _ _ _ _ _ _ _ rfl (by first | rfl | simp [hil, hsb]) (by simp [hil]) (by first | rfl | simp) (hx.swap (swN l a b k) (a + k) (b + k) _ _ (by omega) (by omega) (by omega) (by omega) (by omega) (by omega)) rfl) ?_
  simp (disch := first|omega|(simp<;>omega)|fail) [wr3, hil, hsb]
  refine HT.region ?_;simp (disch := first|omega|(simp<;>omega)|fail) [wr3, hil, hsb]
  refine Round.mk' (⟨k + 1, by omega⟩) (by dsimp only; omega) rfl ?_
  simp (disch := first|omega|(simp<;>omega)|fail) [wr3, hil, hsb, swN]
 ·obtain rfl : k = n := by omega
  refine HT.exit ?_
  simp (disch := first|omega|(simp<;>omega)|fail) [wr3, hil, hsb]
set_option maxHeartbeats 2000000 in
theorem insertionSort_spec [GI] {α : Type} {enc : α → List HV} {key : α → Int} {V : Value} {ob : Option Nat} {e sz g sf : Nat} {lb sb : Array Value} {N : Nat} (hx : SortCtx Tryz.prog enc key V ob e sz g sf lb sb N) (p U s : List α) (ai bi : Int) (ea : ai = p.length) (eb : bi = (p.length + U.length : Nat)) (hl : p.length + U.length + s.length = N) : SpecX Tryz.prog 99 #[] [.agg [fnv g lb, fnv sf sb], i64 ai, i64 bi] V ob e sz (mapE enc (p ++ U ++ s)) (.lit (.tuple #[])) (mapE enc (p ++ srtK key U ++ s)) := by
 subst ea; subst eb
 have hN := hx.hN
 have hil := hx.il
 have hsb : ∀ (i : Nat) (a b : HV) (l : List α), subLL i a b (mapE enc l) = mapE enc l := fun i a b l => subLL_isILL i a b _ (hil l)
 rw [← isK_one key p U s]
 refine SpecX.of_HT Tryz.func99 rfl (by rw [Tryz.ntmps99]; simp) rfl Ty.hb99 ?_
 rw [Tryz.ntmps99]
 refine HT.seq ?_;refine HT.region ?_;simp (disch := first|omega|(simp<;>omega)|fail) [wr3, hil, hsb]
 refine HT.seq ?_;refine HT.region ?_;simp (disch := first|omega|(simp<;>omega)|fail) [wr3, hil, hsb]
 refine HT.block ?_;refine HT.loopK (fun k : {k : Nat // 1 ≤ k ∧ (k ≤ U.length ∨ k = 1)} => [.s 6 (i64 (p.length + k)), .o 900 (.prow V ob e sz (mapE enc (isK key p U s k)))]) [1, 2, 3] [3] (fun k => U.length - k) (⟨1, by omega, by omega⟩) ?_ ?_
 ·simp (disch := first|omega|(simp<;>omega)|fail) [wr3, hil, hsb]
 rintro ⟨k, hk1, hk2⟩
 simp (disch := first|omega|(simp<;>omega)|fail) [wr3, hil, hsb]
 refine HT.seq ?_;refine HT.seq ?_;refine HT.region ?_;simp (disch := first|omega|(simp<;>omega)|fail) [wr3, hil, hsb]
 refine HT.cond' ?_;simp (disch := first|omega|(simp<;>omega)|fail) [wr3, hil, hsb]
 refine ⟨fun h12 => ?_, fun h12 => ?_⟩
 ·have hk' : k < U.length := by omega
  have hsl : (srtK key (U.take k)).length = k := by rw [srtK_length, List.length_take]; omega
  refine HT.skip ?_;simp (disch := first|omega|(simp<;>omega)|fail) [wr3, hil, hsb]
  refine HT.seq ?_;refine HT.block ?_;refine HT.seq ?_;refine HT.region ?_;simp (disch := first|omega|(simp<;>omega)|fail) [wr3, hil, hsb]
  refine HT.block ?_;refine HT.loopK (fun m : {m : Nat // m ≤ k ∧ ∀ y ∈ (srtK key (U.take k)).drop m, key U[k] < key y} => [.s 7 (i64 (p.length + m)), .o 900 (.prow V ob e sz (mapE enc (insSt p (srtK key (U.take k)) U[k] (U.drop (k + 1) ++ s) m)))]) [1, 2, 3, 6] [3] (fun m => m) (⟨k, by omega, by rw [List.drop_of_length_le (by omega)]; simp⟩) ?_ ?_
  ·simp (disch := first|omega|(simp<;>omega)|fail) [wr3, hil, hsb, isK_start key p U s hk']
  rintro ⟨m, hm, hg⟩
  simp (disch := first|omega|(simp<;>omega)|fail) [wr3, hil, hsb]
  have hil2 := insSt_length p (srtK key (U.take k)) U[k] (U.drop (k + 1) ++ s) m
  have hdl : (U.drop (k + 1) ++ s).length = U.length - (k + 1) + s.length := by simp
  refine HT.seq ?_;refine HT.seq ?_
  by_cases c1 : m = 0
  ·refine HT.region ?_;simp (disch := first|omega|(simp<;>omega)|fail) [wr3, hil, hsb, c1]
   refine HT.cond' ?_;simp (disch := first|omega|(simp<;>omega)|fail) [wr3, hil, hsb]
   first | have hend := isK_end key p U s hk' hm (.inl c1) hg | have hend := isK_end key p U s hk' hm (.inr ⟨_, List.getElem?_eq_getElem (by omega), by simpa using h26⟩) hg
   try rw [c1] at hend
   refine HT.exit ?_
   simp (disch := first|omega|(simp<;>omega)|fail) [wr3, hil, hsb]
   refine HT.region ?_;simp (disch := first|omega|(simp<;>omega)|fail) [wr3, hil, hsb]
   refine Round.mk' (⟨k + 1, by omega, by omega⟩) (by dsimp only; omega) rfl ?_
   simp (disch := first|omega|(simp<;>omega)|fail) [wr3, hil, hsb, hend]
   try omega
  obtain ⟨m', rfl⟩ : ∃ m', m = m' + 1 := ⟨m - 1, by omega⟩
  clear c1
  have c1 : True := trivial
  refine HT.region ?_;simp (disch := first|omega|(simp<;>omega)|fail) [wr3, hil, hsb, c1]
  refine stepK.mk (.callX _ _ _ 900 _ _ _ _ _ _ _ rfl (by first | rfl | simp [hil, hsb]) (by simp [hil]) (by first | rfl | simp) (hx.less _ (p.length + (m' + 1)) (p.length + m') _ _ U[k] (srtK key (U.take k))[m'] (by omega) (by omega) (by omega) (insSt_x p _ _ _ (by omega)) (insSt_y p _ _ _ (by omega))) rfl) ?_
  simp (disch := first|omega|(simp<;>omega)|fail) [wr3, hil, hsb, c1]
  refine HT.cond' ?_;simp (disch := first|omega|(simp<;>omega)|fail) [wr3, hil, hsb]
  refine ⟨fun h26 => ?_, fun h26 => ?_⟩
  ·have hg2 : ∀ y ∈ (srtK key (U.take k)).drop m', key U[k] < key y := by
    intro y hy
    rw [List.drop_eq_getElem_cons (by omega)] at hy
    rcases List.mem_cons.1 hy with rfl | hy
    ·exact h26
    ·exact hg y hy
   have hsw := insSt_sw p (srtK key (U.take k)) U[k] (U.drop (k + 1) ++ s) (m := m') (by omega)
   refine HT.skip ?_;simp (disch := first|omega|(simp<;>omega)|fail) [wr3, hil, hsb]
   refine HT.seq ?_;refine HT.block ?_;refine HT.region ?_;simp (disch := first|omega|(simp<;>omega)|fail) [wr3, hil, hsb]
   refine stepK.mk (.callX _ _ _ 900 _ _ _ _ _ _ _ rfl (by first | rfl | simp [hil, hsb]) (by simp [hil]) (by first | rfl | simp) (hx.swap _ (p.length + m' + 1) (p.length + m') _ _ (by omega) (by omega) (by omega) (by omega) (by omega) (by omega)) rfl) ?_
   simp (disch := first|omega|(simp<;>omega)|fail) [wr3, hil, hsb]
   refine HT.region ?_;simp (disch := first|omega|(simp<;>omega)|fail) [wr3, hil, hsb]
   refine Round.mk' (⟨m', by omega, hg2⟩) (by dsimp only; omega) rfl ?_
   simp (disch := first|omega|(simp<;>omega)|fail) [wr3, hil, hsb, hsw]
   try omega
  ·first | have hend := isK_end key p U s hk' hm (.inl c1) hg | have hend := isK_end key p U s hk' hm (.inr ⟨_, List.getElem?_eq_getElem (by omega), by simpa using h26⟩) hg
   try rw [c1] at hend
   refine HT.exit ?_
   simp (disch := first|omega|(simp<;>omega)|fail) [wr3, hil, hsb]
   refine HT.region ?_;simp (disch := first|omega|(simp<;>omega)|fail) [wr3, hil, hsb]
   refine Round.mk' (⟨k + 1, by omega, by omega⟩) (by dsimp only; omega) rfl ?_
   simp (disch := first|omega|(simp<;>omega)|fail) [wr3, hil, hsb, hend]
   try omega
 ·rw [isK_all key p U s (k := k) (by omega)]
  refine HT.exit ?_
  simp (disch := first|omega|(simp<;>omega)|fail) [wr3, hil, hsb]
set_option maxHeartbeats 2000000 in
theorem rotate_spec [GI] {α : Type} {enc : α → List HV} {key : α → Int} {V : Value} {ob : Option Nat} {e sz g sf : Nat} {lb sb : Array Value} {N : Nat} (hx : SortCtx Tryz.prog enc key V ob e sz g sf lb sb N) (p x y s : List α) (ai mi bi : Int) (ea : ai = p.length) (em : mi = (p.length + x.length : Nat)) (eb : bi = (p.length + x.length + y.length : Nat)) (hl : p.length + x.length + y.length + s.length = N) (hx0 : 0 < x.length) (hy0 : 0 < y.length) : SpecX Tryz.prog 138 #[] [.agg [fnv g lb, fnv sf sb], i64 ai, i64 mi, i64 bi] V ob e sz (mapE enc (p ++ x ++ y ++ s)) (.lit (.tuple #[])) (mapE enc (p ++ y ++ x ++ s)) := by
 subst ea; subst em; subst eb
 have hN := hx.hN
 have hil := hx.il
 have hsb : ∀ (i : Nat) (a b : HV) (l : List α), subLL i a b (mapE enc l) = mapE enc l := fun i a b l => subLL_isILL i a b _ (hil l)
 refine SpecX.of_HT Tryz.func138 rfl (by rw [Tryz.ntmps138]; simp) rfl Ty.hb138 ?_
 rw [Tryz.ntmps138]
 refine HT.seq ?_;refine HT.region ?_;simp (disch := first|omega|(simp<;>omega)|fail) [wr3, hil, hsb]
 refine HT.seq ?_;refine HT.region ?_;simp (disch := first|omega|(simp<;>omega)|fail) [wr3, hil, hsb]
 refine HT.seq ?_;refine HT.region ?_;simp (disch := first|omega|(simp<;>omega)|fail) [wr3, hil, hsb]
 refine HT.seq ?_;refine HT.block ?_;refine HT.loopK (fun q : {q : List α × List α × List α × List α // q.1 ++ q.2.2.1 ++ q.2.1 ++ q.2.2.2 = p ++ y ++ x ++ s ∧ q.1.length + q.2.1.length = p.length + x.length ∧ q.1.length + q.2.1.length + q.2.2.1.length + q.2.2.2.length = N ∧ 0 < q.2.1.length ∧ 0 < q.2.2.1.length} => [.s 8 (i64 q.1.2.1.length), .s 9 (i64 q.1.2.2.1.length), .o 900 (.prow V ob e sz (mapE enc (q.1.1 ++ q.1.2.1 ++ q.1.2.2.1 ++ q.1.2.2.2)))]) [2, 4] [4] (fun q => q.1.2.1.length + q.1.2.2.1.length) (⟨(p, x, y, s), rfl, rfl, hl, hx0, hy0⟩) ?_ ?_
 ·simp [hil, hsb]
  omega
 rintro ⟨⟨p', x', y', s'⟩, h1, h2, h3, h4, h5⟩
 simp (disch := first|omega|(simp<;>omega)|fail) [wr3, hil, hsb]
 dsimp only at h1 h2 h3 h4 h5
 refine HT.seq ?_;refine HT.seq ?_;refine HT.region ?_;simp (disch := first|omega|(simp<;>omega)|fail) [wr3, hil, hsb]
 refine HT.cond' ?_;simp (disch := first|omega|(simp<;>omega)|fail) [wr3, hil, hsb]
 refine ⟨fun h18 => ?_, fun h18 => ?_⟩
 ·refine HT.skip ?_;simp (disch := first|omega|(simp<;>omega)|fail) [wr3, hil, hsb]
  refine HT.block ?_;refine HT.seq ?_;refine HT.region ?_;simp (disch := first|omega|(simp<;>omega)|fail) [wr3, hil, hsb]
  refine HT.cond' ?_;simp (disch := first|omega|(simp<;>omega)|fail) [wr3, hil, hsb]
  refine ⟨fun h21 => ?_, fun h21 => ?_⟩
  ·have hlt : y'.length < x'.length := by omega
   have hro := rot_gt (p := p') (s := s') hlt
   have hd1 : (x'.drop y'.length).length = x'.length - y'.length := by simp
   have hd2 : (x'.take y'.length).length = y'.length := by rw [List.length_take]; omega
   have hnx : (p' ++ y') ++ x'.take y'.length ++ x'.drop y'.length ++ s' = p ++ y ++ x ++ s := by rw [← h1, List.append_assoc (p' ++ y'), List.take_append_drop]
   have hll : (p' ++ x' ++ y' ++ s').length = N := by simp; omega
   simp only [List.append_assoc] at hro
   refine HT.seq ?_;refine HT.region ?_;simp (disch := first|omega|(simp<;>omega)|fail) [wr3, hil, hsb]
   refine stepK.mk (.callX _ _ _ 900 _ _ _ _ _ _ _ rfl (by first | rfl | simp [hil, hsb]) (by simp [hil]) (by first | rfl | simp) (swapRange_spec hx (p' ++ x' ++ y' ++ s') p'.length (p'.length + x'.length) y'.length _ _ _ (by omega) (by omega) rfl hll (by omega) (by omega) (by omega)) rfl) ?_
   simp (disch := first|omega|(simp<;>omega)|fail) [wr3, hil, hsb]
   refine HT.region ?_;simp (disch := first|omega|(simp<;>omega)|fail) [wr3, hil, hsb]
   refine Round.mk' (⟨(p' ++ y', x'.drop y'.length, x'.take y'.length, s'), hnx, by simp; omega, by simp; omega, by simp; omega, by simp; omega⟩) (by dsimp only; omega) rfl ?_
   simp (disch := first|omega|(simp<;>omega)|fail) [wr3, hil, hsb, hro]
   try omega
  ·have hlt : x'.length < y'.length := by omega
   have hro := rot_lt (p := p') (s := s') hlt
   have hd1 : (y'.drop (y'.length - x'.length)).length = x'.length := by simp; omega
   have hd2 : (y'.take (y'.length - x'.length)).length = y'.length - x'.length := by rw [List.length_take]; omega
   have hnx : p' ++ y'.take (y'.length - x'.length) ++ y'.drop (y'.length - x'.length) ++ (x' ++ s') = p ++ y ++ x ++ s := by rw [← h1, List.append_assoc p', List.take_append_drop]; simp only [List.append_assoc]
   have hll : (p' ++ x' ++ y' ++ s').length = N := by simp; omega
   simp only [List.append_assoc] at hro
   refine HT.seq ?_;refine HT.region ?_;simp (disch := first|omega|(simp<;>omega)|fail) [wr3, hil, hsb]
   refine stepK.mk (.callX _ _ _ 900 _ _ _ _ _ _ _ rfl (by first | rfl | simp [hil, hsb]) (by simp [hil]) (by first | rfl | simp) (swapRange_spec hx (p' ++ x' ++ y' ++ s') p'.length (p'.length + x'.length + (y'.length - x'.length)) x'.length _ _ _ (by omega) (by omega) rfl hll (by omega) (by omega) (by omega)) rfl) ?_
   simp (disch := first|omega|(simp<;>omega)|fail) [wr3, hil, hsb]
   refine HT.region ?_;simp (disch := first|omega|(simp<;>omega)|fail) [wr3, hil, hsb]
   refine Round.mk' (⟨(p', y'.drop (y'.length - x'.length), y'.take (y'.length - x'.length), x' ++ s'), hnx, by simp; omega, by simp; omega, by simp; omega, by simp; omega⟩) (by dsimp only; omega) rfl ?_
   simp (disch := first|omega|(simp<;>omega)|fail) [wr3, hil, hsb, hro]
   try omega
 ·refine HT.exit ?_
  simp (disch := first|omega|(simp<;>omega)|fail) [wr3, hil, hsb]
  have hxy : x'.length = y'.length := by omega
  have hll : (p' ++ x' ++ y' ++ s').length = N := by simp; omega
  have hro := rot_eq (p := p') (s := s') hxy
  rw [h1] at hro
  simp only [List.append_assoc] at hro
  refine HT.region ?_;simp (disch := first|omega|(simp<;>omega)|fail) [wr3, hil, hsb]
  refine stepK.mk (.callX _ _ _ 900 _ _ _ _ _ _ _ rfl (by first | rfl | simp [hil, hsb]) (by simp [hil]) (by first | rfl | simp) (swapRange_spec hx (p' ++ x' ++ y' ++ s') p'.length (p'.length + x'.length) x'.length _ _ _ (by omega) (by omega) rfl hll (by omega) (by omega) (by omega)) rfl) ?_
  simp (disch := first|omega|(simp<;>omega)|fail) [wr3, hil, hsb]
  simp (disch := first|omega|(simp<;>omega)|fail) [wr3, hil, hsb, hro]
set_option maxHeartbeats 8000000 in
set_option maxRecDepth 20000 in
theorem symStep_spec [GI] {α : Type} {enc : α → List HV} {key : α → Int} {V : Value} {ob : Option Nat} {e sz g sf : Nat} {lb sb : Array Value} {N : Nat} (hx : SortCtx Tryz.prog enc key V ob e sz g sf lb sb N) (p A B s : List α) (ai mi bi : Int) (ea : ai = p.length) (em : mi = (p.length + A.length : Nat)) (eb : bi = (p.length + A.length + B.length : Nat)) (hl : p.length + A.length + B.length + s.length = N) (hA0 : 0 < A.length) (hB0 : 0 < B.length) (hA : Srt key A) (hB : Srt key B) (ih : ∀ (p' A' B' s' : List α) (ai mi bi : Int), A'.length + B'.length < A.length + B.length → ai = p'.length → mi = (p'.length + A'.length : Nat) → bi = (p'.length + A'.length + B'.length : Nat) → p'.length + A'.length + B'.length + s'.length = N → 0 < A'.length → 0 < B'.length → Srt key A' → Srt key B' → SpecX Tryz.prog 116 #[] [.agg [fnv g lb, fnv sf sb], i64 ai, i64 mi, i64 bi] V ob e sz (mapE enc (p' ++ A' ++ B' ++ s')) (.lit (.tuple #[])) (mapE enc (p' ++ srtK key (A' ++ B') ++ s'))) : SpecX Tryz.prog 116 #[] [.agg [fnv g lb, fnv sf sb], i64 ai, i64 mi, i64 bi] V ob e sz (mapE enc (p ++ A ++ B ++ s)) (.lit (.tuple #[])) (mapE enc (p ++ srtK key (A ++ B) ++ s)) := by
 subst ea; subst em; subst eb
 have hN := hx.hN
 have hil := hx.il
 have hsb : ∀ (i : Nat) (a b : HV) (l : List α), subLL i a b (mapE enc l) = mapE enc l := fun i a b l => subLL_isILL i a b _ (hil l)
 have hll : (p ++ A ++ B ++ s).length = N := by simp; omega
 have hat : ∀ i, i < A.length → (p ++ A ++ B ++ s)[p.length + i]? = A[i]? := fun i h => at4_a h
 have hbt : ∀ i, i < B.length → (p ++ A ++ B ++ s)[p.length + A.length + i]? = B[i]? := fun i h => at4_b h
 generalize hLd : p ++ A ++ B ++ s = L at hll hat hbt
 generalize hL4 : p ++ srtK key (A ++ B) ++ s = L4
 refine SpecX.of_HT Tryz.func116 rfl (by rw [Tryz.ntmps116]; simp) rfl Ty.hb116 ?_
 rw [Tryz.ntmps116]
 refine HT.seq ?_;refine HT.region ?_;simp (disch := first|omega|(simp<;>omega)|fail) [wr3, hil, hsb]
 refine HT.seq ?_;refine HT.seq ?_
 by_cases c1 : A.length = 1
 ·refine HT.region ?_;simp (disch := first|omega|(simp<;>omega)|fail) [wr3, hil, hsb, c1]
  refine HT.cond' ?_;simp (disch := first|omega|(simp<;>omega)|fail) [wr3, hil, hsb]
  obtain ⟨x, rfl⟩ := List.length_eq_one_iff.1 c1
  refine HT.seq ?_;refine HT.region ?_;simp (disch := first|omega|(simp<;>omega)|fail) [wr3, hil, hsb]
  refine HT.seq ?_;refine HT.region ?_;simp (disch := first|omega|(simp<;>omega)|fail) [wr3, hil, hsb]
  refine HT.seq ?_;refine HT.block ?_;refine HT.loopK (fun q : {q : Nat × Nat // q.1 ≤ q.2 ∧ q.2 ≤ B.length ∧ (∀ i y, i < q.1 → B[i]? = some y → key y < key x) ∧ ∀ i y, q.2 ≤ i → B[i]? = some y → key x ≤ key y} => [.s 8 (i64 (p.length + 1 + q.1.1)), .s 9 (i64 (p.length + 1 + q.1.2)), .o 900 (.prow V ob e sz (mapE enc L))]) [1, 4] [4] (fun q => q.1.2 - q.1.1) (⟨(0, B.length), by simp, by simp, by simp, fun i y hi hy => absurd (List.getElem?_eq_some_iff.1 hy).1 (by omega)⟩) ?_ ?_
  ·simp (disch := first|omega|(simp<;>omega)|fail) [wr3, hil, hsb]
  rintro ⟨⟨u, v⟩, h1, h2, h3, h4⟩
  simp (disch := first|omega|(simp<;>omega)|fail) [wr3, hil, hsb]
  dsimp only at h1 h2 h3 h4
  obtain ⟨w, hw⟩ : ∃ w, w = (u + v) / 2 := ⟨_, rfl⟩
  have hdv : ∀ z : Int, (z = 2 * ((p.length + 1 + w : Nat) : Int) ∨ z = 2 * ((p.length + 1 + w : Nat) : Int) + 1) → z.fdiv (2 ^ min 1 IntKind.u64.bits) = ((p.length + 1 + w : Nat) : Int) := fun z h => fdiv_half z h
  refine HT.seq ?_;refine HT.seq ?_;refine HT.region ?_;simp (disch := first|omega|(simp<;>omega)|fail) [wr3, hil, hsb]
  refine HT.cond' ?_;simp (disch := first|omega|(simp<;>omega)|fail) [wr3, hil, hsb]
  refine ⟨fun h31 => ?_, fun h31 => ?_⟩
  ·have hw1 : u ≤ w := by omega
   have hw2 : w < v := by omega
   have hw3 : w < B.length := by omega
   have hBw : B[w]? = some B[w] := List.getElem?_eq_getElem hw3
   refine HT.skip ?_;simp (disch := first|omega|(simp<;>omega)|fail) [wr3, hil, hsb]
   refine HT.block ?_;refine HT.seq ?_;refine HT.region ?_;simp (disch := first|omega|(simp<;>omega)|fail) [wr3, hil, hsb, hdv]
   refine HT.seq ?_;refine HT.region ?_;simp (disch := first|omega|(simp<;>omega)|fail) [wr3, hil, hsb]
   refine stepK.mk (.callX _ _ _ 900 _ _ _ _ _ _ _ rfl (by first | rfl | simp [hil, hsb]) (by simp [hil]) (by first | rfl | simp) (hx.less _ (p.length + 1 + w) p.length _ _ B[w] x (by omega) (by omega) rfl ((hbt w hw3).trans hBw) (hat 0 (by simp))) rfl) ?_
   simp (disch := first|omega|(simp<;>omega)|fail) [wr3, hil, hsb]
   refine HT.cond' ?_;simp (disch := first|omega|(simp<;>omega)|fail) [wr3, hil, hsb]
   refine ⟨fun h42 => ?_, fun h42 => ?_⟩
   ·refine HT.region ?_;simp (disch := first|omega|(simp<;>omega)|fail) [wr3, hil, hsb]
    refine Round.mk' (⟨(w + 1, v), by dsimp only; omega, h2, fun i y hi hy => by have := hB.le_of (show i ≤ w by omega) hy hBw; omega, h4⟩) (by dsimp only; omega) rfl ?_
    simp (disch := first|omega|(simp<;>omega)|fail) [wr3, hil, hsb]
    try omega
   ·refine HT.region ?_;simp (disch := first|omega|(simp<;>omega)|fail) [wr3, hil, hsb]
    refine Round.mk' (⟨(u, w), hw1, by dsimp only; omega, h3, fun i y hi hy => by have := hB.le_of hi hBw hy; omega⟩) (by dsimp only; omega) rfl ?_
    simp (disch := first|omega|(simp<;>omega)|fail) [wr3, hil, hsb]
    try omega
  ·obtain rfl : u = v := by omega
   rw [show L = insSt p B x s 0 by rw [insSt_zero, ← hLd]; simp]
   refine HT.exit ?_
   simp (disch := first|omega|(simp<;>omega)|fail) [wr3, hil, hsb]
   refine HT.seq ?_;refine HT.seq ?_;refine HT.region ?_;simp (disch := first|omega|(simp<;>omega)|fail) [wr3, hil, hsb]
   refine HT.block ?_;refine HT.loopK (fun m : {m : Nat // m ≤ u} => [.s 11 (i64 (p.length + m)), .o 900 (.prow V ob e sz (mapE enc (insSt p B x s m)))]) [4, 8] [4] (fun m => u - m) (⟨0, by omega⟩) ?_ ?_
   ·simp (disch := first|omega|(simp<;>omega)|fail) [wr3, hil, hsb]
   rintro ⟨m, hm⟩
   simp (disch := first|omega|(simp<;>omega)|fail) [wr3, hil, hsb]
   have hil2 := insSt_length p B x s m
   refine HT.seq ?_;refine HT.seq ?_;refine HT.region ?_;simp (disch := first|omega|(simp<;>omega)|fail) [wr3, hil, hsb]
   refine HT.cond' ?_;simp (disch := first|omega|(simp<;>omega)|fail) [wr3, hil, hsb]
   refine ⟨fun h50 => ?_, fun h50 => ?_⟩
   ·have hm' : m < u := by omega
    have hsw := insSt_swr p B x s (m := m) (by omega)
    refine HT.skip ?_;simp (disch := first|omega|(simp<;>omega)|fail) [wr3, hil, hsb]
    refine HT.seq ?_;refine HT.block ?_;refine HT.region ?_;simp (disch := first|omega|(simp<;>omega)|fail) [wr3, hil, hsb]
    refine stepK.mk (.callX _ _ _ 900 _ _ _ _ _ _ _ rfl (by first | rfl | simp [hil, hsb]) (by simp [hil]) (by first | rfl | simp) (hx.swap _ (p.length + m) (p.length + m + 1) _ _ (by omega) (by omega) (by omega) (by omega) (by omega) (by omega)) rfl) ?_
    simp (disch := first|omega|(simp<;>omega)|fail) [wr3, hil, hsb]
    refine HT.region ?_;simp (disch := first|omega|(simp<;>omega)|fail) [wr3, hil, hsb]
    refine Round.mk' (⟨m + 1, by omega⟩) (by dsimp only; omega) rfl ?_
    simp (disch := first|omega|(simp<;>omega)|fail) [wr3, hil, hsb, hsw]
    try omega
   ·obtain rfl : m = u := by omega
    rw [put_end hB h3 h4 (by omega), hL4]
    refine HT.exit ?_
    simp (disch := first|omega|(simp<;>omega)|fail) [wr3, hil, hsb]
    refine HT.ret ?_;simp (disch := first|omega|(simp<;>omega)|fail) [wr3, hil, hsb]
 have c1' : ¬ ((p.length : Int) + A.length - p.length = 1) := by omega
 refine HT.region ?_;simp (disch := first|omega|(simp<;>omega)|fail) [wr3, hil, hsb, c1]
 refine HT.cond' ?_;simp (disch := first|omega|(simp<;>omega)|fail) [wr3, hil, hsb]
 refine HT.skip ?_;simp (disch := first|omega|(simp<;>omega)|fail) [wr3, hil, hsb]
 refine HT.seq ?_;refine HT.seq ?_
 by_cases c2 : B.length = 1
 ·refine HT.region ?_;simp (disch := first|omega|(simp<;>omega)|fail) [wr3, hil, hsb, c2]
  refine HT.cond' ?_;simp (disch := first|omega|(simp<;>omega)|fail) [wr3, hil, hsb]
  obtain ⟨y, rfl⟩ := List.length_eq_one_iff.1 c2
  refine HT.seq ?_;refine HT.region ?_;simp (disch := first|omega|(simp<;>omega)|fail) [wr3, hil, hsb]
  refine HT.seq ?_;refine HT.region ?_;simp (disch := first|omega|(simp<;>omega)|fail) [wr3, hil, hsb]
  refine HT.seq ?_;refine HT.block ?_;refine HT.loopK (fun q : {q : Nat × Nat // q.1 ≤ q.2 ∧ q.2 ≤ A.length ∧ (∀ i x, i < q.1 → A[i]? = some x → key x ≤ key y) ∧ ∀ i x, q.2 ≤ i → A[i]? = some x → key y < key x} => [.s 12 (i64 (p.length + q.1.1)), .s 13 (i64 (p.length + q.1.2)), .o 900 (.prow V ob e sz (mapE enc L))]) [2, 4] [4] (fun q => q.1.2 - q.1.1) (⟨(0, A.length), by simp, by simp, by simp, fun i y hi hy => absurd (List.getElem?_eq_some_iff.1 hy).1 (by omega)⟩) ?_ ?_
  ·simp (disch := first|omega|(simp<;>omega)|fail) [wr3, hil, hsb]
  rintro ⟨⟨u, v⟩, h1, h2, h3, h4⟩
  simp (disch := first|omega|(simp<;>omega)|fail) [wr3, hil, hsb]
  dsimp only at h1 h2 h3 h4
  obtain ⟨w, hw⟩ : ∃ w, w = (u + v) / 2 := ⟨_, rfl⟩
  have hdv : ∀ z : Int, (z = 2 * ((p.length + w : Nat) : Int) ∨ z = 2 * ((p.length + w : Nat) : Int) + 1) → z.fdiv (2 ^ min 1 IntKind.u64.bits) = ((p.length + w : Nat) : Int) := fun z h => fdiv_half z h
  refine HT.seq ?_;refine HT.seq ?_;refine HT.region ?_;simp (disch := first|omega|(simp<;>omega)|fail) [wr3, hil, hsb]
  refine HT.cond' ?_;simp (disch := first|omega|(simp<;>omega)|fail) [wr3, hil, hsb]
  refine ⟨fun h67 => ?_, fun h67 => ?_⟩
  ·have hw1 : u ≤ w := by omega
   have hw2 : w < v := by omega
   have hw3 : w < A.length := by omega
   have hAw : A[w]? = some A[w] := List.getElem?_eq_getElem hw3
   refine HT.skip ?_;simp (disch := first|omega|(simp<;>omega)|fail) [wr3, hil, hsb]
   refine HT.block ?_;refine HT.seq ?_;refine HT.region ?_;simp (disch := first|omega|(simp<;>omega)|fail) [wr3, hil, hsb, hdv]
   refine HT.seq ?_;refine HT.region ?_;simp (disch := first|omega|(simp<;>omega)|fail) [wr3, hil, hsb]
   refine stepK.mk (.callX _ _ _ 900 _ _ _ _ _ _ _ rfl (by first | rfl | simp [hil, hsb]) (by simp [hil]) (by first | rfl | simp) (hx.less _ (p.length + A.length) (p.length + w) _ _ y A[w] (by omega) (by omega) (by omega) (hbt 0 (by simp)) ((hat w hw3).trans hAw)) rfl) ?_
   simp (disch := first|omega|(simp<;>omega)|fail) [wr3, hil, hsb]
   refine HT.cond' ?_;simp (disch := first|omega|(simp<;>omega)|fail) [wr3, hil, hsb]
   refine ⟨fun h79 => ?_, fun h79 => ?_⟩
   ·refine HT.region ?_;simp (disch := first|omega|(simp<;>omega)|fail) [wr3, hil, hsb]
    refine Round.mk' (⟨(w + 1, v), by dsimp only; omega, h2, fun i x hi hx => by have := hA.le_of (show i ≤ w by omega) hx hAw; omega, h4⟩) (by dsimp only; omega) rfl ?_
    simp (disch := first|omega|(simp<;>omega)|fail) [wr3, hil, hsb]
    try omega
   ·refine HT.region ?_;simp (disch := first|omega|(simp<;>omega)|fail) [wr3, hil, hsb]
    refine Round.mk' (⟨(u, w), hw1, by dsimp only; omega, h3, fun i x hi hx => by have := hA.le_of hi hAw hx; omega⟩) (by dsimp only; omega) rfl ?_
    simp (disch := first|omega|(simp<;>omega)|fail) [wr3, hil, hsb]
    try omega
  ·obtain rfl : u = v := by omega
   rw [show L = insSt p A y s A.length by rw [insSt_last, ← hLd]; simp]
   refine HT.exit ?_
   simp (disch := first|omega|(simp<;>omega)|fail) [wr3, hil, hsb]
   refine HT.seq ?_;refine HT.seq ?_;refine HT.region ?_;simp (disch := first|omega|(simp<;>omega)|fail) [wr3, hil, hsb]
   refine HT.block ?_;refine HT.loopK (fun m : {m : Nat // u ≤ m ∧ m ≤ A.length} => [.s 15 (i64 (p.length + m)), .o 900 (.prow V ob e sz (mapE enc (insSt p A y s m)))]) [4, 12] [4] (fun m => m) (⟨A.length, by omega, by omega⟩) ?_ ?_
   ·simp (disch := first|omega|(simp<;>omega)|fail) [wr3, hil, hsb]
   rintro ⟨m, hm, hm2⟩
   simp (disch := first|omega|(simp<;>omega)|fail) [wr3, hil, hsb]
   have hil2 := insSt_length p A y s m
   refine HT.seq ?_;refine HT.seq ?_;refine HT.region ?_;simp (disch := first|omega|(simp<;>omega)|fail) [wr3, hil, hsb]
   refine HT.cond' ?_;simp (disch := first|omega|(simp<;>omega)|fail) [wr3, hil, hsb]
   refine ⟨fun h86 => ?_, fun h86 => ?_⟩
   ·obtain ⟨m', rfl⟩ : ∃ m', m = m' + 1 := ⟨m - 1, by omega⟩
    have hsw := insSt_sw p A y s (m := m') (by omega)
    refine HT.skip ?_;simp (disch := first|omega|(simp<;>omega)|fail) [wr3, hil, hsb]
    refine HT.seq ?_;refine HT.block ?_;refine HT.region ?_;simp (disch := first|omega|(simp<;>omega)|fail) [wr3, hil, hsb]
    refine stepK.mk (.callX _ _ _ 900 _ _ _ _ _ _ _ rfl (by first | rfl | simp [hil, hsb]) (by simp [hil]) (by first | rfl | simp) (hx.swap _ (p.length + m' + 1) (p.length + m') _ _ (by omega) (by omega) (by omega) (by omega) (by omega) (by omega)) rfl) ?_
    simp (disch := first|omega|(simp<;>omega)|fail) [wr3, hil, hsb]
    refine HT.region ?_;simp (disch := first|omega|(simp<;>omega)|fail) [wr3, hil, hsb]
    refine Round.mk' (⟨m', by omega, by omega⟩) (by dsimp only; omega) rfl ?_
    simp (disch := first|omega|(simp<;>omega)|fail) [wr3, hil, hsb, hsw]
    try omega
   ·obtain rfl : m = u := by omega
    rw [ins_end hA h3 h4 (by omega), hL4]
    refine HT.exit ?_
    simp (disch := first|omega|(simp<;>omega)|fail) [wr3, hil, hsb]
    refine HT.ret ?_;simp (disch := first|omega|(simp<;>omega)|fail) [wr3, hil, hsb]
 have c2' : ¬ ((p.length : Int) + A.length + B.length - (p.length + A.length) = 1) := by omega
 obtain ⟨mid, hmid⟩ : ∃ mid, mid = (p.length + (p.length + A.length + B.length)) / 2 := ⟨_, rfl⟩
 have hdm : ∀ z : Int, (z = 2 * (mid : Int) ∨ z = 2 * (mid : Int) + 1) → z.fdiv (2 ^ min 1 IntKind.u64.bits) = (mid : Int) := fun z h => fdiv_half z h
 refine HT.region ?_;simp (disch := first|omega|(simp<;>omega)|fail) [wr3, hil, hsb, c2]
 refine HT.cond' ?_;simp (disch := first|omega|(simp<;>omega)|fail) [wr3, hil, hsb]
 refine HT.skip ?_;simp (disch := first|omega|(simp<;>omega)|fail) [wr3, hil, hsb]
 refine HT.seq ?_;refine HT.region ?_;simp (disch := first|omega|(simp<;>omega)|fail) [wr3, hil, hsb, hdm]
 refine HT.seq ?_;refine HT.region ?_;simp (disch := first|omega|(simp<;>omega)|fail) [wr3, hil, hsb]
 refine HT.seq ?_;refine HT.region ?_;simp (disch := first|omega|(simp<;>omega)|fail) [wr3, hil, hsb]
 refine HT.joinX (fun q : {q : Nat × Nat // (mid < p.length + A.length ∧ q.1 + (p.length + A.length + B.length) = mid + (p.length + A.length) ∧ q.2 = mid) ∨ (p.length + A.length ≤ mid ∧ q.1 = p.length ∧ q.2 = p.length + A.length)} => [.s 18 (i64 q.1.1), .s 19 (i64 q.1.2)]) [1, 2, 3, 4, 16, 17, 142, 143, 144, 155, 156, 157, 168, 169, 170] [4, 900] ?_ ?_
 ·refine HT.seq ?_;refine HT.region ?_;simp (disch := first|omega|(simp<;>omega)|fail) [wr3, hil, hsb]
  refine HT.cond' ?_;simp (disch := first|omega|(simp<;>omega)|fail) [wr3, hil, hsb]
  refine ⟨fun h106 => ?_, fun h106 => ?_⟩
  ·refine HT.seq ?_;refine HT.region ?_;simp (disch := first|omega|(simp<;>omega)|fail) [wr3, hil, hsb]
   refine HT.region ?_;simp (disch := first|omega|(simp<;>omega)|fail) [wr3, hil, hsb]
   refine Pick.mk' (⟨(mid + (p.length + A.length) - (p.length + A.length + B.length), mid), .inl ⟨by omega, by dsimp only; omega, rfl⟩⟩) rfl ?_
   simp (disch := first|omega|(simp<;>omega)|fail) [wr3, hil, hsb]
   try omega
  ·refine HT.seq ?_;refine HT.region ?_;simp (disch := first|omega|(simp<;>omega)|fail) [wr3, hil, hsb]
   refine HT.region ?_;simp (disch := first|omega|(simp<;>omega)|fail) [wr3, hil, hsb]
   refine Pick.mk' (⟨(p.length, p.length + A.length), .inr ⟨by omega, rfl, rfl⟩⟩) rfl ?_
   simp (disch := first|omega|(simp<;>omega)|fail) [wr3, hil, hsb]
   try omega
 ·rintro ⟨⟨s0, r0⟩, hq⟩
  simp (disch := first|omega|(simp<;>omega)|fail) [wr3, hil, hsb]
  dsimp only at hq
  have hs0 : p.length ≤ s0 := by omega
  have hr0 : r0 ≤ p.length + A.length := by omega
  have hr1 : r0 ≤ mid := by omega
  have hsr : s0 ≤ r0 := by omega
  have hsb2 : mid ≤ s0 + B.length := by omega
  refine HT.seq ?_;refine HT.region ?_;simp (disch := first|omega|(simp<;>omega)|fail) [wr3, hil, hsb]
  refine HT.seq ?_;refine HT.block ?_;refine HT.loopK (fun q : {q : Nat × Nat // s0 ≤ q.1 ∧ q.1 ≤ q.2 ∧ q.2 ≤ r0 ∧ (∀ i, s0 ≤ i → i < q.1 → ∃ x y, A[i - p.length]? = some x ∧ B[mid - 1 - i]? = some y ∧ key x ≤ key y) ∧ (∀ i, q.2 ≤ i → i < r0 → ∃ x y, A[i - p.length]? = some x ∧ B[mid - 1 - i]? = some y ∧ key y < key x)} => [.s 18 (i64 q.1.1), .s 19 (i64 q.1.2)]) [1, 2, 3, 4, 16, 17, 20, 142, 143, 144, 155, 156, 157, 168, 169, 170] [4, 900] (fun q => q.1.2 - q.1.1) (⟨(s0, r0), by simp, hsr, by simp, fun i _ _ => by omega, fun i _ _ => by omega⟩) ?_ ?_
  ·simp (disch := first|omega|(simp<;>omega)|fail) [wr3, hil, hsb]
  rintro ⟨⟨c, d⟩, h1, h2, h3, h4, h5⟩
  simp (disch := first|omega|(simp<;>omega)|fail) [wr3, hil, hsb]
  dsimp only at h1 h2 h3 h4 h5
  obtain ⟨w, hw⟩ : ∃ w, w = (c + d) / 2 := ⟨_, rfl⟩
  have hdv : ∀ z : Int, (z = 2 * (w : Int) ∨ z = 2 * (w : Int) + 1) → z.fdiv (2 ^ min 1 IntKind.u64.bits) = (w : Int) := fun z h => fdiv_half z h
  refine HT.seq ?_;refine HT.seq ?_;refine HT.region ?_;simp (disch := first|omega|(simp<;>omega)|fail) [wr3, hil, hsb]
  refine HT.cond' ?_;simp (disch := first|omega|(simp<;>omega)|fail) [wr3, hil, hsb]
  refine ⟨fun h117 => ?_, fun h117 => ?_⟩
  ·have hw1 : c ≤ w := by omega
   have hw2 : w < d := by omega
   have hwA : w - p.length < A.length := by omega
   have hwB : mid - 1 - w < B.length := by omega
   have eA : A[w - p.length]? = some A[w - p.length] := List.getElem?_eq_getElem hwA
   have eB : B[mid - 1 - w]? = some B[mid - 1 - w] := List.getElem?_eq_getElem hwB
   have eAL := (hat _ hwA).trans eA
   have eBL := (hbt _ hwB).trans eB
   refine HT.skip ?_;simp (disch := first|omega|(simp<;>omega)|fail) [wr3, hil, hsb]
   refine HT.block ?_;refine HT.seq ?_;refine HT.region ?_;simp (disch := first|omega|(simp<;>omega)|fail) [wr3, hil, hsb, hdv]
   refine HT.seq ?_;refine HT.region ?_;simp (disch := first|omega|(simp<;>omega)|fail) [wr3, hil, hsb]
   refine stepK.mk (.callX _ _ _ 900 _ _ _ _ _ _ _ rfl (by first | rfl | simp [hil, hsb]) (by simp [hil]) (by first | rfl | simp) (hx.less _ (p.length + A.length + (mid - 1 - w)) (p.length + (w - p.length)) _ _ B[mid - 1 - w] A[w - p.length] (by omega) (by omega) (by omega) eBL eAL) rfl) ?_
   simp (disch := first|omega|(simp<;>omega)|fail) [wr3, hil, hsb]
   refine HT.cond' ?_;simp (disch := first|omega|(simp<;>omega)|fail) [wr3, hil, hsb]
   refine ⟨fun h131 => ?_, fun h131 => ?_⟩
   ·refine HT.region ?_;simp (disch := first|omega|(simp<;>omega)|fail) [wr3, hil, hsb]
    refine Round.mk' (⟨(w + 1, d), by dsimp only; omega, by dsimp only; omega, h3, fun i a1 a2 => qT hA hB eA eB (by omega) (by dsimp only at a2; omega) (by dsimp only at a2; omega) (by dsimp only at a2; omega), h5⟩) (by dsimp only; omega) rfl ?_
    simp (disch := first|omega|(simp<;>omega)|fail) [wr3, hil, hsb]
    try omega
   ·refine HT.region ?_;simp (disch := first|omega|(simp<;>omega)|fail) [wr3, hil, hsb]
    refine Round.mk' (⟨(c, w), h1, hw1, by dsimp only; omega, h4, fun i a1 a2 => qF hA hB eA eB (by omega) (by dsimp only at a1; omega) (by dsimp only at a1; omega) (by dsimp only at a1; omega)⟩) (by dsimp only; omega) rfl ?_
    simp (disch := first|omega|(simp<;>omega)|fail) [wr3, hil, hsb]
    try omega
  ·obtain rfl : c = d := by omega
   refine HT.exit ?_
   simp (disch := first|omega|(simp<;>omega)|fail) [wr3, hil, hsb]
   obtain ⟨u, hu⟩ : ∃ u, u = c - p.length := ⟨_, rfl⟩
   obtain ⟨v, hv⟩ : ∃ v, v = mid - c := ⟨_, rfl⟩
   have huA : u ≤ A.length := by omega
   have hvB : v ≤ B.length := by omega
   have hcut := cut_end hA hB huA hvB (by
    by_cases e : c < r0
    ·have := h5 c (by omega) e
     rw [← hu, show mid - 1 - c = v - 1 by omega] at this
     exact .inr (.inr this)
    ·rcases hq with hq | hq
     ·exact .inr (.inl (by omega))
     ·exact .inl (by omega)) (by
    by_cases e : s0 < c
    ·have := h4 (c - 1) (by omega) (by omega)
     rw [show c - 1 - p.length = u - 1 by omega, show mid - 1 - (c - 1) = v by omega] at this
     exact .inr (.inr this)
    ·rcases hq with hq | hq
     ·exact .inr (.inl (by omega))
     ·exact .inl (by omega))
   have tA : (A.take u).length = u := by rw [List.length_take]; omega
   have tB : (B.take v).length = v := by rw [List.length_take]; omega
   have dA : (A.drop u).length = A.length - u := by simp
   have dB : (B.drop v).length = B.length - v := by simp
   have aA : A.take u ++ A.drop u = A := List.take_append_drop ..
   have aB : B.take v ++ B.drop v = B := List.take_append_drop ..
   have sA1 := hA.sub (List.take_sublist u A)
   have sA2 := hA.sub (List.drop_sublist u A)
   have sB1 := hB.sub (List.take_sublist v B)
   have sB2 := hB.sub (List.drop_sublist v B)
   have sl := srtK_length2 key (A.take u) (B.take v)
   obtain ⟨L2, hL2⟩ : ∃ L2, L2 = (p ++ A.take u) ++ B.take v ++ A.drop u ++ (B.drop v ++ s) := ⟨_, rfl⟩
   obtain ⟨L3, hL3⟩ : ∃ L3, L3 = p ++ srtK key (A.take u ++ B.take v) ++ (A.drop u ++ B.drop v ++ s) := ⟨_, rfl⟩
   have hL1 : (p ++ A.take u) ++ A.drop u ++ B.take v ++ (B.drop v ++ s) = L := by
    rw [List.append_assoc p, aA, List.append_assoc (p ++ A), ← List.append_assoc (B.take v), aB, ← hLd]; simp only [List.append_assoc]
   have hL2' : p ++ A.take u ++ B.take v ++ (A.drop u ++ B.drop v ++ s) = L2 := by rw [hL2]; simp only [List.append_assoc]
   have hL3' : (p ++ srtK key (A.take u ++ B.take v)) ++ A.drop u ++ B.drop v ++ s = L3 := by rw [hL3]; simp only [List.append_assoc]
   have hL4' : (p ++ srtK key (A.take u ++ B.take v)) ++ srtK key (A.drop u ++ B.drop v) ++ s = L4 := by rw [← hL4, hcut]; simp only [List.append_assoc]
   refine HT.seq ?_;refine HT.region ?_;simp (disch := first|omega|(simp<;>omega)|fail) [wr3, hil, hsb]
   refine HT.joinK [.o 900 (.prow V ob e sz (mapE enc L2))] [1, 3, 4, 16, 18, 22, 155, 156, 157, 168, 169, 170] [4] ?_ ?_
   ·refine HT.seq ?_
    by_cases d1 : ¬ c < p.length + A.length
    ·refine HT.region ?_;simp (disch := first|omega|(simp<;>omega)|fail) [wr3, hil, hsb, d1]
     refine HT.cond' ?_;simp (disch := first|omega|(simp<;>omega)|fail) [wr3, hil, hsb]
     have hLL : L = L2 := by
      rw [← hL1, hL2]
      first | rw [List.drop_of_length_le (show A.length ≤ u by omega)] | rw [show v = 0 by omega]
      simp
     refine HT.skip ?_;simp (disch := first|omega|(simp<;>omega)|fail) [wr3, hil, hsb]
     try simp (disch := first|omega|(simp<;>omega)|fail) [wr3, hil, hsb, hLL]
    rw [Classical.not_not] at d1
    by_cases d2 : ¬ c < mid
    ·refine HT.region ?_;simp (disch := first|omega|(simp<;>omega)|fail) [wr3, hil, hsb, d1, d2]
     refine HT.cond' ?_;simp (disch := first|omega|(simp<;>omega)|fail) [wr3, hil, hsb]
     have hLL : L = L2 := by
      rw [← hL1, hL2]
      first | rw [List.drop_of_length_le (show A.length ≤ u by omega)] | rw [show v = 0 by omega]
      simp
     refine HT.skip ?_;simp (disch := first|omega|(simp<;>omega)|fail) [wr3, hil, hsb]
     try simp (disch := first|omega|(simp<;>omega)|fail) [wr3, hil, hsb, hLL]
    rw [Classical.not_not] at d2
    refine HT.region ?_;simp (disch := first|omega|(simp<;>omega)|fail) [wr3, hil, hsb, d1, d2]
    refine HT.cond' ?_;simp (disch := first|omega|(simp<;>omega)|fail) [wr3, hil, hsb]
    have hLL : True := trivial
    have hrot : ∀ (ai mi bi : Int), ai = ((p.length + u : Nat) : Int) → mi = ((p.length + A.length : Nat) : Int) → bi = ((p.length + A.length + v : Nat) : Int) → SpecX Tryz.prog 138 #[] [.agg [fnv g lb, fnv sf sb], i64 ai, i64 mi, i64 bi] V ob e sz (mapE enc L) (.lit (.tuple #[])) (mapE enc L2) := fun ai mi bi e1 e2 e3 => by
     have := rotate_spec hx (p ++ A.take u) (A.drop u) (B.take v) (B.drop v ++ s) ai mi bi (by simp; omega) (by simp; omega) (by simp; omega) (by simp; omega) (by omega) (by omega)
     rw [hL1, ← hL2] at this; exact this
    refine HT.region ?_;simp (disch := first|omega|(simp<;>omega)|fail) [wr3, hil, hsb]
    refine stepK.mk (.callX _ _ _ 900 _ _ _ _ _ _ _ rfl (by first | rfl | simp [hil, hsb]) (by simp [hil]) (by first | rfl | simp) (hrot _ _ _ (by omega) (by omega) (by omega)) rfl) ?_
    simp (disch := first|omega|(simp<;>omega)|fail) [wr3, hil, hsb]
    try simp (disch := first|omega|(simp<;>omega)|fail) [wr3, hil, hsb, hLL]
   ·simp (disch := first|omega|(simp<;>omega)|fail) [wr3, hil, hsb]
    refine HT.joinK [.o 900 (.prow V ob e sz (mapE enc L3))] [3, 4, 16, 22, 168, 169, 170] [4] ?_ ?_
    ·refine HT.seq ?_
     by_cases d3 : ¬ p.length < c
     ·refine HT.region ?_;simp (disch := first|omega|(simp<;>omega)|fail) [wr3, hil, hsb, d3]
      refine HT.cond' ?_;simp (disch := first|omega|(simp<;>omega)|fail) [wr3, hil, hsb]
      have hLL : L2 = L3 := by rw [← hL2', hL3, srtK_left hA hB (by omega)]; simp only [List.append_assoc]
      refine HT.skip ?_;simp (disch := first|omega|(simp<;>omega)|fail) [wr3, hil, hsb]
      try simp (disch := first|omega|(simp<;>omega)|fail) [wr3, hil, hsb, hLL]
     rw [Classical.not_not] at d3
     by_cases d4 : ¬ c < mid
     ·refine HT.region ?_;simp (disch := first|omega|(simp<;>omega)|fail) [wr3, hil, hsb, d3, d4]
      refine HT.cond' ?_;simp (disch := first|omega|(simp<;>omega)|fail) [wr3, hil, hsb]
      have hLL : L2 = L3 := by rw [← hL2', hL3, srtK_left hA hB (by omega)]; simp only [List.append_assoc]
      refine HT.skip ?_;simp (disch := first|omega|(simp<;>omega)|fail) [wr3, hil, hsb]
      try simp (disch := first|omega|(simp<;>omega)|fail) [wr3, hil, hsb, hLL]
     rw [Classical.not_not] at d4
     refine HT.region ?_;simp (disch := first|omega|(simp<;>omega)|fail) [wr3, hil, hsb, d3, d4]
     refine HT.cond' ?_;simp (disch := first|omega|(simp<;>omega)|fail) [wr3, hil, hsb]
     have hLL : True := trivial
     have hih : ∀ (ai mi bi : Int), ai = (p.length : Int) → mi = ((p.length + u : Nat) : Int) → bi = ((p.length + u + v : Nat) : Int) → SpecX Tryz.prog 116 #[] [.agg [fnv g lb, fnv sf sb], i64 ai, i64 mi, i64 bi] V ob e sz (mapE enc L2) (.lit (.tuple #[])) (mapE enc L3) := fun ai mi bi e1 e2 e3 => by
      have := ih p (A.take u) (B.take v) (A.drop u ++ B.drop v ++ s) ai mi bi (by omega) e1 (by omega) (by omega) (by simp; omega) (by omega) (by omega) sA1 sB1
      rw [hL2', ← hL3] at this; exact this
     refine HT.region ?_;simp (disch := first|omega|(simp<;>omega)|fail) [wr3, hil, hsb]
     refine stepK.mk (.callX _ _ _ 900 _ _ _ _ _ _ _ rfl (by first | rfl | simp [hil, hsb]) (by simp [hil]) (by first | rfl | simp) (hih _ _ _ rfl (by omega) (by omega)) rfl) ?_
     simp (disch := first|omega|(simp<;>omega)|fail) [wr3, hil, hsb]
     try simp (disch := first|omega|(simp<;>omega)|fail) [wr3, hil, hsb, hLL]
    ·simp (disch := first|omega|(simp<;>omega)|fail) [wr3, hil, hsb]
     refine HT.seq ?_
     by_cases d5 : ¬ u < A.length
     ·refine HT.region ?_;simp (disch := first|omega|(simp<;>omega)|fail) [wr3, hil, hsb, d5]
      refine HT.cond' ?_;simp (disch := first|omega|(simp<;>omega)|fail) [wr3, hil, hsb]
      have hLL : L3 = L4 := by rw [← hL3', ← hL4', srtK_right hA hB (by omega)]; simp only [List.append_assoc]
      refine HT.skip ?_;simp (disch := first|omega|(simp<;>omega)|fail) [wr3, hil, hsb]
      try simp (disch := first|omega|(simp<;>omega)|fail) [wr3, hil, hsb, hLL]
     rw [Classical.not_not] at d5
     by_cases d6 : ¬ v < B.length
     ·refine HT.region ?_;simp (disch := first|omega|(simp<;>omega)|fail) [wr3, hil, hsb, d5, d6]
      refine HT.cond' ?_;simp (disch := first|omega|(simp<;>omega)|fail) [wr3, hil, hsb]
      have hLL : L3 = L4 := by rw [← hL3', ← hL4', srtK_right hA hB (by omega)]; simp only [List.append_assoc]
      refine HT.skip ?_;simp (disch := first|omega|(simp<;>omega)|fail) [wr3, hil, hsb]
      try simp (disch := first|omega|(simp<;>omega)|fail) [wr3, hil, hsb, hLL]
     rw [Classical.not_not] at d6
     refine HT.region ?_;simp (disch := first|omega|(simp<;>omega)|fail) [wr3, hil, hsb, d5, d6]
     refine HT.cond' ?_;simp (disch := first|omega|(simp<;>omega)|fail) [wr3, hil, hsb]
     have hLL : True := trivial
     have hih : ∀ (ai mi bi : Int), ai = ((p.length + u + v : Nat) : Int) → mi = ((p.length + A.length + v : Nat) : Int) → bi = ((p.length + A.length + B.length : Nat) : Int) → SpecX Tryz.prog 116 #[] [.agg [fnv g lb, fnv sf sb], i64 ai, i64 mi, i64 bi] V ob e sz (mapE enc L3) (.lit (.tuple #[])) (mapE enc L4) := fun ai mi bi e1 e2 e3 => by
      have := ih (p ++ srtK key (A.take u ++ B.take v)) (A.drop u) (B.drop v) s ai mi bi (by omega) (by simp [sl]; omega) (by simp [sl]; omega) (by simp [sl]; omega) (by simp [sl]; omega) (by omega) (by omega) sA2 sB2
      rw [hL3', hL4'] at this; exact this
     refine HT.region ?_;simp (disch := first|omega|(simp<;>omega)|fail) [wr3, hil, hsb]
     refine stepK.mk (.callX _ _ _ 900 _ _ _ _ _ _ _ rfl (by first | rfl | simp [hil, hsb]) (by simp [hil]) (by first | rfl | simp) (hih _ _ _ (by omega) (by omega) (by omega)) rfl) ?_
     simp (disch := first|omega|(simp<;>omega)|fail) [wr3, hil, hsb]
     try simp (disch := first|omega|(simp<;>omega)|fail) [wr3, hil, hsb, hLL]
theorem symMerge_spec [GI] {α : Type} {enc : α → List HV} {key : α → Int} {V : Value} {ob : Option Nat} {e sz g sf : Nat} {lb sb : Array Value} {N : Nat} (hx : SortCtx Tryz.prog enc key V ob e sz g sf lb sb N) : ∀ (n : Nat) (p A B s : List α) (ai mi bi : Int), A.length + B.length ≤ n → ai = p.length → mi = (p.length + A.length : Nat) → bi = (p.length + A.length + B.length : Nat) → p.length + A.length + B.length + s.length = N → 0 < A.length → 0 < B.length → Srt key A → Srt key B →
  SpecX Tryz.prog 116 #[] [.agg [fnv g lb, fnv sf sb], i64 ai, i64 mi, i64 bi] V ob e sz (mapE enc (p ++ A ++ B ++ s)) (.lit (.tuple #[])) (mapE enc (p ++ srtK key (A ++ B) ++ s))
 | 0, p, A, B, s, ai, mi, bi, hn, _, _, _, _, hA, _, _, _ => by omega
 | n + 1, p, A, B, s, ai, mi, bi, hn, ea, em, eb, hl, hA0, hB0, hA, hB =>
  symStep_spec hx p A B s ai mi bi ea em eb hl hA0 hB0 hA hB fun p' A' B' s' ai mi bi hlt ea em eb hl hA0 hB0 hA hB => symMerge_spec hx n p' A' B' s' ai mi bi (by omega) ea em eb hl hA0 hB0 hA hB
set_option maxHeartbeats 4000000 in
set_option maxRecDepth 20000 in
theorem stable_spec [GI] {α : Type} {enc : α → List HV} {key : α → Int} {V : Value} {ob : Option Nat} {e sz g sf : Nat} {lb sb : Array Value} {N : Nat} (hx : SortCtx Tryz.prog enc key V ob e sz g sf lb sb N) (l : List α) (ni : Int) (en : ni = N) (hl : l.length = N) : SpecX Tryz.prog 77 #[] [.agg [fnv g lb, fnv sf sb], i64 ni] V ob e sz (mapE enc l) (.lit (.tuple #[])) (mapE enc (srtK key l)) := by
 subst en
 have hN := hx.hN
 have hil := hx.il
 have hsb : ∀ (i : Nat) (a b : HV) (l : List α), subLL i a b (mapE enc l) = mapE enc l := fun i a b l => subLL_isILL i a b _ (hil l)
 refine SpecX.of_HT Tryz.func77 rfl (by rw [Tryz.ntmps77]; simp) rfl Ty.hb77 ?_
 rw [Tryz.ntmps77]
 refine HT.seq ?_;refine HT.region ?_;simp (disch := first|omega|(simp<;>omega)|fail) [wr3, hil, hsb]
 refine HT.seq ?_;refine HT.region ?_;simp (disch := first|omega|(simp<;>omega)|fail) [wr3, hil, hsb]
 refine HT.seq ?_;refine HT.region ?_;simp (disch := first|omega|(simp<;>omega)|fail) [wr3, hil, hsb]
 refine HT.seq ?_;refine HT.block ?_;refine HT.loopK (fun q : {q : Nat × List α // q.1 * 20 ≤ N ∧ (∀ i, i < q.1 → Srt key (blkAt 20 i q.2)) ∧ Stb key q.2 l ∧ q.2.length = N} => [.s 5 (i64 (q.1.1 * 20)), .s 6 (i64 (q.1.1 * 20 + 20)), .o 900 (.prow V ob e sz (mapE enc q.1.2))]) [1, 2, 4] [2] (fun q => N - q.1.1 * 20) (⟨(0, l), by simp, by simp, Stb.refl key l, hl⟩) ?_ ?_
 ·simp (disch := first|omega|(simp<;>omega)|fail) [wr3, hil, hsb]
 rintro ⟨⟨j, L⟩, hj, hb, hs, hll⟩
 simp (disch := first|omega|(simp<;>omega)|fail) [wr3, hil, hsb]
 dsimp only at hj hb hs hll
 obtain ⟨L', hL'⟩ : ∃ L', L' = L.take (j * 20) ++ srtK key ((L.drop (j * 20)).take 20) ++ L.drop (j * 20 + 20) := ⟨_, rfl⟩
 obtain ⟨hb2, hs2⟩ := ins_step (by omega) hb (by omega : j * 20 ≤ L.length)
 rw [← hL'] at hb2 hs2
 have hs3 := hs2.trans hs
 have hll2 : L'.length = N := by rw [hL', stb_len (srtK_length key ((L.drop (j * 20)).take 20)), cut3]; exact hll
 have hins : ∀ (ai bi : Int), ai = ((j * 20 : Nat) : Int) → bi = ((j * 20 + min 20 (N - j * 20) : Nat) : Int) → SpecX Tryz.prog 99 #[] [.agg [fnv g lb, fnv sf sb], i64 ai, i64 bi] V ob e sz (mapE enc L) (.lit (.tuple #[])) (mapE enc L') := fun ai bi e1 e2 => by
  have := insertionSort_spec hx (L.take (j * 20)) ((L.drop (j * 20)).take 20) (L.drop (j * 20 + 20)) ai bi (by simp; omega) (by simp; omega) (by simp; omega)
  rw [cut3, ← hL'] at this; exact this
 refine HT.seq ?_;refine HT.seq ?_;refine HT.region ?_;simp (disch := first|omega|(simp<;>omega)|fail) [wr3, hil, hsb]
 refine HT.cond' ?_;simp (disch := first|omega|(simp<;>omega)|fail) [wr3, hil, hsb]
 refine ⟨fun h11 => ?_, fun h11 => ?_⟩
 ·refine HT.skip ?_;simp (disch := first|omega|(simp<;>omega)|fail) [wr3, hil, hsb]
  refine HT.block ?_;refine HT.seq ?_;refine HT.region ?_;simp (disch := first|omega|(simp<;>omega)|fail) [wr3, hil, hsb]
  refine stepK.mk (.callX _ _ _ 900 _ _ _ _ _ _ _ rfl (by first | rfl | simp [hil, hsb]) (by simp [hil]) (by first | rfl | simp) (hins _ _ (by omega) (by omega)) rfl) ?_
  simp (disch := first|omega|(simp<;>omega)|fail) [wr3, hil, hsb]
  refine HT.seq ?_;refine HT.region ?_;simp (disch := first|omega|(simp<;>omega)|fail) [wr3, hil, hsb]
  refine HT.region ?_;simp (disch := first|omega|(simp<;>omega)|fail) [wr3, hil, hsb]
  refine Round.mk' (⟨(j + 1, L'), by dsimp only; omega, hb2, hs3, hll2⟩) (by dsimp only; omega) rfl ?_
  simp (disch := first|omega|(simp<;>omega)|fail) [wr3, hil, hsb]
  try omega
 ·refine HT.exit ?_
  simp (disch := first|omega|(simp<;>omega)|fail) [wr3, hil, hsb]
  have hall := all_blk hb2 (by rw [hll2]; omega)
  refine HT.seq ?_;refine HT.region ?_;simp (disch := first|omega|(simp<;>omega)|fail) [wr3, hil, hsb]
  refine stepK.mk (.callX _ _ _ 900 _ _ _ _ _ _ _ rfl (by first | rfl | simp [hil, hsb]) (by simp [hil]) (by first | rfl | simp) (hins _ _ (by omega) (by omega)) rfl) ?_
  simp (disch := first|omega|(simp<;>omega)|fail) [wr3, hil, hsb]
  refine HT.block ?_;refine HT.loopK (fun q : {q : Nat × List α // 0 < q.1 ∧ q.1 ≤ 2000000 ∧ (∀ i, Srt key (blkAt q.1 i q.2)) ∧ Stb key q.2 l ∧ q.2.length = N} => [.s 4 (i64 q.1.1), .o 900 (.prow V ob e sz (mapE enc q.1.2))]) [1, 2] [2] (fun q => N - q.1.1) (⟨(20, L'), by simp, by simp, hall, hs3, hll2⟩) ?_ ?_
  ·simp (disch := first|omega|(simp<;>omega)|fail) [wr3, hil, hsb]
  rintro ⟨⟨c, L2⟩, hc, hc2, hB, hS, hlen⟩
  simp (disch := first|omega|(simp<;>omega)|fail) [wr3, hil, hsb]
  dsimp only at hc hc2 hB hS hlen
  refine HT.seq ?_;refine HT.seq ?_;refine HT.region ?_;simp (disch := first|omega|(simp<;>omega)|fail) [wr3, hil, hsb]
  refine HT.cond' ?_;simp (disch := first|omega|(simp<;>omega)|fail) [wr3, hil, hsb]
  refine ⟨fun h26 => ?_, fun h26 => ?_⟩
  ·refine HT.skip ?_;simp (disch := first|omega|(simp<;>omega)|fail) [wr3, hil, hsb]
   refine HT.block ?_;refine HT.seq ?_;refine HT.region ?_;simp (disch := first|omega|(simp<;>omega)|fail) [wr3, hil, hsb]
   refine HT.seq ?_;refine HT.block ?_;refine HT.loopK (fun q : {q : Nat × Nat × List α // q.2.1 = q.1 * (2 * c) ∧ q.2.1 ≤ N ∧ (∀ i, i < q.1 → Srt key (blkAt (2 * c) i q.2.2)) ∧ (∀ i, 2 * q.1 ≤ i → Srt key (blkAt c i q.2.2)) ∧ Stb key q.2.2 l ∧ q.2.2.length = N} => [.s 5 (i64 q.1.2.1), .s 6 (i64 (q.1.2.1 + 2 * c)), .o 900 (.prow V ob e sz (mapE enc q.1.2.2))]) [1, 2, 4] [2] (fun q => N - q.1.2.1) (⟨(0, 0, L2), by simp, by simp, by simp, fun i _ => hB i, hS, hlen⟩) ?_ ?_
   ·simp (disch := first|omega|(simp<;>omega)|fail) [wr3, hil, hsb]
   rintro ⟨⟨k, a, M⟩, ha, haN, h1, h2, hS4, hlen4⟩
   simp (disch := first|omega|(simp<;>omega)|fail) [wr3, hil, hsb]
   dsimp only at ha haN h1 h2 hS4 hlen4
   obtain ⟨A, hA⟩ : ∃ A, A = (M.drop a).take c := ⟨_, rfl⟩
   obtain ⟨B, hBd⟩ : ∃ B, B = (M.drop (a + c)).take c := ⟨_, rfl⟩
   obtain ⟨M', hM'⟩ : ∃ M', M' = M.take a ++ srtK key (A ++ B) ++ M.drop (a + c + c) := ⟨_, rfl⟩
   have hst := mrg_step hc h1 h2 (by rw [← ha]; omega)
   dsimp only at hst
   rw [← ha, ← hA, ← hBd, ← hM'] at hst
   obtain ⟨sA, sB, n1, n2, n3⟩ := hst
   have n4 := n3.trans hS4
   have lA : A.length = min c (N - a) := by rw [hA, List.length_take, List.length_drop, hlen4]
   have lB : B.length = min c (N - (a + c)) := by rw [hBd, List.length_take, List.length_drop, hlen4]
   have hMc : M.take a ++ A ++ B ++ M.drop (a + c + c) = M := by rw [hA, hBd]; exact cut4 M a c c
   have hlM : M'.length = N := by
    rw [hM', stb_len (srtK_length key (A ++ B)), ← List.append_assoc (M.take a), hMc]; exact hlen4
   have hmg : 0 < N - (a + c) → ∀ (ai mi bi : Int), ai = (a : Int) → mi = ((a + c : Nat) : Int) → bi = ((a + c + min c (N - (a + c)) : Nat) : Int) → SpecX Tryz.prog 116 #[] [.agg [fnv g lb, fnv sf sb], i64 ai, i64 mi, i64 bi] V ob e sz (mapE enc M) (.lit (.tuple #[])) (mapE enc M') := fun h0 ai mi bi e1 e2 e3 => by
    have := symMerge_spec hx (A.length + B.length) (M.take a) A B (M.drop (a + c + c)) ai mi bi (Nat.le_refl _) (by simp; omega) (by simp; omega) (by simp; omega) (by simp; omega) (by omega) (by omega) sA sB
    rw [hMc, ← hM'] at this; exact this
   refine HT.seq ?_;refine HT.seq ?_;refine HT.region ?_;simp (disch := first|omega|(simp<;>omega)|fail) [wr3, hil, hsb]
   refine HT.cond' ?_;simp (disch := first|omega|(simp<;>omega)|fail) [wr3, hil, hsb]
   refine ⟨fun h31 => ?_, fun h31 => ?_⟩
   ·refine HT.skip ?_;simp (disch := first|omega|(simp<;>omega)|fail) [wr3, hil, hsb]
    refine HT.block ?_;refine HT.seq ?_;refine HT.region ?_;simp (disch := first|omega|(simp<;>omega)|fail) [wr3, hil, hsb]
    refine stepK.mk (.callX _ _ _ 900 _ _ _ _ _ _ _ rfl (by first | rfl | simp [hil, hsb]) (by simp [hil]) (by first | rfl | simp) (hmg (by omega) _ _ _ rfl (by omega) (by omega)) rfl) ?_
    simp (disch := first|omega|(simp<;>omega)|fail) [wr3, hil, hsb]
    refine HT.seq ?_;refine HT.region ?_;simp (disch := first|omega|(simp<;>omega)|fail) [wr3, hil, hsb]
    refine HT.region ?_;simp (disch := first|omega|(simp<;>omega)|fail) [wr3, hil, hsb]
    refine Round.mk' (⟨(k + 1, a + 2 * c, M'), by dsimp only; rw [Nat.add_mul, Nat.one_mul]; omega, by dsimp only; omega, n1, n2, n4, hlM⟩) (by dsimp only; omega) rfl ?_
    simp (disch := first|omega|(simp<;>omega)|fail) [wr3, hil, hsb]
    try omega
   ·refine HT.exit ?_
    simp (disch := first|omega|(simp<;>omega)|fail) [wr3, hil, hsb]
    refine HT.joinX (fun q : {q : List α // (∀ i, Srt key (blkAt (2 * c) i q)) ∧ Stb key q l ∧ q.length = N} => [.o 900 (.prow V ob e sz (mapE enc q.1))]) [1, 2, 4] [2] ?_ ?_
    ·refine HT.seq ?_;refine HT.region ?_;simp (disch := first|omega|(simp<;>omega)|fail) [wr3, hil, hsb]
     refine HT.seq ?_;refine HT.region ?_;simp (disch := first|omega|(simp<;>omega)|fail) [wr3, hil, hsb]
     refine HT.cond' ?_;simp (disch := first|omega|(simp<;>omega)|fail) [wr3, hil, hsb]
     refine ⟨fun h49 => ?_, fun h49 => ?_⟩
     ·refine HT.region ?_;simp (disch := first|omega|(simp<;>omega)|fail) [wr3, hil, hsb]
      refine stepK.mk (.callX _ _ _ 900 _ _ _ _ _ _ _ rfl (by first | rfl | simp [hil, hsb]) (by simp [hil]) (by first | rfl | simp) (hmg (by omega) _ _ _ rfl (by omega) (by omega)) rfl) ?_
      simp (disch := first|omega|(simp<;>omega)|fail) [wr3, hil, hsb]
      refine Pick.mk' (⟨M', all_blk n1 (by rw [hlM, Nat.add_mul, Nat.one_mul]; omega), n4, hlM⟩) rfl ?_
      simp (disch := first|omega|(simp<;>omega)|fail) [wr3, hil, hsb]
      try omega
     ·refine HT.skip ?_;simp (disch := first|omega|(simp<;>omega)|fail) [wr3, hil, hsb]
      refine Pick.mk' (⟨M, all_blk2 h1 h2 (by rw [hlen4, ← ha]; omega), hS4, hlen4⟩) rfl ?_
      simp (disch := first|omega|(simp<;>omega)|fail) [wr3, hil, hsb]
      try omega
    ·rintro ⟨M2, hM1, hM2, hM3⟩
     simp (disch := first|omega|(simp<;>omega)|fail) [wr3, hil, hsb]
     refine HT.region ?_;simp (disch := first|omega|(simp<;>omega)|fail) [wr3, hil, hsb]
     refine Round.mk' (⟨(2 * c, M2), by dsimp only; omega, by dsimp only; omega, hM1, hM2, hM3⟩) (by dsimp only; omega) rfl ?_
     simp (disch := first|omega|(simp<;>omega)|fail) [wr3, hil, hsb]
     try omega
  ·rw [blk_done hB hS (by omega)]
   refine HT.exit ?_
   simp (disch := first|omega|(simp<;>omega)|fail) [wr3, hil, hsb]
set_option maxHeartbeats 2000000 in
theorem sliceStable0 [GI] {α : Type} {enc : α → List HV} {key : α → Int} {p : Option Addr} {n c : Nat} {ob : Option Nat} {t e sz g sf : Nat} {lb sb : Array Value} (hx : SortCtx Tryz.prog enc key (.slice p n c) ob e sz g sf lb sb n) (l : List α) (hl : l.length = n) {i ie : TypeInfo} {ke : Nat} (hi : Tryz.prog.info? t = some i) (hd : i.desc = .slice e) (hie : Tryz.prog.info? e = some ie) (hke : ∀ w, (Extern.Rtype.kind e).run Tryz.prog w = .ok ke w) (hpk : Tryz.prog.packed t = false) (hf : Tryz.prog.funcs.findIdx? (·.name == "internal/reflectlite" ++ ".Swapper$" ++ toString (swapperK n ie ke)) = some sf) (hsv : sb = if swapperK n ie ke ≤ 2 then #[] else #[.slice p n c, typeHandle Tryz.prog e]) : SpecX Tryz.prog 55 #[] [.lit (.iface t (.slice p n c)), fnv g lb] (.slice p n c) ob e sz (mapE enc l) (.lit (.tuple #[])) (mapE enc (srtK key l)) := by
 have hil := hx.il
 have hsb : ∀ (i : Nat) (a b : HV) (l : List α), subLL i a b (mapE enc l) = mapE enc l := fun i a b l => subLL_isILL i a b _ (hil l)
 have hv := @SpecX.valueOf _ Tryz.prog 69 t e i (run_callFunc_extern Tryz.func69 (by kernel_rfl) (by kernel_rfl) (by kernel_rfl) (by kernel_rfl)) hi hd p n c sz ob (mapE enc l)
 have hsw := @SpecX.swapper _ Tryz.prog 70 t e i ie (run_callFunc_extern Tryz.func70 (by kernel_rfl) (by kernel_rfl) (by kernel_rfl) (by kernel_rfl)) hi hd hie ke hke p n c sz ob (mapE enc l) sf hf
 have hln := @SpecX.rlen _ Tryz.prog 71 t e i (run_callFunc_extern Tryz.func71 (by kernel_rfl) (by kernel_rfl) (by kernel_rfl) (by kernel_rfl)) hi hd hpk p n c sz ob (mapE enc l)
 rw [← hsv] at hsw
 refine SpecX.of_HT Tryz.func55 rfl (by rw [Tryz.ntmps55]; simp) rfl Ty.hb55 ?_
 rw [Tryz.ntmps55]
 refine HT.seq ?_;refine HT.region ?_;simp (disch := first|omega|(simp<;>omega)|fail) [wr3, hil, hsb]
 refine stepK.mk (.callX _ _ _ 900 _ _ _ _ _ _ _ rfl (by first | rfl | simp [hil, hsb]) (by simp [hil]) (by first | rfl | simp) (hv) rfl) ?_
 simp (disch := first|omega|(simp<;>omega)|fail) [wr3, hil, hsb]
 refine HT.seq ?_;refine HT.region ?_;simp (disch := first|omega|(simp<;>omega)|fail) [wr3, hil, hsb]
 refine stepK.mk (.callX _ _ _ 900 _ _ _ _ _ _ _ rfl (by first | rfl | simp [hil, hsb]) (by simp [hil]) (by first | rfl | simp) (hsw) rfl) ?_
 simp (disch := first|omega|(simp<;>omega)|fail) [wr3, hil, hsb]
 refine HT.region ?_;simp (disch := first|omega|(simp<;>omega)|fail) [wr3, hil, hsb]
 refine stepK.mk (.callX _ _ _ 900 _ _ _ _ _ _ _ rfl (by first | rfl | simp [hil, hsb]) (by simp [hil]) (by first | rfl | simp) (hln) rfl) ?_
 simp (disch := first|omega|(simp<;>omega)|fail) [wr3, hil, hsb]
 refine stepK.mk (.callX _ _ _ 900 _ _ _ _ _ _ _ rfl (by first | rfl | simp [hil, hsb]) (by simp [hil]) (by first | rfl | simp) (stable_spec hx l _ rfl hl) rfl) ?_
 simp (disch := first|omega|(simp<;>omega)|fail) [wr3, hil, hsb]
theorem sliceStable [GI] {α : Type} {enc : α → List HV} {key : α → Int} {V : Value} {ob : Option Nat} {t e sz g : Nat} {lb : Array Value} (l : List α) {i ie : TypeInfo} {ke : Nat} (hN : l.length ≤ 1000000)
  (hless : ∀ (l' : List α) (i' j' : Nat) (i j : Int) (x y : α), l'.length = l.length → i = i' → j = j' → l'[i']? = some x → l'[j']? = some y → SpecX Tryz.prog g lb [i64 i, i64 j] V ob e sz (mapE enc l') (bo (decide (key x < key y))) (mapE enc l'))
  (hil : ∀ l : List α, isILL (mapE enc l) = true) (hi : Tryz.prog.info? t = some i) (hd : i.desc = .slice e) (hie : Tryz.prog.info? e = some ie) (hs : ie.size = sz) (hke : ∀ w, (Extern.Rtype.kind e).run Tryz.prog w = .ok ke w) (hpk : Tryz.prog.packed t = false) (hagg : ∀ w, (isAgg e).run Tryz.prog w = .ok true w) (hk9 : ∀ n, 2 ≤ n → swapperK n ie ke = 9) :
  SpecX Tryz.prog 55 #[] [.lit (.iface t V), fnv g lb] V ob e sz (mapE enc l) (.lit (.tuple #[])) (mapE enc (srtK key l)) := by
 have hlen : (mapE enc l).length = l.length := by simp [mapE]
 intro D w us hD hG hW hus hrep
 rcases hW.shape with ⟨h0, A, rfl⟩ | ⟨b, cap, rfl, rfl⟩
 ·have hl0 : l = [] := List.eq_nil_of_length_eq_zero (by rw [← hlen, h0]; rfl)
  subst hl0
  have hx : SortCtx Tryz.prog enc key (.slice A 0 0) ob e sz g 88 lb #[] 0 := ⟨hless, fun l' i' j' i j hl _ _ hi hj _ => by omega, hil, by omega⟩
  exact sliceStable0 hx [] rfl hi hd hie hke hpk (by rw [show swapperK 0 ie ke = 1 from rfl]; kernel_rfl) (by rw [show swapperK 0 ie ke = 1 from rfl]; rfl) D w us hD hG hW hus hrep
 ·rw [hlen] at hless hW hrep ⊢
  by_cases h1 : l.length = 0
  ·rw [h1] at hless hW hrep ⊢
   have hx : SortCtx Tryz.prog enc key (.slice (some ⟨b, 0, none⟩) 0 cap) (some b) e sz g 88 lb #[] 0 := ⟨hless, fun l' i' j' i j hl _ _ hi hj _ => by omega, hil, by omega⟩
   exact sliceStable0 hx l h1 hi hd hie hke hpk (by rw [show swapperK 0 ie ke = 1 from rfl]; kernel_rfl) (by rw [show swapperK 0 ie ke = 1 from rfl]; rfl) D w us hD hG hW hus hrep
  by_cases h2 : l.length = 1
  ·rw [h2] at hless hW hrep ⊢
   have hx : SortCtx Tryz.prog enc key (.slice (some ⟨b, 0, none⟩) 1 cap) (some b) e sz g 89 lb #[] 1 := ⟨hless, fun l' i' j' i j hl _ _ hi hj hne => by omega, hil, by omega⟩
   exact sliceStable0 hx l h2 hi hd hie hke hpk (by rw [show swapperK 1 ie ke = 2 from rfl]; kernel_rfl) (by rw [show swapperK 1 ie ke = 2 from rfl]; rfl) D w us hD hG hW hus hrep
  ·have h9 := hk9 l.length (by omega)
   have hswp : ∀ (l' : List α) (i' j' : Nat) (i j : Int), l'.length = l.length → i = i' → j = j' → i' < l'.length → j' < l'.length → i' ≠ j' → SpecX Tryz.prog 96 #[.slice (some ⟨b, 0, none⟩) l.length cap, typeHandle Tryz.prog e] [i64 i, i64 j] (.slice (some ⟨b, 0, none⟩) l.length cap) (some b) e sz (mapE enc l') (.lit (.tuple #[])) (mapE enc (sw l' i' j')) := by
    intro l' i' j' i j hl hi' hj' hli hlj _
    subst hi'; subst hj'
    have hlen' : (mapE enc l').length = l'.length := by simp [mapE]
    have := @SpecX.swap Tryz.prog _ 96 false (run_callFunc_extern Tryz.func96 (by kernel_rfl) (by kernel_rfl) (by kernel_rfl) (by kernel_rfl)) e sz b l.length cap ie hie hs hagg (mapE enc l') i' j' (by omega) (by omega)
    rw [show sw (mapE enc l') i' j' = mapE enc (sw l' i' j') from (sw_map enc l' i' j').symm] at this
    exact this
   have hx : SortCtx Tryz.prog enc key (.slice (some ⟨b, 0, none⟩) l.length cap) (some b) e sz g 96 lb #[.slice (some ⟨b, 0, none⟩) l.length cap, typeHandle Tryz.prog e] l.length := ⟨hless, hswp, hil, hN⟩
   exact sliceStable0 hx l rfl hi hd hie hke hpk (by rw [h9]; kernel_rfl) (by rw [h9]; rfl) D w us hD hG hW hus hrep
end Go.Hv
set_option linter.unusedVariables false
set_option linter.unusedSimpArgs false
/- Apply of documents: the reference (layer 28). -/
namespace Go.Hv
open Go Go.Hv Go.Proofs Go.RowKit
open Go.Proofs.YtcmomegkhoggpaaGreatDoor
theorem has_get (l : List Doc) (i : Int) : (getD' l i).isSome = hasId l i := by
 unfold getD' hasId
 rw [Bool.eq_iff_iff, List.find?_isSome, List.any_eq_true]
theorem apply8a {l : List Doc} {d : Delta} (h : d.dead.all (hasId l) = false) : applyD l d = ([], 8) := by unfold applyD; rw [if_pos h]
theorem apply8b {l : List Doc} {d : Delta} (h : d.dead.all (hasId l) = true) (h2 : d.moved.all (fun m => hasId l m.id) = false) : applyD l d = ([], 8) := by
 unfold applyD; rw [if_neg (by simp [h]), if_pos h2]
theorem apply_rest {l : List Doc} {d : Delta} (h : d.dead.all (hasId l) = true) (h2 : d.moved.all (fun m => hasId l m.id) = true) : applyD l d = if rightV (restV l d) ≠ 0 then ([], rightV (restV l d)) else (restV l d, 0) := by
 unfold applyD; rw [if_neg (by simp [h]), if_neg (by simp [h2])]
theorem lastOn_step (ms : List Doc) (x : Doc) {j : Nat} (hj : j < ms.length) : lastOn (ms.take (j + 1)) x = if ms[j].id = x.id then ms[j].on else lastOn (ms.take j) x := by
 unfold lastOn
 rw [List.take_succ_eq_append_getElem hj, List.foldl_append]; rfl
theorem kept_step (l : List Doc) (d : Delta) {k : Nat} (hk : k < l.length) : keptV (l.take (k + 1)) d = keptV (l.take k) d ++ (if aliveB d.dead l[k].id = true then [movV d.moved l[k]] else []) := by
 unfold keptV
 rw [List.take_succ_eq_append_getElem hk, List.filter_append, List.map_append]
 congr 1
 cases h : aliveB d.dead l[k].id <;> simp [List.filter_cons, h]
theorem kept_len (l : List Doc) (d : Delta) : (keptV l d).length ≤ l.length := by unfold keptV; rw [List.length_map]; exact List.length_filter_le _ _
theorem fold_len (l : List Doc) : (l.foldl insD []).length = l.length := by have := (foldIns l [] List.Pairwise.nil).2.1.length_eq; simpa using this
theorem lastOn_in (ms : List Doc) (x : Doc) : lastOn ms x = x.on ∨ ∃ m ∈ ms, lastOn ms x = m.on := by
 unfold lastOn
 suffices H : ∀ (ms : List Doc) (on : List (List UInt8)), ms.foldl (fun on m => if m.id = x.id then m.on else on) on = on ∨ ∃ m ∈ ms, ms.foldl (fun on m => if m.id = x.id then m.on else on) on = m.on from H ms x.on
 intro ms
 induction ms with
 | nil => intro on; exact .inl rfl
 | cons m ms ih =>
  intro on
  rw [List.foldl_cons]
  rcases ih (if m.id = x.id then m.on else on) with h | ⟨y, hy, h⟩
  ·by_cases e : m.id = x.id
   ·rw [if_pos e] at h ⊢; exact .inr ⟨m, by simp, h⟩
   ·rw [if_neg e] at h ⊢; exact .inl h
  ·exact .inr ⟨y, by simp [hy], h⟩
structure ApB (l : List Doc) (d : Delta) : Prop where
 l1 : l.length ≤ 1000
 l2 : ∀ x ∈ l, DocQ x
 n1 : d.new.length ≤ 1000
 n2 : ∀ x ∈ d.new, DocQ x
 d1 : d.dead.length ≤ 1000
 m1 : d.moved.length ≤ 1000
 m2 : ∀ x ∈ d.moved, DocQ x
theorem ApB.rest {l : List Doc} {d : Delta} (h : ApB l d) : (restV l d).length ≤ 2000 ∧ ∀ x ∈ restV l d, DocQ x := by
 have hk := kept_len l d
 have hp := (foldIns (keptV l d ++ d.new) [] List.Pairwise.nil).2.1
 constructor
 ·unfold restV; rw [fold_len, List.length_append]; have := h.l1; have := h.n1; omega
 ·intro x hx
  have hx2 : x ∈ keptV l d ++ d.new := by
   have := hp.mem_iff.1 hx
   simpa using this
  rcases List.mem_append.1 hx2 with hx2 | hx2
  ·obtain ⟨y, hy, rfl⟩ := List.mem_map.1 hx2
   have hq := h.l2 y (List.mem_filter.1 hy).1
   refine ⟨hq.1, hq.2.1, hq.2.2.1, ?_⟩
   rcases lastOn_in d.moved y with e | ⟨m, hm, e⟩
   ·show (lastOn d.moved y).length ≤ _ ∧ ∀ s ∈ lastOn d.moved y, _
    rw [e]; exact hq.2.2.2
   ·show (lastOn d.moved y).length ≤ _ ∧ ∀ s ∈ lastOn d.moved y, _
    rw [e]; exact (h.m2 m hm).2.2.2
  ·exact h.n2 x hx2
theorem ApB.docs {l : List Doc} {d : Delta} (h : ApB l d) : DocsB 140737488355328 (restV l d) := ⟨by have := h.rest.1; omega, fun x hx => h.rest.2 x hx⟩
end Go.Hv
set_option linter.unusedVariables false
set_option linter.unusedSimpArgs false
/- Apply of documents: the program (layer 28). -/
namespace Go.Hv
open Go Go.Hv Go.Proofs Go.RowKit
open Go.Proofs.YtcmomegkhoggpaaGreatDoor
/-! ### Maps by numbers -/
def dents (ks : List Int) (v : Int → HV) : List (HV × HV) := ks.map fun i => (i64 i, v i)
theorem tkI : tk Tryz.prog 3 = some (.int .i64) := by kernel_rfl
theorem keyEqI (a b : Int) : keyEq Tryz.prog 3 (i64 a) (i64 b) = some (decide (a = b)) := by
 unfold keyEq; rw [tkI]; simp
theorem dents_get (ks : List Int) (v : Int → HV) (j : Nat) : (dents ks v)[j]? = (ks[j]?).map fun p => (i64 p, v p) := by unfold dents; rw [List.getElem?_map]
@[simp] theorem dents_length (ks : List Int) (v : Int → HV) : (dents ks v).length = ks.length := by unfold dents; rw [List.length_map]
theorem find_dentsF (c : Int) (v : Int → HV) : ∀ (ks : List Int) (i : Nat), findHV Tryz.prog 3 (i64 c) (dents ks v) i = some (if c ∈ ks then some (i + ks.idxOf c, v c) else none)
 | [], i => by simp [dents, findHV]
 | k :: ks, i => by
  have ih := find_dentsF c v ks (i + 1)
  unfold dents at ih ⊢
  rw [List.map_cons, findHV, keyEqI]
  by_cases e : c = k
  ·subst e; simp
  ·simp only [e, decide_false, ih, List.mem_cons, false_or]
   have e2 : (k == c) = false := by simpa using fun x : k = c => e x.symm
   split
   ·rw [List.idxOf_cons, e2]; simp only [cond_false]; rw [show i + 1 + ks.idxOf c = i + (ks.idxOf c + 1) by omega]
   ·rfl
theorem find_dents (ks : List Int) (v : Int → HV) (c : Int) : findHV Tryz.prog 3 (i64 c) (dents ks v) 0 = some (if c ∈ ks then some (ks.idxOf c, v c) else none) := by
 rw [find_dentsF, Nat.zero_add]
theorem dents_in {ks : List Int} {v : Int → HV} {c : Int} (h : c ∈ ks) : (dents ks v)[ks.idxOf c]? = some (i64 c, v c) := by
 have hlt := List.idxOf_lt_length_iff.2 h
 rw [dents_get, List.getElem?_eq_getElem hlt, List.getElem_idxOf hlt]; rfl
theorem dents_set {ks : List Int} (hn : ks.Nodup) {v v' : Int → HV} {c : Int} (h : c ∈ ks) (x : HV) (hx : v' c = x) (hv : ∀ i, i ≠ c → v' i = v i) : (dents ks v).set (ks.idxOf c) (i64 c, x) = dents ks v' := by
 apply List.ext_getElem?
 intro i
 have hlt := List.idxOf_lt_length_iff.2 h
 rw [List.getElem?_set, dents_get, dents_get]
 split
 ·next e =>
  subst e
  rw [if_pos (by simpa using hlt), List.getElem?_eq_getElem hlt, List.getElem_idxOf hlt]
  simp [hx]
 ·next e =>
  rcases Nat.lt_or_ge i ks.length with hi | hi
  ·rw [List.getElem?_eq_getElem hi]
   have : ks[i] ≠ c := fun he => e (by rw [← he]; exact hn.idxOf_getElem i hi)
   simp [hv _ this]
  ·rw [List.getElem?_eq_none hi]; rfl
theorem dents_snoc {ks : List Int} {v v' : Int → HV} {c : Int} (h : c ∉ ks) (x : HV) (hx : v' c = x) (hv : ∀ i, i ≠ c → v' i = v i) : dents ks v ++ [(i64 c, x)] = dents (ks ++ [c]) v' := by
 unfold dents
 rw [List.map_append]
 congr 1
 ·refine List.map_congr_left fun p hp => ?_
  have : p ≠ c := fun e => h (e ▸ hp)
  rw [hv p this]
 ·simp [hx]
@[simp] theorem dents_nil (v : Int → HV) : dents [] v = [] := rfl
def trueI : Int → HV := fun _ => bo true
def onI (g : Int → List (List UInt8)) : Int → HV := fun i => .sl 1 false (strsHV (g i))
@[simp] theorem subM_true (id : Nat) (x y : HV) (ks : List Int) : subM id x y (dents ks trueI) = dents ks trueI := by
 unfold subM dents
 rw [List.map_map]
 exact List.map_congr_left fun k _ => by simp [HV.sub, trueI]
@[simp] theorem subM_on (id : Nat) (x y : HV) (ks : List Int) (g : Int → List (List UInt8)) : subM id x y (dents ks (onI g)) = dents ks (onI g) := by
 unfold subM dents
 rw [List.map_map]
 exact List.map_congr_left fun k _ => by simp [HV.sub, onI]
def updG (g : Int → List (List UInt8)) (c : Int) (o : List (List UInt8)) : Int → List (List UInt8) := fun i => if i = c then o else g i
theorem onI_upd (g : Int → List (List UInt8)) (c : Int) (o : List (List UInt8)) : onI (updG g c o) c = .sl 1 false (strsHV o) ∧ ∀ i, i ≠ c → onI (updG g c o) i = onI g i := by
 constructor
 ·simp [onI, updG]
 ·intro i hi; simp [onI, updG, hi]
structure DdS (l : List Doc) (dead : List Int) (k : Nat × List Int) : Prop where
 le : k.1 ≤ dead.length
 has : UpTo (hasId l) dead k.1
 nodup : k.2.Nodup
 mem : ∀ i, i ∈ k.2 ↔ i ∈ dead.take k.1
theorem DdS.succ {l : List Doc} {dead : List Int} {k : Nat} {ks : List Int} (h : DdS l dead (k, ks)) (hk : k < dead.length) (hh : hasId l dead[k] = true) : DdS l dead (k + 1, addK ks dead[k]) where
 le := hk
 has := h.has.succ hk hh
 nodup := addK_nodup h.nodup _
 mem := fun i => by
  dsimp only
  rw [addK_mem, h.mem i, List.take_succ_eq_append_getElem hk, List.mem_append, List.mem_singleton]
structure MvS (l : List Doc) (ms : List Doc) (k : Nat × List Int × (Int → List (List UInt8))) : Prop where
 le : k.1 ≤ ms.length
 has : UpTo (fun m => hasId l m.id) ms k.1
 nodup : k.2.1.Nodup
 on : ∀ x : Doc, lastOn (ms.take k.1) x = if x.id ∈ k.2.1 then k.2.2 x.id else x.on
theorem MvS.succ {l : List Doc} {ms : List Doc} {k : Nat} {ks : List Int} {g : Int → List (List UInt8)} (h : MvS l ms (k, ks, g)) (hk : k < ms.length) (hh : hasId l ms[k].id = true) :
  MvS l ms (k + 1, addK ks ms[k].id, updG g ms[k].id ms[k].on) where
 le := hk
 has := h.has.succ hk hh
 nodup := addK_nodup h.nodup _
 on := fun x => by
  dsimp only
  rw [lastOn_step ms x hk]
  by_cases e : ms[k].id = x.id
  ·rw [if_pos e, if_pos ((addK_mem _ _ _).2 (.inr e.symm))]
   unfold updG; rw [if_pos e.symm]
  ·rw [if_neg e, h.on x]
   have e2 : ¬ x.id = ms[k].id := fun h => e h.symm
   dsimp only
   by_cases hm : x.id ∈ ks
   ·rw [if_pos hm, if_pos ((addK_mem _ _ _).2 (.inl hm))]
    unfold updG; rw [if_neg e2]
   ·rw [if_neg hm, if_neg (fun h => ((addK_mem _ _ _).1 h).elim hm e2)]
/-! ### The sort -/
section
open Go.Stab
theorem packed22 : Tryz.prog.packed 22 = false := by kernel_rfl
noncomputable def ti22 : TypeInfo := (Tryz.prog.info? 22).get (by kernel_rfl)
noncomputable def ti50 : TypeInfo := (Tryz.prog.info? 50).get (by kernel_rfl)
theorem i22 : Tryz.prog.info? 22 = some ti22 := by kernel_rfl
theorem d22 : ti22.desc = .slice 50 := by kernel_rfl
theorem i50 : Tryz.prog.info? 50 = some ti50 := by kernel_rfl
theorem s50 : ti50.size = 5 := by kernel_rfl
theorem hp50 : ti50.hasPointers = true := by kernel_rfl
theorem by50 : (ti50.bytes == 8) = false := by kernel_rfl
theorem k50 (w : World) : (Extern.Rtype.kind 50).run Tryz.prog w = .ok 25 w := by kernel_rfl
theorem sk50 (n : Nat) (h : 2 ≤ n) : Lib.swapperK n ti50 25 = 9 := by
 unfold Lib.swapperK
 have h0 : (n == 0) = false := by simp; omega
 have h1 : (n == 1) = false := by simp; omega
 rw [h0, h1, hp50, by50]; rfl
end
set_option maxHeartbeats 2000000 in
theorem ALess_spec (l : List Doc) (i k : Nat) (hi : i < l.length) (hk : k < l.length) (hl : l.length ≤ 140737488355328) : Spec1 Tryz.prog 56 [i64 i, i64 k, .cptr [.sl 5 false (docsHV l)]] (bo (decide (l[i].id < l[k].id))) := by
 refine Spec1.of_HT Tryz.func56 rfl (by rw [Tryz.ntmps56]; simp) rfl ?_
 rw [Tryz.ntmps56]
 refine HT.seq ?_;refine HT.region ?_;simp (disch := first|omega|(simp<;>omega)|fail) [wr3]
 refine HT.seq ?_;refine HT.draw [.batch [0, 1, 2, 3, 4, 5, 6, 7, 8, 9, 10, 11]] (by kernel_rfl) ?_
 simp (disch := first|omega|(simp<;>omega)|fail) [wr3]
 refine HT.ret ?_;simp (disch := first|omega|(simp<;>omega)|fail) [wr3]
section
open Go.Stab
theorem ASort_spec {bB : Nat} {V : Value} {ob : Option Nat} (l : List Doc) (hN : l.length ≤ 1000000) (hob : ob ≠ some bB) (hV : V.oneCell' = true) :
  @SpecX (GI.box inferInstance bB V) Tryz.prog 55 #[] [.lit (.iface 22 V), .lit (.func (.func 56) #[] #[.pointer (some ⟨bB, 0, none⟩)])] V ob 50 5 (docsHV l) (.lit (.tuple #[])) (docsHV (srtK Doc.id l)) := by
 refine @sliceStable (GI.box inferInstance bB V) Doc Doc.enc Doc.id V ob 22 50 5 56 #[.pointer (some ⟨bB, 0, none⟩)] l ti22 ti50 25 hN
  (fun l' i' j' i j x y hl hi hj hx hy => by
   subst hi; subst hj
   have h1 := getElem?_lt hx
   have h2 := getElem?_lt hy
   rw [List.getElem?_eq_getElem h1] at hx
   rw [List.getElem?_eq_getElem h2] at hy
   cases hx; cases hy
   exact SpecX.less Ty.hb56 hob hV (@ALess_spec l' i' j' h1 h2 (by omega)))
  (fun l => isILL_docsHV l) i22 d22 i50 s50 k50 packed22 Tryz.isAgg50 sk50
theorem ASort1_spec {bB : Nat} {V : Value} {ob : Option Nat} (l : List Doc) (hN : l.length ≤ 1000000) (hob : ob ≠ some bB) :
  @SpecX (GI.box inferInstance bB V) Tryz.prog 55 #[] [.lit (.iface 22 V), .lit (.func (.func 56) #[] #[.pointer (some ⟨bB, 0, none⟩)])] V ob 50 5 (docsHV l) (.lit (.tuple #[])) (docsHV (l.foldl insD [])) := by
 rw [← sort_ins]
 intro D w us hD hG hW hus hrep
 have hV : V.oneCell' = true := by rcases hW.shape with ⟨_, A, rfl⟩ | ⟨b, cap, rfl, rfl⟩ <;> rfl
 exact (ASort_spec l hN hob hV) D w us hD hG hW hus hrep
end
theorem alive_mem {l : List Doc} {dead : List Int} {ks : List Int} (h : DdS l dead (dead.length, ks)) (i : Int) : aliveB dead i = !decide (i ∈ ks) := by
 unfold aliveB
 have := h.mem i
 dsimp only at this
 rw [List.take_length] at this
 simp [this]
theorem movV_in {l ms : List Doc} {ks : List Int} {g : Int → List (List UInt8)} (h : MvS l ms (ms.length, ks, g)) {x : Doc} (hx : x.id ∈ ks) : movV ms x = ⟨x.id, x.repo, x.path, x.text, g x.id⟩ := by
 unfold movV
 have := h.on x
 dsimp only at this
 rw [List.take_length, if_pos hx] at this
 rw [this]
theorem movV_out {l ms : List Doc} {ks : List Int} {g : Int → List (List UInt8)} (h : MvS l ms (ms.length, ks, g)) {x : Doc} (hx : x.id ∉ ks) : movV ms x = x := by
 unfold movV
 have := h.on x
 dsimp only at this
 rw [List.take_length, if_neg hx] at this
 rw [this]
set_option maxRecDepth 20000 in
set_option maxHeartbeats 8000000 in
theorem dApply_spec (l : List Doc) (d : Delta) (hb : ApB l d) : SpecT Tryz.prog 21 [.sl 5 false (docsHV l), .agg d.enc] [.sl 5 false (docsHV (applyD l d).1), i64 (applyD l d).2] := by
 have hl1 := hb.l1
 have hn1 := hb.n1
 have hd1 := hb.d1
 have hm1 := hb.m1
 refine SpecT.of_HT Tryz.func21 rfl (by rw [Tryz.ntmps21]; simp) (rs := [.tmp 4, .tmp 5]) rfl (by decide) ?_
 rw [Tryz.ntmps21]
 refine HT.seq ?_;refine HT.region ?_;simp (disch := first|omega|(simp<;>omega)|fail) [wr3]
 refine HT.seq ?_;refine HT.region ?_;simp (disch := first|omega|(simp<;>omega)|fail) [wr3]
 refine HT.seq ?_;refine HT.seq ?_;refine HT.region ?_;simp (disch := first|omega|(simp<;>omega)|fail) [wr3]
 refine HT.block ?_;refine HT.loopK (fun k : {k : Nat × List Int // DdS l d.dead k} => [.s 26 (i64 k.1.1), .s 6 (.mref 22), .o 22 (.map (dents k.1.2 trueI))]) [0, 3, 24, 25] [3] (fun k => d.dead.length - k.1.1) (⟨⟨0, []⟩, ⟨Nat.zero_le _, UpTo.zero _ _, List.nodup_nil, fun i => by simp⟩⟩) ?_ ?_
 ·simp (disch := first|omega|(simp<;>omega)|fail) [wr3, dents_nil]
 rintro ⟨⟨k, ks⟩, hk⟩
 simp (disch := first|omega|(simp<;>omega)|fail) [wr3]
 refine HT.seq ?_;refine HT.region ?_;simp (disch := first|omega|(simp<;>omega)|fail) [wr3]
 refine HT.seq ?_;refine HT.cond' ?_;simp (disch := first|omega|(simp<;>omega)|fail) [wr3]
 refine ⟨fun h27 => ?_, fun h27 => ?_⟩
 ·have hkl := hk.le
  dsimp only at hkl
  have hk' : k < d.dead.length := by omega
  refine HT.skip ?_;simp (disch := first|omega|(simp<;>omega)|fail) [wr3]
  refine HT.seq ?_;refine HT.block ?_;refine HT.seq ?_;refine HT.region ?_;simp (disch := first|omega|(simp<;>omega)|fail) [wr3]
  refine HT.seq ?_;refine HT.seq ?_;refine HT.region ?_;simp (disch := first|omega|(simp<;>omega)|fail) [wr3]
  refine stepK.mk (.callTf _ _ _ _ _ rfl Ty.hb23 rfl rfl (dGet_spec l d.dead[k] (by omega)) rfl) ?_
  simp (disch := first|omega|(simp<;>omega)|fail) [wr3]
  refine HT.seq ?_;refine HT.region ?_;simp (disch := first|omega|(simp<;>omega)|fail) [wr3]
  refine HT.cond' ?_;simp (disch := first|omega|(simp<;>omega)|fail) [wr3]
  refine ⟨fun h37 => ?_, fun h37 => ?_⟩
  ·refine HT.seq ?_;refine HT.region ?_;simp (disch := first|omega|(simp<;>omega)|fail) [wr3]
   refine HT.weaken (HS.le_wk 4 (.sl 5 false []) (by decide) rfl rfl (HLe.nilf 0 5 true)) ?_
   refine HT.ret ?_
   have hf : hasId l d.dead[k] = false := by rw [← has_get, h37]; rfl
   simp (disch := first|omega|(simp<;>omega)|fail) [wr3, apply8a (all_fail hk' hf)]
  ·have hh : hasId l d.dead[k] = true := by rw [← has_get]; simpa using h37
   refine HT.skip ?_;simp (disch := first|omega|(simp<;>omega)|fail) [wr3]
   by_cases cf : d.dead[k] ∈ ks
   ·have hf1 : findHV Tryz.prog 3 (.lit (.int .i64 d.dead[k])) (dents ks trueI) 0 = some (some (ks.idxOf d.dead[k], bo true)) := by have := find_dents ks trueI d.dead[k]; rw [if_pos cf] at this; exact this
    have hs1 := dents_set (v := trueI) (v' := trueI) hk.nodup cf (bo true) rfl (fun _ _ => rfl)
    have hg1 := dents_in (v := trueI) cf
    refine HT.region ?_;simp (disch := first|omega|(simp<;>omega)|fail) [wr3, hf1, hs1, hg1, tkI]
    refine HT.region ?_;simp (disch := first|omega|(simp<;>omega)|fail) [wr3]
    refine Round.mk' (⟨_, hk.succ hk' hh⟩) (by dsimp only; omega) rfl ?_
    simp (disch := first|omega|(simp<;>omega)|fail) [wr3, addK, cf]
   have hf1 : findHV Tryz.prog 3 (.lit (.int .i64 d.dead[k])) (dents ks trueI) 0 = some none := by have := find_dents ks trueI d.dead[k]; rw [if_neg cf] at this; exact this
   have hs1 := dents_snoc (v := trueI) (v' := trueI) cf (bo true) rfl (fun _ _ => rfl)
   refine HT.region ?_;simp (disch := first|omega|(simp<;>omega)|fail) [wr3, hf1, hs1, tkI]
   refine HT.region ?_;simp (disch := first|omega|(simp<;>omega)|fail) [wr3]
   refine Round.mk' (⟨_, hk.succ hk' hh⟩) (by dsimp only; omega) rfl ?_
   simp (disch := first|omega|(simp<;>omega)|fail) [wr3, addK, cf]
 ·have hkl := hk.le
  dsimp only at hkl
  obtain rfl : k = d.dead.length := by omega
  have g1 : d.dead.all (hasId l) = true := all_upto hk.has
  have hal := alive_mem hk
  refine HT.exit ?_
  simp (disch := first|omega|(simp<;>omega)|fail) [wr3]
  refine HT.seq ?_;refine HT.region ?_;simp (disch := first|omega|(simp<;>omega)|fail) [wr3]
  refine HT.seq ?_;refine HT.seq ?_;refine HT.region ?_;simp (disch := first|omega|(simp<;>omega)|fail) [wr3]
  refine HT.block ?_;refine HT.loopK (fun k : {k : Nat × List Int × (Int → List (List UInt8)) // MvS l d.moved k} => [.s 45 (i64 k.1.1), .s 6 (.mref 22), .o 22 (.map (dents ks trueI)), .s 11 (.mref 41), .o 41 (.map (dents k.1.2.1 (onI k.1.2.2)))]) [0, 3, 43, 44] [3] (fun k => d.moved.length - k.1.1) (⟨⟨0, [], fun _ => []⟩, ⟨Nat.zero_le _, UpTo.zero _ _, List.nodup_nil, fun x => by simp [lastOn]⟩⟩) ?_ ?_
  ·simp (disch := first|omega|(simp<;>omega)|fail) [wr3, dents_nil]
  rintro ⟨⟨k, k2, g⟩, hm⟩
  simp (disch := first|omega|(simp<;>omega)|fail) [wr3]
  refine HT.seq ?_;refine HT.region ?_;simp (disch := first|omega|(simp<;>omega)|fail) [wr3]
  refine HT.seq ?_;refine HT.cond' ?_;simp (disch := first|omega|(simp<;>omega)|fail) [wr3]
  refine ⟨fun h46 => ?_, fun h46 => ?_⟩
  ·have hkl := hm.le
   dsimp only at hkl
   have hk' : k < d.moved.length := by omega
   have hu := onI_upd g d.moved[k].id d.moved[k].on
   refine HT.skip ?_;simp (disch := first|omega|(simp<;>omega)|fail) [wr3]
   refine HT.seq ?_;refine HT.block ?_;refine HT.seq ?_;refine HT.region ?_;simp (disch := first|omega|(simp<;>omega)|fail) [wr3]
   refine HT.seq ?_;refine HT.seq ?_;refine HT.region ?_;simp (disch := first|omega|(simp<;>omega)|fail) [wr3]
   refine stepK.mk (.callTf _ _ _ _ _ rfl Ty.hb23 rfl rfl (dGet_spec l d.moved[k].id (by omega)) rfl) ?_
   simp (disch := first|omega|(simp<;>omega)|fail) [wr3]
   refine HT.seq ?_;refine HT.region ?_;simp (disch := first|omega|(simp<;>omega)|fail) [wr3]
   refine HT.cond' ?_;simp (disch := first|omega|(simp<;>omega)|fail) [wr3]
   refine ⟨fun h57 => ?_, fun h57 => ?_⟩
   ·refine HT.seq ?_;refine HT.region ?_;simp (disch := first|omega|(simp<;>omega)|fail) [wr3]
    refine HT.weaken (HS.le_wk 4 (.sl 5 false []) (by decide) rfl rfl (HLe.nilf 0 5 true)) ?_
    refine HT.ret ?_
    have hf : hasId l d.moved[k].id = false := by rw [← has_get, h57]; rfl
    simp (disch := first|omega|(simp<;>omega)|fail) [wr3, apply8b g1 (all_fail (q := fun m : Doc => hasId l m.id) hk' hf)]
   ·have hh : hasId l d.moved[k].id = true := by rw [← has_get]; simpa using h57
    refine HT.skip ?_;simp (disch := first|omega|(simp<;>omega)|fail) [wr3]
    by_cases cf : d.moved[k].id ∈ k2
    ·have hf1 : findHV Tryz.prog 3 (.lit (.int .i64 d.moved[k].id)) (dents k2 (onI g)) 0 = some (some (k2.idxOf d.moved[k].id, onI g d.moved[k].id)) := by have := find_dents k2 (onI g) d.moved[k].id; rw [if_pos cf] at this; exact this
     have hs1 := dents_set hm.nodup cf (.sl 1 false (strsHV d.moved[k].on)) hu.1 hu.2
     have hg1 := dents_in (v := onI g) cf
     refine HT.region ?_;simp (disch := first|omega|(simp<;>omega)|fail) [wr3, hf1, hs1, hg1, tkI]
     refine HT.region ?_;simp (disch := first|omega|(simp<;>omega)|fail) [wr3]
     refine Round.mk' (⟨_, hm.succ hk' hh⟩) (by dsimp only; omega) rfl ?_
     simp (disch := first|omega|(simp<;>omega)|fail) [wr3, addK, cf]
    have hf1 : findHV Tryz.prog 3 (.lit (.int .i64 d.moved[k].id)) (dents k2 (onI g)) 0 = some none := by have := find_dents k2 (onI g) d.moved[k].id; rw [if_neg cf] at this; exact this
    have hs1 := dents_snoc cf (.sl 1 false (strsHV d.moved[k].on)) hu.1 hu.2
    refine HT.region ?_;simp (disch := first|omega|(simp<;>omega)|fail) [wr3, hf1, hs1, tkI]
    refine HT.region ?_;simp (disch := first|omega|(simp<;>omega)|fail) [wr3]
    refine Round.mk' (⟨_, hm.succ hk' hh⟩) (by dsimp only; omega) rfl ?_
    simp (disch := first|omega|(simp<;>omega)|fail) [wr3, addK, cf]
  ·have hkl := hm.le
   dsimp only at hkl
   obtain rfl : k = d.moved.length := by omega
   have g2 : d.moved.all (fun m => hasId l m.id) = true := all_upto hm.has
   have hx := apply_rest g1 g2
   refine HT.exit ?_
   simp (disch := first|omega|(simp<;>omega)|fail) [wr3]
   refine HT.seq ?_;refine HT.region ?_;simp (disch := first|omega|(simp<;>omega)|fail) [wr3]
   refine HT.weaken (HS.le_boxown 16 0 900 50 5 0 rfl rfl (by decide) (by decide)) ?_
   refine HT.seq ?_;refine HT.seq ?_;refine HT.region ?_;simp (disch := first|omega|(simp<;>omega)|fail) [wr3]
   refine HT.block ?_;refine HT.loopK (fun k : {k : Nat // k ≤ l.length} => [.s 66 (i64 k), .o 16 (.box [.ref 900]), .o 900 (.row 50 5 (docsHV (keptV (l.take k) d))), .s 6 (.mref 22), .o 22 (.map (dents ks trueI)), .s 11 (.mref 41), .o 41 (.map (dents k2 (onI g)))]) [3, 16, 64, 65] [3] (fun k => l.length - k) (⟨0, by omega⟩) ?_ ?_
   ·simp (disch := first|omega|(simp<;>omega)|fail) [wr3, keptV]
   rintro ⟨k, hk4⟩
   simp (disch := first|omega|(simp<;>omega)|fail) [wr3]
   refine HT.seq ?_;refine HT.region ?_;simp (disch := first|omega|(simp<;>omega)|fail) [wr3]
   refine HT.seq ?_;refine HT.cond' ?_;simp (disch := first|omega|(simp<;>omega)|fail) [wr3]
   refine ⟨fun h67 => ?_, fun h67 => ?_⟩
   ·have hk' : k < l.length := by omega
    have hst := kept_step l d hk'
    have hkl2 := kept_len (l.take k) d
    have htl : (l.take k).length = k := by rw [List.length_take]; omega
    have hal2 := hal l[k].id
    refine HT.skip ?_;simp (disch := first|omega|(simp<;>omega)|fail) [wr3]
    refine HT.seq ?_;refine HT.block ?_;refine HT.seq ?_;refine HT.region ?_;simp (disch := first|omega|(simp<;>omega)|fail) [wr3]
    refine HT.seq ?_;refine HT.seq ?_
    by_cases cd : l[k].id ∈ ks
    ·have hf1 : findHV Tryz.prog 3 (.lit (.int .i64 l[k].id)) (dents ks trueI) 0 = some (some (ks.idxOf l[k].id, bo true)) := by have := find_dents ks trueI l[k].id; rw [if_pos cd] at this; exact this
     have ha : aliveB d.dead l[k].id = false := by rw [hal2]; simpa using cd
     have hmv : True := trivial
     refine HT.region ?_;simp (disch := first|omega|(simp<;>omega)|fail) [wr3, hf1, tkI]
     refine HT.cond' ?_;simp (disch := first|omega|(simp<;>omega)|fail) [wr3]
     refine HT.exit ?_
     simp (disch := first|omega|(simp<;>omega)|fail) [wr3]
     refine HT.region ?_;simp (disch := first|omega|(simp<;>omega)|fail) [wr3]
     refine Round.mk' (⟨k + 1, by omega⟩) (by dsimp only; omega) rfl ?_
     simp (disch := first|omega|(simp<;>omega)|fail) [wr3, hst, ha, hmv]
    have hf1 : findHV Tryz.prog 3 (.lit (.int .i64 l[k].id)) (dents ks trueI) 0 = some none := by have := find_dents ks trueI l[k].id; rw [if_neg cd] at this; exact this
    have ha : aliveB d.dead l[k].id = true := by rw [hal2]; simpa using cd
    refine HT.region ?_;simp (disch := first|omega|(simp<;>omega)|fail) [wr3, hf1, tkI]
    refine HT.cond' ?_;simp (disch := first|omega|(simp<;>omega)|fail) [wr3]
    refine HT.skip ?_;simp (disch := first|omega|(simp<;>omega)|fail) [wr3]
    refine HT.seq ?_;refine HT.seq ?_
    by_cases co : l[k].id ∈ k2
    ·have hf2 : findHV Tryz.prog 3 (.lit (.int .i64 l[k].id)) (dents k2 (onI g)) 0 = some (some (k2.idxOf l[k].id, .sl 1 false (strsHV (g l[k].id)))) := by have := find_dents k2 (onI g) l[k].id; rw [if_pos co] at this; exact this
     have hmv := movV_in hm co
     refine HT.region ?_;simp (disch := first|omega|(simp<;>omega)|fail) [wr3, hf2, tkI]
     refine HT.seq ?_;refine HT.region ?_;simp (disch := first|omega|(simp<;>omega)|fail) [wr3]
     refine HT.cond' ?_;simp (disch := first|omega|(simp<;>omega)|fail) [wr3]
     refine HT.region ?_;simp (disch := first|omega|(simp<;>omega)|fail) [wr3]
     refine HT.region ?_;simp (disch := first|omega|(simp<;>omega)|fail) [wr3]
     refine HT.region ?_;simp (disch := first|omega|(simp<;>omega)|fail) [wr3]
     refine Round.mk' (⟨k + 1, by omega⟩) (by dsimp only; omega) rfl ?_
     simp (disch := first|omega|(simp<;>omega)|fail) [wr3, hst, ha, hmv]
    have hf2 : findHV Tryz.prog 3 (.lit (.int .i64 l[k].id)) (dents k2 (onI g)) 0 = some none := by have := find_dents k2 (onI g) l[k].id; rw [if_neg co] at this; exact this
    have hmv := movV_out hm co
    refine HT.region ?_;simp (disch := first|omega|(simp<;>omega)|fail) [wr3, hf2, tkI]
    refine HT.seq ?_;refine HT.region ?_;simp (disch := first|omega|(simp<;>omega)|fail) [wr3]
    refine HT.cond' ?_;simp (disch := first|omega|(simp<;>omega)|fail) [wr3]
    refine HT.skip ?_;simp (disch := first|omega|(simp<;>omega)|fail) [wr3]
    refine HT.region ?_;simp (disch := first|omega|(simp<;>omega)|fail) [wr3]
    refine HT.region ?_;simp (disch := first|omega|(simp<;>omega)|fail) [wr3]
    refine Round.mk' (⟨k + 1, by omega⟩) (by dsimp only; omega) rfl ?_
    simp (disch := first|omega|(simp<;>omega)|fail) [wr3, hst, ha, hmv]
   ·obtain rfl : k = l.length := by omega
    have hkl2 := kept_len l d
    refine HT.exit ?_
    simp (disch := first|omega|(simp<;>omega)|fail) [wr3]
    have hrl := hb.rest.1
    refine HT.seq ?_;refine HT.region ?_;simp (disch := first|omega|(simp<;>omega)|fail) [wr3, ← docsHV_append]
    refine HT.seq ?_;refine HT.region ?_;simp (disch := first|omega|(simp<;>omega)|fail) [wr3]
    intro V ob
    refine stepK.mk (.callSt _ _ 900 16 _ _ _ _ _ _ _ rfl Ty.hb55 (by first | rfl | simp) (by first | rfl | simp) (by simp) (fun bB hob => ASort1_spec (keptV l d ++ d.new) (by rw [List.length_append]; omega) hob) rfl) ?_
    simp (disch := first|omega|(simp<;>omega)|fail) [wr3]
    refine HT.weaken (HS.le_ren 900 200 (by rfl) (by rfl)) ?_
    simp (disch := first|omega|(simp<;>omega)|fail) [wr3]
    refine HT.weaken (HS.le_frzref (id := 200) (xr := .sl 5 false (docsHV (restV l d))) (xm := .any) (by simp [restV])) ?_
    refine HT.seq ?_;refine HT.seq ?_;refine HT.region ?_;simp (disch := first|omega|(simp<;>omega)|fail) [wr3]
    refine stepK.mk (.call1 _ _ _ _ rfl Ty.hb11 rfl (Right_spec (restV l d) hb.docs) rfl rfl) ?_
    simp (disch := first|omega|(simp<;>omega)|fail) [wr3]
    refine HT.seq ?_;refine HT.region ?_;simp (disch := first|omega|(simp<;>omega)|fail) [wr3]
    refine HT.cond' ?_;simp (disch := first|omega|(simp<;>omega)|fail) [wr3]
    refine ⟨fun h100 => ?_, fun h100 => ?_⟩
    ·refine HT.seq ?_;refine HT.region ?_;simp (disch := first|omega|(simp<;>omega)|fail) [wr3]
     refine HT.weaken (HS.le_wk 4 (.sl 5 false []) (by decide) rfl rfl (HLe.nilf 0 5 true)) ?_
     refine HT.ret ?_;simp (disch := first|omega|(simp<;>omega)|fail) [wr3, hx, h100]
    ·refine HT.skip ?_;simp (disch := first|omega|(simp<;>omega)|fail) [wr3]
     refine HT.seq ?_;refine HT.region ?_;simp (disch := first|omega|(simp<;>omega)|fail) [wr3]
     refine HT.ret ?_;simp (disch := first|omega|(simp<;>omega)|fail) [wr3, hx, h100]
end Go.Hv
set_option linter.unusedVariables false
set_option linter.unusedSimpArgs false
/- The documents of a repository: the reference (layer 28). -/
namespace Go.Hv
open Go Go.Hv Go.Proofs Go.RowKit
open Go.Proofs.YtcmomegkhoggpaaGreatDoor
theorem addR_len (e : KeyT × List UInt8) : ∀ (l : List Doc) (inn : Bool), (addR e inn l).length ≤ l.length + 1
 | [], inn => by cases inn <;> simp [addR]
 | x :: r, inn => by
  unfold addR
  have h1 := addR_len e r true
  have h2 := addR_len e r inn
  rw [addR_true] at *
  split
  ·simp
  ·split
   ·simp
   ·simp only [List.length_cons]; omega
structure AdS (e : KeyT × List UInt8) (l : List Doc) (k : Nat × List Doc × Bool) : Prop where
 le : k.1 ≤ l.length
 run : addR e false l = k.2.1 ++ addR e k.2.2 (l.drop k.1)
theorem evRep_take {r : Repo} {k : Nat} (hk : k < r.brs.length) : (r.brs.take (k + 1)).flatMap (evBr r) = (r.brs.take k).flatMap (evBr r) ++ evBr r r.brs[k] := by
 rw [List.take_succ_eq_append_getElem hk, List.flatMap_append]; simp
def evP (r : Repo) (k j : Nat) (b : Brch) : List (KeyT × List UInt8) := (r.brs.take k).flatMap (evBr r) ++ (evBr r b).take j
theorem evP_zero (r : Repo) (k : Nat) (b : Brch) : evP r k 0 b = (r.brs.take k).flatMap (evBr r) := by simp [evP]
theorem evP_end {r : Repo} {k : Nat} (hk : k < r.brs.length) : evP r k (filesV r r.brs[k].name).1.length r.brs[k] = (r.brs.take (k + 1)).flatMap (evBr r) := by
 unfold evP
 rw [evRep_take hk, show (filesV r r.brs[k].name).1.length = (evBr r r.brs[k]).length by simp [evBr], List.take_length]
theorem evP_succ {r : Repo} {k j : Nat} {b : Brch} (hj : j < (filesV r b.name).1.length) : evP r k (j + 1) b = evP r k j b ++ [evF r b.name (filesV r b.name).1[j]] := by
 unfold evP
 have h : j < (evBr r b).length := by simpa [evBr] using hj
 rw [List.take_succ_eq_append_getElem h, ← List.append_assoc]
 simp [evBr]
theorem evP_len {r : Repo} (h : OkR r) {k j : Nat} (hk : k < r.brs.length) : (evP r k j r.brs[k]).length ≤ 32 * 9 := by
 have hf : ∀ b ∈ r.brs, (filesV r b.name).1.length ≤ 32 := fun b hb => by
  obtain ⟨i, hi, rfl⟩ := List.mem_iff_getElem.1 hb
  exact (rightT_sorted (files_ok h hi).2.1).2.1
 have h1 : ∀ l : List Brch, (∀ b ∈ l, b ∈ r.brs) → (l.flatMap (evBr r)).length ≤ 32 * l.length := by
  intro l
  induction l with
  | nil => simp
  | cons b l ih =>
   intro hs
   have h2 := ih fun x hx => hs x (by simp [hx])
   have h3 := hf b (hs b (by simp))
   rw [List.flatMap_cons, List.length_append, List.length_cons]
   have : (evBr r b).length = (filesV r b.name).1.length := by simp [evBr]
   omega
 unfold evP
 rw [List.length_append, List.length_take]
 have h4 := h1 (r.brs.take k) fun b hb => List.mem_of_mem_take hb
 rw [List.length_take] at h4
 have h5 := hf r.brs[k] (List.getElem_mem hk)
 have h6 : (evBr r r.brs[k]).length = (filesV r r.brs[k].name).1.length := by simp [evBr]
 have := h.len
 omega
theorem fold_add_len : ∀ (p : List (KeyT × List UInt8)) (a : List Doc), (p.foldl addD a).length ≤ a.length + p.length
 | [], a => by simp
 | e :: p, a => by
  have h1 := fold_add_len p (addD a e)
  have h2 := addR_len e a false
  rw [List.foldl_cons, List.length_cons]
  unfold addD at *
  omega
theorem add_B {r : Repo} (h : OkR r) {p : List (KeyT × List UInt8)} (hpl : p.length ≤ 100000) (hp : ∀ e ∈ p, e.1.1 = r.name ∧ e.1.2.1.length ≤ 60 ∧ e.1.2.2.length ≤ 2000 ∧ e.2.length ≤ 60) :
  (p.foldl addD []).length ≤ p.length ∧ ∀ d ∈ p.foldl addD [], DocQ d ∧ d.on.length ≤ p.length := by
 obtain ⟨h1, h2⟩ := addD_all r.name p fun e he => (hp e he).1
 have hn : r.name.length ≤ 60 := by
  have := h.name
  unfold nameV pathV at this
  simp only [Bool.and_eq_true, decide_eq_true_eq] at this
  omega
 have hkl := keysE_length p
 constructor
 ·have := fold_add_len p []; simpa using this
 ·intro d hd
  obtain ⟨k, hk, rfl⟩ := (h2 d).1 hd
  obtain ⟨e, he, rfl⟩ := (keysE_mem p k).1 hk
  have hpe := hp e he
  have ho := onE_length p e.1
  refine ⟨⟨by show e.1.1.length ≤ _; rw [hpe.1]; omega, by show e.1.2.1.length ≤ _; omega, by show e.1.2.2.length ≤ _; omega, ?_, fun s hs => ?_⟩, ho⟩
  ·show (onE p e.1).length ≤ _
   omega
  ·have hs : s ∈ onE p e.1 := hs
   unfold onE at hs
   obtain ⟨x, hx, rfl⟩ := List.mem_map.1 hs
   have := (hp x (List.mem_filter.1 hx).1).2.2.2
   omega
theorem ev_ok {r : Repo} (h : OkR r) {b : Brch} (hb : b ∈ r.brs) {e : KeyT × List UInt8} (he : e ∈ evBr r b) : e.1.1 = r.name ∧ e.1.2.1.length ≤ 60 ∧ e.1.2.2.length ≤ 2000 ∧ e.2.length ≤ 60 := by
 obtain ⟨f, hf, rfl⟩ := List.mem_map.1 he
 obtain ⟨i, hi, rfl⟩ := List.mem_iff_getElem.1 hb
 obtain ⟨g1, g2, g3⟩ := files_ok h hi
 obtain ⟨t, ht⟩ := g3 f hf
 obtain ⟨bl, hbl, rfl⟩ := getB_mem ht
 have hp := ((rightT_sorted g2).2.2 f hf).1
 have ht2 := h.texts bl hbl
 have hnm := h.names _ (List.getElem_mem hi)
 unfold pathV at hp
 unfold nameV pathV at hnm
 unfold textV at ht2
 simp only [Bool.and_eq_true, decide_eq_true_eq] at hp hnm ht2
 refine ⟨rfl, hp.1, ?_, by exact hnm.1.1⟩
 show ((getB r.store.blobs f.blob).getD []).length ≤ 2000
 rw [ht]; exact ht2.1
theorem kb_ev {r : Repo} (h : OkR r) {b : Brch} (hb : b ∈ r.brs) {e : KeyT × List UInt8} (he : e ∈ evBr r b) : KB e.1 := by
 have ho := ev_ok h hb he
 have hn : r.name.length ≤ 60 := by
  have := h.name
  unfold nameV pathV at this
  simp only [Bool.and_eq_true, decide_eq_true_eq] at this
  omega
 refine ⟨by rw [ho.1]; omega, by have := ho.2.1; omega, by have := ho.2.2.1; omega⟩
theorem evF_mem {r : Repo} {b : Brch} {j : Nat} (hj : j < (filesV r b.name).1.length) : evF r b.name (filesV r b.name).1[j] ∈ evBr r b := List.mem_map.2 ⟨_, List.getElem_mem hj, rfl⟩
end Go.Hv
set_option linter.unusedVariables false
set_option linter.unusedSectionVars false
set_option linter.unusedSimpArgs false
/- The shelf's contracts of sort.Slice, as contracts over a pinned row (the comparison reads the row through its box). -/
namespace Go.Hv
open Go Go.RowKit
open Go.Sort (putRow putCells Holds grow mapBlock onCells HoldsK flatK putRowK)
variable {P : Program}
theorem putRowK_self {α : Type} [Inhabited α] (enc : α → List Value) (k : Nat) (w : World) (b : Nat) (d : Array α) (h : HoldsK enc k w b 0 d) : putRowK enc k w b 0 d = w := Go.Sort.putRow_self id w b 0 _ h
theorem sort_unique {α : Type} [Inhabited α] {lt : α → α → Bool} {d d' : Array α} {l l' : List α} (hd : d = l.toArray) (hp : Go.Sort.PermIn 0 d.size d d') (hs : Go.Sort.SortedIn lt 0 d.size d') (hlp : l'.Perm l) (hls : l'.Pairwise fun a b => lt b a = false)
  (ha : ∀ a b, a ∈ l → b ∈ l → lt a b = false → lt b a = false → a = b) : d' = l'.toArray := by
 obtain ⟨h1, _, h3⟩ := hp
 subst hd
 have e1 : (d'.extract 0 l.toArray.size).toList = d'.toList := by rw [← h1, Array.extract_size]
 have e2 : (l.toArray.extract 0 l.toArray.size).toList = l := by simp
 rw [e1, e2] at h3
 have : d'.toList = l' := by
  refine List.Perm.eq_of_pairwise (le := fun a b => lt b a = false) (fun a b h4 h5 h6 h7 => ?_) ?_ hls (h3.trans hlp.symm)
  ·exact ha a b (h3.mem_iff.1 h4) (hlp.mem_iff.1 h5) h7 h6
  ·rw [List.pairwise_iff_getElem]
   intro i j hi hj hij
   have := hs i j (Nat.zero_le _) hij (by rw [← h1]; simpa using hj)
   rw [getElem!_pos d' j (by simpa using hj), getElem!_pos d' i (by simpa using hi)] at this
   simpa using this
 rw [← this]
theorem SpecX.of_rowK {G0 : GI} {α : Type} [Inhabited α] {encV : α → List Value} {encH : α → List HV} {k e f bB : Nat} {V : Value} {ob : Option Nat} {l l' : List α} {xs : List HV} {us : Array Value}
    (hdet : ∀ (w : World) (dead : Nat → Prop) (x : α) (j : Nat) (c : HV) (u : Value), (encH x)[j]? = some c → IRep w dead c u → (encV x)[j]? = some u)
    (hrep' : ∀ (w : World) (dead : Nat → Prop) (x : α) (j : Nat) (c : HV), (encH x)[j]? = some c → ∃ u, (encV x)[j]? = some u ∧ IRep w dead c u)
    (hkV : ∀ x, (encV x).length = k) (hkH : ∀ x, (encH x).length = k) (h1 : ∀ x, ∀ v ∈ encV x, v.oneCell' = true) (hI : isILL (l'.map encH) = true) (hl : l'.length = l.length) (hbody : hasBody P f = true) (hob : ob ≠ some bB) (hV : V.oneCell' = true)
    (hargs : ∀ (w : World) (dead : Nat → Prop) (us' : Array Value), us'.size = xs.length → (∀ (j : Nat) (c : HV) (u : Value), xs[j]? = some c → us'[j]? = some u → IRep w dead c u) → us' = us)
    (H : ∀ (w : World) (b c : Nat), V = .slice (some ⟨b, 0, none⟩) l.length c → HoldsK encV k w b 0 l.toArray → b < w.heap.size → w.cell? ⟨bB, 0, none⟩ = some V → bB < w.heap.size → bB ≠ b → Calls P f us w fun x w' => x = .returned (.tuple #[]) ∧ ∃ n os, w' = grow (putRowK encV k (Go.Sort.ahead w n) b 0 l'.toArray) os)
    (H0 : ∀ (A : Option Addr) (w : World), V = .slice A 0 0 → l = [] → Calls P f us w fun x w' => x = .returned (.tuple #[]) ∧ ∃ os, w' = grow w os) :
    @SpecX (GI.box G0 bB V) P f #[] xs V ob e k (l.map encH) (.lit (.tuple #[])) (l'.map encH) := by
  letI : GI := G0.box bB V
  intro D w us' hD hG hW hus hrep
  obtain rfl := hargs w _ us' hus hrep
  refine .inl ⟨hbody, ?_⟩
  rw [Array.append_empty]
  have hbl : bB < w.heap.size := (hG.sub bB (.inr rfl)).1
  have hcell : w.cell? ⟨bB, 0, none⟩ = some V := hG.g.2
  obtain ⟨q0, hes, hb3, hz0, hlz, R⟩ := hW
  have hz' : ∀ x ∈ l'.map encH, x.length = k := fun x hx => by obtain ⟨p, _, rfl⟩ := List.mem_map.1 hx; exact hkH p
  rcases R with ⟨z1, ⟨A, z2⟩, z3⟩ | ⟨b, cap, C, fr, z1, z2, z3, z4, z5, z6, z7, z8, z9⟩
  · have hl0 : l = [] := by simpa using z1
    have hl0' : l' = [] := List.eq_nil_of_length_eq_zero (by rw [hl, hl0]; rfl)
    refine (H0 A w z2 hl0).mono ?_
    rintro x w' ⟨rfl, os, rfl⟩
    have hs : w.heap.size ≤ (grow w os).heap.size := by simp [grow]
    have hh : ∀ k, k < w.heap.size → (grow w os).heap[k]? = w.heap[k]? := fun k hk => by simp only [grow]; rw [Array.getElem?_append_left hk]
    refine ⟨.tuple #[], rfl, ⟨rfl, rfl, rfl, hs, fun k hk => hh k hk.1⟩, ⟨q0, by rw [hl0']; rfl, fun b hb => ⟨(hb3 b hb).1, Nat.lt_of_lt_of_le (hb3 b hb).2 hs⟩, hz0, hz', .inl ⟨by rw [hl0']; rfl, ⟨A, z2⟩, z3⟩⟩, .lit _⟩
  · have z1 : V = .slice (some ⟨b, 0, none⟩) (l.map encH).length cap := z1
    have z2 : ob = some b := z2
    rw [List.length_map] at z1 z5
    have hbb : b < w.heap.size := lt_of_get z3
    have hbB : bB ≠ b := fun h => hob (by rw [z2, h])
    have hle : l.length * k ≤ C.size := by rw [z7]; exact Nat.mul_le_mul_right _ z5
    have hfl : ∀ (d : List α) (i j : Nat) (x : α) (u : Value), d[i]? = some x → (encV x)[j]? = some u → (flatK encV k d.toArray)[i * k + j]? = some u := fun d i j x u hi hj => by
      have hjk : j < k := by rw [← hkV x]; exact getElem?_lt hj
      have hil := getElem?_lt hi
      have hlt : i * k + j < d.length * k := flat_lt hil hjk
      have h2 : i * k + j < (flatK encV k d.toArray).size := by simpa using hlt
      have h3 := Go.Sort.get_flatK encV k d.toArray (i * k + j) (by simpa using hlt)
      have e1 : (i * k + j) / k = i := by rw [Nat.mul_comm, Nat.mul_add_div (by omega), Nat.div_eq_of_lt hjk]; rfl
      have e2 : (i * k + j) % k = j := by rw [Nat.mul_comm, Nat.mul_add_mod, Nat.mod_eq_of_lt hjk]
      rw [e1, e2, getElem!_pos (flatK encV k d.toArray) _ h2] at h3
      rw [Array.getElem?_eq_getElem h2, h3]
      have h4 : d.toArray[i]! = x := by
        rw [getElem!_pos d.toArray i (by simpa using hil)]
        rw [List.getElem?_eq_getElem hil] at hi
        simpa using Option.some.inj hi
      rw [h4]
      have h5 := getElem?_lt hj
      rw [getElem!_pos (encV x) j h5]
      rw [List.getElem?_eq_getElem h5] at hj
      exact hj
    have hH : HoldsK encV k w b 0 l.toArray := by
      intro t ht
      have ht' : t < l.length * k := by simpa using ht
      have hk0 : 0 < k := by rcases Nat.eq_zero_or_pos k with h | h; · rw [h] at ht'; simp at ht'
                             · exact h
      have hi : t / k < l.length := Nat.div_lt_of_lt_mul (by rw [Nat.mul_comm]; exact ht')
      have hj : t % k < k := Nat.mod_lt _ hk0
      have hx := List.getElem?_eq_getElem hi
      have hc : (encH l[t / k])[t % k]? = some ((encH l[t / k])[t % k]'(by rw [hkH]; exact hj)) := List.getElem?_eq_getElem (by rw [hkH]; exact hj)
      obtain ⟨u, hu, hr⟩ := z9 (t / k) (t % k) _ _ (by rw [List.getElem?_map, hx]; rfl) hc
      have hci : isI ((encH l[t / k])[t % k]'(by rw [hkH]; exact hj)) = true := (isIL_iff _).1 (List.all_eq_true.1 hes _ (List.mem_map.2 ⟨_, List.getElem_mem hi, rfl⟩)) _ (List.getElem_mem _)
      have hv := hdet _ _ _ _ _ _ hc (hr.toI hci)
      have hf := hfl l _ _ _ _ hx hv
      have et : t / k * k + t % k = t := by rw [Nat.mul_comm]; exact Nat.div_add_mod t k
      rw [et] at hf hu
      have hlt : t < (flatK encV k l.toArray).size := ht
      rw [Nat.zero_add]
      constructor
      · rw [getElem!_pos (flatK encV k l.toArray) t hlt]
        rw [Array.getElem?_eq_getElem hlt] at hf
        simp only [World.cell?, z3]
        show C[t]? = _
        rw [hu, ← hf]; rfl
      · have hC : t < C.size := by omega
        have := z4 t hC
        simp only [World.frozen?, z3]
        simp only [Bool.and_eq_false_iff, decide_eq_false_iff_not]
        omega
    refine (H w b cap z1 hH hbb hcell hbl hbB).mono ?_
    rintro x w' ⟨rfl, n, os, rfl⟩
    have hsz : w.heap.size ≤ (grow (putRowK encV k (Go.Sort.ahead w n) b 0 l'.toArray) os).heap.size := by simp [grow, putRowK, putRow, mapBlock, Go.Sort.ahead]
    have hkeep : ∀ i, i < w.heap.size → i ≠ b → (grow (putRowK encV k (Go.Sort.ahead w n) b 0 l'.toArray) os).heap[i]? = w.heap[i]? := fun i hi hne => by
      unfold putRowK
      rw [heap_grown w n b _ os i hi, if_neg (fun h => hne h.symm)]
    have hnew : (grow (putRowK encV k (Go.Sort.ahead w n) b 0 l'.toArray) os).heap[b]? = some (.cells (putCells id 0 (flatK encV k l'.toArray) C) e fr) := by
      unfold putRowK
      rw [heap_grown w n b _ os b hbb, if_pos rfl, z3]; rfl
    have hs' : (flatK encV k l'.toArray).size = l.length * k := by simp [hl]
    have hpg : ∀ i, i < (flatK encV k l'.toArray).size → (putCells id 0 (flatK encV k l'.toArray) C)[i]? = (flatK encV k l'.toArray)[i]? := fun i hi => by
      unfold putCells
      rw [Array.getElem?_mapIdx, Array.getElem?_eq_getElem (show i < C.size by omega)]
      simp only [Option.map_some]
      rw [if_pos (by omega), Nat.sub_zero, getElem!_pos (flatK encV k l'.toArray) i hi, Array.getElem?_eq_getElem hi]; rfl
    refine ⟨.tuple #[], rfl, ⟨rfl, rfl, rfl, hsz, fun i hi => hkeep i hi.1 (fun h => hi.2 (by rw [z2, h]))⟩, ⟨q0, hI, fun b hb => ⟨(hb3 b hb).1, Nat.lt_of_lt_of_le (hb3 b hb).2 hsz⟩, hz0, hz', .inr ⟨b, cap, putCells id 0 (flatK encV k l'.toArray) C, fr, ?_, z2, hnew, ?_, ?_, z6, ?_, ?_, ?_⟩⟩, .lit _⟩
    · show V = _; rw [z1, List.length_map, hl]
    · intro i hi; exact z4 i (by simpa [putCells] using hi)
    · rw [List.length_map]; omega
    · simpa [putCells] using z7
    · intro j u hu
      by_cases hj : j < (flatK encV k l'.toArray).size
      · rw [hpg j hj] at hu
        have hj' : j < l'.length * k := by simpa using hj
        have hk0 : 0 < k := by rcases Nat.eq_zero_or_pos k with h | h; · rw [h] at hj'; simp at hj'
                               · exact h
        have hi : j / k < l'.length := Nat.div_lt_of_lt_mul (by rw [Nat.mul_comm]; exact hj')
        have hjm : j % k < k := Nat.mod_lt _ hk0
        have hv : (encV l'[j / k])[j % k]? = some ((encV l'[j / k])[j % k]'(by rw [hkV]; exact hjm)) := List.getElem?_eq_getElem (by rw [hkV]; exact hjm)
        have hf := hfl l' _ _ _ _ (List.getElem?_eq_getElem hi) hv
        have et : j / k * k + j % k = j := by rw [Nat.mul_comm]; exact Nat.div_add_mod j k
        rw [et, hu] at hf
        rw [Option.some.inj hf]
        exact h1 _ _ (List.getElem_mem _)
      · unfold putCells at hu
        rw [Array.getElem?_mapIdx] at hu
        cases hc : C[j]? with
        | none => rw [hc] at hu; cases hu
        | some y =>
          rw [hc] at hu
          simp only [Option.map_some] at hu
          rw [if_neg (by omega)] at hu
          cases hu
          exact z8 j _ hc
    · intro i j x c hx hc
      obtain ⟨y, hy, rfl⟩ := List.mem_map.1 (List.mem_of_getElem? hx)
      rw [List.getElem?_map] at hx
      obtain ⟨y', hy', hye⟩ := Option.map_eq_some_iff.1 hx
      rw [← hye] at hc
      obtain ⟨u, hu, hr⟩ := hrep' (grow (putRowK encV k (Go.Sort.ahead w n) b 0 l'.toArray) os) (fun b => D b ∨ ob = some b) y' j c hc
      have hf := hfl l' i j y' u hy' hu
      have hlt : i * k + j < (flatK encV k l'.toArray).size := by
        rcases Nat.lt_or_ge (i * k + j) (flatK encV k l'.toArray).size with h | h
        · exact h
        · rw [Array.getElem?_eq_none h] at hf; cases hf
      exact ⟨u, by rw [hpg _ hlt]; exact hf, .imm hr⟩
end Go.Hv
set_option linter.unusedVariables false
set_option linter.unusedSimpArgs false
namespace Go.Hv
open Go Go.Proofs Go.RowKit
open Go.Proofs.YtcmomegkhoggpaaGreatDoor
set_option maxHeartbeats 4000000 in
theorem KLess (blk off c Bs size : Nat) (W : World) (A B : Nat → List UInt8) (hs : W.cell? ⟨Bs, 0, none⟩ = some (.slice (some ⟨blk, off, none⟩) size c))
  (hc1 : ∀ t, t < size → W.cell? ⟨blk, off + t * 3 + 1, none⟩ = some (.string ⟨(A t).toArray⟩)) (hc2 : ∀ t, t < size → W.cell? ⟨blk, off + t * 3 + 2, none⟩ = some (.string ⟨(B t).toArray⟩)) (i j : Nat) (hi : i < size) (hj : j < size) (_hsz : size < 4611686018427387904) :
  Calls Tryz.prog 50 #[.int .i64 i, .int .i64 j, .pointer (some ⟨Bs, 0, none⟩)] W fun e w' => e = .returned (.bool (if A i = A j then Op.bytesLess (B i) (B j) else Op.bytesLess (A i) (A j))) ∧ ∃ q, w' = W.drewN q := by
 have ci := hc1 i hi
 have cj := hc1 j hj
 have di := hc2 i hi
 have dj := hc2 j hj
 by_cases h : A i = A j
 ·go_enter Tryz.func50, Tryz.ntmps50
  go_wp2
  go_quiet (fail)
  go_wp2
  go_quiet (fail)
  go_wp2
  go_ret
  exact ⟨rfl, _, rfl⟩
 ·go_enter Tryz.func50, Tryz.ntmps50
  go_wp2
  go_quiet (fail)
  go_wp2
  ·go_quiet (fail)
   go_wp2
   go_ret
   exact ⟨rfl, _, rfl⟩
  ·exfalso
   next hx _ _ => simp [h] at hx

open Go.Sort (putRow putCells Holds grow mapBlock onCells HoldsK flatK putRowK holdsK_putRowK holdsK_ahead holdsK_grow putRowK_grow cell?_putRowK_other cell?_grow)
def encKV (k : KeyT) : List Value := [.string ⟨k.1.toArray⟩, .string ⟨k.2.1.toArray⟩, .string ⟨k.2.2.toArray⟩]
theorem ltK_swo : Go.Sort.SWO ltK where
 irrefl := ltK_irrefl
 trans _ _ _ h1 h2 := ltK_trans h1 h2
 ntrans x y z h1 h2 := by
  cases h3 : ltK x z with
  | false => rfl
  | true =>
   cases h4 : ltK y z with
   | true => rw [h4] at h2; cases h2
   | false =>
    have hyz : y.2 = z.2 := by
     cases h5 : ltK z y with
     | true => rw [ltK_trans h3 h5] at h1; cases h1
     | false =>
      have : ((y.1, y.2) : KeyT) = (y.1, z.2) := ltK_tri (a := (y.1, y.2)) (b := (y.1, z.2)) rfl h4 h5
      rw [Prod.mk.injEq] at this
      exact this.2
    have : ltK x z = ltK x y := by unfold ltK; rw [hyz]
    rw [this, h1] at h3; cases h3
noncomputable def tk56 : TypeInfo := (Tryz.prog.info? 56).get (by kernel_rfl)
noncomputable def tk63 : TypeInfo := (Tryz.prog.info? 63).get (by kernel_rfl)
theorem ik56 : Tryz.prog.info? 56 = some tk56 := by kernel_rfl
theorem dk56 : tk56.desc = .slice 63 := by kernel_rfl
theorem ik63 : Tryz.prog.info? 63 = some tk63 := by kernel_rfl
theorem sk63 : tk63.size = 3 := by kernel_rfl
theorem hp63 : tk63.hasPointers = true := by kernel_rfl
theorem by63 : (tk63.bytes == 8) = false := by kernel_rfl
theorem kk63 (w : World) : (Extern.Rtype.kind 63).run Tryz.prog w = .ok 25 w := by kernel_rfl
theorem packed56 : Tryz.prog.packed 56 = false := by kernel_rfl
theorem sw63 (n : Nat) (h : 2 ≤ n) : Lib.swapperK n tk63 25 = 9 := by
 unfold Lib.swapperK
 have h0 : (n == 0) = false := by simp; omega
 have h1 : (n == 1) = false := by simp; omega
 rw [h0, h1, hp63, by63]; rfl
theorem us2 {w : World} {dead : Nat → Prop} {us : Array Value} {a b : Value} (hus : us.size = 2) (h : ∀ (j : Nat) (c : HV) (u : Value), [HV.lit a, .lit b][j]? = some c → us[j]? = some u → IRep w dead c u) : us = #[a, b] := by
 have h0 := Array.getElem?_eq_getElem (show 0 < us.size by omega)
 have h1 := Array.getElem?_eq_getElem (show 1 < us.size by omega)
 apply Array.ext_getElem?
 intro k
 match k with
 | 0 => rw [h0, irep_lit (h 0 _ _ rfl h0)]; rfl
 | 1 => rw [h1, irep_lit (h 1 _ _ rfl h1)]; rfl
 | k + 2 => rw [Array.getElem?_eq_none (by omega), Array.getElem?_eq_none (by simp)]
def sortedK (l : List KeyT) : List KeyT := l.mergeSort fun a b => !ltK b a
theorem sortedK_perm (l : List KeyT) : (sortedK l).Perm l := List.mergeSort_perm _ _
theorem sortedK_pw (l : List KeyT) : (sortedK l).Pairwise fun a b => ltK b a = false := by
 have := List.pairwise_mergeSort (le := fun a b : KeyT => !ltK b a) (fun a b c h1 h2 => by
  simp only [Bool.not_eq_true'] at *
  exact ltK_swo.ntrans _ _ _ h2 h1) (fun a b => by
  cases h : ltK b a with
  | false => simp
  | true =>
   cases h2 : ltK a b with
   | false => simp
   | true => have := ltK_trans h h2; rw [ltK_irrefl] at this; cases this) l
 exact this.imp fun h => by simpa using h
theorem KSort_spec {G0 : GI} {bB : Nat} {V : Value} {ob : Option Nat} {n : List UInt8} (l : List KeyT) (hn : ∀ k ∈ l, k.1 = n) (hN : l.length < 4611686018427387904) (hob : ob ≠ some bB) (hV : V.oneCell' = true) :
  @SpecX (GI.box G0 bB V) Tryz.prog 49 #[] [.lit (.iface 56 V), .lit (.func (.func 50) #[] #[.pointer (some ⟨bB, 0, none⟩)])] V ob 63 3 (keysHV l) (.lit (.tuple #[])) (keysHV (sortedK l)) := by
 have hdet : ∀ (w : World) (dead : Nat → Prop) (x : KeyT) (j : Nat) (c : HV) (u : Value), (encK3 x)[j]? = some c → IRep w dead c u → (encKV x)[j]? = some u := fun w dead x j c u hc hr => by
  match j with
  | 0 => simp at hc; subst hc; rw [irep_str hr]; rfl
  | 1 => simp at hc; subst hc; rw [irep_str hr]; rfl
  | 2 => simp at hc; subst hc; rw [irep_str hr]; rfl
  | j + 3 => simp at hc
 have hrep : ∀ (w : World) (dead : Nat → Prop) (x : KeyT) (j : Nat) (c : HV), (encK3 x)[j]? = some c → ∃ u, (encKV x)[j]? = some u ∧ IRep w dead c u := fun w dead x j c hc => by
  match j with
  | 0 => simp at hc; subst hc; exact ⟨_, rfl, .str _⟩
  | 1 => simp at hc; subst hc; exact ⟨_, rfl, .str _⟩
  | 2 => simp at hc; subst hc; exact ⟨_, rfl, .str _⟩
  | j + 3 => simp at hc
 refine SpecX.of_rowK (us := #[.iface 56 V, .func (.func 50) #[] #[.pointer (some ⟨bB, 0, none⟩)]]) hdet hrep (fun _ => rfl) (fun _ => rfl) (fun x v hv => by simp [encKV] at hv; rcases hv with rfl | rfl | rfl <;> rfl) (isILL_keysHV _) (sortedK_perm l).length_eq (by kernel_rfl) hob hV (fun w dead us' h1 h2 => us2 h1 h2) (fun w b c hVe hH hb hc hbl hne => ?_) (fun A w hVe hl => ?_)
 ·subst hVe
  by_cases h2 : 2 ≤ l.length
  ·have hless : Go.Proofs.LessReadsK Tryz.prog 50 #[.pointer (some ⟨bB, 0, none⟩)] encKV 3 ltK b 0 l.toArray.size w := by
    intro m os dk hs i j hi hj
    have e : Go.Proofs.sortWorldK encKV 3 w b 0 m dk os = putRowK encKV 3 (grow (Go.Sort.ahead w m) os) b 0 dk := by
     unfold Go.Proofs.sortWorldK; rw [putRowK_grow _ _ (Go.Sort.ahead w m) _ b 0 _ hb]
    have hHg : HoldsK encKV 3 (grow (Go.Sort.ahead w m) os) b 0 l.toArray := holdsK_grow _ _ _ _ b 0 _ hb (holdsK_ahead _ _ _ _ _ _ _ hH)
    have hc' := holdsK_putRowK _ _ _ b 0 l.toArray dk hHg hs
    refine (KLess b 0 c bB l.length _ (fun t => dk[t]!.2.1) (fun t => dk[t]!.2.2) ?_ (fun t ht => ?_) (fun t ht => ?_) i j (by simpa using hi) (by simpa using hj) (by omega)).mono ?_
    ·rw [e, cell?_putRowK_other _ _ _ b 0 dk _ hne, cell?_grow _ _ _ hbl]; exact hc
    ·rw [e]; exact (hc'.cell (i := t) (c := 1) (by rw [hs]; simpa using ht) (by omega)).1
    ·rw [e]; exact (hc'.cell (i := t) (c := 2) (by rw [hs]; simpa using ht) (by omega)).1
    ·rintro x w' ⟨rfl, q⟩
     refine ⟨?_, q⟩
     unfold ltK
     rfl
   have hx := Any.sort_Slice_cells_sorted Tryz.laysGg6 56 63 tk56 tk63 ik56 dk56 packed56 ik63 25 kk63 encKV 3 (fun _ => rfl) sk63 Tryz.isAgg63
    (fun x v hv => by simp [encKV] at hv; rcases hv with rfl | rfl | rfl <;> rfl) ltK ltK_swo 50 _
    (enters_of Tryz.func50 (by kernel_rfl) rfl) b 0 c l.toArray (by simpa using h2) (by simpa using hN) 96 (by rw [sw63 _ (by simpa using h2)]; kernel_rfl) false
    (fun args W => run_callFunc_extern Tryz.func96 (by kernel_rfl) (by kernel_rfl) (by kernel_rfl) (e := Extern.ReflectliteSwapper.swap false) (by kernel_rfl) args W) w hless hH hb
   rw [show l.toArray.size = l.length by simp] at hx
   refine hx.mono ?_
   rintro x w' ⟨rfl, d', n', os, hp, hs, rfl⟩
   have hd := sort_unique (l := l) rfl (by simpa using hp) (by simpa using hs) (sortedK_perm l) (sortedK_pw l) (fun a b ha hb h1 h2 => ltK_tri ((hn a ha).trans (hn b hb).symm) h1 h2)
   rw [hd]
   exact ⟨rfl, n', os, rfl⟩
  ·have hse : sortedK l = l := by
    have := (sortedK_perm l).length_eq
    match l, h2 with
    | [], _ => simp [sortedK]
    | [x], _ => simp [sortedK]
    | _ :: _ :: _, h2 => simp at h2
   rw [hse]
   have hx := Any.sort_Slice_tiny Tryz.laysGg6 56 63 tk56 tk63 ik56 dk56 packed56 ik63 25 kk63 (some ⟨b, 0, none⟩) l.length c (by omega) (if l.length = 0 then 88 else 89) (by
    rcases (show l.length = 0 ∨ l.length = 1 by omega) with h | h
    ·rw [h, show Lib.swapperK 0 tk63 25 = 1 from rfl]; kernel_rfl
    ·rw [h, show Lib.swapperK 1 tk63 25 = 2 from rfl]; kernel_rfl) (.func 50) #[] #[.pointer (some ⟨bB, 0, none⟩)] w
   refine hx.mono ?_
   rintro x w' ⟨rfl, os, rfl⟩
   exact ⟨rfl, 0, os, by rw [show Go.Sort.ahead w 0 = w from rfl, putRowK_self _ _ _ _ _ hH]⟩
 ·subst hVe
  exact Any.sort_Slice_tiny Tryz.laysGg6 56 63 tk56 tk63 ik56 dk56 packed56 ik63 25 kk63 A 0 0 (by omega) 88 (by rw [show Lib.swapperK 0 tk63 25 = 1 from rfl]; kernel_rfl) (.func 50) #[] #[.pointer (some ⟨bB, 0, none⟩)] w
end Go.Hv

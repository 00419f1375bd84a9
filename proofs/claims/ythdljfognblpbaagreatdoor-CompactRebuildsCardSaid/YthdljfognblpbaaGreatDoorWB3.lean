import Derived.Test.YthdljfognblpbaaGreatDoorWB2
set_option linter.unusedVariables false
set_option linter.unusedSimpArgs false
namespace Go.Hv
open Go Go.Hv Go.Proofs Go.Stab Go.Lib Go.RowKit
open Go.Proofs.YthdljfognblpbaaGreatDoor
set_option maxHeartbeats 1000000 in
theorem swapRange_spec [GI] {α : Type} {enc : α → List HV} {key : α → Int} {V : Value} {ob : Option Nat} {e sz g sf : Nat} {lb sb : Array Value} {N : Nat} (hx : SortCtx Tryz.prog enc key V ob e sz g sf lb sb N) (l : List α) (a b n : Nat) (ai bi ni : Int) (ea : ai = a) (eb : bi = b) (en : ni = n) (hl : l.length = N) (ha : a + n ≤ N) (hb : b + n ≤ N) (hab : a ≠ b) : SpecX Tryz.prog 143 #[] [.agg [fnv g lb, fnv sf sb], i64 ai, i64 bi, i64 ni] V ob e sz (mapE enc l) (.lit (.tuple #[])) (mapE enc (swN l a b n)) := by
  subst ea; subst eb; subst en
  have hN := hx.hN
  have hil := hx.il
  have hsb : ∀ (i : Nat) (a b : HV) (l : List α), subLL i a b (mapE enc l) = mapE enc l := fun i a b l => subLL_isILL i a b _ (hil l)
  refine SpecX.of_HT Tryz.func143 rfl (by rw [Tryz.ntmps143]; simp) rfl Ty.hb143 ?_
  rw [Tryz.ntmps143]
  refine HT.seq ?_
  refine HT.region ?_   -- R0
  simp (disch := first | omega | (simp <;> omega) | fail) [wrap_i64, wrap_u64, wrap_u8', hil, hsb]
  refine HT.seq ?_
  refine HT.region ?_   -- R1
  simp (disch := first | omega | (simp <;> omega) | fail) [wrap_i64, wrap_u64, wrap_u8', hil, hsb]
  refine HT.block ?_
  refine HT.loopK (fun k : {k : Nat // k ≤ n} => [.s 8 (i64 k), .o 900 (.prow V ob e sz (mapE enc (swN l a b k)))]) [1, 2, 3, 4] [4] (fun k => n - k) (⟨0, by omega⟩) ?_ ?_   -- block 0 turned [8]
  · simp (disch := first | omega | (simp <;> omega) | fail) [wrap_i64, wrap_u64, wrap_u8', hil, hsb, swN]
  rintro ⟨k, hk⟩
  simp (disch := first | omega | (simp <;> omega) | fail) [wrap_i64, wrap_u64, wrap_u8', hil, hsb]
  refine HT.seq ?_
  refine HT.seq ?_
  refine HT.region ?_   -- R2
  simp (disch := first | omega | (simp <;> omega) | fail) [wrap_i64, wrap_u64, wrap_u8', hil, hsb]
  refine HT.cond' ?_   -- if 11
  simp (disch := first | omega | (simp <;> omega) | fail) [wrap_i64, wrap_u64, wrap_u8', hil, hsb]
  refine ⟨fun h11 => ?_, fun h11 => ?_⟩
  · skip
    have hk' : k < n := by omega
    have hsl := swN_length l a b k
    refine HT.skip ?_
    simp (disch := first | omega | (simp <;> omega) | fail) [wrap_i64, wrap_u64, wrap_u8', hil, hsb]
    refine HT.seq ?_
    refine HT.block ?_
    refine HT.region ?_   -- R4
    simp (disch := first | omega | (simp <;> omega) | fail) [wrap_i64, wrap_u64, wrap_u8', hil, hsb]
    refine stepK.mk (.callX _ _ _ 900 _ _ _ _ _ _ _ rfl (by first | rfl | simp [hil, hsb]) (by simp [hil]) (by first | rfl | simp) (hx.swap (swN l a b k) (a + k) (b + k) _ _ (by omega) (by omega) (by omega) (by omega) (by omega) (by omega)) rfl) ?_
    simp (disch := first | omega | (simp <;> omega) | fail) [wrap_i64, wrap_u64, wrap_u8', hil, hsb]
    refine HT.region ?_   -- R3
    simp (disch := first | omega | (simp <;> omega) | fail) [wrap_i64, wrap_u64, wrap_u8', hil, hsb]
    refine Round.mk' (⟨k + 1, by omega⟩) (by dsimp only; omega) rfl ?_
    simp (disch := first | omega | (simp <;> omega) | fail) [wrap_i64, wrap_u64, wrap_u8', hil, hsb, swN]
  · skip
    obtain rfl : k = n := by omega
    refine HT.exit ?_
    simp (disch := first | omega | (simp <;> omega) | fail) [wrap_i64, wrap_u64, wrap_u8', hil, hsb]
set_option maxHeartbeats 2000000 in
theorem insertionSort_spec [GI] {α : Type} {enc : α → List HV} {key : α → Int} {V : Value} {ob : Option Nat} {e sz g sf : Nat} {lb sb : Array Value} {N : Nat} (hx : SortCtx Tryz.prog enc key V ob e sz g sf lb sb N) (p U s : List α) (ai bi : Int) (ea : ai = p.length) (eb : bi = (p.length + U.length : Nat)) (hl : p.length + U.length + s.length = N) : SpecX Tryz.prog 93 #[] [.agg [fnv g lb, fnv sf sb], i64 ai, i64 bi] V ob e sz (mapE enc (p ++ U ++ s)) (.lit (.tuple #[])) (mapE enc (p ++ srtK key U ++ s)) := by
  subst ea; subst eb
  have hN := hx.hN
  have hil := hx.il
  have hsb : ∀ (i : Nat) (a b : HV) (l : List α), subLL i a b (mapE enc l) = mapE enc l := fun i a b l => subLL_isILL i a b _ (hil l)
  rw [← isK_one key p U s]
  refine SpecX.of_HT Tryz.func93 rfl (by rw [Tryz.ntmps93]; simp) rfl Ty.hb93 ?_
  rw [Tryz.ntmps93]
  refine HT.seq ?_
  refine HT.region ?_   -- R0
  simp (disch := first | omega | (simp <;> omega) | fail) [wrap_i64, wrap_u64, wrap_u8', hil, hsb]
  refine HT.seq ?_
  refine HT.region ?_   -- R1
  simp (disch := first | omega | (simp <;> omega) | fail) [wrap_i64, wrap_u64, wrap_u8', hil, hsb]
  refine HT.block ?_
  refine HT.loopK (fun k : {k : Nat // 1 ≤ k ∧ (k ≤ U.length ∨ k = 1)} => [.s 6 (i64 (p.length + k)), .o 900 (.prow V ob e sz (mapE enc (isK key p U s k)))]) [1, 2, 3] [3] (fun k => U.length - k) (⟨1, by omega, by omega⟩) ?_ ?_   -- block 0 turned [6, 20, 21, 22, 23, 24, 25]
  · simp (disch := first | omega | (simp <;> omega) | fail) [wrap_i64, wrap_u64, wrap_u8', hil, hsb]
  rintro ⟨k, hk1, hk2⟩
  simp (disch := first | omega | (simp <;> omega) | fail) [wrap_i64, wrap_u64, wrap_u8', hil, hsb]
  refine HT.seq ?_
  refine HT.seq ?_
  refine HT.region ?_   -- R2
  simp (disch := first | omega | (simp <;> omega) | fail) [wrap_i64, wrap_u64, wrap_u8', hil, hsb]
  refine HT.cond' ?_   -- if 12
  simp (disch := first | omega | (simp <;> omega) | fail) [wrap_i64, wrap_u64, wrap_u8', hil, hsb]
  refine ⟨fun h12 => ?_, fun h12 => ?_⟩
  · skip
    have hk' : k < U.length := by omega
    have hsl : (srtK key (U.take k)).length = k := by rw [srtK_length, List.length_take]; omega
    refine HT.skip ?_
    simp (disch := first | omega | (simp <;> omega) | fail) [wrap_i64, wrap_u64, wrap_u8', hil, hsb]
    refine HT.seq ?_
    refine HT.block ?_
    refine HT.seq ?_
    refine HT.region ?_   -- R4
    simp (disch := first | omega | (simp <;> omega) | fail) [wrap_i64, wrap_u64, wrap_u8', hil, hsb]
    refine HT.block ?_
    refine HT.loopK (fun m : {m : Nat // m ≤ k ∧ ∀ y ∈ (srtK key (U.take k)).drop m, key U[k] < key y} => [.s 7 (i64 (p.length + m)), .o 900 (.prow V ob e sz (mapE enc (insSt p (srtK key (U.take k)) U[k] (U.drop (k + 1) ++ s) m)))]) [1, 2, 3, 6] [3] (fun m => m) (⟨k, by omega, by rw [List.drop_of_length_le (by omega)]; simp⟩) ?_ ?_   -- block 2 turned [7, 20, 21, 22, 23, 24, 25]
    · simp (disch := first | omega | (simp <;> omega) | fail) [wrap_i64, wrap_u64, wrap_u8', hil, hsb, isK_start key p U s hk']
    rintro ⟨m, hm, hg⟩
    simp (disch := first | omega | (simp <;> omega) | fail) [wrap_i64, wrap_u64, wrap_u8', hil, hsb]
    have hil2 := insSt_length p (srtK key (U.take k)) U[k] (U.drop (k + 1) ++ s) m
    have hdl : (U.drop (k + 1) ++ s).length = U.length - (k + 1) + s.length := by simp
    refine HT.seq ?_
    refine HT.seq ?_
    by_cases c1 : m = 0
    · skip
      refine HT.region ?_   -- R5
      simp (disch := first | omega | (simp <;> omega) | fail) [wrap_i64, wrap_u64, wrap_u8', hil, hsb, c1]
      refine HT.cond' ?_   -- if 26
      simp (disch := first | omega | (simp <;> omega) | fail) [wrap_i64, wrap_u64, wrap_u8', hil, hsb]
      first | have hend := isK_end key p U s hk' hm (.inl c1) hg | have hend := isK_end key p U s hk' hm (.inr ⟨_, List.getElem?_eq_getElem (by omega), by simpa using h26⟩) hg
      try rw [c1] at hend
      refine HT.exit ?_
      simp (disch := first | omega | (simp <;> omega) | fail) [wrap_i64, wrap_u64, wrap_u8', hil, hsb]
      refine HT.region ?_   -- R3
      simp (disch := first | omega | (simp <;> omega) | fail) [wrap_i64, wrap_u64, wrap_u8', hil, hsb]
      refine Round.mk' (⟨k + 1, by omega, by omega⟩) (by dsimp only; omega) rfl ?_
      simp (disch := first | omega | (simp <;> omega) | fail) [wrap_i64, wrap_u64, wrap_u8', hil, hsb, hend]
      try omega
    obtain ⟨m', rfl⟩ : ∃ m', m = m' + 1 := ⟨m - 1, by omega⟩
    clear c1
    have c1 : True := trivial
    refine HT.region ?_   -- R5
    simp (disch := first | omega | (simp <;> omega) | fail) [wrap_i64, wrap_u64, wrap_u8', hil, hsb, c1]
    refine stepK.mk (.callX _ _ _ 900 _ _ _ _ _ _ _ rfl (by first | rfl | simp [hil, hsb]) (by simp [hil]) (by first | rfl | simp) (hx.less _ (p.length + (m' + 1)) (p.length + m') _ _ U[k] (srtK key (U.take k))[m'] (by omega) (by omega) (by omega) (insSt_x p _ _ _ (by omega)) (insSt_y p _ _ _ (by omega))) rfl) ?_
    simp (disch := first | omega | (simp <;> omega) | fail) [wrap_i64, wrap_u64, wrap_u8', hil, hsb, c1]
    refine HT.cond' ?_   -- if 26
    simp (disch := first | omega | (simp <;> omega) | fail) [wrap_i64, wrap_u64, wrap_u8', hil, hsb]
    refine ⟨fun h26 => ?_, fun h26 => ?_⟩
    · skip
      have hg2 : ∀ y ∈ (srtK key (U.take k)).drop m', key U[k] < key y := by
        intro y hy
        rw [List.drop_eq_getElem_cons (by omega)] at hy
        rcases List.mem_cons.1 hy with rfl | hy
        · exact h26
        · exact hg y hy
      have hsw := insSt_sw p (srtK key (U.take k)) U[k] (U.drop (k + 1) ++ s) (m := m') (by omega)
      refine HT.skip ?_
      simp (disch := first | omega | (simp <;> omega) | fail) [wrap_i64, wrap_u64, wrap_u8', hil, hsb]
      refine HT.seq ?_
      refine HT.block ?_
      refine HT.region ?_   -- R7
      simp (disch := first | omega | (simp <;> omega) | fail) [wrap_i64, wrap_u64, wrap_u8', hil, hsb]
      refine stepK.mk (.callX _ _ _ 900 _ _ _ _ _ _ _ rfl (by first | rfl | simp [hil, hsb]) (by simp [hil]) (by first | rfl | simp) (hx.swap _ (p.length + m' + 1) (p.length + m') _ _ (by omega) (by omega) (by omega) (by omega) (by omega) (by omega)) rfl) ?_
      simp (disch := first | omega | (simp <;> omega) | fail) [wrap_i64, wrap_u64, wrap_u8', hil, hsb]
      refine HT.region ?_   -- R6
      simp (disch := first | omega | (simp <;> omega) | fail) [wrap_i64, wrap_u64, wrap_u8', hil, hsb]
      refine Round.mk' (⟨m', by omega, hg2⟩) (by dsimp only; omega) rfl ?_
      simp (disch := first | omega | (simp <;> omega) | fail) [wrap_i64, wrap_u64, wrap_u8', hil, hsb, hsw]
      try omega
    · skip
      first | have hend := isK_end key p U s hk' hm (.inl c1) hg | have hend := isK_end key p U s hk' hm (.inr ⟨_, List.getElem?_eq_getElem (by omega), by simpa using h26⟩) hg
      try rw [c1] at hend
      refine HT.exit ?_
      simp (disch := first | omega | (simp <;> omega) | fail) [wrap_i64, wrap_u64, wrap_u8', hil, hsb]
      refine HT.region ?_   -- R3
      simp (disch := first | omega | (simp <;> omega) | fail) [wrap_i64, wrap_u64, wrap_u8', hil, hsb]
      refine Round.mk' (⟨k + 1, by omega, by omega⟩) (by dsimp only; omega) rfl ?_
      simp (disch := first | omega | (simp <;> omega) | fail) [wrap_i64, wrap_u64, wrap_u8', hil, hsb, hend]
      try omega
  · skip
    rw [isK_all key p U s (k := k) (by omega)]
    refine HT.exit ?_
    simp (disch := first | omega | (simp <;> omega) | fail) [wrap_i64, wrap_u64, wrap_u8', hil, hsb]
set_option maxHeartbeats 2000000 in
theorem rotate_spec [GI] {α : Type} {enc : α → List HV} {key : α → Int} {V : Value} {ob : Option Nat} {e sz g sf : Nat} {lb sb : Array Value} {N : Nat} (hx : SortCtx Tryz.prog enc key V ob e sz g sf lb sb N) (p x y s : List α) (ai mi bi : Int) (ea : ai = p.length) (em : mi = (p.length + x.length : Nat)) (eb : bi = (p.length + x.length + y.length : Nat)) (hl : p.length + x.length + y.length + s.length = N) (hx0 : 0 < x.length) (hy0 : 0 < y.length) : SpecX Tryz.prog 121 #[] [.agg [fnv g lb, fnv sf sb], i64 ai, i64 mi, i64 bi] V ob e sz (mapE enc (p ++ x ++ y ++ s)) (.lit (.tuple #[])) (mapE enc (p ++ y ++ x ++ s)) := by
  subst ea; subst em; subst eb
  have hN := hx.hN
  have hil := hx.il
  have hsb : ∀ (i : Nat) (a b : HV) (l : List α), subLL i a b (mapE enc l) = mapE enc l := fun i a b l => subLL_isILL i a b _ (hil l)
  refine SpecX.of_HT Tryz.func121 rfl (by rw [Tryz.ntmps121]; simp) rfl Ty.hb121 ?_
  rw [Tryz.ntmps121]
  refine HT.seq ?_
  refine HT.region ?_   -- R0
  simp (disch := first | omega | (simp <;> omega) | fail) [wrap_i64, wrap_u64, wrap_u8', hil, hsb]
  refine HT.seq ?_
  refine HT.region ?_   -- R1
  simp (disch := first | omega | (simp <;> omega) | fail) [wrap_i64, wrap_u64, wrap_u8', hil, hsb]
  refine HT.seq ?_
  refine HT.region ?_   -- R2
  simp (disch := first | omega | (simp <;> omega) | fail) [wrap_i64, wrap_u64, wrap_u8', hil, hsb]
  refine HT.seq ?_
  refine HT.block ?_
  refine HT.loopK (fun q : {q : List α × List α × List α × List α // q.1 ++ q.2.2.1 ++ q.2.1 ++ q.2.2.2 = p ++ y ++ x ++ s ∧ q.1.length + q.2.1.length = p.length + x.length ∧ q.1.length + q.2.1.length + q.2.2.1.length + q.2.2.2.length = N ∧ 0 < q.2.1.length ∧ 0 < q.2.2.1.length} => [.s 8 (i64 q.1.2.1.length), .s 9 (i64 q.1.2.2.1.length), .o 900 (.prow V ob e sz (mapE enc (q.1.1 ++ q.1.2.1 ++ q.1.2.2.1 ++ q.1.2.2.2)))]) [2, 4] [4] (fun q => q.1.2.1.length + q.1.2.2.1.length) (⟨(p, x, y, s), rfl, rfl, hl, hx0, hy0⟩) ?_ ?_   -- block 0 turned [8, 9]
  · skip
    simp [hil, hsb]
    omega
  rintro ⟨⟨p', x', y', s'⟩, h1, h2, h3, h4, h5⟩
  simp (disch := first | omega | (simp <;> omega) | fail) [wrap_i64, wrap_u64, wrap_u8', hil, hsb]
  dsimp only at h1 h2 h3 h4 h5
  refine HT.seq ?_
  refine HT.seq ?_
  refine HT.region ?_   -- R3
  simp (disch := first | omega | (simp <;> omega) | fail) [wrap_i64, wrap_u64, wrap_u8', hil, hsb]
  refine HT.cond' ?_   -- if 18
  simp (disch := first | omega | (simp <;> omega) | fail) [wrap_i64, wrap_u64, wrap_u8', hil, hsb]
  refine ⟨fun h18 => ?_, fun h18 => ?_⟩
  · skip
    refine HT.skip ?_
    simp (disch := first | omega | (simp <;> omega) | fail) [wrap_i64, wrap_u64, wrap_u8', hil, hsb]
    refine HT.block ?_
    refine HT.seq ?_
    refine HT.region ?_   -- R4
    simp (disch := first | omega | (simp <;> omega) | fail) [wrap_i64, wrap_u64, wrap_u8', hil, hsb]
    refine HT.cond' ?_   -- if 21
    simp (disch := first | omega | (simp <;> omega) | fail) [wrap_i64, wrap_u64, wrap_u8', hil, hsb]
    refine ⟨fun h21 => ?_, fun h21 => ?_⟩
    · skip
      have hlt : y'.length < x'.length := by omega
      have hro := rot_gt (p := p') (s := s') hlt
      have hd1 : (x'.drop y'.length).length = x'.length - y'.length := by simp
      have hd2 : (x'.take y'.length).length = y'.length := by rw [List.length_take]; omega
      have hnx : (p' ++ y') ++ x'.take y'.length ++ x'.drop y'.length ++ s' = p ++ y ++ x ++ s := by rw [← h1, List.append_assoc (p' ++ y'), List.take_append_drop]
      have hll : (p' ++ x' ++ y' ++ s').length = N := by simp; omega
      simp only [List.append_assoc] at hro
      refine HT.seq ?_
      refine HT.region ?_   -- R5
      simp (disch := first | omega | (simp <;> omega) | fail) [wrap_i64, wrap_u64, wrap_u8', hil, hsb]
      refine stepK.mk (.callX _ _ _ 900 _ _ _ _ _ _ _ rfl (by first | rfl | simp [hil, hsb]) (by simp [hil]) (by first | rfl | simp) (swapRange_spec hx (p' ++ x' ++ y' ++ s') p'.length (p'.length + x'.length) y'.length _ _ _ (by omega) (by omega) rfl hll (by omega) (by omega) (by omega)) rfl) ?_
      simp (disch := first | omega | (simp <;> omega) | fail) [wrap_i64, wrap_u64, wrap_u8', hil, hsb]
      refine HT.region ?_   -- R6
      simp (disch := first | omega | (simp <;> omega) | fail) [wrap_i64, wrap_u64, wrap_u8', hil, hsb]
      refine Round.mk' (⟨(p' ++ y', x'.drop y'.length, x'.take y'.length, s'), hnx, by simp; omega, by simp; omega, by simp; omega, by simp; omega⟩) (by dsimp only; omega) rfl ?_
      simp (disch := first | omega | (simp <;> omega) | fail) [wrap_i64, wrap_u64, wrap_u8', hil, hsb, hro]
      try omega
    · skip
      have hlt : x'.length < y'.length := by omega
      have hro := rot_lt (p := p') (s := s') hlt
      have hd1 : (y'.drop (y'.length - x'.length)).length = x'.length := by simp; omega
      have hd2 : (y'.take (y'.length - x'.length)).length = y'.length - x'.length := by rw [List.length_take]; omega
      have hnx : p' ++ y'.take (y'.length - x'.length) ++ y'.drop (y'.length - x'.length) ++ (x' ++ s') = p ++ y ++ x ++ s := by rw [← h1, List.append_assoc p', List.take_append_drop]; simp only [List.append_assoc]
      have hll : (p' ++ x' ++ y' ++ s').length = N := by simp; omega
      simp only [List.append_assoc] at hro
      refine HT.seq ?_
      refine HT.region ?_   -- R7
      simp (disch := first | omega | (simp <;> omega) | fail) [wrap_i64, wrap_u64, wrap_u8', hil, hsb]
      refine stepK.mk (.callX _ _ _ 900 _ _ _ _ _ _ _ rfl (by first | rfl | simp [hil, hsb]) (by simp [hil]) (by first | rfl | simp) (swapRange_spec hx (p' ++ x' ++ y' ++ s') p'.length (p'.length + x'.length + (y'.length - x'.length)) x'.length _ _ _ (by omega) (by omega) rfl hll (by omega) (by omega) (by omega)) rfl) ?_
      simp (disch := first | omega | (simp <;> omega) | fail) [wrap_i64, wrap_u64, wrap_u8', hil, hsb]
      refine HT.region ?_   -- R8
      simp (disch := first | omega | (simp <;> omega) | fail) [wrap_i64, wrap_u64, wrap_u8', hil, hsb]
      refine Round.mk' (⟨(p', y'.drop (y'.length - x'.length), y'.take (y'.length - x'.length), x' ++ s'), hnx, by simp; omega, by simp; omega, by simp; omega, by simp; omega⟩) (by dsimp only; omega) rfl ?_
      simp (disch := first | omega | (simp <;> omega) | fail) [wrap_i64, wrap_u64, wrap_u8', hil, hsb, hro]
      try omega
  · skip
    refine HT.exit ?_
    simp (disch := first | omega | (simp <;> omega) | fail) [wrap_i64, wrap_u64, wrap_u8', hil, hsb]
    have hxy : x'.length = y'.length := by omega
    have hll : (p' ++ x' ++ y' ++ s').length = N := by simp; omega
    have hro := rot_eq (p := p') (s := s') hxy
    rw [h1] at hro
    simp only [List.append_assoc] at hro
    refine HT.region ?_   -- R9
    simp (disch := first | omega | (simp <;> omega) | fail) [wrap_i64, wrap_u64, wrap_u8', hil, hsb]
    refine stepK.mk (.callX _ _ _ 900 _ _ _ _ _ _ _ rfl (by first | rfl | simp [hil, hsb]) (by simp [hil]) (by first | rfl | simp) (swapRange_spec hx (p' ++ x' ++ y' ++ s') p'.length (p'.length + x'.length) x'.length _ _ _ (by omega) (by omega) rfl hll (by omega) (by omega) (by omega)) rfl) ?_
    simp (disch := first | omega | (simp <;> omega) | fail) [wrap_i64, wrap_u64, wrap_u8', hil, hsb]
    simp (disch := first | omega | (simp <;> omega) | fail) [wrap_i64, wrap_u64, wrap_u8', hil, hsb, hro]
set_option maxHeartbeats 8000000 in
set_option maxRecDepth 20000 in
theorem symStep_spec [GI] {α : Type} {enc : α → List HV} {key : α → Int} {V : Value} {ob : Option Nat} {e sz g sf : Nat} {lb sb : Array Value} {N : Nat} (hx : SortCtx Tryz.prog enc key V ob e sz g sf lb sb N) (p A B s : List α) (ai mi bi : Int) (ea : ai = p.length) (em : mi = (p.length + A.length : Nat)) (eb : bi = (p.length + A.length + B.length : Nat)) (hl : p.length + A.length + B.length + s.length = N) (hA0 : 0 < A.length) (hB0 : 0 < B.length) (hA : Srt key A) (hB : Srt key B) (ih : ∀ (p' A' B' s' : List α) (ai mi bi : Int), A'.length + B'.length < A.length + B.length → ai = p'.length → mi = (p'.length + A'.length : Nat) → bi = (p'.length + A'.length + B'.length : Nat) → p'.length + A'.length + B'.length + s'.length = N → 0 < A'.length → 0 < B'.length → Srt key A' → Srt key B' → SpecX Tryz.prog 94 #[] [.agg [fnv g lb, fnv sf sb], i64 ai, i64 mi, i64 bi] V ob e sz (mapE enc (p' ++ A' ++ B' ++ s')) (.lit (.tuple #[])) (mapE enc (p' ++ srtK key (A' ++ B') ++ s'))) : SpecX Tryz.prog 94 #[] [.agg [fnv g lb, fnv sf sb], i64 ai, i64 mi, i64 bi] V ob e sz (mapE enc (p ++ A ++ B ++ s)) (.lit (.tuple #[])) (mapE enc (p ++ srtK key (A ++ B) ++ s)) := by
  subst ea; subst em; subst eb
  have hN := hx.hN
  have hil := hx.il
  have hsb : ∀ (i : Nat) (a b : HV) (l : List α), subLL i a b (mapE enc l) = mapE enc l := fun i a b l => subLL_isILL i a b _ (hil l)
  have hll : (p ++ A ++ B ++ s).length = N := by simp; omega
  have hat : ∀ i, i < A.length → (p ++ A ++ B ++ s)[p.length + i]? = A[i]? := fun i h => at4_a h
  have hbt : ∀ i, i < B.length → (p ++ A ++ B ++ s)[p.length + A.length + i]? = B[i]? := fun i h => at4_b h
  generalize hLd : p ++ A ++ B ++ s = L at hll hat hbt
  generalize hL4 : p ++ srtK key (A ++ B) ++ s = L4
  refine SpecX.of_HT Tryz.func94 rfl (by rw [Tryz.ntmps94]; simp) rfl Ty.hb94 ?_
  rw [Tryz.ntmps94]
  refine HT.seq ?_
  refine HT.region ?_   -- R0
  simp (disch := first | omega | (simp <;> omega) | fail) [wrap_i64, wrap_u64, wrap_u8', hil, hsb]
  refine HT.seq ?_
  refine HT.seq ?_
  by_cases c1 : A.length = 1
  · skip
    refine HT.region ?_   -- R1
    simp (disch := first | omega | (simp <;> omega) | fail) [wrap_i64, wrap_u64, wrap_u8', hil, hsb, c1]
    refine HT.cond' ?_   -- if 26
    simp (disch := first | omega | (simp <;> omega) | fail) [wrap_i64, wrap_u64, wrap_u8', hil, hsb]
    obtain ⟨x, rfl⟩ := List.length_eq_one_iff.1 c1
    refine HT.seq ?_
    refine HT.region ?_   -- R2
    simp (disch := first | omega | (simp <;> omega) | fail) [wrap_i64, wrap_u64, wrap_u8', hil, hsb]
    refine HT.seq ?_
    refine HT.region ?_   -- R3
    simp (disch := first | omega | (simp <;> omega) | fail) [wrap_i64, wrap_u64, wrap_u8', hil, hsb]
    refine HT.seq ?_
    refine HT.block ?_
    refine HT.loopK (fun q : {q : Nat × Nat // q.1 ≤ q.2 ∧ q.2 ≤ B.length ∧ (∀ i y, i < q.1 → B[i]? = some y → key y < key x) ∧ ∀ i y, q.2 ≤ i → B[i]? = some y → key x ≤ key y} => [.s 8 (i64 (p.length + 1 + q.1.1)), .s 9 (i64 (p.length + 1 + q.1.2)), .o 900 (.prow V ob e sz (mapE enc L))]) [1, 4] [4] (fun q => q.1.2 - q.1.1) (⟨(0, B.length), by simp, by simp, by simp, fun i y hi hy => absurd (List.getElem?_eq_some_iff.1 hy).1 (by omega)⟩) ?_ ?_   -- block 0 turned [8, 9]
    · simp (disch := first | omega | (simp <;> omega) | fail) [wrap_i64, wrap_u64, wrap_u8', hil, hsb]
    rintro ⟨⟨u, v⟩, h1, h2, h3, h4⟩
    simp (disch := first | omega | (simp <;> omega) | fail) [wrap_i64, wrap_u64, wrap_u8', hil, hsb]
    dsimp only at h1 h2 h3 h4
    obtain ⟨w, hw⟩ : ∃ w, w = (u + v) / 2 := ⟨_, rfl⟩
    have hdv : ∀ z : Int, (z = 2 * ((p.length + 1 + w : Nat) : Int) ∨ z = 2 * ((p.length + 1 + w : Nat) : Int) + 1) → z.fdiv (2 ^ min 1 IntKind.u64.bits) = ((p.length + 1 + w : Nat) : Int) := fun z h => fdiv_half z h
    refine HT.seq ?_
    refine HT.seq ?_
    refine HT.region ?_   -- R4
    simp (disch := first | omega | (simp <;> omega) | fail) [wrap_i64, wrap_u64, wrap_u8', hil, hsb]
    refine HT.cond' ?_   -- if 31
    simp (disch := first | omega | (simp <;> omega) | fail) [wrap_i64, wrap_u64, wrap_u8', hil, hsb]
    refine ⟨fun h31 => ?_, fun h31 => ?_⟩
    · skip
      have hw1 : u ≤ w := by omega
      have hw2 : w < v := by omega
      have hw3 : w < B.length := by omega
      have hBw : B[w]? = some B[w] := List.getElem?_eq_getElem hw3
      refine HT.skip ?_
      simp (disch := first | omega | (simp <;> omega) | fail) [wrap_i64, wrap_u64, wrap_u8', hil, hsb]
      refine HT.block ?_
      refine HT.seq ?_
      refine HT.region ?_   -- R5
      simp (disch := first | omega | (simp <;> omega) | fail) [wrap_i64, wrap_u64, wrap_u8', hil, hsb, hdv]
      refine HT.seq ?_
      refine HT.region ?_   -- R6
      simp (disch := first | omega | (simp <;> omega) | fail) [wrap_i64, wrap_u64, wrap_u8', hil, hsb]
      refine stepK.mk (.callX _ _ _ 900 _ _ _ _ _ _ _ rfl (by first | rfl | simp [hil, hsb]) (by simp [hil]) (by first | rfl | simp) (hx.less _ (p.length + 1 + w) p.length _ _ B[w] x (by omega) (by omega) rfl ((hbt w hw3).trans hBw) (hat 0 (by simp))) rfl) ?_
      simp (disch := first | omega | (simp <;> omega) | fail) [wrap_i64, wrap_u64, wrap_u8', hil, hsb]
      refine HT.cond' ?_   -- if 42
      simp (disch := first | omega | (simp <;> omega) | fail) [wrap_i64, wrap_u64, wrap_u8', hil, hsb]
      refine ⟨fun h42 => ?_, fun h42 => ?_⟩
      · skip
        refine HT.region ?_   -- R7
        simp (disch := first | omega | (simp <;> omega) | fail) [wrap_i64, wrap_u64, wrap_u8', hil, hsb]
        refine Round.mk' (⟨(w + 1, v), by dsimp only; omega, h2, fun i y hi hy => by have := hB.le_of (show i ≤ w by omega) hy hBw; omega, h4⟩) (by dsimp only; omega) rfl ?_
        simp (disch := first | omega | (simp <;> omega) | fail) [wrap_i64, wrap_u64, wrap_u8', hil, hsb]
        try omega
      · skip
        refine HT.region ?_   -- R8
        simp (disch := first | omega | (simp <;> omega) | fail) [wrap_i64, wrap_u64, wrap_u8', hil, hsb]
        refine Round.mk' (⟨(u, w), hw1, by dsimp only; omega, h3, fun i y hi hy => by have := hB.le_of hi hBw hy; omega⟩) (by dsimp only; omega) rfl ?_
        simp (disch := first | omega | (simp <;> omega) | fail) [wrap_i64, wrap_u64, wrap_u8', hil, hsb]
        try omega
    · skip
      obtain rfl : u = v := by omega
      rw [show L = insSt p B x s 0 by rw [insSt_zero, ← hLd]; simp]
      refine HT.exit ?_
      simp (disch := first | omega | (simp <;> omega) | fail) [wrap_i64, wrap_u64, wrap_u8', hil, hsb]
      refine HT.seq ?_
      refine HT.seq ?_
      refine HT.region ?_   -- R9
      simp (disch := first | omega | (simp <;> omega) | fail) [wrap_i64, wrap_u64, wrap_u8', hil, hsb]
      refine HT.block ?_
      refine HT.loopK (fun m : {m : Nat // m ≤ u} => [.s 11 (i64 (p.length + m)), .o 900 (.prow V ob e sz (mapE enc (insSt p B x s m)))]) [4, 8] [4] (fun m => u - m) (⟨0, by omega⟩) ?_ ?_   -- block 2 turned [11]
      · simp (disch := first | omega | (simp <;> omega) | fail) [wrap_i64, wrap_u64, wrap_u8', hil, hsb]
      rintro ⟨m, hm⟩
      simp (disch := first | omega | (simp <;> omega) | fail) [wrap_i64, wrap_u64, wrap_u8', hil, hsb]
      have hil2 := insSt_length p B x s m
      refine HT.seq ?_
      refine HT.seq ?_
      refine HT.region ?_   -- R10
      simp (disch := first | omega | (simp <;> omega) | fail) [wrap_i64, wrap_u64, wrap_u8', hil, hsb]
      refine HT.cond' ?_   -- if 50
      simp (disch := first | omega | (simp <;> omega) | fail) [wrap_i64, wrap_u64, wrap_u8', hil, hsb]
      refine ⟨fun h50 => ?_, fun h50 => ?_⟩
      · skip
        have hm' : m < u := by omega
        have hsw := insSt_swr p B x s (m := m) (by omega)
        refine HT.skip ?_
        simp (disch := first | omega | (simp <;> omega) | fail) [wrap_i64, wrap_u64, wrap_u8', hil, hsb]
        refine HT.seq ?_
        refine HT.block ?_
        refine HT.region ?_   -- R12
        simp (disch := first | omega | (simp <;> omega) | fail) [wrap_i64, wrap_u64, wrap_u8', hil, hsb]
        refine stepK.mk (.callX _ _ _ 900 _ _ _ _ _ _ _ rfl (by first | rfl | simp [hil, hsb]) (by simp [hil]) (by first | rfl | simp) (hx.swap _ (p.length + m) (p.length + m + 1) _ _ (by omega) (by omega) (by omega) (by omega) (by omega) (by omega)) rfl) ?_
        simp (disch := first | omega | (simp <;> omega) | fail) [wrap_i64, wrap_u64, wrap_u8', hil, hsb]
        refine HT.region ?_   -- R11
        simp (disch := first | omega | (simp <;> omega) | fail) [wrap_i64, wrap_u64, wrap_u8', hil, hsb]
        refine Round.mk' (⟨m + 1, by omega⟩) (by dsimp only; omega) rfl ?_
        simp (disch := first | omega | (simp <;> omega) | fail) [wrap_i64, wrap_u64, wrap_u8', hil, hsb, hsw]
        try omega
      · skip
        obtain rfl : m = u := by omega
        rw [put_end hB h3 h4 (by omega), hL4]
        refine HT.exit ?_
        simp (disch := first | omega | (simp <;> omega) | fail) [wrap_i64, wrap_u64, wrap_u8', hil, hsb]
        refine HT.ret ?_
        simp (disch := first | omega | (simp <;> omega) | fail) [wrap_i64, wrap_u64, wrap_u8', hil, hsb]
  have c1' : ¬ ((p.length : Int) + A.length - p.length = 1) := by omega
  refine HT.region ?_   -- R1
  simp (disch := first | omega | (simp <;> omega) | fail) [wrap_i64, wrap_u64, wrap_u8', hil, hsb, c1]
  refine HT.cond' ?_   -- if 26
  simp (disch := first | omega | (simp <;> omega) | fail) [wrap_i64, wrap_u64, wrap_u8', hil, hsb]
  refine HT.skip ?_
  simp (disch := first | omega | (simp <;> omega) | fail) [wrap_i64, wrap_u64, wrap_u8', hil, hsb]
  refine HT.seq ?_
  refine HT.seq ?_
  by_cases c2 : B.length = 1
  · skip
    refine HT.region ?_   -- R13
    simp (disch := first | omega | (simp <;> omega) | fail) [wrap_i64, wrap_u64, wrap_u8', hil, hsb, c2]
    refine HT.cond' ?_   -- if 62
    simp (disch := first | omega | (simp <;> omega) | fail) [wrap_i64, wrap_u64, wrap_u8', hil, hsb]
    obtain ⟨y, rfl⟩ := List.length_eq_one_iff.1 c2
    refine HT.seq ?_
    refine HT.region ?_   -- R14
    simp (disch := first | omega | (simp <;> omega) | fail) [wrap_i64, wrap_u64, wrap_u8', hil, hsb]
    refine HT.seq ?_
    refine HT.region ?_   -- R15
    simp (disch := first | omega | (simp <;> omega) | fail) [wrap_i64, wrap_u64, wrap_u8', hil, hsb]
    refine HT.seq ?_
    refine HT.block ?_
    refine HT.loopK (fun q : {q : Nat × Nat // q.1 ≤ q.2 ∧ q.2 ≤ A.length ∧ (∀ i x, i < q.1 → A[i]? = some x → key x ≤ key y) ∧ ∀ i x, q.2 ≤ i → A[i]? = some x → key y < key x} => [.s 12 (i64 (p.length + q.1.1)), .s 13 (i64 (p.length + q.1.2)), .o 900 (.prow V ob e sz (mapE enc L))]) [2, 4] [4] (fun q => q.1.2 - q.1.1) (⟨(0, A.length), by simp, by simp, by simp, fun i y hi hy => absurd (List.getElem?_eq_some_iff.1 hy).1 (by omega)⟩) ?_ ?_   -- block 4 turned [12, 13]
    · simp (disch := first | omega | (simp <;> omega) | fail) [wrap_i64, wrap_u64, wrap_u8', hil, hsb]
    rintro ⟨⟨u, v⟩, h1, h2, h3, h4⟩
    simp (disch := first | omega | (simp <;> omega) | fail) [wrap_i64, wrap_u64, wrap_u8', hil, hsb]
    dsimp only at h1 h2 h3 h4
    obtain ⟨w, hw⟩ : ∃ w, w = (u + v) / 2 := ⟨_, rfl⟩
    have hdv : ∀ z : Int, (z = 2 * ((p.length + w : Nat) : Int) ∨ z = 2 * ((p.length + w : Nat) : Int) + 1) → z.fdiv (2 ^ min 1 IntKind.u64.bits) = ((p.length + w : Nat) : Int) := fun z h => fdiv_half z h
    refine HT.seq ?_
    refine HT.seq ?_
    refine HT.region ?_   -- R16
    simp (disch := first | omega | (simp <;> omega) | fail) [wrap_i64, wrap_u64, wrap_u8', hil, hsb]
    refine HT.cond' ?_   -- if 67
    simp (disch := first | omega | (simp <;> omega) | fail) [wrap_i64, wrap_u64, wrap_u8', hil, hsb]
    refine ⟨fun h67 => ?_, fun h67 => ?_⟩
    · skip
      have hw1 : u ≤ w := by omega
      have hw2 : w < v := by omega
      have hw3 : w < A.length := by omega
      have hAw : A[w]? = some A[w] := List.getElem?_eq_getElem hw3
      refine HT.skip ?_
      simp (disch := first | omega | (simp <;> omega) | fail) [wrap_i64, wrap_u64, wrap_u8', hil, hsb]
      refine HT.block ?_
      refine HT.seq ?_
      refine HT.region ?_   -- R17
      simp (disch := first | omega | (simp <;> omega) | fail) [wrap_i64, wrap_u64, wrap_u8', hil, hsb, hdv]
      refine HT.seq ?_
      refine HT.region ?_   -- R18
      simp (disch := first | omega | (simp <;> omega) | fail) [wrap_i64, wrap_u64, wrap_u8', hil, hsb]
      refine stepK.mk (.callX _ _ _ 900 _ _ _ _ _ _ _ rfl (by first | rfl | simp [hil, hsb]) (by simp [hil]) (by first | rfl | simp) (hx.less _ (p.length + A.length) (p.length + w) _ _ y A[w] (by omega) (by omega) (by omega) (hbt 0 (by simp)) ((hat w hw3).trans hAw)) rfl) ?_
      simp (disch := first | omega | (simp <;> omega) | fail) [wrap_i64, wrap_u64, wrap_u8', hil, hsb]
      refine HT.cond' ?_   -- if 79
      simp (disch := first | omega | (simp <;> omega) | fail) [wrap_i64, wrap_u64, wrap_u8', hil, hsb]
      refine ⟨fun h79 => ?_, fun h79 => ?_⟩
      · skip
        refine HT.region ?_   -- R19
        simp (disch := first | omega | (simp <;> omega) | fail) [wrap_i64, wrap_u64, wrap_u8', hil, hsb]
        refine Round.mk' (⟨(w + 1, v), by dsimp only; omega, h2, fun i x hi hx => by have := hA.le_of (show i ≤ w by omega) hx hAw; omega, h4⟩) (by dsimp only; omega) rfl ?_
        simp (disch := first | omega | (simp <;> omega) | fail) [wrap_i64, wrap_u64, wrap_u8', hil, hsb]
        try omega
      · skip
        refine HT.region ?_   -- R20
        simp (disch := first | omega | (simp <;> omega) | fail) [wrap_i64, wrap_u64, wrap_u8', hil, hsb]
        refine Round.mk' (⟨(u, w), hw1, by dsimp only; omega, h3, fun i x hi hx => by have := hA.le_of hi hAw hx; omega⟩) (by dsimp only; omega) rfl ?_
        simp (disch := first | omega | (simp <;> omega) | fail) [wrap_i64, wrap_u64, wrap_u8', hil, hsb]
        try omega
    · skip
      obtain rfl : u = v := by omega
      rw [show L = insSt p A y s A.length by rw [insSt_last, ← hLd]; simp]
      refine HT.exit ?_
      simp (disch := first | omega | (simp <;> omega) | fail) [wrap_i64, wrap_u64, wrap_u8', hil, hsb]
      refine HT.seq ?_
      refine HT.seq ?_
      refine HT.region ?_   -- R21
      simp (disch := first | omega | (simp <;> omega) | fail) [wrap_i64, wrap_u64, wrap_u8', hil, hsb]
      refine HT.block ?_
      refine HT.loopK (fun m : {m : Nat // u ≤ m ∧ m ≤ A.length} => [.s 15 (i64 (p.length + m)), .o 900 (.prow V ob e sz (mapE enc (insSt p A y s m)))]) [4, 12] [4] (fun m => m) (⟨A.length, by omega, by omega⟩) ?_ ?_   -- block 6 turned [15]
      · simp (disch := first | omega | (simp <;> omega) | fail) [wrap_i64, wrap_u64, wrap_u8', hil, hsb]
      rintro ⟨m, hm, hm2⟩
      simp (disch := first | omega | (simp <;> omega) | fail) [wrap_i64, wrap_u64, wrap_u8', hil, hsb]
      have hil2 := insSt_length p A y s m
      refine HT.seq ?_
      refine HT.seq ?_
      refine HT.region ?_   -- R22
      simp (disch := first | omega | (simp <;> omega) | fail) [wrap_i64, wrap_u64, wrap_u8', hil, hsb]
      refine HT.cond' ?_   -- if 86
      simp (disch := first | omega | (simp <;> omega) | fail) [wrap_i64, wrap_u64, wrap_u8', hil, hsb]
      refine ⟨fun h86 => ?_, fun h86 => ?_⟩
      · skip
        obtain ⟨m', rfl⟩ : ∃ m', m = m' + 1 := ⟨m - 1, by omega⟩
        have hsw := insSt_sw p A y s (m := m') (by omega)
        refine HT.skip ?_
        simp (disch := first | omega | (simp <;> omega) | fail) [wrap_i64, wrap_u64, wrap_u8', hil, hsb]
        refine HT.seq ?_
        refine HT.block ?_
        refine HT.region ?_   -- R24
        simp (disch := first | omega | (simp <;> omega) | fail) [wrap_i64, wrap_u64, wrap_u8', hil, hsb]
        refine stepK.mk (.callX _ _ _ 900 _ _ _ _ _ _ _ rfl (by first | rfl | simp [hil, hsb]) (by simp [hil]) (by first | rfl | simp) (hx.swap _ (p.length + m' + 1) (p.length + m') _ _ (by omega) (by omega) (by omega) (by omega) (by omega) (by omega)) rfl) ?_
        simp (disch := first | omega | (simp <;> omega) | fail) [wrap_i64, wrap_u64, wrap_u8', hil, hsb]
        refine HT.region ?_   -- R23
        simp (disch := first | omega | (simp <;> omega) | fail) [wrap_i64, wrap_u64, wrap_u8', hil, hsb]
        refine Round.mk' (⟨m', by omega, by omega⟩) (by dsimp only; omega) rfl ?_
        simp (disch := first | omega | (simp <;> omega) | fail) [wrap_i64, wrap_u64, wrap_u8', hil, hsb, hsw]
        try omega
      · skip
        obtain rfl : m = u := by omega
        rw [ins_end hA h3 h4 (by omega), hL4]
        refine HT.exit ?_
        simp (disch := first | omega | (simp <;> omega) | fail) [wrap_i64, wrap_u64, wrap_u8', hil, hsb]
        refine HT.ret ?_
        simp (disch := first | omega | (simp <;> omega) | fail) [wrap_i64, wrap_u64, wrap_u8', hil, hsb]
  have c2' : ¬ ((p.length : Int) + A.length + B.length - (p.length + A.length) = 1) := by omega
  obtain ⟨mid, hmid⟩ : ∃ mid, mid = (p.length + (p.length + A.length + B.length)) / 2 := ⟨_, rfl⟩
  have hdm : ∀ z : Int, (z = 2 * (mid : Int) ∨ z = 2 * (mid : Int) + 1) → z.fdiv (2 ^ min 1 IntKind.u64.bits) = (mid : Int) := fun z h => fdiv_half z h
  refine HT.region ?_   -- R13
  simp (disch := first | omega | (simp <;> omega) | fail) [wrap_i64, wrap_u64, wrap_u8', hil, hsb, c2]
  refine HT.cond' ?_   -- if 62
  simp (disch := first | omega | (simp <;> omega) | fail) [wrap_i64, wrap_u64, wrap_u8', hil, hsb]
  refine HT.skip ?_
  simp (disch := first | omega | (simp <;> omega) | fail) [wrap_i64, wrap_u64, wrap_u8', hil, hsb]
  refine HT.seq ?_
  refine HT.region ?_   -- R25
  simp (disch := first | omega | (simp <;> omega) | fail) [wrap_i64, wrap_u64, wrap_u8', hil, hsb, hdm]
  refine HT.seq ?_
  refine HT.region ?_   -- R26
  simp (disch := first | omega | (simp <;> omega) | fail) [wrap_i64, wrap_u64, wrap_u8', hil, hsb]
  refine HT.seq ?_
  refine HT.region ?_   -- R27
  simp (disch := first | omega | (simp <;> omega) | fail) [wrap_i64, wrap_u64, wrap_u8', hil, hsb]
  refine HT.joinX (fun q : {q : Nat × Nat // (mid < p.length + A.length ∧ q.1 + (p.length + A.length + B.length) = mid + (p.length + A.length) ∧ q.2 = mid) ∨ (p.length + A.length ≤ mid ∧ q.1 = p.length ∧ q.2 = p.length + A.length)} => [.s 18 (i64 q.1.1), .s 19 (i64 q.1.2)]) [1, 2, 3, 4, 16, 17, 142, 143, 144, 155, 156, 157, 168, 169, 170] [4, 900] ?_ ?_
  · skip
    refine HT.seq ?_
    refine HT.region ?_   -- R28
    simp (disch := first | omega | (simp <;> omega) | fail) [wrap_i64, wrap_u64, wrap_u8', hil, hsb]
    refine HT.cond' ?_   -- if 106
    simp (disch := first | omega | (simp <;> omega) | fail) [wrap_i64, wrap_u64, wrap_u8', hil, hsb]
    refine ⟨fun h106 => ?_, fun h106 => ?_⟩
    · skip
      refine HT.seq ?_
      refine HT.region ?_   -- R29
      simp (disch := first | omega | (simp <;> omega) | fail) [wrap_i64, wrap_u64, wrap_u8', hil, hsb]
      refine HT.region ?_   -- R30
      simp (disch := first | omega | (simp <;> omega) | fail) [wrap_i64, wrap_u64, wrap_u8', hil, hsb]
      refine Pick.mk' (⟨(mid + (p.length + A.length) - (p.length + A.length + B.length), mid), .inl ⟨by omega, by dsimp only; omega, rfl⟩⟩) rfl ?_
      simp (disch := first | omega | (simp <;> omega) | fail) [wrap_i64, wrap_u64, wrap_u8', hil, hsb]
      try omega
    · skip
      refine HT.seq ?_
      refine HT.region ?_   -- R31
      simp (disch := first | omega | (simp <;> omega) | fail) [wrap_i64, wrap_u64, wrap_u8', hil, hsb]
      refine HT.region ?_   -- R32
      simp (disch := first | omega | (simp <;> omega) | fail) [wrap_i64, wrap_u64, wrap_u8', hil, hsb]
      refine Pick.mk' (⟨(p.length, p.length + A.length), .inr ⟨by omega, rfl, rfl⟩⟩) rfl ?_
      simp (disch := first | omega | (simp <;> omega) | fail) [wrap_i64, wrap_u64, wrap_u8', hil, hsb]
      try omega
  · rintro ⟨⟨s0, r0⟩, hq⟩
    simp (disch := first | omega | (simp <;> omega) | fail) [wrap_i64, wrap_u64, wrap_u8', hil, hsb]
    dsimp only at hq
    have hs0 : p.length ≤ s0 := by omega
    have hr0 : r0 ≤ p.length + A.length := by omega
    have hr1 : r0 ≤ mid := by omega
    have hsr : s0 ≤ r0 := by omega
    have hsb2 : mid ≤ s0 + B.length := by omega
    refine HT.seq ?_
    refine HT.region ?_   -- R33
    simp (disch := first | omega | (simp <;> omega) | fail) [wrap_i64, wrap_u64, wrap_u8', hil, hsb]
    refine HT.seq ?_
    refine HT.block ?_
    refine HT.loopK (fun q : {q : Nat × Nat // s0 ≤ q.1 ∧ q.1 ≤ q.2 ∧ q.2 ≤ r0 ∧ (∀ i, s0 ≤ i → i < q.1 → ∃ x y, A[i - p.length]? = some x ∧ B[mid - 1 - i]? = some y ∧ key x ≤ key y) ∧ (∀ i, q.2 ≤ i → i < r0 → ∃ x y, A[i - p.length]? = some x ∧ B[mid - 1 - i]? = some y ∧ key y < key x)} => [.s 18 (i64 q.1.1), .s 19 (i64 q.1.2)]) [1, 2, 3, 4, 16, 17, 20, 142, 143, 144, 155, 156, 157, 168, 169, 170] [4, 900] (fun q => q.1.2 - q.1.1) (⟨(s0, r0), by simp, hsr, by simp, fun i _ _ => by omega, fun i _ _ => by omega⟩) ?_ ?_   -- block 8 turned [18, 19]
    · simp (disch := first | omega | (simp <;> omega) | fail) [wrap_i64, wrap_u64, wrap_u8', hil, hsb]
    rintro ⟨⟨c, d⟩, h1, h2, h3, h4, h5⟩
    simp (disch := first | omega | (simp <;> omega) | fail) [wrap_i64, wrap_u64, wrap_u8', hil, hsb]
    dsimp only at h1 h2 h3 h4 h5
    obtain ⟨w, hw⟩ : ∃ w, w = (c + d) / 2 := ⟨_, rfl⟩
    have hdv : ∀ z : Int, (z = 2 * (w : Int) ∨ z = 2 * (w : Int) + 1) → z.fdiv (2 ^ min 1 IntKind.u64.bits) = (w : Int) := fun z h => fdiv_half z h
    refine HT.seq ?_
    refine HT.seq ?_
    refine HT.region ?_   -- R34
    simp (disch := first | omega | (simp <;> omega) | fail) [wrap_i64, wrap_u64, wrap_u8', hil, hsb]
    refine HT.cond' ?_   -- if 117
    simp (disch := first | omega | (simp <;> omega) | fail) [wrap_i64, wrap_u64, wrap_u8', hil, hsb]
    refine ⟨fun h117 => ?_, fun h117 => ?_⟩
    · skip
      have hw1 : c ≤ w := by omega
      have hw2 : w < d := by omega
      have hwA : w - p.length < A.length := by omega
      have hwB : mid - 1 - w < B.length := by omega
      have eA : A[w - p.length]? = some A[w - p.length] := List.getElem?_eq_getElem hwA
      have eB : B[mid - 1 - w]? = some B[mid - 1 - w] := List.getElem?_eq_getElem hwB
      have eAL := (hat _ hwA).trans eA
      have eBL := (hbt _ hwB).trans eB
      refine HT.skip ?_
      simp (disch := first | omega | (simp <;> omega) | fail) [wrap_i64, wrap_u64, wrap_u8', hil, hsb]
      refine HT.block ?_
      refine HT.seq ?_
      refine HT.region ?_   -- R35
      simp (disch := first | omega | (simp <;> omega) | fail) [wrap_i64, wrap_u64, wrap_u8', hil, hsb, hdv]
      refine HT.seq ?_
      refine HT.region ?_   -- R36
      simp (disch := first | omega | (simp <;> omega) | fail) [wrap_i64, wrap_u64, wrap_u8', hil, hsb]
      refine stepK.mk (.callX _ _ _ 900 _ _ _ _ _ _ _ rfl (by first | rfl | simp [hil, hsb]) (by simp [hil]) (by first | rfl | simp) (hx.less _ (p.length + A.length + (mid - 1 - w)) (p.length + (w - p.length)) _ _ B[mid - 1 - w] A[w - p.length] (by omega) (by omega) (by omega) eBL eAL) rfl) ?_
      simp (disch := first | omega | (simp <;> omega) | fail) [wrap_i64, wrap_u64, wrap_u8', hil, hsb]
      refine HT.cond' ?_   -- if 131
      simp (disch := first | omega | (simp <;> omega) | fail) [wrap_i64, wrap_u64, wrap_u8', hil, hsb]
      refine ⟨fun h131 => ?_, fun h131 => ?_⟩
      · skip
        refine HT.region ?_   -- R37
        simp (disch := first | omega | (simp <;> omega) | fail) [wrap_i64, wrap_u64, wrap_u8', hil, hsb]
        refine Round.mk' (⟨(w + 1, d), by dsimp only; omega, by dsimp only; omega, h3, fun i a1 a2 => qT hA hB eA eB (by omega) (by dsimp only at a2; omega) (by dsimp only at a2; omega) (by dsimp only at a2; omega), h5⟩) (by dsimp only; omega) rfl ?_
        simp (disch := first | omega | (simp <;> omega) | fail) [wrap_i64, wrap_u64, wrap_u8', hil, hsb]
        try omega
      · skip
        refine HT.region ?_   -- R38
        simp (disch := first | omega | (simp <;> omega) | fail) [wrap_i64, wrap_u64, wrap_u8', hil, hsb]
        refine Round.mk' (⟨(c, w), h1, hw1, by dsimp only; omega, h4, fun i a1 a2 => qF hA hB eA eB (by omega) (by dsimp only at a1; omega) (by dsimp only at a1; omega) (by dsimp only at a1; omega)⟩) (by dsimp only; omega) rfl ?_
        simp (disch := first | omega | (simp <;> omega) | fail) [wrap_i64, wrap_u64, wrap_u8', hil, hsb]
        try omega
    · skip
      obtain rfl : c = d := by omega
      refine HT.exit ?_
      simp (disch := first | omega | (simp <;> omega) | fail) [wrap_i64, wrap_u64, wrap_u8', hil, hsb]
      obtain ⟨u, hu⟩ : ∃ u, u = c - p.length := ⟨_, rfl⟩
      obtain ⟨v, hv⟩ : ∃ v, v = mid - c := ⟨_, rfl⟩
      have huA : u ≤ A.length := by omega
      have hvB : v ≤ B.length := by omega
      have hcut := cut_end hA hB huA hvB (by
        by_cases e : c < r0
        · have := h5 c (by omega) e
          rw [← hu, show mid - 1 - c = v - 1 by omega] at this
          exact .inr (.inr this)
        · rcases hq with hq | hq
          · exact .inr (.inl (by omega))
          · exact .inl (by omega)) (by
        by_cases e : s0 < c
        · have := h4 (c - 1) (by omega) (by omega)
          rw [show c - 1 - p.length = u - 1 by omega, show mid - 1 - (c - 1) = v by omega] at this
          exact .inr (.inr this)
        · rcases hq with hq | hq
          · exact .inr (.inl (by omega))
          · exact .inl (by omega))
      have tA : (A.take u).length = u := by rw [List.length_take]; omega
      have tB : (B.take v).length = v := by rw [List.length_take]; omega
      have dA : (A.drop u).length = A.length - u := by simp
      have dB : (B.drop v).length = B.length - v := by simp
      have aA : A.take u ++ A.drop u = A := List.take_append_drop ..
      have aB : B.take v ++ B.drop v = B := List.take_append_drop ..
      have sA1 := hA.sub (List.take_sublist u A)
      have sA2 := hA.sub (List.drop_sublist u A)
      have sB1 := hB.sub (List.take_sublist v B)
      have sB2 := hB.sub (List.drop_sublist v B)
      have sl := srtK_length2 key (A.take u) (B.take v)
      obtain ⟨L2, hL2⟩ : ∃ L2, L2 = (p ++ A.take u) ++ B.take v ++ A.drop u ++ (B.drop v ++ s) := ⟨_, rfl⟩
      obtain ⟨L3, hL3⟩ : ∃ L3, L3 = p ++ srtK key (A.take u ++ B.take v) ++ (A.drop u ++ B.drop v ++ s) := ⟨_, rfl⟩
      have hL1 : (p ++ A.take u) ++ A.drop u ++ B.take v ++ (B.drop v ++ s) = L := by
        rw [List.append_assoc p, aA, List.append_assoc (p ++ A), ← List.append_assoc (B.take v), aB, ← hLd]; simp only [List.append_assoc]
      have hL2' : p ++ A.take u ++ B.take v ++ (A.drop u ++ B.drop v ++ s) = L2 := by rw [hL2]; simp only [List.append_assoc]
      have hL3' : (p ++ srtK key (A.take u ++ B.take v)) ++ A.drop u ++ B.drop v ++ s = L3 := by rw [hL3]; simp only [List.append_assoc]
      have hL4' : (p ++ srtK key (A.take u ++ B.take v)) ++ srtK key (A.drop u ++ B.drop v) ++ s = L4 := by rw [← hL4, hcut]; simp only [List.append_assoc]
      refine HT.seq ?_
      refine HT.region ?_   -- R39
      simp (disch := first | omega | (simp <;> omega) | fail) [wrap_i64, wrap_u64, wrap_u8', hil, hsb]
      refine HT.joinK [.o 900 (.prow V ob e sz (mapE enc L2))] [1, 3, 4, 16, 18, 22, 155, 156, 157, 168, 169, 170] [4] ?_ ?_
      · skip
        refine HT.seq ?_
        by_cases d1 : ¬ c < p.length + A.length
        · skip
          refine HT.region ?_   -- R40
          simp (disch := first | omega | (simp <;> omega) | fail) [wrap_i64, wrap_u64, wrap_u8', hil, hsb, d1]
          refine HT.cond' ?_   -- if 145
          simp (disch := first | omega | (simp <;> omega) | fail) [wrap_i64, wrap_u64, wrap_u8', hil, hsb]
          have hLL : L = L2 := by
            rw [← hL1, hL2]
            first | rw [List.drop_of_length_le (show A.length ≤ u by omega)] | rw [show v = 0 by omega]
            simp
          refine HT.skip ?_
          simp (disch := first | omega | (simp <;> omega) | fail) [wrap_i64, wrap_u64, wrap_u8', hil, hsb]
          try simp (disch := first | omega | (simp <;> omega) | fail) [wrap_i64, wrap_u64, wrap_u8', hil, hsb, hLL]
        rw [Classical.not_not] at d1
        by_cases d2 : ¬ c < mid
        · skip
          refine HT.region ?_   -- R40
          simp (disch := first | omega | (simp <;> omega) | fail) [wrap_i64, wrap_u64, wrap_u8', hil, hsb, d1, d2]
          refine HT.cond' ?_   -- if 145
          simp (disch := first | omega | (simp <;> omega) | fail) [wrap_i64, wrap_u64, wrap_u8', hil, hsb]
          have hLL : L = L2 := by
            rw [← hL1, hL2]
            first | rw [List.drop_of_length_le (show A.length ≤ u by omega)] | rw [show v = 0 by omega]
            simp
          refine HT.skip ?_
          simp (disch := first | omega | (simp <;> omega) | fail) [wrap_i64, wrap_u64, wrap_u8', hil, hsb]
          try simp (disch := first | omega | (simp <;> omega) | fail) [wrap_i64, wrap_u64, wrap_u8', hil, hsb, hLL]
        rw [Classical.not_not] at d2
        refine HT.region ?_   -- R40
        simp (disch := first | omega | (simp <;> omega) | fail) [wrap_i64, wrap_u64, wrap_u8', hil, hsb, d1, d2]
        refine HT.cond' ?_   -- if 145
        simp (disch := first | omega | (simp <;> omega) | fail) [wrap_i64, wrap_u64, wrap_u8', hil, hsb]
        have hLL : True := trivial
        have hrot : ∀ (ai mi bi : Int), ai = ((p.length + u : Nat) : Int) → mi = ((p.length + A.length : Nat) : Int) → bi = ((p.length + A.length + v : Nat) : Int) → SpecX Tryz.prog 121 #[] [.agg [fnv g lb, fnv sf sb], i64 ai, i64 mi, i64 bi] V ob e sz (mapE enc L) (.lit (.tuple #[])) (mapE enc L2) := fun ai mi bi e1 e2 e3 => by
          have := rotate_spec hx (p ++ A.take u) (A.drop u) (B.take v) (B.drop v ++ s) ai mi bi (by simp; omega) (by simp; omega) (by simp; omega) (by simp; omega) (by omega) (by omega)
          rw [hL1, ← hL2] at this; exact this
        refine HT.region ?_   -- R41
        simp (disch := first | omega | (simp <;> omega) | fail) [wrap_i64, wrap_u64, wrap_u8', hil, hsb]
        refine stepK.mk (.callX _ _ _ 900 _ _ _ _ _ _ _ rfl (by first | rfl | simp [hil, hsb]) (by simp [hil]) (by first | rfl | simp) (hrot _ _ _ (by omega) (by omega) (by omega)) rfl) ?_
        simp (disch := first | omega | (simp <;> omega) | fail) [wrap_i64, wrap_u64, wrap_u8', hil, hsb]
        try simp (disch := first | omega | (simp <;> omega) | fail) [wrap_i64, wrap_u64, wrap_u8', hil, hsb, hLL]
      · simp (disch := first | omega | (simp <;> omega) | fail) [wrap_i64, wrap_u64, wrap_u8', hil, hsb]
        refine HT.joinK [.o 900 (.prow V ob e sz (mapE enc L3))] [3, 4, 16, 22, 168, 169, 170] [4] ?_ ?_
        · skip
          refine HT.seq ?_
          by_cases d3 : ¬ p.length < c
          · skip
            refine HT.region ?_   -- R42
            simp (disch := first | omega | (simp <;> omega) | fail) [wrap_i64, wrap_u64, wrap_u8', hil, hsb, d3]
            refine HT.cond' ?_   -- if 158
            simp (disch := first | omega | (simp <;> omega) | fail) [wrap_i64, wrap_u64, wrap_u8', hil, hsb]
            have hLL : L2 = L3 := by rw [← hL2', hL3, srtK_left hA hB (by omega)]; simp only [List.append_assoc]
            refine HT.skip ?_
            simp (disch := first | omega | (simp <;> omega) | fail) [wrap_i64, wrap_u64, wrap_u8', hil, hsb]
            try simp (disch := first | omega | (simp <;> omega) | fail) [wrap_i64, wrap_u64, wrap_u8', hil, hsb, hLL]
          rw [Classical.not_not] at d3
          by_cases d4 : ¬ c < mid
          · skip
            refine HT.region ?_   -- R42
            simp (disch := first | omega | (simp <;> omega) | fail) [wrap_i64, wrap_u64, wrap_u8', hil, hsb, d3, d4]
            refine HT.cond' ?_   -- if 158
            simp (disch := first | omega | (simp <;> omega) | fail) [wrap_i64, wrap_u64, wrap_u8', hil, hsb]
            have hLL : L2 = L3 := by rw [← hL2', hL3, srtK_left hA hB (by omega)]; simp only [List.append_assoc]
            refine HT.skip ?_
            simp (disch := first | omega | (simp <;> omega) | fail) [wrap_i64, wrap_u64, wrap_u8', hil, hsb]
            try simp (disch := first | omega | (simp <;> omega) | fail) [wrap_i64, wrap_u64, wrap_u8', hil, hsb, hLL]
          rw [Classical.not_not] at d4
          refine HT.region ?_   -- R42
          simp (disch := first | omega | (simp <;> omega) | fail) [wrap_i64, wrap_u64, wrap_u8', hil, hsb, d3, d4]
          refine HT.cond' ?_   -- if 158
          simp (disch := first | omega | (simp <;> omega) | fail) [wrap_i64, wrap_u64, wrap_u8', hil, hsb]
          have hLL : True := trivial
          have hih : ∀ (ai mi bi : Int), ai = (p.length : Int) → mi = ((p.length + u : Nat) : Int) → bi = ((p.length + u + v : Nat) : Int) → SpecX Tryz.prog 94 #[] [.agg [fnv g lb, fnv sf sb], i64 ai, i64 mi, i64 bi] V ob e sz (mapE enc L2) (.lit (.tuple #[])) (mapE enc L3) := fun ai mi bi e1 e2 e3 => by
            have := ih p (A.take u) (B.take v) (A.drop u ++ B.drop v ++ s) ai mi bi (by omega) e1 (by omega) (by omega) (by simp; omega) (by omega) (by omega) sA1 sB1
            rw [hL2', ← hL3] at this; exact this
          refine HT.region ?_   -- R43
          simp (disch := first | omega | (simp <;> omega) | fail) [wrap_i64, wrap_u64, wrap_u8', hil, hsb]
          refine stepK.mk (.callX _ _ _ 900 _ _ _ _ _ _ _ rfl (by first | rfl | simp [hil, hsb]) (by simp [hil]) (by first | rfl | simp) (hih _ _ _ rfl (by omega) (by omega)) rfl) ?_
          simp (disch := first | omega | (simp <;> omega) | fail) [wrap_i64, wrap_u64, wrap_u8', hil, hsb]
          try simp (disch := first | omega | (simp <;> omega) | fail) [wrap_i64, wrap_u64, wrap_u8', hil, hsb, hLL]
        · simp (disch := first | omega | (simp <;> omega) | fail) [wrap_i64, wrap_u64, wrap_u8', hil, hsb]
          refine HT.seq ?_
          by_cases d5 : ¬ u < A.length
          · skip
            refine HT.region ?_   -- R44
            simp (disch := first | omega | (simp <;> omega) | fail) [wrap_i64, wrap_u64, wrap_u8', hil, hsb, d5]
            refine HT.cond' ?_   -- if 171
            simp (disch := first | omega | (simp <;> omega) | fail) [wrap_i64, wrap_u64, wrap_u8', hil, hsb]
            have hLL : L3 = L4 := by rw [← hL3', ← hL4', srtK_right hA hB (by omega)]; simp only [List.append_assoc]
            refine HT.skip ?_
            simp (disch := first | omega | (simp <;> omega) | fail) [wrap_i64, wrap_u64, wrap_u8', hil, hsb]
            try simp (disch := first | omega | (simp <;> omega) | fail) [wrap_i64, wrap_u64, wrap_u8', hil, hsb, hLL]
          rw [Classical.not_not] at d5
          by_cases d6 : ¬ v < B.length
          · skip
            refine HT.region ?_   -- R44
            simp (disch := first | omega | (simp <;> omega) | fail) [wrap_i64, wrap_u64, wrap_u8', hil, hsb, d5, d6]
            refine HT.cond' ?_   -- if 171
            simp (disch := first | omega | (simp <;> omega) | fail) [wrap_i64, wrap_u64, wrap_u8', hil, hsb]
            have hLL : L3 = L4 := by rw [← hL3', ← hL4', srtK_right hA hB (by omega)]; simp only [List.append_assoc]
            refine HT.skip ?_
            simp (disch := first | omega | (simp <;> omega) | fail) [wrap_i64, wrap_u64, wrap_u8', hil, hsb]
            try simp (disch := first | omega | (simp <;> omega) | fail) [wrap_i64, wrap_u64, wrap_u8', hil, hsb, hLL]
          rw [Classical.not_not] at d6
          refine HT.region ?_   -- R44
          simp (disch := first | omega | (simp <;> omega) | fail) [wrap_i64, wrap_u64, wrap_u8', hil, hsb, d5, d6]
          refine HT.cond' ?_   -- if 171
          simp (disch := first | omega | (simp <;> omega) | fail) [wrap_i64, wrap_u64, wrap_u8', hil, hsb]
          have hLL : True := trivial
          have hih : ∀ (ai mi bi : Int), ai = ((p.length + u + v : Nat) : Int) → mi = ((p.length + A.length + v : Nat) : Int) → bi = ((p.length + A.length + B.length : Nat) : Int) → SpecX Tryz.prog 94 #[] [.agg [fnv g lb, fnv sf sb], i64 ai, i64 mi, i64 bi] V ob e sz (mapE enc L3) (.lit (.tuple #[])) (mapE enc L4) := fun ai mi bi e1 e2 e3 => by
            have := ih (p ++ srtK key (A.take u ++ B.take v)) (A.drop u) (B.drop v) s ai mi bi (by omega) (by simp [sl]; omega) (by simp [sl]; omega) (by simp [sl]; omega) (by simp [sl]; omega) (by omega) (by omega) sA2 sB2
            rw [hL3', hL4'] at this; exact this
          refine HT.region ?_   -- R45
          simp (disch := first | omega | (simp <;> omega) | fail) [wrap_i64, wrap_u64, wrap_u8', hil, hsb]
          refine stepK.mk (.callX _ _ _ 900 _ _ _ _ _ _ _ rfl (by first | rfl | simp [hil, hsb]) (by simp [hil]) (by first | rfl | simp) (hih _ _ _ (by omega) (by omega) (by omega)) rfl) ?_
          simp (disch := first | omega | (simp <;> omega) | fail) [wrap_i64, wrap_u64, wrap_u8', hil, hsb]
          try simp (disch := first | omega | (simp <;> omega) | fail) [wrap_i64, wrap_u64, wrap_u8', hil, hsb, hLL]
theorem symMerge_spec [GI] {α : Type} {enc : α → List HV} {key : α → Int} {V : Value} {ob : Option Nat} {e sz g sf : Nat} {lb sb : Array Value} {N : Nat} (hx : SortCtx Tryz.prog enc key V ob e sz g sf lb sb N) : ∀ (n : Nat) (p A B s : List α) (ai mi bi : Int), A.length + B.length ≤ n → ai = p.length → mi = (p.length + A.length : Nat) → bi = (p.length + A.length + B.length : Nat) → p.length + A.length + B.length + s.length = N → 0 < A.length → 0 < B.length → Srt key A → Srt key B →
    SpecX Tryz.prog 94 #[] [.agg [fnv g lb, fnv sf sb], i64 ai, i64 mi, i64 bi] V ob e sz (mapE enc (p ++ A ++ B ++ s)) (.lit (.tuple #[])) (mapE enc (p ++ srtK key (A ++ B) ++ s))
  | 0, p, A, B, s, ai, mi, bi, hn, _, _, _, _, hA, _, _, _ => by omega
  | n + 1, p, A, B, s, ai, mi, bi, hn, ea, em, eb, hl, hA0, hB0, hA, hB =>
    symStep_spec hx p A B s ai mi bi ea em eb hl hA0 hB0 hA hB fun p' A' B' s' ai mi bi hlt ea em eb hl hA0 hB0 hA hB => symMerge_spec hx n p' A' B' s' ai mi bi (by omega) ea em eb hl hA0 hB0 hA hB
set_option maxHeartbeats 4000000 in
set_option maxRecDepth 20000 in
theorem stable_spec [GI] {α : Type} {enc : α → List HV} {key : α → Int} {V : Value} {ob : Option Nat} {e sz g sf : Nat} {lb sb : Array Value} {N : Nat} (hx : SortCtx Tryz.prog enc key V ob e sz g sf lb sb N) (l : List α) (ni : Int) (en : ni = N) (hl : l.length = N) : SpecX Tryz.prog 63 #[] [.agg [fnv g lb, fnv sf sb], i64 ni] V ob e sz (mapE enc l) (.lit (.tuple #[])) (mapE enc (srtK key l)) := by
  subst en
  have hN := hx.hN
  have hil := hx.il
  have hsb : ∀ (i : Nat) (a b : HV) (l : List α), subLL i a b (mapE enc l) = mapE enc l := fun i a b l => subLL_isILL i a b _ (hil l)
  refine SpecX.of_HT Tryz.func63 rfl (by rw [Tryz.ntmps63]; simp) rfl Ty.hb63 ?_
  rw [Tryz.ntmps63]
  refine HT.seq ?_
  refine HT.region ?_   -- R0
  simp (disch := first | omega | (simp <;> omega) | fail) [wrap_i64, wrap_u64, wrap_u8', hil, hsb]
  refine HT.seq ?_
  refine HT.region ?_   -- R1
  simp (disch := first | omega | (simp <;> omega) | fail) [wrap_i64, wrap_u64, wrap_u8', hil, hsb]
  refine HT.seq ?_
  refine HT.region ?_   -- R2
  simp (disch := first | omega | (simp <;> omega) | fail) [wrap_i64, wrap_u64, wrap_u8', hil, hsb]
  refine HT.seq ?_
  refine HT.block ?_
  refine HT.loopK (fun q : {q : Nat × List α // q.1 * 20 ≤ N ∧ (∀ i, i < q.1 → Srt key (blkAt 20 i q.2)) ∧ Stb key q.2 l ∧ q.2.length = N} => [.s 5 (i64 (q.1.1 * 20)), .s 6 (i64 (q.1.1 * 20 + 20)), .o 900 (.prow V ob e sz (mapE enc q.1.2))]) [1, 2, 4] [2] (fun q => N - q.1.1 * 20) (⟨(0, l), by simp, by simp, Stb.refl key l, hl⟩) ?_ ?_   -- block 0 turned [5, 6]
  · simp (disch := first | omega | (simp <;> omega) | fail) [wrap_i64, wrap_u64, wrap_u8', hil, hsb]
  rintro ⟨⟨j, L⟩, hj, hb, hs, hll⟩
  simp (disch := first | omega | (simp <;> omega) | fail) [wrap_i64, wrap_u64, wrap_u8', hil, hsb]
  dsimp only at hj hb hs hll
  obtain ⟨L', hL'⟩ : ∃ L', L' = L.take (j * 20) ++ srtK key ((L.drop (j * 20)).take 20) ++ L.drop (j * 20 + 20) := ⟨_, rfl⟩
  obtain ⟨hb2, hs2⟩ := ins_step (by omega) hb (by omega : j * 20 ≤ L.length)
  rw [← hL'] at hb2 hs2
  have hs3 := hs2.trans hs
  have hll2 : L'.length = N := by rw [hL', stb_len (srtK_length key ((L.drop (j * 20)).take 20)), cut3]; exact hll
  have hins : ∀ (ai bi : Int), ai = ((j * 20 : Nat) : Int) → bi = ((j * 20 + min 20 (N - j * 20) : Nat) : Int) → SpecX Tryz.prog 93 #[] [.agg [fnv g lb, fnv sf sb], i64 ai, i64 bi] V ob e sz (mapE enc L) (.lit (.tuple #[])) (mapE enc L') := fun ai bi e1 e2 => by
    have := insertionSort_spec hx (L.take (j * 20)) ((L.drop (j * 20)).take 20) (L.drop (j * 20 + 20)) ai bi (by simp; omega) (by simp; omega) (by simp; omega)
    rw [cut3, ← hL'] at this; exact this
  refine HT.seq ?_
  refine HT.seq ?_
  refine HT.region ?_   -- R3
  simp (disch := first | omega | (simp <;> omega) | fail) [wrap_i64, wrap_u64, wrap_u8', hil, hsb]
  refine HT.cond' ?_   -- if 11
  simp (disch := first | omega | (simp <;> omega) | fail) [wrap_i64, wrap_u64, wrap_u8', hil, hsb]
  refine ⟨fun h11 => ?_, fun h11 => ?_⟩
  · skip
    refine HT.skip ?_
    simp (disch := first | omega | (simp <;> omega) | fail) [wrap_i64, wrap_u64, wrap_u8', hil, hsb]
    refine HT.block ?_
    refine HT.seq ?_
    refine HT.region ?_   -- R4
    simp (disch := first | omega | (simp <;> omega) | fail) [wrap_i64, wrap_u64, wrap_u8', hil, hsb]
    refine stepK.mk (.callX _ _ _ 900 _ _ _ _ _ _ _ rfl (by first | rfl | simp [hil, hsb]) (by simp [hil]) (by first | rfl | simp) (hins _ _ (by omega) (by omega)) rfl) ?_
    simp (disch := first | omega | (simp <;> omega) | fail) [wrap_i64, wrap_u64, wrap_u8', hil, hsb]
    refine HT.seq ?_
    refine HT.region ?_   -- R5
    simp (disch := first | omega | (simp <;> omega) | fail) [wrap_i64, wrap_u64, wrap_u8', hil, hsb]
    refine HT.region ?_   -- R6
    simp (disch := first | omega | (simp <;> omega) | fail) [wrap_i64, wrap_u64, wrap_u8', hil, hsb]
    refine Round.mk' (⟨(j + 1, L'), by dsimp only; omega, hb2, hs3, hll2⟩) (by dsimp only; omega) rfl ?_
    simp (disch := first | omega | (simp <;> omega) | fail) [wrap_i64, wrap_u64, wrap_u8', hil, hsb]
    try omega
  · skip
    refine HT.exit ?_
    simp (disch := first | omega | (simp <;> omega) | fail) [wrap_i64, wrap_u64, wrap_u8', hil, hsb]
    have hall := all_blk hb2 (by rw [hll2]; omega)
    refine HT.seq ?_
    refine HT.region ?_   -- R7
    simp (disch := first | omega | (simp <;> omega) | fail) [wrap_i64, wrap_u64, wrap_u8', hil, hsb]
    refine stepK.mk (.callX _ _ _ 900 _ _ _ _ _ _ _ rfl (by first | rfl | simp [hil, hsb]) (by simp [hil]) (by first | rfl | simp) (hins _ _ (by omega) (by omega)) rfl) ?_
    simp (disch := first | omega | (simp <;> omega) | fail) [wrap_i64, wrap_u64, wrap_u8', hil, hsb]
    refine HT.block ?_
    refine HT.loopK (fun q : {q : Nat × List α // 0 < q.1 ∧ q.1 ≤ 2000000 ∧ (∀ i, Srt key (blkAt q.1 i q.2)) ∧ Stb key q.2 l ∧ q.2.length = N} => [.s 4 (i64 q.1.1), .o 900 (.prow V ob e sz (mapE enc q.1.2))]) [1, 2] [2] (fun q => N - q.1.1) (⟨(20, L'), by simp, by simp, hall, hs3, hll2⟩) ?_ ?_   -- block 2 turned [4]
    · simp (disch := first | omega | (simp <;> omega) | fail) [wrap_i64, wrap_u64, wrap_u8', hil, hsb]
    rintro ⟨⟨c, L2⟩, hc, hc2, hB, hS, hlen⟩
    simp (disch := first | omega | (simp <;> omega) | fail) [wrap_i64, wrap_u64, wrap_u8', hil, hsb]
    dsimp only at hc hc2 hB hS hlen
    refine HT.seq ?_
    refine HT.seq ?_
    refine HT.region ?_   -- R8
    simp (disch := first | omega | (simp <;> omega) | fail) [wrap_i64, wrap_u64, wrap_u8', hil, hsb]
    refine HT.cond' ?_   -- if 26
    simp (disch := first | omega | (simp <;> omega) | fail) [wrap_i64, wrap_u64, wrap_u8', hil, hsb]
    refine ⟨fun h26 => ?_, fun h26 => ?_⟩
    · skip
      refine HT.skip ?_
      simp (disch := first | omega | (simp <;> omega) | fail) [wrap_i64, wrap_u64, wrap_u8', hil, hsb]
      refine HT.block ?_
      refine HT.seq ?_
      refine HT.region ?_   -- R9
      simp (disch := first | omega | (simp <;> omega) | fail) [wrap_i64, wrap_u64, wrap_u8', hil, hsb]
      refine HT.seq ?_
      refine HT.block ?_
      refine HT.loopK (fun q : {q : Nat × Nat × List α // q.2.1 = q.1 * (2 * c) ∧ q.2.1 ≤ N ∧ (∀ i, i < q.1 → Srt key (blkAt (2 * c) i q.2.2)) ∧ (∀ i, 2 * q.1 ≤ i → Srt key (blkAt c i q.2.2)) ∧ Stb key q.2.2 l ∧ q.2.2.length = N} => [.s 5 (i64 q.1.2.1), .s 6 (i64 (q.1.2.1 + 2 * c)), .o 900 (.prow V ob e sz (mapE enc q.1.2.2))]) [1, 2, 4] [2] (fun q => N - q.1.2.1) (⟨(0, 0, L2), by simp, by simp, by simp, fun i _ => hB i, hS, hlen⟩) ?_ ?_   -- block 4 turned [5, 6]
      · simp (disch := first | omega | (simp <;> omega) | fail) [wrap_i64, wrap_u64, wrap_u8', hil, hsb]
      rintro ⟨⟨k, a, M⟩, ha, haN, h1, h2, hS4, hlen4⟩
      simp (disch := first | omega | (simp <;> omega) | fail) [wrap_i64, wrap_u64, wrap_u8', hil, hsb]
      dsimp only at ha haN h1 h2 hS4 hlen4
      obtain ⟨A, hA⟩ : ∃ A, A = (M.drop a).take c := ⟨_, rfl⟩
      obtain ⟨B, hBd⟩ : ∃ B, B = (M.drop (a + c)).take c := ⟨_, rfl⟩
      obtain ⟨M', hM'⟩ : ∃ M', M' = M.take a ++ srtK key (A ++ B) ++ M.drop (a + c + c) := ⟨_, rfl⟩
      have hst := mrg_step hc h1 h2 (by rw [← ha]; omega)
      dsimp only at hst
      rw [← ha, ← hA, ← hBd, ← hM'] at hst
      obtain ⟨sA, sB, n1, n2, n3⟩ := hst
      have n4 := n3.trans hS4
      have lA : A.length = min c (N - a) := by rw [hA, List.length_take, List.length_drop, hlen4]
      have lB : B.length = min c (N - (a + c)) := by rw [hBd, List.length_take, List.length_drop, hlen4]
      have hMc : M.take a ++ A ++ B ++ M.drop (a + c + c) = M := by rw [hA, hBd]; exact cut4 M a c c
      have hlM : M'.length = N := by
        rw [hM', stb_len (srtK_length key (A ++ B)), ← List.append_assoc (M.take a), hMc]; exact hlen4
      have hmg : 0 < N - (a + c) → ∀ (ai mi bi : Int), ai = (a : Int) → mi = ((a + c : Nat) : Int) → bi = ((a + c + min c (N - (a + c)) : Nat) : Int) → SpecX Tryz.prog 94 #[] [.agg [fnv g lb, fnv sf sb], i64 ai, i64 mi, i64 bi] V ob e sz (mapE enc M) (.lit (.tuple #[])) (mapE enc M') := fun h0 ai mi bi e1 e2 e3 => by
        have := symMerge_spec hx (A.length + B.length) (M.take a) A B (M.drop (a + c + c)) ai mi bi (Nat.le_refl _) (by simp; omega) (by simp; omega) (by simp; omega) (by simp; omega) (by omega) (by omega) sA sB
        rw [hMc, ← hM'] at this; exact this
      refine HT.seq ?_
      refine HT.seq ?_
      refine HT.region ?_   -- R10
      simp (disch := first | omega | (simp <;> omega) | fail) [wrap_i64, wrap_u64, wrap_u8', hil, hsb]
      refine HT.cond' ?_   -- if 31
      simp (disch := first | omega | (simp <;> omega) | fail) [wrap_i64, wrap_u64, wrap_u8', hil, hsb]
      refine ⟨fun h31 => ?_, fun h31 => ?_⟩
      · skip
        refine HT.skip ?_
        simp (disch := first | omega | (simp <;> omega) | fail) [wrap_i64, wrap_u64, wrap_u8', hil, hsb]
        refine HT.block ?_
        refine HT.seq ?_
        refine HT.region ?_   -- R11
        simp (disch := first | omega | (simp <;> omega) | fail) [wrap_i64, wrap_u64, wrap_u8', hil, hsb]
        refine stepK.mk (.callX _ _ _ 900 _ _ _ _ _ _ _ rfl (by first | rfl | simp [hil, hsb]) (by simp [hil]) (by first | rfl | simp) (hmg (by omega) _ _ _ rfl (by omega) (by omega)) rfl) ?_
        simp (disch := first | omega | (simp <;> omega) | fail) [wrap_i64, wrap_u64, wrap_u8', hil, hsb]
        refine HT.seq ?_
        refine HT.region ?_   -- R12
        simp (disch := first | omega | (simp <;> omega) | fail) [wrap_i64, wrap_u64, wrap_u8', hil, hsb]
        refine HT.region ?_   -- R13
        simp (disch := first | omega | (simp <;> omega) | fail) [wrap_i64, wrap_u64, wrap_u8', hil, hsb]
        refine Round.mk' (⟨(k + 1, a + 2 * c, M'), by dsimp only; rw [Nat.add_mul, Nat.one_mul]; omega, by dsimp only; omega, n1, n2, n4, hlM⟩) (by dsimp only; omega) rfl ?_
        simp (disch := first | omega | (simp <;> omega) | fail) [wrap_i64, wrap_u64, wrap_u8', hil, hsb]
        try omega
      · skip
        refine HT.exit ?_
        simp (disch := first | omega | (simp <;> omega) | fail) [wrap_i64, wrap_u64, wrap_u8', hil, hsb]
        refine HT.joinX (fun q : {q : List α // (∀ i, Srt key (blkAt (2 * c) i q)) ∧ Stb key q l ∧ q.length = N} => [.o 900 (.prow V ob e sz (mapE enc q.1))]) [1, 2, 4] [2] ?_ ?_
        · skip
          refine HT.seq ?_
          refine HT.region ?_   -- R14
          simp (disch := first | omega | (simp <;> omega) | fail) [wrap_i64, wrap_u64, wrap_u8', hil, hsb]
          refine HT.seq ?_
          refine HT.region ?_   -- R15
          simp (disch := first | omega | (simp <;> omega) | fail) [wrap_i64, wrap_u64, wrap_u8', hil, hsb]
          refine HT.cond' ?_   -- if 49
          simp (disch := first | omega | (simp <;> omega) | fail) [wrap_i64, wrap_u64, wrap_u8', hil, hsb]
          refine ⟨fun h49 => ?_, fun h49 => ?_⟩
          · skip
            refine HT.region ?_   -- R16
            simp (disch := first | omega | (simp <;> omega) | fail) [wrap_i64, wrap_u64, wrap_u8', hil, hsb]
            refine stepK.mk (.callX _ _ _ 900 _ _ _ _ _ _ _ rfl (by first | rfl | simp [hil, hsb]) (by simp [hil]) (by first | rfl | simp) (hmg (by omega) _ _ _ rfl (by omega) (by omega)) rfl) ?_
            simp (disch := first | omega | (simp <;> omega) | fail) [wrap_i64, wrap_u64, wrap_u8', hil, hsb]
            refine Pick.mk' (⟨M', all_blk n1 (by rw [hlM, Nat.add_mul, Nat.one_mul]; omega), n4, hlM⟩) rfl ?_
            simp (disch := first | omega | (simp <;> omega) | fail) [wrap_i64, wrap_u64, wrap_u8', hil, hsb]
            try omega
          · skip
            refine HT.skip ?_
            simp (disch := first | omega | (simp <;> omega) | fail) [wrap_i64, wrap_u64, wrap_u8', hil, hsb]
            refine Pick.mk' (⟨M, all_blk2 h1 h2 (by rw [hlen4, ← ha]; omega), hS4, hlen4⟩) rfl ?_
            simp (disch := first | omega | (simp <;> omega) | fail) [wrap_i64, wrap_u64, wrap_u8', hil, hsb]
            try omega
        · rintro ⟨M2, hM1, hM2, hM3⟩
          simp (disch := first | omega | (simp <;> omega) | fail) [wrap_i64, wrap_u64, wrap_u8', hil, hsb]
          refine HT.region ?_   -- R17
          simp (disch := first | omega | (simp <;> omega) | fail) [wrap_i64, wrap_u64, wrap_u8', hil, hsb]
          refine Round.mk' (⟨(2 * c, M2), by dsimp only; omega, by dsimp only; omega, hM1, hM2, hM3⟩) (by dsimp only; omega) rfl ?_
          simp (disch := first | omega | (simp <;> omega) | fail) [wrap_i64, wrap_u64, wrap_u8', hil, hsb]
          try omega
    · skip
      rw [blk_done hB hS (by omega)]
      refine HT.exit ?_
      simp (disch := first | omega | (simp <;> omega) | fail) [wrap_i64, wrap_u64, wrap_u8', hil, hsb]
set_option maxHeartbeats 2000000 in
theorem sliceStable0 [GI] {α : Type} {enc : α → List HV} {key : α → Int} {p : Option Addr} {n c : Nat} {ob : Option Nat} {t e sz g sf : Nat} {lb sb : Array Value} (hx : SortCtx Tryz.prog enc key (.slice p n c) ob e sz g sf lb sb n) (l : List α) (hl : l.length = n) {i ie : TypeInfo} {ke : Nat} (hi : Tryz.prog.info? t = some i) (hd : i.desc = .slice e) (hie : Tryz.prog.info? e = some ie) (hke : ∀ w, (Extern.Rtype.kind e).run Tryz.prog w = .ok ke w) (hpk : Tryz.prog.packed t = false) (hf : Tryz.prog.funcs.findIdx? (·.name == "internal/reflectlite" ++ ".Swapper$" ++ toString (swapperK n ie ke)) = some sf) (hsv : sb = if swapperK n ie ke ≤ 2 then #[] else #[.slice p n c, typeHandle Tryz.prog e]) : SpecX Tryz.prog 32 #[] [.lit (.iface t (.slice p n c)), fnv g lb] (.slice p n c) ob e sz (mapE enc l) (.lit (.tuple #[])) (mapE enc (srtK key l)) := by
  have hil := hx.il
  have hsb : ∀ (i : Nat) (a b : HV) (l : List α), subLL i a b (mapE enc l) = mapE enc l := fun i a b l => subLL_isILL i a b _ (hil l)
  have hv := @SpecX.valueOf _ Tryz.prog 61 t e i (run_callFunc_extern Tryz.func61 (by kernel_rfl) (by kernel_rfl) (by kernel_rfl) (by kernel_rfl)) hi hd p n c sz ob (mapE enc l)
  have hsw := @SpecX.swapper _ Tryz.prog 62 t e i ie (run_callFunc_extern Tryz.func62 (by kernel_rfl) (by kernel_rfl) (by kernel_rfl) (by kernel_rfl)) hi hd hie ke hke p n c sz ob (mapE enc l) sf hf
  have hln := @SpecX.rlen _ Tryz.prog 64 t e i (run_callFunc_extern Tryz.func64 (by kernel_rfl) (by kernel_rfl) (by kernel_rfl) (by kernel_rfl)) hi hd hpk p n c sz ob (mapE enc l)
  rw [← hsv] at hsw
  refine SpecX.of_HT Tryz.func32 rfl (by rw [Tryz.ntmps32]; simp) rfl Ty.hb32 ?_
  rw [Tryz.ntmps32]
  refine HT.seq ?_
  refine HT.region ?_   -- R0
  simp (disch := first | omega | (simp <;> omega) | fail) [wrap_i64, wrap_u64, wrap_u8', hil, hsb]
  refine stepK.mk (.callX _ _ _ 900 _ _ _ _ _ _ _ rfl (by first | rfl | simp [hil, hsb]) (by simp [hil]) (by first | rfl | simp) (hv) rfl) ?_
  simp (disch := first | omega | (simp <;> omega) | fail) [wrap_i64, wrap_u64, wrap_u8', hil, hsb]
  refine HT.seq ?_
  refine HT.region ?_   -- R1
  simp (disch := first | omega | (simp <;> omega) | fail) [wrap_i64, wrap_u64, wrap_u8', hil, hsb]
  refine stepK.mk (.callX _ _ _ 900 _ _ _ _ _ _ _ rfl (by first | rfl | simp [hil, hsb]) (by simp [hil]) (by first | rfl | simp) (hsw) rfl) ?_
  simp (disch := first | omega | (simp <;> omega) | fail) [wrap_i64, wrap_u64, wrap_u8', hil, hsb]
  refine HT.region ?_   -- R2
  simp (disch := first | omega | (simp <;> omega) | fail) [wrap_i64, wrap_u64, wrap_u8', hil, hsb]
  refine stepK.mk (.callX _ _ _ 900 _ _ _ _ _ _ _ rfl (by first | rfl | simp [hil, hsb]) (by simp [hil]) (by first | rfl | simp) (hln) rfl) ?_
  simp (disch := first | omega | (simp <;> omega) | fail) [wrap_i64, wrap_u64, wrap_u8', hil, hsb]
  refine stepK.mk (.callX _ _ _ 900 _ _ _ _ _ _ _ rfl (by first | rfl | simp [hil, hsb]) (by simp [hil]) (by first | rfl | simp) (stable_spec hx l _ rfl hl) rfl) ?_
  simp (disch := first | omega | (simp <;> omega) | fail) [wrap_i64, wrap_u64, wrap_u8', hil, hsb]
theorem sliceStable [GI] {α : Type} {enc : α → List HV} {key : α → Int} {V : Value} {ob : Option Nat} {t e sz g : Nat} {lb : Array Value} (l : List α) {i ie : TypeInfo} {ke : Nat} (hN : l.length ≤ 1000000)
    (hless : ∀ (l' : List α) (i' j' : Nat) (i j : Int) (x y : α), l'.length = l.length → i = i' → j = j' → l'[i']? = some x → l'[j']? = some y → SpecX Tryz.prog g lb [i64 i, i64 j] V ob e sz (mapE enc l') (bo (decide (key x < key y))) (mapE enc l'))
    (hil : ∀ l : List α, isILL (mapE enc l) = true) (hi : Tryz.prog.info? t = some i) (hd : i.desc = .slice e) (hie : Tryz.prog.info? e = some ie) (hs : ie.size = sz) (hke : ∀ w, (Extern.Rtype.kind e).run Tryz.prog w = .ok ke w) (hpk : Tryz.prog.packed t = false) (hagg : ∀ w, (isAgg e).run Tryz.prog w = .ok true w) (hk9 : ∀ n, 2 ≤ n → swapperK n ie ke = 9) :
    SpecX Tryz.prog 32 #[] [.lit (.iface t V), fnv g lb] V ob e sz (mapE enc l) (.lit (.tuple #[])) (mapE enc (srtK key l)) := by
  have hlen : (mapE enc l).length = l.length := by simp [mapE]
  intro D w us hD hG hW hus hrep
  rcases hW.shape with ⟨h0, A, rfl⟩ | ⟨b, cap, rfl, rfl⟩
  · have hl0 : l = [] := List.eq_nil_of_length_eq_zero (by rw [← hlen, h0]; rfl)
    subst hl0
    have hx : SortCtx Tryz.prog enc key (.slice A 0 0) ob e sz g 84 lb #[] 0 := ⟨hless, fun l' i' j' i j hl _ _ hi hj _ => by omega, hil, by omega⟩
    exact sliceStable0 hx [] rfl hi hd hie hke hpk (by rw [show swapperK 0 ie ke = 1 from rfl]; kernel_rfl) (by rw [show swapperK 0 ie ke = 1 from rfl]; rfl) D w us hD hG hW hus hrep
  · rw [hlen] at hless hW hrep ⊢
    by_cases h1 : l.length = 0
    · rw [h1] at hless hW hrep ⊢
      have hx : SortCtx Tryz.prog enc key (.slice (some ⟨b, 0, none⟩) 0 cap) (some b) e sz g 84 lb #[] 0 := ⟨hless, fun l' i' j' i j hl _ _ hi hj _ => by omega, hil, by omega⟩
      exact sliceStable0 hx l h1 hi hd hie hke hpk (by rw [show swapperK 0 ie ke = 1 from rfl]; kernel_rfl) (by rw [show swapperK 0 ie ke = 1 from rfl]; rfl) D w us hD hG hW hus hrep
    by_cases h2 : l.length = 1
    · rw [h2] at hless hW hrep ⊢
      have hx : SortCtx Tryz.prog enc key (.slice (some ⟨b, 0, none⟩) 1 cap) (some b) e sz g 85 lb #[] 1 := ⟨hless, fun l' i' j' i j hl _ _ hi hj hne => by omega, hil, by omega⟩
      exact sliceStable0 hx l h2 hi hd hie hke hpk (by rw [show swapperK 1 ie ke = 2 from rfl]; kernel_rfl) (by rw [show swapperK 1 ie ke = 2 from rfl]; rfl) D w us hD hG hW hus hrep
    · have h9 := hk9 l.length (by omega)
      have hswp : ∀ (l' : List α) (i' j' : Nat) (i j : Int), l'.length = l.length → i = i' → j = j' → i' < l'.length → j' < l'.length → i' ≠ j' → SpecX Tryz.prog 92 #[.slice (some ⟨b, 0, none⟩) l.length cap, typeHandle Tryz.prog e] [i64 i, i64 j] (.slice (some ⟨b, 0, none⟩) l.length cap) (some b) e sz (mapE enc l') (.lit (.tuple #[])) (mapE enc (sw l' i' j')) := by
        intro l' i' j' i j hl hi' hj' hli hlj _
        subst hi'; subst hj'
        have hlen' : (mapE enc l').length = l'.length := by simp [mapE]
        have := @SpecX.swap Tryz.prog _ 92 false (run_callFunc_extern Tryz.func92 (by kernel_rfl) (by kernel_rfl) (by kernel_rfl) (by kernel_rfl)) e sz b l.length cap ie hie hs hagg (mapE enc l') i' j' (by omega) (by omega)
        rw [show sw (mapE enc l') i' j' = mapE enc (sw l' i' j') from (sw_map enc l' i' j').symm] at this
        exact this
      have hx : SortCtx Tryz.prog enc key (.slice (some ⟨b, 0, none⟩) l.length cap) (some b) e sz g 92 lb #[.slice (some ⟨b, 0, none⟩) l.length cap, typeHandle Tryz.prog e] l.length := ⟨hless, hswp, hil, hN⟩
      exact sliceStable0 hx l rfl hi hd hie hke hpk (by rw [h9]; kernel_rfl) (by rw [h9]; rfl) D w us hD hG hW hus hrep
end Go.Hv
set_option linter.unusedVariables false
set_option linter.unusedSimpArgs false
namespace Go.Hv
open Go Go.Hv Go.Proofs Go.RowKit
open Go.Proofs.YthdljfognblpbaaGreatDoor
theorem splitK_ne {c : UInt8} (hc : c ≠ 47) : ∀ (k : Nat) (s : List UInt8), Lib.splitK [47] 0 k (c :: s) = match Lib.splitK [47] 0 k s with | [] => [[c]] | p :: r => (c :: p) :: r
  | 0, s => by simp [Lib.splitK]
  | k + 1, s => by
    have hp : List.isPrefixOf [47] (c :: s) = false := by simp [List.isPrefixOf]; exact fun h => hc h.symm
    have hi : Lib.index (c :: s) [47] = if Lib.index s [47] == -1 then -1 else Lib.index s [47] + 1 := by
      rw [Lib.index, hp]; rfl
    have hge := Lib.index_ge s [47]
    unfold Lib.splitK
    rw [hi]
    by_cases h : (Lib.index s [47] == -1) = true
    · simp [h]
    · have h' : Lib.index s [47] ≠ -1 := by simpa using h
      obtain ⟨i, hi⟩ : ∃ i : Nat, Lib.index s [47] = i := ⟨(Lib.index s [47]).toNat, by omega⟩
      rw [hi]
      have h1 : (((i : Int) == -1) = true) = False := by simp
      have h2 : ((((if ((i : Int) == -1) = true then (-1 : Int) else (i : Int) + 1)) == -1) = true) = False := by
        rw [if_neg (by rw [h1]; exact id)]; simp; omega
      simp only [h1, h2, if_false, if_neg (show ¬ False from id)]
      have e : ((i : Int) + 1).toNat = i + 1 := by omega
      simp [e]
      intro h; omega
theorem split_parts : ∀ (s : List UInt8), Lib.splitK [47] 0 (Lib.count s [47]) s = partsV s
  | [] => by simp [Lib.count_one, Lib.splitK, partsV]
  | c :: s => by
    by_cases hc : c = 47
    · subst hc
      rw [Lib.count_cons_eq, Nat.add_comm, Lib.splitK, partsV, if_pos rfl]
      have hi : Lib.index (47 :: s) [47] = 0 := by simp [Lib.index, List.isPrefixOf]
      rw [hi]
      simp [split_parts s]
    · rw [Lib.count_cons_ne _ _ _ hc, splitK_ne hc, split_parts s, partsV, if_neg hc]
      cases partsV s <;> rfl
theorem letterV_eq (c : UInt8) : letterV c = decide (97 ≤ (c.toNat : Int) ∧ (c.toNat : Int) ≤ 122 ∨ 65 ≤ (c.toNat : Int) ∧ (c.toNat : Int) ≤ 90 ∨ 48 ≤ (c.toNat : Int) ∧ (c.toNat : Int) ≤ 57 ∨ (c.toNat : Int) = 46 ∨ (c.toNat : Int) = 95 ∨ (c.toNat : Int) = 45) := by
  have h : ∀ n : Fin 256, letterV (UInt8.ofFin n) = decide (97 ≤ ((UInt8.ofFin n).toNat : Int) ∧ ((UInt8.ofFin n).toNat : Int) ≤ 122 ∨ 65 ≤ ((UInt8.ofFin n).toNat : Int) ∧ ((UInt8.ofFin n).toNat : Int) ≤ 90 ∨ 48 ≤ ((UInt8.ofFin n).toNat : Int) ∧ ((UInt8.ofFin n).toNat : Int) ≤ 57 ∨ ((UInt8.ofFin n).toNat : Int) = 46 ∨ ((UInt8.ofFin n).toNat : Int) = 95 ∨ ((UInt8.ofFin n).toNat : Int) = 45) := by decide +kernel
  exact h c.toFin
theorem textB_eq (c : UInt8) : textB c = decide ((c.toNat : Int) = 9 ∨ (c.toNat : Int) = 10 ∨ 32 ≤ (c.toNat : Int) ∧ (c.toNat : Int) ≤ 126) := by
  have h : ∀ n : Fin 256, textB (UInt8.ofFin n) = decide (((UInt8.ofFin n).toNat : Int) = 9 ∨ ((UInt8.ofFin n).toNat : Int) = 10 ∨ 32 ≤ ((UInt8.ofFin n).toNat : Int) ∧ ((UInt8.ofFin n).toNat : Int) ≤ 126) := by decide +kernel
  exact h c.toFin
theorem countB_ofL (s : List UInt8) : Lib.countB ⟨s.toArray⟩ ⟨#[47]⟩ = Lib.count s [47] := rfl
theorem Split_spec (s : List UInt8) (hs : s.length ≤ 1000) : Spec1 Tryz.prog 126 [.str s, .str [47]] (.sl 1 false (strsHV (partsV s))) := by
  intro D w vs hD hG hn hrep
  have h0 := Array.getElem?_eq_getElem (show 0 < vs.size by rw [hn]; simp)
  have h1 := Array.getElem?_eq_getElem (show 1 < vs.size by rw [hn]; simp)
  have r0 := irep_str (hrep 0 _ _ rfl h0)
  have r1 := irep_str (hrep 1 _ _ rfl h1)
  have hv : vs = #[.string ⟨s.toArray⟩, .string ⟨#[47]⟩] := by
    rw [r0] at h0; rw [r1] at h1
    apply Array.ext_getElem?
    intro i
    match i with
    | 0 => rw [h0]; rfl
    | 1 => rw [h1]; rfl
    | i + 2 => rw [Array.getElem?_eq_none (by rw [hn]; simp), Array.getElem?_eq_none (by simp)]
  subst hv
  obtain ⟨m, hm⟩ := hG
  refine (Tryz.strings_Split ⟨s.toArray⟩ ⟨#[47]⟩ m w (by show s.length < _; omega) hm (by decide)).mono fun e w' ⟨h1, h2⟩ => ?_
  subst h1; subst h2
  generalize hN : Lib.countB ⟨s.toArray⟩ ⟨#[47]⟩ = N
  have hpm : (Lib.splitB ⟨#[47]⟩ 0 N ⟨s.toArray⟩).map (·.data.toList) = partsV s := by
    rw [Lib.splitB_data, ← hN, countB_ofL]; exact split_parts s
  have hlen : (Lib.splitB ⟨#[47]⟩ 0 N ⟨s.toArray⟩).length = N + 1 := Lib.splitB_all _ (by decide) 0 N _ hN
  generalize hL : Lib.splitB ⟨#[47]⟩ 0 N ⟨s.toArray⟩ = L at hpm hlen
  have hpl : (strsHV (partsV s)).length = N + 1 := by rw [strsHV_length, ← hpm, List.length_map, hlen]
  refine ⟨_, rfl, Kept.alloc (Kept.refl _ _) (fun b hb => hb) _, ?_⟩
  rw [← hpl]
  refine IRep.sl (fun i _ => Value.string (L.getD i ByteArray.empty)) (fun e he => ?_) (Nat.le_refl _) (fun h => rfl) (fun h => absurd (hD _ h) (Nat.lt_irrefl _)) ?_ (fun i j hi hj => ?_) (fun i j hi hj => rfl) (fun i j e c he hc => ?_)
  · obtain ⟨a, _, rfl⟩ := strsHV_mem he; rfl
  · simp
  · have hi' : i < L.length := by omega
    have hj0 : j = 0 := by omega
    subst hj0
    have ea : ∀ o, (w.alloc o).heap[w.heap.size]? = some o := fun o => by unfold World.alloc; simp
    show (w.alloc _).cell? _ = _
    unfold World.cell?
    simp only [ea]
    simp [hi', List.getD_eq_getElem?_getD]
  · unfold strsHV at he
    rw [← hpm, List.map_map, List.getElem?_map] at he
    cases hg : L[i]? with
    | none => rw [hg] at he; cases he
    | some b =>
      rw [hg] at he
      obtain rfl := (Option.some.inj he).symm
      match j with
      | 0 =>
        obtain rfl := (Option.some.inj hc).symm
        rw [List.getD_eq_getElem?_getD, hg]
        exact irep_string _ _ b
      | j + 1 => simp at hc
set_option maxRecDepth 20000 in
set_option maxHeartbeats 2000000 in
theorem letter_spec (c : UInt8) : Spec1 Tryz.prog 127 [u8 c] (bo (letterV c)) := by
  refine Spec1.of_HT Tryz.func127 rfl (by rw [Tryz.ntmps127]; simp) rfl ?_
  rw [Tryz.ntmps127]
  refine HT.seq ?_
  refine HT.region ?_   -- R0
  simp (disch := first | omega | (simp <;> omega) | fail) [wrap_i64, wrap_u64, wrap_u8']
  refine HT.seq ?_
  by_cases b1 : (c.toNat : Int) = 95
  · skip
    refine HT.region ?_   -- R1
    simp (disch := first | omega | (simp <;> omega) | fail) [wrap_i64, wrap_u64, wrap_u8']
    refine HT.ret ?_
    first | (have hx : letterV c = true := (by rw [letterV_eq]; exact decide_eq_true (by omega)); simp (disch := first | omega | (simp <;> omega) | fail) [wrap_i64, wrap_u64, wrap_u8', hx]; done) | (have hx : letterV c = false := (by rw [letterV_eq]; exact decide_eq_false (by omega)); simp (disch := first | omega | (simp <;> omega) | fail) [wrap_i64, wrap_u64, wrap_u8', hx]; done)
  by_cases a1 : 122 < (c.toNat : Int)
  · skip
    refine HT.region ?_   -- R1
    simp (disch := first | omega | (simp <;> omega) | fail) [wrap_i64, wrap_u64, wrap_u8']
    refine HT.ret ?_
    first | (have hx : letterV c = true := (by rw [letterV_eq]; exact decide_eq_true (by omega)); simp (disch := first | omega | (simp <;> omega) | fail) [wrap_i64, wrap_u64, wrap_u8', hx]; done) | (have hx : letterV c = false := (by rw [letterV_eq]; exact decide_eq_false (by omega)); simp (disch := first | omega | (simp <;> omega) | fail) [wrap_i64, wrap_u64, wrap_u8', hx]; done)
  by_cases a2 : 97 ≤ (c.toNat : Int)
  · skip
    refine HT.region ?_   -- R1
    simp (disch := first | omega | (simp <;> omega) | fail) [wrap_i64, wrap_u64, wrap_u8']
    refine HT.ret ?_
    first | (have hx : letterV c = true := (by rw [letterV_eq]; exact decide_eq_true (by omega)); simp (disch := first | omega | (simp <;> omega) | fail) [wrap_i64, wrap_u64, wrap_u8', hx]; done) | (have hx : letterV c = false := (by rw [letterV_eq]; exact decide_eq_false (by omega)); simp (disch := first | omega | (simp <;> omega) | fail) [wrap_i64, wrap_u64, wrap_u8', hx]; done)
  by_cases a3 : 90 < (c.toNat : Int)
  · skip
    refine HT.region ?_   -- R1
    simp (disch := first | omega | (simp <;> omega) | fail) [wrap_i64, wrap_u64, wrap_u8']
    refine HT.ret ?_
    first | (have hx : letterV c = true := (by rw [letterV_eq]; exact decide_eq_true (by omega)); simp (disch := first | omega | (simp <;> omega) | fail) [wrap_i64, wrap_u64, wrap_u8', hx]; done) | (have hx : letterV c = false := (by rw [letterV_eq]; exact decide_eq_false (by omega)); simp (disch := first | omega | (simp <;> omega) | fail) [wrap_i64, wrap_u64, wrap_u8', hx]; done)
  by_cases a4 : 65 ≤ (c.toNat : Int)
  · skip
    refine HT.region ?_   -- R1
    simp (disch := first | omega | (simp <;> omega) | fail) [wrap_i64, wrap_u64, wrap_u8']
    refine HT.ret ?_
    first | (have hx : letterV c = true := (by rw [letterV_eq]; exact decide_eq_true (by omega)); simp (disch := first | omega | (simp <;> omega) | fail) [wrap_i64, wrap_u64, wrap_u8', hx]; done) | (have hx : letterV c = false := (by rw [letterV_eq]; exact decide_eq_false (by omega)); simp (disch := first | omega | (simp <;> omega) | fail) [wrap_i64, wrap_u64, wrap_u8', hx]; done)
  by_cases a5 : 57 < (c.toNat : Int)
  · skip
    refine HT.region ?_   -- R1
    simp (disch := first | omega | (simp <;> omega) | fail) [wrap_i64, wrap_u64, wrap_u8']
    refine HT.ret ?_
    first | (have hx : letterV c = true := (by rw [letterV_eq]; exact decide_eq_true (by omega)); simp (disch := first | omega | (simp <;> omega) | fail) [wrap_i64, wrap_u64, wrap_u8', hx]; done) | (have hx : letterV c = false := (by rw [letterV_eq]; exact decide_eq_false (by omega)); simp (disch := first | omega | (simp <;> omega) | fail) [wrap_i64, wrap_u64, wrap_u8', hx]; done)
  by_cases a6 : 48 ≤ (c.toNat : Int)
  · skip
    refine HT.region ?_   -- R1
    simp (disch := first | omega | (simp <;> omega) | fail) [wrap_i64, wrap_u64, wrap_u8']
    refine HT.ret ?_
    first | (have hx : letterV c = true := (by rw [letterV_eq]; exact decide_eq_true (by omega)); simp (disch := first | omega | (simp <;> omega) | fail) [wrap_i64, wrap_u64, wrap_u8', hx]; done) | (have hx : letterV c = false := (by rw [letterV_eq]; exact decide_eq_false (by omega)); simp (disch := first | omega | (simp <;> omega) | fail) [wrap_i64, wrap_u64, wrap_u8', hx]; done)
  by_cases b2 : (c.toNat : Int) = 46
  · skip
    refine HT.region ?_   -- R1
    simp (disch := first | omega | (simp <;> omega) | fail) [wrap_i64, wrap_u64, wrap_u8']
    refine HT.ret ?_
    first | (have hx : letterV c = true := (by rw [letterV_eq]; exact decide_eq_true (by omega)); simp (disch := first | omega | (simp <;> omega) | fail) [wrap_i64, wrap_u64, wrap_u8', hx]; done) | (have hx : letterV c = false := (by rw [letterV_eq]; exact decide_eq_false (by omega)); simp (disch := first | omega | (simp <;> omega) | fail) [wrap_i64, wrap_u64, wrap_u8', hx]; done)
  by_cases b3 : (c.toNat : Int) = 45
  · skip
    refine HT.region ?_   -- R1
    simp (disch := first | omega | (simp <;> omega) | fail) [wrap_i64, wrap_u64, wrap_u8']
    refine HT.ret ?_
    first | (have hx : letterV c = true := (by rw [letterV_eq]; exact decide_eq_true (by omega)); simp (disch := first | omega | (simp <;> omega) | fail) [wrap_i64, wrap_u64, wrap_u8', hx]; done) | (have hx : letterV c = false := (by rw [letterV_eq]; exact decide_eq_false (by omega)); simp (disch := first | omega | (simp <;> omega) | fail) [wrap_i64, wrap_u64, wrap_u8', hx]; done)
  refine HT.region ?_   -- R1
  simp (disch := first | omega | (simp <;> omega) | fail) [wrap_i64, wrap_u64, wrap_u8']
  refine HT.ret ?_
  first | (have hx : letterV c = true := (by rw [letterV_eq]; exact decide_eq_true (by omega)); simp (disch := first | omega | (simp <;> omega) | fail) [wrap_i64, wrap_u64, wrap_u8', hx]; done) | (have hx : letterV c = false := (by rw [letterV_eq]; exact decide_eq_false (by omega)); simp (disch := first | omega | (simp <;> omega) | fail) [wrap_i64, wrap_u64, wrap_u8', hx]; done)
end Go.Hv
set_option linter.unusedVariables false
set_option linter.unusedSimpArgs false
namespace Go.Hv
open Go Go.Hv Go.Proofs Go.RowKit
open Go.Proofs.YthdljfognblpbaaGreatDoor
theorem indexByte_mem (c : UInt8) : ∀ l : List UInt8, 0 ≤ Lib.indexByte l c ↔ c ∈ l
  | [] => by simp [Lib.indexByte]
  | b :: l => by
    have ih := indexByte_mem c l
    have hge := Lib.indexByte_ge l c
    unfold Lib.indexByte
    by_cases h : (b == c) = true
    · have : b = c := by simpa using h
      simp [h, this]
    · have hb : b ≠ c := by simpa using h
      rw [if_neg h, List.mem_cons, ← ih]
      by_cases h2 : (Lib.indexByte l c == -1) = true
      · have : Lib.indexByte l c = -1 := by simpa using h2
        rw [if_pos h2, this]
        constructor
        · intro h; omega
        · rintro (h | h)
          · exact absurd h.symm hb
          · omega
      · have : Lib.indexByte l c ≠ -1 := by simpa using h2
        rw [if_neg h2]
        constructor
        · intro _; right; omega
        · intro _; omega
theorem ContainsS_spec (s : List UInt8) : Spec1 Tryz.prog 125 [.str s, .str [47]] (bo (decide (47 ∈ s))) := by
  intro D w vs hD hG hn hrep
  have h0 := Array.getElem?_eq_getElem (show 0 < vs.size by rw [hn]; simp)
  have h1 := Array.getElem?_eq_getElem (show 1 < vs.size by rw [hn]; simp)
  have r0 := irep_str (hrep 0 _ _ rfl h0)
  have r1 := irep_str (hrep 1 _ _ rfl h1)
  have hv : vs = #[.string ⟨s.toArray⟩, .string ⟨#[47]⟩] := by
    rw [r0] at h0; rw [r1] at h1
    apply Array.ext_getElem?
    intro i
    match i with
    | 0 => rw [h0]; rfl
    | 1 => rw [h1]; rfl
    | i + 2 => rw [Array.getElem?_eq_none (by rw [hn]; simp), Array.getElem?_eq_none (by simp)]
  subst hv
  refine (Tryz.strings_Contains_one ⟨s.toArray⟩ 47 w).mono fun e w' ⟨h1, h2⟩ => ?_
  subst h1; subst h2
  refine ⟨_, rfl, Kept.refl _ _, ?_⟩
  have : decide (0 ≤ Lib.indexByte s 47) = decide (47 ∈ s) := decide_eq_decide.2 (indexByte_mem 47 s)
  show IRep _ _ _ (.bool (decide (0 ≤ Lib.indexByte s 47)))
  rw [this]
  exact .lit _
def UpTo {α : Type} (q : α → Bool) (l : List α) (k : Nat) : Prop := ∀ i x, i < k → l[i]? = some x → q x = true
theorem UpTo.zero {α : Type} (q : α → Bool) (l : List α) : UpTo q l 0 := fun i x h => absurd h (Nat.not_lt_zero _)
theorem UpTo.succ {α : Type} {q : α → Bool} {l : List α} {k : Nat} (h : UpTo q l k) (hk : k < l.length) (hq : q l[k] = true) : UpTo q l (k + 1) := fun i x hi hx => by
  by_cases e : i = k
  · subst e; rw [List.getElem?_eq_getElem hk] at hx; cases hx; exact hq
  · exact h i x (by omega) hx
theorem UpTo.all {α : Type} {q : α → Bool} {l : List α} (h : UpTo q l l.length) : l.all q = true := by
  rw [List.all_eq_true]
  intro x hx
  obtain ⟨i, hi⟩ := List.mem_iff_getElem?.1 hx
  exact h i x (getElem?_lt hi) hi
theorem all_not {α : Type} {q : α → Bool} {l : List α} {k : Nat} (hk : k < l.length) (hq : q l[k] = false) : l.all q = false := by
  rw [List.all_eq_false]
  exact ⟨l[k], List.getElem_mem hk, by rw [hq]; simp⟩
theorem textV_long {s : List UInt8} (h : 2000 < s.length) : textV s = false := by unfold textV; rw [decide_eq_false (by omega)]; rfl
theorem textV_all {s : List UInt8} (h : s.length ≤ 2000) : textV s = s.all textB := by unfold textV; rw [decide_eq_true h]; simp
set_option maxRecDepth 20000 in
set_option maxHeartbeats 2000000 in
theorem Valid_spec (s : List UInt8) (hs : s.length ≤ 140737488355328) : Spec1 Tryz.prog 102 [.str s] (bo (textV s)) := by
  refine Spec1.of_HT Tryz.func102 rfl (by rw [Tryz.ntmps102]; simp) rfl ?_
  rw [Tryz.ntmps102]
  refine HT.seq ?_
  refine HT.region ?_   -- R0
  simp (disch := first | omega | (simp <;> omega) | fail) [wrap_i64, wrap_u64, wrap_u8']
  refine HT.seq ?_
  refine HT.seq ?_
  refine HT.region ?_   -- R1
  simp (disch := first | omega | (simp <;> omega) | fail) [wrap_i64, wrap_u64, wrap_u8']
  refine HT.cond' ?_   -- if 6
  simp (disch := first | omega | (simp <;> omega) | fail) [wrap_i64, wrap_u64, wrap_u8']
  refine ⟨fun h6 => ?_, fun h6 => ?_⟩
  · skip
    have hx := textV_long (show 2000 < s.length by omega)
    refine HT.seq ?_
    refine HT.region ?_   -- R2
    simp (disch := first | omega | (simp <;> omega) | fail) [wrap_i64, wrap_u64, wrap_u8']
    refine HT.ret ?_
    simp (disch := first | omega | (simp <;> omega) | fail) [wrap_i64, wrap_u64, wrap_u8', hx]
  · skip
    have hl : s.length ≤ 2000 := by omega
    have hx := textV_all hl
    refine HT.skip ?_
    simp (disch := first | omega | (simp <;> omega) | fail) [wrap_i64, wrap_u64, wrap_u8']
    refine HT.seq ?_
    refine HT.seq ?_
    refine HT.region ?_   -- R3
    simp (disch := first | omega | (simp <;> omega) | fail) [wrap_i64, wrap_u64, wrap_u8']
    refine HT.block ?_
    refine HT.loopK (fun k : {k : Nat // k ≤ s.length ∧ UpTo textB s k} => [.s 9 (i64 k)]) [0, 8] [] (fun k => s.length - k) (⟨0, by omega, UpTo.zero _ _⟩) ?_ ?_   -- block 0 turned [9, 17, 18, 19, 20, 23, 24, 25, 26, 27, 28, 29, 30, 31, 32]
    · simp (disch := first | omega | (simp <;> omega) | fail) [wrap_i64, wrap_u64, wrap_u8']
    rintro ⟨k, hk, hg⟩
    simp (disch := first | omega | (simp <;> omega) | fail) [wrap_i64, wrap_u64, wrap_u8']
    refine HT.seq ?_
    refine HT.region ?_   -- R4
    simp (disch := first | omega | (simp <;> omega) | fail) [wrap_i64, wrap_u64, wrap_u8']
    refine HT.seq ?_
    refine HT.cond' ?_   -- if 10
    simp (disch := first | omega | (simp <;> omega) | fail) [wrap_i64, wrap_u64, wrap_u8']
    refine ⟨fun h10 => ?_, fun h10 => ?_⟩
    · skip
      have hk' : k < s.length := by omega
      refine HT.skip ?_
      simp (disch := first | omega | (simp <;> omega) | fail) [wrap_i64, wrap_u64, wrap_u8']
      refine HT.seq ?_
      refine HT.block ?_
      refine HT.seq ?_
      refine HT.region ?_   -- R5
      simp (disch := first | omega | (simp <;> omega) | fail) [wrap_i64, wrap_u64, wrap_u8']
      refine HT.seq ?_
      by_cases a1 : (s[k].toNat : Int) = 9
      · skip
        refine HT.region ?_   -- R6
        simp (disch := first | omega | (simp <;> omega) | fail) [wrap_i64, wrap_u64, wrap_u8']
        refine HT.cond' ?_   -- if 33
        simp (disch := first | omega | (simp <;> omega) | fail) [wrap_i64, wrap_u64, wrap_u8']
        refine HT.skip ?_
        simp (disch := first | omega | (simp <;> omega) | fail) [wrap_i64, wrap_u64, wrap_u8']
        refine HT.region ?_   -- R8
        simp (disch := first | omega | (simp <;> omega) | fail) [wrap_i64, wrap_u64, wrap_u8']
        refine Round.mk' (⟨k + 1, by omega, hg.succ hk' (by rw [textB_eq]; exact decide_eq_true (by omega))⟩) (by dsimp only; omega) rfl ?_
        simp (disch := first | omega | (simp <;> omega) | fail) [wrap_i64, wrap_u64, wrap_u8']
      by_cases a2 : (s[k].toNat : Int) = 10
      · skip
        refine HT.region ?_   -- R6
        simp (disch := first | omega | (simp <;> omega) | fail) [wrap_i64, wrap_u64, wrap_u8']
        refine HT.cond' ?_   -- if 33
        simp (disch := first | omega | (simp <;> omega) | fail) [wrap_i64, wrap_u64, wrap_u8']
        refine HT.skip ?_
        simp (disch := first | omega | (simp <;> omega) | fail) [wrap_i64, wrap_u64, wrap_u8']
        refine HT.region ?_   -- R8
        simp (disch := first | omega | (simp <;> omega) | fail) [wrap_i64, wrap_u64, wrap_u8']
        refine Round.mk' (⟨k + 1, by omega, hg.succ hk' (by rw [textB_eq]; exact decide_eq_true (by omega))⟩) (by dsimp only; omega) rfl ?_
        simp (disch := first | omega | (simp <;> omega) | fail) [wrap_i64, wrap_u64, wrap_u8']
      by_cases a3 : (s[k].toNat : Int) < 32
      · skip
        refine HT.region ?_   -- R6
        simp (disch := first | omega | (simp <;> omega) | fail) [wrap_i64, wrap_u64, wrap_u8']
        refine HT.cond' ?_   -- if 33
        simp (disch := first | omega | (simp <;> omega) | fail) [wrap_i64, wrap_u64, wrap_u8']
        refine HT.seq ?_
        refine HT.region ?_   -- R7
        simp (disch := first | omega | (simp <;> omega) | fail) [wrap_i64, wrap_u64, wrap_u8']
        refine HT.ret ?_
        have hx2 := all_not (q := textB) hk' (by rw [textB_eq]; exact decide_eq_false (by omega))
        simp (disch := first | omega | (simp <;> omega) | fail) [wrap_i64, wrap_u64, wrap_u8', hx, hx2]
      by_cases a4 : 126 < (s[k].toNat : Int)
      · skip
        refine HT.region ?_   -- R6
        simp (disch := first | omega | (simp <;> omega) | fail) [wrap_i64, wrap_u64, wrap_u8']
        refine HT.cond' ?_   -- if 33
        simp (disch := first | omega | (simp <;> omega) | fail) [wrap_i64, wrap_u64, wrap_u8']
        refine HT.seq ?_
        refine HT.region ?_   -- R7
        simp (disch := first | omega | (simp <;> omega) | fail) [wrap_i64, wrap_u64, wrap_u8']
        refine HT.ret ?_
        have hx2 := all_not (q := textB) hk' (by rw [textB_eq]; exact decide_eq_false (by omega))
        simp (disch := first | omega | (simp <;> omega) | fail) [wrap_i64, wrap_u64, wrap_u8', hx, hx2]
      refine HT.region ?_   -- R6
      simp (disch := first | omega | (simp <;> omega) | fail) [wrap_i64, wrap_u64, wrap_u8']
      refine HT.cond' ?_   -- if 33
      simp (disch := first | omega | (simp <;> omega) | fail) [wrap_i64, wrap_u64, wrap_u8']
      refine HT.skip ?_
      simp (disch := first | omega | (simp <;> omega) | fail) [wrap_i64, wrap_u64, wrap_u8']
      refine HT.region ?_   -- R8
      simp (disch := first | omega | (simp <;> omega) | fail) [wrap_i64, wrap_u64, wrap_u8']
      refine Round.mk' (⟨k + 1, by omega, hg.succ hk' (by rw [textB_eq]; exact decide_eq_true (by omega))⟩) (by dsimp only; omega) rfl ?_
      simp (disch := first | omega | (simp <;> omega) | fail) [wrap_i64, wrap_u64, wrap_u8']
    · skip
      obtain rfl : k = s.length := by omega
      have hx2 := hg.all
      refine HT.exit ?_
      simp (disch := first | omega | (simp <;> omega) | fail) [wrap_i64, wrap_u64, wrap_u8']
      refine HT.seq ?_
      refine HT.region ?_   -- R9
      simp (disch := first | omega | (simp <;> omega) | fail) [wrap_i64, wrap_u64, wrap_u8']
      refine HT.ret ?_
      simp (disch := first | omega | (simp <;> omega) | fail) [wrap_i64, wrap_u64, wrap_u8', hx, hx2]
set_option maxRecDepth 20000 in
set_option maxHeartbeats 2000000 in
theorem refValid_spec (s : List UInt8) (hs : s.length ≤ 140737488355328) : Spec1 Tryz.prog 79 [.str s] (bo (textV s)) := by
  refine Spec1.of_HT Tryz.func79 rfl (by rw [Tryz.ntmps79]; simp) rfl ?_
  rw [Tryz.ntmps79]
  refine HT.seq ?_
  refine HT.region ?_   -- R0
  simp (disch := first | omega | (simp <;> omega) | fail) [wrap_i64, wrap_u64, wrap_u8']
  refine HT.seq ?_
  refine HT.seq ?_
  refine HT.region ?_   -- R1
  simp (disch := first | omega | (simp <;> omega) | fail) [wrap_i64, wrap_u64, wrap_u8']
  refine HT.cond' ?_   -- if 6
  simp (disch := first | omega | (simp <;> omega) | fail) [wrap_i64, wrap_u64, wrap_u8']
  refine ⟨fun h6 => ?_, fun h6 => ?_⟩
  · skip
    have hx := textV_long (show 2000 < s.length by omega)
    refine HT.seq ?_
    refine HT.region ?_   -- R2
    simp (disch := first | omega | (simp <;> omega) | fail) [wrap_i64, wrap_u64, wrap_u8']
    refine HT.ret ?_
    simp (disch := first | omega | (simp <;> omega) | fail) [wrap_i64, wrap_u64, wrap_u8', hx]
  · skip
    have hl : s.length ≤ 2000 := by omega
    have hx := textV_all hl
    refine HT.skip ?_
    simp (disch := first | omega | (simp <;> omega) | fail) [wrap_i64, wrap_u64, wrap_u8']
    refine HT.seq ?_
    refine HT.seq ?_
    refine HT.region ?_   -- R3
    simp (disch := first | omega | (simp <;> omega) | fail) [wrap_i64, wrap_u64, wrap_u8']
    refine HT.block ?_
    refine HT.loopK (fun k : {k : Nat // k ≤ s.length ∧ UpTo textB s k} => [.s 3 (i64 k)]) [0] [] (fun k => s.length - k) (⟨0, by omega, UpTo.zero _ _⟩) ?_ ?_   -- block 0 turned [3, 18, 19, 20, 21, 24, 25, 26, 27, 28, 29, 30, 31, 32, 33]
    · simp (disch := first | omega | (simp <;> omega) | fail) [wrap_i64, wrap_u64, wrap_u8']
    rintro ⟨k, hk, hg⟩
    simp (disch := first | omega | (simp <;> omega) | fail) [wrap_i64, wrap_u64, wrap_u8']
    refine HT.seq ?_
    refine HT.seq ?_
    refine HT.region ?_   -- R4
    simp (disch := first | omega | (simp <;> omega) | fail) [wrap_i64, wrap_u64, wrap_u8']
    refine HT.cond' ?_   -- if 10
    simp (disch := first | omega | (simp <;> omega) | fail) [wrap_i64, wrap_u64, wrap_u8']
    refine ⟨fun h10 => ?_, fun h10 => ?_⟩
    · skip
      have hk' : k < s.length := by omega
      refine HT.skip ?_
      simp (disch := first | omega | (simp <;> omega) | fail) [wrap_i64, wrap_u64, wrap_u8']
      refine HT.seq ?_
      refine HT.block ?_
      refine HT.seq ?_
      by_cases a1 : (s[k].toNat : Int) = 9
      · skip
        refine HT.region ?_   -- R6
        simp (disch := first | omega | (simp <;> omega) | fail) [wrap_i64, wrap_u64, wrap_u8']
        refine HT.cond' ?_   -- if 34
        simp (disch := first | omega | (simp <;> omega) | fail) [wrap_i64, wrap_u64, wrap_u8']
        refine HT.skip ?_
        simp (disch := first | omega | (simp <;> omega) | fail) [wrap_i64, wrap_u64, wrap_u8']
        refine HT.region ?_   -- R5
        simp (disch := first | omega | (simp <;> omega) | fail) [wrap_i64, wrap_u64, wrap_u8']
        refine Round.mk' (⟨k + 1, by omega, hg.succ hk' (by rw [textB_eq]; exact decide_eq_true (by omega))⟩) (by dsimp only; omega) rfl ?_
        simp (disch := first | omega | (simp <;> omega) | fail) [wrap_i64, wrap_u64, wrap_u8']
      by_cases a2 : (s[k].toNat : Int) = 10
      · skip
        refine HT.region ?_   -- R6
        simp (disch := first | omega | (simp <;> omega) | fail) [wrap_i64, wrap_u64, wrap_u8']
        refine HT.cond' ?_   -- if 34
        simp (disch := first | omega | (simp <;> omega) | fail) [wrap_i64, wrap_u64, wrap_u8']
        refine HT.skip ?_
        simp (disch := first | omega | (simp <;> omega) | fail) [wrap_i64, wrap_u64, wrap_u8']
        refine HT.region ?_   -- R5
        simp (disch := first | omega | (simp <;> omega) | fail) [wrap_i64, wrap_u64, wrap_u8']
        refine Round.mk' (⟨k + 1, by omega, hg.succ hk' (by rw [textB_eq]; exact decide_eq_true (by omega))⟩) (by dsimp only; omega) rfl ?_
        simp (disch := first | omega | (simp <;> omega) | fail) [wrap_i64, wrap_u64, wrap_u8']
      by_cases a3 : (s[k].toNat : Int) < 32
      · skip
        refine HT.region ?_   -- R6
        simp (disch := first | omega | (simp <;> omega) | fail) [wrap_i64, wrap_u64, wrap_u8']
        refine HT.cond' ?_   -- if 34
        simp (disch := first | omega | (simp <;> omega) | fail) [wrap_i64, wrap_u64, wrap_u8']
        refine HT.seq ?_
        refine HT.region ?_   -- R7
        simp (disch := first | omega | (simp <;> omega) | fail) [wrap_i64, wrap_u64, wrap_u8']
        refine HT.ret ?_
        have hx2 := all_not (q := textB) hk' (by rw [textB_eq]; exact decide_eq_false (by omega))
        simp (disch := first | omega | (simp <;> omega) | fail) [wrap_i64, wrap_u64, wrap_u8', hx, hx2]
      by_cases a4 : 126 < (s[k].toNat : Int)
      · skip
        refine HT.region ?_   -- R6
        simp (disch := first | omega | (simp <;> omega) | fail) [wrap_i64, wrap_u64, wrap_u8']
        refine HT.cond' ?_   -- if 34
        simp (disch := first | omega | (simp <;> omega) | fail) [wrap_i64, wrap_u64, wrap_u8']
        refine HT.seq ?_
        refine HT.region ?_   -- R7
        simp (disch := first | omega | (simp <;> omega) | fail) [wrap_i64, wrap_u64, wrap_u8']
        refine HT.ret ?_
        have hx2 := all_not (q := textB) hk' (by rw [textB_eq]; exact decide_eq_false (by omega))
        simp (disch := first | omega | (simp <;> omega) | fail) [wrap_i64, wrap_u64, wrap_u8', hx, hx2]
      refine HT.region ?_   -- R6
      simp (disch := first | omega | (simp <;> omega) | fail) [wrap_i64, wrap_u64, wrap_u8']
      refine HT.cond' ?_   -- if 34
      simp (disch := first | omega | (simp <;> omega) | fail) [wrap_i64, wrap_u64, wrap_u8']
      refine HT.skip ?_
      simp (disch := first | omega | (simp <;> omega) | fail) [wrap_i64, wrap_u64, wrap_u8']
      refine HT.region ?_   -- R5
      simp (disch := first | omega | (simp <;> omega) | fail) [wrap_i64, wrap_u64, wrap_u8']
      refine Round.mk' (⟨k + 1, by omega, hg.succ hk' (by rw [textB_eq]; exact decide_eq_true (by omega))⟩) (by dsimp only; omega) rfl ?_
      simp (disch := first | omega | (simp <;> omega) | fail) [wrap_i64, wrap_u64, wrap_u8']
    · skip
      obtain rfl : k = s.length := by omega
      have hx2 := hg.all
      refine HT.exit ?_
      simp (disch := first | omega | (simp <;> omega) | fail) [wrap_i64, wrap_u64, wrap_u8']
      refine HT.seq ?_
      refine HT.region ?_   -- R8
      simp (disch := first | omega | (simp <;> omega) | fail) [wrap_i64, wrap_u64, wrap_u8']
      refine HT.ret ?_
      simp (disch := first | omega | (simp <;> omega) | fail) [wrap_i64, wrap_u64, wrap_u8', hx, hx2]
def isLetV (c : UInt8) : Bool := decide (65 ≤ (c.toNat : Int) ∧ (c.toNat : Int) ≤ 90 ∨ 97 ≤ (c.toNat : Int) ∧ (c.toNat : Int) ≤ 122)
def isDigV (c : UInt8) : Bool := decide (48 ≤ (c.toNat : Int) ∧ (c.toNat : Int) ≤ 57)
set_option maxRecDepth 20000 in
theorem Letter_spec (c : UInt8) : Spec1 Tryz.prog 141 [u8 c] (bo (isLetV c)) := by
  refine Spec1.of_HT Tryz.func141 rfl (by rw [Tryz.ntmps141]; simp) rfl ?_
  rw [Tryz.ntmps141]
  refine HT.seq ?_
  refine HT.region ?_   -- R0
  simp (disch := first | omega | (simp <;> omega) | fail) [wrap_i64, wrap_u64, wrap_u8']
  refine HT.seq ?_
  by_cases a1 : 122 < (c.toNat : Int)
  · skip
    refine HT.region ?_   -- R1
    simp (disch := first | omega | (simp <;> omega) | fail) [wrap_i64, wrap_u64, wrap_u8']
    refine HT.ret ?_
    first | (have hx : isLetV c = true := decide_eq_true (by omega); simp (disch := first | omega | (simp <;> omega) | fail) [wrap_i64, wrap_u64, wrap_u8', hx]; done) | (have hx : isLetV c = false := decide_eq_false (by omega); simp (disch := first | omega | (simp <;> omega) | fail) [wrap_i64, wrap_u64, wrap_u8', hx]; done)
  by_cases a2 : 97 ≤ (c.toNat : Int)
  · skip
    refine HT.region ?_   -- R1
    simp (disch := first | omega | (simp <;> omega) | fail) [wrap_i64, wrap_u64, wrap_u8']
    refine HT.ret ?_
    first | (have hx : isLetV c = true := decide_eq_true (by omega); simp (disch := first | omega | (simp <;> omega) | fail) [wrap_i64, wrap_u64, wrap_u8', hx]; done) | (have hx : isLetV c = false := decide_eq_false (by omega); simp (disch := first | omega | (simp <;> omega) | fail) [wrap_i64, wrap_u64, wrap_u8', hx]; done)
  by_cases a3 : 90 < (c.toNat : Int)
  · skip
    refine HT.region ?_   -- R1
    simp (disch := first | omega | (simp <;> omega) | fail) [wrap_i64, wrap_u64, wrap_u8']
    refine HT.ret ?_
    first | (have hx : isLetV c = true := decide_eq_true (by omega); simp (disch := first | omega | (simp <;> omega) | fail) [wrap_i64, wrap_u64, wrap_u8', hx]; done) | (have hx : isLetV c = false := decide_eq_false (by omega); simp (disch := first | omega | (simp <;> omega) | fail) [wrap_i64, wrap_u64, wrap_u8', hx]; done)
  by_cases a4 : 65 ≤ (c.toNat : Int)
  · skip
    refine HT.region ?_   -- R1
    simp (disch := first | omega | (simp <;> omega) | fail) [wrap_i64, wrap_u64, wrap_u8']
    refine HT.ret ?_
    first | (have hx : isLetV c = true := decide_eq_true (by omega); simp (disch := first | omega | (simp <;> omega) | fail) [wrap_i64, wrap_u64, wrap_u8', hx]; done) | (have hx : isLetV c = false := decide_eq_false (by omega); simp (disch := first | omega | (simp <;> omega) | fail) [wrap_i64, wrap_u64, wrap_u8', hx]; done)
  refine HT.region ?_   -- R1
  simp (disch := first | omega | (simp <;> omega) | fail) [wrap_i64, wrap_u64, wrap_u8']
  refine HT.ret ?_
  first | (have hx : isLetV c = true := decide_eq_true (by omega); simp (disch := first | omega | (simp <;> omega) | fail) [wrap_i64, wrap_u64, wrap_u8', hx]; done) | (have hx : isLetV c = false := decide_eq_false (by omega); simp (disch := first | omega | (simp <;> omega) | fail) [wrap_i64, wrap_u64, wrap_u8', hx]; done)
theorem Digit_spec (c : UInt8) : Spec1 Tryz.prog 142 [u8 c] (bo (isDigV c)) := by
  refine Spec1.of_HT Tryz.func142 rfl (by rw [Tryz.ntmps142]; simp) rfl ?_
  rw [Tryz.ntmps142]
  refine HT.seq ?_
  refine HT.region ?_   -- R0
  simp (disch := first | omega | (simp <;> omega) | fail) [wrap_i64, wrap_u64, wrap_u8']
  refine HT.seq ?_
  by_cases a1 : 57 < (c.toNat : Int)
  · skip
    refine HT.region ?_   -- R1
    simp (disch := first | omega | (simp <;> omega) | fail) [wrap_i64, wrap_u64, wrap_u8']
    refine HT.ret ?_
    first | (have hx : isDigV c = true := decide_eq_true (by omega); simp (disch := first | omega | (simp <;> omega) | fail) [wrap_i64, wrap_u64, wrap_u8', hx]; done) | (have hx : isDigV c = false := decide_eq_false (by omega); simp (disch := first | omega | (simp <;> omega) | fail) [wrap_i64, wrap_u64, wrap_u8', hx]; done)
  by_cases a2 : 48 ≤ (c.toNat : Int)
  · skip
    refine HT.region ?_   -- R1
    simp (disch := first | omega | (simp <;> omega) | fail) [wrap_i64, wrap_u64, wrap_u8']
    refine HT.ret ?_
    first | (have hx : isDigV c = true := decide_eq_true (by omega); simp (disch := first | omega | (simp <;> omega) | fail) [wrap_i64, wrap_u64, wrap_u8', hx]; done) | (have hx : isDigV c = false := decide_eq_false (by omega); simp (disch := first | omega | (simp <;> omega) | fail) [wrap_i64, wrap_u64, wrap_u8', hx]; done)
  refine HT.region ?_   -- R1
  simp (disch := first | omega | (simp <;> omega) | fail) [wrap_i64, wrap_u64, wrap_u8']
  refine HT.ret ?_
  first | (have hx : isDigV c = true := decide_eq_true (by omega); simp (disch := first | omega | (simp <;> omega) | fail) [wrap_i64, wrap_u64, wrap_u8', hx]; done) | (have hx : isDigV c = false := decide_eq_false (by omega); simp (disch := first | omega | (simp <;> omega) | fail) [wrap_i64, wrap_u64, wrap_u8', hx]; done)
end Go.Hv
set_option linter.unusedVariables false
set_option linter.unusedSimpArgs false
namespace Go.Hv
open Go Go.Hv Go.Proofs Go.RowKit
open Go.Proofs.YthdljfognblpbaaGreatDoor
theorem letter_split (c : UInt8) : letterV c = true ↔ isLetV c = true ∨ isDigV c = true ∨ (c.toNat : Int) = 46 ∨ (c.toNat : Int) = 95 ∨ (c.toNat : Int) = 45 := by
  rw [letterV_eq]; unfold isLetV isDigV; simp only [decide_eq_true_eq]; omega
theorem letter_no {c : UInt8} (h : ¬ (isLetV c = true ∨ isDigV c = true ∨ (c.toNat : Int) = 46 ∨ (c.toNat : Int) = 95 ∨ (c.toNat : Int) = 45)) : letterV c = false := by
  cases hc : letterV c with
  | false => rfl
  | true => exact absurd ((letter_split c).1 hc) h
theorem nameOK_no {s : List UInt8} (h : s.length < 1 ∨ 24 < s.length ∨ s = [46] ∨ s = [46, 46]) : nameOK s = false := by
  unfold nameOK
  rw [decide_eq_false (by rintro ⟨h1, h2, h3, h4⟩; rcases h with h | h | h | h; omega; omega; exact h3 h; exact h4 h)]; rfl
theorem nameOK_all {s : List UInt8} (h1 : ¬ s.length < 1) (h2 : ¬ 24 < s.length) (h3 : ¬ s = [46]) (h4 : ¬ s = [46, 46]) : nameOK s = s.all letterV := by
  unfold nameOK
  rw [decide_eq_true ⟨by omega, by omega, h3, h4⟩]; simp
set_option maxRecDepth 20000 in
set_option maxHeartbeats 2000000 in
theorem refName_spec (s : List UInt8) (hs : s.length ≤ 140737488355328) : Spec1 Tryz.prog 116 [.str s] (bo (nameOK s)) := by
  refine Spec1.of_HT Tryz.func116 rfl (by rw [Tryz.ntmps116]; simp) rfl ?_
  rw [Tryz.ntmps116]
  refine HT.seq ?_
  refine HT.region ?_   -- R0
  simp (disch := first | omega | (simp <;> omega) | fail) [wrap_i64, wrap_u64, wrap_u8']
  refine HT.seq ?_
  refine HT.seq ?_
  by_cases c1 : s.length < 1
  · skip
    refine HT.region ?_   -- R1
    simp (disch := first | omega | (simp <;> omega) | fail) [wrap_i64, wrap_u64, wrap_u8']
    refine HT.cond' ?_   -- if 19
    simp (disch := first | omega | (simp <;> omega) | fail) [wrap_i64, wrap_u64, wrap_u8']
    refine HT.seq ?_
    refine HT.region ?_   -- R2
    simp (disch := first | omega | (simp <;> omega) | fail) [wrap_i64, wrap_u64, wrap_u8']
    refine HT.ret ?_
    have hx : nameOK s = false := nameOK_no (by first | exact .inl c1 | exact .inr (.inl c2) | exact .inr (.inr (.inl c3)) | exact .inr (.inr (.inr c4)))
    simp (disch := first | omega | (simp <;> omega) | fail) [wrap_i64, wrap_u64, wrap_u8', hx]
  by_cases c2 : 24 < s.length
  · skip
    refine HT.region ?_   -- R1
    simp (disch := first | omega | (simp <;> omega) | fail) [wrap_i64, wrap_u64, wrap_u8']
    refine HT.cond' ?_   -- if 19
    simp (disch := first | omega | (simp <;> omega) | fail) [wrap_i64, wrap_u64, wrap_u8']
    refine HT.seq ?_
    refine HT.region ?_   -- R2
    simp (disch := first | omega | (simp <;> omega) | fail) [wrap_i64, wrap_u64, wrap_u8']
    refine HT.ret ?_
    have hx : nameOK s = false := nameOK_no (by first | exact .inl c1 | exact .inr (.inl c2) | exact .inr (.inr (.inl c3)) | exact .inr (.inr (.inr c4)))
    simp (disch := first | omega | (simp <;> omega) | fail) [wrap_i64, wrap_u64, wrap_u8', hx]
  by_cases c3 : s = [46]
  · skip
    refine HT.region ?_   -- R1
    simp (disch := first | omega | (simp <;> omega) | fail) [wrap_i64, wrap_u64, wrap_u8', c3]
    refine HT.cond' ?_   -- if 19
    simp (disch := first | omega | (simp <;> omega) | fail) [wrap_i64, wrap_u64, wrap_u8']
    refine HT.seq ?_
    refine HT.region ?_   -- R2
    simp (disch := first | omega | (simp <;> omega) | fail) [wrap_i64, wrap_u64, wrap_u8']
    refine HT.ret ?_
    have hx : nameOK s = false := nameOK_no (by first | exact .inl c1 | exact .inr (.inl c2) | exact .inr (.inr (.inl c3)) | exact .inr (.inr (.inr c4)))
    simp (disch := first | omega | (simp <;> omega) | fail) [wrap_i64, wrap_u64, wrap_u8', hx]
  by_cases c4 : s = [46, 46]
  · skip
    refine HT.region ?_   -- R1
    simp (disch := first | omega | (simp <;> omega) | fail) [wrap_i64, wrap_u64, wrap_u8', c3, c4]
    refine HT.cond' ?_   -- if 19
    simp (disch := first | omega | (simp <;> omega) | fail) [wrap_i64, wrap_u64, wrap_u8']
    refine HT.seq ?_
    refine HT.region ?_   -- R2
    simp (disch := first | omega | (simp <;> omega) | fail) [wrap_i64, wrap_u64, wrap_u8']
    refine HT.ret ?_
    have hx : nameOK s = false := nameOK_no (by first | exact .inl c1 | exact .inr (.inl c2) | exact .inr (.inr (.inl c3)) | exact .inr (.inr (.inr c4)))
    simp (disch := first | omega | (simp <;> omega) | fail) [wrap_i64, wrap_u64, wrap_u8', hx]
  refine HT.region ?_   -- R1
  simp (disch := first | omega | (simp <;> omega) | fail) [wrap_i64, wrap_u64, wrap_u8', c3, c4]
  refine HT.cond' ?_   -- if 19
  simp (disch := first | omega | (simp <;> omega) | fail) [wrap_i64, wrap_u64, wrap_u8']
  refine HT.skip ?_
  simp (disch := first | omega | (simp <;> omega) | fail) [wrap_i64, wrap_u64, wrap_u8']
  refine HT.seq ?_
  refine HT.seq ?_
  refine HT.region ?_   -- R3
  simp (disch := first | omega | (simp <;> omega) | fail) [wrap_i64, wrap_u64, wrap_u8']
  refine HT.block ?_
  refine HT.loopK (fun k : {k : Nat // k ≤ s.length ∧ UpTo letterV s k} => [.s 3 (i64 k)]) [0] [] (fun k => s.length - k) (⟨0, by omega, UpTo.zero _ _⟩) ?_ ?_   -- block 0 turned [3, 32, 33, 34, 35, 36, 39, 40, 41, 42, 45, 46, 47, 48, 51, 52, 53, 54]
  · simp (disch := first | omega | (simp <;> omega) | fail) [wrap_i64, wrap_u64, wrap_u8']
  rintro ⟨k, hk, hg⟩
  simp (disch := first | omega | (simp <;> omega) | fail) [wrap_i64, wrap_u64, wrap_u8']
  refine HT.seq ?_
  refine HT.seq ?_
  refine HT.region ?_   -- R4
  simp (disch := first | omega | (simp <;> omega) | fail) [wrap_i64, wrap_u64, wrap_u8']
  refine HT.cond' ?_   -- if 23
  simp (disch := first | omega | (simp <;> omega) | fail) [wrap_i64, wrap_u64, wrap_u8']
  refine ⟨fun h23 => ?_, fun h23 => ?_⟩
  · skip
    have hk' : k < s.length := by omega
    refine HT.skip ?_
    simp (disch := first | omega | (simp <;> omega) | fail) [wrap_i64, wrap_u64, wrap_u8']
    refine HT.seq ?_
    refine HT.block ?_
    refine HT.seq ?_
    by_cases a1 : isLetV s[k] = true
    · skip
      refine HT.region ?_   -- R6
      simp (disch := first | omega | (simp <;> omega) | fail) [wrap_i64, wrap_u64, wrap_u8', a1]
      refine stepK.mk (.call1 _ _ _ _ rfl Ty.hb141 rfl (Letter_spec s[k]) rfl rfl) ?_
      simp (disch := first | omega | (simp <;> omega) | fail) [wrap_i64, wrap_u64, wrap_u8', a1]
      refine HT.cond' ?_   -- if 55
      simp (disch := first | omega | (simp <;> omega) | fail) [wrap_i64, wrap_u64, wrap_u8']
      refine HT.skip ?_
      simp (disch := first | omega | (simp <;> omega) | fail) [wrap_i64, wrap_u64, wrap_u8']
      refine HT.region ?_   -- R5
      simp (disch := first | omega | (simp <;> omega) | fail) [wrap_i64, wrap_u64, wrap_u8']
      refine Round.mk' (⟨k + 1, by omega, hg.succ hk' ((letter_split _).2 (by first | exact .inl a1 | exact .inr (.inl a2) | exact .inr (.inr (by omega))))⟩) (by dsimp only; omega) rfl ?_
      simp (disch := first | omega | (simp <;> omega) | fail) [wrap_i64, wrap_u64, wrap_u8']
    by_cases a2 : isDigV s[k] = true
    · skip
      refine HT.region ?_   -- R6
      simp (disch := first | omega | (simp <;> omega) | fail) [wrap_i64, wrap_u64, wrap_u8', a1, a2]
      refine stepK.mk (.call1 _ _ _ _ rfl Ty.hb141 rfl (Letter_spec s[k]) rfl rfl) ?_
      simp (disch := first | omega | (simp <;> omega) | fail) [wrap_i64, wrap_u64, wrap_u8', a1, a2]
      refine stepK.mk (.call1 _ _ _ _ rfl Ty.hb142 rfl (Digit_spec s[k]) rfl rfl) ?_
      simp (disch := first | omega | (simp <;> omega) | fail) [wrap_i64, wrap_u64, wrap_u8', a1, a2]
      refine HT.cond' ?_   -- if 55
      simp (disch := first | omega | (simp <;> omega) | fail) [wrap_i64, wrap_u64, wrap_u8']
      refine HT.skip ?_
      simp (disch := first | omega | (simp <;> omega) | fail) [wrap_i64, wrap_u64, wrap_u8']
      refine HT.region ?_   -- R5
      simp (disch := first | omega | (simp <;> omega) | fail) [wrap_i64, wrap_u64, wrap_u8']
      refine Round.mk' (⟨k + 1, by omega, hg.succ hk' ((letter_split _).2 (by first | exact .inl a1 | exact .inr (.inl a2) | exact .inr (.inr (by omega))))⟩) (by dsimp only; omega) rfl ?_
      simp (disch := first | omega | (simp <;> omega) | fail) [wrap_i64, wrap_u64, wrap_u8']
    by_cases a3 : (s[k].toNat : Int) = 46
    · skip
      refine HT.region ?_   -- R6
      simp (disch := first | omega | (simp <;> omega) | fail) [wrap_i64, wrap_u64, wrap_u8', a1, a2]
      refine stepK.mk (.call1 _ _ _ _ rfl Ty.hb141 rfl (Letter_spec s[k]) rfl rfl) ?_
      simp (disch := first | omega | (simp <;> omega) | fail) [wrap_i64, wrap_u64, wrap_u8', a1, a2]
      refine stepK.mk (.call1 _ _ _ _ rfl Ty.hb142 rfl (Digit_spec s[k]) rfl rfl) ?_
      simp (disch := first | omega | (simp <;> omega) | fail) [wrap_i64, wrap_u64, wrap_u8', a1, a2]
      refine HT.cond' ?_   -- if 55
      simp (disch := first | omega | (simp <;> omega) | fail) [wrap_i64, wrap_u64, wrap_u8']
      refine HT.skip ?_
      simp (disch := first | omega | (simp <;> omega) | fail) [wrap_i64, wrap_u64, wrap_u8']
      refine HT.region ?_   -- R5
      simp (disch := first | omega | (simp <;> omega) | fail) [wrap_i64, wrap_u64, wrap_u8']
      refine Round.mk' (⟨k + 1, by omega, hg.succ hk' ((letter_split _).2 (by first | exact .inl a1 | exact .inr (.inl a2) | exact .inr (.inr (by omega))))⟩) (by dsimp only; omega) rfl ?_
      simp (disch := first | omega | (simp <;> omega) | fail) [wrap_i64, wrap_u64, wrap_u8']
    by_cases a4 : (s[k].toNat : Int) = 95
    · skip
      refine HT.region ?_   -- R6
      simp (disch := first | omega | (simp <;> omega) | fail) [wrap_i64, wrap_u64, wrap_u8', a1, a2]
      refine stepK.mk (.call1 _ _ _ _ rfl Ty.hb141 rfl (Letter_spec s[k]) rfl rfl) ?_
      simp (disch := first | omega | (simp <;> omega) | fail) [wrap_i64, wrap_u64, wrap_u8', a1, a2]
      refine stepK.mk (.call1 _ _ _ _ rfl Ty.hb142 rfl (Digit_spec s[k]) rfl rfl) ?_
      simp (disch := first | omega | (simp <;> omega) | fail) [wrap_i64, wrap_u64, wrap_u8', a1, a2]
      refine HT.cond' ?_   -- if 55
      simp (disch := first | omega | (simp <;> omega) | fail) [wrap_i64, wrap_u64, wrap_u8']
      refine HT.skip ?_
      simp (disch := first | omega | (simp <;> omega) | fail) [wrap_i64, wrap_u64, wrap_u8']
      refine HT.region ?_   -- R5
      simp (disch := first | omega | (simp <;> omega) | fail) [wrap_i64, wrap_u64, wrap_u8']
      refine Round.mk' (⟨k + 1, by omega, hg.succ hk' ((letter_split _).2 (by first | exact .inl a1 | exact .inr (.inl a2) | exact .inr (.inr (by omega))))⟩) (by dsimp only; omega) rfl ?_
      simp (disch := first | omega | (simp <;> omega) | fail) [wrap_i64, wrap_u64, wrap_u8']
    by_cases a5 : (s[k].toNat : Int) = 45
    · skip
      refine HT.region ?_   -- R6
      simp (disch := first | omega | (simp <;> omega) | fail) [wrap_i64, wrap_u64, wrap_u8', a1, a2]
      refine stepK.mk (.call1 _ _ _ _ rfl Ty.hb141 rfl (Letter_spec s[k]) rfl rfl) ?_
      simp (disch := first | omega | (simp <;> omega) | fail) [wrap_i64, wrap_u64, wrap_u8', a1, a2]
      refine stepK.mk (.call1 _ _ _ _ rfl Ty.hb142 rfl (Digit_spec s[k]) rfl rfl) ?_
      simp (disch := first | omega | (simp <;> omega) | fail) [wrap_i64, wrap_u64, wrap_u8', a1, a2]
      refine HT.cond' ?_   -- if 55
      simp (disch := first | omega | (simp <;> omega) | fail) [wrap_i64, wrap_u64, wrap_u8']
      refine HT.skip ?_
      simp (disch := first | omega | (simp <;> omega) | fail) [wrap_i64, wrap_u64, wrap_u8']
      refine HT.region ?_   -- R5
      simp (disch := first | omega | (simp <;> omega) | fail) [wrap_i64, wrap_u64, wrap_u8']
      refine Round.mk' (⟨k + 1, by omega, hg.succ hk' ((letter_split _).2 (by first | exact .inl a1 | exact .inr (.inl a2) | exact .inr (.inr (by omega))))⟩) (by dsimp only; omega) rfl ?_
      simp (disch := first | omega | (simp <;> omega) | fail) [wrap_i64, wrap_u64, wrap_u8']
    refine HT.region ?_   -- R6
    simp (disch := first | omega | (simp <;> omega) | fail) [wrap_i64, wrap_u64, wrap_u8', a1, a2]
    refine stepK.mk (.call1 _ _ _ _ rfl Ty.hb141 rfl (Letter_spec s[k]) rfl rfl) ?_
    simp (disch := first | omega | (simp <;> omega) | fail) [wrap_i64, wrap_u64, wrap_u8', a1, a2]
    refine stepK.mk (.call1 _ _ _ _ rfl Ty.hb142 rfl (Digit_spec s[k]) rfl rfl) ?_
    simp (disch := first | omega | (simp <;> omega) | fail) [wrap_i64, wrap_u64, wrap_u8', a1, a2]
    refine HT.cond' ?_   -- if 55
    simp (disch := first | omega | (simp <;> omega) | fail) [wrap_i64, wrap_u64, wrap_u8']
    refine HT.seq ?_
    refine HT.region ?_   -- R7
    simp (disch := first | omega | (simp <;> omega) | fail) [wrap_i64, wrap_u64, wrap_u8']
    refine HT.ret ?_
    have hx2 := all_not (q := letterV) hk' (letter_no (by rintro (h | h | h | h | h); exact a1 h; exact a2 h; exact a3 h; exact a4 h; exact a5 h))
    have hx := nameOK_all c1 c2 c3 c4
    simp (disch := first | omega | (simp <;> omega) | fail) [wrap_i64, wrap_u64, wrap_u8', hx, hx2]
  · skip
    obtain rfl : k = s.length := by omega
    have hx2 := hg.all
    refine HT.exit ?_
    simp (disch := first | omega | (simp <;> omega) | fail) [wrap_i64, wrap_u64, wrap_u8']
    refine HT.seq ?_
    refine HT.region ?_   -- R8
    simp (disch := first | omega | (simp <;> omega) | fail) [wrap_i64, wrap_u64, wrap_u8']
    refine HT.ret ?_
    have hx := nameOK_all c1 c2 c3 c4
    simp (disch := first | omega | (simp <;> omega) | fail) [wrap_i64, wrap_u64, wrap_u8', hx, hx2]
theorem pathV_long {s : List UInt8} (h : 60 < s.length) : pathV s = false := by unfold pathV; rw [decide_eq_false (by omega)]; rfl
theorem pathV_all {s : List UInt8} (h : s.length ≤ 60) : pathV s = (partsV s).all nameOK := by unfold pathV; rw [decide_eq_true h]; simp
theorem partsV_part : ∀ (s : List UInt8), ∀ p ∈ partsV s, p.length ≤ s.length
  | [], p, h => by simp [partsV] at h; subst h; simp
  | c :: s, p, h => by
    have ih := partsV_part s
    unfold partsV at h
    split at h
    · rcases List.mem_cons.1 h with rfl | h
      · simp
      · have := ih p h; simp; omega
    · split at h
      · simp at h; subst h; simp
      · next q r e =>
        rw [e] at ih
        rcases List.mem_cons.1 h with rfl | h
        · have := ih q (by simp); simp; omega
        · have := ih p (by simp [h]); simp; omega
theorem partsV_count : ∀ (s : List UInt8), (partsV s).length ≤ s.length + 1
  | [] => by simp [partsV]
  | c :: s => by
    have ih := partsV_count s
    unfold partsV
    split
    · simp; omega
    · split
      · simp
      · next q r e => rw [e] at ih; simp at ih ⊢; omega
set_option maxRecDepth 20000 in
set_option maxHeartbeats 4000000 in
theorem Path_spec (s : List UInt8) (hs : s.length ≤ 140737488355328) : Spec1 Tryz.prog 101 [.str s] (bo (pathV s)) := by
  refine Spec1.of_HT Tryz.func101 rfl (by rw [Tryz.ntmps101]; simp) rfl ?_
  rw [Tryz.ntmps101]
  refine HT.seq ?_
  refine HT.region ?_   -- R0
  simp (disch := first | omega | (simp <;> omega) | fail) [wrap_i64, wrap_u64, wrap_u8']
  refine HT.scope ?_
  refine HT.seq ?_
  refine HT.seq ?_
  refine HT.region ?_   -- R1
  simp (disch := first | omega | (simp <;> omega) | fail) [wrap_i64, wrap_u64, wrap_u8']
  refine HT.cond' ?_   -- if 8
  simp (disch := first | omega | (simp <;> omega) | fail) [wrap_i64, wrap_u64, wrap_u8']
  refine ⟨fun h8 => ?_, fun h8 => ?_⟩
  · skip
    have hx := pathV_long (show 60 < s.length by omega)
    refine HT.seq ?_
    refine HT.region ?_   -- R2
    simp (disch := first | omega | (simp <;> omega) | fail) [wrap_i64, wrap_u64, wrap_u8']
    refine HT.ret ?_
    simp (disch := first | omega | (simp <;> omega) | fail) [wrap_i64, wrap_u64, wrap_u8', hx]
  · skip
    have hl : s.length ≤ 60 := by omega
    have hx := pathV_all hl
    have hpc := partsV_count s
    refine HT.skip ?_
    simp (disch := first | omega | (simp <;> omega) | fail) [wrap_i64, wrap_u64, wrap_u8']
    refine HT.seq ?_
    refine HT.label ?_
    simp (disch := first | omega | (simp <;> omega) | fail) [wrap_i64, wrap_u64, wrap_u8']
    refine HT.seq ?_
    refine HT.seq ?_
    refine HT.region ?_   -- R3
    simp (disch := first | omega | (simp <;> omega) | fail) [wrap_i64, wrap_u64, wrap_u8']
    refine stepK.mk (.call1f _ _ _ _ _ rfl Ty.hb126 rfl rfl (Split_spec s (by omega)) rfl) ?_
    simp (disch := first | omega | (simp <;> omega) | fail) [wrap_i64, wrap_u64, wrap_u8']
    refine HT.block ?_
    refine HT.loopK (fun k : {k : Nat // k ≤ (partsV s).length ∧ UpTo nameOK (partsV s) k} => [.s 12 (i64 k)]) [10, 11] [] (fun k => (partsV s).length - k) (⟨0, by omega, UpTo.zero _ _⟩) ?_ ?_   -- block 0 turned [12, 19, 20, 23, 24, 25, 28, 29, 30]
    · simp (disch := first | omega | (simp <;> omega) | fail) [wrap_i64, wrap_u64, wrap_u8']
    rintro ⟨k, hk, hg⟩
    simp (disch := first | omega | (simp <;> omega) | fail) [wrap_i64, wrap_u64, wrap_u8']
    refine HT.seq ?_
    refine HT.region ?_   -- R4
    simp (disch := first | omega | (simp <;> omega) | fail) [wrap_i64, wrap_u64, wrap_u8']
    refine HT.seq ?_
    refine HT.cond' ?_   -- if 13
    simp (disch := first | omega | (simp <;> omega) | fail) [wrap_i64, wrap_u64, wrap_u8']
    refine ⟨fun h13 => ?_, fun h13 => ?_⟩
    · skip
      have hk' : k < (partsV s).length := by omega
      have hpp := partsV_part s _ (List.getElem_mem hk')
      refine HT.skip ?_
      simp (disch := first | omega | (simp <;> omega) | fail) [wrap_i64, wrap_u64, wrap_u8']
      refine HT.seq ?_
      refine HT.block ?_
      refine HT.seq ?_
      refine HT.region ?_   -- R5
      simp (disch := first | omega | (simp <;> omega) | fail) [wrap_i64, wrap_u64, wrap_u8']
      refine HT.seq ?_
      refine HT.seq ?_
      by_cases c1 : (partsV s)[k] = [46]
      · skip
        refine HT.region ?_   -- R6
        simp (disch := first | omega | (simp <;> omega) | fail) [wrap_i64, wrap_u64, wrap_u8', c1]
        refine HT.cond' ?_   -- if 31
        simp (disch := first | omega | (simp <;> omega) | fail) [wrap_i64, wrap_u64, wrap_u8']
        refine HT.seq ?_
        refine HT.region ?_   -- R7
        simp (disch := first | omega | (simp <;> omega) | fail) [wrap_i64, wrap_u64, wrap_u8']
        refine HT.ret ?_
        have hx2 := all_not (q := nameOK) hk' (nameOK_no (by first | exact .inl c3 | exact .inr (.inl c4) | exact .inr (.inr (.inl c1)) | exact .inr (.inr (.inr c2))))
        simp (disch := first | omega | (simp <;> omega) | fail) [wrap_i64, wrap_u64, wrap_u8', hx, hx2]
      by_cases c2 : (partsV s)[k] = [46, 46]
      · skip
        refine HT.region ?_   -- R6
        simp (disch := first | omega | (simp <;> omega) | fail) [wrap_i64, wrap_u64, wrap_u8', c1, c2]
        refine HT.cond' ?_   -- if 31
        simp (disch := first | omega | (simp <;> omega) | fail) [wrap_i64, wrap_u64, wrap_u8']
        refine HT.seq ?_
        refine HT.region ?_   -- R7
        simp (disch := first | omega | (simp <;> omega) | fail) [wrap_i64, wrap_u64, wrap_u8']
        refine HT.ret ?_
        have hx2 := all_not (q := nameOK) hk' (nameOK_no (by first | exact .inl c3 | exact .inr (.inl c4) | exact .inr (.inr (.inl c1)) | exact .inr (.inr (.inr c2))))
        simp (disch := first | omega | (simp <;> omega) | fail) [wrap_i64, wrap_u64, wrap_u8', hx, hx2]
      by_cases c3 : (partsV s)[k].length < 1
      · skip
        refine HT.region ?_   -- R6
        simp (disch := first | omega | (simp <;> omega) | fail) [wrap_i64, wrap_u64, wrap_u8', c1, c2]
        refine HT.cond' ?_   -- if 31
        simp (disch := first | omega | (simp <;> omega) | fail) [wrap_i64, wrap_u64, wrap_u8']
        refine HT.seq ?_
        refine HT.region ?_   -- R7
        simp (disch := first | omega | (simp <;> omega) | fail) [wrap_i64, wrap_u64, wrap_u8']
        refine HT.ret ?_
        have hx2 := all_not (q := nameOK) hk' (nameOK_no (by first | exact .inl c3 | exact .inr (.inl c4) | exact .inr (.inr (.inl c1)) | exact .inr (.inr (.inr c2))))
        simp (disch := first | omega | (simp <;> omega) | fail) [wrap_i64, wrap_u64, wrap_u8', hx, hx2]
      by_cases c4 : 24 < (partsV s)[k].length
      · skip
        refine HT.region ?_   -- R6
        simp (disch := first | omega | (simp <;> omega) | fail) [wrap_i64, wrap_u64, wrap_u8', c1, c2]
        refine HT.cond' ?_   -- if 31
        simp (disch := first | omega | (simp <;> omega) | fail) [wrap_i64, wrap_u64, wrap_u8']
        refine HT.seq ?_
        refine HT.region ?_   -- R7
        simp (disch := first | omega | (simp <;> omega) | fail) [wrap_i64, wrap_u64, wrap_u8']
        refine HT.ret ?_
        have hx2 := all_not (q := nameOK) hk' (nameOK_no (by first | exact .inl c3 | exact .inr (.inl c4) | exact .inr (.inr (.inl c1)) | exact .inr (.inr (.inr c2))))
        simp (disch := first | omega | (simp <;> omega) | fail) [wrap_i64, wrap_u64, wrap_u8', hx, hx2]
      refine HT.region ?_   -- R6
      simp (disch := first | omega | (simp <;> omega) | fail) [wrap_i64, wrap_u64, wrap_u8', c1, c2]
      refine HT.cond' ?_   -- if 31
      simp (disch := first | omega | (simp <;> omega) | fail) [wrap_i64, wrap_u64, wrap_u8']
      refine HT.skip ?_
      simp (disch := first | omega | (simp <;> omega) | fail) [wrap_i64, wrap_u64, wrap_u8']
      refine HT.seq ?_
      refine HT.region ?_   -- R8
      simp (disch := first | omega | (simp <;> omega) | fail) [wrap_i64, wrap_u64, wrap_u8']
      refine HT.block ?_
      refine HT.loopK (fun j : {j : Nat // j ≤ (partsV s)[k].length ∧ UpTo letterV (partsV s)[k] j} => [.s 5 (i64 j)]) [4, 10, 11, 12, 19, 20, 23, 24, 25, 28, 29, 30] [] (fun j => (partsV s)[k].length - j) (⟨0, by omega, UpTo.zero _ _⟩) ?_ ?_   -- block 2 turned [5]
      · simp (disch := first | omega | (simp <;> omega) | fail) [wrap_i64, wrap_u64, wrap_u8']
      rintro ⟨j, hj, hgj⟩
      simp (disch := first | omega | (simp <;> omega) | fail) [wrap_i64, wrap_u64, wrap_u8']
      refine HT.seq ?_
      refine HT.block ?_
      refine HT.seq ?_
      refine HT.seq ?_
      refine HT.region ?_   -- R10
      simp (disch := first | omega | (simp <;> omega) | fail) [wrap_i64, wrap_u64, wrap_u8']
      refine HT.cond' ?_   -- if 37
      simp (disch := first | omega | (simp <;> omega) | fail) [wrap_i64, wrap_u64, wrap_u8']
      refine ⟨fun h37 => ?_, fun h37 => ?_⟩
      · skip
        have hnm : nameOK (partsV s)[k] = true := by
          rw [nameOK_all c3 c4 c1 c2]
          obtain rfl : j = (partsV s)[k].length := by omega
          exact hgj.all
        refine HT.exit ?_
        simp (disch := first | omega | (simp <;> omega) | fail) [wrap_i64, wrap_u64, wrap_u8']
        refine HT.region ?_   -- R13
        simp (disch := first | omega | (simp <;> omega) | fail) [wrap_i64, wrap_u64, wrap_u8']
        refine Round.mk' (⟨k + 1, by omega, hg.succ hk' hnm⟩) (by dsimp only; omega) rfl ?_
        simp (disch := first | omega | (simp <;> omega) | fail) [wrap_i64, wrap_u64, wrap_u8']
      · skip
        have hj' : j < (partsV s)[k].length := by omega
        refine HT.skip ?_
        simp (disch := first | omega | (simp <;> omega) | fail) [wrap_i64, wrap_u64, wrap_u8']
        refine HT.seq ?_
        refine HT.region ?_   -- R11
        simp (disch := first | omega | (simp <;> omega) | fail) [wrap_i64, wrap_u64, wrap_u8']
        refine stepK.mk (.call1 _ _ _ _ rfl Ty.hb127 rfl (letter_spec (partsV s)[k][j]) rfl rfl) ?_
        simp (disch := first | omega | (simp <;> omega) | fail) [wrap_i64, wrap_u64, wrap_u8']
        refine HT.cond' ?_   -- if 42
        simp (disch := first | omega | (simp <;> omega) | fail) [wrap_i64, wrap_u64, wrap_u8']
        refine ⟨fun h42 => ?_, fun h42 => ?_⟩
        · skip
          refine HT.seq ?_
          refine HT.region ?_   -- R12
          simp (disch := first | omega | (simp <;> omega) | fail) [wrap_i64, wrap_u64, wrap_u8']
          refine HT.ret ?_
          have hx2 := all_not (q := nameOK) hk' (by rw [nameOK_all c3 c4 c1 c2]; exact all_not hj' (by simpa using h42))
          simp (disch := first | omega | (simp <;> omega) | fail) [wrap_i64, wrap_u64, wrap_u8', hx, hx2]
        · skip
          refine HT.skip ?_
          simp (disch := first | omega | (simp <;> omega) | fail) [wrap_i64, wrap_u64, wrap_u8']
          refine HT.region ?_   -- R9
          simp (disch := first | omega | (simp <;> omega) | fail) [wrap_i64, wrap_u64, wrap_u8']
          refine Round.mk' (⟨j + 1, by omega, hgj.succ hj' h42⟩) (by dsimp only; omega) rfl ?_
          simp (disch := first | omega | (simp <;> omega) | fail) [wrap_i64, wrap_u64, wrap_u8']
    · skip
      obtain rfl : k = (partsV s).length := by omega
      have hx2 := hg.all
      refine HT.exit ?_
      simp (disch := first | omega | (simp <;> omega) | fail) [wrap_i64, wrap_u64, wrap_u8']
      refine HT.seq ?_
      refine HT.region ?_   -- R14
      simp (disch := first | omega | (simp <;> omega) | fail) [wrap_i64, wrap_u64, wrap_u8']
      refine HT.ret ?_
      simp (disch := first | omega | (simp <;> omega) | fail) [wrap_i64, wrap_u64, wrap_u8', hx, hx2]
end Go.Hv

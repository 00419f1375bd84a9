import Derived.Test.YtcmomegkhoggpaaGreatDoorHv7
set_option linter.unusedVariables false
set_option linter.unusedSectionVars false
set_option linter.unusedSimpArgs false
namespace Go.Hv
open Go Go.RowKit
variable [GI]
variable {P : Program} {D : Nat → Prop} {F : Nat → Prop} {σ : HS} {a : Act} {w : World} {γ : Nat → Value} {bl : Nat → Option Nat}

theorem flat_lt {i j sz n : Nat} (hi : i < n) (hj : j < sz) : i * sz + j < n * sz := by
 have := Nat.mul_le_mul_right sz (show i + 1 ≤ n from hi)
 rw [Nat.add_mul, Nat.one_mul] at this
 omega

theorem getElem?_lt {α : Type} {l : List α} {i : Nat} {x : α} (h : l[i]? = some x) : i < l.length := by
 rcases Nat.lt_or_ge i l.length with h' | h'
 ·exact h'
 ·simp [List.getElem?_eq_none h'] at h

theorem zeroCells_one (z : Array Value) (n : Nat) (h : ∀ (j : Nat) (v : Value), z[j]? = some v → v.oneCell' = true) (j : Nat) (v : Value) (hv : (Builtin.zeroCells z n)[j]? = some v) : v.oneCell' = true := by
 unfold Builtin.zeroCells at hv
 rw [Array.getElem?_map] at hv
 cases hr : (Array.range (n * z.size))[j]? with
 | none => simp [hr] at hv
 | some k =>
  simp only [hr, Option.map_some, Option.some.injEq] at hv
  subst hv
  have hk : k < n * z.size := by
   have hj : j < n * z.size := by
    rcases Nat.lt_or_ge j (n * z.size) with h' | h'
    ·exact h'
    ·rw [Array.getElem?_eq_none (by simpa using h')] at hr; cases hr
   have : (Array.range (n * z.size))[j]? = some j := by simp [hj]
   rw [this] at hr
   cases hr
   exact hj
  have hz : 0 < z.size := by
   rcases Nat.eq_zero_or_pos z.size with h' | h'
   ·rw [h'] at hk; omega
   ·exact h'
  have hm := Nat.mod_lt k hz
  have he : z[k % z.size]? = some z[k % z.size]! := by rw [Array.getElem?_eq_getElem hm, getElem!_pos z _ hm]
  exact h _ _ he

theorem Sim.layGrown (S : Sim D F σ a w γ bl) (id : Nat) {e sz : Nat} {es0 es : List (List HV)} {olds news : List Value} {zc : Array Value} {cap : Nat} (hsz : 0 < sz) (hz0 : ∀ x ∈ es0, x.length = sz) (hz1 : ∀ x ∈ es, x.length = sz)
  (ho : olds.length = es0.length * sz) (hn : news.length = es.length * sz) (hzs : zc.size = sz) (hcap : es0.length + es.length ≤ cap) (hcm : cap ≤ maxLen)
  (h1 : ∀ v ∈ olds, v.oneCell' = true) (h2 : ∀ v ∈ news, v.oneCell' = true) (h3 : ∀ (j : Nat) (v : Value), zc[j]? = some v → v.oneCell' = true)
  (r1 : ∀ (i j : Nat) (x : List HV) (c : HV), es0[i]? = some x → x[j]? = some c → ∃ v, olds[i * sz + j]? = some v ∧ ((∃ c0, c = HV.sub id .any .any c0 ∧ SRep w (dd D σ.log bl) γ bl c0 v) ∨ IRep w (dd D σ.log bl) c v))
  (r2 : ∀ (i j : Nat) (x : List HV) (c : HV), es[i]? = some x → x[j]? = some c → ∃ v, news[i * sz + j]? = some v ∧ IRep w (dd D σ.log bl) c v) :
  Sim D F ⟨.o id (.row e sz (es0 ++ es)) :: .sub id .any .any :: σ.log, σ.n⟩ a (w.drew.alloc (.cells (olds.toArray ++ news.toArray ++ Builtin.zeroCells zc (cap - (es0.length + es.length))) e))
   (upd γ id (.slice (some ⟨w.heap.size, 0, none⟩) (es0.length + es.length) cap)) (upd bl id (some w.heap.size)) := by
 have hsize : (olds.toArray ++ news.toArray ++ Builtin.zeroCells zc (cap - (es0.length + es.length))).size = cap * sz := by
  simp only [Array.size_append, List.size_toArray, size_zeroCells, hzs, ho, hn, ← Nat.add_mul]
  congr 1
  omega
 refine S.lay (by simp) (fun b hb _ => Below.heap_alloc _ _ _ hb) (fun b hb => .inl (by cases hb; simp)) (fun hS hI => ?_)
 refine ⟨hsz, fun x hx => ?_, .inr ⟨w.heap.size, cap, _, (0, 0), by rw [upd_same]; simp, upd_same .., heap_alloc_new w.drew _, by simp, by simpa using hcap, hcm, hsize, fun j v hv => ?_, fun i j x c hx hc => ?_⟩⟩
 ·rcases List.mem_append.1 hx with h | h
  ·exact hz0 x h
  ·exact hz1 x h
 ·rw [Array.getElem?_append] at hv
  split at hv
  ·rw [← Array.getElem?_toList] at hv
   have hm := List.mem_of_getElem? hv
   simp only [Array.toList_append, List.mem_append] at hm
   rcases hm with h | h
   ·exact h1 v h
   ·exact h2 v h
  ·exact zeroCells_one zc _ h3 _ v hv
 ·have hxl : x.length = sz := by
   rcases List.mem_append.1 (List.mem_of_getElem? hx) with h | h
   ·exact hz0 x h
   ·exact hz1 x h
  have hj : j < sz := by have := getElem?_lt hc; omega
  have hi := getElem?_lt hx
  simp only [List.length_append] at hi
  have key : ∃ v, (olds ++ news)[i * sz + j]? = some v ∧ ((∃ c0, c = HV.sub id .any .any c0 ∧ SRep w (dd D σ.log bl) γ bl c0 v) ∨ IRep w (dd D σ.log bl) c v) := by
   by_cases h0 : i < es0.length
   ·rw [List.getElem?_append_left h0] at hx
    obtain ⟨v, hv, hr⟩ := r1 i j x c hx hc
    exact ⟨v, by rw [List.getElem?_append_left (getElem?_lt hv)]; exact hv, hr⟩
   ·rw [List.getElem?_append_right (by omega)] at hx
    obtain ⟨v, hv, hr⟩ := r2 _ j x c hx hc
    refine ⟨v, ?_, .inr hr⟩
    have : i * sz = (i - es0.length) * sz + es0.length * sz := by rw [← Nat.add_mul]; congr 1; omega
    rw [List.getElem?_append_right (by rw [ho]; omega), ho, show i * sz + j - es0.length * sz = (i - es0.length) * sz + j by omega]
    exact hv
  obtain ⟨v, hv, hr⟩ := key
  refine ⟨v, ?_, by
   rcases hr with ⟨c0, rfl, hr⟩ | hr
   ·exact hS _ _ hr
   ·exact .imm (hI _ _ hr)⟩
  have hlt : i * sz + j < (olds ++ news).length := getElem?_lt hv
  rw [Array.getElem?_append_left (by simpa using hlt), ← Array.getElem?_toList]
  simpa using hv

theorem subLL_length (id : Nat) (xr xm : HV) (es : List (List HV)) : (subLL id xr xm es).length = es.length := by simp [subLL]
theorem subLL_get {id : Nat} {xr xm : HV} {es : List (List HV)} {i : Nat} {x : List HV} (h : (subLL id xr xm es)[i]? = some x) : ∃ x0, es[i]? = some x0 ∧ x = subL id xr xm x0 := by
 unfold subLL at h
 rw [List.getElem?_map] at h
 cases hx : es[i]? with
 | none => simp [hx] at h
 | some x0 => simp only [hx, Option.map_some, Option.some.injEq] at h; exact ⟨x0, rfl, h.symm⟩
theorem subL_get {id : Nat} {xr xm : HV} {cs : List HV} {j : Nat} {c : HV} (h : (subL id xr xm cs)[j]? = some c) : ∃ c0, cs[j]? = some c0 ∧ c = HV.sub id xr xm c0 := by
 rw [subL_getElem?] at h
 cases hx : cs[j]? with
 | none => simp [hx] at h
 | some c0 => simp only [hx, Option.map_some, Option.some.injEq] at h; exact ⟨c0, rfl, h.symm⟩
theorem subLL_sizes {id : Nat} {xr xm : HV} {es : List (List HV)} {sz : Nat} (h : ∀ x ∈ es, x.length = sz) : ∀ x ∈ subLL id xr xm es, x.length = sz := by
 intro x hx
 obtain ⟨i, hi⟩ := List.mem_iff_getElem?.1 hx
 obtain ⟨x0, h0, rfl⟩ := subLL_get hi
 rw [subL_length]; exact h x0 (List.mem_of_getElem? h0)

theorem append_row (S : Sim D F σ a w γ bl) {t u ty e sz by_ id : Nat} {d2 : TypeDesc} {es0 es : List (List HV)} {X : Value} {news : List Value} {zs : List HV} (hT : slInfo P t = some (e, sz, by_)) (hz : zeroHV P e = some zs) (hzl : zs.length = sz)
  (hu : P.underlying u = some d2) (hd : ∀ k, d2 ≠ .int k) (ho : getO σ.log id = .row e sz es0) (hX : Src P w (dd D σ.log bl) sz es X news)
  (hm : es0.length + es.length ≤ 9223372036854775807) (hb : (es0.length + es.length) * by_ ≤ 140737488355328) :
  ∃ v w' γ' bl', (Builtin.append_ #[t, u] ty #[γ id, X]).run P w = .ok v w' ∧ Kept F w w' ∧ Sim D F ⟨.o id (.row e sz (subLL id .any .any es0 ++ es)) :: .sub id .any .any :: σ.log, σ.n⟩ a w' γ' bl' ∧ γ' id = v ∧ v.oneCell' = true := by
 obtain ⟨i, ht, hi, rfl, rfl, hsz⟩ := slInfo_some hT
 obtain ⟨i', z, hi', hzr, hzs, hz1, hzI⟩ := zeroHV_some hz
 obtain rfl : i' = i := by rw [hi] at hi'; exact (Option.some.inj hi').symm
 have hlive : getO σ.log id ≠ .gone := by rw [ho]; simp
 obtain ⟨hX1, hX2, hX3, hX4, hX5⟩ := hX
 have R := S.hobj id
 rw [ho] at R
 obtain ⟨_, hl0, R⟩ := R
 rcases R with ⟨rfl, ⟨A, hA⟩, hbn⟩ | ⟨b, cap, C, fr, g1, g2, g3, g4, g5, g6, g7, g8, g9⟩
 ·rw [hA]
  by_cases h0 : es = []
  ·subst h0
   have hlo : (Builtin.lenOf X).run P w = .ok 0 w := (hX1 w rfl).1
   have hfo : (Builtin.firstCells i'.size 0 X).run P w = .ok #[] w := by
    have := (hX1 w rfl).2
    have hn : news = [] := List.eq_nil_of_length_eq_zero (by simpa using hX2)
    subst hn
    exact this
   have hrun : (Builtin.append_ #[t, u] ty #[.slice A 0 0, X]).run P w = .ok (.slice A 0 0) w := by
    cases A with
    | none => exact run_append_none' ht hi hu hd hlo hfo
    | some ad =>
     obtain ⟨b, off, sp⟩ := ad
     have hzz : (match d2 with | .int _ => true | _ => false) = false := by cases d2 <;> first | rfl | exact absurd rfl (hd _)
     simp [Builtin.append_, run_underlying ht, run_underlying hu, hzz, sizeOf, typeInfo, hi, hlo, hfo, storeCells]
   refine ⟨_, w, upd γ id (.slice A 0 0), upd bl id none, hrun, Kept.refl _ _, ?_, upd_same .., rfl⟩
   refine S.lay (Nat.le_refl _) (fun _ _ _ => rfl) (fun b hb => by cases hb) (fun hS hI => ?_)
   exact ⟨hsz, by simp [subLL], .inl ⟨rfl, ⟨A, upd_same ..⟩, upd_same ..⟩⟩
  ·have hpos : 0 < es.length := List.length_pos_iff.2 h0
   have hfo : (Builtin.firstCells i'.size 0 (.slice A 0 0)).run P w.drew = .ok ([] : List Value).toArray w.drew := by
    cases A with
    | none => rfl
    | some ad => simp [Builtin.firstCells, loadCells, loadCellsFrom]
   have hr := run_append_grow' (ty := ty) ht hi hzr hu hd (A := A) (n := 0) (m := es.length) (cap := 0) (hX1 w rfl).1 (hX1 w.drew rfl).2 hfo (by omega) (by simpa using hm) (by simpa using hb)
   have hS' := S.layGrown id (e := e) (es0 := []) (es := es) (olds := []) (news := news) (zc := z.cells) (cap := grownCap w (0 + es.length) 0 e) hsz (by simp) hX4 (by simp) hX2 (by rw [hzs, hzl]) (by have := grownCap_ge w (0 + es.length) 0 e; simpa using this)
    (grownCap_le_maxLen w _ 0 e (by unfold maxLen; simpa using hm)) (by simp) hX3 hz1 (by simp) hX5
   exact ⟨_, _, _, _, hr, Kept.drewAlloc w _ S.hbw, by simpa [subLL] using hS', by rw [upd_same]; simp, rfl⟩
 ·rw [g1]
  have hbase := (S.hblk id b hlive g2).1
  by_cases hroom : es0.length + es.length ≤ cap
  ·have hfit : es0.length * i'.size + news.length ≤ C.size := by rw [hX2, g7, ← Nat.add_mul]; exact Nat.mul_le_mul_right _ hroom
   have hst := run_storeCells_cells (P := P) b (0 + es0.length * i'.size) news 0 w (fun j hj => by
     have : es0.length * i'.size + j < C.size := by omega
     simp [World.cell?, g3, this]) (fun j hj => by
     have := g4 (0 + es0.length * i'.size + 0 + j) (by omega)
     simp only [World.frozen?, g3]
     simpa using this) hX3
   have hr := run_append_in' (ty := ty) ht hi hu hd (b := b) (off := 0) (n := es0.length) (m := es.length) (cap := cap) (hX1 w rfl).1 (hX1 w rfl).2 hroom hst
   simp only [Nat.zero_add, Nat.add_zero] at hr
   obtain ⟨C', q1, q2, q3⟩ := heap_setCells b e fr news (es0.length * i'.size) w C g3
   refine ⟨_, _, upd γ id (.slice (some ⟨b, 0, none⟩) (es0.length + es.length) cap), upd bl id (some b), hr, Kept.setCells hbase _ _ (Kept.refl _ _), ?_, upd_same .., rfl⟩
   refine S.lay (by rw [size_setCells]; exact Nat.le_refl _) (fun k hk hne => heap_setCells_other b news _ w k (fun x => hne ⟨hlive, by rw [x]; exact g2⟩)) (fun b' hb' => .inr ⟨hlive, by cases hb'; exact g2⟩) (fun hS hI => ?_)
   refine ⟨hsz, fun x hx => ?_, .inr ⟨b, cap, C', fr, by rw [upd_same]; simp [subLL_length], upd_same .., q1, by rw [q2]; exact g4, by simpa [subLL_length] using hroom, g6, by rw [q2]; exact g7, fun j v hv => ?_, fun i j x c hx hc => ?_⟩⟩
   ·rcases List.mem_append.1 hx with h | h
    ·exact subLL_sizes hl0 x h
    ·exact hX4 x h
   ·rw [q3] at hv
    split at hv
    ·exact hX3 v (List.mem_of_getElem? hv)
    ·exact g8 j v hv
   ·have hxl : x.length = i'.size := by
     rcases List.mem_append.1 (List.mem_of_getElem? hx) with h | h
     ·exact subLL_sizes hl0 x h
     ·exact hX4 x h
    have hj : j < i'.size := by have := getElem?_lt hc; omega
    by_cases h0 : i < es0.length
    ·rw [List.getElem?_append_left (by rw [subLL_length]; exact h0)] at hx
     obtain ⟨x0, hx0, rfl⟩ := subLL_get hx
     obtain ⟨c0, hc0, rfl⟩ := subL_get hc
     obtain ⟨v, hv, hr⟩ := g9 i j x0 c0 hx0 hc0
     have := flat_lt h0 hj
     exact ⟨v, by rw [q3, if_neg (by omega)]; exact hv, hS _ _ hr⟩
    ·rw [List.getElem?_append_right (by rw [subLL_length]; omega), subLL_length] at hx
     obtain ⟨v, hv, hr⟩ := hX5 _ j x c hx hc
     have hlt := getElem?_lt hv
     have : i * i'.size = (i - es0.length) * i'.size + es0.length * i'.size := by rw [← Nat.add_mul]; congr 1; omega
     refine ⟨v, ?_, .imm (hI _ _ hr)⟩
     rw [q3, if_pos (by omega), show i * i'.size + j - es0.length * i'.size = (i - es0.length) * i'.size + j by omega]
     exact hv
  ·have hcell : ∀ k, k < es0.length * i'.size → ∃ v, C[k]? = some v := fun k hk => by
    have : k < C.size := by rw [g7]; exact Nat.lt_of_lt_of_le hk (Nat.mul_le_mul_right _ g5)
    exact ⟨C[k], Array.getElem?_eq_getElem this⟩
   have hlo : (C.toList.take (es0.length * i'.size)).length = es0.length * i'.size := by
    rw [List.length_take, Array.length_toList (xs := C), g7, Nat.min_eq_left (Nat.mul_le_mul_right _ g5)]
   have hfo := run_firstCells_some (P := P) w.drew i'.size es0.length ⟨b, 0, none⟩ es0.length cap (C.toList.take (es0.length * i'.size)) hlo (fun j v hv => by
    rw [add_at]
    have hj := getElem?_lt hv
    rw [List.getElem?_take_of_lt (by omega), Array.getElem?_toList] at hv
    rw [cell_of_heap (w := w) (w' := w.drew) rfl, Nat.zero_add]
    simp [World.cell?, g3, hv])
   have hr := run_append_grow' (ty := ty) ht hi hzr hu hd (A := some ⟨b, 0, none⟩) (n := es0.length) (m := es.length) (cap := cap) (hX1 w rfl).1 (hX1 w.drew rfl).2 hfo (by omega) hm hb
   have hS' := S.layGrown id (e := e) (es0 := subLL id .any .any es0) (es := es) (olds := C.toList.take (es0.length * i'.size)) (news := news) (zc := z.cells) (cap := grownCap w (es0.length + es.length) cap e) hsz (subLL_sizes hl0) hX4 (by rw [subLL_length]; exact hlo) hX2 (by rw [hzs, hzl]) (by rw [subLL_length]; exact grownCap_ge w _ cap e)
    (grownCap_le_maxLen w _ cap e (by unfold maxLen; exact hm)) (fun v hv => by
     obtain ⟨j, hj⟩ := List.mem_iff_getElem?.1 (List.mem_of_mem_take hv)
     rw [Array.getElem?_toList] at hj
     exact g8 j v hj) hX3 hz1 (fun i j x c hx hc => by
     obtain ⟨x0, hx0, rfl⟩ := subLL_get hx
     obtain ⟨c0, hc0, rfl⟩ := subL_get hc
     obtain ⟨v, hv, hr⟩ := g9 i j x0 c0 hx0 hc0
     have hj : j < i'.size := by have := getElem?_lt hc0; have := hl0 x0 (List.mem_of_getElem? hx0); omega
     have := flat_lt (getElem?_lt hx0) hj
     exact ⟨v, by rw [List.getElem?_take_of_lt this, Array.getElem?_toList]; exact hv, .inl ⟨c0, rfl, hr⟩⟩) hX5
   exact ⟨_, _, _, _, hr, Kept.drewAlloc w _ S.hbw, by rw [subLL_length] at hS'; exact hS', upd_same .., rfl⟩

theorem append_full (S : Sim D F σ a w γ bl) {t u ty e sz sz0 by_ id : Nat} {d2 : TypeDesc} {es0 es : List (List HV)} {V X : Value} {news : List Value} {zs : List HV} (hT : slInfo P t = some (e, sz, by_)) (hz : zeroHV P e = some zs) (hzl : zs.length = sz)
  (hu : P.underlying u = some d2) (hd : ∀ k, d2 ≠ .int k) (hV : IRep w (dd D σ.log bl) (.sl sz0 true es0) V) (hsz0 : es0 = [] ∨ sz0 = sz) (hne : es0 = [] ∨ es ≠ []) (hX : Src P w (dd D σ.log bl) sz es X news)
  (hm : es0.length + es.length ≤ 9223372036854775807) (hb : (es0.length + es.length) * by_ ≤ 140737488355328) :
  ∃ v w' γ' bl', (Builtin.append_ #[t, u] ty #[V, X]).run P w = .ok v w' ∧ Kept F w w' ∧ Sim D F ⟨.o id (.row e sz (es0 ++ es)) :: .sub id .any .any :: σ.log, σ.n⟩ a w' γ' bl' ∧ γ' id = v ∧ v.oneCell' = true := by
 obtain ⟨i, ht, hi, rfl, rfl, hsz⟩ := slInfo_some hT
 obtain ⟨i', z, hi', hzr, hzs, hz1, hzI⟩ := zeroHV_some hz
 obtain rfl : i' = i := by rw [hi] at hi'; exact (Option.some.inj hi').symm
 obtain ⟨hX1, hX2, hX3, hX4, hX5⟩ := hX
 obtain ⟨A, rfl⟩ : ∃ A, V = .slice A es0.length es0.length := by
  cases hV with
  | nil hf hA => exact ⟨_, by rw [hf rfl]; rfl⟩
  | sl f hsz hc hf hb hbl hcell h1 h => exact ⟨_, by rw [hf rfl]⟩
 by_cases h0 : es = []
 ·have he0 : es0 = [] := by rcases hne with h | h; exact h; exact absurd h0 h
  subst h0; subst he0
  have hlo : (Builtin.lenOf X).run P w = .ok 0 w := (hX1 w rfl).1
  have hfo : (Builtin.firstCells i'.size 0 X).run P w = .ok #[] w := by
   have := (hX1 w rfl).2
   have hn : news = [] := List.eq_nil_of_length_eq_zero (by simpa using hX2)
   subst hn
   exact this
  have hrun : (Builtin.append_ #[t, u] ty #[.slice A 0 0, X]).run P w = .ok (.slice A 0 0) w := by
   cases A with
   | none => exact run_append_none' ht hi hu hd hlo hfo
   | some ad =>
    have hzz : (match d2 with | .int _ => true | _ => false) = false := by cases d2 <;> first | rfl | exact absurd rfl (hd _)
    simp [Builtin.append_, run_underlying ht, run_underlying hu, hzz, sizeOf, typeInfo, hi, hlo, hfo, storeCells]
  refine ⟨_, w, upd γ id (.slice A 0 0), upd bl id none, hrun, Kept.refl _ _, ?_, upd_same .., rfl⟩
  refine S.lay (Nat.le_refl _) (fun _ _ _ => rfl) (fun b hb => by cases hb) (fun hS hI => ?_)
  exact ⟨hsz, by simp, .inl ⟨rfl, ⟨A, upd_same ..⟩, upd_same ..⟩⟩
 ·have hpos : 0 < es.length := List.length_pos_iff.2 h0
  obtain ⟨olds, ho1, ho2, ho3, ho4, ho5⟩ := src_sl (P := P) hV i'.size (hsz0.imp (fun h => h) Eq.symm) hsz
  have hr := run_append_grow' (ty := ty) ht hi hzr hu hd (A := A) (n := es0.length) (m := es.length) (cap := es0.length) (hX1 w rfl).1 (hX1 w.drew rfl).2 (ho1 w.drew rfl).2 (by omega) hm hb
  have hS' := S.layGrown id (e := e) (es0 := es0) (es := es) (olds := olds) (news := news) (zc := z.cells) (cap := grownCap w (es0.length + es.length) es0.length e) hsz ho4 hX4 ho2 hX2 (by rw [hzs, hzl]) (grownCap_ge w _ _ e)
   (grownCap_le_maxLen w _ _ e (by unfold maxLen; exact hm)) ho3 hX3 hz1 (fun i j x c hx hc => by
    obtain ⟨v, hv, hr⟩ := ho5 i j x c hx hc
    exact ⟨v, hv, .inr hr⟩) hX5
  exact ⟨_, _, _, _, hr, Kept.drewAlloc w _ S.hbw, hS', upd_same .., rfl⟩
end Go.Hv

import Derived.Test.YtcmomegkhoggpaaGreatDoorHv32
import Derived.Sort.Grow
set_option linter.unusedVariables false
set_option linter.unusedSectionVars false
set_option linter.unusedSimpArgs false
/- The shelf's contracts of sorts, as contracts of functions that turn an own row where it lies. -/
namespace Go.Hv
open Go Go.RowKit
variable [GI]
open Go.Sort (putRow putCells Holds grow mapBlock onCells)
variable {P : Program}
theorem putRow_map {α : Type} [Inhabited α] (enc : α → Value) (w : World) (blk off : Nat) (d : Array α) : putRow enc w blk off d = putRow id w blk off (d.map enc) := by
 unfold putRow
 congr 1
 funext c
 unfold putCells
 apply Array.ext_getElem?
 intro k
 simp only [Array.getElem?_mapIdx, Array.size_map]
 cases c[k]? with
 | none => rfl
 | some x =>
  simp only [Option.map_some, Option.some.injEq]
  split
  ·next h =>
   have h1 : k - off < d.size := by omega
   rw [getElem!_pos d _ h1, getElem!_pos (d.map enc) _ (by simpa using h1)]
   simp
  ·rfl
theorem heap_grown (w : World) (n blk : Nat) (V : Array Value) (os : Array Obj) (k : Nat) (hk : k < w.heap.size) : (grow (putRow id (Go.Sort.ahead w n) blk 0 V) os).heap[k]? = if blk = k then (w.heap[k]?).map (onCells (putCells id 0 V)) else w.heap[k]? := by
 simp only [grow, putRow, mapBlock, Go.Sort.ahead]
 rw [Array.getElem?_append_left (by simpa using hk), Array.getElem?_modify]
def RepC (w : World) (dead : Nat → Prop) (sz : Nat) (es : List (List HV)) (V : Array Value) : Prop :=
 ∀ (i j : Nat) (x : List HV) (c : HV), es[i]? = some x → x[j]? = some c → ∃ u, V[i * sz + j]? = some u ∧ IRep w dead c u
theorem SpecS.of_cells {f : FuncId} {e sz : Nat} {es es' : List (List HV)} {xs : List HV} (hl : es'.length = es.length) (hz : ∀ x ∈ es', x.length = sz) (hI' : isILL es' = true)
  (H : ∀ (w : World) (blk cap : Nat) (us V : Array Value) (dead : Nat → Prop), V.size = es.length * sz → (∀ i, i < V.size → w.cell? ⟨blk, i, none⟩ = V[i]? ∧ w.frozen? ⟨blk, i, none⟩ = false) → blk < w.heap.size → es.length ≤ cap → cap ≤ maxLen → (∀ v ∈ V, v.oneCell' = true) → dead blk → RepC w dead sz es V →
   us.size = xs.length → (∀ (j : Nat) (c : HV) (u : Value), xs[j]? = some c → us[j]? = some u → IRep w dead c u) →
   Calls P f (#[.slice (some ⟨blk, 0, none⟩) es.length cap] ++ us) w fun x w' => x = .returned (.tuple #[]) ∧ ∃ n os V', V'.size = V.size ∧ (∀ v ∈ V', v.oneCell' = true) ∧ w' = grow (putRow id (Go.Sort.ahead w n) blk 0 V') os ∧ RepC w dead sz es' V')
  (H0 : ∀ A w us (dead : Nat → Prop), us.size = xs.length → (∀ (j : Nat) (c : HV) (u : Value), xs[j]? = some c → us[j]? = some u → IRep w dead c u) → es = [] → Calls P f (#[.slice A 0 0] ++ us) w fun x w' => x = .returned (.tuple #[]) ∧ w' = w) : SpecS P f e sz es xs es' := by
 intro D w v us ob hD hob hG hone hes hO hus hrep
 obtain ⟨q1, q2, q3⟩ := hO
 rcases q3 with ⟨z1, ⟨A, z2⟩, z3⟩ | ⟨b, cap, C, fr, z1, z2, z3, z4, z5, z6, z7, z8, z9⟩
 ·have z2 : v = .slice A 0 0 := z2
  have z3 : ob = none := z3
  subst z2; subst z3
  refine (H0 A w us _ hus hrep z1).mono ?_
  rintro x w' ⟨rfl, rfl⟩
  obtain rfl : es' = [] := List.eq_nil_of_length_eq_zero (by rw [hl, z1]; rfl)
  exact ⟨rfl, Kept.refl _ _, rfl, q1, by simp, .inl ⟨rfl, ⟨A, rfl⟩, rfl⟩⟩
 ·have z1 : v = .slice (some ⟨b, 0, none⟩) es.length cap := z1
  have z2 : ob = some b := z2
  subst z1; subst z2
  have hbl : b < w.heap.size := lt_of_get z3
  have hle : es.length * sz ≤ C.size := by rw [z7]; exact Nat.mul_le_mul_right _ z5
  let V : Array Value := C.extract 0 (es.length * sz)
  have hVs : V.size = es.length * sz := by simp [V]; omega
  have hVg : ∀ i, i < es.length * sz → V[i]? = C[i]? := fun i hi => by
   simp only [V, Array.getElem?_extract]
   rw [if_pos (by omega)]; simp
  have hV1 : ∀ v ∈ V, v.oneCell' = true := fun v hv => by
   obtain ⟨i, hi, rfl⟩ := Array.mem_iff_getElem.1 hv
   have h1 : V[i]? = some V[i] := Array.getElem?_eq_getElem hi
   rw [hVg i (by omega)] at h1
   exact z8 i _ h1
  have hrow : RepC w (fun b' => D b' ∨ some b = some b') sz es V := fun i j x c hx hc => by
   obtain ⟨u, hu, hr⟩ := z9 i j x c hx hc
   have hi : i * sz + j < es.length * sz := flat_lt (getElem?_lt hx) (by rw [← q2 x (List.mem_of_getElem? hx)]; exact getElem?_lt hc)
   exact ⟨u, by rw [hVg _ hi]; exact hu, hr.toI ((isIL_iff _).1 (List.all_eq_true.1 hes x (List.mem_of_getElem? hx)) c (List.mem_of_getElem? hc))⟩
  refine (H w b cap us V (fun b' => D b' ∨ some b = some b') hVs (fun i hi => ?_) hbl z5 z6 hV1 (.inr rfl) hrow hus hrep).mono ?_
  ·rw [hVs] at hi
   refine ⟨by rw [hVg i hi]; simp [World.cell?, z3], ?_⟩
   have hC : i < C.size := by omega
   have := z4 i hC
   simp only [World.frozen?, z3]
   simp only [Bool.and_eq_false_iff, decide_eq_false_iff_not]
   omega
  rintro x w' ⟨rfl, n, os, V', k1, k2, rfl, k3⟩
  have hsz : w.heap.size ≤ (grow (putRow id (Go.Sort.ahead w n) b 0 V') os).heap.size := by simp [grow, putRow, mapBlock, Go.Sort.ahead]
  have hkeep : ∀ k, k < w.heap.size → k ≠ b → (grow (putRow id (Go.Sort.ahead w n) b 0 V') os).heap[k]? = w.heap[k]? := fun k hk hne => by
   rw [heap_grown w n b V' os k hk, if_neg (fun h => hne h.symm)]
  have hnew : (grow (putRow id (Go.Sort.ahead w n) b 0 V') os).heap[b]? = some (.cells (putCells id 0 V' C) e fr) := by
   rw [heap_grown w n b V' os b hbl, if_pos rfl, z3]; rfl
  have hpg : ∀ i, i < V'.size → (putCells id 0 V' C)[i]? = V'[i]? := fun i hi => by
   unfold putCells
   rw [Array.getElem?_mapIdx, Array.getElem?_eq_getElem (show i < C.size by omega)]
   simp only [Option.map_some]
   rw [if_pos (by omega), Nat.sub_zero, getElem!_pos V' i hi, Array.getElem?_eq_getElem hi]; rfl
  refine ⟨rfl, ⟨rfl, rfl, rfl, hsz, fun k hk => hkeep k hk.1 (fun h => hk.2 (by rw [h]))⟩, hI', q1, hz, .inr ⟨b, cap, putCells id 0 V' C, fr, by show Value.slice _ _ _ = _; rw [hl], rfl, hnew, ?_, by omega, z6, ?_, ?_, ?_⟩⟩
  ·intro i hi; exact z4 i (by simpa [putCells] using hi)
  ·simpa [putCells] using z7
  ·intro j u hu
   by_cases hj : j < V'.size
   ·rw [hpg j hj] at hu; exact k2 u (Array.mem_of_getElem? hu)
   ·unfold putCells at hu
    rw [Array.getElem?_mapIdx] at hu
    cases hc : C[j]? with
    | none => rw [hc] at hu; cases hu
    | some y =>
     rw [hc] at hu
     simp only [Option.map_some] at hu
     rw [if_neg (by omega)] at hu
     cases hu
     exact z8 j _ hc
  ·intro i j x c hx hc
   obtain ⟨u, hu, hr⟩ := k3 i j x c hx hc
   have hi : i * sz + j < es'.length * sz := flat_lt (getElem?_lt hx) (by rw [← hz x (List.mem_of_getElem? hx)]; exact getElem?_lt hc)
   refine ⟨u, by rw [hpg _ (by rw [k1, hVs, ← hl]; exact hi)]; exact hu, .imm (hr.mono hsz (fun k hk hnd => hkeep k hk (fun h => hnd (.inr (by rw [h])))) (fun _ _ h => h))⟩
end Go.Hv

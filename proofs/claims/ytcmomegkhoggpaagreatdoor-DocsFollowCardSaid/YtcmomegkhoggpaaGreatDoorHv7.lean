import Derived.Test.YtcmomegkhoggpaaGreatDoorHv6
set_option linter.unusedVariables false
set_option linter.unusedSectionVars false
set_option linter.unusedSimpArgs false
namespace Go.Hv
open Go Go.RowKit
variable [GI]
variable {P : Program} {D : Nat → Prop} {F : Nat → Prop} {σ : HS} {a : Act} {w : World} {γ : Nat → Value} {bl : Nat → Option Nat}

def bytesHV (l : List UInt8) : List (List HV) := l.map fun b => [.lit (.int .u8 (b.toNat : Int))]

def Src (P : Program) (w : World) (dead : Nat → Prop) (sz : Nat) (es : List (List HV)) (X : Value) (news : List Value) : Prop :=
 (∀ w' : World, w'.heap = w.heap → (Builtin.lenOf X).run P w' = .ok es.length w' ∧ (Builtin.firstCells sz es.length X).run P w' = .ok news.toArray w') ∧
 news.length = es.length * sz ∧ (∀ v ∈ news, v.oneCell' = true) ∧ (∀ x ∈ es, x.length = sz) ∧
 ∀ (i j : Nat) (x : List HV) (c : HV), es[i]? = some x → x[j]? = some c → ∃ v, news[i * sz + j]? = some v ∧ IRep w dead c v

theorem cell_of_heap {w w' : World} (h : w'.heap = w.heap) (x : Addr) : w'.cell? x = w.cell? x := by simp [World.cell?, h]

theorem divmod_idx {i j sz : Nat} (h : j < sz) : (i * sz + j) / sz = i ∧ (i * sz + j) % sz = j := by
 constructor
 ·rw [Nat.mul_comm, Nat.mul_add_div (by omega), Nat.div_eq_of_lt h]; rfl
 ·rw [Nat.mul_comm, Nat.mul_add_mod, Nat.mod_eq_of_lt h]

theorem src_sl {sz full es X} {dead : Nat → Prop} (r : IRep w dead (.sl sz full es) X) (sz' : Nat) (hz : es = [] ∨ sz' = sz) (hz' : 0 < sz') : ∃ news, Src P w dead sz' es X news := by
 cases r with
 | @nil _ _ A cap hf hA =>
  refine ⟨[], fun w' h => ⟨rfl, ?_⟩, by simp, by simp, by simp, by simp⟩
  cases A with
  | none => rfl
  | some a => simp [Builtin.firstCells, loadCells, loadCellsFrom]
 | @sl _ _ _ cap b off f hsz hc hf hb hbl hcell h1 h =>
  by_cases he : es = []
  ·subst he
   refine ⟨[], fun w' h => ⟨rfl, ?_⟩, by simp, by simp, by simp, by simp⟩
   simp [Builtin.firstCells, loadCells, loadCellsFrom]
  ·obtain rfl : sz' = sz := by rcases hz with h | h; exact absurd h he; exact h
   refine ⟨(List.range (es.length * sz')).map (fun k => f (k / sz') (k % sz')), fun w' hw => ⟨rfl, ?_⟩, by simp, fun v hv => ?_, hsz, fun i j x c hx hc' => ?_⟩
   ·simp only [Builtin.firstCells]
    rw [run_loadCells w' ⟨b, off, none⟩ (es.length * sz') (fun k => f (k / sz') (k % sz')) (fun k hk => ?_)]
    rw [cell_of_heap hw, add_at]
    have h1 : k / sz' < es.length := Nat.div_lt_of_lt_mul (by rwa [Nat.mul_comm])
    have h2 : k % sz' < sz' := Nat.mod_lt _ hz'
    have := hcell (k / sz') (k % sz') h1 h2
    rwa [show k / sz' * sz' + k % sz' = k by rw [Nat.mul_comm]; exact Nat.div_add_mod k sz'] at this
   ·simp only [List.mem_map, List.mem_range] at hv
    obtain ⟨k, hk, rfl⟩ := hv
    exact h1 _ _ (Nat.div_lt_of_lt_mul (by rwa [Nat.mul_comm])) (Nat.mod_lt _ hz')
   ·have hi : i < es.length := by
     rcases Nat.lt_or_ge i es.length with h' | h'
     ·exact h'
     ·simp [List.getElem?_eq_none h'] at hx
    have hj : j < sz' := by
     have := hsz x (List.mem_of_getElem? hx)
     rcases Nat.lt_or_ge j x.length with h' | h'
     ·omega
     ·simp [List.getElem?_eq_none h'] at hc'
    obtain ⟨d1, d2⟩ := divmod_idx (i := i) hj
    have hlt : i * sz' + j < es.length * sz' := by
     have := Nat.mul_le_mul_right sz' (show i + 1 ≤ es.length from hi)
     rw [Nat.add_mul, Nat.one_mul] at this
     omega
    refine ⟨f i j, ?_, h i j x c hx hc'⟩
    rw [List.getElem?_map, List.getElem?_range hlt]
    simp [d1, d2]

theorem src_str (l : List UInt8) (dead : Nat → Prop) : ∃ news, Src P w dead 1 (bytesHV l) (.string ⟨l.toArray⟩) news := by
 refine ⟨l.map fun b => .int .u8 (b.toNat : Int), fun w' h => ⟨by simp [Builtin.lenOf, bytesHV, ByteArray.size], ?_⟩, by simp [bytesHV], by simp [Value.oneCell'], by simp [bytesHV], fun i j x c hx hc => ?_⟩
 ·have e : (⟨l.toArray⟩ : ByteArray).extract 0 l.length = ⟨l.toArray⟩ := by
   apply ByteArray.ext
   simp
  simp only [Builtin.firstCells, bytesHV, List.length_map, e]
  simp
 ·simp only [bytesHV, List.getElem?_map] at hx
  cases hi : l[i]? with
  | none => simp [hi] at hx
  | some b =>
   simp only [hi, Option.map_some, Option.some.injEq] at hx
   subst hx
   cases j with
   | zero => simp at hc; subst hc; exact ⟨_, by simp [hi], .lit _⟩
   | succ j => simp at hc

section
variable {t u ty e : TypeId} {i : TypeInfo} {z : Value} {d2 : TypeDesc}
theorem run_append_in' (ht : P.underlying t = some (.slice e)) (hi : P.info? e = some i) (hu : P.underlying u = some d2) (hd : ∀ k, d2 ≠ .int k)
  {b off n m cap : Nat} {X : Value} {news : List Value} (hX : (Builtin.lenOf X).run P w = .ok m w) (hf : (Builtin.firstCells i.size m X).run P w = .ok news.toArray w)
  (h : n + m ≤ cap) {w' : World} (hst : (storeCells ⟨b, off + n * i.size, none⟩ news).run P w = .ok () w') :
  (Builtin.append_ #[t, u] ty #[.slice (some ⟨b, off, none⟩) n cap, X]).run P w = .ok (.slice (some ⟨b, off, none⟩) (n + m) cap) w' := by
 have hz : (match d2 with | .int _ => true | _ => false) = false := by cases d2 <;> first | rfl | exact absurd rfl (hd _)
 simp [Builtin.append_, run_underlying ht, run_underlying hu, hz, sizeOf, typeInfo, hi, hX, hf, h, add_at, hst]

theorem run_append_none' (ht : P.underlying t = some (.slice e)) (hi : P.info? e = some i) (hu : P.underlying u = some d2) (hd : ∀ k, d2 ≠ .int k)
  {X : Value} (hX : (Builtin.lenOf X).run P w = .ok 0 w) (hf : (Builtin.firstCells i.size 0 X).run P w = .ok #[] w) :
  (Builtin.append_ #[t, u] ty #[.slice none 0 0, X]).run P w = .ok (.slice none 0 0) w := by
 have hz : (match d2 with | .int _ => true | _ => false) = false := by cases d2 <;> first | rfl | exact absurd rfl (hd _)
 simp [Builtin.append_, run_underlying ht, run_underlying hu, hz, sizeOf, typeInfo, hi, hX, hf]

theorem run_append_grow' (ht : P.underlying t = some (.slice e)) (hi : P.info? e = some i) (hzr : i.zero = some z) (hu : P.underlying u = some d2) (hd : ∀ k, d2 ≠ .int k)
  {A : Option Addr} {n m cap : Nat} {X : Value} {olds news : List Value} (hX : (Builtin.lenOf X).run P w = .ok m w) (hf : (Builtin.firstCells i.size m X).run P w.drew = .ok news.toArray w.drew)
  (ho : (Builtin.firstCells i.size n (.slice A n cap)).run P w.drew = .ok olds.toArray w.drew)
  (h : cap < n + m) (h63 : n + m ≤ 9223372036854775807) (hfit : (n + m) * i.bytes ≤ 140737488355328) :
  (Builtin.append_ #[t, u] ty #[.slice A n cap, X]).run P w = .ok (.slice (some ⟨w.heap.size, 0, none⟩) (n + m) (grownCap w (n + m) cap e))
   (w.drew.alloc (.cells (olds.toArray ++ news.toArray ++ Builtin.zeroCells z.cells (grownCap w (n + m) cap e - (n + m))) e)) := by
 have hz : (match d2 with | .int _ => true | _ => false) = false := by cases d2 <;> first | rfl | exact absurd rfl (hd _)
 have hn : ¬ (n + m ≤ cap) := by omega
 have h63' : ¬ (9223372036854775807 < ((n : Int) + (m : Int))) := by omega
 have h48' : ¬ (281474976710656 < Builtin.nextslicecap (n + m) cap * i.bytes) := by have := growslice_fits h hfit; omega
 simp [Builtin.append_, run_underlying ht, run_underlying hu, hz, sizeOf, typeInfo, zeroValue, hi, hzr, hX, hn, h63', h48', Question.forced, hf, ho, newRow, grownCap]
 congr 2
 apply Array.ext'
 simp [List.append_assoc]
end
end Go.Hv

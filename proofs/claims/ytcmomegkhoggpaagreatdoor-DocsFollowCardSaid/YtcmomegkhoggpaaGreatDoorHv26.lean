import Derived.Test.YtcmomegkhoggpaaGreatDoorHv20
import Derived.ChangeArms
set_option linter.unusedVariables false
set_option linter.unusedSectionVars false
set_option linter.unusedSimpArgs false
namespace Go.Hv
open Go Go.RowKit
variable [GI]
/-! ### Arguments that are read -/
inductive ShT where
 | int (k : IntKind)
 | bool
 | str
 | sl (sz : Nat) (e : ShT)
 | st (fs : List ShT)
mutual
def shOK (P : Program) (s : ShT) (t : TypeId) : Bool :=
 match s with
 | .int k => match P.underlying t with
  | some (.int k') => decide (k' = k)
  | _ => false
 | .bool => match P.underlying t with
  | some .bool => true
  | _ => false
 | .str => match P.underlying t with
  | some .string => true
  | _ => false
 | .sl sz e => match P.underlying t with
  | some (.slice et) => P.cellsOf et == sz && decide (0 < sz) && shOK P e et
  | _ => false
 | .st fs => match P.underlying t with
  | some (.struct gs) => shOKs P fs gs.toList 0 (P.cellsOf t)
  | _ => false
  termination_by structural s
def shOKs (P : Program) (fs : List ShT) (gs : List Field) (off total : Nat) : Bool :=
 match fs with
 | [] => gs.isEmpty && off == total
 | f :: r => match gs with
  | g :: q => g.offset == off && shOK P f g.type && shOKs P r q (off + P.cellsOf g.type) total
  | [] => false
  termination_by structural fs
end
mutual
inductive Rd (B : Nat) : ShT → List HV → Prop
 | int (k : IntKind) (n : Int) (hw : (Lit.int k n).wf = true) : Rd B (.int k) [.lit (.int k n)]
 | bool (b : Bool) : Rd B .bool [.lit (.bool b)]
 | str (l : List UInt8) (hl : l.length ≤ B) : Rd B .str [.str l]
 | nil (sz : Nat) (e : ShT) : Rd B (.sl sz e) [.sl 0 true []]
 | sl (sz : Nat) (e : ShT) (es : List (List HV)) (hl : es.length ≤ B) (hz : ∀ x ∈ es, x.length = sz) (h : ∀ x ∈ es, Rd B e x) : Rd B (.sl sz e) [.sl sz false es]
 | st (fs : List ShT) (hs : List HV) (h : RdL B fs hs) : Rd B (.st fs) hs
inductive RdL (B : Nat) : List ShT → List HV → Prop
 | nil : RdL B [] []
 | cons {f : ShT} {r : List ShT} {h hs : List HV} (h1 : Rd B f h) (h2 : RdL B r hs) : RdL B (f :: r) (h ++ hs)
end
mutual
def bulkD {H : Type} : DataW H → Nat
 | .lit (.string bytes) => bytes.length + 1
 | .lit _ => 1
 | .nil => 1
 | .ptr d => bulkD d + 1
 | .slice elems spare => bulkA elems + bulkA spare + 1
 | .agg parts => bulkA parts + 1
 | .iface _ d => bulkD d + 1
 | .map _ => 1
 | .held _ => 1
def bulkA {H : Type} : List (DataW H) → Nat
 | [] => 0
 | d :: r => bulkD d + bulkA r
end
theorem bulkD_pos {H : Type} (d : DataW H) : 1 ≤ bulkD d := by
 cases d with
 | lit l => cases l <;> simp [bulkD]
 | _ => simp [bulkD]
theorem bulkA_mem {H : Type} {l : List (DataW H)} {d : DataW H} (h : d ∈ l) : bulkD d ≤ bulkA l := by
 induction l with
 | nil => cases h
 | cons x r ih =>
  simp only [bulkA]
  rcases List.mem_cons.1 h with rfl | h
  ·omega
  ·have := ih h; omega
theorem bulkA_len {H : Type} (l : List (DataW H)) : l.length ≤ bulkA l := by
 induction l with
 | nil => simp [bulkA]
 | cons x r ih => have := bulkD_pos x; simp only [bulkA, List.length_cons]; omega

theorem Reps.append {w : World} {dead : Nat → Prop} {h1 h2 : List HV} {v1 v2 : List Value} (a : Reps w dead h1 v1) (b : Reps w dead h2 v2) : Reps w dead (h1 ++ h2) (v1 ++ v2) := by
 induction a with
 | nil => exact b
 | cons x y ih => exact .cons x ih
theorem Reps.length {w : World} {dead : Nat → Prop} {hs : List HV} {vs : List Value} (a : Reps w dead hs vs) : hs.length = vs.length := by
 induction a with
 | nil => rfl
 | cons x y ih => simp [ih]
theorem Reps.get {w : World} {dead : Nat → Prop} {hs : List HV} {vs : List Value} (a : Reps w dead hs vs) : ∀ (j : Nat) (c : HV) (v : Value), hs[j]? = some c → vs[j]? = some v → IRep w dead c v := by
 induction a with
 | nil => intro j c v h; simp at h
 | cons h1 h2 ih =>
  intro j c v hc hv
  cases j with
  | zero => simp at hc hv; subst hc; subst hv; exact h1
  | succ j => exact ih j c v (by simpa using hc) (by simpa using hv)
theorem list_choice {α : Type} {p : Nat → α → Prop} : ∀ n, (∀ i, i < n → ∃ x, p i x) → ∃ l : List α, l.length = n ∧ ∀ i x, l[i]? = some x → p i x
 | 0, _ => ⟨[], rfl, fun i x h => by simp at h⟩
 | n + 1, h => by
  obtain ⟨l, hl, hp⟩ := list_choice n (fun i hi => h i (by omega))
  obtain ⟨x, hx⟩ := h n (by omega)
  refine ⟨l ++ [x], by simp [hl], fun i y hy => ?_⟩
  rcases Nat.lt_or_ge i l.length with hlt | hge
  ·rw [List.getElem?_append_left hlt] at hy; exact hp i y hy
  ·rw [List.getElem?_append_right hge] at hy
   have : i = l.length := by
    rcases Nat.eq_or_lt_of_le hge with e | e
    ·exact e.symm
    ·rw [List.getElem?_eq_none (by simp; omega)] at hy; cases hy
   subst this
   simp at hy
   subst hy
   rw [hl]; exact hx
theorem add_of_none {b off n : Nat} : (⟨b, off, none⟩ : Addr).add n = ⟨b, off + n, none⟩ := by
 unfold Addr.add; split
 ·next h => subst h; rfl
 ·rfl
theorem cells?_get {w : World} {b off n : Nat} {cs : List Value} (h : w.cells? 0 ⟨b, off, none⟩ n = some cs) : cs.length = n ∧ ∀ j, j < n → w.cell? ⟨b, off + j, none⟩ = cs[j]? := by
 unfold World.cells? at h
 rw [if_pos (Nat.zero_le _)] at h
 have hl := mapM_some_length h
 refine ⟨by simpa using hl, fun j hj => ?_⟩
 have := mapM_some_get h j j (by simp [hj])
 rw [add_of_none] at this
 exact this
theorem spot_none {w : World} {a : Addr} {v : Value} (h : w.cell? a = some v) : a = ⟨a.block, a.off, none⟩ ∧ a.block < w.heap.size := by
 unfold World.cell? at h
 split at h
 ·next c e f hb =>
  have hlt : a.block < w.heap.size := by
   rcases Nat.lt_or_ge a.block w.heap.size with h' | h'
   ·exact h'
   ·simp [Array.getElem?_eq_none h'] at hb
  obtain ⟨b, o, s⟩ := a
  cases s with
  | none => exact ⟨rfl, hlt⟩
  | some x => simp at h
 ·cases h

variable {H : Type} {enc : TypeId × Value → H} {P : Program} {w : World} {sp : Nat → Bool} {held : Bool} {B : Nat}
mutual
theorem rd_of_trod (s : ShT) : ∀ (fuel : Nat) (t : TypeId) (cs : List Value) (x : DataW H × List MemPlace), shOK P s t = true → DataW.trod enc P w 0 sp held fuel t cs = some x → bulkD x.1 ≤ B →
  ∃ hs, Rd B s hs ∧ Reps w (fun _ => False) hs cs ∧ ∀ v ∈ cs, v.oneCell' = true := by
 intro fuel t cs x hk h hB
 cases s with
 | int k =>
  simp only [shOK] at hk
  split at hk
  ·next k' ht =>
   simp only [decide_eq_true_eq] at hk
   subst hk
   obtain ⟨n, rfl, rfl, hw⟩ := DataW.trod_int ht h
   exact ⟨_, .int _ n hw, .cons (.lit _) .nil, by simp [Value.oneCell']⟩
  ·cases hk
 | bool =>
  simp only [shOK] at hk
  split at hk
  ·next ht =>
   obtain ⟨b, rfl, rfl⟩ := DataW.trod_bool ht h
   exact ⟨_, .bool b, .cons (.lit _) .nil, by simp [Value.oneCell']⟩
  ·cases hk
 | str =>
  simp only [shOK] at hk
  split at hk
  ·next ht =>
   obtain ⟨s, rfl, rfl, hm⟩ := DataW.trod_string ht h
   simp only [bulkD] at hB
   exact ⟨_, .str s.data.toList (by omega), .cons (irep_string _ _ s) .nil, by simp [Value.oneCell']⟩
  ·cases hk
 | sl sz e =>
  simp only [shOK] at hk
  split at hk
  ·next et ht =>
   simp only [Bool.and_eq_true, beq_iff_eq, decide_eq_true_eq] at hk
   obtain ⟨⟨hsz, hpos⟩, he⟩ := hk
   rcases DataW.trod_slice ht h with ⟨rfl, rfl⟩ | ⟨a, len, cap, elems, rest, n, rfl, rfl, rfl, _, hlc, hcm, hlen, hel, _, _⟩
   ·exact ⟨_, .nil sz e, .cons (.nil (fun _ => rfl) (fun _ => rfl)) .nil, by simp [Value.oneCell']⟩
   ·simp only [bulkD] at hB
    have hlb := bulkA_len (elems.map (·.1))
    simp only [List.length_map] at hlb
    have hx : ∀ i, i < len → ∃ xs : List HV, ∃ cs : List Value, w.cells? 0 (a.add (i * sz)) sz = some cs ∧ Rd B e xs ∧ Reps w (fun _ => False) xs cs ∧ ∀ v ∈ cs, v.oneCell' = true := by
     intro i hi
     have := hel i hi
     rw [hsz] at this
     cases hc : w.cells? 0 (a.add (i * sz)) sz with
     | none =>
      rw [hc] at this
      simp only [Option.bind_none] at this
      have hi' : i < elems.length := by omega
      rw [List.getElem?_eq_getElem hi'] at this
      cases this
     | some cs =>
      rw [hc] at this
      simp only [Option.bind_some] at this
      have hi' : i < elems.length := by omega
      rw [List.getElem?_eq_getElem hi'] at this
      have hb : bulkD (elems[i]).1 ≤ bulkA (elems.map (·.1)) := bulkA_mem (List.mem_map.2 ⟨_, List.getElem_mem hi', rfl⟩)
      obtain ⟨hs, h1, h2, h3⟩ := rd_of_trod e n et cs _ he this (by omega)
      exact ⟨hs, cs, rfl, h1, h2, h3⟩
    obtain ⟨es, hes, hp⟩ := list_choice (p := fun i xs => ∃ cs : List Value, w.cells? 0 (a.add (i * sz)) sz = some cs ∧ Rd B e xs ∧ Reps w (fun _ => False) xs cs ∧ ∀ v ∈ cs, v.oneCell' = true) len hx
    rcases Nat.eq_zero_or_pos len with h0 | h0
    ·subst h0
     have : es = [] := List.eq_nil_of_length_eq_zero hes
     subst this
     exact ⟨_, .sl sz e [] (Nat.zero_le _) (by simp) (by simp), .cons (.nil (fun h => by cases h) (fun h => by cases h)) .nil, by simp [Value.oneCell']⟩
    ·have hsp : a = ⟨a.block, a.off, none⟩ ∧ a.block < w.heap.size := by
      obtain ⟨xs, cs, hc, _⟩ := hx 0 h0
      rw [Nat.zero_mul] at hc
      unfold World.cells? at hc
      rw [if_pos (Nat.zero_le _)] at hc
      have h1 := mapM_some_length hc
      have h2 := mapM_some_get hc 0 0 (by simp [hpos])
      have hl : 0 < cs.length := by rw [h1]; simpa using hpos
      rw [List.getElem?_eq_getElem hl] at h2
      exact spot_none (by simpa [Addr.add] using h2)
     obtain ⟨hae, hbl⟩ := hsp
     have each : ∀ i xs, es[i]? = some xs → ∃ cs : List Value, cs.length = sz ∧ (∀ j, j < sz → w.cell? ⟨a.block, a.off + (i * sz + j), none⟩ = cs[j]?) ∧ Rd B e xs ∧ Reps w (fun _ => False) xs cs ∧ ∀ v ∈ cs, v.oneCell' = true := by
      intro i xs hi
      obtain ⟨cs, hc, h1, h2, h3⟩ := hp i xs hi
      rw [hae, add_of_none] at hc
      obtain ⟨q1, q2⟩ := cells?_get hc
      exact ⟨cs, q1, fun j hj => by rw [← q2 j hj, Nat.add_assoc], h1, h2, h3⟩
     have hmem : ∀ x ∈ es, ∃ i, es[i]? = some x := fun x hx => List.mem_iff_getElem?.1 hx
     refine ⟨[.sl sz false es], .sl sz e es (by omega) (fun x hx => ?_) (fun x hx => ?_), .cons ?_ .nil, by simp [Value.oneCell']⟩
     ·obtain ⟨i, hi⟩ := hmem x hx
      obtain ⟨cs, h1, _, _, h2, _⟩ := each i x hi
      rw [h2.length, h1]
     ·obtain ⟨i, hi⟩ := hmem x hx
      obtain ⟨cs, _, _, h2, _⟩ := each i x hi
      exact h2
     ·rw [hae, ← hes]
      refine .sl (fun i j => (w.cell? ⟨a.block, a.off + (i * sz + j), none⟩).getD undef) (fun x hx => ?_) (by omega) (fun h => by cases h) (fun h => h) hbl (fun i j hi hj => ?_) (fun i j hi hj => ?_) (fun i j x c hi hc => ?_)
      ·obtain ⟨i, hi⟩ := hmem x hx
       obtain ⟨cs, h1, _, _, h2, _⟩ := each i x hi
       rw [h2.length, h1]
      ·obtain ⟨cs, h1, h2, _⟩ := each i es[i] (List.getElem?_eq_getElem hi)
       rw [h2 j hj, List.getElem?_eq_getElem (by omega)]; rfl
      ·obtain ⟨cs, h1, h2, _, _, h3⟩ := each i es[i] (List.getElem?_eq_getElem hi)
       rw [h2 j hj, List.getElem?_eq_getElem (by omega)]
       exact h3 _ (List.getElem_mem _)
      ·obtain ⟨cs, h1, h2, _, h4, _⟩ := each i x hi
       have hj : j < sz := by
        have := (List.getElem?_eq_some_iff.1 hc).1
        rw [h4.length, h1] at this; exact this
       rw [h2 j hj]
       have hv : cs[j]? = some (cs[j]'(by omega)) := List.getElem?_eq_getElem (by omega)
       rw [hv]
       exact h4.get j c _ hc hv
  ·cases hk
 | st fs =>
  simp only [shOK] at hk
  split at hk
  ·next gs ht =>
   obtain ⟨xs, n, rfl, rfl, hl, hxl, hx⟩ := DataW.trod_struct ht h
   simp only [bulkD] at hB
   obtain ⟨hs, h1, h2, h3⟩ := rds_of_trod fs n gs.toList 0 cs (by rw [hl]; exact hk) (fun i f hf => by
    have hf' : gs[i]? = some f := by simpa using hf
    have := hx i f hf'
    have hi : i < xs.length := by rw [hxl]; exact (Array.getElem?_eq_some_iff.1 hf').1
    rw [List.getElem?_eq_getElem hi] at this
    exact ⟨_, this, by have := bulkA_mem (l := xs.map (·.1)) (d := (xs[i]).1) (List.mem_map.2 ⟨_, List.getElem_mem hi, rfl⟩); omega⟩)
   exact ⟨hs, .st fs hs h1, by simpa using h2, by simpa using h3⟩
  ·cases hk
  termination_by structural s
theorem rds_of_trod (fs : List ShT) : ∀ (n : Nat) (gs : List Field) (off : Nat) (cs : List Value), shOKs P fs gs off cs.length = true →
  (∀ (i : Nat) (f : Field), gs[i]? = some f → ∃ x : DataW H × List MemPlace, DataW.trod enc P w 0 sp held n f.type ((cs.drop f.offset).take (P.cellsOf f.type)) = some x ∧ bulkD x.1 ≤ B) →
  ∃ hs, RdL B fs hs ∧ Reps w (fun _ => False) hs (cs.drop off) ∧ ∀ v ∈ cs.drop off, v.oneCell' = true := by
 intro n gs off cs hk hx
 cases fs with
 | nil =>
  simp only [shOKs, Bool.and_eq_true, beq_iff_eq] at hk
  rw [hk.2, List.drop_length]
  exact ⟨[], .nil, .nil, by simp⟩
 | cons f r =>
  simp only [shOKs] at hk
  cases gs with
  | nil => simp at hk
  | cons g q =>
   simp only [Bool.and_eq_true, beq_iff_eq] at hk
   obtain ⟨⟨h1, h2⟩, h3⟩ := hk
   obtain ⟨x, hx0, hb0⟩ := hx 0 g rfl
   rw [h1] at hx0
   obtain ⟨hs1, p1, p2, p3⟩ := rd_of_trod f n g.type _ x h2 hx0 hb0
   obtain ⟨hs2, q1, q2, q3⟩ := rds_of_trod r n q (off + P.cellsOf g.type) cs h3 (fun i f' hf' => hx (i + 1) f' (by simpa using hf'))
   have e : cs.drop off = (cs.drop off).take (P.cellsOf g.type) ++ cs.drop (off + P.cellsOf g.type) := by
    rw [← List.drop_drop, List.take_append_drop]
   rw [e]
   refine ⟨hs1 ++ hs2, .cons p1 q1, p2.append q2, fun v hv => ?_⟩
   rcases List.mem_append.1 hv with hv | hv
   ·exact p3 v hv
   ·exact q3 v hv
  termination_by structural fs
end
end Go.Hv

import Derived.Test.YtcmomegkhoggpaaGreatDoorHv26
import Derived.SizedLaws
set_option linter.unusedVariables false
set_option linter.unusedSectionVars false
set_option linter.unusedSimpArgs false
/- Arguments that are read, bounded by the form's own reach. -/
namespace Go.Hv
open Go Go.RowKit
variable [GI]
mutual
def shOKW (P : Program) (s : ShT) (t : TypeId) : Bool :=
 match s with
 | .int k => match P.underlying t with
  | some (.int k') => decide (k' = k)
  | _ => false
 | .bool => match P.underlying t with
  | some .bool => true
  | _ => false
 | .str => match P.underlying t with
  | some .string => true
  | _ => false
 | .sl sz e => match P.underlying t with
  | some (.slice et) => P.cellsOf et == sz && decide (0 < sz) && decide (0 < P.bytesOf et) && shOKW P e et
  | _ => false
 | .st fs => match P.underlying t with
  | some (.struct gs) => shOKsW P fs gs.toList 0 (P.cellsOf t)
  | _ => false
  termination_by structural s
def shOKsW (P : Program) (fs : List ShT) (gs : List Field) (off total : Nat) : Bool :=
 match fs with
 | [] => gs.isEmpty && off == total
 | f :: r => match gs with
  | g :: q => g.offset == off && shOKW P f g.type && shOKsW P r q (off + P.cellsOf g.type) total
  | [] => false
  termination_by structural fs
end
mutual
inductive RdF (B : Nat) : ShT → List HV → Prop
 | int (k : IntKind) (n : Int) (hw : (Lit.int k n).wf = true) : RdF B (.int k) [.lit (.int k n)]
 | bool (b : Bool) : RdF B .bool [.lit (.bool b)]
 | str (l : List UInt8) (hl : l.length ≤ B) : RdF B .str [.str l]
 | sl (sz : Nat) (e : ShT) (es : List (List HV)) (hl : es.length ≤ B) (hz : ∀ x ∈ es, x.length = sz) (h : ∀ x ∈ es, RdF B e x) : RdF B (.sl sz e) [.sl sz false es]
 | st (fs : List ShT) (hs : List HV) (h : RdFL B fs hs) : RdF B (.st fs) hs
inductive RdFL (B : Nat) : List ShT → List HV → Prop
 | nil : RdFL B [] []
 | cons {f : ShT} {r : List ShT} {h hs : List HV} (h1 : RdF B f h) (h2 : RdFL B r hs) : RdFL B (f :: r) (h ++ hs)
end
theorem weightsAll_mem {H : Type} {P : Program} {e : TypeId} : ∀ {l : List (DataW H)} {d : DataW H}, d ∈ l → ∀ {n : Nat}, n ∈ d.weights P e → n ∈ DataW.weightsAll P e l
 | x :: r, d, h, n, hn => by
  simp only [DataW.weightsAll, List.mem_append]
  rcases List.mem_cons.1 h with rfl | h
  ·exact .inl hn
  ·exact .inr (weightsAll_mem h hn)
variable {H : Type} {enc : TypeId × Value → H} {P : Program} {w : World} {sp : Nat → Bool} {held : Bool} {B : Nat}
mutual
theorem rd_of_trodW (s : ShT) : ∀ (fuel : Nat) (t : TypeId) (cs : List Value) (x : DataW H × List MemPlace), shOKW P s t = true → DataW.trod enc P w 0 sp held fuel t cs = some x → (∀ n ∈ x.1.weights P t, n ≤ B) →
  ∃ hs, RdF B s hs ∧ Reps w (fun _ => False) hs cs ∧ ∀ v ∈ cs, v.oneCell' = true := by
 intro fuel t cs x hk h hB
 cases s with
 | int k =>
  simp only [shOKW] at hk
  split at hk
  ·next k' ht =>
   simp only [decide_eq_true_eq] at hk
   subst hk
   obtain ⟨n, rfl, rfl, hw⟩ := DataW.trod_int ht h
   exact ⟨_, .int _ n hw, .cons (.lit _) .nil, by simp [Value.oneCell']⟩
  ·cases hk
 | bool =>
  simp only [shOKW] at hk
  split at hk
  ·next ht =>
   obtain ⟨b, rfl, rfl⟩ := DataW.trod_bool ht h
   exact ⟨_, .bool b, .cons (.lit _) .nil, by simp [Value.oneCell']⟩
  ·cases hk
 | str =>
  simp only [shOKW] at hk
  split at hk
  ·next ht =>
   obtain ⟨s, rfl, rfl, hm⟩ := DataW.trod_string ht h
   exact ⟨_, .str s.data.toList (hB _ (by simp [DataW.weights])), .cons (irep_string _ _ s) .nil, by simp [Value.oneCell']⟩
  ·cases hk
 | sl sz e =>
  simp only [shOKW] at hk
  split at hk
  ·next et ht =>
   simp only [Bool.and_eq_true, beq_iff_eq, decide_eq_true_eq] at hk
   obtain ⟨⟨⟨hsz, hpos⟩, hby⟩, he⟩ := hk
   rcases DataW.trod_slice ht h with ⟨rfl, rfl⟩ | ⟨a, len, cap, elems, rest, n, rfl, rfl, rfl, _, hlc, hcm, hlen, hel, _, _⟩
   ·exact ⟨_, .sl sz e [] (Nat.zero_le _) (by simp) (by simp), .cons (.nil (fun h => by cases h) (fun _ => rfl)) .nil, by simp [Value.oneCell']⟩
   ·simp only [DataW.weights, ht] at hB
    have hlb : elems.length ≤ B := by
     have := hB _ (List.mem_cons_self ..)
     simp only [List.length_map] at this
     have h2 : elems.length * 1 ≤ (elems.length + rest.length) * P.bytesOf et := Nat.mul_le_mul (Nat.le_add_right _ _) hby
     omega
    have hx : ∀ i, i < len → ∃ xs : List HV, ∃ cs : List Value, w.cells? 0 (a.add (i * sz)) sz = some cs ∧ RdF B e xs ∧ Reps w (fun _ => False) xs cs ∧ ∀ v ∈ cs, v.oneCell' = true := by
     intro i hi
     have := hel i hi
     rw [hsz] at this
     cases hc : w.cells? 0 (a.add (i * sz)) sz with
     | none =>
      rw [hc] at this
      simp only [Option.bind_none] at this
      have hi' : i < elems.length := by omega
      rw [List.getElem?_eq_getElem hi'] at this
      cases this
     | some cs =>
      rw [hc] at this
      simp only [Option.bind_some] at this
      have hi' : i < elems.length := by omega
      rw [List.getElem?_eq_getElem hi'] at this
      have hb : ∀ n ∈ (elems[i]).1.weights P et, n ≤ B := fun n hn => hB n (List.mem_cons_of_mem _ (List.mem_append_left _ (weightsAll_mem (List.mem_map.2 ⟨_, List.getElem_mem hi', rfl⟩) hn)))
      obtain ⟨hs, h1, h2, h3⟩ := rd_of_trodW e n et cs _ he this hb
      exact ⟨hs, cs, rfl, h1, h2, h3⟩
    obtain ⟨es, hes, hp⟩ := list_choice (p := fun i xs => ∃ cs : List Value, w.cells? 0 (a.add (i * sz)) sz = some cs ∧ RdF B e xs ∧ Reps w (fun _ => False) xs cs ∧ ∀ v ∈ cs, v.oneCell' = true) len hx
    rcases Nat.eq_zero_or_pos len with h0 | h0
    ·subst h0
     have : es = [] := List.eq_nil_of_length_eq_zero hes
     subst this
     exact ⟨_, .sl sz e [] (Nat.zero_le _) (by simp) (by simp), .cons (.nil (fun h => by cases h) (fun h => by cases h)) .nil, by simp [Value.oneCell']⟩
    ·have hsp : a = ⟨a.block, a.off, none⟩ ∧ a.block < w.heap.size := by
      obtain ⟨xs, cs, hc, _⟩ := hx 0 h0
      rw [Nat.zero_mul] at hc
      unfold World.cells? at hc
      rw [if_pos (Nat.zero_le _)] at hc
      have h1 := mapM_some_length hc
      have h2 := mapM_some_get hc 0 0 (by simp [hpos])
      have hl : 0 < cs.length := by rw [h1]; simpa using hpos
      rw [List.getElem?_eq_getElem hl] at h2
      exact spot_none (by simpa [Addr.add] using h2)
     obtain ⟨hae, hbl⟩ := hsp
     have each : ∀ i xs, es[i]? = some xs → ∃ cs : List Value, cs.length = sz ∧ (∀ j, j < sz → w.cell? ⟨a.block, a.off + (i * sz + j), none⟩ = cs[j]?) ∧ RdF B e xs ∧ Reps w (fun _ => False) xs cs ∧ ∀ v ∈ cs, v.oneCell' = true := by
      intro i xs hi
      obtain ⟨cs, hc, h1, h2, h3⟩ := hp i xs hi
      rw [hae, add_of_none] at hc
      obtain ⟨q1, q2⟩ := cells?_get hc
      exact ⟨cs, q1, fun j hj => by rw [← q2 j hj, Nat.add_assoc], h1, h2, h3⟩
     have hmem : ∀ x ∈ es, ∃ i, es[i]? = some x := fun x hx => List.mem_iff_getElem?.1 hx
     refine ⟨[.sl sz false es], .sl sz e es (by omega) (fun x hx => ?_) (fun x hx => ?_), .cons ?_ .nil, by simp [Value.oneCell']⟩
     ·obtain ⟨i, hi⟩ := hmem x hx
      obtain ⟨cs, h1, _, _, h2, _⟩ := each i x hi
      rw [h2.length, h1]
     ·obtain ⟨i, hi⟩ := hmem x hx
      obtain ⟨cs, _, _, h2, _⟩ := each i x hi
      exact h2
     ·rw [hae, ← hes]
      refine .sl (fun i j => (w.cell? ⟨a.block, a.off + (i * sz + j), none⟩).getD undef) (fun x hx => ?_) (by omega) (fun h => by cases h) (fun h => h) hbl (fun i j hi hj => ?_) (fun i j hi hj => ?_) (fun i j x c hi hc => ?_)
      ·obtain ⟨i, hi⟩ := hmem x hx
       obtain ⟨cs, h1, _, _, h2, _⟩ := each i x hi
       rw [h2.length, h1]
      ·obtain ⟨cs, h1, h2, _⟩ := each i es[i] (List.getElem?_eq_getElem hi)
       rw [h2 j hj, List.getElem?_eq_getElem (by omega)]; rfl
      ·obtain ⟨cs, h1, h2, _, _, h3⟩ := each i es[i] (List.getElem?_eq_getElem hi)
       rw [h2 j hj, List.getElem?_eq_getElem (by omega)]
       exact h3 _ (List.getElem_mem _)
      ·obtain ⟨cs, h1, h2, _, h4, _⟩ := each i x hi
       have hj : j < sz := by
        have := (List.getElem?_eq_some_iff.1 hc).1
        rw [h4.length, h1] at this; exact this
       rw [h2 j hj]
       have hv : cs[j]? = some (cs[j]'(by omega)) := List.getElem?_eq_getElem (by omega)
       rw [hv]
       exact h4.get j c _ hc hv
  ·cases hk
 | st fs =>
  simp only [shOKW] at hk
  split at hk
  ·next gs ht =>
   obtain ⟨xs, n, rfl, rfl, hl, hxl, hx⟩ := DataW.trod_struct ht h
   simp only [DataW.weights, ht] at hB
   obtain ⟨hs, h1, h2, h3⟩ := rds_of_trodW fs n gs.toList 0 cs (by rw [hl]; exact hk) (fun i f hf => by
    have hf' : gs[i]? = some f := by simpa using hf
    have := hx i f hf'
    have hi : i < xs.length := by rw [hxl]; exact (Array.getElem?_eq_some_iff.1 hf').1
    rw [List.getElem?_eq_getElem hi] at this
    exact ⟨_, this, fun n hn => hB n (DataW.weights_mem_each (j := i) (t := f.type) (d := (xs[i]).1) (by simp [hf']) (by simp [List.getElem?_eq_getElem hi]) n hn)⟩)
   exact ⟨hs, .st fs hs h1, by simpa using h2, by simpa using h3⟩
  ·cases hk
  termination_by structural s
theorem rds_of_trodW (fs : List ShT) : ∀ (n : Nat) (gs : List Field) (off : Nat) (cs : List Value), shOKsW P fs gs off cs.length = true →
  (∀ (i : Nat) (f : Field), gs[i]? = some f → ∃ x : DataW H × List MemPlace, DataW.trod enc P w 0 sp held n f.type ((cs.drop f.offset).take (P.cellsOf f.type)) = some x ∧ ∀ n ∈ x.1.weights P f.type, n ≤ B) →
  ∃ hs, RdFL B fs hs ∧ Reps w (fun _ => False) hs (cs.drop off) ∧ ∀ v ∈ cs.drop off, v.oneCell' = true := by
 intro n gs off cs hk hx
 cases fs with
 | nil =>
  simp only [shOKsW, Bool.and_eq_true, beq_iff_eq] at hk
  rw [hk.2, List.drop_length]
  exact ⟨[], .nil, .nil, by simp⟩
 | cons f r =>
  simp only [shOKsW] at hk
  cases gs with
  | nil => simp at hk
  | cons g q =>
   simp only [Bool.and_eq_true, beq_iff_eq] at hk
   obtain ⟨⟨h1, h2⟩, h3⟩ := hk
   obtain ⟨x, hx0, hb0⟩ := hx 0 g rfl
   rw [h1] at hx0
   obtain ⟨hs1, p1, p2, p3⟩ := rd_of_trodW f n g.type _ x h2 hx0 hb0
   obtain ⟨hs2, q1, q2, q3⟩ := rds_of_trodW r n q (off + P.cellsOf g.type) cs h3 (fun i f' hf' => hx (i + 1) f' (by simpa using hf'))
   have e : cs.drop off = (cs.drop off).take (P.cellsOf g.type) ++ cs.drop (off + P.cellsOf g.type) := by
    rw [← List.drop_drop, List.take_append_drop]
   rw [e]
   refine ⟨hs1 ++ hs2, .cons p1 q1, p2.append q2, fun v hv => ?_⟩
   rcases List.mem_append.1 hv with hv | hv
   ·exact p3 v hv
   ·exact q3 v hv
  termination_by structural fs
end
theorem arg_of_trodW (s : ShT) {t : TypeId} {v : Value} {d : DataW H} {ps : List MemPlace} (hk : shOKW P s t = true) (h : DataW.Trod enc P w 0 sp held t v d ps) (hB : ∀ n ∈ d.weights P t, n ≤ B) :
  ∃ hs, RdF B s hs ∧ Reps w (fun _ => False) hs v.cells.toList := by
 obtain ⟨fuel, hf⟩ := h
 obtain ⟨hs, h1, h2, _⟩ := rd_of_trodW s fuel t _ _ hk hf hB
 exact ⟨hs, h1, h2⟩
end Go.Hv

import Derived.WalkKit
import Derived.Deep.Draws
import Derived.Laws.IdiomCopy
import Derived.Laws.Append
set_option linter.unusedVariables false
set_option linter.unusedSectionVars false
set_option linter.unusedSimpArgs false
/- High-level values: what a slot holds, told as plain data. -/
namespace Go.Hv
open Go Go.RowKit

inductive HV where
 | any
 | lit (v : Value)
 | str (l : List UInt8)
 | sl (sz : Nat) (full : Bool) (es : List (List HV))
 | mp (es : List (HV × HV))
 | mpb (es : List (HV × HV)) (bs : List Nat) (clock : Nat)
 | agg (cs : List HV)
 | tup (cs : List HV)
 | cptr (cs : List HV)
 | ref (id : Nat)
 | ptr (id off : Nat)
 | mref (id : Nat)
 | fn (f : Fn) (cap : List HV)
 | view (id lo n : Nat)
 deriving Inhabited

inductive IRep (w : World) (dead : Nat → Prop) : HV → Value → Prop
 | lit (v : Value) : IRep w dead (.lit v) v
 | str (l : List UInt8) : IRep w dead (.str l) (.string ⟨l.toArray⟩)
 | agg {cs : List HV} {vs : Array Value} (hl : vs.size = cs.length) (h : ∀ (j : Nat) (c : HV) (v : Value), cs[j]? = some c → vs[j]? = some v → IRep w dead c v) : IRep w dead (.agg cs) (.agg vs)
 | nil {sz : Nat} {full : Bool} {A : Option Addr} {cap : Nat} (hf : full = true → cap = 0) (hA : A = none → cap = 0) : IRep w dead (.sl sz full []) (.slice A 0 cap)
 | sl {sz : Nat} {full : Bool} {es : List (List HV)} {cap b off : Nat} (f : Nat → Nat → Value) (hsz : ∀ e ∈ es, e.length = sz) (hc : es.length ≤ cap) (hf : full = true → cap = es.length) (hb : ¬ dead b) (hbl : b < w.heap.size)
   (hcell : ∀ i j, i < es.length → j < sz → w.cell? ⟨b, off + (i * sz + j), none⟩ = some (f i j)) (h1 : ∀ i j, i < es.length → j < sz → (f i j).oneCell' = true)
   (h : ∀ (i j : Nat) (e : List HV) (c : HV), es[i]? = some e → e[j]? = some c → IRep w dead c (f i j)) : IRep w dead (.sl sz full es) (.slice (some ⟨b, off, none⟩) es.length cap)
 | mnil : IRep w dead (.mp []) (.map none)
 | mp {es : List (HV × HV)} {b : Nat} {ents : Array MapEntry} {clock : Nat} (hb : ¬ dead b) (hm : w.heap[b]? = some (.map ents clock)) (hl : ents.size = es.length) (hck : (ents.toList.map (·.born)).Nodup) (hbo : ∀ (i : Nat) (e : MapEntry), ents[i]? = some e → e.born < clock)
   (hk : ∀ (i : Nat) (k x : HV) (e : MapEntry), es[i]? = some (k, x) → ents[i]? = some e → IRep w dead k e.key)
   (hx : ∀ (i : Nat) (k x : HV) (e : MapEntry), es[i]? = some (k, x) → ents[i]? = some e → IRep w dead x e.val) : IRep w dead (.mp es) (.map (some b))
 | mpbnil : IRep w dead (.mpb [] [] 0) (.map none)
 | mpb {es : List (HV × HV)} {bs : List Nat} {b : Nat} {ents : Array MapEntry} {clock : Nat} (hb : ¬ dead b) (hm : w.heap[b]? = some (.map ents clock)) (hl : ents.size = es.length) (hck : (ents.toList.map (·.born)).Nodup) (hbo : ∀ (i : Nat) (e : MapEntry), ents[i]? = some e → e.born < clock)
   (hbs : ents.toList.map (·.born) = bs)
   (hk : ∀ (i : Nat) (k x : HV) (e : MapEntry), es[i]? = some (k, x) → ents[i]? = some e → IRep w dead k e.key)
   (hx : ∀ (i : Nat) (k x : HV) (e : MapEntry), es[i]? = some (k, x) → ents[i]? = some e → IRep w dead x e.val) : IRep w dead (.mpb es bs clock) (.map (some b))
 | cptr {cs : List HV} {b off : Nat} (f : Nat → Value) (hb : ¬ dead b) (hbl : b < w.heap.size) (hc : ∀ j, j < cs.length → w.cell? ⟨b, off + j, none⟩ = some (f j)) (h1 : ∀ j, j < cs.length → (f j).oneCell' = true)
   (h : ∀ (j : Nat) (c : HV), cs[j]? = some c → IRep w dead c (f j)) : IRep w dead (.cptr cs) (.pointer (some ⟨b, off, none⟩))
 | fn {f : Fn} {cap : List HV} {vs : Array Value} (hl : vs.size = cap.length) (h : ∀ (j : Nat) (c : HV) (v : Value), cap[j]? = some c → vs[j]? = some v → IRep w dead c v) : IRep w dead (.fn f cap) (.func f #[] vs)

theorem IRep.mono {w w' : World} {dead dead' : Nat → Prop} (hs : w.heap.size ≤ w'.heap.size) (hw : ∀ b, b < w.heap.size → ¬ dead b → w'.heap[b]? = w.heap[b]?) (hd : ∀ b, b < w.heap.size → dead' b → dead b) {h : HV} {v : Value} (r : IRep w dead h v) : IRep w' dead' h v := by
 induction r with
 | lit v => exact .lit v
 | str l => exact .str l
 | agg hl h ih => exact .agg hl ih
 | nil hf hA => exact .nil hf hA
 | @sl sz full es cap b off f hsz hc hf hb hbl hcell h1 h ih =>
  have hbb : w'.heap[b]? = w.heap[b]? := hw b hbl hb
  exact .sl f hsz hc hf (fun x => hb (hd b hbl x)) (Nat.lt_of_lt_of_le hbl hs) (fun i j hi hj => by rw [World.cell?_of_block (w := w) (a := ⟨b, _, none⟩) hbb]; exact hcell i j hi hj) h1 ih
 | mnil => exact .mnil
 | @mp es b ents clock hb hm hl hck hbo hk hx ihk ihx =>
  have hbl : b < w.heap.size := by
   rcases Nat.lt_or_ge b w.heap.size with h | h
   ·exact h
   ·simp [Array.getElem?_eq_none h] at hm
  exact .mp (fun x => hb (hd b hbl x)) ((hw b hbl hb).trans hm) hl hck hbo ihk ihx
 | mpbnil => exact .mpbnil
 | @mpb es bs b ents clock hb hm hl hck hbo hbs hk hx ihk ihx =>
  have hbl : b < w.heap.size := by
   rcases Nat.lt_or_ge b w.heap.size with h | h
   ·exact h
   ·simp [Array.getElem?_eq_none h] at hm
  exact .mpb (fun x => hb (hd b hbl x)) ((hw b hbl hb).trans hm) hl hck hbo hbs ihk ihx
 | @cptr cs b off f hb hbl hc h1 h ih =>
  have hbb : w'.heap[b]? = w.heap[b]? := hw b hbl hb
  exact .cptr f (fun x => hb (hd b hbl x)) (Nat.lt_of_lt_of_le hbl hs) (fun j hj => by rw [World.cell?_of_block (w := w) (a := ⟨b, _, none⟩) hbb]; exact hc j hj) h1 ih
 | fn hl h ih => exact .fn hl ih

inductive SRep (w : World) (dead : Nat → Prop) (γ : Nat → Value) (bl : Nat → Option Nat) : HV → Value → Prop
 | any (v : Value) : SRep w dead γ bl .any v
 | imm {h : HV} {v : Value} (hi : IRep w dead h v) : SRep w dead γ bl h v
 | agg {cs : List HV} {vs : Array Value} (hl : vs.size = cs.length) (h : ∀ (j : Nat) (c : HV) (v : Value), cs[j]? = some c → vs[j]? = some v → SRep w dead γ bl c v) : SRep w dead γ bl (.agg cs) (.agg vs)
 | tup {cs : List HV} {vs : Array Value} (hl : vs.size = cs.length) (h : ∀ (j : Nat) (c : HV) (v : Value), cs[j]? = some c → vs[j]? = some v → SRep w dead γ bl c v) : SRep w dead γ bl (.tup cs) (.tuple vs)
 | ref (id : Nat) (h1 : (γ id).oneCell' = true) : SRep w dead γ bl (.ref id) (γ id)
 | ptr {id off b : Nat} (hb : bl id = some b) : SRep w dead γ bl (.ptr id off) (.pointer (some ⟨b, off, none⟩))
 | mref {id b : Nat} (hb : bl id = some b) : SRep w dead γ bl (.mref id) (.map (some b))
 | fn {f : Fn} {cap : List HV} {vs : Array Value} (hl : vs.size = cap.length) (h : ∀ (j : Nat) (c : HV) (v : Value), cap[j]? = some c → vs[j]? = some v → SRep w dead γ bl c v) : SRep w dead γ bl (.fn f cap) (.func f #[] vs)
 | view {id lo n cap : Nat} {A : Option Addr} (h : 0 < n → ∃ b, bl id = some b ∧ A = some ⟨b, lo, none⟩) : SRep w dead γ bl (.view id lo n) (.slice A n cap)

theorem SRep.mono {w w' : World} {dead dead' : Nat → Prop} {γ bl} (hs : w.heap.size ≤ w'.heap.size) (hw : ∀ b, b < w.heap.size → ¬ dead b → w'.heap[b]? = w.heap[b]?) (hd : ∀ b, b < w.heap.size → dead' b → dead b) {h : HV} {v : Value} (r : SRep w dead γ bl h v) : SRep w' dead' γ bl h v := by
 induction r with
 | any v => exact .any v
 | imm hi => exact .imm (hi.mono hs hw hd)
 | agg hl h ih => exact .agg hl ih
 | tup hl h ih => exact .tup hl ih
 | ref id h1 => exact .ref id h1
 | ptr hb => exact .ptr hb
 | mref hb => exact .mref hb
 | fn hl h ih => exact .fn hl ih
 | view h => exact .view h


/- What is told of object `id` becomes `xr` (a row's handle), `xm` (a map's), or unknown (a pointer). -/
mutual
def HV.sub (id : Nat) (xr xm : HV) (h : HV) : HV :=
 match h with
 | .ref i => if i = id then xr else .ref i
 | .ptr i o => if i = id then .any else .ptr i o
 | .mref i => if i = id then xm else .mref i
 | .agg cs => .agg (subL id xr xm cs)
 | .tup cs => .tup (subL id xr xm cs)
 | .fn f cap => .fn f (subL id xr xm cap)
 | .view i o n => if i = id then .any else .view i o n
 | .any => .any
 | .lit v => .lit v
 | .str v => .str v
 | .sl a b c => .sl a b c
 | .mp a => .mp a
 | .mpb a b c => .mpb a b c
 | .cptr a => .cptr a
  termination_by structural h
def subL (id : Nat) (xr xm : HV) (l : List HV) : List HV :=
 match l with
 | [] => []
 | c :: cs => HV.sub id xr xm c :: subL id xr xm cs
  termination_by structural l
end

theorem subL_length (id : Nat) (xr xm : HV) (cs : List HV) : (subL id xr xm cs).length = cs.length := by
 induction cs with
 | nil => rfl
 | cons c cs ih => simp [subL, ih]

theorem subL_getElem? (id : Nat) (xr xm : HV) (cs : List HV) (j : Nat) : (subL id xr xm cs)[j]? = (cs[j]?).map (HV.sub id xr xm) := by
 induction cs generalizing j with
 | nil => simp [subL]
 | cons c cs ih =>
  cases j with
  | zero => simp [subL]
  | succ j => simpa [subL] using ih j

theorem SRep.sub {w w' : World} {dead dead' : Nat → Prop} {γ γ' : Nat → Value} {bl bl' : Nat → Option Nat} {id : Nat} {xr xm : HV}
  (hs : w.heap.size ≤ w'.heap.size) (hw : ∀ b, b < w.heap.size → ¬ dead b → w'.heap[b]? = w.heap[b]?) (hd : ∀ b, b < w.heap.size → dead' b → dead b)
  (hγ : ∀ i, i ≠ id → γ' i = γ i) (hbl : ∀ i, i ≠ id → bl' i = bl i) (hr : SRep w' dead' γ' bl' xr (γ id)) (hm : ∀ b, bl id = some b → SRep w' dead' γ' bl' xm (.map (some b)))
  {h : HV} {v : Value} (r : SRep w dead γ bl h v) : SRep w' dead' γ' bl' (HV.sub id xr xm h) v := by
 induction r with
 | any v => exact .any v
 | @imm h v hi =>
  have hi' := hi.mono (dead' := dead') hs hw hd
  have key : ∀ {c0 : HV} {v : Value}, IRep w dead c0 v → IRep w' dead' (HV.sub id xr xm c0) v := by
   intro c0 v r0
   induction r0 with
   | lit v => exact .lit v
   | str l => exact .str l
   | @agg cs vs hl h ih =>
    refine .agg (by rw [subL_length]; exact hl) fun j c v hj hv => ?_
    rw [subL_getElem?] at hj
    cases hj' : cs[j]? with
    | none => simp [hj'] at hj
    | some c1 => simp only [hj', Option.map_some, Option.some.injEq] at hj; subst hj; exact ih j c1 v hj' hv
   | nil hf hA => exact .nil hf hA
   | sl f hsz hc hf hb hbl hcell h1 h ih => exact (IRep.sl f hsz hc hf hb hbl hcell h1 h).mono hs hw hd
   | mnil => exact .mnil
   | mp hb hm hl hck hbo hk hx ihk ihx => exact (IRep.mp hb hm hl hck hbo hk hx).mono hs hw hd
   | mpbnil => exact .mpbnil
   | mpb hb hm hl hck hbo hbs hk hx ihk ihx => exact (IRep.mpb hb hm hl hck hbo hbs hk hx).mono hs hw hd
   | cptr f hb hbl hc h1 h ih => exact (IRep.cptr f hb hbl hc h1 h).mono hs hw hd
   | @fn f cap vs hl h ih =>
    refine .fn (by rw [subL_length]; exact hl) fun j c v hj hv => ?_
    rw [subL_getElem?] at hj
    cases hj' : cap[j]? with
    | none => simp [hj'] at hj
    | some c1 => simp only [hj', Option.map_some, Option.some.injEq] at hj; subst hj; exact ih j c1 v hj' hv
  cases hi with
  | lit v => exact .imm hi'
  | str l => exact .imm hi'
  | @agg cs vs hl hc =>
   refine .agg (by rw [subL_length]; exact hl) fun j c v hj hv => ?_
   rw [subL_getElem?] at hj
   cases hj' : cs[j]? with
   | none => simp [hj'] at hj
   | some c0 =>
    simp only [hj', Option.map_some, Option.some.injEq] at hj
    have := hc j c0 v hj' hv
    subst hj
    exact .imm (key this)
  | nil hf hA => exact .imm hi'
  | sl f hsz hc hf hb hbl hcell h1 h => exact .imm hi'
  | mnil => exact .imm hi'
  | mp hb hm hl hck hbo hk hx => exact .imm hi'
  | mpbnil => exact .imm hi'
  | mpb hb hm hl hck hbo hbs hk hx => exact .imm hi'
  | cptr f hb hbl hc h1 h => exact .imm hi'
  | @fn f cap vs hl hc =>
   refine .fn (by rw [subL_length]; exact hl) fun j c v hj hv => ?_
   rw [subL_getElem?] at hj
   cases hj' : cap[j]? with
   | none => simp [hj'] at hj
   | some c0 =>
    simp only [hj', Option.map_some, Option.some.injEq] at hj
    subst hj
    exact .imm (key (hc j c0 v hj' hv))
 | @agg cs vs hl h ih =>
  refine .agg (by rw [subL_length]; exact hl) fun j c v hj hv => ?_
  rw [subL_getElem?] at hj
  cases hj' : cs[j]? with
  | none => simp [hj'] at hj
  | some c0 => simp only [hj', Option.map_some, Option.some.injEq] at hj; subst hj; exact ih j c0 v hj' hv
 | @tup cs vs hl h ih =>
  refine .tup (by rw [subL_length]; exact hl) fun j c v hj hv => ?_
  rw [subL_getElem?] at hj
  cases hj' : cs[j]? with
  | none => simp [hj'] at hj
  | some c0 => simp only [hj', Option.map_some, Option.some.injEq] at hj; subst hj; exact ih j c0 v hj' hv
 | ref i h1 =>
  unfold HV.sub
  split
  ·next e => subst e; exact hr
  ·next e => rw [← hγ i e]; exact .ref i (by rw [hγ i e]; exact h1)
 | @ptr i o b hb =>
  unfold HV.sub
  split
  ·exact .any _
  ·next e => exact .ptr ((hbl i e).trans hb)
 | @mref i b hb =>
  unfold HV.sub
  split
  ·next e => subst e; exact hm b hb
  ·next e => exact .mref ((hbl i e).trans hb)
 | @fn f cap vs hl h ih =>
  refine .fn (by rw [subL_length]; exact hl) fun j c v hj hv => ?_
  rw [subL_getElem?] at hj
  cases hj' : cap[j]? with
  | none => simp [hj'] at hj
  | some c0 => simp only [hj', Option.map_some, Option.some.injEq] at hj; subst hj; exact ih j c0 v hj' hv
 | @view i o n cap A h =>
  unfold HV.sub
  split
  ·exact .any _
  ·next e => exact .view fun hn => let ⟨b, hb, hA⟩ := h hn; ⟨b, (hbl i e).trans hb, hA⟩

/-! ### Objects that are the walk's own -/
inductive HObj where
 | gone
 | box (cs : List HV)
 | row (e : TypeId) (sz : Nat) (es : List (List HV))
 | map (es : List (HV × HV))
 | iter (es : List (HV × HV)) (left : List Nat) (last : Option (HV × HV))
 | prow (V : Value) (ob : Option Nat) (e : TypeId) (sz : Nat) (es : List (List HV))
 | mapb (es : List (HV × HV)) (bs : List Nat) (clock : Nat)
 deriving Inhabited

def subLL (id : Nat) (xr xm : HV) (es : List (List HV)) : List (List HV) := es.map (subL id xr xm)
def subM (id : Nat) (xr xm : HV) (es : List (HV × HV)) : List (HV × HV) := es.map fun p => (p.1, HV.sub id xr xm p.2)
def HObj.sub (id : Nat) (xr xm : HV) : HObj → HObj
 | .box cs => .box (subL id xr xm cs)
 | .row e sz es => .row e sz (subLL id xr xm es)
 | .map es => .map (subM id xr xm es)
 | .iter es left last => .iter es left last
 | .prow V ob e sz es => .prow V ob e sz (subLL id xr xm es)
 | .mapb es bs ck => .mapb (subM id xr xm es) bs ck
 | .gone => .gone

inductive Ev where
 | s (t : Nat) (h : HV)
 | o (id : Nat) (o : HObj)
 | sub (id : Nat) (xr xm : HV)
 | os (g : Nat → Option HObj)
 deriving Inhabited

def get : List Ev → Nat → HV
 | [], _ => .any
 | .s k h :: r, t => if k = t then h else get r t
 | .o _ _ :: r, t => get r t
 | .sub id xr xm :: r, t => HV.sub id xr xm (get r t)
 | .os _ :: r, t => get r t
def getO : List Ev → Nat → HObj
 | [], _ => .gone
 | .s _ _ :: r, t => getO r t
 | .o k h :: r, t => if k = t then h else getO r t
 | .sub id xr xm :: r, t => HObj.sub id xr xm (getO r t)
 | .os g :: r, t => match g t with | some o => o | none => getO r t

structure HS where
 log : List Ev
 n : Nat

def ORel (w : World) (dead : Nat → Prop) (γ : Nat → Value) (bl : Nat → Option Nat) (id : Nat) : HObj → Prop
 | .gone => True
 | .box cs => ∃ b C e, bl id = some b ∧ w.heap[b]? = some (.cells C e (0, 0)) ∧ C.size = cs.length ∧ (∀ (j : Nat) (v : Value), C[j]? = some v → v.oneCell' = true) ∧
   ∀ (j : Nat) (c : HV) (v : Value), cs[j]? = some c → C[j]? = some v → SRep w dead γ bl c v
 | .row e sz es => 0 < sz ∧ (∀ x ∈ es, x.length = sz) ∧ ((es = [] ∧ (∃ A, γ id = .slice A 0 0) ∧ bl id = none) ∨
   ∃ b cap C fr, γ id = .slice (some ⟨b, 0, none⟩) es.length cap ∧ bl id = some b ∧ w.heap[b]? = some (.cells C e fr) ∧ (∀ i, i < C.size → ¬ (fr.1 ≤ i ∧ i < fr.2)) ∧ es.length ≤ cap ∧ cap ≤ maxLen ∧ C.size = cap * sz ∧
    (∀ (j : Nat) (v : Value), C[j]? = some v → v.oneCell' = true) ∧
    ∀ (i j : Nat) (x : List HV) (c : HV), es[i]? = some x → x[j]? = some c → ∃ v, C[i * sz + j]? = some v ∧ SRep w dead γ bl c v)
 | .prow V ob e sz es => (γ id = V ∧ bl id = ob) ∧ 0 < sz ∧ (∀ x ∈ es, x.length = sz) ∧ ((es = [] ∧ (∃ A, γ id = .slice A 0 0) ∧ bl id = none) ∨
   ∃ b cap C fr, γ id = .slice (some ⟨b, 0, none⟩) es.length cap ∧ bl id = some b ∧ w.heap[b]? = some (.cells C e fr) ∧ (∀ i, i < C.size → ¬ (fr.1 ≤ i ∧ i < fr.2)) ∧ es.length ≤ cap ∧ cap ≤ maxLen ∧ C.size = cap * sz ∧
    (∀ (j : Nat) (v : Value), C[j]? = some v → v.oneCell' = true) ∧
    ∀ (i j : Nat) (x : List HV) (c : HV), es[i]? = some x → x[j]? = some c → ∃ v, C[i * sz + j]? = some v ∧ SRep w dead γ bl c v)
 | .map es => ∃ b ents clock, bl id = some b ∧ w.heap[b]? = some (.map ents clock) ∧ ents.size = es.length ∧ (ents.toList.map (·.born)).Nodup ∧ (∀ (i : Nat) (e : MapEntry), ents[i]? = some e → e.born < clock) ∧
   (∀ (i : Nat) (k x : HV) (e : MapEntry), es[i]? = some (k, x) → ents[i]? = some e → IRep w dead k e.key ∧ SRep w dead γ bl x e.val)
 | .mapb es bs clock => ∃ b ents, bl id = some b ∧ w.heap[b]? = some (.map ents clock) ∧ ents.size = es.length ∧ ents.toList.map (·.born) = bs ∧ bs.Nodup ∧ (∀ (i : Nat) (e : MapEntry), ents[i]? = some e → e.born < clock) ∧
   (∀ (i : Nat) (k x : HV) (e : MapEntry), es[i]? = some (k, x) → ents[i]? = some e → IRep w dead k e.key ∧ SRep w dead γ bl x e.val)
 | .iter es left last => ∃ (b : Nat) (mv : Option Nat) (seen : Array Nat) (bs : List Nat) (clock : Nat), bl id = some b ∧ w.heap[b]? = some (.mapIter mv clock seen clock) ∧ IRep w dead (.mpb es bs clock) (.map mv) ∧ (∀ i, i ∈ left ↔ ∃ n : Nat, bs[i]? = some n ∧ n ∉ seen.toList) ∧
   (∀ k x, last = some (k, x) → ∃ (i n : Nat), seen.back? = some n ∧ bs[i]? = some n ∧ es[i]? = some (k, x))

structure Kept (F : Nat → Prop) (w w' : World) : Prop where
 os : w'.os = w.os
 tape : w'.tape = w.tape
 output : w'.output = w.output
 size : w.heap.size ≤ w'.heap.size
 block : ∀ k, F k → w'.heap[k]? = w.heap[k]?
theorem Kept.refl (F : Nat → Prop) (w : World) : Kept F w w := ⟨rfl, rfl, rfl, Nat.le_refl _, fun _ _ => rfl⟩
theorem Kept.trans {F : Nat → Prop} {a b c : World} (h : Kept F a b) (k : Kept F b c) : Kept F a c :=
 ⟨k.os.trans h.os, k.tape.trans h.tape, k.output.trans h.output, Nat.le_trans h.size k.size, fun i hi => (k.block i hi).trans (h.block i hi)⟩
theorem Kept.mono {F G : Nat → Prop} {w w' : World} (h : Kept G w w') (hG : ∀ b, F b → G b) : Kept F w w' := ⟨h.os, h.tape, h.output, h.size, fun k hk => h.block k (hG k hk)⟩
theorem Kept.alloc {F : Nat → Prop} {a w : World} (h : Kept F a w) (hF : ∀ b, F b → b < w.heap.size) (o : Obj) : Kept F a (w.alloc o) :=
 ⟨h.os, h.tape, h.output, Nat.le_trans h.size (by simp), fun k hk => by rw [Below.heap_alloc w o k (hF k hk)]; exact h.block k hk⟩
theorem Kept.drewAlloc (w : World) (o : Obj) {F : Nat → Prop} (h : ∀ b, F b → b < w.heap.size) : Kept F w (w.drew.alloc o) :=
 Kept.alloc (a := w) (w := w.drew) ⟨rfl, rfl, rfl, Nat.le_refl _, fun _ _ => rfl⟩ h o
theorem Kept.below {B : Nat} {w w' : World} (h : Kept (fun b => b < B) w w') : Below B w w' := ⟨h.os, h.tape, h.output, h.size, h.block⟩
def dd (D : Nat → Prop) (L : List Ev) (bl : Nat → Option Nat) (b : Nat) : Prop := D b ∨ ∃ id, getO L id ≠ .gone ∧ bl id = some b

class GI where
 G : World → Prop
 foot : Nat → Prop
 lt : ∀ w b, G w → foot b → b < w.heap.size
 mono : ∀ w w' : World, w.heap.size ≤ w'.heap.size → (∀ b, foot b → w'.heap[b]? = w.heap[b]?) → G w → G w'
structure GOK [GI] (F : Nat → Prop) (w : World) : Prop where
 sub : ∀ b, GI.foot b → F b
 g : GI.G w
theorem GOK.turn [GI] {F : Nat → Prop} {w w' : World} (h : GOK F w) (hs : w.heap.size ≤ w'.heap.size) (hb : ∀ b, F b → w'.heap[b]? = w.heap[b]?) : GOK F w' := ⟨h.sub, GI.mono w w' hs (fun b hf => hb b (h.sub b hf)) h.g⟩
theorem GOK.all [GI] {w : World} (h : GI.G w) : GOK (fun b => b < w.heap.size) w := ⟨fun b hb => GI.lt w b h hb, h⟩
structure Sim [GI] (D : Nat → Prop) (F : Nat → Prop) (σ : HS) (a : Act) (w : World) (γ : Nat → Value) (bl : Nat → Option Nat) : Prop where
 hG : GOK F w
 hn : a.tmps.size = σ.n
 hdf : a.defers = []
 hD : ∀ b, D b → F b
 hbw : ∀ b, F b → b < w.heap.size
 henv : ∀ t, SRep w (dd D σ.log bl) γ bl (get σ.log t) (a.tmps.getD t undef)
 hobj : ∀ id, ORel w (dd D σ.log bl) γ bl id (getO σ.log id)
 hblk : ∀ id b, getO σ.log id ≠ .gone → bl id = some b → ¬ F b ∧ b < w.heap.size
 hinj : ∀ id id' b, getO σ.log id ≠ .gone → getO σ.log id' ≠ .gone → bl id = some b → bl id' = some b → id = id'

end Go.Hv

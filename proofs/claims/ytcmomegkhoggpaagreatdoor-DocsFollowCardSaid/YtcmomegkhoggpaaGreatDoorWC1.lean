import Derived.Test.YtcmomegkhoggpaaGreatDoorWC0
import Derived.Lib.ReflectliteSwap
import Derived.Lib.ReflectliteSlice
import Derived.Laws.NewBlocks
import Derived.Scope
import Derived.Control
import Derived.Shelf.Small.Bits
import Derived.Shelf.Utf8.RuneCount
import Derived.Shelf.Strconv.Itoa0
import Derived.Shelf.Strings.Search1
import Derived.Shelf.Strings.Search2
import Derived.Shelf.Strings.Search3
import Derived.Shelf.Strings.Count
import Derived.Shelf.LaysM
import Derived.Shelf.Strings.Shaped
import Derived.Shelf.Sort.Plain
import Derived.Ground.GgsProg
import Derived.Shelf.SlSortFuncK.WholeK
import Derived.Shelf.GgSortFunc.Insertion
import Derived.Shelf.GgSortFunc.Small
import Derived.Shelf.GgSortFunc.InsertionK
import Derived.Shelf.GgSortFunc.SmallK
import Derived.Shelf.GgSortFunc.Compose
import Derived.Shelf.GgSortFunc.LotD
import Derived.Shelf.Strings.Prefix
import Derived.Shelf.Strings.Split
import Derived.Shelf.Strings.SplitShaped
import Derived.Shelf.Unicode.Decode
import Derived.Shelf.Strings.RuneCount
import Derived.Shelf.Strings.Explode
import Derived.Shelf.Unicode.DecodeSlow
import Derived.Shelf.Unicode.DecodeAny
import Derived.Shelf.Slices.Turned
import Derived.Shelf.Slices.Equal
import Derived.Shelf.Slices.CompactS
import Derived.Shelf.Slices.Cells
import Derived.Shelf.Slices.In.SortNone
import Derived.Shelf.Slices.Empties2
import Derived.Shelf.SlSortFunc.Xorshift
import Derived.Shelf.SlSortFuncK.ComposeK
import Derived.Shelf.SlSortFuncK.SiftDownK
import Derived.Shelf.SlSortFuncK.HeapSortK
import Derived.Shelf.SlSortFuncK.PartialInsertionK
import Derived.Shelf.SlSortFuncK.LotDK
import Derived.Shelf.SlSortFuncK.PivotK
import Derived.Shelf.SlSortFuncK.PartitionK
import Derived.Shelf.SlSortFuncK.PdqK
import Derived.Test.YtcmomegkhoggpaaGreatDoorProg
set_option linter.unusedVariables false
set_option linter.unusedSimpArgs false
/- Histories: the files after a commit, and what is right, in plain words. -/
namespace Go.Hv
structure Commit where
 id : Int
 parents : List Int
 changes : List File
 time : Int
 author : Int
 deriving DecidableEq, Inhabited
def idxC (l : List Commit) (id : Int) : Option Nat := l.findIdx? fun c => decide (c.id = id)
def parV (l : List Commit) (i : Nat) : Option Nat :=
 match l[i]? with
 | none => none
 | some c => match c.parents with
  | [] => none
  | p :: _ => if p = 0 then none else idxC (l.take i) p
theorem idxC_lt {l : List Commit} {id : Int} {j : Nat} (h : idxC l id = some j) : j < l.length := (List.findIdx?_eq_some_iff_getElem.1 h).1
theorem idxC_get {l : List Commit} {id : Int} {j : Nat} (h : idxC l id = some j) : (l[j]'(idxC_lt h)).id = id := by
 have := (List.findIdx?_eq_some_iff_getElem.1 h).2.1
 simpa using this
theorem parV_lt {l : List Commit} {i j : Nat} (h : parV l i = some j) : j < i := by
 unfold parV at h
 split at h
 ·cases h
 ·split at h
  ·cases h
  ·split at h
   ·cases h
   ·have := idxC_lt h
    rw [List.length_take] at this
    omega
def chainV (l : List Commit) (i : Nat) : List Commit :=
 match l[i]? with
 | none => []
 | some c => c :: (match h : parV l i with
  | none => []
  | some j => chainV l j)
  termination_by i
decreasing_by exact parV_lt h
theorem chainV_eq (l : List Commit) (i : Nat) : chainV l i = match l[i]? with
  | none => []
  | some c => c :: (match parV l i with
   | none => []
   | some j => chainV l j) := by
 rw [chainV.eq_def]
 split
 ·rfl
 ·congr 1
  split <;> rename_i h <;> rw [h]
theorem chainV_at {l : List Commit} {i : Nat} (hi : i < l.length) : chainV l i = l[i] :: (match parV l i with
  | none => []
  | some j => chainV l j) := by
 rw [chainV_eq, List.getElem?_eq_getElem hi]
theorem parV_take {l : List Commit} {n i : Nat} (h : i < n) : parV (l.take n) i = parV l i := by
 unfold parV
 rw [List.getElem?_take_of_lt h, List.take_take, Nat.min_eq_left (Nat.le_of_lt h)]
theorem chainV_take {l : List Commit} {n : Nat} : ∀ (i : Nat), i < n → chainV (l.take n) i = chainV l i := by
 intro i
 induction i using Nat.strongRecOn with
 | ind i ih =>
  intro h
  rw [chainV_eq, chainV_eq l, List.getElem?_take_of_lt h, parV_take h]
  split
  ·rfl
  ·congr 1
   cases hp : parV l i with
   | none => rfl
   | some j => exact ih j (parV_lt hp) (Nat.lt_trans (parV_lt hp) h)
def filesOf : List Commit → List File
 | [] => []
 | c :: r => (applyT (filesOf r) c.changes).1
def treeV (l : List Commit) (id : Int) : List File × Int :=
 if id = 0 then ([], 0) else match idxC l id with
 | none => ([], 8)
 | some i => (filesOf (chainV l i), 0)
def baseV (before : List Commit) (c : Commit) : List File :=
 match c.parents with
 | [] => []
 | p :: _ => (treeV before p).1
def afterV (before : List Commit) (c : Commit) : List File × Int := applyT (baseV before c) c.changes
theorem base_chain {l : List Commit} {i : Nat} (hi : i < l.length) : baseV (l.take i) l[i] = filesOf (match parV l i with
  | none => []
  | some j => chainV l j) := by
 unfold baseV parV treeV
 rw [List.getElem?_eq_getElem hi]
 dsimp only
 split
 ·rfl
 ·next p q hp =>
  by_cases h0 : p = 0
  ·rw [if_pos h0, if_pos h0]; rfl
  ·rw [if_neg h0, if_neg h0]
   cases hx : idxC (l.take i) p with
   | none => rfl
   | some j =>
    dsimp only
    rw [chainV_take]
    have := idxC_lt hx
    rw [List.length_take] at this
    omega
theorem files_after {l : List Commit} {i : Nat} (hi : i < l.length) : filesOf (chainV l i) = (afterV (l.take i) l[i]).1 := by
 rw [chainV_at hi]
 unfold filesOf afterV
 rw [base_chain hi]
/-! ### Right histories -/
def lastId (before : List Commit) : Int := match before.getLast? with
 | none => 0
 | some c => c.id
def lateV (before : List Commit) (t p : Int) : Bool := match idxC before p with
 | none => false
 | some j => decide (t < (before[j]?.getD default).time)
def numbersV (before : List Commit) (c : Commit) : Bool :=
 !decide (c.id ≤ lastId before ∨ c.id > 9999 ∨ c.time < 0 ∨ c.time > 1000000 ∨ c.author < 0 ∨ c.author > 9999) && c.parents.all fun p => !lateV before c.time p
def twiceV (l : List Int) : Bool := match l with
 | [a, b] => decide (a = b)
 | _ => false
def checkC (before : List Commit) (c : Commit) : Int :=
 if numbersV before c = false then 2
 else if c.parents.length > 2 ∨ c.changes.length > 16 then 4
 else if (c.parents.all fun p => (idxC before p).isSome) = false then 8
 else if twiceV c.parents = true then 7
 else (afterV before c).2
def rightC (l : List Commit) : Int := if l.length > 64 then 4 else firstE (fun i => checkC (l.take i) (l[i]?.getD default)) l.length
theorem right_check {l : List Commit} (h : rightC l = 0) {i : Nat} (hi : i < l.length) : checkC (l.take i) l[i] = 0 := by
 unfold rightC at h
 by_cases hl : l.length > 64
 ·rw [if_pos hl] at h; exact absurd h (by decide)
 ·rw [if_neg hl] at h
  have := (firstE_zero _ _).1 h i hi
  rwa [List.getElem?_eq_getElem hi] at this
theorem rightC_len {l : List Commit} (h : rightC l = 0) : l.length ≤ 64 := by
 unfold rightC at h
 by_cases hl : l.length > 64
 ·rw [if_pos hl] at h; exact absurd h (by decide)
 ·omega
structure OkC (before : List Commit) (c : Commit) : Prop where
 lo : lastId before < c.id
 hi : c.id ≤ 9999
 par : c.parents.length ≤ 2
 chg : c.changes.length ≤ 16
 found : ∀ p ∈ c.parents, (idxC before p).isSome = true
 after : (afterV before c).2 = 0
theorem checkC_ok {before : List Commit} {c : Commit} (h : checkC before c = 0) : OkC before c := by
 unfold checkC at h
 by_cases c1 : numbersV before c = false
 ·rw [if_pos c1] at h; exact absurd h (by decide)
 rw [if_neg c1] at h
 by_cases c2 : c.parents.length > 2 ∨ c.changes.length > 16
 ·rw [if_pos c2] at h; exact absurd h (by decide)
 rw [if_neg c2] at h
 by_cases c3 : (c.parents.all fun p => (idxC before p).isSome) = false
 ·rw [if_pos c3] at h; exact absurd h (by decide)
 rw [if_neg c3] at h
 by_cases c4 : twiceV c.parents = true
 ·rw [if_pos c4] at h; exact absurd h (by decide)
 rw [if_neg c4] at h
 unfold numbersV at c1
 simp only [Bool.not_eq_false, Bool.and_eq_true, Bool.not_eq_true', decide_eq_false_iff_not, not_or] at c1
 exact ⟨by omega, by omega, by omega, by omega, by rw [Bool.not_eq_false, List.all_eq_true] at c3; exact c3, h⟩
theorem lastId_take {l : List Commit} {i : Nat} (hi : i < l.length) : lastId (l.take (i + 1)) = l[i].id := by
 unfold lastId
 rw [List.take_succ_eq_append_getElem hi, List.getLast?_concat]
theorem rightC_inc {l : List Commit} (h : rightC l = 0) : ∀ (j i : Nat) (hj : j < l.length), i < j → ∀ hi : i < l.length, l[i].id < l[j].id
 | 0, i, hj, hij, hi => absurd hij (Nat.not_lt_zero _)
 | j + 1, i, hj, hij, hi => by
  have h1 := (checkC_ok (right_check h hj)).lo
  rw [lastId_take (show j < l.length by omega)] at h1
  by_cases e : i = j
  ·subst e; exact h1
  ·have := rightC_inc h j i (by omega) (by omega) hi
   omega
theorem rightC_pos {l : List Commit} (h : rightC l = 0) {i : Nat} (hi : i < l.length) : 0 < l[i].id := by
 have h1 := (checkC_ok (right_check h (show 0 < l.length by omega))).lo
 have h1 : (0 : Int) < (l[0]'(by omega)).id := h1
 by_cases e : i = 0
 ·subst e; exact h1
 ·have := rightC_inc h i 0 hi (by omega) (by omega)
  omega
theorem idxC_right {l : List Commit} (h : rightC l = 0) {i : Nat} (hi : i < l.length) : idxC l l[i].id = some i := by
 refine List.findIdx?_eq_some_iff_getElem.2 ⟨hi, by simp, fun j hj => ?_⟩
 have := rightC_inc h i j hi hj (by omega)
 have hne : l[j].id ≠ l[i].id := by omega
 simpa using hne
theorem par_found {l : List Commit} (h : rightC l = 0) {i : Nat} (hi : i < l.length) {p : Int} {q : List Int} (hp : l[i].parents = p :: q) : ∃ j, j < i ∧ parV l i = some j ∧ idxC l p = some j := by
 have ho := checkC_ok (right_check h hi)
 have := ho.found p (by rw [hp]; simp)
 obtain ⟨j, hj⟩ := Option.isSome_iff_exists.1 this
 have hjl := idxC_lt hj
 rw [List.length_take] at hjl
 have hid := idxC_get hj
 rw [List.getElem_take] at hid
 refine ⟨j, by omega, ?_, by rw [← hid]; exact idxC_right h (by omega)⟩
 unfold parV
 rw [List.getElem?_eq_getElem hi]
 simp only [hp]
 rw [if_neg, hj]
 have := rightC_pos h (show j < l.length by omega)
 omega
theorem par_none {l : List Commit} {i : Nat} (hi : i < l.length) (hp : l[i].parents = []) : parV l i = none := by
 unfold parV
 rw [List.getElem?_eq_getElem hi]
 simp only [hp]
theorem chain_length {l : List Commit} : ∀ i, (chainV l i).length ≤ i + 1 := by
 intro i
 induction i using Nat.strongRecOn with
 | ind i ih =>
  rw [chainV_eq]
  split
  ·simp
  ·cases hp : parV l i with
   | none => simp
   | some j =>
    have := ih j (parV_lt hp)
    have := parV_lt hp
    simp only [List.length_cons]
    omega
theorem chain_step {l : List Commit} (h : rightC l = 0) : ∀ (i : Nat), i < l.length → ∀ k (hk : k < (chainV l i).length),
  ((chainV l i)[k].parents = [] → k + 1 = (chainV l i).length) ∧ ∀ p q, (chainV l i)[k].parents = p :: q → ∃ j, ∃ hj : j < l.length, idxC l p = some j ∧ ∃ hk' : k + 1 < (chainV l i).length, (chainV l i)[k + 1] = l[j] := by
 intro i
 induction i using Nat.strongRecOn with
 | ind i ih =>
  intro hi k hk
  cases k with
  | zero =>
   have e := chainV_at hi
   constructor
   ·intro hp
    simp only [e, List.getElem_cons_zero] at hp
    rw [e, par_none hi hp]
    rfl
   ·intro p q hp
    simp only [e, List.getElem_cons_zero] at hp
    obtain ⟨j, hji, hpar, hidx⟩ := par_found h hi hp
    have hjl : j < l.length := by omega
    have e2 : chainV l i = l[i] :: l[j] :: (match parV l j with | none => [] | some j => chainV l j) := by
     rw [e, hpar]; dsimp only; rw [chainV_at hjl]
    refine ⟨j, hjl, hidx, by rw [e2]; simp, ?_⟩
    simp only [e2, List.getElem_cons_succ, List.getElem_cons_zero]
  | succ k =>
   have e := chainV_at hi
   cases hpar : parV l i with
   | none =>
    rw [hpar] at e
    rw [e] at hk
    simp at hk
   | some j =>
    rw [hpar] at e
    dsimp only at e
    have hji := parV_lt hpar
    have hk2 : k < (chainV l j).length := by rw [e] at hk; simpa using hk
    have IH := ih j hji (by omega) k hk2
    simp only [e, List.getElem_cons_succ, List.length_cons]
    refine ⟨fun hp => by rw [IH.1 hp], fun p q hp => ?_⟩
    obtain ⟨j', hj', h1, h2, h3⟩ := IH.2 p q hp
    exact ⟨j', hj', h1, by omega, h3⟩
theorem chain_ok {l : List Commit} (h : rightC l = 0) : ∀ (i : Nat), i < l.length → ∀ k (hk : k < (chainV l i).length), applyT (filesOf ((chainV l i).drop (k + 1))) (chainV l i)[k].changes = (filesOf ((chainV l i).drop k), 0) := by
 intro i
 induction i using Nat.strongRecOn with
 | ind i ih =>
  intro hi k hk
  have e := chainV_at hi
  cases k with
  | zero =>
   have ho := (checkC_ok (right_check h hi)).after
   unfold afterV at ho
   rw [base_chain hi] at ho
   rw [List.drop_zero]
   generalize hg : (match parV l i with | none => [] | some j => chainV l j) = r at *
   simp only [e, List.getElem_cons_zero, List.drop_succ_cons, List.drop_zero]
   refine Prod.ext ?_ ho
   rfl
  | succ k =>
   cases hpar : parV l i with
   | none =>
    rw [hpar] at e
    rw [e] at hk
    simp at hk
   | some j =>
    rw [hpar] at e
    dsimp only at e
    have hji := parV_lt hpar
    have hk2 : k < (chainV l j).length := by rw [e] at hk; simpa using hk
    have IH := ih j hji (by omega) k hk2
    simp only [e, List.getElem_cons_succ, List.drop_succ_cons]
    exact IH
end Go.Hv
set_option linter.unusedVariables false
set_option linter.unusedSimpArgs false
/- Repositories and the documents of a repository, in plain words. -/
namespace Go.Hv
structure Blob where
 id : Int
 text : List UInt8
 deriving DecidableEq, Inhabited
structure Store where
 next : Int
 blobs : List Blob
 deriving DecidableEq, Inhabited
structure Brch where
 name : List UInt8
 head : Int
 deriving DecidableEq, Inhabited
structure Repo where
 name : List UInt8
 store : Store
 commits : List Commit
 brs : List Brch
 deriving DecidableEq, Inhabited
/-! ### Stores -/
def getB (l : List Blob) (id : Int) : Option (List UInt8) := (l.find? fun b => decide (b.id = id)).map Blob.text
def bErr (s : Store) (i : Nat) : Int :=
 match s.blobs[i]? with
 | none => 0
 | some b => if b.id < 1 ∨ b.id ≥ s.next ∨ (0 < i ∧ b.id ≤ (s.blobs[i - 1]?.getD default).id) then 2 else 0
def rightS (s : Store) : Int :=
 if s.next < 1 ∨ s.next > 10000 then 2
 else if firstE (bErr s) s.blobs.length ≠ 0 then 2
 else if s.blobs.length > 128 then 4
 else if (s.blobs.all fun b => textV b.text) = false then 3
 else if (s.blobs.map Blob.text).Nodup then 0 else 7
/-! ### Branches -/
def idxB (l : List Brch) (n : List UInt8) : Option Nat := l.findIdx? fun b => decide (b.name = n)
def headV (r : Repo) (n : List UInt8) : Int × Bool :=
 match idxB r.brs n with
 | none => (0, false)
 | some i => ((r.brs[i]?.getD default).head, true)
def filesV (r : Repo) (n : List UInt8) : List File × Int :=
 match idxB r.brs n with
 | none => ([], 8)
 | some i => treeV r.commits (r.brs[i]?.getD default).head
def brErr (r : Repo) (i : Nat) : Int :=
 match r.brs[i]? with
 | none => 0
 | some b => if nameV b.name = false then 3
  else if 0 < i ∧ stepL (r.brs[i - 1]?.getD default).name b.name = false then 7
  else if b.head ≠ 0 ∧ (idxC r.commits b.head).isSome = false then 8 else 0
def knownV (r : Repo) (c : File) : Bool := decide (c.blob = 0) || (getB r.store.blobs c.blob).isSome
def rightR (r : Repo) : Int :=
 if nameV r.name = false then 3
 else if rightS r.store ≠ 0 then rightS r.store
 else if rightC r.commits ≠ 0 then rightC r.commits
 else if (r.commits.all fun c => c.changes.all (knownV r)) = false then 8
 else if r.brs.length > 8 ∨ r.brs.length = 0 then 4
 else firstE (brErr r) r.brs.length
structure OkR (r : Repo) : Prop where
 name : nameV r.name = true
 commits : rightC r.commits = 0
 known : ∀ c ∈ r.commits, ∀ f ∈ c.changes, knownV r f = true
 len : r.brs.length ≤ 8
 names : ∀ b ∈ r.brs, nameV b.name = true
 inc : r.brs.Pairwise fun a b => ltB a.name b.name = true
 heads : ∀ b ∈ r.brs, b.head = 0 ∨ (idxC r.commits b.head).isSome = true
 texts : ∀ b ∈ r.store.blobs, textV b.text = true
 blen : r.store.blobs.length ≤ 128
theorem okR {r : Repo} (h : rightR r = 0) : OkR r := by
 unfold rightR at h
 by_cases c1 : nameV r.name = false
 ·rw [if_pos c1] at h; exact absurd h (by decide)
 rw [if_neg c1] at h
 by_cases c2 : rightS r.store ≠ 0
 ·rw [if_pos c2] at h; exact absurd h c2
 rw [if_neg c2] at h
 by_cases c3 : rightC r.commits ≠ 0
 ·rw [if_pos c3] at h; exact absurd h c3
 rw [if_neg c3] at h
 by_cases c4 : (r.commits.all fun c => c.changes.all (knownV r)) = false
 ·rw [if_pos c4] at h; exact absurd h (by decide)
 rw [if_neg c4] at h
 by_cases c5 : r.brs.length > 8 ∨ r.brs.length = 0
 ·rw [if_pos c5] at h; exact absurd h (by decide)
 rw [if_neg c5] at h
 have key : ∀ i (hi : i < r.brs.length), nameV r.brs[i].name = true ∧ (0 < i → ltB (r.brs[i - 1]'(by omega)).name r.brs[i].name = true) ∧ (r.brs[i].head = 0 ∨ (idxC r.commits r.brs[i].head).isSome = true) := fun i hi => by
  have := (firstE_zero _ _).1 h i hi
  unfold brErr at this
  rw [List.getElem?_eq_getElem hi] at this
  simp only at this
  by_cases d1 : nameV r.brs[i].name = false
  ·rw [if_pos d1] at this; exact absurd this (by decide)
  rw [if_neg d1] at this
  by_cases d2 : 0 < i ∧ stepL (r.brs[i - 1]?.getD default).name r.brs[i].name = false
  ·rw [if_pos d2] at this; exact absurd this (by decide)
  rw [if_neg d2] at this
  by_cases d3 : r.brs[i].head ≠ 0 ∧ (idxC r.commits r.brs[i].head).isSome = false
  ·rw [if_pos d3] at this; exact absurd this (by decide)
  refine ⟨by simpa using d1, fun h0 => ?_, ?_⟩
  ·rw [List.getElem?_eq_getElem (show i - 1 < r.brs.length by omega), Option.getD_some] at d2
   rw [← stepL_iff]
   cases hs : stepL (r.brs[i - 1]'(by omega)).name r.brs[i].name with
   | true => rfl
   | false => exact absurd ⟨h0, hs⟩ d2
  ·by_cases e : r.brs[i].head = 0
   ·exact .inl e
   ·right
    cases hq : (idxC r.commits r.brs[i].head).isSome with
    | true => rfl
    | false => exact absurd ⟨e, hq⟩ d3
 have hS : rightS r.store = 0 := by simpa using c2
 have hS2 : (∀ b ∈ r.store.blobs, textV b.text = true) ∧ r.store.blobs.length ≤ 128 := by
  unfold rightS at hS
  by_cases e1 : r.store.next < 1 ∨ r.store.next > 10000
  ·rw [if_pos e1] at hS; exact absurd hS (by decide)
  rw [if_neg e1] at hS
  by_cases e2 : firstE (bErr r.store) r.store.blobs.length ≠ 0
  ·rw [if_pos e2] at hS; exact absurd hS (by decide)
  rw [if_neg e2] at hS
  by_cases e3 : r.store.blobs.length > 128
  ·rw [if_pos e3] at hS; exact absurd hS (by decide)
  rw [if_neg e3] at hS
  by_cases e4 : (r.store.blobs.all fun b => textV b.text) = false
  ·rw [if_pos e4] at hS; exact absurd hS (by decide)
  rw [Bool.not_eq_false, List.all_eq_true] at e4
  exact ⟨e4, by omega⟩
 refine ⟨by simpa using c1, by simpa using c3, ?_, by omega, ?_, ?_, ?_, hS2.1, hS2.2⟩
 ·rw [Bool.not_eq_false, List.all_eq_true] at c4
  intro c hc f hf
  exact List.all_eq_true.1 (c4 c hc) f hf
 ·intro b hb
  obtain ⟨i, hi, rfl⟩ := List.mem_iff_getElem.1 hb
  exact (key i hi).1
 ·rw [List.pairwise_iff_getElem]
  intro i j hi hj hij
  have : ∀ d, (hd : i + d + 1 < r.brs.length) → ltB r.brs[i].name (r.brs[i + d + 1]).name = true := by
   intro d
   induction d with
   | zero => intro hd; exact (key (i + 1) (by omega)).2.1 (by omega)
   | succ d ih => intro hd; exact ltB_trans (ih (by omega)) ((key (i + d + 2) (by omega)).2.1 (by omega))
  have := this (j - i - 1) (by omega)
  simpa [show i + (j - i - 1) + 1 = j by omega] using this
 ·intro b hb
  obtain ⟨i, hi, rfl⟩ := List.mem_iff_getElem.1 hb
  exact (key i hi).2.2
/-! ### The files on a branch have contents in the store -/
theorem runT_from : ∀ {cs r r' : List File}, runT r cs = some r' → ∀ f ∈ r', f ∈ r ∨ (f ∈ cs ∧ f.blob ≠ 0)
 | [], r, r', e, f, hf => by cases e; exact .inl hf
 | c :: cs, r, r', e, f, hf => by
  unfold runT at e
  cases hs : stepT r c with
  | none => rw [hs] at e; cases e
  | some r1 =>
   rw [hs] at e
   rcases runT_from e f hf with h | ⟨h1, h2⟩
   ·unfold stepT at hs
    split at hs
    ·cases hs
    ·cases hs
     rcases (setV_mem r c.path c.blob f).1 h with ⟨h1, _⟩ | ⟨h1, rfl⟩
     ·exact .inl h1
     ·exact .inr ⟨by simp, h1⟩
   ·exact .inr ⟨by simp [h1], h2⟩
theorem applyT_from (l cs : List File) (f : File) (hf : f ∈ (applyT l cs).1) : f ∈ l ∨ (f ∈ cs ∧ f.blob ≠ 0) := by
 unfold applyT at hf
 split at hf
 ·simp at hf
 ·split at hf
  ·simp at hf
  ·split at hf
   ·simp at hf
   ·next r hr =>
    split at hf
    ·simp at hf
    ·exact runT_from hr f hf
theorem applyT_right (l cs : List File) : rightT (applyT l cs).1 = 0 := by
 unfold applyT
 split
 ·rfl
 ·split
  ·rfl
  ·split
   ·rfl
   ·next r hr =>
    split
    ·rfl
    ·next h => simpa using h
theorem filesOf_right : ∀ l, rightT (filesOf l) = 0
 | [] => rfl
 | c :: r => applyT_right _ _
theorem filesOf_from : ∀ (l : List Commit) (f : File), f ∈ filesOf l → ∃ c ∈ l, f ∈ c.changes ∧ f.blob ≠ 0
 | [], f, h => by cases h
 | c :: r, f, h => by
  rcases applyT_from _ _ f h with h | ⟨h1, h2⟩
  ·obtain ⟨c', h1, h2⟩ := filesOf_from r f h
   exact ⟨c', by simp [h1], h2⟩
  ·exact ⟨c, by simp, h1, h2⟩
theorem chain_sub {l : List Commit} : ∀ (i : Nat) (c : Commit), c ∈ chainV l i → c ∈ l := by
 intro i
 induction i using Nat.strongRecOn with
 | ind i ih =>
  intro c hc
  rw [chainV_eq] at hc
  split at hc
  ·simp at hc
  ·next x hx =>
   rcases List.mem_cons.1 hc with rfl | hc
   ·exact List.mem_of_getElem? hx
   ·cases hp : parV l i with
    | none => rw [hp] at hc; simp at hc
    | some j => rw [hp] at hc; exact ih j (parV_lt hp) c hc
theorem treeV_from (l : List Commit) (id : Int) (f : File) (h : f ∈ (treeV l id).1) : ∃ c ∈ l, f ∈ c.changes ∧ f.blob ≠ 0 := by
 unfold treeV at h
 split at h
 ·simp at h
 ·split at h
  ·simp at h
  ·obtain ⟨c, h1, h2⟩ := filesOf_from _ f h
   exact ⟨c, chain_sub _ c h1, h2⟩
theorem treeV_right (l : List Commit) (id : Int) : rightT (treeV l id).1 = 0 := by
 unfold treeV
 split
 ·rfl
 ·split
  ·rfl
  ·exact filesOf_right _
theorem idxB_at {r : Repo} (h : OkR r) {i : Nat} (hi : i < r.brs.length) : idxB r.brs r.brs[i].name = some i := by
 refine List.findIdx?_eq_some_iff_getElem.2 ⟨hi, by simp, fun j hj => ?_⟩
 have := List.pairwise_iff_getElem.1 h.inc j i (by omega) hi hj
 simpa using ltB_ne this
theorem filesV_at {r : Repo} (h : OkR r) {i : Nat} (hi : i < r.brs.length) : filesV r r.brs[i].name = treeV r.commits r.brs[i].head := by
 unfold filesV
 rw [idxB_at h hi]
 simp [List.getElem?_eq_getElem hi]
theorem treeV_ok {l : List Commit} {id : Int} (h : id = 0 ∨ (idxC l id).isSome = true) : (treeV l id).2 = 0 := by
 unfold treeV
 split
 ·rfl
 ·next h0 =>
  obtain ⟨j, hj⟩ := Option.isSome_iff_exists.1 (h.resolve_left h0)
  rw [hj]
theorem files_ok {r : Repo} (h : OkR r) {i : Nat} (hi : i < r.brs.length) : (filesV r r.brs[i].name).2 = 0 ∧ rightT (filesV r r.brs[i].name).1 = 0 ∧ ∀ f ∈ (filesV r r.brs[i].name).1, ∃ t, getB r.store.blobs f.blob = some t := by
 rw [filesV_at h hi]
 refine ⟨treeV_ok (h.heads _ (List.getElem_mem hi)), treeV_right _ _, fun f hf => ?_⟩
 obtain ⟨c, h1, h2, h3⟩ := treeV_from _ _ f hf
 have := h.known c h1 f h2
 unfold knownV at this
 rw [decide_eq_false h3, Bool.false_or] at this
 exact Option.isSome_iff_exists.1 this
end Go.Hv
set_option linter.unusedVariables false
set_option linter.unusedSimpArgs false
/- The documents of a repository: in the order in which a map has them, and as the reference adds them. -/
namespace Go.Hv
/-! ### Keys in the order in which they come, of any type -/
def addK {α : Type} [DecidableEq α] (l : List α) (c : α) : List α := if c ∈ l then l else l ++ [c]
theorem addK_mem {α : Type} [DecidableEq α] (l : List α) (c x : α) : x ∈ addK l c ↔ x ∈ l ∨ x = c := by
 unfold addK
 split
 ·next h => exact ⟨.inl, fun h' => by rcases h' with h' | rfl; exact h'; exact h⟩
 ·simp
theorem addK_nodup {α : Type} [DecidableEq α] {l : List α} (h : l.Nodup) (c : α) : (addK l c).Nodup := by
 unfold addK
 split
 ·exact h
 ·next hc => rw [List.nodup_append]; exact ⟨h, by simp, fun a ha b hb => by simp at hb; subst hb; rintro rfl; exact hc ha⟩
abbrev KeyT := List UInt8 × List UInt8 × List UInt8
def keysE (p : List (KeyT × List UInt8)) : List KeyT := p.foldl (fun a x => addK a x.1) []
def onE (p : List (KeyT × List UInt8)) (k : KeyT) : List (List UInt8) := (p.filter fun x => decide (x.1 = k)).map Prod.snd
theorem keysE_snoc (p : List (KeyT × List UInt8)) (k : KeyT) (b : List UInt8) : keysE (p ++ [(k, b)]) = addK (keysE p) k := by simp [keysE]
theorem onE_snoc (p : List (KeyT × List UInt8)) (k k' : KeyT) (b : List UInt8) : onE (p ++ [(k, b)]) k' = onE p k' ++ (if k = k' then [b] else []) := by
 unfold onE
 rw [List.filter_append, List.map_append]
 congr 1
 by_cases h : k = k' <;> simp [h]
theorem keysE_mem (p : List (KeyT × List UInt8)) (k : KeyT) : k ∈ keysE p ↔ ∃ x ∈ p, x.1 = k := by
 have : ∀ (p : List (KeyT × List UInt8)) (a : List KeyT), k ∈ p.foldl (fun a x => addK a x.1) a ↔ k ∈ a ∨ ∃ x ∈ p, x.1 = k := by
  intro p
  induction p with
  | nil => simp
  | cons x p ih => intro a; rw [List.foldl_cons, ih, addK_mem]; simp [or_assoc, eq_comm]
 unfold keysE; rw [this]; simp
theorem keysE_nodup (p : List (KeyT × List UInt8)) : (keysE p).Nodup := by
 have : ∀ (p : List (KeyT × List UInt8)) (a : List KeyT), a.Nodup → (p.foldl (fun a x => addK a x.1) a).Nodup := by
  intro p
  induction p with
  | nil => exact fun a h => h
  | cons x p ih => exact fun a h => ih _ (addK_nodup h _)
 exact this p [] (by simp)
theorem keysE_length (p : List (KeyT × List UInt8)) : (keysE p).length ≤ p.length := by
 have : ∀ (p : List (KeyT × List UInt8)) (a : List KeyT), (p.foldl (fun a x => addK a x.1) a).length ≤ a.length + p.length := by
  intro p
  induction p with
  | nil => exact fun a => Nat.le_refl _
  | cons x p ih =>
   intro a
   rw [List.foldl_cons]
   refine Nat.le_trans (ih _) ?_
   have : (addK a x.1).length ≤ a.length + 1 := by unfold addK; split <;> simp
   simp; omega
 have := this p []
 simpa [keysE] using this
theorem onE_length (p : List (KeyT × List UInt8)) (k : KeyT) : (onE p k).length ≤ p.length := by
 unfold onE; rw [List.length_map]; exact List.length_filter_le _ _
theorem onE_none {p : List (KeyT × List UInt8)} {k : KeyT} (h : k ∉ keysE p) : onE p k = [] := by
 unfold onE
 rw [List.filter_eq_nil_iff.2 (fun x hx => by
  intro h2
  exact h ((keysE_mem p k).2 ⟨x, hx, of_decide_eq_true h2⟩))]
 rfl
theorem onE_ne {p : List (KeyT × List UInt8)} {k : KeyT} (h : k ∈ keysE p) : onE p k ≠ [] := by
 obtain ⟨x, hx, rfl⟩ := (keysE_mem p k).1 h
 unfold onE
 intro e
 have := List.map_eq_nil_iff.1 e
 have := (List.filter_eq_nil_iff.1 this) x hx
 simp at this
/-! ### The events of a repository -/
def evF (r : Repo) (b : List UInt8) (f : File) : KeyT × List UInt8 := ((r.name, f.path, (getB r.store.blobs f.blob).getD []), b)
def evBr (r : Repo) (b : Brch) : List (KeyT × List UInt8) := (filesV r b.name).1.map (evF r b.name)
def evRep (r : Repo) : List (KeyT × List UInt8) := r.brs.flatMap (evBr r)
def ltK (a b : KeyT) : Bool := if a.2.1 = b.2.1 then ltB a.2.2 b.2.2 else ltB a.2.1 b.2.1
theorem ltK_irrefl (a : KeyT) : ltK a a = false := by unfold ltK; rw [if_pos rfl, ltB_irrefl]
theorem ltK_trans {a b c : KeyT} (h1 : ltK a b = true) (h2 : ltK b c = true) : ltK a c = true := by
 unfold ltK at *
 by_cases e1 : a.2.1 = b.2.1
 ·rw [if_pos e1] at h1
  by_cases e2 : b.2.1 = c.2.1
  ·rw [if_pos e2] at h2; rw [if_pos (e1.trans e2)]; exact ltB_trans h1 h2
  ·rw [if_neg e2] at h2; rw [if_neg (by rw [e1]; exact e2), e1]; exact h2
 ·rw [if_neg e1] at h1
  by_cases e2 : b.2.1 = c.2.1
  ·rw [if_neg (by rw [← e2]; exact e1), ← e2]; exact h1
  ·rw [if_neg e2] at h2
   have := ltB_trans h1 h2
   rw [if_neg (ltB_ne this)]; exact this
theorem ltK_tri {a b : KeyT} (h0 : a.1 = b.1) (h1 : ltK a b = false) (h2 : ltK b a = false) : a = b := by
 unfold ltK at *
 by_cases e : a.2.1 = b.2.1
 ·rw [if_pos e] at h1; rw [if_pos e.symm] at h2
  exact Prod.ext h0 (Prod.ext e (ltB_tri h1 h2))
 ·rw [if_neg e] at h1; rw [if_neg (fun h => e h.symm)] at h2
  exact absurd (ltB_tri h1 h2) e
/-! ### As the reference adds them -/
def docE (e : KeyT × List UInt8) : Doc := ⟨0, e.1.1, e.1.2.1, e.1.2.2, [e.2]⟩
def overV (x : Doc) (e : KeyT × List UInt8) : Bool := ltB e.1.2.1 x.path || (decide (x.path = e.1.2.1) && ltB e.1.2.2 x.text)
def addR (e : KeyT × List UInt8) : Bool → List Doc → List Doc
 | inn, [] => if inn = true then [] else [docE e]
 | inn, x :: r =>
  if (!inn && decide (keyV x = e.1)) = true then { x with on := x.on ++ [e.2] } :: addR e true r
  else if (!inn && overV x e) = true then docE e :: x :: addR e true r
  else x :: addR e inn r
theorem addR_true (e : KeyT × List UInt8) : ∀ l, addR e true l = l
 | [] => rfl
 | x :: r => by simp [addR, addR_true e r]
def addD (l : List Doc) (e : KeyT × List UInt8) : List Doc := addR e false l
def mkD (p : List (KeyT × List UInt8)) (k : KeyT) : Doc := ⟨0, k.1, k.2.1, k.2.2, onE p k⟩
theorem keyV_mkD (p : List (KeyT × List UInt8)) (k : KeyT) : keyV (mkD p k) = k := rfl
def SortedK (l : List Doc) : Prop := l.Pairwise fun a b => ltK (keyV a) (keyV b) = true
theorem overV_eq (x : Doc) (e : KeyT × List UInt8) : overV x e = ltK e.1 (keyV x) := by
 unfold overV ltK keyV
 by_cases h : e.1.2.1 = x.path
 ·rw [if_pos h]; rw [← h]; simp [ltB_irrefl]
 ·rw [if_neg h, decide_eq_false (fun h' : x.path = e.1.2.1 => h h'.symm)]; simp
theorem addR_spec (n : List UInt8) (e : KeyT × List UInt8) (hn : e.1.1 = n) : ∀ (l : List Doc), SortedK l → (∀ d ∈ l, d.repo = n) →
  SortedK (addR e false l) ∧ ∀ d, d ∈ addR e false l ↔ (d ∈ l ∧ keyV d ≠ e.1) ∨ (∃ x ∈ l, keyV x = e.1 ∧ d = { x with on := x.on ++ [e.2] }) ∨ ((∀ x ∈ l, keyV x ≠ e.1) ∧ d = docE e)
 | [], _, _ => by simp [addR, SortedK]
 | x :: r, hs, hr => by
  have hs' := List.pairwise_cons.1 hs
  unfold addR
  by_cases h1 : keyV x = e.1
  ·rw [if_pos (by simp [h1]), addR_true]
   have hlt : ∀ y ∈ r, ltK e.1 (keyV y) = true := fun y hy => by rw [← h1]; exact hs'.1 y hy
   have hne : ∀ y ∈ r, keyV y ≠ e.1 := fun y hy he => by have := hlt y hy; rw [he, ltK_irrefl] at this; cases this
   refine ⟨List.pairwise_cons.2 ⟨fun y hy => hs'.1 y hy, hs'.2⟩, fun d => ?_⟩
   simp only [List.mem_cons]
   constructor
   ·rintro (rfl | hd)
    ·exact .inr (.inl ⟨x, .inl rfl, h1, rfl⟩)
    ·exact .inl ⟨.inr hd, hne d hd⟩
   ·rintro (⟨rfl | hd, hk⟩ | ⟨y, rfl | hy, hk, rfl⟩ | ⟨hk, _⟩)
    ·exact absurd h1 hk
    ·exact .inr hd
    ·exact .inl rfl
    ·exact absurd hk (hne y hy)
    ·exact absurd h1 (hk x (.inl rfl))
  ·rw [if_neg (by simp [h1])]
   cases h2 : overV x e with
   | true =>
    rw [if_pos (by rfl), addR_true]
    rw [overV_eq] at h2
    have hlt : ∀ y ∈ x :: r, ltK e.1 (keyV y) = true := fun y hy => by
     rcases List.mem_cons.1 hy with rfl | hy
     ·exact h2
     ·exact ltK_trans h2 (hs'.1 y hy)
    have hne : ∀ y ∈ x :: r, keyV y ≠ e.1 := fun y hy he => by have := hlt y hy; rw [he, ltK_irrefl] at this; cases this
    refine ⟨List.pairwise_cons.2 ⟨fun y hy => hlt y hy, hs⟩, fun d => ?_⟩
    rw [List.mem_cons]
    constructor
    ·rintro (rfl | hd)
     ·exact .inr (.inr ⟨hne, rfl⟩)
     ·exact .inl ⟨hd, hne d hd⟩
    ·rintro (⟨hd, hk⟩ | ⟨y, hy, hk, rfl⟩ | ⟨hk, rfl⟩)
     ·exact .inr hd
     ·exact absurd hk (hne y hy)
     ·exact .inl rfl
   | false =>
    rw [if_neg (by simp)]
    rw [overV_eq] at h2
    have IH := addR_spec n e hn r hs'.2 (fun d hd => hr d (by simp [hd]))
    have hxe : ltK (keyV x) e.1 = true := by
     cases hq : ltK (keyV x) e.1 with
     | true => rfl
     | false => exact absurd (ltK_tri (by rw [hn]; exact hr x (by simp)) hq h2) h1
    refine ⟨List.pairwise_cons.2 ⟨fun d hd => ?_, IH.1⟩, fun d => ?_⟩
    ·rcases (IH.2 d).1 hd with ⟨hd, _⟩ | ⟨y, hy, hk, rfl⟩ | ⟨_, rfl⟩
     ·exact hs'.1 d hd
     ·exact hs'.1 y hy
     ·exact hxe
    ·rw [List.mem_cons, IH.2 d]
     constructor
     ·rintro (rfl | ⟨hd, hk⟩ | ⟨y, hy, hk, rfl⟩ | ⟨hk, rfl⟩)
      ·exact .inl ⟨by simp, h1⟩
      ·exact .inl ⟨by simp [hd], hk⟩
      ·exact .inr (.inl ⟨y, by simp [hy], hk, rfl⟩)
      ·refine .inr (.inr ⟨fun y hy => ?_, rfl⟩)
       rcases List.mem_cons.1 hy with rfl | hy
       ·exact h1
       ·exact hk y hy
     ·rintro (⟨hd, hk⟩ | ⟨y, hy, hk, rfl⟩ | ⟨hk, rfl⟩)
      ·rcases List.mem_cons.1 hd with rfl | hd
       ·exact .inl rfl
       ·exact .inr (.inl ⟨hd, hk⟩)
      ·rcases List.mem_cons.1 hy with rfl | hy
       ·exact absurd hk h1
       ·exact .inr (.inr (.inl ⟨y, hy, hk, rfl⟩))
      ·exact .inr (.inr (.inr ⟨fun y hy => hk y (by simp [hy]), rfl⟩))
theorem addD_all (n : List UInt8) : ∀ (p : List (KeyT × List UInt8)), (∀ e ∈ p, e.1.1 = n) → SortedK (p.foldl addD []) ∧ ∀ d, d ∈ p.foldl addD [] ↔ ∃ k ∈ keysE p, d = mkD p k := by
 suffices H : ∀ (m : Nat) (p : List (KeyT × List UInt8)), p.length = m → (∀ e ∈ p, e.1.1 = n) → SortedK (p.foldl addD []) ∧ ∀ d, d ∈ p.foldl addD [] ↔ ∃ k ∈ keysE p, d = mkD p k from fun p => H p.length p rfl
 intro m
 induction m with
 | zero =>
  intro p hm _
  obtain rfl := List.eq_nil_of_length_eq_zero hm
  simp [SortedK, keysE]
 | succ m ih =>
  intro p hm hp
  obtain ⟨q, e, rfl⟩ : ∃ q e, p = q ++ [e] := by
   have hne : p ≠ [] := by rintro rfl; simp at hm
   exact ⟨p.dropLast, p.getLast hne, (List.dropLast_concat_getLast hne).symm⟩
  obtain ⟨h1, h2⟩ := ih q (by simpa using hm) (fun x hx => hp x (by simp [hx]))
  rw [List.foldl_append, List.foldl_cons, List.foldl_nil]
  have hq : ∀ d ∈ q.foldl addD [], d.repo = n := fun d hd => by
   obtain ⟨k, hk, rfl⟩ := (h2 d).1 hd
   obtain ⟨x, hx, rfl⟩ := (keysE_mem q k).1 hk
   exact hp x (by simp [hx])
  obtain ⟨k, b⟩ := e
  have S := addR_spec n (k, b) (hp (k, b) (by simp)) _ h1 hq
  refine ⟨S.1, fun d => ?_⟩
  show d ∈ addR (k, b) false _ ↔ _
  rw [S.2 d, keysE_snoc]
  have hmk : ∀ k', mkD (q ++ [(k, b)]) k' = if k = k' then { mkD q k' with on := onE q k' ++ [b] } else mkD q k' := fun k' => by
   unfold mkD
   rw [onE_snoc]
   split <;> simp
  constructor
  ·rintro (⟨hd, hk⟩ | ⟨x, hx, hk, rfl⟩ | ⟨hk, rfl⟩)
   ·obtain ⟨k', hk', rfl⟩ := (h2 d).1 hd
    exact ⟨k', (addK_mem _ _ _).2 (.inl hk'), by rw [hmk, if_neg (fun h => hk (by rw [keyV_mkD]; exact h.symm))]⟩
   ·obtain ⟨k', hk', rfl⟩ := (h2 x).1 hx
    rw [keyV_mkD] at hk
    exact ⟨k', (addK_mem _ _ _).2 (.inl hk'), by rw [hmk, if_pos hk.symm]; rfl⟩
   ·refine ⟨k, (addK_mem _ _ _).2 (.inr rfl), ?_⟩
    have hnk : k ∉ keysE q := fun h => hk (mkD q k) ((h2 _).2 ⟨k, h, rfl⟩) rfl
    rw [hmk, if_pos rfl, onE_none hnk]
    rfl
  ·rintro ⟨k', hk', rfl⟩
   rw [hmk]
   by_cases hkk : k = k'
   ·subst hkk
    rw [if_pos rfl]
    by_cases hin : k ∈ keysE q
    ·exact .inr (.inl ⟨mkD q k, (h2 _).2 ⟨k, hin, rfl⟩, rfl, rfl⟩)
    ·refine .inr (.inr ⟨fun x hx => ?_, ?_⟩)
     ·obtain ⟨k', hk', rfl⟩ := (h2 x).1 hx
      rw [keyV_mkD]
      intro e; rw [e] at hk'; exact hin hk'
     ·rw [onE_none hin]; rfl
   ·rw [if_neg hkk]
    refine .inl ⟨(h2 _).2 ⟨k', ?_, rfl⟩, fun h => hkk h.symm⟩
    rcases (addK_mem _ _ _).1 hk' with h | h
    ·exact h
    ·exact absurd h.symm hkk
def ofR (r : Repo) : List Doc := (evRep r).foldl addD []
theorem evR_name (r : Repo) : ∀ e ∈ evRep r, e.1.1 = r.name := fun e he => by
 unfold evRep evBr at he
 obtain ⟨b, _, he⟩ := List.mem_flatMap.1 he
 obtain ⟨f, _, rfl⟩ := List.mem_map.1 he
 rfl
theorem ofR_sorted (r : Repo) : SortedK (ofR r) := (addD_all r.name _ (evR_name r)).1
theorem ofR_mem (r : Repo) (d : Doc) : d ∈ ofR r ↔ ∃ k ∈ keysE (evRep r), d = mkD (evRep r) k := (addD_all r.name _ (evR_name r)).2 d
theorem ofR_eq (r : Repo) {s : List KeyT} (hp : s.Perm (keysE (evRep r))) (hs : s.Pairwise fun a b => ltK b a = false) : s.map (mkD (evRep r)) = ofR r := by
 have hn := hp.symm.nodup (keysE_nodup _)
 have hname : ∀ k ∈ s, k.1 = r.name := fun k hk => by
  obtain ⟨x, hx, rfl⟩ := (keysE_mem _ _).1 ((hp.mem_iff).1 hk)
  exact evR_name r x hx
 have hlt : s.Pairwise fun a b => ltK a b = true := by
  have : s.Pairwise fun a b => a ∈ s ∧ b ∈ s ∧ ltK b a = false ∧ a ≠ b := by
   rw [List.pairwise_iff_getElem] at hs ⊢
   intro i j hi hj hij
   exact ⟨List.getElem_mem _, List.getElem_mem _, hs i j hi hj hij, fun e => by
    have := (List.getElem_inj hn).1 e; omega⟩
  refine this.imp fun {a b} ⟨ha, hb, h1, h2⟩ => ?_
  cases hq : ltK a b with
  | true => rfl
  | false => exact absurd (ltK_tri ((hname a ha).trans (hname b hb).symm) hq h1) h2
 refine pw_unique (r := fun a b : Doc => ltK (keyV a) (keyV b) = true) (fun x hx => by rw [ltK_irrefl] at hx; cases hx) (fun h k => ltK_trans h k) ?_ (ofR_sorted r) fun d => ?_
 ·rw [List.pairwise_map]; exact hlt
 ·rw [ofR_mem, List.mem_map]
  constructor
  ·rintro ⟨k, hk, rfl⟩; exact ⟨k, (hp.mem_iff).1 hk, rfl⟩
  ·rintro ⟨k, hk, rfl⟩; exact ⟨k, (hp.mem_iff).2 hk, rfl⟩
end Go.Hv
set_option linter.unusedVariables false
set_option linter.unusedSimpArgs false
/- Change and Apply, in plain words. -/
namespace Go.Hv
structure Delta where
 new : List Doc
 dead : List Int
 moved : List Doc
 deriving DecidableEq
/-! ### Change -/
def findD (l : List Doc) (k : KeyT) : Option Doc := l.find? fun d => decide (keyV d = k)
def goneV (n : List UInt8) (now : List Doc) (d : Doc) : Bool := decide (d.repo = n) && (findD now (keyV d)).isNone
def movedV (n : List UInt8) (now : List Doc) (d : Doc) : Option Doc :=
 if d.repo = n then match findD now (keyV d) with
  | none => none
  | some x => if d.on = x.on then none else some ⟨d.id, [], [], [], x.on⟩
 else none
def numberV : List Doc → Int → List Doc
 | [], _ => []
 | d :: r, n => { d with id := n } :: numberV r (n + 1)
def freshV (l now : List Doc) : List Doc := now.filter fun d => (findD l (keyV d)).isNone
def changeV (l : List Doc) (r : Repo) (next : Int) : Delta :=
 ⟨numberV (freshV l (ofR r)) next, (l.filter (goneV r.name (ofR r))).map Doc.id, l.filterMap (movedV r.name (ofR r))⟩
theorem numberV_append : ∀ (a b : List Doc) (n : Int), numberV (a ++ b) n = numberV a n ++ numberV b (n + a.length)
 | [], b, n => by simp [numberV]
 | d :: a, b, n => by
  simp only [List.cons_append, numberV, numberV_append a b, List.length_cons]
  rw [show n + 1 + (a.length : Int) = n + ((a.length + 1 : Nat) : Int) by omega]
@[simp] theorem numberV_length : ∀ (a : List Doc) (n : Int), (numberV a n).length = a.length
 | [], _ => rfl
 | d :: a, n => by simp [numberV, numberV_length a]
theorem findD_isNone (l : List Doc) (k : KeyT) : (findD l k).isNone = decide (k ∉ l.map keyV) := by
 unfold findD
 rw [Bool.eq_iff_iff]
 simp
/-! ### Apply -/
def hasId (l : List Doc) (i : Int) : Bool := l.any fun d => decide (d.id = i)
def lastOn (moved : List Doc) (d : Doc) : List (List UInt8) := moved.foldl (fun on m => if m.id = d.id then m.on else on) d.on
def movV (moved : List Doc) (d : Doc) : Doc := { d with on := lastOn moved d }
def insD : List Doc → Doc → List Doc
 | [], d => [d]
 | x :: r, d => if d.id < x.id then d :: x :: r else x :: insD r d
def keptV (l : List Doc) (d : Delta) : List Doc := (l.filter fun x => aliveB d.dead x.id).map (movV d.moved)
def restV (l : List Doc) (d : Delta) : List Doc := (keptV l d ++ d.new).foldl insD []
def applyD (l : List Doc) (d : Delta) : List Doc × Int :=
 if d.dead.all (hasId l) = false then ([], 8)
 else if d.moved.all (fun m => hasId l m.id) = false then ([], 8)
 else if rightV (restV l d) ≠ 0 then ([], rightV (restV l d)) else (restV l d, 0)
/-! ### Inserting from the left is sorting in which equals stay in order -/
def leD (x y : Doc) : Bool := decide (x.id ≤ y.id)
theorem insD_perm : ∀ (l : List Doc) (d : Doc), (insD l d).Perm (d :: l)
 | [], d => List.Perm.refl _
 | x :: r, d => by
  unfold insD
  split
  ·exact List.Perm.refl _
  ·exact ((insD_perm r d).cons x).trans (List.Perm.swap d x r)
theorem insD_mem {l : List Doc} {d x : Doc} : x ∈ insD l d ↔ x = d ∨ x ∈ l := by rw [(insD_perm l d).mem_iff, List.mem_cons]
theorem insD_sorted : ∀ {l : List Doc} (d : Doc), l.Pairwise (fun x y => leD x y = true) → (insD l d).Pairwise (fun x y => leD x y = true)
 | [], d, _ => by simp [insD]
 | x :: r, d, h => by
  have h' := List.pairwise_cons.1 h
  unfold insD
  split
  ·next hlt =>
   refine List.pairwise_cons.2 ⟨fun y hy => ?_, h⟩
   rcases List.mem_cons.1 hy with rfl | hy
   ·simp only [leD, decide_eq_true_eq]; omega
   ·have := h'.1 y hy
    simp only [leD, decide_eq_true_eq] at this ⊢
    omega
  ·next hlt =>
   refine List.pairwise_cons.2 ⟨fun y hy => ?_, insD_sorted d h'.2⟩
   rcases insD_mem.1 hy with rfl | hy
   ·simp only [leD, decide_eq_true_eq]; omega
   ·exact h'.1 y hy
theorem insD_filter (i : Int) : ∀ (l : List Doc) (d : Doc), l.Pairwise (fun x y => leD x y = true) → (insD l d).filter (fun x => decide (x.id = i)) = l.filter (fun x => decide (x.id = i)) ++ if d.id = i then [d] else []
 | [], d, _ => by by_cases h : d.id = i <;> simp [insD, h]
 | x :: r, d, hp => by
  have hp' := List.pairwise_cons.1 hp
  unfold insD
  split
  ·next hlt =>
   have hnone : d.id = i → (x :: r).filter (fun x => decide (x.id = i)) = [] := fun h => by
    rw [List.filter_eq_nil_iff]
    intro y hy
    have : x.id ≤ y.id := by
     rcases List.mem_cons.1 hy with rfl | hy
     ·exact Int.le_refl _
     ·have := hp'.1 y hy; simpa [leD] using this
    simp only [decide_eq_true_eq]
    omega
   by_cases h : d.id = i
   ·rw [hnone h, List.filter_cons_of_pos (by simpa using h), hnone h, if_pos h]; rfl
   ·rw [List.filter_cons_of_neg (by simpa using h), if_neg h, List.append_nil]
  ·next hlt =>
   by_cases h : x.id = i
   ·rw [List.filter_cons_of_pos (by simpa using h), List.filter_cons_of_pos (by simpa using h), insD_filter i r d hp'.2]; rfl
   ·rw [List.filter_cons_of_neg (by simpa using h), List.filter_cons_of_neg (by simpa using h), insD_filter i r d hp'.2]
theorem foldIns (l : List Doc) : ∀ (a : List Doc), a.Pairwise (fun x y => leD x y = true) → (l.foldl insD a).Pairwise (fun x y => leD x y = true) ∧ (l.foldl insD a).Perm (a ++ l) ∧
  ∀ i, (l.foldl insD a).filter (fun x => decide (x.id = i)) = a.filter (fun x => decide (x.id = i)) ++ l.filter (fun x => decide (x.id = i)) := by
 induction l with
 | nil => intro a h; simpa using h
 | cons d l ih =>
  intro a h
  obtain ⟨h1, h2, h3⟩ := ih (insD a d) (insD_sorted d h)
  rw [List.foldl_cons]
  refine ⟨h1, h2.trans (((insD_perm a d).append_right l).trans ?_), fun i => ?_⟩
  ·exact (List.perm_middle (a := d) (l₁ := a) (l₂ := l)).symm
  ·rw [h3 i, insD_filter i a d h, List.append_assoc]
   congr 1
   by_cases e : d.id = i <;> simp [e]
theorem stable_unique : ∀ {a b : List Doc}, a.Pairwise (fun x y => leD x y = true) → b.Pairwise (fun x y => leD x y = true) → (∀ i, a.filter (fun x => decide (x.id = i)) = b.filter (fun x => decide (x.id = i))) → a = b
 | [], [], _, _, _ => rfl
 | [], y :: b, _, _, h => by have := h y.id; simp at this
 | x :: a, [], _, _, h => by have := h x.id; simp at this
 | x :: a, y :: b, ha, hb, h => by
  have ha' := List.pairwise_cons.1 ha
  have hb' := List.pairwise_cons.1 hb
  have hxy : x.id = y.id := by
   have h1 : x ∈ (y :: b) := by
    have := h x.id
    have hx : x ∈ (x :: a).filter (fun z => decide (z.id = x.id)) := by simp
    rw [this] at hx
    exact (List.mem_filter.1 hx).1
   have h2 : y ∈ (x :: a) := by
    have := h y.id
    have hx : y ∈ (y :: b).filter (fun z => decide (z.id = y.id)) := by simp
    rw [← this] at hx
    exact (List.mem_filter.1 hx).1
   have e1 : y.id ≤ x.id := by
    rcases List.mem_cons.1 h1 with e | e
    ·rw [e]; exact Int.le_refl _
    ·have := hb'.1 x e; simpa [leD] using this
   have e2 : x.id ≤ y.id := by
    rcases List.mem_cons.1 h2 with e | e
    ·rw [e]; exact Int.le_refl _
    ·have := ha'.1 y e; simpa [leD] using this
   omega
  have hh := h x.id
  rw [List.filter_cons_of_pos (by simp), List.filter_cons_of_pos (by simp [hxy])] at hh
  have hx : x = y := (List.cons.inj hh).1
  subst hx
  rw [stable_unique ha'.2 hb'.2 fun i => ?_]
  have := h i
  by_cases e : x.id = i
  ·rw [List.filter_cons_of_pos (by simpa using e), List.filter_cons_of_pos (by simpa using e)] at this
   exact (List.cons.inj this).2
  ·rwa [List.filter_cons_of_neg (by simpa using e), List.filter_cons_of_neg (by simpa using e)] at this
theorem leD_trans (a b c : Doc) (h1 : leD a b = true) (h2 : leD b c = true) : leD a c = true := by
 simp only [leD, decide_eq_true_eq] at *; omega
theorem leD_total (a b : Doc) : (leD a b || leD b a) = true := by
 simp only [leD, Bool.or_eq_true, decide_eq_true_eq]; omega
theorem sort_ins (l : List Doc) : l.mergeSort leD = l.foldl insD [] := by
 obtain ⟨h1, h2, h3⟩ := foldIns l [] List.Pairwise.nil
 have hs : (l.mergeSort leD).Pairwise (fun x y => leD x y = true) := List.pairwise_mergeSort leD_trans leD_total l
 refine stable_unique hs h1 fun i => ?_
 rw [h3 i, List.filter_nil, List.nil_append]
 have hc : (l.filter fun x => decide (x.id = i)).Pairwise (fun x y => leD x y = true) := by
  rw [List.pairwise_iff_forall_sublist]
  intro a b hab
  have ha : a ∈ l.filter fun x => decide (x.id = i) := hab.subset (by simp)
  have hb : b ∈ l.filter fun x => decide (x.id = i) := hab.subset (by simp)
  have e1 := of_decide_eq_true (List.mem_filter.1 ha).2
  have e2 := of_decide_eq_true (List.mem_filter.1 hb).2
  simp only [leD, decide_eq_true_eq]
  omega
 have hsub := List.sublist_mergeSort leD_trans leD_total hc List.filter_sublist
 have h4 := hsub.filter (fun x => decide (x.id = i))
 rw [List.filter_filter] at h4
 simp only [Bool.and_self] at h4
 refine (h4.eq_of_length ?_).symm
 exact ((List.mergeSort_perm l leD).filter _).length_eq.symm
end Go.Hv
set_option linter.unusedVariables false
set_option linter.unusedSectionVars false
set_option linter.unusedSimpArgs false
/- Files, commits, branches, blobs, keys and changes as rows. -/
namespace Go.Hv
open Go Go.RowKit
variable [GI]
@[simp] def File.enc (f : File) : List HV := [.str f.path, i64 f.blob]
@[simp] def Blob.enc (b : Blob) : List HV := [i64 b.id, .str b.text]
@[simp] def Brch.enc (b : Brch) : List HV := [.str b.name, i64 b.head]
@[simp] def encK3 (k : KeyT) : List HV := [.str k.1, .str k.2.1, .str k.2.2]
def filesHV (l : List File) : List (List HV) := l.map fun x => x.enc
@[simp] theorem filesHV_length (l : List File) : (filesHV l).length = l.length := by simp [filesHV]
@[simp] theorem filesHV_getElem (l : List File) (k : Nat) (h : k < (filesHV l).length) : (filesHV l)[k] = (fun x => x.enc) (l[k]'(by simpa using h)) := by simp [filesHV]
theorem filesHV_append (a b : List File) : filesHV (a ++ b) = filesHV a ++ filesHV b := by simp [filesHV]
@[simp] theorem filesHV_snoc (l : List File) (p : List UInt8) (b : Int) : filesHV l ++ [[.str p, i64 b]] = filesHV (l ++ [⟨p, b⟩]) := by simp [filesHV]
@[simp] theorem filesHV_nil : filesHV [] = [] := rfl
@[simp] theorem isILL_filesHV (l : List File) : isILL (filesHV l) = true := by
 unfold filesHV
 rw [isILL_iff]
 intro x hx
 obtain ⟨a, _, rfl⟩ := List.mem_map.1 hx
 simp [isIL, isI]
def blobsHV (l : List Blob) : List (List HV) := l.map fun x => x.enc
@[simp] theorem blobsHV_length (l : List Blob) : (blobsHV l).length = l.length := by simp [blobsHV]
@[simp] theorem blobsHV_getElem (l : List Blob) (k : Nat) (h : k < (blobsHV l).length) : (blobsHV l)[k] = (fun x => x.enc) (l[k]'(by simpa using h)) := by simp [blobsHV]
@[simp] theorem blobsHV_snoc (l : List Blob) (i : Int) (t : List UInt8) : blobsHV l ++ [[i64 i, .str t]] = blobsHV (l ++ [⟨i, t⟩]) := by simp [blobsHV]
@[simp] theorem blobsHV_nil : blobsHV [] = [] := rfl
@[simp] theorem isILL_blobsHV (l : List Blob) : isILL (blobsHV l) = true := by
 unfold blobsHV
 rw [isILL_iff]
 intro x hx
 obtain ⟨a, _, rfl⟩ := List.mem_map.1 hx
 simp [isIL, isI]
def brsHV (l : List Brch) : List (List HV) := l.map fun x => x.enc
@[simp] theorem brsHV_length (l : List Brch) : (brsHV l).length = l.length := by simp [brsHV]
@[simp] theorem brsHV_getElem (l : List Brch) (k : Nat) (h : k < (brsHV l).length) : (brsHV l)[k] = (fun x => x.enc) (l[k]'(by simpa using h)) := by simp [brsHV]
@[simp] theorem brsHV_snoc (l : List Brch) (p : List UInt8) (b : Int) : brsHV l ++ [[.str p, i64 b]] = brsHV (l ++ [⟨p, b⟩]) := by simp [brsHV]
@[simp] theorem brsHV_nil : brsHV [] = [] := rfl
@[simp] theorem isILL_brsHV (l : List Brch) : isILL (brsHV l) = true := by
 unfold brsHV
 rw [isILL_iff]
 intro x hx
 obtain ⟨a, _, rfl⟩ := List.mem_map.1 hx
 simp [isIL, isI]
def keysHV (l : List KeyT) : List (List HV) := l.map fun x => encK3 x
@[simp] theorem keysHV_length (l : List KeyT) : (keysHV l).length = l.length := by simp [keysHV]
@[simp] theorem keysHV_getElem (l : List KeyT) (k : Nat) (h : k < (keysHV l).length) : (keysHV l)[k] = (fun x => encK3 x) (l[k]'(by simpa using h)) := by simp [keysHV]
@[simp] theorem keysHV_snoc (l : List KeyT) (a b c : List UInt8) : keysHV l ++ [[.str a, .str b, .str c]] = keysHV (l ++ [(a, b, c)]) := by simp [keysHV]
@[simp] theorem keysHV_nil : keysHV [] = [] := rfl
@[simp] theorem isILL_keysHV (l : List KeyT) : isILL (keysHV l) = true := by
 unfold keysHV
 rw [isILL_iff]
 intro x hx
 obtain ⟨a, _, rfl⟩ := List.mem_map.1 hx
 simp [isIL, isI]
@[simp] def Commit.enc (c : Commit) : List HV := [i64 c.id, .sl 1 false (intsHV c.parents), .sl 2 false (filesHV c.changes), i64 c.time, i64 c.author]
def cmsHV (l : List Commit) : List (List HV) := l.map fun x => x.enc
@[simp] theorem cmsHV_length (l : List Commit) : (cmsHV l).length = l.length := by simp [cmsHV]
@[simp] theorem cmsHV_getElem (l : List Commit) (k : Nat) (h : k < (cmsHV l).length) : (cmsHV l)[k] = (fun x => x.enc) (l[k]'(by simpa using h)) := by simp [cmsHV]
@[simp] theorem cmsHV_snoc (l : List Commit) (i : Int) (p : List Int) (c : List File) (t a : Int) : cmsHV l ++ [[i64 i, .sl 1 false (intsHV p), .sl 2 false (filesHV c), i64 t, i64 a]] = cmsHV (l ++ [⟨i, p, c, t, a⟩]) := by simp [cmsHV]
@[simp] theorem cmsHV_nil : cmsHV [] = [] := rfl
@[simp] theorem isILL_cmsHV (l : List Commit) : isILL (cmsHV l) = true := by
 unfold cmsHV
 rw [isILL_iff]
 intro x hx
 obtain ⟨a, _, rfl⟩ := List.mem_map.1 hx
 simp [isIL, isI]
@[simp] def Store.enc (s : Store) : List HV := [i64 s.next, .sl 2 false (blobsHV s.blobs)]
@[simp] def Repo.enc (r : Repo) : List HV := [.str r.name, i64 r.store.next, .sl 2 false (blobsHV r.store.blobs), .sl 5 false (cmsHV r.commits), .sl 2 false (brsHV r.brs)]
@[simp] def Delta.enc (d : Delta) : List HV := [.sl 5 false (docsHV d.new), .sl 1 false (intsHV d.dead), .sl 5 false (docsHV d.moved)]
end Go.Hv
set_option linter.unusedVariables false
set_option linter.unusedSimpArgs false
namespace Go.Hv
open Go Go.Hv Go.Proofs
open Go.Proofs.YtcmomegkhoggpaaGreatDoor
theorem take_all_eq {a b : List Int} (hl : a.length = b.length) (h : ∀ i, i < a.length → a[i]? = b[i]?) : a = b := by
 apply List.ext_getElem?
 intro i
 rcases Nat.lt_or_ge i a.length with h1 | h1
 ·exact h i h1
 ·rw [List.getElem?_eq_none h1, List.getElem?_eq_none (by omega)]
theorem agree_succ {α : Type} {a b : List α} {k : Nat} (hg : ∀ i, i < k → a[i]? = b[i]?) (h : a[k]? = b[k]?) : ∀ i, i < k + 1 → a[i]? = b[i]? := fun i hi => by
 rcases Nat.lt_or_ge i k with h1 | h1
 ·exact hg i h1
 ·have : i = k := by omega
  subst this; exact h
theorem Ints_spec (f g : Bool) (a b : List Int) (ha : a.length ≤ 140737488355328) : Spec1 Tryz.prog 38 [.sl 1 f (intsHV a), .sl 1 g (intsHV b)] (bo (decide (a = b))) := by
 refine Spec1.of_HT Tryz.func38 rfl (by rw [Tryz.ntmps38]; simp) rfl ?_
 rw [Tryz.ntmps38]
 refine HT.seq ?_;refine HT.region ?_;simp (disch := first|omega|(simp<;>omega)|fail) [wr3]
 refine HT.seq ?_;refine HT.seq ?_
 by_cases c1 : ¬ a.length = b.length
 ·refine HT.region ?_;simp (disch := first|omega|(simp<;>omega)|fail) [wr3]
  refine HT.cond' ?_;simp (disch := first|omega|(simp<;>omega)|fail) [wr3]
  refine HT.seq ?_;refine HT.region ?_;simp (disch := first|omega|(simp<;>omega)|fail) [wr3]
  refine HT.ret ?_
  have : a ≠ b := fun h => c1 (by rw [h])
  simp (disch := first|omega|(simp<;>omega)|fail) [wr3, this]
 refine HT.region ?_;simp (disch := first|omega|(simp<;>omega)|fail) [wr3]
 refine HT.cond' ?_;simp (disch := first|omega|(simp<;>omega)|fail) [wr3]
 refine HT.skip ?_;simp (disch := first|omega|(simp<;>omega)|fail) [wr3]
 refine HT.seq ?_;refine HT.seq ?_;refine HT.region ?_;simp (disch := first|omega|(simp<;>omega)|fail) [wr3]
 refine HT.block ?_;refine HT.loopK (fun k : {k : Nat // k ≤ a.length ∧ ∀ i, i < k → a[i]? = b[i]?} => [.s 5 (i64 k)]) [0, 1] [] (fun k => a.length - k) (⟨0, by omega, by intro i hi; omega⟩) ?_ ?_
 ·simp (disch := first|omega|(simp<;>omega)|fail) [wr3]
 rintro ⟨k, hk, hg⟩
 simp (disch := first|omega|(simp<;>omega)|fail) [wr3]
 refine HT.seq ?_;refine HT.seq ?_;refine HT.region ?_;simp (disch := first|omega|(simp<;>omega)|fail) [wr3]
 refine HT.cond' ?_;simp (disch := first|omega|(simp<;>omega)|fail) [wr3]
 refine ⟨fun h14 => ?_, fun h14 => ?_⟩
 ·have hk' : k < a.length := by omega
  have hkb : k < b.length := by omega
  refine HT.skip ?_;simp (disch := first|omega|(simp<;>omega)|fail) [wr3]
  refine HT.seq ?_;refine HT.block ?_;refine HT.seq ?_;refine HT.draw [.batch [0, 1, 2, 3, 4, 5, 6, 7, 8]] (by kernel_rfl) ?_
  simp (disch := first|omega|(simp<;>omega)|fail) [wr3]
  refine HT.cond' ?_;simp (disch := first|omega|(simp<;>omega)|fail) [wr3]
  refine ⟨fun h25 => ?_, fun h25 => ?_⟩
  ·refine HT.seq ?_;refine HT.region ?_;simp (disch := first|omega|(simp<;>omega)|fail) [wr3]
   refine HT.ret ?_
   have : a ≠ b := fun h => by subst h; simp at h25
   simp (disch := first|omega|(simp<;>omega)|fail) [wr3, this]
  ·refine HT.skip ?_;simp (disch := first|omega|(simp<;>omega)|fail) [wr3]
   refine HT.region ?_;simp (disch := first|omega|(simp<;>omega)|fail) [wr3]
   refine Round.mk' (⟨k + 1, by omega, agree_succ hg (by rw [List.getElem?_eq_getElem hk', List.getElem?_eq_getElem hkb, h25])⟩) (by dsimp only; omega) rfl ?_
   simp (disch := first|omega|(simp<;>omega)|fail) [wr3]
 ·obtain rfl : k = a.length := by omega
  refine HT.exit ?_
  simp (disch := first|omega|(simp<;>omega)|fail) [wr3]
  refine HT.seq ?_;refine HT.region ?_;simp (disch := first|omega|(simp<;>omega)|fail) [wr3]
  refine HT.ret ?_
  have : a = b := take_all_eq (by omega) hg
  simp (disch := first|omega|(simp<;>omega)|fail) [wr3, this]
end Go.Hv
set_option linter.unusedVariables false
set_option linter.unusedSimpArgs false
namespace Go.Hv
open Go Go.Hv Go.Proofs
open Go.Proofs.YtcmomegkhoggpaaGreatDoor
end Go.Hv
set_option linter.unusedVariables false
set_option linter.unusedSimpArgs false
/- Stable order by a number, in plain lists: what merging in place by rotations gives. -/
namespace Go.Stab
variable {α : Type}
def Srt (key : α → Int) (l : List α) : Prop := l.Pairwise fun x y => key x ≤ key y
def Stb (key : α → Int) (a b : List α) : Prop := ∀ k : Int, a.filter (fun x => decide (key x = k)) = b.filter (fun x => decide (key x = k))
theorem Stb.refl (key : α → Int) (a : List α) : Stb key a a := fun _ => rfl
theorem Stb.symm {key : α → Int} {a b : List α} (h : Stb key a b) : Stb key b a := fun k => (h k).symm
theorem Stb.trans {key : α → Int} {a b c : List α} (h : Stb key a b) (g : Stb key b c) : Stb key a c := fun k => (h k).trans (g k)
theorem Stb.append {key : α → Int} {a b c d : List α} (h : Stb key a b) (g : Stb key c d) : Stb key (a ++ c) (b ++ d) := fun k => by
 rw [List.filter_append, List.filter_append, h k, g k]
theorem Stb.mem {key : α → Int} {a b : List α} (h : Stb key a b) (x : α) : x ∈ a ↔ x ∈ b := by
 have := h (key x)
 constructor
 ·intro hx
  have : x ∈ b.filter (fun y => decide (key y = key x)) := by rw [← this]; exact List.mem_filter.2 ⟨hx, by simp⟩
  exact (List.mem_filter.1 this).1
 ·intro hx
  have : x ∈ a.filter (fun y => decide (key y = key x)) := by rw [this]; exact List.mem_filter.2 ⟨hx, by simp⟩
  exact (List.mem_filter.1 this).1
theorem Stb.unique {key : α → Int} : ∀ {a b : List α}, Srt key a → Srt key b → Stb key a b → a = b
 | [], [], _, _, _ => rfl
 | [], y :: b, _, _, h => by have := (h.mem y).2 (by simp); simp at this
 | x :: a, [], _, _, h => by have := (h.mem x).1 (by simp); simp at this
 | x :: a, y :: b, ha, hb, h => by
  have h1 : key x ≤ key y := by
   rcases List.mem_cons.1 ((h.mem y).2 (by simp)) with e | e
   ·rw [e]; exact Int.le_refl _
   ·exact (List.pairwise_cons.1 ha).1 y e
  have h2 : key y ≤ key x := by
   rcases List.mem_cons.1 ((h.mem x).1 (by simp)) with e | e
   ·rw [e]; exact Int.le_refl _
   ·exact (List.pairwise_cons.1 hb).1 x e
  have he : key y = key x := by omega
  have hx := h (key x)
  simp only [List.filter_cons, he, decide_true, if_true, List.cons.injEq] at hx
  obtain ⟨rfl, _⟩ := hx
  have := Stb.unique (List.pairwise_cons.1 ha).2 (List.pairwise_cons.1 hb).2 (fun k => by
   have := h k
   simp only [List.filter_cons] at this
   by_cases e : key x = k
   ·simpa [e] using this
   ·simpa [e] using this)
  rw [this]
theorem filter_none {key : α → Int} {k : Int} {l : List α} (h : ∀ x ∈ l, key x ≠ k) : l.filter (fun x => decide (key x = k)) = [] := by
 rw [List.filter_eq_nil_iff]; intro x hx; simpa using h x hx
theorem Stb.swap {key : α → Int} {a b : List α} (h : ∀ x ∈ a, ∀ y ∈ b, key x ≠ key y) : Stb key (a ++ b) (b ++ a) := fun k => by
 rw [List.filter_append, List.filter_append]
 by_cases ha : ∃ x ∈ a, key x = k
 ·obtain ⟨x, hx, rfl⟩ := ha
  rw [filter_none (l := b) fun y hy e => h x hx y hy e.symm]; simp
 ·rw [filter_none (l := a) fun x hx e => ha ⟨x, hx, e⟩]; simp
theorem Srt.append {key : α → Int} {a b : List α} : Srt key (a ++ b) ↔ Srt key a ∧ Srt key b ∧ ∀ x ∈ a, ∀ y ∈ b, key x ≤ key y := by
 unfold Srt; rw [List.pairwise_append]
theorem Srt.of_stb {key : α → Int} {a a' b b' : List α} (ha : Srt key a') (hb : Srt key b') (h1 : Stb key a' a) (h2 : Stb key b' b) (h : ∀ x ∈ a, ∀ y ∈ b, key x ≤ key y) : Srt key (a' ++ b') :=
 Srt.append.2 ⟨ha, hb, fun x hx y hy => h x ((h1.mem x).1 hx) y ((h2.mem y).1 hy)⟩
def sw (l : List α) (i j : Nat) : List α := match l[i]?, l[j]? with
 | some x, some y => (l.set i y).set j x
 | _, _ => l
theorem sw_length (l : List α) (i j : Nat) : (sw l i j).length = l.length := by unfold sw; split <;> simp
theorem sw_at (p m s : List α) (x y : α) : sw (p ++ x :: (m ++ y :: s)) p.length (p.length + 1 + m.length) = p ++ y :: (m ++ x :: s) := by
 unfold sw
 have e1 : (p ++ x :: (m ++ y :: s))[p.length]? = some x := by simp
 have e2 : (p ++ x :: (m ++ y :: s))[p.length + 1 + m.length]? = some y := by
  rw [List.getElem?_append_right (by omega), show p.length + 1 + m.length - p.length = m.length + 1 by omega, List.getElem?_cons_succ, List.getElem?_append_right (Nat.le_refl _)]; simp
 rw [e1, e2]
 dsimp only
 rw [List.set_append_right _ _ (Nat.le_refl _), Nat.sub_self, List.set_cons_zero, List.set_append_right _ _ (by omega), show p.length + 1 + m.length - p.length = m.length + 1 by omega, List.set_cons_succ, List.set_append_right _ _ (Nat.le_refl _)]
 simp
theorem sw_comm (l : List α) (i j : Nat) (h : i ≠ j) : sw l i j = sw l j i := by
 unfold sw
 cases h1 : l[i]? <;> cases h2 : l[j]? <;> simp
 rw [List.set_comm _ _ h]
def swN (l : List α) (a b : Nat) : Nat → List α
 | 0 => l
 | n + 1 => sw (swN l a b n) (a + n) (b + n)
theorem swN_length (l : List α) (a b n : Nat) : (swN l a b n).length = l.length := by
 induction n with
 | zero => rfl
 | succ n ih => rw [swN, sw_length, ih]
theorem swN_at (p m s : List α) : ∀ (n : Nat) (u v : List α), u.length = v.length → n ≤ u.length → swN (p ++ u ++ m ++ v ++ s) p.length (p.length + u.length + m.length) n = p ++ (v.take n ++ u.drop n) ++ m ++ (u.take n ++ v.drop n) ++ s
 | 0, u, v, h, _ => by simp [swN]
 | n + 1, u, v, h, hn => by
  rw [swN, swN_at p m s n u v h (by omega)]
  have hu : u.drop n = u[n] :: u.drop (n + 1) := List.drop_eq_getElem_cons (by omega)
  have hv : v.drop n = v[n] :: v.drop (n + 1) := List.drop_eq_getElem_cons (by omega)
  have lu : (u.take n).length = n := by rw [List.length_take]; omega
  have lv : (v.take n).length = n := by rw [List.length_take]; omega
  have lt : (u.drop (n + 1)).length = u.length - (n + 1) := by simp
  have key := sw_at (p ++ v.take n) (u.drop (n + 1) ++ m ++ u.take n) (v.drop (n + 1) ++ s) u[n] v[n]
  have e1 : (p ++ v.take n).length = p.length + n := by rw [List.length_append, lv]
  have e2 : (p ++ v.take n).length + 1 + (u.drop (n + 1) ++ m ++ u.take n).length = p.length + u.length + m.length + n := by
   rw [e1, List.length_append, List.length_append, lu, lt]; omega
  rw [e2, e1] at key
  have hl : p ++ (v.take n ++ u.drop n) ++ m ++ (u.take n ++ v.drop n) ++ s = (p ++ v.take n) ++ u[n] :: (u.drop (n + 1) ++ m ++ u.take n ++ v[n] :: (v.drop (n + 1) ++ s)) := by
   rw [hu, hv]; simp only [List.append_assoc, List.cons_append]
  rw [hl, key, List.take_succ_eq_append_getElem (by omega : n < u.length), List.take_succ_eq_append_getElem (by omega : n < v.length)]
  simp only [List.append_assoc, List.cons_append, List.nil_append]
theorem swN_all (p m s u v : List α) (h : u.length = v.length) : swN (p ++ u ++ m ++ v ++ s) p.length (p.length + u.length + m.length) u.length = p ++ v ++ m ++ u ++ s := by
 rw [swN_at p m s u.length u v h (Nat.le_refl _), List.take_length, List.drop_length, h, List.take_length, List.drop_length]
 simp
def srtK (key : α → Int) (l : List α) : List α := l.mergeSort fun x y => decide (key x ≤ key y)
theorem srtK_srt (key : α → Int) (l : List α) : Srt key (srtK key l) := by
 have := List.pairwise_mergeSort (le := fun x y => decide (key x ≤ key y)) (fun a b c h1 h2 => by simp at *; omega) (fun a b => by simp; omega) l
 exact this.imp fun h => by simpa using h
theorem srtK_perm (key : α → Int) (l : List α) : (srtK key l).Perm l := List.mergeSort_perm l _
theorem srtK_length (key : α → Int) (l : List α) : (srtK key l).length = l.length := List.length_mergeSort l
theorem srtK_stb (key : α → Int) (l : List α) : Stb key (srtK key l) l := fun k => by
 have h1 : (l.filter fun x => decide (key x = k)).Sublist (srtK key l) := by
  refine List.sublist_mergeSort (le := fun x y => decide (key x ≤ key y)) (fun a b c h1 h2 => by simp at *; omega) (fun a b => by simp; omega) ?_ List.filter_sublist
  rw [List.pairwise_filter]
  have : ∀ (m : List α), m.Pairwise fun x y => decide (key x = k) = true → decide (key y = k) = true → decide (key x ≤ key y) = true := fun m => by
   induction m with
   | nil => exact List.Pairwise.nil
   | cons a m ih => exact List.pairwise_cons.2 ⟨fun b _ h1 h2 => by simp at *; omega, ih⟩
  exact this l
 have h2 : (l.filter fun x => decide (key x = k)).Sublist ((srtK key l).filter fun x => decide (key x = k)) := by
  have := h1.filter fun x => decide (key x = k)
  rwa [List.filter_filter, show (fun x : α => decide (key x = k) && decide (key x = k)) = fun x => decide (key x = k) from funext fun x => Bool.and_self _] at this
 have h3 : ((srtK key l).filter fun x => decide (key x = k)).length = (l.filter fun x => decide (key x = k)).length := ((srtK_perm key l).filter _).length_eq
 exact (h2.eq_of_length h3.symm).symm
theorem srtK_eq {key : α → Int} {l r : List α} (h1 : Srt key r) (h2 : Stb key r l) : srtK key l = r := Stb.unique (srtK_srt key l) h1 ((srtK_stb key l).trans h2.symm)
theorem srtK_of_srt {key : α → Int} {l : List α} (h : Srt key l) : srtK key l = l := srtK_eq h (Stb.refl key l)
theorem srtK_stb_eq {key : α → Int} {l r : List α} (h : Stb key l r) : srtK key l = srtK key r := srtK_eq (srtK_srt key r) ((srtK_stb key r).trans h.symm)
theorem Srt.sub {key : α → Int} {a b : List α} (h : Srt key b) (g : a.Sublist b) : Srt key a := h.sublist g
theorem srtK_put {key : α → Int} {x : α} {b1 b2 : List α} (hb : Srt key (b1 ++ b2)) (h1 : ∀ y ∈ b1, key y < key x) (h2 : ∀ y ∈ b2, key x ≤ key y) : srtK key (x :: (b1 ++ b2)) = b1 ++ x :: b2 := by
 obtain ⟨s1, s2, s3⟩ := Srt.append.1 hb
 refine srtK_eq (Srt.append.2 ⟨s1, List.pairwise_cons.2 ⟨h2, s2⟩, fun y hy z hz => ?_⟩) ?_
 ·rcases List.mem_cons.1 hz with rfl | hz
  ·have := h1 y hy; omega
  ·exact s3 y hy z hz
 ·have := (Stb.swap (key := key) (a := b1) (b := [x]) (fun y hy z hz => by simp only [List.mem_singleton] at hz; subst hz; have := h1 y hy; omega)).append (Stb.refl key b2)
  simpa using this
theorem srtK_ins {key : α → Int} {y : α} {a1 a2 : List α} (ha : Srt key (a1 ++ a2)) (h1 : ∀ x ∈ a1, key x ≤ key y) (h2 : ∀ x ∈ a2, key y < key x) : srtK key (a1 ++ a2 ++ [y]) = a1 ++ y :: a2 := by
 obtain ⟨s1, s2, s3⟩ := Srt.append.1 ha
 refine srtK_eq (Srt.append.2 ⟨s1, List.pairwise_cons.2 ⟨fun z hz => by have := h2 z hz; omega, s2⟩, fun x hx z hz => ?_⟩) ?_
 ·rcases List.mem_cons.1 hz with rfl | hz
  ·exact h1 x hx
  ·exact s3 x hx z hz
 ·have := (Stb.refl key a1).append (Stb.swap (key := key) (a := [y]) (b := a2) (fun z hz x hx => by simp only [List.mem_singleton] at hz; subst hz; have := h2 x hx; omega))
  simpa using this
theorem srtK_sym {key : α → Int} {a1 a2 b1 b2 : List α} (ha : Srt key (a1 ++ a2)) (hb : Srt key (b1 ++ b2)) (h1 : ∀ y ∈ b1, ∀ x ∈ a2, key y < key x) (h2 : ∀ x ∈ a1, ∀ y ∈ b2, key x ≤ key y) :
  srtK key (a1 ++ a2 ++ (b1 ++ b2)) = srtK key (a1 ++ b1) ++ srtK key (a2 ++ b2) := by
 obtain ⟨_, _, s3⟩ := Srt.append.1 ha
 obtain ⟨_, _, t3⟩ := Srt.append.1 hb
 refine srtK_eq (Srt.of_stb (srtK_srt key (a1 ++ b1)) (srtK_srt key (a2 ++ b2)) (srtK_stb key (a1 ++ b1)) (srtK_stb key (a2 ++ b2)) fun x hx y hy => ?_) ?_
 ·rcases List.mem_append.1 hx with hx | hx <;> rcases List.mem_append.1 hy with hy | hy
  ·exact s3 x hx y hy
  ·exact h2 x hx y hy
  ·have := h1 x hx y hy; omega
  ·exact t3 x hx y hy
 ·refine ((srtK_stb key (a1 ++ b1)).append (srtK_stb key (a2 ++ b2))).trans ?_
  have := ((Stb.refl key a1).append (Stb.swap (key := key) (a := b1) (b := a2) (fun y hy x hx => by have := h1 y hy x hx; omega))).append (Stb.refl key b2)
  simpa using this
theorem srtK_length2 (key : α → Int) (a b : List α) : (srtK key (a ++ b)).length = a.length + b.length := by rw [srtK_length, List.length_append]
theorem Srt.le_of {key : α → Int} {l : List α} (h : Srt key l) {i j : Nat} {x y : α} (hij : i ≤ j) (hx : l[i]? = some x) (hy : l[j]? = some y) : key x ≤ key y := by
 obtain ⟨hi, rfl⟩ := List.getElem?_eq_some_iff.1 hx
 obtain ⟨hj, rfl⟩ := List.getElem?_eq_some_iff.1 hy
 rcases Nat.lt_or_ge i j with h' | h'
 ·exact List.pairwise_iff_getElem.1 h i j hi hj h'
 ·obtain rfl : i = j := by omega
  exact Int.le_refl _
theorem get_l {p q : List α} {i : Nat} (h : i < p.length) : (p ++ q)[i]? = p[i]? := List.getElem?_append_left h
theorem get_r {p q : List α} {i : Nat} : (p ++ q)[p.length + i]? = q[i]? := by rw [List.getElem?_append_right (by omega)]; congr 1; omega
theorem srt_snoc {key : α → Int} {l : List α} {i : Nat} (h : i < l.length) : Stb key (srtK key (l.take i) ++ [l[i]]) (l.take (i + 1)) := by
 rw [List.take_succ_eq_append_getElem h]
 exact (srtK_stb key _).append (Stb.refl key _)
end Go.Stab
set_option linter.unusedVariables false
set_option linter.unusedSectionVars false
set_option linter.unusedSimpArgs false
/- What a sort is handed besides its row: a comparison that reads the row through a box, and the exchange of two elements. -/
namespace Go.Hv
open Go Go.RowKit Go.Stab Go.Lib
variable {P : Program}
section
variable [GI]
theorem ORel.irep {w : World} {dead dead' : Nat → Prop} {γ : Nat → Value} {bl : Nat → Option Nat} {id e sz : Nat} {es : List (List HV)} (R : ORel w dead γ bl id (.row e sz es)) (hI : isILL es = true) (hd : ∀ b, bl id = some b → ¬ dead' b) (hdd : ∀ b, dead' b → dead b) :
  IRep w dead' (.sl sz false es) (γ id) := by
 obtain ⟨hz, hl, R⟩ := R
 rcases R with ⟨rfl, ⟨A, hA⟩, _⟩ | ⟨b', cap, C, fr, h1, h2, h3, h4, h5, h6, h7, h8, h9⟩
 ·rw [hA]; exact .nil (fun h => by cases h) (fun _ => rfl)
 ·rw [h1]
  have hcell : ∀ i j, i < es.length → j < sz → ∃ v, C[i * sz + j]? = some v := by
   intro i j hi hj
   have : i * sz + j < C.size := by
    rw [h7]
    have : (i + 1) * sz ≤ cap * sz := Nat.mul_le_mul_right _ (by omega)
    rw [Nat.add_mul, Nat.one_mul] at this
    omega
   exact ⟨C[i * sz + j], Array.getElem?_eq_getElem this⟩
  refine .sl (fun i j => C.getD (i * sz + j) undef) hl h5 (fun h => by cases h) (hd b' h2) (lt_of_get h3) (fun i j hi hj => ?_) (fun i j hi hj => ?_) (fun i j x c hx hc => ?_)
  ·obtain ⟨v, hv⟩ := hcell i j hi hj
   simp [World.cell?, h3, hv, Array.getD_eq_getD_getElem?]
  ·obtain ⟨v, hv⟩ := hcell i j hi hj
   show (C.getD (i * sz + j) undef).oneCell' = true
   simp only [Array.getD_eq_getD_getElem?, hv, Option.getD_some]
   exact h8 _ _ hv
  ·obtain ⟨v, hv, hr⟩ := h9 i j x c hx hc
   show IRep w dead' c (C.getD (i * sz + j) undef)
   simp only [Array.getD_eq_getD_getElem?, hv, Option.getD_some]
   have hci : isI c = true := (isIL_iff _).1 (List.all_eq_true.1 hI x (List.mem_of_getElem? hx)) c (List.mem_of_getElem? hc)
   exact (hr.toI hci).mono (Nat.le_refl _) (fun _ _ _ => rfl) (fun b _ h => hdd b h)
theorem RowW.grow {w w' : World} {D : Nat → Prop} {V : Value} {ob : Option Nat} {e sz : Nat} {es : List (List HV)} (h : RowW w D V ob e sz es) (hs : w.heap.size ≤ w'.heap.size) (hw : ∀ b, b < w.heap.size → w'.heap[b]? = w.heap[b]?) : RowW w' D V ob e sz es := by
 obtain ⟨h1, h2, h3, h4⟩ := h
 refine ⟨h1, h2, fun b hb => ⟨(h3 b hb).1, Nat.lt_of_lt_of_le (h3 b hb).2 hs⟩, ?_⟩
 exact ORel.other hs (fun b h _ => hw b h) (fun _ _ h => h) rfl rfl (fun b _ h => hw b h) (fun h => h) (fun h v r => r.mono hs (fun b h _ => hw b h) (fun _ _ h => h)) (by simp [map_id_fun]) h4
theorem RowW.setElem {w : World} {D : Nat → Prop} {b n cap e sz : Nat} {es : List (List HV)} (h : RowW w D (.slice (some ⟨b, 0, none⟩) n cap) (some b) e sz es) {k : Nat} (hk : k < es.length) {xs : List HV} {vs : List Value} (hx : xs.length = sz) (hv : vs.length = sz)
  (hI : isIL xs = true) (h1 : ∀ v ∈ vs, v.oneCell' = true) (hr : ∀ (j : Nat) (c : HV) (v : Value), xs[j]? = some c → vs[j]? = some v → IRep w (fun x => D x ∨ b = x) c v) :
  RowW (w.setCells b (k * sz) vs) D (.slice (some ⟨b, 0, none⟩) n cap) (some b) e sz (es.set k xs) := by
 obtain ⟨g1, g2, g3, hz, hl, R⟩ := h
 refine ⟨g1, ?_, fun b' hb => ⟨(g3 b' hb).1, by rw [size_setCells]; exact (g3 b' hb).2⟩, hz, ?_, ?_⟩
 ·exact isILL_set es k xs g2 hI
 ·intro x hx'
  rcases List.mem_or_eq_of_mem_set hx' with h' | rfl
  ·exact hl x h'
  ·exact hx
 rcases R with ⟨rfl, _⟩ | ⟨b', cap', C, fr, k1, k2, k3, k4, k5, k6, k7, k8, k9⟩
 ·simp at hk
 obtain rfl : b = b' := by
  have k2 : some b = some b' := k2
  exact Option.some.inj k2
 have k1 : Value.slice (some ⟨b, 0, none⟩) n cap = .slice (some ⟨b, 0, none⟩) es.length cap' := k1
 cases k1
 have hfit : k * sz + vs.length ≤ C.size := by
  rw [k7, hv]
  have : (k + 1) * sz ≤ cap * sz := Nat.mul_le_mul_right _ (by omega)
  rw [Nat.add_mul, Nat.one_mul] at this
  exact this
 obtain ⟨C', q1, q2, q3⟩ := heap_setCells b e fr vs (k * sz) w C k3
 have hmono : ∀ {c : HV} {v : Value}, IRep w (fun x => D x ∨ b = x) c v → IRep (w.setCells b (k * sz) vs) (fun x => D x ∨ some b = some x) c v := fun r =>
  r.mono (by rw [size_setCells]; exact Nat.le_refl _) (fun x _ hd => heap_setCells_other b vs (k * sz) w x (fun e => hd (.inr e.symm))) (fun x _ hd => hd.imp id fun e => Option.some.inj e)
 refine .inr ⟨b, cap, C', fr, by rw [List.length_set], rfl, q1, by rw [q2]; exact k4, by rw [List.length_set]; exact k5, k6, by rw [q2]; exact k7, fun j v hj => ?_, fun i j x c hxi hc => ?_⟩
 ·rw [q3] at hj
  split at hj
  ·exact h1 v (List.mem_of_getElem? hj)
  ·exact k8 j v hj
 ·have hI2 : isI c = true := by
   have := isILL_set es k xs g2 hI
   exact (isIL_iff _).1 (List.all_eq_true.1 this x (List.mem_of_getElem? hxi)) c (List.mem_of_getElem? hc)
  rw [List.getElem?_set] at hxi
  split at hxi
  ·next hki =>
   subst hki
   cases hxi
   have hj := getElem?_lt hc
   have hvj : vs[j]? = some (vs[j]'(by omega)) := List.getElem?_eq_getElem (by omega)
   refine ⟨vs[j]'(by omega), ?_, .imm (hmono (hr j c _ hc hvj))⟩
   rw [q3, if_pos ⟨by omega, by omega, by omega⟩, show k * sz + j - k * sz = j by omega]
   exact hvj
  ·next hki =>
   obtain ⟨v, hv', hr'⟩ := k9 i j x c hxi hc
   refine ⟨v, ?_, .imm (hmono ((hr'.toI hI2).mono (Nat.le_refl _) (fun _ _ _ => rfl) (fun x _ hd => hd.imp id fun e => by rw [e])))⟩
   have hj : j < sz := by rw [← hl x (List.mem_of_getElem? hxi)]; exact getElem?_lt hc
   rw [q3, if_neg]
   ·exact hv'
   ·rintro ⟨p1, p2, _⟩
    rw [hv] at p2
    apply hki
    rcases Nat.lt_trichotomy i k with h' | h' | h'
    ·have := Nat.mul_le_mul_right sz (show i + 1 ≤ k from h')
     rw [Nat.add_mul, Nat.one_mul] at this
     omega
    ·exact h'.symm
    ·have := Nat.mul_le_mul_right sz (show k + 1 ≤ i from h')
     rw [Nat.add_mul, Nat.one_mul] at this
     omega
theorem RowW.elem {w : World} {D : Nat → Prop} {b n cap e sz : Nat} {es : List (List HV)} (h : RowW w D (.slice (some ⟨b, 0, none⟩) n cap) (some b) e sz es) {k : Nat} {x : List HV} (hk : es[k]? = some x) :
  n = es.length ∧ ∃ vs : List Value, vs.length = sz ∧ (∀ v ∈ vs, v.oneCell' = true) ∧ (∀ j v, vs[j]? = some v → w.cell? ⟨b, 0 + k * sz + j, none⟩ = some v) ∧ (∀ j, j < sz → w.frozen? ⟨b, 0 + k * sz + j, none⟩ = false) ∧
   (∀ (j : Nat) (c : HV) (v : Value), x[j]? = some c → vs[j]? = some v → IRep w (fun x => D x ∨ b = x) c v) := by
 obtain ⟨g1, g2, g3, hz, hl, R⟩ := h
 have hkl := getElem?_lt hk
 rcases R with ⟨rfl, _⟩ | ⟨b', cap', C, fr, k1, k2, k3, k4, k5, k6, k7, k8, k9⟩
 ·simp at hkl
 obtain rfl : b = b' := by
  have k2 : some b = some b' := k2
  exact Option.some.inj k2
 have k1 : Value.slice (some ⟨b, 0, none⟩) n cap = .slice (some ⟨b, 0, none⟩) es.length cap' := k1
 cases k1
 have hlt : ∀ j, j < sz → k * sz + j < C.size := fun j hj => by
  rw [k7]
  have : (k + 1) * sz ≤ cap * sz := Nat.mul_le_mul_right _ (by omega)
  rw [Nat.add_mul, Nat.one_mul] at this
  omega
 refine ⟨rfl, (List.range sz).map fun j => C.getD (k * sz + j) undef, by simp, fun v hv => ?_, fun j v hj => ?_, fun j hj => ?_, fun j c v hc hv => ?_⟩
 ·obtain ⟨j, hj, rfl⟩ := List.mem_map.1 hv
  have hj' := hlt j (List.mem_range.1 hj)
  rw [Array.getD_eq_getD_getElem?, Array.getElem?_eq_getElem hj']
  exact k8 _ _ (Array.getElem?_eq_getElem hj')
 ·have hjs : j < sz := by have := getElem?_lt hj; simpa using this
  rw [List.getElem?_map, List.getElem?_range hjs] at hj
  simp only [Option.map_some, Option.some.injEq] at hj
  subst hj
  have hj' := hlt j hjs
  rw [Nat.zero_add]
  simp [World.cell?, k3, hj', Array.getD_eq_getD_getElem?]
 ·rw [Nat.zero_add]
  simp only [World.frozen?, k3]
  have := k4 (k * sz + j) (hlt j hj)
  simpa using this
 ·have hjs : j < sz := by have := getElem?_lt hv; simpa using this
  rw [List.getElem?_map, List.getElem?_range hjs] at hv
  simp only [Option.map_some, Option.some.injEq] at hv
  subst hv
  obtain ⟨v, hv, hr⟩ := k9 k j x c hk hc
  rw [Array.getD_eq_getD_getElem?, hv]
  have hI2 : isI c = true := (isIL_iff _).1 (List.all_eq_true.1 g2 x (List.mem_of_getElem? hk)) c (List.mem_of_getElem? hc)
  exact (hr.toI hI2).mono (Nat.le_refl _) (fun _ _ _ => rfl) (fun x _ hd => hd.imp id fun e => by rw [e])
theorem SpecX.swap {sf : Nat} (gS : Bool) (hx : ∀ args W, (callFunc sf args).run P W = ((Extern.ReflectliteSwapper.swap gS args).run P W).andThen fun v w' => .ok (.value v) w')
  {e sz b n cap : Nat} {ie : TypeInfo} (hie : P.info? e = some ie) (hs : ie.size = sz) (hagg : ∀ w, (isAgg e).run P w = .ok true w) {es : List (List HV)} {i j : Nat} (hi : i < es.length) (hj : j < es.length) :
  SpecX P sf #[.slice (some ⟨b, 0, none⟩) n cap, typeHandle P e] [i64 i, i64 j] (.slice (some ⟨b, 0, none⟩) n cap) (some b) e sz es (.lit (.tuple #[])) (sw es i j) := by
 intro D w us hD hG hW hus hrep
 have hu0 : us[0]? = some (.int .i64 i) := by
  have h := Array.getElem?_eq_getElem (show 0 < us.size by rw [hus]; simp)
  rw [h, (irep_lit (hrep 0 _ _ rfl h))]
 have hu1 : us[1]? = some (.int .i64 j) := by
  have h := Array.getElem?_eq_getElem (show 1 < us.size by rw [hus]; simp)
  rw [h, (irep_lit (hrep 1 _ _ rfl h))]
 obtain rfl : us = #[.int .i64 i, .int .i64 j] := by
  apply Array.ext_getElem?
  intro k
  match k with
  | 0 => rw [hu0]; rfl
  | 1 => rw [hu1]; rfl
  | k + 2 => rw [Array.getElem?_eq_none (by rw [hus]; simp), Array.getElem?_eq_none (by simp)]
 have ei : es[i]? = some es[i] := List.getElem?_eq_getElem hi
 have ej : es[j]? = some es[j] := List.getElem?_eq_getElem hj
 subst hs
 have hlen := hW.2.2.2.2.1
 have lxi : es[i].length = ie.size := hlen _ (List.getElem_mem hi)
 have lxj : es[j].length = ie.size := hlen _ (List.getElem_mem hj)
 obtain ⟨hn, X, lX, oX, cX, fX, rX⟩ := hW.elem ei
 obtain ⟨_, Y, lY, oY, cY, fY, rY⟩ := hW.elem ej
 have hI : isILL es = true := hW.2.1
 have hIi : isIL es[i] = true := List.all_eq_true.1 hI _ (List.getElem_mem hi)
 have hIj : isIL es[j] = true := List.all_eq_true.1 hI _ (List.getElem_mem hj)
 have hrun := run_swap_cells (P := P) gS e ie hie hagg b 0 n cap i j (by omega) (by omega) X Y lX lY oX oY w (fun k v h => cX k v h) (fun k v h => cY k v h) fX fY
 refine .inr ⟨.tuple #[], (w.setCells b (i * ie.size) Y).setCells b (j * ie.size) X, ?_, ?_, ?_, .lit _⟩
 ·rw [hx, show (#[Value.int .i64 (i : Int), Value.int .i64 (j : Int)] ++ #[Value.slice (some ⟨b, 0, none⟩) n cap, typeHandle P e]) = #[.int .i64 i, .int .i64 j, .slice (some ⟨b, 0, none⟩) n cap, typeHandle P e] from rfl, hrun]
  simp only [Nat.zero_add, Result.andThen_ok]
 ·have nF : ¬ (fun x => x < w.heap.size ∧ some b ≠ some x) b := fun h => h.2 rfl
  exact Kept.setCells nF X _ (Kept.setCells nF Y _ (Kept.refl _ _))
 ·have h1 := hW.setElem hi lxj lY hIj oY rY
  have hm : ∀ {c : HV} {v : Value}, IRep w (fun x => D x ∨ b = x) c v → IRep (w.setCells b (i * ie.size) Y) (fun x => D x ∨ b = x) c v := fun r =>
   r.mono (by rw [size_setCells]; exact Nat.le_refl _) (fun x _ hd => heap_setCells_other b Y _ w x (fun e => hd (.inr e.symm))) (fun _ _ h => h)
  have h2 := h1.setElem (k := j) (by rw [List.length_set]; exact hj) lxi lX hIi oX (fun k c v hc hv => hm (rX k c v hc hv))
  unfold sw
  rw [ei, ej]
  exact h2
end
theorem SpecX.less {G0 : GI} {g e sz bB : Nat} {V : Value} {ob : Option Nat} {es : List (List HV)} {i j : Nat} {r : Bool} (hbody : hasBody P g = true) (hob : ob ≠ some bB) (hV : V.oneCell' = true)
  (h : @Spec1 G0 P g [i64 i, i64 j, .cptr [.sl sz false es]] (bo r)) :
  @SpecX (G0.box bB V) P g #[.pointer (some ⟨bB, 0, none⟩)] [i64 i, i64 j] V ob e sz es (bo r) es := by
 letI : GI := G0.box bB V
 intro D w us hD hG hW hus hrep
 refine .inl ⟨hbody, ?_⟩
 have hbl : bB < w.heap.size := (hG.sub bB (.inr rfl)).1
 have hcell : w.cell? ⟨bB, 0, none⟩ = some V := hG.g.2
 have hW' := hW
 obtain ⟨h1, h2, h3, h4⟩ := hW
 have hcall := h (fun b => D b ∧ b ≠ bB) w (us ++ #[.pointer (some ⟨bB, 0, none⟩)]) (fun b hb => hD b hb.1) hG.g.1 (by simp [hus]) (fun k c v hc hv => ?_)
 ·refine hcall.mono ?_
  rintro x w' ⟨v, rfl, hB, hI⟩
  exact ⟨v, rfl, ⟨hB.os, hB.tape, hB.output, hB.size, fun b hb => hB.block b hb.1⟩, hW'.grow hB.size (fun b hb => hB.block b hb), hI.scal rfl⟩
 ·have hk : k < 2 ∨ k = 2 := by
   have := getElem?_lt hc
   simp at this; omega
  rcases hk with hk | rfl
  ·rw [Array.getElem?_append_left (by rw [hus]; exact hk)] at hv
   have hc' : ([i64 i, i64 j] : List HV)[k]? = some c := by
    match k, hk with
    | 0, _ => simpa using hc
    | 1, _ => simpa using hc
   exact (hrep k c v hc' hv).mono (Nat.le_refl _) (fun _ _ _ => rfl) (fun b _ hb => .inl hb.1)
  ·rw [Array.getElem?_append_right (by rw [hus]; simp)] at hv
   have hv' : (#[Value.pointer (some ⟨bB, 0, none⟩)] : Array Value)[0]? = some v := by
    have : 2 - us.size = 0 := by rw [hus]; rfl
    rwa [this] at hv
   simp at hv' hc
   subst hv'; subst hc
   have hcr := ORel.irep h4 h2 (dead' := fun b => D b ∧ b ≠ bB) (fun b hb hd => (h3 b hb).1 hd.1) (fun b hd => .inl hd.1)
   refine .cptr (fun _ => V) (fun hd => hd.2 rfl) hbl (fun k hk => ?_) (fun k hk => hV) (fun k c hc => ?_)
   ·obtain rfl : k = 0 := by simpa using hk
    exact hcell
   ·obtain rfl : k = 0 := by have := getElem?_lt hc; simpa using this
    simp at hc
    subst hc
    exact hcr
end Go.Hv
set_option linter.unusedVariables false
set_option linter.unusedSectionVars false
set_option linter.unusedSimpArgs false
/- What a sort of the library leans on; the lists that come and go while it works. -/
namespace Go.Hv
open Go Go.RowKit Go.Stab
variable [GI]
@[simp] theorem oneCell_func (f : Fn) (a b : Array Value) : (Value.func f a b).oneCell' = true := rfl
@[simp] theorem isI_fnlit (v : Value) : isI (.lit v) = true := rfl
def mapE {α : Type} (enc : α → List HV) (l : List α) : List (List HV) := l.map enc
structure SortCtx {α : Type} (P : Program) (enc : α → List HV) (key : α → Int) (V : Value) (ob : Option Nat) (e sz : Nat) (g sf : Nat) (lb sb : Array Value) (N : Nat) : Prop where
 less : ∀ (l : List α) (i' j' : Nat) (i j : Int) (x y : α), l.length = N → i = i' → j = j' → l[i']? = some x → l[j']? = some y → SpecX P g lb [i64 i, i64 j] V ob e sz (mapE enc l) (bo (decide (key x < key y))) (mapE enc l)
 swap : ∀ (l : List α) (i' j' : Nat) (i j : Int), l.length = N → i = i' → j = j' → i' < l.length → j' < l.length → i' ≠ j' → SpecX P sf sb [i64 i, i64 j] V ob e sz (mapE enc l) (.lit (.tuple #[])) (mapE enc (sw l i' j'))
 il : ∀ l : List α, isILL (mapE enc l) = true
 hN : N ≤ 1000000
@[simp] def fnv (g : Nat) (lb : Array Value) : HV := .lit (.func (.func g) #[] lb)
end Go.Hv
namespace Go.Stab
variable {α : Type}
def insSt (p S : List α) (x : α) (s : List α) (m : Nat) : List α := p ++ (S.take m ++ x :: S.drop m) ++ s
theorem insSt_length (p S : List α) (x : α) (s : List α) (m : Nat) : (insSt p S x s m).length = p.length + S.length + 1 + s.length := by
 unfold insSt; simp; omega
theorem insSt_x (p S : List α) (x : α) (s : List α) {m : Nat} (hm : m ≤ S.length) : (insSt p S x s m)[p.length + m]? = some x := by
 unfold insSt
 have h1 : (S.take m).length = m := by rw [List.length_take]; omega
 rw [List.append_assoc, get_r, get_l (by rw [List.length_append, h1, List.length_cons]; omega), List.getElem?_append_right (by omega), h1, Nat.sub_self]
 rfl
theorem insSt_y (p S : List α) (x : α) (s : List α) {m : Nat} (hm : m < S.length) : (insSt p S x s (m + 1))[p.length + m]? = some S[m] := by
 unfold insSt
 have h1 : (S.take (m + 1)).length = m + 1 := by rw [List.length_take]; omega
 rw [List.append_assoc, get_r, get_l (by rw [List.length_append, h1]; omega), get_l (by omega), List.getElem?_take_of_lt (by omega), List.getElem?_eq_getElem hm]
theorem insSt_sw (p S : List α) (x : α) (s : List α) {m : Nat} (hm : m < S.length) : sw (insSt p S x s (m + 1)) (p.length + m + 1) (p.length + m) = insSt p S x s m := by
 rw [sw_comm _ _ _ (by omega)]
 have h1 : (S.take m).length = m := by rw [List.length_take]; omega
 have key := sw_at (p ++ S.take m) [] (S.drop (m + 1) ++ s) S[m] x
 rw [List.length_append, h1, List.length_nil, Nat.add_zero] at key
 have e1 : insSt p S x s (m + 1) = p ++ S.take m ++ S[m] :: ([] ++ x :: (S.drop (m + 1) ++ s)) := by
  unfold insSt; rw [List.take_succ_eq_append_getElem hm]; simp only [List.append_assoc, List.cons_append, List.nil_append]
 have e2 : insSt p S x s m = p ++ S.take m ++ x :: ([] ++ S[m] :: (S.drop (m + 1) ++ s)) := by
  unfold insSt; rw [List.drop_eq_getElem_cons hm]; simp only [List.append_assoc, List.cons_append, List.nil_append]
 rw [e1, e2, key]
theorem insSt_swr (p S : List α) (x : α) (s : List α) {m : Nat} (hm : m < S.length) : sw (insSt p S x s m) (p.length + m) (p.length + m + 1) = insSt p S x s (m + 1) := by
 have h1 : (S.take m).length = m := by rw [List.length_take]; omega
 have key := sw_at (p ++ S.take m) [] (S.drop (m + 1) ++ s) x S[m]
 rw [List.length_append, h1, List.length_nil, Nat.add_zero] at key
 have e1 : insSt p S x s (m + 1) = p ++ S.take m ++ S[m] :: ([] ++ x :: (S.drop (m + 1) ++ s)) := by
  unfold insSt; rw [List.take_succ_eq_append_getElem hm]; simp only [List.append_assoc, List.cons_append, List.nil_append]
 have e2 : insSt p S x s m = p ++ S.take m ++ x :: ([] ++ S[m] :: (S.drop (m + 1) ++ s)) := by
  unfold insSt; rw [List.drop_eq_getElem_cons hm]; simp only [List.append_assoc, List.cons_append, List.nil_append]
 rw [e1, e2, key]
theorem insSt_zero (p S : List α) (x : α) (s : List α) : insSt p S x s 0 = p ++ (x :: S) ++ s := by simp [insSt]
theorem insSt_last (p S : List α) (x : α) (s : List α) : insSt p S x s S.length = p ++ (S ++ [x]) ++ s := by simp [insSt]
def isK (key : α → Int) (p U s : List α) (k : Nat) : List α := p ++ srtK key (U.take k) ++ (U.drop k ++ s)
theorem isK_all (key : α → Int) (p U s : List α) {k : Nat} (hk : U.length ≤ k) : isK key p U s k = p ++ srtK key U ++ s := by
 unfold isK; rw [List.take_of_length_le hk, List.drop_of_length_le hk]; rfl
theorem isK_one (key : α → Int) (p U s : List α) : isK key p U s 1 = p ++ U ++ s := by
 unfold isK
 rw [srtK_of_srt]
 ·simp only [List.append_assoc]; rw [← List.append_assoc (U.take 1), List.take_append_drop]
 ·cases U with
  | nil => exact List.Pairwise.nil
  | cons x U => simp [Srt]
theorem isK_start (key : α → Int) (p U s : List α) {k : Nat} (hk : k < U.length) : isK key p U s k = insSt p (srtK key (U.take k)) U[k] (U.drop (k + 1) ++ s) k := by
 have h1 : (srtK key (U.take k)).length = k := by rw [srtK_length, List.length_take]; omega
 have e1 : (srtK key (U.take k)).take k = srtK key (U.take k) := List.take_of_length_le (by omega)
 have e2 : (srtK key (U.take k)).drop k = [] := List.drop_of_length_le (by omega)
 unfold isK insSt
 rw [e1, e2, List.drop_eq_getElem_cons hk]
 simp only [List.append_assoc, List.cons_append, List.nil_append]
theorem isK_end (key : α → Int) (p U s : List α) {k m : Nat} (hk : k < U.length) (hm : m ≤ k) (h1 : m = 0 ∨ ∃ y, (srtK key (U.take k))[m - 1]? = some y ∧ key y ≤ key U[k]) (h2 : ∀ y ∈ (srtK key (U.take k)).drop m, key U[k] < key y) :
  insSt p (srtK key (U.take k)) U[k] (U.drop (k + 1) ++ s) m = isK key p U s (k + 1) := by
 have hl : (srtK key (U.take k)).length = k := by rw [srtK_length, List.length_take]; omega
 have hs := srtK_srt key (U.take k)
 have key' : srtK key (U.take (k + 1)) = (srtK key (U.take k)).take m ++ U[k] :: (srtK key (U.take k)).drop m := by
  rw [← srtK_stb_eq (srt_snoc hk)]
  have hd : (srtK key (U.take k)).take m ++ (srtK key (U.take k)).drop m = srtK key (U.take k) := List.take_append_drop ..
  have := srtK_ins (key := key) (y := U[k]) (a1 := (srtK key (U.take k)).take m) (a2 := (srtK key (U.take k)).drop m) (by rw [hd]; exact hs) (fun x hx => ?_) h2
  ·rw [hd] at this; exact this
  ·rcases h1 with rfl | ⟨y, hy, hle⟩
   ·simp at hx
   ·obtain ⟨i, hi⟩ := List.mem_iff_getElem?.1 hx
    have hil : i < m := by have := List.getElem?_eq_some_iff.1 hi; obtain ⟨h, _⟩ := this; rw [List.length_take] at h; omega
    rw [List.getElem?_take_of_lt hil] at hi
    have := hs.le_of (show i ≤ m - 1 by omega) hi hy
    omega
 unfold insSt isK
 rw [key']
theorem rot_gt {p x y s : List α} (h : y.length < x.length) : swN (p ++ x ++ y ++ s) p.length (p.length + x.length) y.length = (p ++ y) ++ x.drop y.length ++ x.take y.length ++ s := by
 have h1 : (x.take y.length).length = y.length := by rw [List.length_take]; omega
 have := swN_all p (x.drop y.length) s (x.take y.length) y h1
 rw [h1] at this
 have e1 : p.length + y.length + (x.drop y.length).length = p.length + x.length := by rw [List.length_drop]; omega
 rw [e1] at this
 have e2 : p ++ x.take y.length ++ x.drop y.length ++ y ++ s = p ++ x ++ y ++ s := by
  rw [List.append_assoc p, List.take_append_drop]
 rw [e2] at this
 exact this
theorem rot_lt {p x y s : List α} (h : x.length < y.length) : swN (p ++ x ++ y ++ s) p.length (p.length + x.length + (y.length - x.length)) x.length = p ++ y.drop (y.length - x.length) ++ y.take (y.length - x.length) ++ (x ++ s) := by
 have h1 : x.length = (y.drop (y.length - x.length)).length := by rw [List.length_drop]; omega
 have := swN_all p (y.take (y.length - x.length)) s x (y.drop (y.length - x.length)) h1
 have e1 : (y.take (y.length - x.length)).length = y.length - x.length := by rw [List.length_take]; omega
 rw [e1] at this
 have e2 : p ++ x ++ y.take (y.length - x.length) ++ y.drop (y.length - x.length) ++ s = p ++ x ++ y ++ s := by
  rw [List.append_assoc (p ++ x), List.take_append_drop]
 rw [e2] at this
 rw [this]; simp only [List.append_assoc]
theorem rot_eq {p x y s : List α} (h : x.length = y.length) : swN (p ++ x ++ y ++ s) p.length (p.length + x.length) x.length = p ++ y ++ x ++ s := by
 have := swN_all p [] s x y h
 simpa using this
end Go.Stab
namespace Go.Stab
variable {α : Type}
theorem fdiv_half {m : Nat} (z : Int) (h : z = 2 * m ∨ z = 2 * m + 1) : z.fdiv (2 ^ min 1 Go.IntKind.u64.bits) = (m : Int) := by
 show Int.fdiv z 2 = m
 rw [Int.fdiv_eq_ediv_of_nonneg _ (by omega)]; omega
theorem at4_a {p A B s : List α} {i : Nat} (h : i < A.length) : (p ++ A ++ B ++ s)[p.length + i]? = A[i]? := by
 rw [List.append_assoc, List.append_assoc, get_r, get_l h]
theorem at4_b {p A B s : List α} {i : Nat} (h : i < B.length) : (p ++ A ++ B ++ s)[p.length + A.length + i]? = B[i]? := by
 rw [List.append_assoc, ← List.length_append, get_r, get_l h]
theorem put_end {key : α → Int} {p B s : List α} {x : α} {u : Nat} (hB : Srt key B) (h1 : ∀ i y, i < u → B[i]? = some y → key y < key x) (h2 : ∀ i y, u ≤ i → B[i]? = some y → key x ≤ key y) (hu : u ≤ B.length) :
  insSt p B x s u = p ++ srtK key ([x] ++ B) ++ s := by
 have hd : B.take u ++ B.drop u = B := List.take_append_drop ..
 have := srtK_put (key := key) (x := x) (b1 := B.take u) (b2 := B.drop u) (by rw [hd]; exact hB) (fun y hy => by
  obtain ⟨i, hi⟩ := List.mem_iff_getElem?.1 hy
  have hiu : i < u := by obtain ⟨h, _⟩ := List.getElem?_eq_some_iff.1 hi; rw [List.length_take] at h; omega
  rw [List.getElem?_take_of_lt hiu] at hi
  exact h1 i y hiu hi) (fun y hy => by
  obtain ⟨i, hi⟩ := List.mem_iff_getElem?.1 hy
  rw [List.getElem?_drop] at hi
  exact h2 _ y (by omega) hi)
 rw [hd] at this
 unfold insSt
 rw [show [x] ++ B = x :: B from rfl, this]
theorem ins_end {key : α → Int} {p A s : List α} {y : α} {u : Nat} (hA : Srt key A) (h1 : ∀ i x, i < u → A[i]? = some x → key x ≤ key y) (h2 : ∀ i x, u ≤ i → A[i]? = some x → key y < key x) (hu : u ≤ A.length) :
  insSt p A y s u = p ++ srtK key (A ++ [y]) ++ s := by
 have hd : A.take u ++ A.drop u = A := List.take_append_drop ..
 have := srtK_ins (key := key) (y := y) (a1 := A.take u) (a2 := A.drop u) (by rw [hd]; exact hA) (fun x hx => by
  obtain ⟨i, hi⟩ := List.mem_iff_getElem?.1 hx
  have hiu : i < u := by obtain ⟨h, _⟩ := List.getElem?_eq_some_iff.1 hi; rw [List.length_take] at h; omega
  rw [List.getElem?_take_of_lt hiu] at hi
  exact h1 i x hiu hi) (fun x hx => by
  obtain ⟨i, hi⟩ := List.mem_iff_getElem?.1 hx
  rw [List.getElem?_drop] at hi
  exact h2 _ x (by omega) hi)
 rw [hd] at this
 unfold insSt
 rw [this]
theorem cut_end {key : α → Int} {A B : List α} {u v : Nat} (hA : Srt key A) (hB : Srt key B) (hu : u ≤ A.length) (hv : v ≤ B.length)
  (h1 : u = A.length ∨ v = 0 ∨ ∃ x y, A[u]? = some x ∧ B[v - 1]? = some y ∧ key y < key x) (h2 : u = 0 ∨ v = B.length ∨ ∃ x y, A[u - 1]? = some x ∧ B[v]? = some y ∧ key x ≤ key y) :
  srtK key (A ++ B) = srtK key (A.take u ++ B.take v) ++ srtK key (A.drop u ++ B.drop v) := by
 have dA : A.take u ++ A.drop u = A := List.take_append_drop ..
 have dB : B.take v ++ B.drop v = B := List.take_append_drop ..
 have := srtK_sym (key := key) (a1 := A.take u) (a2 := A.drop u) (b1 := B.take v) (b2 := B.drop v) (by rw [dA]; exact hA) (by rw [dB]; exact hB) (fun y hy x hx => ?_) (fun x hx y hy => ?_)
 ·rw [dA, dB] at this; exact this
 ·obtain ⟨i, hi⟩ := List.mem_iff_getElem?.1 hy
  have hiu : i < v := by obtain ⟨h, _⟩ := List.getElem?_eq_some_iff.1 hi; rw [List.length_take] at h; omega
  rw [List.getElem?_take_of_lt hiu] at hi
  obtain ⟨j, hj⟩ := List.mem_iff_getElem?.1 hx
  rw [List.getElem?_drop] at hj
  rcases h1 with rfl | rfl | ⟨x0, y0, e1, e2, h⟩
  ·obtain ⟨h, _⟩ := List.getElem?_eq_some_iff.1 hj; omega
  ·omega
  ·have a1 := hA.le_of (show u ≤ u + j by omega) e1 hj
   have a2 := hB.le_of (show i ≤ v - 1 by omega) hi e2
   omega
 ·obtain ⟨i, hi⟩ := List.mem_iff_getElem?.1 hx
  have hiu : i < u := by obtain ⟨h, _⟩ := List.getElem?_eq_some_iff.1 hi; rw [List.length_take] at h; omega
  rw [List.getElem?_take_of_lt hiu] at hi
  obtain ⟨j, hj⟩ := List.mem_iff_getElem?.1 hy
  rw [List.getElem?_drop] at hj
  rcases h2 with rfl | rfl | ⟨x0, y0, e1, e2, h⟩
  ·omega
  ·obtain ⟨h, _⟩ := List.getElem?_eq_some_iff.1 hj; omega
  ·have a1 := hA.le_of (show i ≤ u - 1 by omega) hi e1
   have a2 := hB.le_of (show v ≤ v + j by omega) e2 hj
   omega
end Go.Stab
namespace Go.Stab
variable {α : Type}
theorem qT {key : α → Int} {A B : List α} (hA : Srt key A) (hB : Srt key B) {x y : α} {u v u' v' : Nat} (hx : A[u]? = some x) (hy : B[v]? = some y) (h : key x ≤ key y) (hu : u' ≤ u) (hv : v ≤ v') (hv' : v' < B.length) :
  ∃ x' y', A[u']? = some x' ∧ B[v']? = some y' ∧ key x' ≤ key y' := by
 have hul := (List.getElem?_eq_some_iff.1 hx).1
 have e1 : A[u']? = some (A[u']'(by omega)) := List.getElem?_eq_getElem (by omega)
 have e2 : B[v']? = some B[v'] := List.getElem?_eq_getElem hv'
 have a1 := hA.le_of hu e1 hx
 have a2 := hB.le_of hv hy e2
 exact ⟨_, _, e1, e2, by omega⟩
theorem qF {key : α → Int} {A B : List α} (hA : Srt key A) (hB : Srt key B) {x y : α} {u v u' v' : Nat} (hx : A[u]? = some x) (hy : B[v]? = some y) (h : key y < key x) (hu : u ≤ u') (hv : v' ≤ v) (hu' : u' < A.length) :
  ∃ x' y', A[u']? = some x' ∧ B[v']? = some y' ∧ key y' < key x' := by
 have hvl := (List.getElem?_eq_some_iff.1 hy).1
 have e1 : A[u']? = some A[u'] := List.getElem?_eq_getElem hu'
 have e2 : B[v']? = some (B[v']'(by omega)) := List.getElem?_eq_getElem (by omega)
 have a1 := hA.le_of hu hx e1
 have a2 := hB.le_of hv e2 hy
 exact ⟨_, _, e1, e2, by omega⟩
theorem srtK_left {key : α → Int} {A B : List α} {u v : Nat} (hA : Srt key A) (hB : Srt key B) (h : u = 0 ∨ v = 0) : srtK key (A.take u ++ B.take v) = A.take u ++ B.take v := by
 refine srtK_of_srt ?_
 rcases h with rfl | rfl
 ·simpa using hB.sub (List.take_sublist v B)
 ·simpa using hA.sub (List.take_sublist u A)
theorem srtK_right {key : α → Int} {A B : List α} {u v : Nat} (hA : Srt key A) (hB : Srt key B) (h : A.length ≤ u ∨ B.length ≤ v) : srtK key (A.drop u ++ B.drop v) = A.drop u ++ B.drop v := by
 refine srtK_of_srt ?_
 rcases h with h | h
 ·rw [List.drop_of_length_le h]; simpa using hB.sub (List.drop_sublist v B)
 ·rw [List.drop_of_length_le h]; simpa using hA.sub (List.drop_sublist u A)
end Go.Stab
namespace Go.Stab
variable {α : Type}
def blkAt (c i : Nat) (l : List α) : List α := (l.drop (i * c)).take c
theorem blkAt_other {c i : Nat} {P X X' S : List α} (hl : X'.length = X.length) (h : i * c + c ≤ P.length ∨ P.length + X.length ≤ i * c) : blkAt c i (P ++ X' ++ S) = blkAt c i (P ++ X ++ S) := by
 unfold blkAt
 rcases h with h | h
 ·rw [List.append_assoc, List.append_assoc, List.drop_append_of_le_length (by omega), List.drop_append_of_le_length (by omega), List.take_append_of_le_length (by rw [List.length_drop]; omega), List.take_append_of_le_length (by rw [List.length_drop]; omega)]
 ·have e1 : (P ++ X' ++ S).drop (i * c) = S.drop (i * c - (P.length + X.length)) := by
   rw [List.drop_append, List.drop_of_length_le (by rw [List.length_append]; omega), List.nil_append, List.length_append, hl]
  have e2 : (P ++ X ++ S).drop (i * c) = S.drop (i * c - (P.length + X.length)) := by
   rw [List.drop_append, List.drop_of_length_le (by rw [List.length_append]; omega), List.nil_append, List.length_append]
  rw [e1, e2]
theorem blkAt_here {c i : Nat} {P X S : List α} (hp : P.length = i * c) (h : X.length = c ∨ (X.length ≤ c ∧ S = [])) : blkAt c i (P ++ X ++ S) = X := by
 unfold blkAt
 rw [List.append_assoc, ← hp, List.drop_left]
 rcases h with h | ⟨h, rfl⟩
 ·rw [List.take_append_of_le_length (by omega), List.take_of_length_le (by omega)]
 ·rw [List.append_nil, List.take_of_length_le h]
theorem blkAt_far {c i : Nat} {l : List α} (h : l.length ≤ i * c) : blkAt c i l = [] := by unfold blkAt; simp [List.drop_of_length_le h]
theorem cut3 (l : List α) (a c : Nat) : l.take a ++ (l.drop a).take c ++ l.drop (a + c) = l := by
 rw [List.append_assoc, ← List.drop_drop, List.take_append_drop, List.take_append_drop]
theorem cut4 (l : List α) (a c d : Nat) : l.take a ++ (l.drop a).take c ++ (l.drop (a + c)).take d ++ l.drop (a + c + d) = l := by
 have e1 := cut3 l (a + c) d
 have e2 : l.take (a + c) = l.take a ++ (l.drop a).take c := by
  rw [List.take_add]
 rw [← e2]; exact e1
theorem stb_mid {key : α → Int} {P X X' S : List α} (h : Stb key X' X) : Stb key (P ++ X' ++ S) (P ++ X ++ S) := ((Stb.refl key P).append h).append (Stb.refl key S)
theorem srt_nil (key : α → Int) : Srt key ([] : List α) := List.Pairwise.nil
theorem ins_step {key : α → Int} {c j : Nat} {l : List α} (hc : 0 < c) (h : ∀ i, i < j → Srt key (blkAt c i l)) (hj : j * c ≤ l.length) :
  (∀ i, i < j + 1 → Srt key (blkAt c i (l.take (j * c) ++ srtK key ((l.drop (j * c)).take c) ++ l.drop (j * c + c)))) ∧ Stb key (l.take (j * c) ++ srtK key ((l.drop (j * c)).take c) ++ l.drop (j * c + c)) l := by
 have hl := cut3 l (j * c) c
 have hP : (l.take (j * c)).length = j * c := by rw [List.length_take]; omega
 have hX := srtK_length key ((l.drop (j * c)).take c)
 refine ⟨fun i hi => ?_, ?_⟩
 ·by_cases e : i = j
  ·subst e
   rw [blkAt_here hP]
   ·exact srtK_srt ..
   ·rw [hX, List.length_take, List.length_drop]
    by_cases hc2 : c ≤ l.length - i * c
    ·left; omega
    ·right; exact ⟨by omega, List.drop_of_length_le (by omega)⟩
  ·rw [blkAt_other hX, hl]
   ·exact h i (by omega)
   ·left; rw [hP]
    have := Nat.mul_le_mul_right c (show i + 1 ≤ j by omega)
    rw [Nat.add_mul, Nat.one_mul] at this; exact this
 ·have := stb_mid (P := l.take (j * c)) (S := l.drop (j * c + c)) (srtK_stb key ((l.drop (j * c)).take c))
  rw [hl] at this; exact this
theorem mrg_step {key : α → Int} {c j : Nat} {l : List α} (hc : 0 < c) (h1 : ∀ i, i < j → Srt key (blkAt (2 * c) i l)) (h2 : ∀ i, 2 * j ≤ i → Srt key (blkAt c i l)) (hj : j * (2 * c) ≤ l.length) :
  let A := (l.drop (j * (2 * c))).take c; let B := (l.drop (j * (2 * c) + c)).take c
  let l' := l.take (j * (2 * c)) ++ srtK key (A ++ B) ++ l.drop (j * (2 * c) + c + c)
  Srt key A ∧ Srt key B ∧ (∀ i, i < j + 1 → Srt key (blkAt (2 * c) i l')) ∧ (∀ i, 2 * (j + 1) ≤ i → Srt key (blkAt c i l')) ∧ Stb key l' l := by
 intro A B l'
 have hl : l.take (j * (2 * c)) ++ (A ++ B) ++ l.drop (j * (2 * c) + c + c) = l := by
  have := cut4 l (j * (2 * c)) c c
  rw [← List.append_assoc]; exact this
 have hP : (l.take (j * (2 * c))).length = j * (2 * c) := by rw [List.length_take]; omega
 have hX : (srtK key (A ++ B)).length = (A ++ B).length := srtK_length key _
 have hA : A.length = min c (l.length - j * (2 * c)) := by simp [A]
 have hB : B.length = min c (l.length - (j * (2 * c) + c)) := by simp [B]
 have hAB : (A ++ B).length = A.length + B.length := List.length_append
 have e0 : 2 * j * c = j * (2 * c) := by rw [Nat.mul_comm 2 j, Nat.mul_assoc]
 refine ⟨?_, ?_, fun i hi => ?_, fun i hi => ?_, ?_⟩
 ·have := h2 (2 * j) (Nat.le_refl _)
  unfold blkAt at this; rw [e0] at this; exact this
 ·have := h2 (2 * j + 1) (by omega)
  unfold blkAt at this; rw [Nat.add_mul, Nat.one_mul, e0] at this; exact this
 ·by_cases e : i = j
  ·subst e
   rw [blkAt_here hP]
   ·exact srtK_srt ..
   ·by_cases hc2 : 2 * c ≤ l.length - i * (2 * c)
    ·left; omega
    ·right; exact ⟨by omega, List.drop_of_length_le (by omega)⟩
  ·rw [blkAt_other hX, hl]
   ·exact h1 i (by omega)
   ·left; rw [hP]
    have := Nat.mul_le_mul_right (2 * c) (show i + 1 ≤ j by omega)
    rw [Nat.add_mul, Nat.one_mul] at this; exact this
 ·by_cases hc2 : 2 * c ≤ l.length - j * (2 * c)
  ·rw [blkAt_other hX, hl]
   ·exact h2 i (by omega)
   ·right; rw [hP, hAB]
    have := Nat.mul_le_mul_right c hi
    rw [Nat.mul_comm 2 (j + 1), Nat.mul_assoc, Nat.add_mul, Nat.one_mul] at this
    omega
  ·rw [blkAt_far]
   ·exact srt_nil key
   ·have hll : l'.length = l.length := by
     have := congrArg List.length hl
     simp only [List.length_append] at this
     show (l.take (j * (2 * c)) ++ srtK key (A ++ B) ++ l.drop (j * (2 * c) + c + c)).length = l.length
     rw [List.length_append, List.length_append, hX, List.length_append]; omega
    have := Nat.mul_le_mul_right c hi
    rw [Nat.mul_comm 2 (j + 1), Nat.mul_assoc, Nat.add_mul, Nat.one_mul] at this
    omega
 ·have := stb_mid (P := l.take (j * (2 * c))) (S := l.drop (j * (2 * c) + c + c)) (srtK_stb key (A ++ B))
  rw [hl] at this; exact this
theorem all_blk {key : α → Int} {c j : Nat} {l : List α} (h : ∀ i, i < j + 1 → Srt key (blkAt c i l)) (hl : l.length ≤ (j + 1) * c) : ∀ i, Srt key (blkAt c i l) := fun i => by
 by_cases e : i < j + 1
 ·exact h i e
 ·rw [blkAt_far (Nat.le_trans hl (Nat.mul_le_mul_right c (by omega)))]; exact srt_nil key
theorem all_blk2 {key : α → Int} {c j : Nat} {l : List α} (h1 : ∀ i, i < j → Srt key (blkAt (2 * c) i l)) (h2 : ∀ i, 2 * j ≤ i → Srt key (blkAt c i l)) (hl : l.length ≤ j * (2 * c) + c) : ∀ i, Srt key (blkAt (2 * c) i l) := by
 refine all_blk (j := j) (fun i hi => ?_) (by rw [Nat.add_mul, Nat.one_mul]; omega)
 by_cases e : i < j
 ·exact h1 i e
 ·obtain rfl : i = j := by omega
  have := h2 (2 * i) (Nat.le_refl _)
  unfold blkAt at this ⊢
  rw [show 2 * i * c = i * (2 * c) by rw [Nat.mul_comm 2 i, Nat.mul_assoc]] at this
  rw [List.take_of_length_le (by rw [List.length_drop]; omega)] at this ⊢
  exact this
theorem blk_done {key : α → Int} {c : Nat} {l l' : List α} (h : ∀ i, Srt key (blkAt c i l')) (hs : Stb key l' l) (hl : l'.length ≤ c) : srtK key l = l' := by
 refine srtK_eq ?_ hs
 have := h 0
 unfold blkAt at this
 rw [Nat.zero_mul, List.drop_zero, List.take_of_length_le hl] at this
 exact this
theorem stb_len {a b c d : List α} (h : a.length = b.length) : (c ++ a ++ d).length = (c ++ b ++ d).length := by simp [h]
end Go.Stab
namespace Go.Stab
theorem sw_map {α β : Type} (f : α → β) (l : List α) (i j : Nat) : (sw l i j).map f = sw (l.map f) i j := by
 unfold sw
 rw [List.getElem?_map, List.getElem?_map]
 cases l[i]? <;> cases l[j]? <;> simp [List.map_set]
end Go.Stab
set_option linter.unusedVariables false
set_option linter.unusedSectionVars false
set_option linter.unusedSimpArgs false
/- What the library asks of a slice in an interface value, over a pinned row. -/
namespace Go.Hv
open Go Go.RowKit Go.Stab Go.Lib
variable [GI]
variable {P : Program}
theorem us_one {w : World} {dead : Nat → Prop} {us : Array Value} {v : Value} (hus : us.size = 1) (h : ∀ (j : Nat) (c : HV) (u : Value), [HV.lit v][j]? = some c → us[j]? = some u → IRep w dead c u) : us = #[v] := by
 have h0 := Array.getElem?_eq_getElem (show 0 < us.size by omega)
 apply Array.ext_getElem?
 intro k
 match k with
 | 0 => rw [h0, irep_lit (h 0 _ _ rfl h0)]; rfl
 | k + 1 => rw [Array.getElem?_eq_none (by omega), Array.getElem?_eq_none (by simp)]
theorem SpecX.valueOf {f t e : Nat} {i : TypeInfo} (hx : ∀ args W, (callFunc f args).run P W = ((Extern.ReflectliteValue.unpack (args.getD 0 (.tuple #[]))).run P W).andThen fun v w' => .ok (.value v) w')
  (hi : P.info? t = some i) (hd : i.desc = .slice e) {p : Option Addr} {n c sz : Nat} {ob : Option Nat} {es : List (List HV)} :
  SpecX P f #[] [.lit (.iface t (.slice p n c))] (.slice p n c) ob e sz es (.agg [.lit (typeHandle P t), .cptr [.lit (.slice p n c)], .lit (.int .u64 151)]) es := by
 intro D w us hD hG hW hus hrep
 obtain rfl := us_one hus hrep
 have hrun := run_valueOf_slice (P := P) t e i hi hd p n c w
 have hk : Kept (fun b => b < w.heap.size ∧ ob ≠ some b) w (w.alloc (.cells #[.slice p n c] t)) := (Kept.refl _ _).alloc (fun b h => h.1) _
 refine .inr ⟨.agg #[typeHandle P t, .pointer (some ⟨w.heap.size, 0, none⟩), .int .u64 151], w.alloc (.cells #[.slice p n c] t), ?_, hk, hW.grow (by simp) (fun b hb => Below.heap_alloc w _ b hb), ?_⟩
 ·rw [hx]
  have : (#[Value.iface t (.slice p n c)] ++ #[] : Array Value).getD 0 (.tuple #[]) = .iface t (.slice p n c) := rfl
  rw [this, hrun]
  rfl
 ·refine .agg rfl fun j h v hj hv => ?_
  match j with
  | 0 => simp at hj hv; subst hj; subst hv; exact .lit _
  | 1 =>
   simp at hj hv; subst hj; subst hv
   refine .cptr (fun _ => .slice p n c) (fun hd => ?_) (by simp) (fun j hj => ?_) (fun _ _ => rfl) (fun j c' hc => ?_)
   ·rcases hd with hd | hd
    ·have := hD _ hd; omega
    ·have := (hW.2.2.1 _ hd).2; omega
   ·obtain rfl : j = 0 := by simpa using hj
    exact World.cell?_alloc_at _ _ _ _ rfl
   ·obtain rfl : j = 0 := by have := getElem?_lt hc; simpa using this
    simp at hc; subst hc; exact .lit _
  | 2 => simp at hj hv; subst hj; subst hv; exact .lit _
  | j + 3 => simp at hj
theorem SpecX.swapper {f t e : Nat} {i ie : TypeInfo} (hx : ∀ args W, (callFunc f args).run P W = ((Extern.ReflectliteSwapper.swapper "internal/reflectlite" (Extern.ReflectliteValue.valueError "Swapper") args).run P W).andThen fun v w' => .ok (.value v) w')
  (hi : P.info? t = some i) (hd : i.desc = .slice e) (hie : P.info? e = some ie) {ke : Nat} (hke : ∀ w, (Extern.Rtype.kind e).run P w = .ok ke w) {p : Option Addr} {n c sz : Nat} {ob : Option Nat} {es : List (List HV)}
  {sf : Nat} (hf : P.funcs.findIdx? (·.name == "internal/reflectlite" ++ ".Swapper$" ++ toString (swapperK n ie ke)) = some sf) :
  SpecX P f #[] [.lit (.iface t (.slice p n c))] (.slice p n c) ob e sz es (.lit (.func (.func sf) #[] (if swapperK n ie ke ≤ 2 then #[] else #[.slice p n c, typeHandle P e]))) es := by
 intro D w us hD hG hW hus hrep
 obtain rfl := us_one hus hrep
 have hrun := run_swapper_slice (P := P) t e i ie hi hd hie ke hke p n c sf hf w
 refine .inr ⟨.func (.func sf) #[] (if swapperK n ie ke ≤ 2 then #[] else #[.slice p n c, typeHandle P e]), w, ?_, Kept.refl _ _, hW, .lit _⟩
 rw [hx, Array.append_empty, hrun]
 rfl
theorem SpecX.rlen {f t e : Nat} {i : TypeInfo} (hx : ∀ args W, (callFunc f args).run P W = ((Extern.ReflectliteValue.method (Extern.ReflectliteValue.valueError "reflectlite.Value.Len" 0) Extern.ReflectliteValue.len args).run P W).andThen fun v w' => .ok (.value v) w')
  (hi : P.info? t = some i) (hd : i.desc = .slice e) (hpk : P.packed t = false) {p : Option Addr} {n c sz : Nat} {ob : Option Nat} {es : List (List HV)} :
  SpecX P f #[] [.agg [.lit (typeHandle P t), .cptr [.lit (.slice p n c)], .lit (.int .u64 151)]] (.slice p n c) ob e sz es (i64 n) es := by
 intro D w us hD hG hW hus hrep
 have h0 := Array.getElem?_eq_getElem (show 0 < us.size by rw [hus]; simp)
 have r := hrep 0 _ _ rfl h0
 obtain ⟨vs, hv, hl, hh⟩ := agg_irep r
 have g0 := Array.getElem?_eq_getElem (show 0 < vs.size by rw [hl]; simp)
 have g1 := Array.getElem?_eq_getElem (show 1 < vs.size by rw [hl]; simp)
 have g2 := Array.getElem?_eq_getElem (show 2 < vs.size by rw [hl]; simp)
 have r0 := irep_lit (hh 0 _ _ rfl g0)
 have r1 := hh 1 _ _ rfl g1
 have r2 := irep_lit (hh 2 _ _ rfl g2)
 have ex : ∃ a : Addr, vs[1]'(by rw [hl]; simp) = .pointer (some a) ∧ w.cell? a = some (.slice p n c) := by
  generalize vs[1]'(by rw [hl]; simp) = u at r1
  cases r1 with
  | @cptr _ b off g hb hbl hc h1 hh =>
   have k0 := hc 0 (by simp)
   have k1 := irep_lit (hh 0 _ rfl)
   rw [Nat.add_zero] at k0
   exact ⟨_, rfl, by rw [k0, k1]⟩
 obtain ⟨a, ha, hcell⟩ := ex
 obtain rfl : vs = #[typeHandle P t, .pointer (some a), .int .u64 151] := by
  apply Array.ext_getElem?
  intro k
  match k with
  | 0 => rw [g0, r0]; rfl
  | 1 => rw [g1, ha]; rfl
  | 2 => rw [g2, r2]; rfl
  | k + 3 => rw [Array.getElem?_eq_none (by rw [hl]; simp), Array.getElem?_eq_none (by simp)]
 obtain rfl : us = #[.agg #[typeHandle P t, .pointer (some a), .int .u64 151]] := by
  apply Array.ext_getElem?
  intro k
  match k with
  | 0 => rw [h0, hv]; rfl
  | k + 1 => rw [Array.getElem?_eq_none (by rw [hus]; simp), Array.getElem?_eq_none (by simp)]
 have hrun := run_valueLen_slice (P := P) t e i hi hd hpk a p n c w hcell
 refine .inr ⟨.int .i64 n, w, ?_, Kept.refl _ _, hW, .lit _⟩
 rw [hx, Array.append_empty, hrun]
 rfl
theorem RowW.shape {w : World} {D : Nat → Prop} {V : Value} {ob : Option Nat} {e sz : Nat} {es : List (List HV)} (h : RowW w D V ob e sz es) :
  (es = [] ∧ ∃ A, V = .slice A 0 0) ∨ ∃ b cap, V = .slice (some ⟨b, 0, none⟩) es.length cap ∧ ob = some b := by
 obtain ⟨_, _, _, _, _, R⟩ := h
 rcases R with ⟨h1, h2, _⟩ | ⟨b, cap, C, fr, h1, h2, _⟩
 ·exact .inl ⟨h1, h2⟩
 ·exact .inr ⟨b, cap, h1, h2⟩
end Go.Hv
set_option linter.unusedVariables false
set_option linter.unusedSectionVars false
set_option linter.unusedSimpArgs false
/- A scope without a jump, and a label. -/
namespace Go.Hv
open Go Go.RowKit
variable [GI]
variable {P : Program} {σ : HS}
def Exit.scopeH (Q : Exit → HS → Prop) : Exit → HS → Prop
 | .goto _, _ => False
 | e, σ => Q e σ
@[simp] theorem scopeH_normal (Q : Exit → HS → Prop) (σ : HS) : Exit.scopeH Q .normal σ = Q .normal σ := rfl
@[simp] theorem scopeH_ret (Q : Exit → HS → Prop) (σ : HS) : Exit.scopeH Q .ret σ = Q .ret σ := rfl
@[simp] theorem scopeH_exit (Q : Exit → HS → Prop) (i : Nat) (σ : HS) : Exit.scopeH Q (.exit i) σ = Q (.exit i) σ := rfl
theorem HT.scope {c : Code} {Q : Exit → HS → Prop} (h : HT P c σ (Exit.scopeH Q)) : HT P (.scope c) σ Q := by
 intro D F a w γ bl S
 refine wp_scope_straight (Code.wp_mono ?_ (h D F a w γ bl S))
 rintro e a' w' ⟨σ', q, r⟩
 cases e <;> first | exact ⟨σ', q, r⟩ | exact q.elim
theorem HT.label {l : Nat} {Q : Exit → HS → Prop} (h : Q .normal σ) : HT P (.label l) σ Q := by
 intro D F a w γ bl S
 exact wp_label ⟨σ, h, Kept.refl _ _, γ, bl, S⟩
end Go.Hv
/- The kit's contracts of library functions, laid at this program by the kit's own tool (plain words). -/
namespace Go.Proofs
open Go.Shelf
def Tryz.lays144_ren : Go.Shelf.Ren := ⟨fun | 144 => 82 | 143 => 122 | 219 => 141 | 217 => 152 | 225 => 153 | 224 => 154 | 267 => 155 | 266 => 161 | 314 => 162 | n => n, fun | 9 => 9 | 4 => 4 | 3 => 3 | 5 => 5 | 46 => 114 | 146 => 182 | 51 => 132 | n => n, fun | 1 => 0 | n => n⟩
theorem Tryz.lays144 : Go.Proofs.Lays.n144 Tryz.prog Tryz.lays144_ren := {
 mixed := by kernel_rfl
 f143 := Tryz.func122.trans (congrArg some (by kernel_rfl))
 f144 := Tryz.func82.trans (congrArg some (by kernel_rfl))
 f217 := Tryz.func152.trans (congrArg some (by kernel_rfl))
 f219 := Tryz.func141.trans (congrArg some (by kernel_rfl))
 f224 := Tryz.func154.trans (congrArg some (by kernel_rfl))
 f225 := Tryz.func153.trans (congrArg some (by kernel_rfl))
 f266 := Tryz.func161.trans (congrArg some (by kernel_rfl))
 f267 := Tryz.func155.trans (congrArg some (by kernel_rfl))
 f314 := Tryz.func162.trans (congrArg some (by kernel_rfl))
 t3 := Tryz.underlying3
 a3 := Tryz.isAgg3
 z3 := Tryz.sizeOf3
 v3 := Tryz.zeroValue3
 t4 := Tryz.underlying4
 a4 := Tryz.isAgg4
 z4 := Tryz.sizeOf4
 v4 := Tryz.zeroValue4
 t5 := Tryz.underlying5
 a5 := Tryz.isAgg5
 z5 := Tryz.sizeOf5
 v5 := Tryz.zeroValue5
 t9 := Tryz.underlying9
 a9 := Tryz.isAgg9
 z9 := Tryz.sizeOf9
 v9 := Tryz.zeroValue9
 t46 := Tryz.underlying114
 a46 := Tryz.isAgg114
 z46 := Tryz.sizeOf114
 v46 := Tryz.zeroValue114
 t51 := Tryz.underlying132
 a51 := Tryz.isAgg132
 z51 := Tryz.sizeOf132
 v51 := Tryz.zeroValue132
 t146 := Tryz.underlying182
 a146 := Tryz.isAgg182
 z146 := Tryz.sizeOf182
 v146 := Tryz.zeroValue182
 g1 := by kernel_rfl }
open Go.RowKit Go.Lib in
theorem Tryz.strings_Contains_one (s : ByteArray) (c : UInt8) (w : World) :
  Calls Tryz.prog 82 #[.string s, .string ⟨#[c]⟩] w fun e w' => e = .returned (.bool (decide (0 ≤ Lib.indexByte s.data.toList c))) ∧ w' = w := Any.strings_Contains_one Tryz.lays144 s c w
def Tryz.lays190_ren : Go.Shelf.Ren := ⟨fun | 190 => 51 | 125 => 72 | 258 => 74 | 128 => 97 | 129 => 98 | 302 => 107 | 303 => 108 | 304 => 109 | 305 => 110 | 306 => 111 | 307 => 112 | 308 => 113 | 309 => 114 | 310 => 115 | 333 => 132 | 329 => 133 | 330 => 134 | 334 => 135 | 335 => 136 | 336 => 137 | 344 => 148 | n => n, fun | 31 => 48 | 9 => 9 | 3 => 3 | 46 => 114 | 0 => 0 | 51 => 132 | 53 => 134 | 4 => 4 | 183 => 144 | 182 => 143 | 131 => 99 | 5 => 5 | 218 => 163 | 222 => 161 | 228 => 173 | 229 => 171 | n => n, fun | n => n⟩
theorem Tryz.lays190 : Go.Proofs.Lays.n190 Tryz.prog Tryz.lays190_ren := {
 mixed := by kernel_rfl
 f125 := Tryz.func72.trans (congrArg some (by kernel_rfl))
 f128 := Tryz.func97.trans (congrArg some (by kernel_rfl))
 f129 := Tryz.func98.trans (congrArg some (by kernel_rfl))
 f190 := Tryz.func51.trans (congrArg some (by kernel_rfl))
 f258 := Tryz.func74.trans (congrArg some (by kernel_rfl))
 f302 := Tryz.func107.trans (congrArg some (by kernel_rfl))
 f303 := Tryz.func108.trans (congrArg some (by kernel_rfl))
 f304 := Tryz.func109.trans (congrArg some (by kernel_rfl))
 f305 := Tryz.func110.trans (congrArg some (by kernel_rfl))
 f306 := Tryz.func111.trans (congrArg some (by kernel_rfl))
 f307 := Tryz.func112.trans (congrArg some (by kernel_rfl))
 f308 := Tryz.func113.trans (congrArg some (by kernel_rfl))
 f309 := Tryz.func114.trans (congrArg some (by kernel_rfl))
 f310 := Tryz.func115.trans (congrArg some (by kernel_rfl))
 f329 := Tryz.func133.trans (congrArg some (by kernel_rfl))
 f330 := Tryz.func134.trans (congrArg some (by kernel_rfl))
 f333 := Tryz.func132.trans (congrArg some (by kernel_rfl))
 f334 := Tryz.func135.trans (congrArg some (by kernel_rfl))
 f335 := Tryz.func136.trans (congrArg some (by kernel_rfl))
 f336 := Tryz.func137.trans (congrArg some (by kernel_rfl))
 f344 := Tryz.func148.trans (congrArg some (by kernel_rfl))
 t0 := Tryz.underlying0
 a0 := Tryz.isAgg0
 z0 := Tryz.sizeOf0
 v0 := Tryz.zeroValue0
 t3 := Tryz.underlying3
 a3 := Tryz.isAgg3
 z3 := Tryz.sizeOf3
 v3 := Tryz.zeroValue3
 t4 := Tryz.underlying4
 a4 := Tryz.isAgg4
 z4 := Tryz.sizeOf4
 v4 := Tryz.zeroValue4
 t5 := Tryz.underlying5
 a5 := Tryz.isAgg5
 z5 := Tryz.sizeOf5
 v5 := Tryz.zeroValue5
 t9 := Tryz.underlying9
 a9 := Tryz.isAgg9
 z9 := Tryz.sizeOf9
 v9 := Tryz.zeroValue9
 t31 := Tryz.underlying48
 a31 := Tryz.isAgg48
 z31 := Tryz.sizeOf48
 v31 := Tryz.zeroValue48
 t46 := Tryz.underlying114
 a46 := Tryz.isAgg114
 z46 := Tryz.sizeOf114
 v46 := Tryz.zeroValue114
 t51 := Tryz.underlying132
 a51 := Tryz.isAgg132
 z51 := Tryz.sizeOf132
 v51 := Tryz.zeroValue132
 t53 := Tryz.underlying134
 a53 := Tryz.isAgg134
 z53 := Tryz.sizeOf134
 v53 := Tryz.zeroValue134
 t131 := Tryz.underlying99
 a131 := Tryz.isAgg99
 z131 := Tryz.sizeOf99
 v131 := Tryz.zeroValue99
 t182 := Tryz.underlying143
 a182 := Tryz.isAgg143
 z182 := Tryz.sizeOf143
 v182 := Tryz.zeroValue143
 t183 := Tryz.underlying144
 a183 := Tryz.isAgg144
 z183 := Tryz.sizeOf144
 v183 := Tryz.zeroValue144
 t218 := Tryz.underlying163
 a218 := Tryz.isAgg163
 z218 := Tryz.sizeOf163
 v218 := Tryz.zeroValue163
 t222 := Tryz.underlying161
 a222 := Tryz.isAgg161
 z222 := Tryz.sizeOf161
 v222 := Tryz.zeroValue161
 t228 := Tryz.underlying173
 a228 := Tryz.isAgg173
 z228 := Tryz.sizeOf173
 v228 := Tryz.zeroValue173
 t229 := Tryz.underlying171
 a229 := Tryz.isAgg171
 z229 := Tryz.sizeOf171
 v229 := Tryz.zeroValue171 }
open Go.Sort Go.RowKit in
theorem Tryz.slices_Sort_string (blk off cap : Nat) (ss : List (List UInt8)) (w : World) (hH : Holds encStr w blk off ss.toArray) (hblk : blk < w.heap.size) (hsz : ss.length < 4611686018427387904) :
  Calls Tryz.prog 51 #[.slice (some ⟨blk, off, none⟩) ss.length cap] w fun e w' =>
   e = .returned (.tuple #[]) ∧ ∃ n os, w' = grow (putRow encStr (Sort.ahead w n) blk off (ss.mergeSort fun x y => decide (x ≤ y)).toArray) os := Any.slices_Sort_string Tryz.lays190 blk off cap ss w hH hblk hsz
def Tryz.laysGg6_ren : Go.Shelf.Ren := ⟨fun | 6 => 49 | 10 => 69 | 11 => 70 | 12 => 71 | 13 => 72 | 14 => 73 | 24 => 97 | 25 => 98 | 26 => 99 | 27 => 100 | 28 => 101 | 29 => 102 | 30 => 103 | 31 => 104 | 32 => 105 | 33 => 106 | 34 => 127 | 35 => 128 | 36 => 129 | 37 => 130 | 38 => 131 | 39 => 147 | n => n, fun | 20 => 20 | 26 => 90 | 35 => 108 | 0 => 0 | 37 => 110 | 3 => 3 | 41 => 114 | 44 => 117 | 49 => 132 | 51 => 134 | 4 => 4 | 54 => 137 | 53 => 136 | 58 => 99 | 5 => 5 | 9 => 9 | 60 => 157 | 64 => 161 | 66 => 170 | 67 => 171 | 17 => 17 | 32 => 105 | 33 => 106 | 82 => 201 | 12 => 12 | 75 => 194 | 76 => 195 | 77 => 196 | 78 => 197 | 79 => 198 | 80 => 199 | n => n, fun | n => n⟩
theorem Tryz.laysGg6 : Go.Proofs.LaysGg.n6 Tryz.prog Tryz.laysGg6_ren := {
 mixed := by kernel_rfl
 f6 := Tryz.func49.trans (congrArg some (by kernel_rfl))
 f10 := Tryz.func69.trans (congrArg some (by kernel_rfl))
 f11 := Tryz.func70.trans (congrArg some (by kernel_rfl))
 f12 := Tryz.func71.trans (congrArg some (by kernel_rfl))
 f13 := Tryz.func72.trans (congrArg some (by kernel_rfl))
 f14 := Tryz.func73.trans (congrArg some (by kernel_rfl))
 f24 := Tryz.func97.trans (congrArg some (by kernel_rfl))
 f25 := Tryz.func98.trans (congrArg some (by kernel_rfl))
 f26 := Tryz.func99.trans (congrArg some (by kernel_rfl))
 f27 := Tryz.func100.trans (congrArg some (by kernel_rfl))
 f28 := Tryz.func101.trans (congrArg some (by kernel_rfl))
 f29 := Tryz.func102.trans (congrArg some (by kernel_rfl))
 f30 := Tryz.func103.trans (congrArg some (by kernel_rfl))
 f31 := Tryz.func104.trans (congrArg some (by kernel_rfl))
 f32 := Tryz.func105.trans (congrArg some (by kernel_rfl))
 f33 := Tryz.func106.trans (congrArg some (by kernel_rfl))
 f34 := Tryz.func127.trans (congrArg some (by kernel_rfl))
 f35 := Tryz.func128.trans (congrArg some (by kernel_rfl))
 f36 := Tryz.func129.trans (congrArg some (by kernel_rfl))
 f37 := Tryz.func130.trans (congrArg some (by kernel_rfl))
 f38 := Tryz.func131.trans (congrArg some (by kernel_rfl))
 f39 := Tryz.func147.trans (congrArg some (by kernel_rfl))
 t0 := Tryz.underlying0
 a0 := Tryz.isAgg0
 z0 := Tryz.sizeOf0
 v0 := Tryz.zeroValue0
 i0 := by kernel_rfl
 t3 := Tryz.underlying3
 a3 := Tryz.isAgg3
 z3 := Tryz.sizeOf3
 v3 := Tryz.zeroValue3
 i3 := by kernel_rfl
 t4 := Tryz.underlying4
 a4 := Tryz.isAgg4
 z4 := Tryz.sizeOf4
 v4 := Tryz.zeroValue4
 i4 := by kernel_rfl
 t5 := Tryz.underlying5
 a5 := Tryz.isAgg5
 z5 := Tryz.sizeOf5
 v5 := Tryz.zeroValue5
 i5 := by kernel_rfl
 t9 := Tryz.underlying9
 a9 := Tryz.isAgg9
 z9 := Tryz.sizeOf9
 v9 := Tryz.zeroValue9
 i9 := by kernel_rfl
 t12 := Tryz.underlying12
 a12 := Tryz.isAgg12
 z12 := Tryz.sizeOf12
 v12 := Tryz.zeroValue12
 i12 := by kernel_rfl
 t17 := Tryz.underlying17
 a17 := Tryz.isAgg17
 z17 := Tryz.sizeOf17
 v17 := Tryz.zeroValue17
 i17 := by kernel_rfl
 t20 := Tryz.underlying20
 a20 := Tryz.isAgg20
 z20 := Tryz.sizeOf20
 v20 := Tryz.zeroValue20
 i20 := by kernel_rfl
 t26 := Tryz.underlying90
 a26 := Tryz.isAgg90
 z26 := Tryz.sizeOf90
 v26 := Tryz.zeroValue90
 i26 := by kernel_rfl
 t32 := Tryz.underlying105
 a32 := Tryz.isAgg105
 z32 := Tryz.sizeOf105
 v32 := Tryz.zeroValue105
 i32 := by kernel_rfl
 t33 := Tryz.underlying106
 a33 := Tryz.isAgg106
 z33 := Tryz.sizeOf106
 v33 := Tryz.zeroValue106
 i33 := by kernel_rfl
 t35 := Tryz.underlying108
 a35 := Tryz.isAgg108
 z35 := Tryz.sizeOf108
 v35 := Tryz.zeroValue108
 i35 := by kernel_rfl
 t37 := Tryz.underlying110
 a37 := Tryz.isAgg110
 z37 := Tryz.sizeOf110
 v37 := Tryz.zeroValue110
 i37 := by kernel_rfl
 t41 := Tryz.underlying114
 a41 := Tryz.isAgg114
 z41 := Tryz.sizeOf114
 v41 := Tryz.zeroValue114
 i41 := by kernel_rfl
 t44 := Tryz.underlying117
 a44 := Tryz.isAgg117
 z44 := Tryz.sizeOf117
 v44 := Tryz.zeroValue117
 i44 := by kernel_rfl
 t49 := Tryz.underlying132
 a49 := Tryz.isAgg132
 z49 := Tryz.sizeOf132
 v49 := Tryz.zeroValue132
 i49 := by kernel_rfl
 t51 := Tryz.underlying134
 a51 := Tryz.isAgg134
 z51 := Tryz.sizeOf134
 v51 := Tryz.zeroValue134
 i51 := by kernel_rfl
 t53 := Tryz.underlying136
 a53 := Tryz.isAgg136
 z53 := Tryz.sizeOf136
 v53 := Tryz.zeroValue136
 i53 := by kernel_rfl
 t54 := Tryz.underlying137
 a54 := Tryz.isAgg137
 z54 := Tryz.sizeOf137
 v54 := Tryz.zeroValue137
 i54 := by kernel_rfl
 t58 := Tryz.underlying99
 a58 := Tryz.isAgg99
 z58 := Tryz.sizeOf99
 v58 := Tryz.zeroValue99
 i58 := by kernel_rfl
 t60 := Tryz.underlying157
 a60 := Tryz.isAgg157
 z60 := Tryz.sizeOf157
 v60 := Tryz.zeroValue157
 i60 := by kernel_rfl
 t64 := Tryz.underlying161
 a64 := Tryz.isAgg161
 z64 := Tryz.sizeOf161
 v64 := Tryz.zeroValue161
 i64 := by kernel_rfl
 t66 := Tryz.underlying170
 a66 := Tryz.isAgg170
 z66 := Tryz.sizeOf170
 v66 := Tryz.zeroValue170
 i66 := by kernel_rfl
 t67 := Tryz.underlying171
 a67 := Tryz.isAgg171
 z67 := Tryz.sizeOf171
 v67 := Tryz.zeroValue171
 i67 := by kernel_rfl
 t75 := Tryz.underlying194
 a75 := Tryz.isAgg194
 z75 := Tryz.sizeOf194
 v75 := Tryz.zeroValue194
 i75 := by kernel_rfl
 t76 := Tryz.underlying195
 a76 := Tryz.isAgg195
 z76 := Tryz.sizeOf195
 v76 := Tryz.zeroValue195
 i76 := by kernel_rfl
 t77 := Tryz.underlying196
 a77 := Tryz.isAgg196
 z77 := Tryz.sizeOf196
 v77 := Tryz.zeroValue196
 i77 := by kernel_rfl
 t78 := Tryz.underlying197
 a78 := Tryz.isAgg197
 z78 := Tryz.sizeOf197
 v78 := Tryz.zeroValue197
 i78 := by kernel_rfl
 t79 := Tryz.underlying198
 a79 := Tryz.isAgg198
 z79 := Tryz.sizeOf198
 v79 := Tryz.zeroValue198
 i79 := by kernel_rfl
 t80 := Tryz.underlying199
 a80 := Tryz.isAgg199
 z80 := Tryz.sizeOf199
 v80 := Tryz.zeroValue199
 i80 := by kernel_rfl
 t82 := Tryz.underlying201
 a82 := Tryz.isAgg201
 z82 := Tryz.sizeOf201
 v82 := Tryz.zeroValue201
 i82 := by kernel_rfl }
def Tryz.lays99_ren : Go.Shelf.Ren := ⟨fun | 99 => 150 | 206 => 160 | n => n, fun | 9 => 9 | 4 => 4 | 3 => 3 | n => n, fun | n => n⟩
theorem Tryz.lays99 : Go.Proofs.Lays.n99 Tryz.prog Tryz.lays99_ren := {
 mixed := by kernel_rfl
 f99 := Tryz.func150.trans (congrArg some (by kernel_rfl))
 f206 := Tryz.func160.trans (congrArg some (by kernel_rfl))
 t3 := Tryz.underlying3
 a3 := Tryz.isAgg3
 z3 := Tryz.sizeOf3
 v3 := Tryz.zeroValue3
 t4 := Tryz.underlying4
 a4 := Tryz.isAgg4
 z4 := Tryz.sizeOf4
 v4 := Tryz.zeroValue4
 t9 := Tryz.underlying9
 a9 := Tryz.isAgg9
 z9 := Tryz.sizeOf9
 v9 := Tryz.zeroValue9 }
open Go.RowKit Go.Lib in
theorem Tryz.strings_HasPrefix (s p : ByteArray) (w : World) :
  Calls Tryz.prog 150 #[.string s, .string p] w fun e w' => e = .returned (.bool (Lib.hasPrefix s.data.toList p.data.toList)) ∧ w' = w := Any.strings_HasPrefix Tryz.lays99 s p w
def Tryz.lays146_ren : Go.Shelf.Ren := ⟨fun | 146 => 83 | 221 => 123 | 268 => 142 | 138 => 143 | 143 => 122 | 195 => 156 | 197 => 157 | 218 => 158 | 219 => 141 | 260 => 163 | 217 => 152 | 225 => 153 | 224 => 154 | 267 => 155 | 266 => 161 | 314 => 162 | n => n, fun | 9 => 9 | 31 => 48 | 3 => 3 | 4 => 4 | 0 => 0 | 105 => 180 | 21 => 21 | 5 => 5 | 46 => 114 | 119 => 184 | 139 => 187 | 138 => 186 | 146 => 182 | 51 => 132 | n => n, fun | 1 => 0 | 3 => 1 | 4 => 2 | n => n⟩
theorem Tryz.lays146 : Go.Proofs.Lays.n146 Tryz.prog Tryz.lays146_ren := {
 mixed := by kernel_rfl
 f138 := Tryz.func143.trans (congrArg some (by kernel_rfl))
 f143 := Tryz.func122.trans (congrArg some (by kernel_rfl))
 f146 := Tryz.func83.trans (congrArg some (by kernel_rfl))
 f195 := Tryz.func156.trans (congrArg some (by kernel_rfl))
 f197 := Tryz.func157.trans (congrArg some (by kernel_rfl))
 f217 := Tryz.func152.trans (congrArg some (by kernel_rfl))
 f218 := Tryz.func158.trans (congrArg some (by kernel_rfl))
 f219 := Tryz.func141.trans (congrArg some (by kernel_rfl))
 f221 := Tryz.func123.trans (congrArg some (by kernel_rfl))
 f224 := Tryz.func154.trans (congrArg some (by kernel_rfl))
 f225 := Tryz.func153.trans (congrArg some (by kernel_rfl))
 f260 := Tryz.func163.trans (congrArg some (by kernel_rfl))
 f266 := Tryz.func161.trans (congrArg some (by kernel_rfl))
 f267 := Tryz.func155.trans (congrArg some (by kernel_rfl))
 f268 := Tryz.func142.trans (congrArg some (by kernel_rfl))
 f314 := Tryz.func162.trans (congrArg some (by kernel_rfl))
 t0 := Tryz.underlying0
 a0 := Tryz.isAgg0
 z0 := Tryz.sizeOf0
 v0 := Tryz.zeroValue0
 t3 := Tryz.underlying3
 a3 := Tryz.isAgg3
 z3 := Tryz.sizeOf3
 v3 := Tryz.zeroValue3
 t4 := Tryz.underlying4
 a4 := Tryz.isAgg4
 z4 := Tryz.sizeOf4
 v4 := Tryz.zeroValue4
 t5 := Tryz.underlying5
 a5 := Tryz.isAgg5
 z5 := Tryz.sizeOf5
 v5 := Tryz.zeroValue5
 t9 := Tryz.underlying9
 a9 := Tryz.isAgg9
 z9 := Tryz.sizeOf9
 v9 := Tryz.zeroValue9
 t21 := Tryz.underlying21
 a21 := Tryz.isAgg21
 z21 := Tryz.sizeOf21
 v21 := Tryz.zeroValue21
 t31 := Tryz.underlying48
 a31 := Tryz.isAgg48
 z31 := Tryz.sizeOf48
 v31 := Tryz.zeroValue48
 t46 := Tryz.underlying114
 a46 := Tryz.isAgg114
 z46 := Tryz.sizeOf114
 v46 := Tryz.zeroValue114
 t51 := Tryz.underlying132
 a51 := Tryz.isAgg132
 z51 := Tryz.sizeOf132
 v51 := Tryz.zeroValue132
 t105 := Tryz.underlying180
 a105 := Tryz.isAgg180
 z105 := Tryz.sizeOf180
 v105 := Tryz.zeroValue180
 t119 := Tryz.underlying184
 a119 := Tryz.isAgg184
 z119 := Tryz.sizeOf184
 t138 := Tryz.underlying186
 a138 := Tryz.isAgg186
 z138 := Tryz.sizeOf186
 v138 := Tryz.zeroValue186
 t139 := Tryz.underlying187
 a139 := Tryz.isAgg187
 z139 := Tryz.sizeOf187
 v139 := Tryz.zeroValue187
 t146 := Tryz.underlying182
 a146 := Tryz.isAgg182
 z146 := Tryz.sizeOf182
 v146 := Tryz.zeroValue182
 g1 := by kernel_rfl
 g3 := by kernel_rfl
 g4 := by kernel_rfl }
open Go.RowKit Go.Lib in
theorem Tryz.strings_Split (s sep : ByteArray) (m : Int) (w : World) (hs : s.size < 4294967281) (hm : w.cell? ⟨0, 0, none⟩ = some (.int .i64 m)) (h1 : 1 ≤ sep.size) :
  Calls Tryz.prog 83 #[.string s, .string sep] w fun e w' =>
   e = .returned (.slice (some ⟨w.heap.size, 0, none⟩) (Lib.countB s sep + 1) (Lib.countB s sep + 1)) ∧ w' = w.alloc (.cells ((Lib.splitB sep 0 (Lib.countB s sep) s).map Value.string).toArray 9) := Any.strings_Split Tryz.lays146 (by kernel_rfl) s sep m w hs hm h1
def Tryz.lays194_ren : Go.Shelf.Ren := ⟨fun | 194 => 151 | n => n, fun | 31 => 48 | 9 => 9 | 3 => 3 | 4 => 4 | 0 => 0 | n => n, fun | n => n⟩
theorem Tryz.lays194 : Go.Proofs.Lays.n194 Tryz.prog Tryz.lays194_ren := {
 mixed := by kernel_rfl
 f194 := Tryz.func151.trans (congrArg some (by kernel_rfl))
 t0 := Tryz.underlying0
 a0 := Tryz.isAgg0
 z0 := Tryz.sizeOf0
 v0 := Tryz.zeroValue0
 t3 := Tryz.underlying3
 a3 := Tryz.isAgg3
 z3 := Tryz.sizeOf3
 v3 := Tryz.zeroValue3
 t4 := Tryz.underlying4
 a4 := Tryz.isAgg4
 z4 := Tryz.sizeOf4
 v4 := Tryz.zeroValue4
 t9 := Tryz.underlying9
 a9 := Tryz.isAgg9
 z9 := Tryz.sizeOf9
 v9 := Tryz.zeroValue9
 t31 := Tryz.underlying48
 a31 := Tryz.isAgg48
 z31 := Tryz.sizeOf48
 v31 := Tryz.zeroValue48 }
open Go.RowKit Go.Lib Go.Sort in
theorem Tryz.slices_Compact_string (blk off cap : Nat) (zs : List (List UInt8)) (w : World) (hH : Holds encStr w blk off zs.toArray) (hsz : zs.length ≤ 9223372036854775807) (hcap : zs.length ≤ cap) :
  Calls Tryz.prog 151 #[.slice (some ⟨blk, off, none⟩) zs.length cap] w fun e w' => e = .returned (.slice (some ⟨blk, off, none⟩) (Lib.compact zs).length cap) ∧ ∃ q, w' = putRow encStr (Sort.ahead w q) blk off (Lib.compact zs ++ List.replicate (zs.length - (Lib.compact zs).length) []).toArray := Any.slices_Compact_string Tryz.lays194 blk off cap zs w hH hsz hcap
open Go.RowKit Go.Lib Go.Sort in
theorem Tryz.slices_Compact_string_empty (a : Option Addr) (cap : Nat) (w : World) :
  Calls Tryz.prog 151 #[.slice a 0 cap] w fun e w' => e = .returned (.slice a 0 cap) ∧ w' = w := Any.slices_Compact_string_empty Tryz.lays194 a cap w
open Go.RowKit Go.Sort in
theorem Tryz.slices_Sort_string_none (p : Option Addr) (cap : Nat) (w : World) :
  Calls Tryz.prog 51 #[.slice p 0 cap] w fun e w' => e = .returned (.tuple #[]) ∧ w' = w := Any.slices_Sort_string_none Tryz.lays190 p cap w
end Go.Proofs
set_option linter.unusedVariables false
set_option linter.unusedSimpArgs false
namespace Go.Hv
open Go Go.Hv Go.Proofs Go.RowKit
open Go.Proofs.YtcmomegkhoggpaaGreatDoor
theorem splitK_ne {c : UInt8} (hc : c ≠ 47) : ∀ (k : Nat) (s : List UInt8), Lib.splitK [47] 0 k (c :: s) = match Lib.splitK [47] 0 k s with | [] => [[c]] | p :: r => (c :: p) :: r
 | 0, s => by simp [Lib.splitK]
 | k + 1, s => by
  have hp : List.isPrefixOf [47] (c :: s) = false := by simp [List.isPrefixOf]; exact fun h => hc h.symm
  have hi : Lib.index (c :: s) [47] = if Lib.index s [47] == -1 then -1 else Lib.index s [47] + 1 := by
   rw [Lib.index, hp]; rfl
  have hge := Lib.index_ge s [47]
  unfold Lib.splitK
  rw [hi]
  by_cases h : (Lib.index s [47] == -1) = true
  ·simp [h]
  ·have h' : Lib.index s [47] ≠ -1 := by simpa using h
   obtain ⟨i, hi⟩ : ∃ i : Nat, Lib.index s [47] = i := ⟨(Lib.index s [47]).toNat, by omega⟩
   rw [hi]
   have h1 : (((i : Int) == -1) = true) = False := by simp
   have h2 : ((((if ((i : Int) == -1) = true then (-1 : Int) else (i : Int) + 1)) == -1) = true) = False := by
    rw [if_neg (by rw [h1]; exact id)]; simp; omega
   simp only [h1, h2, if_false, if_neg (show ¬ False from id)]
   have e : ((i : Int) + 1).toNat = i + 1 := by omega
   simp [e]
   intro h; omega
theorem split_parts : ∀ (s : List UInt8), Lib.splitK [47] 0 (Lib.count s [47]) s = partsV s
 | [] => by simp [Lib.count_one, Lib.splitK, partsV]
 | c :: s => by
  by_cases hc : c = 47
  ·subst hc
   rw [Lib.count_cons_eq, Nat.add_comm, Lib.splitK, partsV, if_pos rfl]
   have hi : Lib.index (47 :: s) [47] = 0 := by simp [Lib.index, List.isPrefixOf]
   rw [hi]
   simp [split_parts s]
  ·rw [Lib.count_cons_ne _ _ _ hc, splitK_ne hc, split_parts s, partsV, if_neg hc]
   all_goals (cases partsV s <;> rfl)
theorem letterV_eq (c : UInt8) : letterV c = decide (97 ≤ (c.toNat : Int) ∧ (c.toNat : Int) ≤ 122 ∨ 65 ≤ (c.toNat : Int) ∧ (c.toNat : Int) ≤ 90 ∨ 48 ≤ (c.toNat : Int) ∧ (c.toNat : Int) ≤ 57 ∨ (c.toNat : Int) = 46 ∨ (c.toNat : Int) = 95 ∨ (c.toNat : Int) = 45) := by
 have h : ∀ n : Fin 256, letterV (UInt8.ofFin n) = decide (97 ≤ ((UInt8.ofFin n).toNat : Int) ∧ ((UInt8.ofFin n).toNat : Int) ≤ 122 ∨ 65 ≤ ((UInt8.ofFin n).toNat : Int) ∧ ((UInt8.ofFin n).toNat : Int) ≤ 90 ∨ 48 ≤ ((UInt8.ofFin n).toNat : Int) ∧ ((UInt8.ofFin n).toNat : Int) ≤ 57 ∨ ((UInt8.ofFin n).toNat : Int) = 46 ∨ ((UInt8.ofFin n).toNat : Int) = 95 ∨ ((UInt8.ofFin n).toNat : Int) = 45) := by decide +kernel
 exact h c.toFin
theorem textB_eq (c : UInt8) : textB c = decide ((c.toNat : Int) = 9 ∨ (c.toNat : Int) = 10 ∨ 32 ≤ (c.toNat : Int) ∧ (c.toNat : Int) ≤ 126) := by
 have h : ∀ n : Fin 256, textB (UInt8.ofFin n) = decide (((UInt8.ofFin n).toNat : Int) = 9 ∨ ((UInt8.ofFin n).toNat : Int) = 10 ∨ 32 ≤ ((UInt8.ofFin n).toNat : Int) ∧ ((UInt8.ofFin n).toNat : Int) ≤ 126) := by decide +kernel
 exact h c.toFin
theorem countB_ofL (s : List UInt8) : Lib.countB ⟨s.toArray⟩ ⟨#[47]⟩ = Lib.count s [47] := rfl
theorem Split_spec (s : List UInt8) (hs : s.length ≤ 1000) : Spec1 Tryz.prog 83 [.str s, .str [47]] (.sl 1 false (strsHV (partsV s))) := by
 intro D w vs hD hG hn hrep
 have h0 := Array.getElem?_eq_getElem (show 0 < vs.size by rw [hn]; simp)
 have h1 := Array.getElem?_eq_getElem (show 1 < vs.size by rw [hn]; simp)
 have r0 := irep_str (hrep 0 _ _ rfl h0)
 have r1 := irep_str (hrep 1 _ _ rfl h1)
 have hv : vs = #[.string ⟨s.toArray⟩, .string ⟨#[47]⟩] := by
  rw [r0] at h0; rw [r1] at h1
  apply Array.ext_getElem?
  intro i
  match i with
  | 0 => rw [h0]; rfl
  | 1 => rw [h1]; rfl
  | i + 2 => rw [Array.getElem?_eq_none (by rw [hn]; simp), Array.getElem?_eq_none (by simp)]
 subst hv
 obtain ⟨m, hm⟩ := hG
 refine (Tryz.strings_Split ⟨s.toArray⟩ ⟨#[47]⟩ m w (by show s.length < _; omega) hm (by decide)).mono fun e w' ⟨h1, h2⟩ => ?_
 subst h1; subst h2
 generalize hN : Lib.countB ⟨s.toArray⟩ ⟨#[47]⟩ = N
 have hpm : (Lib.splitB ⟨#[47]⟩ 0 N ⟨s.toArray⟩).map (·.data.toList) = partsV s := by
  rw [Lib.splitB_data, ← hN, countB_ofL]; exact split_parts s
 have hlen : (Lib.splitB ⟨#[47]⟩ 0 N ⟨s.toArray⟩).length = N + 1 := Lib.splitB_all _ (by decide) 0 N _ hN
 generalize hL : Lib.splitB ⟨#[47]⟩ 0 N ⟨s.toArray⟩ = L at hpm hlen
 have hpl : (strsHV (partsV s)).length = N + 1 := by rw [strsHV_length, ← hpm, List.length_map, hlen]
 refine ⟨_, rfl, Kept.alloc (Kept.refl _ _) (fun b hb => hb) _, ?_⟩
 rw [← hpl]
 refine IRep.sl (fun i _ => Value.string (L.getD i ByteArray.empty)) (fun e he => ?_) (Nat.le_refl _) (fun h => rfl) (fun h => absurd (hD _ h) (Nat.lt_irrefl _)) ?_ (fun i j hi hj => ?_) (fun i j hi hj => rfl) (fun i j e c he hc => ?_)
 ·obtain ⟨a, _, rfl⟩ := strsHV_mem he; rfl
 ·simp
 ·have hi' : i < L.length := by omega
  have hj0 : j = 0 := by omega
  subst hj0
  have ea : ∀ o, (w.alloc o).heap[w.heap.size]? = some o := fun o => by unfold World.alloc; simp
  show (w.alloc _).cell? _ = _
  unfold World.cell?
  simp only [ea]
  simp [hi', List.getD_eq_getElem?_getD]
 ·unfold strsHV at he
  rw [← hpm, List.map_map, List.getElem?_map] at he
  cases hg : L[i]? with
  | none => rw [hg] at he; cases he
  | some b =>
   rw [hg] at he
   obtain rfl := (Option.some.inj he).symm
   match j with
   | 0 =>
    obtain rfl := (Option.some.inj hc).symm
    rw [List.getD_eq_getElem?_getD, hg]
    exact irep_string _ _ b
   | j + 1 => simp at hc
set_option maxRecDepth 20000 in
set_option maxHeartbeats 2000000 in
theorem letter_spec (c : UInt8) : Spec1 Tryz.prog 84 [u8 c] (bo (letterV c)) := by
 refine Spec1.of_HT Tryz.func84 rfl (by rw [Tryz.ntmps84]; simp) rfl ?_
 rw [Tryz.ntmps84]
 refine HT.seq ?_;refine HT.region ?_;simp (disch := first|omega|(simp<;>omega)|fail) [wr3]
 refine HT.seq ?_
 by_cases b1 : (c.toNat : Int) = 95
 ·refine HT.region ?_;simp (disch := first|omega|(simp<;>omega)|fail) [wr3]
  refine HT.ret ?_
  first | (have hx : letterV c = true := (by rw [letterV_eq]; exact decide_eq_true (by omega)); simp (disch := first|omega|(simp<;>omega)|fail) [wr3, hx]; done) | (have hx : letterV c = false := (by rw [letterV_eq]; exact decide_eq_false (by omega)); simp (disch := first|omega|(simp<;>omega)|fail) [wr3, hx]; done)
 by_cases a1 : 122 < (c.toNat : Int)
 ·refine HT.region ?_;simp (disch := first|omega|(simp<;>omega)|fail) [wr3]
  refine HT.ret ?_
  first | (have hx : letterV c = true := (by rw [letterV_eq]; exact decide_eq_true (by omega)); simp (disch := first|omega|(simp<;>omega)|fail) [wr3, hx]; done) | (have hx : letterV c = false := (by rw [letterV_eq]; exact decide_eq_false (by omega)); simp (disch := first|omega|(simp<;>omega)|fail) [wr3, hx]; done)
 by_cases a2 : 97 ≤ (c.toNat : Int)
 ·refine HT.region ?_;simp (disch := first|omega|(simp<;>omega)|fail) [wr3]
  refine HT.ret ?_
  first | (have hx : letterV c = true := (by rw [letterV_eq]; exact decide_eq_true (by omega)); simp (disch := first|omega|(simp<;>omega)|fail) [wr3, hx]; done) | (have hx : letterV c = false := (by rw [letterV_eq]; exact decide_eq_false (by omega)); simp (disch := first|omega|(simp<;>omega)|fail) [wr3, hx]; done)
 by_cases a3 : 90 < (c.toNat : Int)
 ·refine HT.region ?_;simp (disch := first|omega|(simp<;>omega)|fail) [wr3]
  refine HT.ret ?_
  first | (have hx : letterV c = true := (by rw [letterV_eq]; exact decide_eq_true (by omega)); simp (disch := first|omega|(simp<;>omega)|fail) [wr3, hx]; done) | (have hx : letterV c = false := (by rw [letterV_eq]; exact decide_eq_false (by omega)); simp (disch := first|omega|(simp<;>omega)|fail) [wr3, hx]; done)
 by_cases a4 : 65 ≤ (c.toNat : Int)
 ·refine HT.region ?_;simp (disch := first|omega|(simp<;>omega)|fail) [wr3]
  refine HT.ret ?_
  first | (have hx : letterV c = true := (by rw [letterV_eq]; exact decide_eq_true (by omega)); simp (disch := first|omega|(simp<;>omega)|fail) [wr3, hx]; done) | (have hx : letterV c = false := (by rw [letterV_eq]; exact decide_eq_false (by omega)); simp (disch := first|omega|(simp<;>omega)|fail) [wr3, hx]; done)
 by_cases a5 : 57 < (c.toNat : Int)
 ·refine HT.region ?_;simp (disch := first|omega|(simp<;>omega)|fail) [wr3]
  refine HT.ret ?_
  first | (have hx : letterV c = true := (by rw [letterV_eq]; exact decide_eq_true (by omega)); simp (disch := first|omega|(simp<;>omega)|fail) [wr3, hx]; done) | (have hx : letterV c = false := (by rw [letterV_eq]; exact decide_eq_false (by omega)); simp (disch := first|omega|(simp<;>omega)|fail) [wr3, hx]; done)
 by_cases a6 : 48 ≤ (c.toNat : Int)
 ·refine HT.region ?_;simp (disch := first|omega|(simp<;>omega)|fail) [wr3]
  refine HT.ret ?_
  first | (have hx : letterV c = true := (by rw [letterV_eq]; exact decide_eq_true (by omega)); simp (disch := first|omega|(simp<;>omega)|fail) [wr3, hx]; done) | (have hx : letterV c = false := (by rw [letterV_eq]; exact decide_eq_false (by omega)); simp (disch := first|omega|(simp<;>omega)|fail) [wr3, hx]; done)
 by_cases b2 : (c.toNat : Int) = 46
 ·refine HT.region ?_;simp (disch := first|omega|(simp<;>omega)|fail) [wr3]
  refine HT.ret ?_
  first | (have hx : letterV c = true := (by rw [letterV_eq]; exact decide_eq_true (by omega)); simp (disch := first|omega|(simp<;>omega)|fail) [wr3, hx]; done) | (have hx : letterV c = false := (by rw [letterV_eq]; exact decide_eq_false (by omega)); simp (disch := first|omega|(simp<;>omega)|fail) [wr3, hx]; done)
 by_cases b3 : (c.toNat : Int) = 45
 ·refine HT.region ?_;simp (disch := first|omega|(simp<;>omega)|fail) [wr3]
  refine HT.ret ?_
  first | (have hx : letterV c = true := (by rw [letterV_eq]; exact decide_eq_true (by omega)); simp (disch := first|omega|(simp<;>omega)|fail) [wr3, hx]; done) | (have hx : letterV c = false := (by rw [letterV_eq]; exact decide_eq_false (by omega)); simp (disch := first|omega|(simp<;>omega)|fail) [wr3, hx]; done)
 refine HT.region ?_;simp (disch := first|omega|(simp<;>omega)|fail) [wr3]
 refine HT.ret ?_
 first | (have hx : letterV c = true := (by rw [letterV_eq]; exact decide_eq_true (by omega)); simp (disch := first|omega|(simp<;>omega)|fail) [wr3, hx]; done) | (have hx : letterV c = false := (by rw [letterV_eq]; exact decide_eq_false (by omega)); simp (disch := first|omega|(simp<;>omega)|fail) [wr3, hx]; done)
end Go.Hv

import Derived.Test.YtmpgljmmjipioaaLawMoved
import Derived.Test.YtmpgljmmjipioaaHv26
set_option linter.unusedVariables false
set_option linter.unusedSimpArgs false
namespace Go.Hv
open Go Go.Hv
/-! ### Documents that are handed in -/
@[reducible] def strSh : ShT := .str
@[reducible] def strsSh : ShT := .sl 1 .str
@[reducible] def docSh : ShT := .st [.int .i64, .str, .str, .str, .sl 1 .str]
@[reducible] def docsSh : ShT := .sl 5 docSh
theorem map_choice {α β : Type} {f : β → α} {p : β → Prop} : ∀ {es : List α}, (∀ x ∈ es, ∃ d, x = f d ∧ p d) → ∃ l : List β, es = l.map f ∧ ∀ d ∈ l, p d
  | [], _ => ⟨[], rfl, by simp⟩
  | x :: r, h => by
    obtain ⟨d, rfl, hd⟩ := h x (by simp)
    obtain ⟨l, rfl, hl⟩ := map_choice (es := r) (f := f) (p := p) (fun y hy => h y (by simp [hy]))
    exact ⟨d :: l, rfl, fun y hy => by rcases List.mem_cons.1 hy with rfl | hy; exact hd; exact hl y hy⟩
theorem rd_str {B : Nat} {x : List HV} (h : Rd B .str x) : ∃ s, x = [.str s] ∧ s.length ≤ B := by
  cases h with | str l hl => exact ⟨l, rfl, hl⟩
theorem rd_int {B : Nat} {k : IntKind} {x : List HV} (h : Rd B (.int k) x) : ∃ n, x = [.lit (.int k n)] ∧ (Lit.int k n).wf = true := by
  cases h with | int k n hw => exact ⟨n, rfl, hw⟩
theorem rd_strs {B : Nat} {x : List HV} (h : Rd B strsSh x) : ∃ sz full on, x = [.sl sz full (strsHV on)] ∧ on.length ≤ B ∧ (on ≠ [] → sz = 1) ∧ ∀ s ∈ on, s.length ≤ B := by
  cases h with
  | nil => exact ⟨0, true, [], rfl, Nat.zero_le _, by simp, by simp⟩
  | sl sz e es hl hz h =>
    obtain ⟨on, rfl, hon⟩ := map_choice (f := fun s => [HV.str s]) (p := fun s => s.length ≤ B) (fun x hx => rd_str (h x hx))
    exact ⟨1, false, on, rfl, by simpa using hl, fun _ => rfl, hon⟩
def DocB (B : Nat) (d : Doc) : Prop := d.repo.length ≤ B ∧ d.path.length ≤ B ∧ d.text.length ≤ B ∧ d.on.length ≤ B ∧ (∀ s ∈ d.on, s.length ≤ B) ∧ (Lit.int .i64 d.id).wf = true ∧ (d.on ≠ [] → d.osz = 1)
theorem rd_doc {B : Nat} {x : List HV} (h : Rd B docSh x) : ∃ d : Doc, x = d.enc ∧ DocB B d := by
  cases h with
  | st fs hs h =>
    cases h with
    | cons h1 h =>
    cases h with
    | cons h2 h =>
    cases h with
    | cons h3 h =>
    cases h with
    | cons h4 h =>
    cases h with
    | cons h5 h =>
    cases h
    obtain ⟨n, rfl, hn⟩ := rd_int h1
    obtain ⟨r, rfl, hr⟩ := rd_str h2
    obtain ⟨p, rfl, hp⟩ := rd_str h3
    obtain ⟨t, rfl, ht⟩ := rd_str h4
    obtain ⟨sz, full, on, rfl, ho, hsz, hos⟩ := rd_strs h5
    exact ⟨⟨n, r, p, t, on, sz, full⟩, rfl, hr, hp, ht, ho, hos, hn, hsz⟩
theorem rd_docs {B : Nat} {x : List HV} (h : Rd B docsSh x) : ∃ (c : HV) (full : Bool) (l : List Doc), x = [c] ∧ HLe c (.sl 5 full (docsHV l)) ∧ l.length ≤ B ∧ ∀ d ∈ l, DocB B d := by
  cases h with
  | nil => exact ⟨_, true, [], rfl, HLe.nil 0 5 true, Nat.zero_le _, by simp⟩
  | sl sz e es hl hz h =>
    obtain ⟨l, rfl, hb⟩ := map_choice (f := Doc.enc) (p := DocB B) (fun x hx => rd_doc (h x hx))
    exact ⟨_, false, l, rfl, HLe.refl _, by simpa using hl, hb⟩
theorem reps_one {w : World} {dead : Nat → Prop} {c : HV} {v : Value} (h : Reps w dead [c] [v]) : IRep w dead c v := by
  cases h with | cons h1 _ => exact h1
/-- What a slice of documents tells. -/
theorem docs_of_trod {H : Type} {enc : TypeId × Value → H} {P : Program} {w : World} {sp : Nat → Bool} {held : Bool} {t : TypeId} {a : Option Addr} {n c : Nat} {d : DataW H} {ps : List MemPlace} {B : Nat} (hk : shOK P docsSh t = true)
    (h : DataW.Trod enc P w 0 sp held t (.slice a n c) d ps) (hB : bulkD d ≤ B) : ∃ (full : Bool) (l : List Doc), IRep w (fun _ => False) (.sl 5 full (docsHV l)) (.slice a n c) ∧ l.length ≤ B ∧ ∀ d ∈ l, DocB B d := by
  obtain ⟨hs, h1, h2⟩ := arg_of_trod docsSh hk h hB
  obtain ⟨x, full, l, rfl, hle, hl, hb⟩ := rd_docs h1
  exact ⟨full, l, hle _ _ _ (reps_one h2), hl, hb⟩
end Go.Hv

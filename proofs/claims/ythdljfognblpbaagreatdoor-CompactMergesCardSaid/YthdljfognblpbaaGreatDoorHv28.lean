import Derived.Test.YthdljfognblpbaaGreatDoorHv27
set_option linter.unusedVariables false
set_option linter.unusedSectionVars false
set_option linter.unusedSimpArgs false
namespace Go.Hv
open Go Go.RowKit
variable [GI]
variable {P : Program} {D F : Nat → Prop} {σ : HS} {a : Act} {w : World} {γ γ' : Nat → Value} {bl bl' : Nat → Option Nat} {B : Nat}

def frzs (sz n : Nat) (g : Nat → Nat × List (List HV)) : List (List HV) := (List.range n).map fun i => (List.range sz).map fun j => .sl (g (i * sz + j)).1 false (g (i * sz + j)).2
theorem frzs_get {sz n i : Nat} {g : Nat → Nat × List (List HV)} {x : List HV} (h : (frzs sz n g)[i]? = some x) : i < n ∧ x = (List.range sz).map fun j => .sl (g (i * sz + j)).1 false (g (i * sz + j)).2 := by
  unfold frzs at h
  rw [List.getElem?_map] at h
  rcases Nat.lt_or_ge i n with hlt | hge
  · rw [List.getElem?_range hlt] at h
    exact ⟨hlt, (Option.some.inj h).symm⟩
  · rw [List.getElem?_eq_none (by simpa using hge)] at h; cases h
theorem frzsCell {sz i j : Nat} {g : Nat → Nat × List (List HV)} {c : HV} (h : ((List.range sz).map fun j => HV.sl (g (i * sz + j)).1 false (g (i * sz + j)).2)[j]? = some c) : j < sz ∧ c = .sl (g (i * sz + j)).1 false (g (i * sz + j)).2 := by
  rw [List.getElem?_map] at h
  rcases Nat.lt_or_ge j sz with hlt | hge
  · rw [List.getElem?_range hlt] at h
    exact ⟨hlt, (Option.some.inj h).symm⟩
  · rw [List.getElem?_eq_none (by simpa using hge)] at h; cases h
@[simp] theorem frzs_length (sz n : Nat) (g : Nat → Nat × List (List HV)) : (frzs sz n g).length = n := by simp [frzs]
@[simp] theorem isILL_frzs (sz n : Nat) (g : Nat → Nat × List (List HV)) : isILL (frzs sz n g) = true := by
  rw [isILL_iff]
  intro x hx
  obtain ⟨i, hi⟩ := List.mem_iff_getElem?.1 hx
  rw [(frzs_get hi).2, isIL_iff]
  intro c hc
  obtain ⟨j, _, rfl⟩ := List.mem_map.1 hc
  rfl

theorem HS.le_frz {L : List Ev} {n id e sz m : Nat} (B : Nat) (g : Nat → Nat × List (List HV)) (ho : getO L id = .row e sz (refs B sz m)) (hid : id < B)
    (hg : ∀ k, k < m * sz → ∃ e', getO L (B + k) = .row e' (g k).1 (g k).2 ∧ isILL (g k).2 = true) :
    HS.le ⟨L, n⟩ ⟨.o id (.row e sz (frzs sz m g)) :: .os (fam B (m * sz) fun _ => .gone) :: L, n⟩ := by
  intro D F a w γ bl S
  let L2 : List Ev := .o id (.row e sz (frzs sz m g)) :: .os (fam B (m * sz) fun _ => .gone) :: L
  have hI : getO L2 id = .row e sz (frzs sz m g) := by simp [L2, getO]
  have hin : ∀ i, B ≤ i ∧ i < B + m * sz → getO L2 i = .gone := fun i h => by
    have e1 : ¬ id = i := by omega
    simp [L2, getO, fam, e1, h]
  have hout : ∀ i, ¬ (B ≤ i ∧ i < B + m * sz) → i ≠ id → getO L2 i = getO L i := fun i h hne => by
    have e1 : ¬ id = i := fun x => hne x.symm
    simp [L2, getO, fam, e1, h]
  have hlive : ∀ i, getO L2 i ≠ .gone → getO L i ≠ .gone ∧ ¬ (B ≤ i ∧ i < B + m * sz) := fun i hi => by
    by_cases h1 : B ≤ i ∧ i < B + m * sz
    · exact absurd (hin i h1) hi
    · by_cases h2 : i = id
      · subst h2; exact ⟨by rw [ho]; simp, h1⟩
      · rw [hout i h1 h2] at hi; exact ⟨hi, h1⟩
  have hd : ∀ b, dd D L2 bl b → dd D L bl b := by
    rintro b (h | ⟨i, hi, hb⟩)
    · exact .inl h
    · exact .inr ⟨i, (hlive i hi).1, hb⟩
  have hinner : ∀ k, k < m * sz → IRep w (dd D L2 bl) (.sl (g k).1 false (g k).2) (γ (B + k)) := fun k hk => by
    obtain ⟨e', h1, h2⟩ := hg k hk
    have hl : getO L (B + k) ≠ .gone := by rw [h1]; simp
    refine row_irep (σ := ⟨L, n⟩) S h1 h2 (fun b hb hdd => ?_) hd
    rcases hdd with h | ⟨i, hi, hb'⟩
    · exact (S.hblk (B + k) b hl hb).1 (S.hD b h)
    · have := S.hinj i (B + k) b (hlive i hi).1 hl hb' hb
      exact (hlive i hi).2 (by omega)
  refine ⟨γ, bl, S.hG, S.hn, S.hdf, S.hD, S.hbw, fun t => (S.henv t).mono (Nat.le_refl _) (fun _ _ _ => rfl) (fun b _ h => hd b h), fun i => ?_, fun i b hi hb => S.hblk i b (hlive i hi).1 hb, fun i i' b hi hi' hb hb' => S.hinj i i' b (hlive i hi).1 (hlive i' hi').1 hb hb'⟩
  show ORel w (dd D L2 bl) γ bl i (getO L2 i)
  by_cases h1 : B ≤ i ∧ i < B + m * sz
  · rw [hin i h1]; trivial
  · by_cases h2 : i = id
    · subst h2
      rw [hI]
      have R := S.hobj i
      simp only at R
      rw [ho] at R
      obtain ⟨hz, hl, R⟩ := R
      refine ⟨hz, fun x hx => ?_, ?_⟩
      · obtain ⟨k, hk⟩ := List.mem_iff_getElem?.1 hx
        rw [(frzs_get hk).2]; simp
      rcases R with ⟨q1, q2, q3⟩ | ⟨b, cap, C, fr, q1, q2, q3, q4, q5, q6, q7, q8, q9⟩
      · have hm0 : m = 0 := by
          have := congrArg List.length q1
          simpa using this
        subst hm0
        exact .inl ⟨rfl, q2, q3⟩
      · rw [refs_length] at q1 q5
        refine .inr ⟨b, cap, C, fr, by rw [frzs_length]; exact q1, q2, q3, q4, by rw [frzs_length]; exact q5, q6, q7, q8, fun k j x c hx hc => ?_⟩
        obtain ⟨hk, rfl⟩ := frzs_get hx
        obtain ⟨hj, rfl⟩ := frzsCell hc
        have hlt : k * sz + j < m * sz := by
          have : (k + 1) * sz ≤ m * sz := Nat.mul_le_mul_right _ hk
          rw [Nat.add_mul, Nat.one_mul] at this; omega
        have hx0 : (refs B sz m)[k]? = some ((List.range sz).map fun j => .ref (B + (k * sz + j))) := by
          unfold refs; rw [List.getElem?_map, List.getElem?_range hk]; rfl
        have hc0 : ((List.range sz).map fun j => HV.ref (B + (k * sz + j)))[j]? = some (.ref (B + (k * sz + j))) := by
          rw [List.getElem?_map, List.getElem?_range hj]; rfl
        obtain ⟨v, hv, hr⟩ := q9 k j _ _ hx0 hc0
        refine ⟨v, hv, ?_⟩
        have : v = γ (B + (k * sz + j)) := by
          cases hr with
          | imm hi => cases hi
          | ref _ _ => rfl
        rw [this]
        exact .imm (hinner _ hlt)
    · rw [hout i h1 h2]
      exact ORel.other (Nat.le_refl _) (fun _ _ _ => rfl) (fun b _ h => hd b h) rfl rfl (fun _ _ _ => rfl) (fun h => h) (fun h v r => r.mono (Nat.le_refl _) (fun _ _ _ => rfl) (fun b _ h => hd b h)) (by cases getO L i <;> simp [map_id_fun]) (S.hobj i)

@[simp] theorem fam_low {m x : Nat} {g : Nat → HObj} (h : x < B) : fam B m g x = none := by unfold fam; rw [if_neg (by omega)]
/-! ### The cells in use -/
@[simp] theorem subLL_refs_low {id sz n : Nat} (h : id < B) (a b : HV) : subLL id a b (refs B sz n) = refs B sz n := by
  unfold subLL refs
  rw [List.map_map]
  refine List.map_congr_left fun i _ => ?_
  show subL id a b ((List.range sz).map fun j => HV.ref (B + (i * sz + j))) = _
  rw [subL_map, List.map_map]
  refine List.map_congr_left fun j _ => ?_
  show HV.sub id a b (.ref (B + (i * sz + j))) = _
  simp only [HV.sub]
  rw [if_neg (by omega)]
theorem subLL_refs {k sz n : Nat} (hk : k < n * sz) (hz : 0 < sz) : subLL (B + k) .any .any (refs B sz n) = (refs B sz n).set (k / sz) (((refs B sz n).getD (k / sz) []).set (k % sz) .any) := by
  have hq : k / sz < n := Nat.div_lt_of_lt_mul (by rw [Nat.mul_comm]; exact hk)
  have hdm : k / sz * sz + k % sz = k := by rw [Nat.mul_comm]; exact Nat.div_add_mod k sz
  apply List.ext_getElem?
  intro i
  rw [List.getElem?_set]
  unfold subLL
  rw [List.getElem?_map]
  unfold refs
  rw [List.getElem?_map]
  rcases Nat.lt_or_ge i n with hi | hi
  · rw [List.getElem?_range hi]
    simp only [Option.map_some]
    by_cases e : k / sz = i
    · subst e
      have hgd : ((List.range n).map fun i => (List.range sz).map fun j => HV.ref (B + (i * sz + j))).getD (k / sz) [] = (List.range sz).map fun j => HV.ref (B + (k / sz * sz + j)) := by
        simp [hq]
      rw [if_pos rfl, if_pos (by simpa using hq), hgd]
      congr 1
      apply List.ext_getElem?
      intro j
      rw [subL_getElem?, List.getElem?_set, List.getElem?_map]
      rcases Nat.lt_or_ge j sz with hj | hj
      · rw [List.getElem?_range hj]
        simp only [Option.map_some, HV.sub]
        by_cases e2 : k % sz = j
        · subst e2
          rw [if_pos (by rw [hdm]), if_pos rfl, if_pos (by simpa using hj)]
        · rw [if_neg (by omega), if_neg e2]
      · rw [List.getElem?_eq_none (l := List.range sz) (by simpa using hj)]
        have : k % sz < sz := Nat.mod_lt _ hz
        rw [if_neg (by omega)]; rfl
    · rw [if_neg e]
      congr 1
      apply List.ext_getElem?
      intro j
      rw [subL_getElem?, List.getElem?_map]
      rcases Nat.lt_or_ge j sz with hj | hj
      · rw [List.getElem?_range hj]
        simp only [Option.map_some, HV.sub]
        rw [if_neg]
        intro e2
        apply e
        have e3 : i * sz + j = k := by omega
        rw [← e3]
        rw [Nat.add_comm, Nat.add_mul_div_right _ _ hz, Nat.div_eq_of_lt hj, Nat.zero_add]
      · rw [List.getElem?_eq_none (l := List.range sz) (by simpa using hj)]; rfl
  · rw [List.getElem?_eq_none (l := List.range n) (by simpa using hi)]
    rw [if_neg (by omega)]; rfl
end Go.Hv

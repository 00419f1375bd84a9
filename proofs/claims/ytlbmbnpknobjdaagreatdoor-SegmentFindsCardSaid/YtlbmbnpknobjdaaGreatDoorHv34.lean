import Derived.Test.YtlbmbnpknobjdaaGreatDoorHv33
import Derived.Test.YtlbmbnpknobjdaaGreatDoorHv26
import Derived.Shelf.SlSortCmp.WholeK
set_option linter.unusedVariables false
set_option linter.unusedSectionVars false
set_option linter.unusedSimpArgs false
/- slices.SortFunc by a number in the first of two cells, the numbers being distinct. -/
namespace Go.Hv
open Go Go.RowKit
variable [GI]
open Go.Sort (putRow putCells Holds grow mapBlock onCells)
open Go.Sort (HoldsK flatK putRowK)
open Go.Proofs (sortWorldK ltOf)
variable {P : Program}
def El : Type := {p : Int × Value // (0 ≤ p.1 ∧ p.1 < 16777216) ∧ p.2.oneCell' = true}
instance : Inhabited El := ⟨⟨(0, .int .i64 0), ⟨by decide, by decide⟩, rfl⟩⟩
def encE (x : El) : List Value := [.int .i64 x.1.1, x.1.2]
def cfE (x y : El) : Int := x.1.1 - y.1.1
theorem ltE (x y : El) : ltOf cfE x y = decide (x.1.1 < y.1.1) := by
  unfold ltOf cfE
  rw [decide_eq_decide]; omega
theorem swoE : Go.Sort.SWO (ltOf cfE) where
  irrefl x := by rw [ltE]; simp
  trans x y z h1 h2 := by rw [ltE] at *; simp at *; omega
  ntrans x y z h1 h2 := by rw [ltE] at *; simp at *; omega
def pairsHV (cs : List (Int × HV)) : List (List HV) := cs.map fun p => [i64 p.1, p.2]
def leC (a b : Int × HV) : Bool := decide (a.1 ≤ b.1)
theorem pairsHV_get {cs : List (Int × HV)} {i : Nat} {x : List HV} (h : (pairsHV cs)[i]? = some x) : ∃ p, cs[i]? = some p ∧ x = [i64 p.1, p.2] := by
  unfold pairsHV at h
  rw [List.getElem?_map] at h
  cases hc : cs[i]? with
  | none => rw [hc] at h; cases h
  | some p => rw [hc] at h; exact ⟨p, rfl, (Option.some.inj h).symm⟩
theorem SpecS.sortCode {f g : FuncId} {e : Nat} (cs : List (Int × HV)) (hr : ∀ p ∈ cs, 0 ≤ p.1 ∧ p.1 < 16777216) (hnd : (cs.map (·.1)).Nodup) (hI : ∀ p ∈ cs, isI p.2 = true) (hlen : cs.length < 4611686018427387904)
    (H : ∀ (d : Array El) (blk cap : Nat) (w : World), HoldsK encE 2 w blk 0 d → blk < w.heap.size → d.size < 4611686018427387904 → Calls P f #[.slice (some ⟨blk, 0, none⟩) d.size cap, .func (.func g) #[] #[]] w fun x w' => x = .returned (.tuple #[]) ∧
      ∃ d' n os, Go.Sort.PermIn 0 d.size d d' ∧ Go.Sort.SortedIn (ltOf cfE) 0 d.size d' ∧ w' = sortWorldK encE 2 w blk 0 n d' os)
    (H0 : ∀ A w, Calls P f #[.slice A 0 0, .func (.func g) #[] #[]] w fun x w' => x = .returned (.tuple #[]) ∧ w' = w) : SpecS P f e 2 (pairsHV cs) [.fn (.func g) []] (pairsHV (cs.mergeSort leC)) := by
  have hfn : ∀ {w : World} {dead : Nat → Prop} (us : Array Value), us.size = 1 → (∀ (j : Nat) (c : HV) (u : Value), [HV.fn (.func g) []][j]? = some c → us[j]? = some u → IRep w dead c u) → us = #[.func (.func g) #[] #[]] := by
    intro w dead us h1 h2
    have hu : us[0]? = some (us[0]'(by omega)) := Array.getElem?_eq_getElem (by omega)
    have r := h2 0 _ _ rfl hu
    generalize us[0]'(by omega) = u at hu r
    cases r with
    | fn hl hh =>
      have hv := Array.eq_empty_of_size_eq_zero hl
      subst hv
      apply Array.ext_getElem?
      intro i
      rcases Nat.eq_zero_or_pos i with rfl | hi
      · rw [hu]; rfl
      · rw [Array.getElem?_eq_none (by omega), Array.getElem?_eq_none (by simp; omega)]
  have hl2 : (cs.mergeSort leC).length = cs.length := List.length_mergeSort _
  have hI2 : ∀ p ∈ cs.mergeSort leC, isI p.2 = true := fun p hp => hI p (List.mem_mergeSort.1 hp)
  refine SpecS.of_cells (by simp [pairsHV, hl2]) (fun x hx => by obtain ⟨p, _, rfl⟩ := List.mem_map.1 hx; rfl) ?_ (fun w blk cap us V dead hVs hcell hblk hcap hmax hone hdead hrep hus hargs => ?_) (fun A w us dead hus hargs _ => ?_)
  · rw [isILL_iff]
    intro x hx
    obtain ⟨p, hp, rfl⟩ := List.mem_map.1 hx
    simp [isIL, isI, hI2 p hp]
  · obtain rfl := hfn us hus hargs
    have hn : (pairsHV cs).length = cs.length := by simp [pairsHV]
    rw [hn] at hVs hcap ⊢
    have hpc : ∀ i p, cs[i]? = some p → V[i * 2]? = some (.int .i64 p.1) ∧ ∃ v, V[i * 2 + 1]? = some v ∧ IRep w dead p.2 v ∧ v.oneCell' = true := fun i p hp => by
      have hx : (pairsHV cs)[i]? = some [i64 p.1, p.2] := by unfold pairsHV; rw [List.getElem?_map, hp]; rfl
      obtain ⟨u0, h0, r0⟩ := hrep i 0 _ _ hx rfl
      obtain ⟨u1, h1, r1⟩ := hrep i 1 _ _ hx rfl
      refine ⟨?_, u1, h1, r1, hone u1 (Array.mem_of_getElem? h1)⟩
      rw [irep_lit r0] at h0
      exact h0
    obtain ⟨l, hll, hlp⟩ := list_choice (p := fun i (x : El) => ∃ p, cs[i]? = some p ∧ x.1.1 = p.1 ∧ V[i * 2]? = some (.int .i64 p.1) ∧ V[i * 2 + 1]? = some x.1.2 ∧ IRep w dead p.2 x.1.2) cs.length (fun i hi => by
      have hp := List.getElem?_eq_getElem hi
      obtain ⟨h1, v, h2, h3, h4⟩ := hpc i _ hp
      exact ⟨⟨(cs[i].1, v), hr _ (List.getElem_mem hi), h4⟩, cs[i], hp, rfl, h1, h2, h3⟩)
    have hcodes : l.map (fun x => x.1.1) = cs.map (·.1) := by
      apply List.ext_getElem?
      intro i
      rw [List.getElem?_map, List.getElem?_map]
      rcases Nat.lt_or_ge i cs.length with hi | hi
      · have hx := List.getElem?_eq_getElem (show i < l.length by omega)
        obtain ⟨p, h1, h2, _⟩ := hlp i _ hx
        rw [hx, h1]; simp [h2]
      · rw [List.getElem?_eq_none hi, List.getElem?_eq_none (by omega)]; rfl
    have hflat : ∀ (D : Array El) (t : Nat) (ht : t < D.size * 2), (flatK encE 2 D)[t]? = (encE (D[t / 2]'(by omega)))[t % 2]? := fun D t ht => by
      have h1 : t < (flatK encE 2 D).size := by simpa using ht
      have h2 := Go.Sort.get_flatK encE 2 D t ht
      rw [getElem!_pos _ t h1, getElem!_pos D _ (by omega)] at h2
      rw [Array.getElem?_eq_getElem h1, h2]
      have : t % 2 < (encE (D[t / 2]'(by omega))).length := by simp [encE]; omega
      rw [List.getElem?_eq_getElem this, getElem!_pos (encE (D[t / 2]'(by omega))) (t % 2) this]
    have hH : HoldsK encE 2 w blk 0 l.toArray := by
      intro t ht
      have ht' : t < l.length * 2 := by simpa using ht
      have hi : t / 2 < l.length := by omega
      have hx := List.getElem?_eq_getElem hi
      obtain ⟨p, h1, h2, h3, h4, h5⟩ := hlp _ _ hx
      have hc := hcell t (by omega)
      rw [Nat.zero_add]
      refine ⟨?_, hc.2⟩
      rw [hc.1]
      have hf := hflat l.toArray t (by simpa using ht')
      have ht2 : t < (flatK encE 2 l.toArray).size := by simpa using ht'
      rw [getElem!_pos _ t ht2]
      show V[t]? = some ((flatK encE 2 l.toArray)[t])
      rw [← Array.getElem?_eq_getElem ht2, hf]
      simp only [List.getElem_toArray]
      rcases Nat.mod_two_eq_zero_or_one t with hm | hm
      · have e : t = t / 2 * 2 := by omega
        have hv : V[t]? = V[t / 2 * 2]? := congrArg (fun j => V[j]?) e
        rw [hm, hv, h3, ← h2]; simp [encE]
      · have e : t = t / 2 * 2 + 1 := by omega
        have hv : V[t]? = V[t / 2 * 2 + 1]? := congrArg (fun j => V[j]?) e
        rw [hm, hv, h4]; simp [encE]
    have hcall := H l.toArray blk cap w hH hblk (by simp; omega)
    rw [show l.toArray.size = cs.length by simp [hll]] at hcall
    refine hcall.mono ?_
    rintro x w' ⟨rfl, d', n, os, hperm, hsort, rfl⟩
    obtain ⟨hds, _, hpm⟩ := hperm
    have hdl : d'.toList.Perm l := by
      have e1 : (d'.extract 0 cs.length).toList = d'.toList := by
        have : d'.size = cs.length := by rw [hds]; simp [hll]
        rw [← this, Array.extract_size]
      have e2 : (l.toArray.extract 0 cs.length).toList = l := by
        rw [← hll]; simp
      rw [e1, e2] at hpm
      exact hpm
    have hds' : d'.size = cs.length := by rw [hds]; simp [hll]
    -- both sorted
    have hnl : (l.map (fun x : El => x.1.1)).Nodup := by rw [hcodes]; exact hnd
    let leE : El → El → Bool := fun a b => decide (a.1.1 ≤ b.1.1)
    have hsp : d'.toList = l.mergeSort leE := by
      refine List.Perm.eq_of_pairwise (le := fun a b => a.1.1 ≤ b.1.1) (fun a b ha hb h1 h2 => ?_) ?_ ?_ (hdl.trans (List.mergeSort_perm l leE).symm)
      · have ha' : a ∈ l := hdl.mem_iff.1 ha
        have hb' : b ∈ l := List.mem_mergeSort.1 hb
        have hab : a.1.1 = b.1.1 := by omega
        obtain ⟨i, hi, rfl⟩ := List.mem_iff_getElem.1 ha'
        obtain ⟨j, hj, rfl⟩ := List.mem_iff_getElem.1 hb'
        have : i = j := (List.getElem_inj (h₀ := by simpa using hi) (h₁ := by simpa using hj) hnl).1 (by simpa using hab)
        subst this; rfl
      · rw [List.pairwise_iff_getElem]
        intro i j hi hj hij
        have := hsort i j (Nat.zero_le _) hij (by rw [← hds']; simpa using hj)
        rw [ltE, getElem!_pos d' j (by simpa using hj), getElem!_pos d' i (by simpa using hi)] at this
        simp only [decide_eq_false_iff_not] at this
        simp only [Array.getElem_toList]
        omega
      · have := List.pairwise_mergeSort (le := leE) (fun a b c h1 h2 => by simp only [leE, decide_eq_true_eq] at *; omega) (fun a b => by simp only [leE, Bool.or_eq_true, decide_eq_true_eq]; omega) l
        exact this.imp (fun h => by simpa [leE] using h)
    -- the pairs, sorted together
    let z := cs.zip l
    have hz1 : z.map (·.1) = cs := by simp only [z]; rw [List.map_fst_zip]; omega
    have hz2 : z.map (·.2) = l := by simp only [z]; rw [List.map_snd_zip]; omega
    have hzp : ∀ q ∈ z, q.2.1.1 = q.1.1 ∧ IRep w dead q.1.2 q.2.1.2 := fun q hq => by
      obtain ⟨i, hi⟩ := List.mem_iff_getElem?.1 hq
      simp only [z] at hi
      rw [List.getElem?_zip_eq_some] at hi
      obtain ⟨p, h1, h2, _, _, h5⟩ := hlp i _ hi.2
      rw [hi.1] at h1
      cases h1
      exact ⟨h2, h5⟩
    let zs := z.mergeSort fun a b => leC a.1 b.1
    have hs1 : zs.map (·.1) = cs.mergeSort leC := by
      have := List.map_mergeSort (r := fun a b : (Int × HV) × El => leC a.1 b.1) (s := leC) (f := (·.1)) (l := z) (fun _ _ _ _ => rfl)
      rw [hz1] at this; exact this
    have hs2 : zs.map (·.2) = l.mergeSort leE := by
      have := List.map_mergeSort (r := fun a b : (Int × HV) × El => leC a.1 b.1) (s := leE) (f := (·.2)) (l := z) (fun a ha b hb => by simp only [leC, leE, (hzp a ha).1, (hzp b hb).1])
      rw [hz2] at this; exact this
    have hzsl : zs.length = cs.length := by
      have := congrArg List.length hs1
      simpa [hl2] using this
    refine ⟨rfl, n, os, flatK encE 2 d', by simp [hds', hVs], fun v hv => ?_, rfl, fun i j x c hx hc => ?_⟩
    · obtain ⟨t, ht, rfl⟩ := Array.mem_iff_getElem.1 hv
      have ht' : t < d'.size * 2 := by simpa using ht
      have hf := hflat d' t ht'
      rw [Array.getElem?_eq_getElem ht] at hf
      have hm := List.mem_of_getElem? hf.symm
      simp [encE] at hm
      rcases hm with hm | hm
      · rw [hm]; rfl
      · rw [hm]; exact (d'[t / 2]'(by omega)).2.2
    · obtain ⟨p, hp, rfl⟩ := pairsHV_get hx
      have hi : i < cs.length := by have := getElem?_lt hp; omega
      have hq := List.getElem?_eq_getElem (show i < zs.length by omega)
      have hmem : zs[i]'(by omega) ∈ z := List.mem_mergeSort.1 (List.getElem_mem (show i < zs.length by omega))
      have hp' : (zs[i]'(by omega)).1 = p := by
        have := congrArg (·[i]?) hs1
        simp only [List.getElem?_map, hq, hp, Option.map_some, Option.some.injEq] at this
        exact this
      have hd' : d'[i]'(by omega) = (zs[i]'(by omega)).2 := by
        have := congrArg (·[i]?) hs2
        rw [← hsp] at this
        simp only [List.getElem?_map, hq, Option.map_some, Array.getElem?_toList] at this
        rw [Array.getElem?_eq_getElem (by omega)] at this
        exact (Option.some.inj this).symm
      obtain ⟨k1, k2⟩ := hzp _ hmem
      rw [hp'] at k1 k2
      rw [← hd'] at k1 k2
      have hj : j < 2 := by have := getElem?_lt hc; simpa using this
      rw [hflat d' (i * 2 + j) (by omega)]
      have e1 : (i * 2 + j) / 2 = i := by omega
      have e2 : (i * 2 + j) % 2 = j := by omega
      simp only [e1, e2]
      match j, hj with
      | 0, _ => simp at hc; subst hc; exact ⟨.int .i64 (d'[i]'(by omega)).1.1, by simp [encE], by rw [k1]; exact .lit _⟩
      | 1, _ => simp at hc; subst hc; exact ⟨(d'[i]'(by omega)).1.2, by simp [encE], k2⟩
  · obtain rfl := hfn us hus hargs
    exact H0 A w
end Go.Hv

/- A part of the proofs about laws of the page tree (see the text that bears the law): a small language of steps, its rules, and what the functions of the program return. -/
import Derived.Test.YtanckppjkbfbfaaQR
set_option linter.all false
set_option linter.unusedVariables false
set_option linter.unusedSimpArgs false
/-! next keys, ranks, ranges of keys -/
namespace Go.V
def nxtK (K : List Int) (k : Int) : Int := if upTo K k < K.length then nth K (upTo K k) else -1
theorem nxtK_at {K : List Int} {k : Int} {i : Nat} (hi : i < K.length) (h1 : ∀ j, j < i → nth K j ≤ k) (h2 : k < nth K i) : nxtK K k = nth K i := by
  have e := upTo_eq (xs := K) (k := k) (i := i) (by omega) h1 fun _ => h2
  rw [nxtK, e, if_pos hi]
theorem nxtK_none {K : List Int} {k : Int} (h1 : ∀ j, j < K.length → nth K j ≤ k) : nxtK K k = -1 := by
  have e := upTo_eq (xs := K) (k := k) (i := K.length) (by omega) h1 fun h => by omega
  rw [nxtK, e, if_neg (by omega)]
theorem key_rg {K : List Int} (hg : goodKeys K = true) {i : Nat} (hi : i < K.length) : 0 ≤ nth K i ∧ nth K i ≤ 99 := by
  simp only [goodKeys, Bool.and_eq_true, List.all_eq_true, decide_eq_true_eq] at hg
  have := hg.2 _ (nth_mem hi)
  omega
theorem nxtK_rg {K : List Int} (hg : goodKeys K = true) (k : Int) : -1 ≤ nxtK K k ∧ nxtK K k ≤ 99 := by
  unfold nxtK
  split
  · have := key_rg hg (i := upTo K k) (by assumption); omega
  · omega
theorem nxtK_near {K : List Int} (hg : goodKeys K = true) {k : Int} {i : Nat} (hi : i < K.length) (h : k < nth K i) : nxtK K k ≠ -1 ∧ nxtK K k ≤ nth K i := by
  have hu : upTo K k ≤ i := by
    have := upTo_dec (k := k) hg hi
    rw [decide_eq_true h] at this
    exact of_decide_eq_true this.symm
  have h1 := key_rg hg (i := upTo K k) (by omega)
  have h2 := rising_le (good_rising hg) (a := upTo K k) (b := i) hu hi
  rw [nxtK, if_pos (by omega)]
  omega
theorem nxtK_is {K : List Int} {k : Int} (h : nxtK K k ≠ -1) : k < nxtK K k ∧ K.contains (nxtK K k) = true := by
  by_cases e : upTo K k < K.length
  · have := upTo_at e
    rw [nxtK, if_pos e]
    exact ⟨this, List.contains_iff_mem.2 (nth_mem e)⟩
  · rw [nxtK, if_neg e] at h; exact absurd rfl h
def befK (K : List Int) (i : Nat) : Int := if i = 0 then -1 else nth K (i - 1)
theorem befK_succ {K : List Int} {i : Nat} : befK K (i + 1) = nth K i := by rw [befK, if_neg (by omega)]; rfl
theorem nxtK_walk {K : List Int} (hg : goodKeys K = true) {i : Nat} (hi : i < K.length) : nxtK K (befK K i) = nth K i := by
  have hr := rising_iff.1 (good_rising hg)
  refine nxtK_at hi (fun j hj => ?_) ?_
  · obtain ⟨i, rfl⟩ : ∃ m, i = m + 1 := ⟨i - 1, by omega⟩
    rw [befK_succ]
    exact rising_le (good_rising hg) (by omega) (by omega)
  · cases i with
    | zero => have := key_rg hg hi; rw [befK, if_pos rfl]; omega
    | succ i => rw [befK_succ]; exact hr i hi
theorem nxtK_end {K : List Int} (hg : goodKeys K = true) : nxtK K 99 = -1 := nxtK_none fun j hj => (key_rg hg hj).2
theorem nxtK_rank {K : List Int} (hg : goodKeys K = true) {k : Int} (h : nxtK K k ≠ -1) : upTo K (nxtK K k - 1) = upTo K k := by
  by_cases e : upTo K k < K.length
  · rw [nxtK, if_pos e, upTo_pred hg e]
  · rw [nxtK, if_neg e] at h; exact absurd rfl h
theorem rank_zero {K : List Int} (hg : goodKeys K = true) : upTo K (-1) = 0 := upTo_eq (by omega) (fun j hj => by omega) fun h => by have := key_rg hg h; omega
/-! ranges -/
def inR2 (a b : Int) (x : Int × Int) : Bool := decide (a ≤ x.1) && decide (x.1 < b)
def scnL (L : List (Int × Int)) (a b : Int) : List (Int × Int) := L.filter (inR2 a b)
def scn (L : List (Int × Int)) (a b m : Int) : List (Int × Int) := (scnL L a b).take m.toNat
theorem keysR_nth' {L : List (Int × Int)} {i : Nat} (h : i < L.length) : nth (keysR L) i = (nth L i).1 := by
  rw [nth_eq (by simpa using h), nth_eq h]; simp
end Go.V
namespace Go.V
theorem keysV_len {t : Pt} : (keysR (prV t)).length ≤ 64 := by rw [List.length_map]; exact prV_len
theorem prV_not {t : Pt} (h : validT t = false) : prV t = [] := by rw [prV, h]; rfl
theorem keysV_bd {t : Pt} : bdI 1000000000 (keysR (prV t)) := by
  cases h : validT t
  · rw [prV_not h]; exact bdI.nil
  · exact fun k hk => by have := key_rg (keys_good h) hk; omega
end Go.V
namespace Go.V
theorem nxtV_valid {t : Pt} {k : Int} (h : nxtK (keysR (prV t)) k ≠ -1) : validT t = true := by
  cases e : validT t
  · rw [prV_not e] at h; exact absurd rfl h
  · rfl
def sepV (t : Pt) : List Int := sepT t (hgtT t) t.r
structure LfF (t : Pt) : Prop where
  len : (lvV t).length = (sepV t).length + 1
  good : goodKeys (sepV t) = true
  nd : (lvV t).Nodup
  at_ : ∀ k, nth (pthT t k) ((pthT t k).length - 1) = nth (lvV t) (upTo (sepV t) k)
  nxt : ∀ k, upTo (sepV t) (k + 1) = upTo (sepV t) k ∨ upTo (sepV t) (k + 1) = upTo (sepV t) k + 1
  fst : nth (lvV t) 0 = nth (pthT t 0) ((pthT t 0).length - 1)
  lst : nth (lvV t) ((lvV t).length - 1) = nth (pthT t 99) ((pthT t 99).length - 1)
end Go.V

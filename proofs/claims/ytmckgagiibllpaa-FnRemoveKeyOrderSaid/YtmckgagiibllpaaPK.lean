/- A part of the proofs about laws of the page tree (see the text that bears the law): a small language of steps, its rules, and what the functions of the program return. -/
import Derived.Test.YtmckgagiibllpaaPN
set_option linter.all false
set_option linter.unusedVariables false
set_option linter.unusedSimpArgs false
namespace Go.V
theorem pw_of_rising {xs : List Int} (h : ∀ j, j + 1 < xs.length → nth xs j < nth xs (j + 1)) : xs.Pairwise (· < ·) := by
  rw [List.pairwise_iff_getElem]
  intro i j hi hj hij
  have main : ∀ d, i + 1 + d < xs.length → nth xs i < nth xs (i + 1 + d) := by
    intro d
    induction d with
    | zero => intro h1; exact h i h1
    | succ d ih => intro h1; have := ih (by omega); have := h (i + 1 + d) (by omega); rw [← Nat.add_assoc]; omega
  have := main (j - i - 1) (by omega)
  rw [show i + 1 + (j - i - 1) = j by omega, nth_eq hi, nth_eq hj] at this
  exact this
theorem rising_pw {xs : List Int} : rising xs = true ↔ xs.Pairwise (· < ·) := by
  rw [rising_iff]
  constructor
  · exact pw_of_rising
  · intro h j hj
    rw [nth_eq (by omega), nth_eq hj]
    exact List.pairwise_iff_getElem.1 h j (j + 1) (by omega) hj (by omega)
theorem goodKeys_iff {xs : List Int} : goodKeys xs = true ↔ xs.Pairwise (· < ·) ∧ ∀ x ∈ xs, 0 ≤ x ∧ x ≤ 99 := by
  simp only [goodKeys, Bool.and_eq_true, rising_pw, List.all_eq_true, decide_eq_true_eq]
theorem good_filter {xs : List Int} (q : Int → Bool) (h : goodKeys xs = true) : goodKeys (xs.filter q) = true := by
  rw [goodKeys_iff] at h ⊢
  exact ⟨h.1.filter _, fun x hx => h.2 x (List.mem_filter.1 hx).1⟩
/-- without a key -/
def rmK (xs : List Int) (k : Int) : List Int := xs.take (upTo xs (k - 1)) ++ xs.drop (upTo xs (k - 1) + 1)
theorem upTo_cons_le {x : Int} {xs : List Int} {k : Int} (h : x ≤ k) : upTo (x :: xs) k = upTo xs k + 1 := by simp [upTo, h]
theorem upTo_cons_gt {x : Int} {xs : List Int} {k : Int} (h : k < x) : upTo (x :: xs) k = 0 := by simp [upTo, show ¬ x ≤ k by omega]
theorem rmK_filter_pw {k : Int} : ∀ {xs : List Int}, xs.Pairwise (· < ·) → k ∈ xs → rmK xs k = xs.filter fun x => decide (x ≠ k)
  | x :: xs, h, hk => by
    rw [List.pairwise_cons] at h
    by_cases hx : x ≤ k - 1
    · have hk' : k ∈ xs := by
        rcases List.mem_cons.1 hk with e | e
        · omega
        · exact e
      have ih := rmK_filter_pw h.2 hk'
      simp only [rmK] at ih ⊢
      rw [upTo_cons_le hx, List.take_succ_cons, List.drop_succ_cons, List.filter_cons, if_pos (by simp; omega), ← ih]
      rfl
    · have e : x = k := by
        rcases List.mem_cons.1 hk with e | e
        · exact e.symm
        · have := h.1 k e; omega
      subst e
      simp only [rmK]
      rw [upTo_cons_gt (by omega), List.filter_cons, if_neg (by simp)]
      simp only [List.take_zero, List.nil_append, Nat.zero_add, List.drop_succ_cons, List.drop_zero]
      rw [List.filter_eq_self.2]
      intro y hy
      have := h.1 y hy
      simp; omega
theorem rmK_filter {k : Int} {xs : List Int} (h : goodKeys xs = true) (hk : xs.contains k = true) : rmK xs k = xs.filter fun x => decide (x ≠ k) :=
  rmK_filter_pw (goodKeys_iff.1 h).1 (by simpa using hk)
theorem contains_below {xs : List Int} {k : Int} (h : goodKeys xs = true) : xs.contains k = (decide (upTo xs (k - 1) < xs.length) && decide (nth xs (upTo xs (k - 1)) = k)) := by
  have hr := good_rising h
  by_cases he : upTo xs (k - 1) < xs.length ∧ nth xs (upTo xs (k - 1)) = k
  · rw [decide_eq_true he.1, decide_eq_true he.2]
    exact has_true _ he.1 he.2
  · rw [show (decide (upTo xs (k - 1) < xs.length) && decide (nth xs (upTo xs (k - 1)) = k)) = false by
      by_cases h1 : upTo xs (k - 1) < xs.length
      · simp [h1]; exact fun e => he ⟨h1, e⟩
      · simp [h1]]
    refine has_false fun j hj e => ?_
    rcases Nat.lt_or_ge j (upTo xs (k - 1)) with hlt | hge
    · have := upTo_lt hlt; omega
    · have h1 := upTo_at (xs := xs) (k := k - 1) (by omega)
      have h2 := rising_le hr hge hj
      exact he ⟨by omega, by omega⟩
theorem rmK_len {xs : List Int} {k : Int} : (rmK xs k).length ≤ xs.length := by simp [rmK]; omega
theorem PCon.eqT {α : Type} [DecidableEq α] {P : Program} {f : FuncId} {args : List PV} {xs ys : α} (h : PCon P f args (fun p => p = .bool (decide (xs = ys)))) (e : xs = ys) : PCon P f args (fun p => p = .bool true) :=
  h.mono fun p e1 => e1.trans (by rw [decide_eq_true e])
theorem PCon.to {P : Program} {f : FuncId} {args : List PV} {x y : PV} (h : PCon P f args (fun p => p = x)) (e : x = y) : PCon P f args (fun p => p = y) := h.mono fun p e1 => e1.trans e
theorem list_ext_nth {α : Type} [Inhabited α] {xs ys : List α} (hl : xs.length = ys.length) (h : ∀ j, j < xs.length → nth xs j = nth ys j) : xs = ys :=
  List.ext_getElem hl fun j h1 h2 => by have := h j h1; rwa [nth_eq h1, nth_eq h2] at this
end Go.V
namespace Go.V
theorem contains_filter {xs : List Int} {q : Int → Bool} {k : Int} (h : xs.contains k = true) (hq : q k = true) : (xs.filter q).contains k = true := by
  rw [List.contains_iff_mem] at h ⊢
  exact List.mem_filter.2 ⟨h, hq⟩
/-- what FnRemoveKeyOrder comes to -/
theorem rm_order {xs : List Int} {k : Int} (hg : goodKeys xs = true) (hk : xs.contains k = true) (hne : 0 < (rmK xs k).length) :
    (goodKeys (rmK xs k) && (rmK xs k).contains (nth (rmK xs k) 0)) = true ∧ (goodKeys xs && xs.contains (nth (rmK xs k) 0)) = true ∧
    (goodKeys (rmK xs (nth (rmK xs k) 0)) && (rmK xs (nth (rmK xs k) 0)).contains k) = true ∧ rmK (rmK xs k) (nth (rmK xs k) 0) = rmK (rmK xs (nth (rmK xs k) 0)) k := by
  have e1 := rmK_filter hg hk
  have hm : nth (rmK xs k) 0 ∈ rmK xs k := nth_mem hne
  generalize nth (rmK xs k) 0 = o at hm ⊢
  rw [e1] at hm ⊢
  obtain ⟨ho, hok⟩ := List.mem_filter.1 hm
  have hok' : o ≠ k := by simpa using hok
  have ho' : xs.contains o = true := by simpa using ho
  have c1 := contains_filter (q := fun x => decide (x ≠ k)) ho' (by simpa using hok')
  have c2 := contains_filter (q := fun x => decide (x ≠ o)) hk (by simpa using hok'.symm)
  rw [rmK_filter hg ho', rmK_filter (good_filter _ hg) c1, rmK_filter (good_filter _ hg) c2, good_filter _ hg, good_filter _ hg, hg, c1, c2, ho', List.filter_filter, List.filter_filter]
  refine ⟨rfl, rfl, rfl, ?_⟩
  congr 1
  funext x
  rw [Bool.and_comm]
end Go.V

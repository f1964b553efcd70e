/- A part of the proofs about laws of the page tree (see the text that bears the law): a small language of steps, its rules, and what the functions of the program return. -/
import Derived.Test.YtjbihdcdamchnaaPR
set_option linter.all false
set_option linter.unusedVariables false
set_option linter.unusedSimpArgs false
namespace Go.V
theorem goodR_iff {xs : List (Int × Int)} : goodR xs = true ↔ (∀ x ∈ xs, -1000 ≤ x.2 ∧ x.2 ≤ 1000) ∧ xs.length ≤ 24 ∧ goodKeys (keysR xs) = true := by
  simp [goodR, okVals]
theorem goodR_sub {xs ys : List (Int × Int)} (h : goodR xs = true) (hs : ys.Sublist xs) : goodR ys = true := by
  rw [goodR_iff] at h ⊢
  exact ⟨fun x hx => h.1 x (hs.subset hx), Nat.le_trans hs.length_le h.2.1, good_sub h.2.2 (hs.map _)⟩
theorem joinOK_iff {xs ys : List (Int × Int)} : joinOK xs ys = true ↔ goodR (xs ++ ys) = true := by
  simp only [joinOK, Bool.and_eq_true]
  exact ⟨fun h => h.2, fun h => ⟨⟨goodR_sub h (List.sublist_append_left _ _), goodR_sub h (List.sublist_append_right _ _)⟩, h⟩⟩
theorem join_lt {xs ys : List (Int × Int)} (h : joinOK xs ys = true) : ∀ x ∈ xs, ∀ y ∈ ys, x.1 < y.1 := by
  rw [joinOK_iff, goodR_iff] at h
  have h1 := (goodKeys_iff.1 h.2.2).1
  unfold keysR at h1
  rw [List.map_append, List.pairwise_append] at h1
  exact fun x hx y hy => h1.2.2 x.1 (List.mem_map_of_mem hx) y.1 (List.mem_map_of_mem hy)
theorem join_back {xs ys : List (Int × Int)} (h : joinOK xs ys = true) : joinOK ys xs = (decide ((xs.length : Int) = 0) || decide ((ys.length : Int) = 0)) := by
  by_cases hx : xs = []
  · subst hx
    rw [joinOK_iff] at h
    simp only [List.length_nil, List.nil_append] at h ⊢
    exact joinOK_iff.2 (by simpa using h)
  · by_cases hy : ys = []
    · subst hy
      rw [joinOK_iff] at h
      simp only [List.length_nil, List.append_nil] at h ⊢
      rw [joinOK_iff.2 (by simpa using h)]
      simp
    · have e1 : ¬ (xs.length : Int) = 0 := fun e => hx (List.length_eq_zero_iff.1 (by omega))
      have e2 : ¬ (ys.length : Int) = 0 := fun e => hy (List.length_eq_zero_iff.1 (by omega))
      rw [decide_eq_false e1, decide_eq_false e2]
      refine Bool.eq_false_iff.2 fun hb => ?_
      obtain ⟨x, hx'⟩ := List.exists_mem_of_ne_nil _ hx
      obtain ⟨y, hy'⟩ := List.exists_mem_of_ne_nil _ hy
      have a1 := join_lt h x hx' y hy'
      have a2 := join_lt hb y hy' x hx'
      omega
theorem spl_join {xs : List (Int × Int)} (h : goodR xs = true) : joinOK (xs.take (halfR xs)) (xs.drop (halfR xs)) = true := by
  rw [joinOK_iff, List.take_append_drop]; exact h
theorem spl_t {xs : List (Int × Int)} (h : goodR xs = true) : splA xs = xs.take (halfR xs) ∧ splB xs = xs.drop (halfR xs) := by simp [splA, splB, h]
theorem spl_f {xs : List (Int × Int)} (h : goodR xs = false) : splA xs = [] ∧ splB xs = [] := by simp [splA, splB, h]
theorem join_len {xs ys : List (Int × Int)} (h : joinOK xs ys = true) : xs.length + ys.length ≤ 24 := by
  rw [joinOK_iff] at h
  simpa using goodR_len h
end Go.V
namespace Go.V
theorem joinR_b {xs ys : List (Int × Int)} : joinR xs ys = .tup [prs (if joinOK xs ys then xs ++ ys else []), .bool (joinOK xs ys)] := by
  rw [joinR]; cases joinOK xs ys <;> rfl
end Go.V

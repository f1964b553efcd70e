/- A part of the proofs about laws of the page tree (see the text that bears the law): a small language of steps, its rules, and what the functions of the program return. -/
import Derived.Test.YtjbihdcdamchnaaPN
set_option linter.all false
set_option linter.unusedVariables false
set_option linter.unusedSimpArgs false
namespace Go.V
theorem pw_of_rising {xs : List Int} (h : ∀ j, j + 1 < xs.length → nth xs j < nth xs (j + 1)) : xs.Pairwise (· < ·) := by
  rw [List.pairwise_iff_getElem]
  intro i j hi hj hij
  have main : ∀ d, i + 1 + d < xs.length → nth xs i < nth xs (i + 1 + d) := by
    intro d
    induction d with
    | zero => intro h1; exact h i h1
    | succ d ih => intro h1; have := ih (by omega); have := h (i + 1 + d) (by omega); rw [← Nat.add_assoc]; omega
  have := main (j - i - 1) (by omega)
  rw [show i + 1 + (j - i - 1) = j by omega, nth_eq hi, nth_eq hj] at this
  exact this
theorem rising_pw {xs : List Int} : rising xs = true ↔ xs.Pairwise (· < ·) := by
  rw [rising_iff]
  constructor
  · exact pw_of_rising
  · intro h j hj
    rw [nth_eq (by omega), nth_eq hj]
    exact List.pairwise_iff_getElem.1 h j (j + 1) (by omega) hj (by omega)
theorem goodKeys_iff {xs : List Int} : goodKeys xs = true ↔ xs.Pairwise (· < ·) ∧ ∀ x ∈ xs, 0 ≤ x ∧ x ≤ 99 := by
  simp only [goodKeys, Bool.and_eq_true, rising_pw, List.all_eq_true, decide_eq_true_eq]
theorem good_filter {xs : List Int} (q : Int → Bool) (h : goodKeys xs = true) : goodKeys (xs.filter q) = true := by
  rw [goodKeys_iff] at h ⊢
  exact ⟨h.1.filter _, fun x hx => h.2 x (List.mem_filter.1 hx).1⟩
/-- without a key -/
def rmK (xs : List Int) (k : Int) : List Int := xs.take (upTo xs (k - 1)) ++ xs.drop (upTo xs (k - 1) + 1)
theorem upTo_cons_le {x : Int} {xs : List Int} {k : Int} (h : x ≤ k) : upTo (x :: xs) k = upTo xs k + 1 := by simp [upTo, h]
theorem upTo_cons_gt {x : Int} {xs : List Int} {k : Int} (h : k < x) : upTo (x :: xs) k = 0 := by simp [upTo, show ¬ x ≤ k by omega]
theorem rmK_filter_pw {k : Int} : ∀ {xs : List Int}, xs.Pairwise (· < ·) → k ∈ xs → rmK xs k = xs.filter fun x => decide (x ≠ k)
  | x :: xs, h, hk => by
    rw [List.pairwise_cons] at h
    by_cases hx : x ≤ k - 1
    · have hk' : k ∈ xs := by
        rcases List.mem_cons.1 hk with e | e
        · omega
        · exact e
      have ih := rmK_filter_pw h.2 hk'
      simp only [rmK] at ih ⊢
      rw [upTo_cons_le hx, List.take_succ_cons, List.drop_succ_cons, List.filter_cons, if_pos (by simp; omega), ← ih]
      rfl
    · have e : x = k := by
        rcases List.mem_cons.1 hk with e | e
        · exact e.symm
        · have := h.1 k e; omega
      subst e
      simp only [rmK]
      rw [upTo_cons_gt (by omega), List.filter_cons, if_neg (by simp)]
      simp only [List.take_zero, List.nil_append, Nat.zero_add, List.drop_succ_cons, List.drop_zero]
      rw [List.filter_eq_self.2]
      intro y hy
      have := h.1 y hy
      simp; omega
theorem rmK_filter {k : Int} {xs : List Int} (h : goodKeys xs = true) (hk : xs.contains k = true) : rmK xs k = xs.filter fun x => decide (x ≠ k) :=
  rmK_filter_pw (goodKeys_iff.1 h).1 (by simpa using hk)
theorem contains_below {xs : List Int} {k : Int} (h : goodKeys xs = true) : xs.contains k = (decide (upTo xs (k - 1) < xs.length) && decide (nth xs (upTo xs (k - 1)) = k)) := by
  have hr := good_rising h
  by_cases he : upTo xs (k - 1) < xs.length ∧ nth xs (upTo xs (k - 1)) = k
  · rw [decide_eq_true he.1, decide_eq_true he.2]
    exact has_true _ he.1 he.2
  · rw [show (decide (upTo xs (k - 1) < xs.length) && decide (nth xs (upTo xs (k - 1)) = k)) = false by
      by_cases h1 : upTo xs (k - 1) < xs.length
      · simp [h1]; exact fun e => he ⟨h1, e⟩
      · simp [h1]]
    refine has_false fun j hj e => ?_
    rcases Nat.lt_or_ge j (upTo xs (k - 1)) with hlt | hge
    · have := upTo_lt hlt; omega
    · have h1 := upTo_at (xs := xs) (k := k - 1) (by omega)
      have h2 := rising_le hr hge hj
      exact he ⟨by omega, by omega⟩
theorem rmK_len {xs : List Int} {k : Int} : (rmK xs k).length ≤ xs.length := by simp [rmK]; omega
theorem PCon.eqT {α : Type} [DecidableEq α] {P : Program} {f : FuncId} {args : List PV} {xs ys : α} (h : PCon P f args (fun p => p = .bool (decide (xs = ys)))) (e : xs = ys) : PCon P f args (fun p => p = .bool true) :=
  h.mono fun p e1 => e1.trans (by rw [decide_eq_true e])
theorem PCon.to {P : Program} {f : FuncId} {args : List PV} {x y : PV} (h : PCon P f args (fun p => p = x)) (e : x = y) : PCon P f args (fun p => p = y) := h.mono fun p e1 => e1.trans e
theorem list_ext_nth {α : Type} [Inhabited α] {xs ys : List α} (hl : xs.length = ys.length) (h : ∀ j, j < xs.length → nth xs j = nth ys j) : xs = ys :=
  List.ext_getElem hl fun j h1 h2 => by have := h j h1; rwa [nth_eq h1, nth_eq h2] at this
end Go.V
namespace Go.V
theorem contains_filter {xs : List Int} {q : Int → Bool} {k : Int} (h : xs.contains k = true) (hq : q k = true) : (xs.filter q).contains k = true := by
  rw [List.contains_iff_mem] at h ⊢
  exact List.mem_filter.2 ⟨h, hq⟩
/-- what FnRemoveKeyOrder comes to -/
theorem rm_order {xs : List Int} {k : Int} (hg : goodKeys xs = true) (hk : xs.contains k = true) (hne : 0 < (rmK xs k).length) :
    (goodKeys (rmK xs k) && (rmK xs k).contains (nth (rmK xs k) 0)) = true ∧ (goodKeys xs && xs.contains (nth (rmK xs k) 0)) = true ∧
    (goodKeys (rmK xs (nth (rmK xs k) 0)) && (rmK xs (nth (rmK xs k) 0)).contains k) = true ∧ rmK (rmK xs k) (nth (rmK xs k) 0) = rmK (rmK xs (nth (rmK xs k) 0)) k := by
  have e1 := rmK_filter hg hk
  have hm : nth (rmK xs k) 0 ∈ rmK xs k := nth_mem hne
  generalize nth (rmK xs k) 0 = o at hm ⊢
  rw [e1] at hm ⊢
  obtain ⟨ho, hok⟩ := List.mem_filter.1 hm
  have hok' : o ≠ k := by simpa using hok
  have ho' : xs.contains o = true := by simpa using ho
  have c1 := contains_filter (q := fun x => decide (x ≠ k)) ho' (by simpa using hok')
  have c2 := contains_filter (q := fun x => decide (x ≠ o)) hk (by simpa using hok'.symm)
  rw [rmK_filter hg ho', rmK_filter (good_filter _ hg) c1, rmK_filter (good_filter _ hg) c2, good_filter _ hg, good_filter _ hg, hg, c1, c2, ho', List.filter_filter, List.filter_filter]
  refine ⟨rfl, rfl, rfl, ?_⟩
  congr 1
  funext x
  rw [Bool.and_comm]
end Go.V
namespace Go.V
theorem nodup_iff {xs : List Int} : nodupI xs = true ↔ xs.Nodup := by
  rw [List.Nodup, List.pairwise_iff_getElem]
  constructor
  · intro h i j hi hj hij e
    have := nodup_eq h hi hj (by rw [nth_eq hi, nth_eq hj]; exact e)
    omega
  · intro h
    refine nodup_true fun j hj => has_false fun i hi e => ?_
    simp at hi
    rw [nth_eq (by simp; omega), nth_eq hj, List.getElem_take] at e
    exact h i j (by omega) hj (by omega) e
theorem goodInner_iff {ks cs : List Int} : goodInner ks cs = true ↔ cs.Nodup ∧ goodKeys ks = true ∧ (1 ≤ ks.length ∧ ks.length ≤ 5) ∧ cs.length = ks.length + 1 ∧ ∀ c ∈ cs, 0 ≤ c ∧ c ≤ 15 := by
  simp only [goodInner, Bool.and_eq_true, decide_eq_true_eq, nodup_iff, List.all_eq_true]
  constructor
  · rintro ⟨h1, ⟨⟨h2, h3, h4⟩, h5⟩, h6⟩
    exact ⟨h1, h2, ⟨by omega, by omega⟩, by omega, h6⟩
  · rintro ⟨h1, h2, ⟨h3, h4⟩, h5, h6⟩
    exact ⟨h1, ⟨⟨h2, by omega, by omega⟩, by omega⟩, h6⟩
theorem good_sub {xs ys : List Int} (h : goodKeys xs = true) (hs : ys.Sublist xs) : goodKeys ys = true := by
  rw [goodKeys_iff] at h ⊢
  exact ⟨h.1.sublist hs, fun x hx => h.2 x (hs.subset hx)⟩
theorem cut_sub {α : Type} (xs : List α) {a b : Nat} (h : a ≤ b) : (xs.take a ++ xs.drop b).Sublist xs := by
  have h2 : (xs.drop b).Sublist (xs.drop a) := by
    have := List.drop_sublist (b - a) (xs.drop a)
    rwa [List.drop_drop, show a + (b - a) = b by omega] at this
  have := List.Sublist.append (List.Sublist.refl (xs.take a)) h2
  rwa [List.take_append_drop] at this
abbrev cutA (ks : List Int) (m : Nat) : List Int := ks.take (m - 1) ++ ks.drop m
abbrev cutB (cs : List Int) (m : Nat) : List Int := cs.take m ++ cs.drop (m + 1)
def okCut (ks cs : List Int) (m : Nat) : Bool := goodInner ks cs && (decide (1 ≤ m) && decide (m < cs.length) && !decide (ks.length = 1))
theorem okCut_iff {ks cs : List Int} {m : Nat} : okCut ks cs m = true ↔ goodInner ks cs = true ∧ (1 ≤ m ∧ m < cs.length) ∧ ks.length ≠ 1 := by
  simp [okCut, and_assoc]
def cutRes (ks cs : List Int) (m : Nat) : PV := if okCut ks cs m then .tup [innP (cutA ks m) (cutB cs m), .bool true] else .tup [innP [] [], .bool false]
theorem cut_good {ks cs : List Int} {m : Nat} (h : okCut ks cs m = true) : goodInner (cutA ks m) (cutB cs m) = true := by
  rw [okCut_iff] at h
  obtain ⟨h, h0, h1⟩ := h
  rw [goodInner_iff] at h ⊢
  obtain ⟨h2, h3, h4, h5, h6⟩ := h
  refine ⟨h2.sublist (cut_sub cs (by omega)), good_sub h3 (cut_sub ks (by omega)), by simp; omega, by simp; omega, fun c hc => h6 c ((cut_sub cs (by omega)).subset hc)⟩
theorem cut_lenA {ks : List Int} {m : Nat} : (cutA ks m).length ≤ ks.length + 1 := by simp; omega
theorem cut_lenB {ks : List Int} {m : Nat} : (cutB ks m).length ≤ ks.length + 1 := by simp; omega
end Go.V
namespace Go.V
theorem cutRes_t {ks cs : List Int} {m : Nat} (h : okCut ks cs m = true) : cutRes ks cs m = .tup [innP (cutA ks m) (cutB cs m), .bool true] := by rw [cutRes, if_pos h]
theorem cutRes_f {ks cs : List Int} {m : Nat} (h : okCut ks cs m = false) : cutRes ks cs m = .tup [innP [] [], .bool false] := by rw [cutRes, if_neg (by simp [h])]
theorem nth_take {α : Type} [Inhabited α] {xs ys : List α} {n i : Nat} (h : i < n) (hn : n ≤ xs.length) : nth (xs.take n ++ ys) i = nth xs i := by
  rw [nth_eq (by simp; omega), nth_eq (by omega), List.getElem_append_left (by simp; omega), List.getElem_take]
/-- what FnCutKidRoute comes to -/
theorem cut_route {ks cs : List Int} {m : Nat} (h : okCut ks cs m = true) : nth (cutB cs m) (upTo (cutA ks m) (nth ks (m - 1))) = nth cs (m - 1) ∧ (cutB cs m).contains (nth cs m) = false := by
  obtain ⟨hg, ⟨h1, h2⟩, h3⟩ := okCut_iff.1 h
  have hl := goodInner_len hg
  have hk := goodInner_keys hg
  have hr := good_rising hk
  constructor
  · have e : upTo (cutA ks m) (nth ks (m - 1)) = m - 1 := by
      refine upTo_eq (by simp; omega) (fun j hj => ?_) (fun hlt => ?_)
      · rw [nth_take hj (by omega)]
        exact rising_le hr (by omega) (by omega)
      · simp at hlt
        have e2 : nth (cutA ks m) (m - 1) = nth ks m := by
          rw [nth_eq (by simp; omega), nth_eq (by omega), List.getElem_append_right (by simp; omega)]
          simp
          congr 1
          omega
        rw [e2]
        have := rising_iff.1 hr (m - 1) (by omega)
        rwa [show m - 1 + 1 = m by omega] at this
    rw [e, nth_take (by omega) (by omega)]
  · have hn := goodInner_nodup hg
    refine has_false fun j hj e => ?_
    simp at hj
    by_cases hjm : j < m
    · rw [nth_take hjm (by omega)] at e
      have := nodup_eq hn (by omega) h2 e
      omega
    · have e2 : nth (cutB cs m) j = nth cs (j + 1) := by
        rw [nth_eq (by simp; omega), nth_eq (by omega), List.getElem_append_right (by simp; omega)]
        simp
        congr 1
        omega
      rw [e2] at e
      have := nodup_eq hn (by omega) h2 e
      omega
end Go.V

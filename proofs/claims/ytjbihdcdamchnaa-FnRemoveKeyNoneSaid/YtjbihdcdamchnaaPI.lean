/- A part of the proofs about laws of the page tree (see the text that bears the law): a small language of steps, its rules, and what the functions of the program return. -/
import Derived.Test.YtjbihdcdamchnaaPJ
set_option linter.all false
set_option linter.unusedVariables false
set_option linter.unusedSimpArgs false
namespace Go.V
/-! keyed lists that rise: they are known by what is in them -/
section keyed
variable {α : Type} {f : α → Int}
theorem keyed_ext : ∀ {xs ys : List α}, xs.Pairwise (fun a b => f a < f b) → ys.Pairwise (fun a b => f a < f b) → (∀ x, x ∈ xs ↔ x ∈ ys) → xs = ys
  | [], [], _, _, _ => rfl
  | [], y :: ys, _, _, h => absurd ((h y).2 (by simp)) (by simp)
  | x :: xs, [], _, _, h => absurd ((h x).1 (by simp)) (by simp)
  | x :: xs, y :: ys, hx, hy, h => by
    rw [List.pairwise_cons] at hx hy
    have e : x = y := by
      have h1 := (h x).1 (by simp)
      have h2 := (h y).2 (by simp)
      rcases List.mem_cons.1 h1 with e | h1
      · exact e
      · rcases List.mem_cons.1 h2 with e | h2
        · exact e.symm
        · have := hx.1 y h2; have := hy.1 x h1; omega
    subst e
    rw [keyed_ext hx.2 hy.2 fun z => ?_]
    have hz := h z
    simp only [List.mem_cons] at hz
    constructor
    · intro hm
      rcases hz.1 (.inr hm) with e | e
      · subst e; have := hx.1 z hm; omega
      · exact e
    · intro hm
      rcases hz.2 (.inr hm) with e | e
      · subst e; have := hy.1 z hm; omega
      · exact e
/-- how many keys are at most k -/
def upF (f : α → Int) (xs : List α) (k : Int) : Nat := upTo (xs.map f) k
theorem take_up {k : Int} : ∀ {xs : List α}, xs.Pairwise (fun a b => f a < f b) → xs.take (upTo (xs.map f) k) = xs.filter fun x => decide (f x ≤ k)
  | [], _ => by simp
  | x :: xs, h => by
    rw [List.pairwise_cons] at h
    rw [List.map_cons]
    by_cases hx : f x ≤ k
    · rw [upTo_cons_le hx, List.take_succ_cons, take_up h.2, List.filter_cons, if_pos (by simpa using hx)]
    · rw [upTo_cons_gt (by omega), List.filter_cons, if_neg (by simpa using hx), List.take_zero]
      symm
      rw [List.filter_eq_nil_iff]
      intro y hy
      have := h.1 y hy
      simp; omega
theorem drop_up {k : Int} : ∀ {xs : List α}, xs.Pairwise (fun a b => f a < f b) → xs.drop (upTo (xs.map f) k) = xs.filter fun x => decide (k < f x)
  | [], _ => by simp
  | x :: xs, h => by
    rw [List.pairwise_cons] at h
    rw [List.map_cons]
    by_cases hx : f x ≤ k
    · rw [upTo_cons_le hx, List.drop_succ_cons, drop_up h.2, List.filter_cons, if_neg (by simpa using hx)]
    · rw [upTo_cons_gt (by omega), List.filter_cons, if_pos (by simp; omega), List.drop_zero]
      congr 1
      symm
      rw [List.filter_eq_self]
      intro y hy
      have := h.1 y hy
      simp; omega
theorem up_count {k : Int} {xs : List α} (h : xs.Pairwise (fun a b => f a < f b)) : upTo (xs.map f) k = (xs.filter fun x => decide (f x ≤ k)).length := by
  rw [← take_up h, List.length_take, Nat.min_eq_left]
  have := upTo_le (xs.map f) k
  simpa using this
end keyed
theorem goodKeys_pw {xs : List Int} (h : goodKeys xs = true) : xs.Pairwise fun a b => id a < id b := (goodKeys_iff.1 h).1
theorem pw_map {α : Type} {f : α → Int} {xs : List α} : xs.Pairwise (fun a b => f a < f b) ↔ (xs.map f).Pairwise (· < ·) := by rw [List.pairwise_map]
/-! a further key -/
def insK (xs : List Int) (k : Int) : List Int := xs.take (upTo xs (k - 1)) ++ [k] ++ xs.drop (upTo xs (k - 1))
def okIns (xs : List Int) (k : Int) : Bool := goodKeys xs && (decide (0 ≤ k) && decide (k ≤ 99)) && !xs.contains k
theorem okIns_iff {xs : List Int} {k : Int} : okIns xs k = true ↔ goodKeys xs = true ∧ (0 ≤ k ∧ k ≤ 99) ∧ k ∉ xs := by
  simp [okIns, and_assoc]
theorem insK_mem {xs : List Int} {k x : Int} : x ∈ insK xs k ↔ x = k ∨ x ∈ xs := by
  have h : x ∈ xs ↔ x ∈ xs.take (upTo xs (k - 1)) ∨ x ∈ xs.drop (upTo xs (k - 1)) := by
    rw [← List.mem_append, List.take_append_drop]
  rw [h, insK]
  simp only [List.mem_append, List.mem_singleton]
  constructor
  · rintro ((h | h) | h)
    · exact .inr (.inl h)
    · exact .inl h
    · exact .inr (.inr h)
  · rintro (h | h | h)
    · exact .inl (.inr h)
    · exact .inl (.inl h)
    · exact .inr h
theorem insK_len {xs : List Int} {k : Int} : (insK xs k).length = xs.length + 1 := by
  have := upTo_le xs (k - 1)
  simp [insK]; omega
theorem insK_filter {xs : List Int} {k : Int} {q : Int → Bool} : ((insK xs k).filter q).length = (xs.filter q).length + (if q k then 1 else 0) := by
  have h : xs.filter q = (xs.take (upTo xs (k - 1))).filter q ++ (xs.drop (upTo xs (k - 1))).filter q := by
    rw [← List.filter_append, List.take_append_drop]
  rw [h, insK, List.filter_append, List.filter_append]
  simp only [List.length_append, List.filter_cons, List.filter_nil]
  split <;> simp <;> omega
theorem insK_pw {xs : List Int} {k : Int} (h : okIns xs k = true) : (insK xs k).Pairwise (· < ·) := by
  obtain ⟨hg, _, hk⟩ := okIns_iff.1 h
  have hp := goodKeys_pw hg
  have e1 := take_up (f := id) (k := k - 1) hp
  have e2 := drop_up (f := id) (k := k - 1) hp
  rw [List.map_id] at e1 e2
  have hp1 : xs.Pairwise (· < ·) := hp
  rw [insK, e1, e2, List.append_assoc, List.pairwise_append]
  refine ⟨hp1.filter _, ?_, fun a ha b hb => ?_⟩
  · rw [List.singleton_append, List.pairwise_cons]
    refine ⟨fun b hb => ?_, hp1.filter _⟩
    have hb' := List.mem_filter.1 hb
    have h3 : k - 1 < b := by simpa using hb'.2
    have : b ≠ k := fun e => hk (e ▸ hb'.1)
    omega
  · have ha' := List.mem_filter.1 ha
    have h3 : a ≤ k - 1 := by simpa using ha'.2
    rcases List.mem_append.1 hb with hb | hb
    · simp at hb; omega
    · have hb' := List.mem_filter.1 hb
      have h4 : k - 1 < b := by simpa using hb'.2
      omega
theorem insK_good {xs : List Int} {k : Int} (h : okIns xs k = true) : goodKeys (insK xs k) = true := by
  rw [goodKeys_iff]
  refine ⟨insK_pw h, fun x hx => ?_⟩
  obtain ⟨hg, h1, _⟩ := okIns_iff.1 h
  rcases insK_mem.1 hx with e | e
  · omega
  · exact (goodKeys_iff.1 hg).2 x e
theorem keys_ext {xs ys : List Int} (hx : goodKeys xs = true) (hy : goodKeys ys = true) (h : ∀ x, x ∈ xs ↔ x ∈ ys) : xs = ys := keyed_ext (goodKeys_pw hx) (goodKeys_pw hy) h
/-- what FnInsertKeyOrder comes to -/
theorem ins_order {xs : List Int} {k o : Int} (h : okIns xs k = true) (h2 : okIns (insK xs k) o = true) : okIns xs o = true ∧ okIns (insK xs o) k = true ∧ insK (insK xs k) o = insK (insK xs o) k := by
  obtain ⟨a1, a2, a3⟩ := okIns_iff.1 h
  obtain ⟨b1, b2, b3⟩ := okIns_iff.1 h2
  rw [insK_mem, not_or] at b3
  have c1 : okIns xs o = true := okIns_iff.2 ⟨a1, b2, b3.2⟩
  have c2 : okIns (insK xs o) k = true := okIns_iff.2 ⟨insK_good c1, a2, by rw [insK_mem, not_or]; exact ⟨fun e => b3.1 e.symm, a3⟩⟩
  refine ⟨c1, c2, keys_ext (insK_good h2) (insK_good c2) fun x => ?_⟩
  simp only [insK_mem]
  constructor <;> (rintro (h | h | h) <;> simp [h])
/-- what FnInsertKeyCount comes to -/
theorem ins_count {xs : List Int} {k m : Int} (h : okIns xs k = true) : upTo (insK xs k) m = upTo xs m + (if k ≤ m then 1 else 0) := by
  have e1 := up_count (f := id) (k := m) (goodKeys_pw (insK_good h))
  have e2 := up_count (f := id) (k := m) (goodKeys_pw (okIns_iff.1 h).1)
  rw [List.map_id] at e1 e2
  rw [e1, e2, insK_filter]
  simp
/-- what FnInsertKey comes to -/
theorem ins_there {xs : List Int} {k : Int} (h : okIns xs k = true) : nth (insK xs k) (upTo xs (k - 1)) = k ∧ (insK xs k).contains k = true ∧ rmK (insK xs k) k = xs := by
  have hl := upTo_le xs (k - 1)
  have hc : (insK xs k).contains k = true := by simpa using insK_mem.2 (.inl rfl)
  refine ⟨?_, hc, ?_⟩
  · rw [nth_eq (by rw [insK_len]; omega)]
    simp only [insK, List.append_assoc]
    rw [List.getElem_append_right (by simp; omega)]
    simp [Nat.min_eq_left hl]
  · rw [rmK_filter (insK_good h) hc]
    refine keys_ext (good_filter _ (insK_good h)) (okIns_iff.1 h).1 fun x => ?_
    rw [List.mem_filter, insK_mem]
    have := (okIns_iff.1 h).2.2
    constructor
    · rintro ⟨h1 | h1, h2⟩
      · simp [h1] at h2
      · exact h1
    · intro h1
      exact ⟨.inr h1, by simp; rintro rfl; exact this h1⟩
/-- what FnRemoveKey comes to -/
theorem rm_back {xs : List Int} {k : Int} (hg : goodKeys xs = true) (hk : xs.contains k = true) : okIns (rmK xs k) k = true ∧ insK (rmK xs k) k = xs ∧ (rmK xs k).contains k = false ∧ (rmK xs k).length + 1 = xs.length := by
  have hm : k ∈ xs := by simpa using hk
  have e := rmK_filter hg hk
  have hn : k ∉ rmK xs k := by rw [e, List.mem_filter]; simp
  have hb := (goodKeys_iff.1 hg).2 k hm
  have h1 : okIns (rmK xs k) k = true := okIns_iff.2 ⟨by rw [e]; exact good_filter _ hg, hb, hn⟩
  have h2 : insK (rmK xs k) k = xs := by
    refine keys_ext (insK_good h1) hg fun x => ?_
    rw [insK_mem, e, List.mem_filter]
    constructor
    · rintro (rfl | h)
      · exact hm
      · exact h.1
    · intro h
      by_cases e : x = k
      · exact .inl e
      · exact .inr ⟨h, by simpa using e⟩
  refine ⟨h1, h2, by simpa using hn, ?_⟩
  have := insK_len (xs := rmK xs k) (k := k)
  rw [h2] at this
  omega
end Go.V

/- A part of the proofs about laws of the page tree (see the text that bears the law): a small language of steps, its rules, and what the functions of the program return. -/
import Derived.Test.YtjbihdcdamchnaaPI
set_option linter.all false
set_option linter.unusedVariables false
set_option linter.unusedSimpArgs false
namespace Go.V
/-! rows: put and drop -/
theorem goodR_pw {xs : List (Int × Int)} (h : goodR xs = true) : xs.Pairwise fun a b => a.1 < b.1 :=
  pw_map.2 (goodKeys_iff.1 (goodR_keys h)).1
theorem rows_ext {xs ys : List (Int × Int)} (hx : goodR xs = true) (hy : goodR ys = true) (h : ∀ x, x ∈ xs ↔ x ∈ ys) : xs = ys := keyed_ext (f := Prod.fst) (goodR_pw hx) (goodR_pw hy) h
theorem row_key {xs : List (Int × Int)} (h : goodR xs = true) {x : Int × Int} (hx : x ∈ xs) : 0 ≤ x.1 ∧ x.1 ≤ 99 :=
  (goodKeys_iff.1 (goodR_keys h)).2 x.1 (List.mem_map_of_mem hx)
theorem row_one {xs : List (Int × Int)} (h : goodR xs = true) {x y : Int × Int} (hx : x ∈ xs) (hy : y ∈ xs) (e : x.1 = y.1) : x = y := by
  have hp := goodR_pw h
  induction xs with
  | nil => cases hx
  | cons a xs ih =>
    rw [List.pairwise_cons] at hp
    have hg : goodR xs = true := goodR_sub h (List.sublist_cons_self _ _)
    rcases List.mem_cons.1 hx with e1 | e1 <;> rcases List.mem_cons.1 hy with e2 | e2
    · rw [e1, e2]
    · have := hp.1 y e2; rw [e1] at e; omega
    · have := hp.1 x e1; rw [e2] at e; omega
    · exact ih hg e1 e2 hp.2
/-- without a key -/
def dropR (xs : List (Int × Int)) (k : Int) : List (Int × Int) := xs.take (atR xs k) ++ xs.drop (atR xs k + 1)
theorem there_iff {xs : List (Int × Int)} {k : Int} (h : goodR xs = true) : thereR xs k = true ↔ ∃ x ∈ xs, x.1 = k := by
  rw [← there_contains (goodR_keys h), List.contains_iff_mem, List.mem_map]
theorem row_take {xs : List (Int × Int)} {k : Int} (h : goodR xs = true) : xs.take (atR xs k) = xs.filter fun x => decide (x.1 < k) := by
  rw [atR, take_up (f := Prod.fst) (goodR_pw h)]
  congr 1; funext x; simp; omega
theorem row_drop {xs : List (Int × Int)} {k : Int} (h : goodR xs = true) : xs.drop (if thereR xs k then atR xs k + 1 else atR xs k) = xs.filter fun x => decide (k < x.1) := by
  have hp := goodR_pw h
  have e := drop_up (f := Prod.fst) (k := k - 1) hp
  rw [show upTo (xs.map Prod.fst) (k - 1) = atR xs k from rfl] at e
  by_cases ht : thereR xs k = true
  · rw [if_pos ht]
    obtain ⟨h1, h2⟩ := thereR_lt ht
    have e2 : xs.drop (atR xs k) = nth xs (atR xs k) :: xs.drop (atR xs k + 1) := by
      rw [nth_eq h1]; exact List.drop_eq_getElem_cons h1
    have e3 : (xs.drop (atR xs k)).filter (fun x => decide (k < x.1)) = xs.filter fun x => decide (k < x.1) := by
      rw [e, List.filter_filter]
      congr 1; funext x
      by_cases hx : k < x.1 <;> simp [hx] <;> omega
    rw [← e3, e2, List.filter_cons, if_neg (by simp [h2])]
    symm
    rw [List.filter_eq_self]
    intro y hy
    have hs : (nth xs (atR xs k) :: xs.drop (atR xs k + 1)).Pairwise fun a b => a.1 < b.1 := by rw [← e2]; exact hp.sublist (List.drop_sublist _ _)
    have := (List.pairwise_cons.1 hs).1 y hy
    rw [h2] at this
    simpa using this
  · rw [if_neg ht, e]
    refine List.filter_congr fun x hx => ?_
    have : x.1 ≠ k := fun e => ht ((there_iff h).2 ⟨x, hx, e⟩)
    have h3 : (k - 1 < x.1) ↔ (k < x.1) := by omega
    simp [h3]
theorem putR_filter {xs : List (Int × Int)} {x : Int × Int} (h : goodR xs = true) : putR xs x = (xs.filter fun y => decide (y.1 < x.1)) ++ [x] ++ xs.filter fun y => decide (x.1 < y.1) := by
  rw [putR, row_take h, row_drop h]
theorem dropR_filter {xs : List (Int × Int)} {k : Int} (h : goodR xs = true) (ht : thereR xs k = true) : dropR xs k = xs.filter fun y => decide (y.1 ≠ k) := by
  have h2 := row_drop (k := k) h
  rw [if_pos ht] at h2
  rw [dropR, row_take h, h2]
  refine keyed_ext (f := Prod.fst) ?_ ((goodR_pw h).filter _) fun x => ?_
  · rw [List.pairwise_append]
    refine ⟨(goodR_pw h).filter _, (goodR_pw h).filter _, fun a ha b hb => ?_⟩
    have h3 := (List.mem_filter.1 ha).2
    have h4 := (List.mem_filter.1 hb).2
    simp at h3 h4; omega
  · simp only [List.mem_append, List.mem_filter, decide_eq_true_eq]
    constructor
    · rintro (h | h)
      · exact ⟨h.1, by omega⟩
      · exact ⟨h.1, by omega⟩
    · rintro ⟨h, h3⟩
      by_cases h4 : x.1 < k
      · exact .inl ⟨h, h4⟩
      · exact .inr ⟨h, by omega⟩
theorem putR_mem {xs : List (Int × Int)} {x y : Int × Int} (h : goodR xs = true) : y ∈ putR xs x ↔ y = x ∨ (y ∈ xs ∧ y.1 ≠ x.1) := by
  rw [putR_filter h]
  simp only [List.mem_append, List.mem_filter, List.mem_singleton, decide_eq_true_eq]
  constructor
  · rintro ((⟨h1, h2⟩ | h1) | ⟨h1, h2⟩)
    · exact .inr ⟨h1, by omega⟩
    · exact .inl h1
    · exact .inr ⟨h1, by omega⟩
  · rintro (h1 | ⟨h1, h2⟩)
    · exact .inl (.inr h1)
    · by_cases h3 : y.1 < x.1
      · exact .inl (.inl ⟨h1, h3⟩)
      · exact .inr ⟨h1, by omega⟩
theorem dropR_mem {xs : List (Int × Int)} {k : Int} {y : Int × Int} (h : goodR xs = true) (ht : thereR xs k = true) : y ∈ dropR xs k ↔ y ∈ xs ∧ y.1 ≠ k := by
  rw [dropR_filter h ht, List.mem_filter]; simp
def goodX (x : Int × Int) : Bool := (decide (0 ≤ x.1) && decide (x.1 ≤ 99)) && (decide (-1000 ≤ x.2) && decide (x.2 ≤ 1000))
def okPut (xs : List (Int × Int)) (x : Int × Int) : Bool := goodR xs && goodX x && decide ((putR xs x).length ≤ 24)
theorem goodX_iff {x : Int × Int} : goodX x = true ↔ (0 ≤ x.1 ∧ x.1 ≤ 99) ∧ -1000 ≤ x.2 ∧ x.2 ≤ 1000 := by simp [goodX]
theorem goodR_one {x : Int × Int} : goodR [x] = goodX x := by
  rw [Bool.eq_iff_iff, goodR_iff, goodX_iff, goodKeys_iff]; simp [keysR]; omega
theorem okPut_iff {xs : List (Int × Int)} {x : Int × Int} : okPut xs x = true ↔ goodR xs = true ∧ goodX x = true ∧ (putR xs x).length ≤ 24 := by simp [okPut, and_assoc]
theorem putR_pw {xs : List (Int × Int)} {x : Int × Int} (h : goodR xs = true) : (putR xs x).Pairwise fun a b => a.1 < b.1 := by
  rw [putR_filter h, List.append_assoc, List.pairwise_append]
  refine ⟨(goodR_pw h).filter _, ?_, fun a ha b hb => ?_⟩
  · rw [List.singleton_append, List.pairwise_cons]
    refine ⟨fun b hb => ?_, (goodR_pw h).filter _⟩
    simpa using (List.mem_filter.1 hb).2
  · have h3 : a.1 < x.1 := by simpa using (List.mem_filter.1 ha).2
    rcases List.mem_append.1 hb with hb | hb
    · simp at hb; subst hb; exact h3
    · have h4 : x.1 < b.1 := by simpa using (List.mem_filter.1 hb).2
      omega
theorem good_of {xs : List (Int × Int)} (hp : xs.Pairwise fun a b => a.1 < b.1) (hl : xs.length ≤ 24) (hb : ∀ x ∈ xs, goodX x = true) : goodR xs = true := by
  rw [goodR_iff, goodKeys_iff]
  refine ⟨fun x hx => (goodX_iff.1 (hb x hx)).2, hl, pw_map.1 hp, fun k hk => ?_⟩
  obtain ⟨x, hx, rfl⟩ := List.mem_map.1 hk
  exact (goodX_iff.1 (hb x hx)).1
theorem row_X {xs : List (Int × Int)} (h : goodR xs = true) {x : Int × Int} (hx : x ∈ xs) : goodX x = true :=
  goodX_iff.2 ⟨row_key h hx, (goodR_iff.1 h).1 x hx⟩
theorem putR_good {xs : List (Int × Int)} {x : Int × Int} (h : okPut xs x = true) : goodR (putR xs x) = true := by
  obtain ⟨h1, h2, h3⟩ := okPut_iff.1 h
  refine good_of (putR_pw h1) h3 fun y hy => ?_
  rcases (putR_mem h1).1 hy with e | e
  · rw [e]; exact h2
  · exact row_X h1 e.1
theorem val_mem {xs : List (Int × Int)} {k v : Int} (h : goodR xs = true) (hm : (k, v) ∈ xs) : thereR xs k = true ∧ (nth xs (atR xs k)).2 = v := by
  have ht : thereR xs k = true := (there_iff h).2 ⟨_, hm, rfl⟩
  refine ⟨ht, ?_⟩
  obtain ⟨h1, h2⟩ := thereR_lt ht
  have := row_one h hm (nth_mem h1) h2.symm
  rw [← this]
theorem valR_mem {xs : List (Int × Int)} {k v : Int} (h : goodR xs = true) (hm : (k, v) ∈ xs) : valR xs k = .tup [i64 v, .bool true] := by
  obtain ⟨h1, h2⟩ := val_mem h hm
  rw [valR, h, h1, h2]; rfl
theorem valR_no {xs : List (Int × Int)} {k : Int} (h : ∀ x ∈ xs, x.1 ≠ k) : valR xs k = .tup [i64 0, .bool false] := by
  have : thereR xs k = false := Bool.eq_false_iff.2 fun ht => by
    obtain ⟨h1, h2⟩ := thereR_lt ht
    exact h _ (nth_mem h1) h2
  rw [valR, this, Bool.and_false]; rfl
/-- what FnPutPair comes to: all but the key stays -/
theorem put_without {xs : List (Int × Int)} {x : Int × Int} (h : okPut xs x = true) : ((putR xs x).filter fun y => decide (y.1 ≠ x.1)) = xs.filter fun y => decide (y.1 ≠ x.1) := by
  obtain ⟨h1, h2, h3⟩ := okPut_iff.1 h
  refine keyed_ext (f := Prod.fst) ((putR_pw h1).filter _) ((goodR_pw h1).filter _) fun y => ?_
  simp only [List.mem_filter, putR_mem h1, decide_eq_true_eq]
  constructor
  · rintro ⟨h4 | h4, h5⟩
    · subst h4; exact absurd rfl h5
    · exact ⟨h4.1, h5⟩
  · rintro ⟨h4, h5⟩
    exact ⟨.inr ⟨h4, h5⟩, h5⟩
theorem putR_twice {xs : List (Int × Int)} {k v w : Int} (h : okPut xs (k, v) = true) (hw : -1000 ≤ w ∧ w ≤ 1000) : okPut (putR xs (k, v)) (k, w) = true ∧ okPut xs (k, w) = true ∧ putR (putR xs (k, v)) (k, w) = putR xs (k, w) := by
  obtain ⟨h1, h2, h3⟩ := okPut_iff.1 h
  have hx := goodX_iff.1 h2
  have h4 : goodX (k, w) = true := goodX_iff.2 ⟨hx.1, hw⟩
  have hl : (putR xs (k, w)).length = (putR xs (k, v)).length := by rw [putR_filter h1, putR_filter h1]; simp
  have o2 : okPut xs (k, w) = true := okPut_iff.2 ⟨h1, h4, by rw [hl]; exact h3⟩
  have hg := putR_good h
  have e : putR (putR xs (k, v)) (k, w) = putR xs (k, w) := by
    refine keyed_ext (f := Prod.fst) (putR_pw hg) (putR_pw h1) fun y => ?_
    rw [putR_mem hg, putR_mem h1, putR_mem h1]
    constructor
    · rintro (h5 | ⟨h5 | h5, h6⟩)
      · exact .inl h5
      · subst h5; exact absurd rfl h6
      · exact .inr h5
    · rintro (h5 | h5)
      · exact .inl h5
      · exact .inr ⟨.inr h5, h5.2⟩
  exact ⟨okPut_iff.2 ⟨hg, h4, by rw [e, hl]; exact h3⟩, o2, e⟩
theorem put_order {xs : List (Int × Int)} {x y : Int × Int} (h : okPut xs x = true) (h2 : okPut (putR xs x) y = true) (hne : x.1 ≠ y.1) : okPut xs y = true ∧ okPut (putR xs y) x = true ∧ putR (putR xs x) y = putR (putR xs y) x := by
  obtain ⟨a1, a2, a3⟩ := okPut_iff.1 h
  obtain ⟨b1, b2, b3⟩ := okPut_iff.1 h2
  have sub : (putR xs y).Sublist (putR (putR xs x) y) ∨ True := .inr trivial
  have main : ∀ {z : Int × Int}, z ∈ putR (putR xs x) y ↔ z = y ∨ ((z = x ∨ (z ∈ xs ∧ z.1 ≠ x.1)) ∧ z.1 ≠ y.1) := fun {z} => by rw [putR_mem b1, putR_mem a1]
  have hnd : ∀ {l : List (Int × Int)}, l.Pairwise (fun a b => a.1 < b.1) → l.Nodup := fun hp => hp.imp fun hab e => by subst e; omega
  have hlen : (putR xs y).length ≤ 24 := by
    refine Nat.le_trans ?_ b3
    have hs : ∀ z ∈ keysR (putR xs y), z ∈ keysR (putR (putR xs x) y) := by
      intro k hk
      obtain ⟨z, hz, rfl⟩ := List.mem_map.1 hk
      rcases (putR_mem a1).1 hz with e | e
      · exact List.mem_map.2 ⟨z, main.2 (.inl e), rfl⟩
      · by_cases h4 : z.1 = x.1
        · exact List.mem_map.2 ⟨x, main.2 (.inr ⟨.inl rfl, hne⟩), h4.symm⟩
        · exact List.mem_map.2 ⟨z, main.2 (.inr ⟨.inr ⟨e.1, h4⟩, e.2⟩), rfl⟩
    have hn : (keysR (putR xs y)).Nodup := (pw_map.1 (putR_pw a1)).imp fun hab e => by subst e; omega
    have := List.Nodup.length_le_of_subset hn hs
    simpa using this
  have o1 : okPut xs y = true := okPut_iff.2 ⟨a1, b2, hlen⟩
  have g1 := putR_good o1
  have e : putR (putR xs x) y = putR (putR xs y) x := by
    refine keyed_ext (f := Prod.fst) (putR_pw b1) (putR_pw g1) fun z => ?_
    rw [main, putR_mem g1, putR_mem a1]
    constructor
    · rintro (h5 | ⟨h5 | h5, h6⟩)
      · subst h5; exact .inr ⟨.inl rfl, fun e => hne e.symm⟩
      · exact .inl h5
      · exact .inr ⟨.inr ⟨h5.1, h6⟩, h5.2⟩
    · rintro (h5 | ⟨h5 | h5, h6⟩)
      · subst h5; exact .inr ⟨.inl rfl, hne⟩
      · exact .inl h5
      · exact .inr ⟨.inr ⟨h5.1, h6⟩, h5.2⟩
  exact ⟨o1, okPut_iff.2 ⟨g1, a2, by rw [← e]; exact b3⟩, e⟩
def okDrop (xs : List (Int × Int)) (k : Int) : Bool := goodR xs && thereR xs k
theorem okDrop_iff {xs : List (Int × Int)} {k : Int} : okDrop xs k = true ↔ goodR xs = true ∧ thereR xs k = true := by simp [okDrop]
theorem dropR_sub {xs : List (Int × Int)} {k : Int} : (dropR xs k).Sublist xs := cut_sub xs (Nat.le_succ _)
theorem dropR_len {xs : List (Int × Int)} {k : Int} (h : thereR xs k = true) : (dropR xs k).length + 1 = xs.length := by
  have := (thereR_lt h).1
  simp [dropR]; omega
/-- what FnDropPair comes to -/
theorem drop_back {xs : List (Int × Int)} {k : Int} (h : okDrop xs k = true) : okPut (dropR xs k) (k, (nth xs (atR xs k)).2) = true ∧ putR (dropR xs k) (k, (nth xs (atR xs k)).2) = xs ∧ goodR (dropR xs k) = true ∧ thereR (dropR xs k) k = false := by
  obtain ⟨h1, h2⟩ := okDrop_iff.1 h
  obtain ⟨h3, h4⟩ := thereR_lt h2
  have hg : goodR (dropR xs k) = true := goodR_sub h1 dropR_sub
  have hm := nth_mem h3
  have hx : (k, (nth xs (atR xs k)).2) = nth xs (atR xs k) := Prod.ext h4.symm rfl
  have e : putR (dropR xs k) (k, (nth xs (atR xs k)).2) = xs := by
    refine keyed_ext (f := Prod.fst) (putR_pw hg) (goodR_pw h1) fun z => ?_
    rw [putR_mem hg, dropR_mem h1 h2]
    constructor
    · rintro (h5 | h5)
      · rw [h5, hx]; exact hm
      · exact h5.1.1
    · intro h5
      by_cases h6 : z.1 = k
      · exact .inl (by rw [hx]; exact row_one h1 h5 hm (by rw [h6, h4]))
      · exact .inr ⟨⟨h5, h6⟩, h6⟩
  refine ⟨okPut_iff.2 ⟨hg, by rw [hx]; exact row_X h1 hm, by rw [e]; exact goodR_len h1⟩, e, hg, ?_⟩
  refine Bool.eq_false_iff.2 fun ht => ?_
  obtain ⟨z, hz, hk⟩ := (there_iff hg).1 ht
  exact ((dropR_mem h1 h2).1 hz).2 hk
end Go.V

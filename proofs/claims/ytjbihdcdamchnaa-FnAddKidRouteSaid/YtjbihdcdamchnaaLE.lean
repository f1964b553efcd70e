/- A part of the proofs about laws of the page tree (see the text that bears the law): a small language of steps, its rules, and what the functions of the program return. -/
import Derived.Test.YtjbihdcdamchnaaLD
set_option linter.all false
set_option linter.unusedVariables false
set_option linter.unusedSimpArgs false
namespace Go.V
/-! keyed lists that rise: they are known by what is in them -/
section keyed
variable {α : Type} {f : α → Int}
theorem keyed_ext : ∀ {xs ys : List α}, xs.Pairwise (fun a b => f a < f b) → ys.Pairwise (fun a b => f a < f b) → (∀ x, x ∈ xs ↔ x ∈ ys) → xs = ys
  | [], [], _, _, _ => rfl
  | [], y :: ys, _, _, h => absurd ((h y).2 (by simp)) (by simp)
  | x :: xs, [], _, _, h => absurd ((h x).1 (by simp)) (by simp)
  | x :: xs, y :: ys, hx, hy, h => by
    rw [List.pairwise_cons] at hx hy
    have e : x = y := by
      have h1 := (h x).1 (by simp)
      have h2 := (h y).2 (by simp)
      rcases List.mem_cons.1 h1 with e | h1
      · exact e
      · rcases List.mem_cons.1 h2 with e | h2
        · exact e.symm
        · have := hx.1 y h2; have := hy.1 x h1; omega
    subst e
    rw [keyed_ext hx.2 hy.2 fun z => ?_]
    have hz := h z
    simp only [List.mem_cons] at hz
    constructor
    · intro hm
      rcases hz.1 (.inr hm) with e | e
      · subst e; have := hx.1 z hm; omega
      · exact e
    · intro hm
      rcases hz.2 (.inr hm) with e | e
      · subst e; have := hy.1 z hm; omega
      · exact e
/-- how many keys are at most k -/
def upF (f : α → Int) (xs : List α) (k : Int) : Nat := upTo (xs.map f) k
theorem take_up {k : Int} : ∀ {xs : List α}, xs.Pairwise (fun a b => f a < f b) → xs.take (upTo (xs.map f) k) = xs.filter fun x => decide (f x ≤ k)
  | [], _ => by simp
  | x :: xs, h => by
    rw [List.pairwise_cons] at h
    rw [List.map_cons]
    by_cases hx : f x ≤ k
    · rw [upTo_cons_le hx, List.take_succ_cons, take_up h.2, List.filter_cons, if_pos (by simpa using hx)]
    · rw [upTo_cons_gt (by omega), List.filter_cons, if_neg (by simpa using hx), List.take_zero]
      symm
      rw [List.filter_eq_nil_iff]
      intro y hy
      have := h.1 y hy
      simp; omega
theorem drop_up {k : Int} : ∀ {xs : List α}, xs.Pairwise (fun a b => f a < f b) → xs.drop (upTo (xs.map f) k) = xs.filter fun x => decide (k < f x)
  | [], _ => by simp
  | x :: xs, h => by
    rw [List.pairwise_cons] at h
    rw [List.map_cons]
    by_cases hx : f x ≤ k
    · rw [upTo_cons_le hx, List.drop_succ_cons, drop_up h.2, List.filter_cons, if_neg (by simpa using hx)]
    · rw [upTo_cons_gt (by omega), List.filter_cons, if_pos (by simp; omega), List.drop_zero]
      congr 1
      symm
      rw [List.filter_eq_self]
      intro y hy
      have := h.1 y hy
      simp; omega
theorem up_count {k : Int} {xs : List α} (h : xs.Pairwise (fun a b => f a < f b)) : upTo (xs.map f) k = (xs.filter fun x => decide (f x ≤ k)).length := by
  rw [← take_up h, List.length_take, Nat.min_eq_left]
  have := upTo_le (xs.map f) k
  simpa using this
end keyed
theorem goodKeys_pw {xs : List Int} (h : goodKeys xs = true) : xs.Pairwise fun a b => id a < id b := (goodKeys_iff.1 h).1
theorem pw_map {α : Type} {f : α → Int} {xs : List α} : xs.Pairwise (fun a b => f a < f b) ↔ (xs.map f).Pairwise (· < ·) := by rw [List.pairwise_map]
/-! a further key -/
def insK (xs : List Int) (k : Int) : List Int := xs.take (upTo xs (k - 1)) ++ [k] ++ xs.drop (upTo xs (k - 1))
def okIns (xs : List Int) (k : Int) : Bool := goodKeys xs && (decide (0 ≤ k) && decide (k ≤ 99)) && !xs.contains k
theorem okIns_iff {xs : List Int} {k : Int} : okIns xs k = true ↔ goodKeys xs = true ∧ (0 ≤ k ∧ k ≤ 99) ∧ k ∉ xs := by
  simp [okIns, and_assoc]
theorem insK_mem {xs : List Int} {k x : Int} : x ∈ insK xs k ↔ x = k ∨ x ∈ xs := by
  have h : x ∈ xs ↔ x ∈ xs.take (upTo xs (k - 1)) ∨ x ∈ xs.drop (upTo xs (k - 1)) := by
    rw [← List.mem_append, List.take_append_drop]
  rw [h, insK]
  simp only [List.mem_append, List.mem_singleton]
  constructor
  · rintro ((h | h) | h)
    · exact .inr (.inl h)
    · exact .inl h
    · exact .inr (.inr h)
  · rintro (h | h | h)
    · exact .inl (.inr h)
    · exact .inl (.inl h)
    · exact .inr h
theorem insK_len {xs : List Int} {k : Int} : (insK xs k).length = xs.length + 1 := by
  have := upTo_le xs (k - 1)
  simp [insK]; omega
theorem insK_filter {xs : List Int} {k : Int} {q : Int → Bool} : ((insK xs k).filter q).length = (xs.filter q).length + (if q k then 1 else 0) := by
  have h : xs.filter q = (xs.take (upTo xs (k - 1))).filter q ++ (xs.drop (upTo xs (k - 1))).filter q := by
    rw [← List.filter_append, List.take_append_drop]
  rw [h, insK, List.filter_append, List.filter_append]
  simp only [List.length_append, List.filter_cons, List.filter_nil]
  split <;> simp <;> omega
theorem insK_pw {xs : List Int} {k : Int} (h : okIns xs k = true) : (insK xs k).Pairwise (· < ·) := by
  obtain ⟨hg, _, hk⟩ := okIns_iff.1 h
  have hp := goodKeys_pw hg
  have e1 := take_up (f := id) (k := k - 1) hp
  have e2 := drop_up (f := id) (k := k - 1) hp
  rw [List.map_id] at e1 e2
  have hp1 : xs.Pairwise (· < ·) := hp
  rw [insK, e1, e2, List.append_assoc, List.pairwise_append]
  refine ⟨hp1.filter _, ?_, fun a ha b hb => ?_⟩
  · rw [List.singleton_append, List.pairwise_cons]
    refine ⟨fun b hb => ?_, hp1.filter _⟩
    have hb' := List.mem_filter.1 hb
    have h3 : k - 1 < b := by simpa using hb'.2
    have : b ≠ k := fun e => hk (e ▸ hb'.1)
    omega
  · have ha' := List.mem_filter.1 ha
    have h3 : a ≤ k - 1 := by simpa using ha'.2
    rcases List.mem_append.1 hb with hb | hb
    · simp at hb; omega
    · have hb' := List.mem_filter.1 hb
      have h4 : k - 1 < b := by simpa using hb'.2
      omega
theorem insK_good {xs : List Int} {k : Int} (h : okIns xs k = true) : goodKeys (insK xs k) = true := by
  rw [goodKeys_iff]
  refine ⟨insK_pw h, fun x hx => ?_⟩
  obtain ⟨hg, h1, _⟩ := okIns_iff.1 h
  rcases insK_mem.1 hx with e | e
  · omega
  · exact (goodKeys_iff.1 hg).2 x e
theorem keys_ext {xs ys : List Int} (hx : goodKeys xs = true) (hy : goodKeys ys = true) (h : ∀ x, x ∈ xs ↔ x ∈ ys) : xs = ys := keyed_ext (goodKeys_pw hx) (goodKeys_pw hy) h
/-- what FnInsertKeyOrder comes to -/
theorem ins_order {xs : List Int} {k o : Int} (h : okIns xs k = true) (h2 : okIns (insK xs k) o = true) : okIns xs o = true ∧ okIns (insK xs o) k = true ∧ insK (insK xs k) o = insK (insK xs o) k := by
  obtain ⟨a1, a2, a3⟩ := okIns_iff.1 h
  obtain ⟨b1, b2, b3⟩ := okIns_iff.1 h2
  rw [insK_mem, not_or] at b3
  have c1 : okIns xs o = true := okIns_iff.2 ⟨a1, b2, b3.2⟩
  have c2 : okIns (insK xs o) k = true := okIns_iff.2 ⟨insK_good c1, a2, by rw [insK_mem, not_or]; exact ⟨fun e => b3.1 e.symm, a3⟩⟩
  refine ⟨c1, c2, keys_ext (insK_good h2) (insK_good c2) fun x => ?_⟩
  simp only [insK_mem]
  constructor <;> (rintro (h | h | h) <;> simp [h])
/-- what FnInsertKeyCount comes to -/
theorem ins_count {xs : List Int} {k m : Int} (h : okIns xs k = true) : upTo (insK xs k) m = upTo xs m + (if k ≤ m then 1 else 0) := by
  have e1 := up_count (f := id) (k := m) (goodKeys_pw (insK_good h))
  have e2 := up_count (f := id) (k := m) (goodKeys_pw (okIns_iff.1 h).1)
  rw [List.map_id] at e1 e2
  rw [e1, e2, insK_filter]
  simp
/-- what FnInsertKey comes to -/
theorem ins_there {xs : List Int} {k : Int} (h : okIns xs k = true) : nth (insK xs k) (upTo xs (k - 1)) = k ∧ (insK xs k).contains k = true ∧ rmK (insK xs k) k = xs := by
  have hl := upTo_le xs (k - 1)
  have hc : (insK xs k).contains k = true := by simpa using insK_mem.2 (.inl rfl)
  refine ⟨?_, hc, ?_⟩
  · rw [nth_eq (by rw [insK_len]; omega)]
    simp only [insK, List.append_assoc]
    rw [List.getElem_append_right (by simp; omega)]
    simp [Nat.min_eq_left hl]
  · rw [rmK_filter (insK_good h) hc]
    refine keys_ext (good_filter _ (insK_good h)) (okIns_iff.1 h).1 fun x => ?_
    rw [List.mem_filter, insK_mem]
    have := (okIns_iff.1 h).2.2
    constructor
    · rintro ⟨h1 | h1, h2⟩
      · simp [h1] at h2
      · exact h1
    · intro h1
      exact ⟨.inr h1, by simp; rintro rfl; exact this h1⟩
/-- what FnRemoveKey comes to -/
theorem rm_back {xs : List Int} {k : Int} (hg : goodKeys xs = true) (hk : xs.contains k = true) : okIns (rmK xs k) k = true ∧ insK (rmK xs k) k = xs ∧ (rmK xs k).contains k = false ∧ (rmK xs k).length + 1 = xs.length := by
  have hm : k ∈ xs := by simpa using hk
  have e := rmK_filter hg hk
  have hn : k ∉ rmK xs k := by rw [e, List.mem_filter]; simp
  have hb := (goodKeys_iff.1 hg).2 k hm
  have h1 : okIns (rmK xs k) k = true := okIns_iff.2 ⟨by rw [e]; exact good_filter _ hg, hb, hn⟩
  have h2 : insK (rmK xs k) k = xs := by
    refine keys_ext (insK_good h1) hg fun x => ?_
    rw [insK_mem, e, List.mem_filter]
    constructor
    · rintro (rfl | h)
      · exact hm
      · exact h.1
    · intro h
      by_cases e : x = k
      · exact .inl e
      · exact .inr ⟨h, by simpa using e⟩
  refine ⟨h1, h2, by simpa using hn, ?_⟩
  have := insK_len (xs := rmK xs k) (k := k)
  rw [h2] at this
  omega
end Go.V

namespace Go.V
/-! rows: put and drop -/
theorem goodR_pw {xs : List (Int × Int)} (h : goodR xs = true) : xs.Pairwise fun a b => a.1 < b.1 :=
  pw_map.2 (goodKeys_iff.1 (goodR_keys h)).1
theorem rows_ext {xs ys : List (Int × Int)} (hx : goodR xs = true) (hy : goodR ys = true) (h : ∀ x, x ∈ xs ↔ x ∈ ys) : xs = ys := keyed_ext (f := Prod.fst) (goodR_pw hx) (goodR_pw hy) h
theorem row_key {xs : List (Int × Int)} (h : goodR xs = true) {x : Int × Int} (hx : x ∈ xs) : 0 ≤ x.1 ∧ x.1 ≤ 99 :=
  (goodKeys_iff.1 (goodR_keys h)).2 x.1 (List.mem_map_of_mem hx)
theorem row_one {xs : List (Int × Int)} (h : goodR xs = true) {x y : Int × Int} (hx : x ∈ xs) (hy : y ∈ xs) (e : x.1 = y.1) : x = y := by
  have hp := goodR_pw h
  induction xs with
  | nil => cases hx
  | cons a xs ih =>
    rw [List.pairwise_cons] at hp
    have hg : goodR xs = true := goodR_sub h (List.sublist_cons_self _ _)
    rcases List.mem_cons.1 hx with e1 | e1 <;> rcases List.mem_cons.1 hy with e2 | e2
    · rw [e1, e2]
    · have := hp.1 y e2; rw [e1] at e; omega
    · have := hp.1 x e1; rw [e2] at e; omega
    · exact ih hg e1 e2 hp.2
/-- without a key -/
def dropR (xs : List (Int × Int)) (k : Int) : List (Int × Int) := xs.take (atR xs k) ++ xs.drop (atR xs k + 1)
theorem there_iff {xs : List (Int × Int)} {k : Int} (h : goodR xs = true) : thereR xs k = true ↔ ∃ x ∈ xs, x.1 = k := by
  rw [← there_contains (goodR_keys h), List.contains_iff_mem, List.mem_map]
theorem row_take {xs : List (Int × Int)} {k : Int} (h : goodR xs = true) : xs.take (atR xs k) = xs.filter fun x => decide (x.1 < k) := by
  rw [atR, take_up (f := Prod.fst) (goodR_pw h)]
  congr 1; funext x; simp; omega
theorem row_drop {xs : List (Int × Int)} {k : Int} (h : goodR xs = true) : xs.drop (if thereR xs k then atR xs k + 1 else atR xs k) = xs.filter fun x => decide (k < x.1) := by
  have hp := goodR_pw h
  have e := drop_up (f := Prod.fst) (k := k - 1) hp
  rw [show upTo (xs.map Prod.fst) (k - 1) = atR xs k from rfl] at e
  by_cases ht : thereR xs k = true
  · rw [if_pos ht]
    obtain ⟨h1, h2⟩ := thereR_lt ht
    have e2 : xs.drop (atR xs k) = nth xs (atR xs k) :: xs.drop (atR xs k + 1) := by
      rw [nth_eq h1]; exact List.drop_eq_getElem_cons h1
    have e3 : (xs.drop (atR xs k)).filter (fun x => decide (k < x.1)) = xs.filter fun x => decide (k < x.1) := by
      rw [e, List.filter_filter]
      congr 1; funext x
      by_cases hx : k < x.1 <;> simp [hx] <;> omega
    rw [← e3, e2, List.filter_cons, if_neg (by simp [h2])]
    symm
    rw [List.filter_eq_self]
    intro y hy
    have hs : (nth xs (atR xs k) :: xs.drop (atR xs k + 1)).Pairwise fun a b => a.1 < b.1 := by rw [← e2]; exact hp.sublist (List.drop_sublist _ _)
    have := (List.pairwise_cons.1 hs).1 y hy
    rw [h2] at this
    simpa using this
  · rw [if_neg ht, e]
    refine List.filter_congr fun x hx => ?_
    have : x.1 ≠ k := fun e => ht ((there_iff h).2 ⟨x, hx, e⟩)
    have h3 : (k - 1 < x.1) ↔ (k < x.1) := by omega
    simp [h3]
theorem putR_filter {xs : List (Int × Int)} {x : Int × Int} (h : goodR xs = true) : putR xs x = (xs.filter fun y => decide (y.1 < x.1)) ++ [x] ++ xs.filter fun y => decide (x.1 < y.1) := by
  rw [putR, row_take h, row_drop h]
theorem dropR_filter {xs : List (Int × Int)} {k : Int} (h : goodR xs = true) (ht : thereR xs k = true) : dropR xs k = xs.filter fun y => decide (y.1 ≠ k) := by
  have h2 := row_drop (k := k) h
  rw [if_pos ht] at h2
  rw [dropR, row_take h, h2]
  refine keyed_ext (f := Prod.fst) ?_ ((goodR_pw h).filter _) fun x => ?_
  · rw [List.pairwise_append]
    refine ⟨(goodR_pw h).filter _, (goodR_pw h).filter _, fun a ha b hb => ?_⟩
    have h3 := (List.mem_filter.1 ha).2
    have h4 := (List.mem_filter.1 hb).2
    simp at h3 h4; omega
  · simp only [List.mem_append, List.mem_filter, decide_eq_true_eq]
    constructor
    · rintro (h | h)
      · exact ⟨h.1, by omega⟩
      · exact ⟨h.1, by omega⟩
    · rintro ⟨h, h3⟩
      by_cases h4 : x.1 < k
      · exact .inl ⟨h, h4⟩
      · exact .inr ⟨h, by omega⟩
theorem putR_mem {xs : List (Int × Int)} {x y : Int × Int} (h : goodR xs = true) : y ∈ putR xs x ↔ y = x ∨ (y ∈ xs ∧ y.1 ≠ x.1) := by
  rw [putR_filter h]
  simp only [List.mem_append, List.mem_filter, List.mem_singleton, decide_eq_true_eq]
  constructor
  · rintro ((⟨h1, h2⟩ | h1) | ⟨h1, h2⟩)
    · exact .inr ⟨h1, by omega⟩
    · exact .inl h1
    · exact .inr ⟨h1, by omega⟩
  · rintro (h1 | ⟨h1, h2⟩)
    · exact .inl (.inr h1)
    · by_cases h3 : y.1 < x.1
      · exact .inl (.inl ⟨h1, h3⟩)
      · exact .inr ⟨h1, by omega⟩
theorem dropR_mem {xs : List (Int × Int)} {k : Int} {y : Int × Int} (h : goodR xs = true) (ht : thereR xs k = true) : y ∈ dropR xs k ↔ y ∈ xs ∧ y.1 ≠ k := by
  rw [dropR_filter h ht, List.mem_filter]; simp
def goodX (x : Int × Int) : Bool := (decide (0 ≤ x.1) && decide (x.1 ≤ 99)) && (decide (-1000 ≤ x.2) && decide (x.2 ≤ 1000))
def okPut (xs : List (Int × Int)) (x : Int × Int) : Bool := goodR xs && goodX x && decide ((putR xs x).length ≤ 24)
theorem goodX_iff {x : Int × Int} : goodX x = true ↔ (0 ≤ x.1 ∧ x.1 ≤ 99) ∧ -1000 ≤ x.2 ∧ x.2 ≤ 1000 := by simp [goodX]
theorem goodR_one {x : Int × Int} : goodR [x] = goodX x := by
  rw [Bool.eq_iff_iff, goodR_iff, goodX_iff, goodKeys_iff]; simp [keysR]; omega
theorem okPut_iff {xs : List (Int × Int)} {x : Int × Int} : okPut xs x = true ↔ goodR xs = true ∧ goodX x = true ∧ (putR xs x).length ≤ 24 := by simp [okPut, and_assoc]
theorem putR_pw {xs : List (Int × Int)} {x : Int × Int} (h : goodR xs = true) : (putR xs x).Pairwise fun a b => a.1 < b.1 := by
  rw [putR_filter h, List.append_assoc, List.pairwise_append]
  refine ⟨(goodR_pw h).filter _, ?_, fun a ha b hb => ?_⟩
  · rw [List.singleton_append, List.pairwise_cons]
    refine ⟨fun b hb => ?_, (goodR_pw h).filter _⟩
    simpa using (List.mem_filter.1 hb).2
  · have h3 : a.1 < x.1 := by simpa using (List.mem_filter.1 ha).2
    rcases List.mem_append.1 hb with hb | hb
    · simp at hb; subst hb; exact h3
    · have h4 : x.1 < b.1 := by simpa using (List.mem_filter.1 hb).2
      omega
theorem good_of {xs : List (Int × Int)} (hp : xs.Pairwise fun a b => a.1 < b.1) (hl : xs.length ≤ 24) (hb : ∀ x ∈ xs, goodX x = true) : goodR xs = true := by
  rw [goodR_iff, goodKeys_iff]
  refine ⟨fun x hx => (goodX_iff.1 (hb x hx)).2, hl, pw_map.1 hp, fun k hk => ?_⟩
  obtain ⟨x, hx, rfl⟩ := List.mem_map.1 hk
  exact (goodX_iff.1 (hb x hx)).1
theorem row_X {xs : List (Int × Int)} (h : goodR xs = true) {x : Int × Int} (hx : x ∈ xs) : goodX x = true :=
  goodX_iff.2 ⟨row_key h hx, (goodR_iff.1 h).1 x hx⟩
theorem putR_good {xs : List (Int × Int)} {x : Int × Int} (h : okPut xs x = true) : goodR (putR xs x) = true := by
  obtain ⟨h1, h2, h3⟩ := okPut_iff.1 h
  refine good_of (putR_pw h1) h3 fun y hy => ?_
  rcases (putR_mem h1).1 hy with e | e
  · rw [e]; exact h2
  · exact row_X h1 e.1
theorem val_mem {xs : List (Int × Int)} {k v : Int} (h : goodR xs = true) (hm : (k, v) ∈ xs) : thereR xs k = true ∧ (nth xs (atR xs k)).2 = v := by
  have ht : thereR xs k = true := (there_iff h).2 ⟨_, hm, rfl⟩
  refine ⟨ht, ?_⟩
  obtain ⟨h1, h2⟩ := thereR_lt ht
  have := row_one h hm (nth_mem h1) h2.symm
  rw [← this]
theorem valR_mem {xs : List (Int × Int)} {k v : Int} (h : goodR xs = true) (hm : (k, v) ∈ xs) : valR xs k = .tup [i64 v, .bool true] := by
  obtain ⟨h1, h2⟩ := val_mem h hm
  rw [valR, h, h1, h2]; rfl
theorem valR_no {xs : List (Int × Int)} {k : Int} (h : ∀ x ∈ xs, x.1 ≠ k) : valR xs k = .tup [i64 0, .bool false] := by
  have : thereR xs k = false := Bool.eq_false_iff.2 fun ht => by
    obtain ⟨h1, h2⟩ := thereR_lt ht
    exact h _ (nth_mem h1) h2
  rw [valR, this, Bool.and_false]; rfl
/-- what FnPutPair comes to: all but the key stays -/
theorem put_without {xs : List (Int × Int)} {x : Int × Int} (h : okPut xs x = true) : ((putR xs x).filter fun y => decide (y.1 ≠ x.1)) = xs.filter fun y => decide (y.1 ≠ x.1) := by
  obtain ⟨h1, h2, h3⟩ := okPut_iff.1 h
  refine keyed_ext (f := Prod.fst) ((putR_pw h1).filter _) ((goodR_pw h1).filter _) fun y => ?_
  simp only [List.mem_filter, putR_mem h1, decide_eq_true_eq]
  constructor
  · rintro ⟨h4 | h4, h5⟩
    · subst h4; exact absurd rfl h5
    · exact ⟨h4.1, h5⟩
  · rintro ⟨h4, h5⟩
    exact ⟨.inr ⟨h4, h5⟩, h5⟩
theorem putR_twice {xs : List (Int × Int)} {k v w : Int} (h : okPut xs (k, v) = true) (hw : -1000 ≤ w ∧ w ≤ 1000) : okPut (putR xs (k, v)) (k, w) = true ∧ okPut xs (k, w) = true ∧ putR (putR xs (k, v)) (k, w) = putR xs (k, w) := by
  obtain ⟨h1, h2, h3⟩ := okPut_iff.1 h
  have hx := goodX_iff.1 h2
  have h4 : goodX (k, w) = true := goodX_iff.2 ⟨hx.1, hw⟩
  have hl : (putR xs (k, w)).length = (putR xs (k, v)).length := by rw [putR_filter h1, putR_filter h1]; simp
  have o2 : okPut xs (k, w) = true := okPut_iff.2 ⟨h1, h4, by rw [hl]; exact h3⟩
  have hg := putR_good h
  have e : putR (putR xs (k, v)) (k, w) = putR xs (k, w) := by
    refine keyed_ext (f := Prod.fst) (putR_pw hg) (putR_pw h1) fun y => ?_
    rw [putR_mem hg, putR_mem h1, putR_mem h1]
    constructor
    · rintro (h5 | ⟨h5 | h5, h6⟩)
      · exact .inl h5
      · subst h5; exact absurd rfl h6
      · exact .inr h5
    · rintro (h5 | h5)
      · exact .inl h5
      · exact .inr ⟨.inr h5, h5.2⟩
  exact ⟨okPut_iff.2 ⟨hg, h4, by rw [e, hl]; exact h3⟩, o2, e⟩
theorem put_order {xs : List (Int × Int)} {x y : Int × Int} (h : okPut xs x = true) (h2 : okPut (putR xs x) y = true) (hne : x.1 ≠ y.1) : okPut xs y = true ∧ okPut (putR xs y) x = true ∧ putR (putR xs x) y = putR (putR xs y) x := by
  obtain ⟨a1, a2, a3⟩ := okPut_iff.1 h
  obtain ⟨b1, b2, b3⟩ := okPut_iff.1 h2
  have sub : (putR xs y).Sublist (putR (putR xs x) y) ∨ True := .inr trivial
  have main : ∀ {z : Int × Int}, z ∈ putR (putR xs x) y ↔ z = y ∨ ((z = x ∨ (z ∈ xs ∧ z.1 ≠ x.1)) ∧ z.1 ≠ y.1) := fun {z} => by rw [putR_mem b1, putR_mem a1]
  have hnd : ∀ {l : List (Int × Int)}, l.Pairwise (fun a b => a.1 < b.1) → l.Nodup := fun hp => hp.imp fun hab e => by subst e; omega
  have hlen : (putR xs y).length ≤ 24 := by
    refine Nat.le_trans ?_ b3
    have hs : ∀ z ∈ keysR (putR xs y), z ∈ keysR (putR (putR xs x) y) := by
      intro k hk
      obtain ⟨z, hz, rfl⟩ := List.mem_map.1 hk
      rcases (putR_mem a1).1 hz with e | e
      · exact List.mem_map.2 ⟨z, main.2 (.inl e), rfl⟩
      · by_cases h4 : z.1 = x.1
        · exact List.mem_map.2 ⟨x, main.2 (.inr ⟨.inl rfl, hne⟩), h4.symm⟩
        · exact List.mem_map.2 ⟨z, main.2 (.inr ⟨.inr ⟨e.1, h4⟩, e.2⟩), rfl⟩
    have hn : (keysR (putR xs y)).Nodup := (pw_map.1 (putR_pw a1)).imp fun hab e => by subst e; omega
    have := List.Nodup.length_le_of_subset hn hs
    simpa using this
  have o1 : okPut xs y = true := okPut_iff.2 ⟨a1, b2, hlen⟩
  have g1 := putR_good o1
  have e : putR (putR xs x) y = putR (putR xs y) x := by
    refine keyed_ext (f := Prod.fst) (putR_pw b1) (putR_pw g1) fun z => ?_
    rw [main, putR_mem g1, putR_mem a1]
    constructor
    · rintro (h5 | ⟨h5 | h5, h6⟩)
      · subst h5; exact .inr ⟨.inl rfl, fun e => hne e.symm⟩
      · exact .inl h5
      · exact .inr ⟨.inr ⟨h5.1, h6⟩, h5.2⟩
    · rintro (h5 | ⟨h5 | h5, h6⟩)
      · subst h5; exact .inr ⟨.inl rfl, hne⟩
      · exact .inl h5
      · exact .inr ⟨.inr ⟨h5.1, h6⟩, h5.2⟩
  exact ⟨o1, okPut_iff.2 ⟨g1, a2, by rw [← e]; exact b3⟩, e⟩
def okDrop (xs : List (Int × Int)) (k : Int) : Bool := goodR xs && thereR xs k
theorem okDrop_iff {xs : List (Int × Int)} {k : Int} : okDrop xs k = true ↔ goodR xs = true ∧ thereR xs k = true := by simp [okDrop]
theorem dropR_sub {xs : List (Int × Int)} {k : Int} : (dropR xs k).Sublist xs := cut_sub xs (Nat.le_succ _)
theorem dropR_len {xs : List (Int × Int)} {k : Int} (h : thereR xs k = true) : (dropR xs k).length + 1 = xs.length := by
  have := (thereR_lt h).1
  simp [dropR]; omega
/-- what FnDropPair comes to -/
theorem drop_back {xs : List (Int × Int)} {k : Int} (h : okDrop xs k = true) : okPut (dropR xs k) (k, (nth xs (atR xs k)).2) = true ∧ putR (dropR xs k) (k, (nth xs (atR xs k)).2) = xs ∧ goodR (dropR xs k) = true ∧ thereR (dropR xs k) k = false := by
  obtain ⟨h1, h2⟩ := okDrop_iff.1 h
  obtain ⟨h3, h4⟩ := thereR_lt h2
  have hg : goodR (dropR xs k) = true := goodR_sub h1 dropR_sub
  have hm := nth_mem h3
  have hx : (k, (nth xs (atR xs k)).2) = nth xs (atR xs k) := Prod.ext h4.symm rfl
  have e : putR (dropR xs k) (k, (nth xs (atR xs k)).2) = xs := by
    refine keyed_ext (f := Prod.fst) (putR_pw hg) (goodR_pw h1) fun z => ?_
    rw [putR_mem hg, dropR_mem h1 h2]
    constructor
    · rintro (h5 | h5)
      · rw [h5, hx]; exact hm
      · exact h5.1.1
    · intro h5
      by_cases h6 : z.1 = k
      · exact .inl (by rw [hx]; exact row_one h1 h5 hm (by rw [h6, h4]))
      · exact .inr ⟨⟨h5, h6⟩, h6⟩
  refine ⟨okPut_iff.2 ⟨hg, by rw [hx]; exact row_X h1 hm, by rw [e]; exact goodR_len h1⟩, e, hg, ?_⟩
  refine Bool.eq_false_iff.2 fun ht => ?_
  obtain ⟨z, hz, hk⟩ := (there_iff hg).1 ht
  exact ((dropR_mem h1 h2).1 hz).2 hk
end Go.V

namespace Go.V
/-! insides: joined and split -/
abbrev bothA (a : List Int) (k : Int) (b : List Int) : List Int := a ++ [k] ++ b
def okJI (a c : List Int) (k : Int) (b d : List Int) : Bool := goodInner a c && goodInner b d && goodInner (bothA a k b) (c ++ d)
def joinI (a c : List Int) (k : Int) (b d : List Int) : PV := if okJI a c k b d then .tup [innP (bothA a k b) (c ++ d), .bool true] else .tup [innP [] [], .bool false]
theorem joinI_t {a c : List Int} {k : Int} {b d : List Int} (h : okJI a c k b d = true) : joinI a c k b d = .tup [innP (bothA a k b) (c ++ d), .bool true] := by rw [joinI, if_pos h]
theorem joinI_f {a c : List Int} {k : Int} {b d : List Int} (h : okJI a c k b d = false) : joinI a c k b d = .tup [innP [] [], .bool false] := by rw [joinI, if_neg (by simp [h])]
theorem okJI_iff {a c : List Int} {k : Int} {b d : List Int} : okJI a c k b d = true ↔ goodInner a c = true ∧ goodInner b d = true ∧ goodInner (bothA a k b) (c ++ d) = true := by simp [okJI, and_assoc]
theorem ji_len {a c : List Int} {k : Int} {b d : List Int} (h : okJI a c k b d = true) : a.length + b.length ≤ 4 ∧ 1 ≤ a.length ∧ 1 ≤ b.length ∧ c.length = a.length + 1 ∧ d.length = b.length + 1 := by
  obtain ⟨h1, h2, h3⟩ := okJI_iff.1 h
  have a1 := goodInner_one h3
  have a2 := goodInner_one h1
  have a3 := goodInner_one h2
  have a4 := goodInner_len h1
  have a5 := goodInner_len h2
  simp at a1
  omega
theorem ji_nth {a : List Int} {k : Int} {b : List Int} : nth (bothA a k b) a.length = k := by
  rw [nth_eq (by simp)]
  simp
theorem ji_take {a : List Int} {k : Int} {b : List Int} : (bothA a k b).take a.length = a := by simp [bothA]
theorem ji_drop {a : List Int} {k : Int} {b : List Int} : (bothA a k b).drop (a.length + 1) = b := by simp [bothA]
abbrev halfI (ks : List Int) : Nat := ks.length / 2
def okSI (ks cs : List Int) : Bool := goodInner ks cs && decide (3 ≤ ks.length)
theorem okSI_iff {ks cs : List Int} : okSI ks cs = true ↔ goodInner ks cs = true ∧ 3 ≤ ks.length := by simp [okSI]
def splI (ks cs : List Int) : PV := if okSI ks cs then .tup [innP (ks.take (halfI ks)) (cs.take (halfI ks + 1)), i64 (nth ks (halfI ks)), innP (ks.drop (halfI ks + 1)) (cs.drop (halfI ks + 1)), .bool true] else .tup [innP [] [], i64 0, innP [] [], .bool false]
theorem splI_t {ks cs : List Int} (h : okSI ks cs = true) : splI ks cs = .tup [innP (ks.take (halfI ks)) (cs.take (halfI ks + 1)), i64 (nth ks (halfI ks)), innP (ks.drop (halfI ks + 1)) (cs.drop (halfI ks + 1)), .bool true] := by rw [splI, if_pos h]
theorem splI_f {ks cs : List Int} (h : okSI ks cs = false) : splI ks cs = .tup [innP [] [], i64 0, innP [] [], .bool false] := by rw [splI, if_neg (by simp [h])]
theorem si_len {ks cs : List Int} (h : okSI ks cs = true) : 3 ≤ ks.length ∧ ks.length ≤ 5 ∧ cs.length = ks.length + 1 := by
  obtain ⟨h1, h2⟩ := okSI_iff.1 h
  exact ⟨h2, (goodInner_one h1).2, goodInner_len h1⟩
theorem si_good {ks cs : List Int} (h : okSI ks cs = true) : goodInner (ks.take (halfI ks)) (cs.take (halfI ks + 1)) = true ∧ goodInner (ks.drop (halfI ks + 1)) (cs.drop (halfI ks + 1)) = true := by
  have hl := si_len h
  have hg := (okSI_iff.1 h).1
  rw [goodInner_iff] at hg
  obtain ⟨h2, h3, h4, h5, h6⟩ := hg
  constructor <;> rw [goodInner_iff]
  · exact ⟨h2.sublist (List.take_sublist _ _), good_sub h3 (List.take_sublist _ _), by simp [halfI]; omega, by simp [halfI]; omega, fun c hc => h6 c ((List.take_sublist _ _).subset hc)⟩
  · exact ⟨h2.sublist (List.drop_sublist _ _), good_sub h3 (List.drop_sublist _ _), by simp [halfI]; omega, by simp [halfI]; omega, fun c hc => h6 c ((List.drop_sublist _ _).subset hc)⟩
theorem si_both {ks : List Int} (h : 3 ≤ ks.length) : bothA (ks.take (halfI ks)) (nth ks (halfI ks)) (ks.drop (halfI ks + 1)) = ks := by
  have hl : halfI ks < ks.length := by simp [halfI]; omega
  rw [bothA, nth_eq hl, List.append_assoc, List.singleton_append, ← List.drop_eq_getElem_cons hl, List.take_append_drop]
theorem si_join {ks cs : List Int} (h : okSI ks cs = true) : okJI (ks.take (halfI ks)) (cs.take (halfI ks + 1)) (nth ks (halfI ks)) (ks.drop (halfI ks + 1)) (cs.drop (halfI ks + 1)) = true := by
  have hg := si_good h
  refine okJI_iff.2 ⟨hg.1, hg.2, ?_⟩
  rw [si_both (si_len h).1, List.take_append_drop]
  exact (okSI_iff.1 h).1
/-- what FnSplitInnerRoute comes to -/
theorem si_route {ks cs : List Int} (h : okSI ks cs = true) (n : Int) :
    (n < nth ks (halfI ks) → nth (cs.take (halfI ks + 1)) (upTo (ks.take (halfI ks)) n) = nth cs (upTo ks n)) ∧
    (nth ks (halfI ks) ≤ n → nth (cs.drop (halfI ks + 1)) (upTo (ks.drop (halfI ks + 1)) n) = nth cs (upTo ks n)) := by
  have hl := si_len h
  have hh : halfI ks + 1 < ks.length := by simp [halfI]; omega
  have hk := goodInner_keys (okSI_iff.1 h).1
  have hr := good_rising hk
  have hu := upTo_le ks n
  generalize hm : halfI ks = m at *
  constructor
  · intro hn
    have h1 : upTo ks n ≤ m := by
      rcases Nat.lt_or_ge m (upTo ks n) with hlt | hge
      · have := upTo_lt hlt; omega
      · exact hge
    have e : upTo (ks.take m) n = upTo ks n := by
      refine upTo_eq (by simp; omega) (fun j hj => ?_) (fun hlt => ?_)
      · rw [nth_eq (by simp; omega), List.getElem_take, ← nth_eq (by omega)]
        exact upTo_lt hj
      · simp at hlt
        rw [nth_eq (by simp; omega), List.getElem_take, ← nth_eq (by omega)]
        exact upTo_at (by omega)
    rw [e, nth_eq (by simp; omega), List.getElem_take, ← nth_eq (by omega)]
  · intro hn
    have h1 : m + 1 ≤ upTo ks n := by
      rcases Nat.lt_or_ge m (upTo ks n) with hlt | hge
      · exact hlt
      · have h3 := upTo_at (xs := ks) (k := n) (by omega)
        have := rising_le hr hge (by omega)
        omega
    have e : upTo (ks.drop (m + 1)) n = upTo ks n - (m + 1) := by
      refine upTo_eq (by simp; omega) (fun j hj => ?_) (fun hlt => ?_)
      · rw [nth_eq (by simp; omega), List.getElem_drop, ← nth_eq (by omega)]
        exact upTo_lt (by omega)
      · simp at hlt
        rw [nth_eq (by simp; omega), List.getElem_drop, ← nth_eq (by omega)]
        rw [show m + 1 + (upTo ks n - (m + 1)) = upTo ks n by omega]
        exact upTo_at (by omega)
    rw [e, nth_eq (by simp; omega), List.getElem_drop, ← nth_eq (by omega)]
    congr 1; omega
/-- what FnJoinInnerSplit comes to -/
theorem ji_split {a c : List Int} {k : Int} {b d : List Int} (h : okJI a c k b d = true) : okSI (bothA a k b) (c ++ d) = true := by
  have h1 := ji_len h
  refine okSI_iff.2 ⟨(okJI_iff.1 h).2.2, ?_⟩
  simp; omega
end Go.V

namespace Go.V
section q
variable {P : Program} {sf : SM} {r : RT} {L : List (Nat × D)} {S : Store} {K : Env → Store → Prop} {t : Nat}
theorem q_build2 {z0 z1 : D} {x y : Opd} {d e : D} (hx : ev (env L) x = d) (hd : cellsD d = some [d]) (hy : ev (env L) y = e) (he : cellsD e = some [e]) (h : RG P sf r (env ((t, .agg [d, e]) :: L)) S K) :
    RG P sf (.op ⟨some t, none, .build [z0, z1] [(0, (1, x)), (1, (1, y))]⟩ r) (env L) S K := by
  refine q_build ?_ h
  subst hx hy
  simp only [fillD, hd, he]
  simp [setAt]
end q
end Go.V
namespace Go.V
/-- what lies beyond a slice's length, up to its capacity: unknown -/
def junk (sz : Nat) : D := .agg (List.replicate sz .any)
theorem rdc_junk {ρ : Rho} {I : Nat → Prop} {w : World} {vs : List Value} {sz : Nat} (h : vs.length = sz) : RDc ρ I w vs (junk sz) :=
  ⟨by simpa using h, fun i _ h2 => by simp only [List.getElem_replicate]; trivial⟩
theorem Bd.ext {k0 : Nat} {L : List (Nat × D)} {S : Store} {R : Env → Store → Prop} (t : Nat) {o n cap : Nat} {ob : Ob} (m : Nat) (ht : env L t = .sub o 0 n cap) (hS : S[o]? = some (some ob)) (hm : ob.xs.length + m ≤ cap)
    (h : R (env L) (S.set o (some { ob with xs := ob.xs ++ List.replicate m (junk ob.sz) }))) : Bd k0 (env L) S R := fun ρ I w a hs he _ => by
  refine ⟨_, _, ρ, I, h, ?_, he, Ext.refl _ _ _ _⟩
  have g := he t
  rw [ht, rd_sub] at g
  obtain ⟨b, sz, cs, E', h1, h2, h3, h4, h5, h6⟩ := g
  obtain ⟨b', sz', g1, g2, cs', g3, g4, g5⟩ := hs.obs o ob hS
  rw [h1] at g1
  simp at g1
  obtain ⟨rfl, rfl⟩ := g1
  rw [h5] at g3
  simp at g3
  obtain ⟨rfl, rfl⟩ := g3
  have ho : o < S.length := (List.getElem?_eq_some_iff.1 hS).1
  have hget : ∀ (q : Nat) (ob2 : Ob), (S.set o (some { ob with xs := ob.xs ++ List.replicate m (junk ob.sz) }))[q]? = some (some ob2) → (q = o ∧ ob2 = { ob with xs := ob.xs ++ List.replicate m (junk ob.sz) }) ∨ S[q]? = some (some ob2) := fun q ob2 hq => by
    rw [List.getElem?_set] at hq
    split at hq
    · rename_i e; subst e
      first | rw [if_pos ho] at hq | skip
      simp only [Option.some.injEq] at hq
      exact .inl ⟨rfl, hq.symm⟩
    · exact .inr hq
  have hcap : (ob.xs.length + m) * sz ≤ cs.size := Nat.le_trans (Nat.mul_le_mul_right _ (by omega)) h6
  constructor
  · constructor
    · exact hs.old
    · intro q ob2 hq
      rcases hget q ob2 hq with ⟨rfl, rfl⟩ | hq
      · refine ⟨b, sz, h1, g2, cs, h5, by simpa using hcap, fun i hi => ?_⟩
        simp only [List.getElem_append]
        split
        · exact g5 i ‹_›
        · simp only [List.getElem_replicate]
          refine rdc_junk ?_
          simp at hi
          have : (i + 1) * sz ≤ (ob.xs.length + m) * sz := Nat.mul_le_mul_right _ (by omega)
          rw [Nat.add_mul] at this
          simp; omega
      · exact hs.obs q ob2 hq
  · rw [List.length_set]; exact hs.len
  · exact hs.lt
  · intro q b2 sz2 ob2 hq hr
    rcases hget q ob2 hq with ⟨rfl, rfl⟩ | hq
    · exact hs.apart q b2 sz2 ob hS hr
    · exact hs.apart q b2 sz2 ob2 hq hr
  · intro q q' b2 sz2 sz2' ob2 ob2' hq hq' hr hr'
    rcases hget q ob2 hq with ⟨e1, _⟩ | hq1 <;> rcases hget q' ob2' hq' with ⟨e2, _⟩ | hq2
    · rw [e1, e2]
    · exact hs.inj q q' b2 sz2 sz2' ob ob2' (by rw [e1]; exact hS) hq2 hr hr'
    · exact hs.inj q q' b2 sz2 sz2' ob2 ob hq1 (by rw [e2]; exact hS) hr hr'
    · exact hs.inj q q' b2 sz2 sz2' ob2 ob2' hq1 hq2 hr hr'
end Go.V
namespace Go.V
theorem Bd.subPB {k0 : Nat} {L : List (Nat × D)} {S : Store} {R : Env → Store → Prop} (t : Nat) {o n cap : Nat} {ob : Ob} {ps : List PV} (ht : env L t = .sub o 0 n cap) (hS : S[o]? = some (some ob)) (hn : n ≤ ob.xs.length) (hps : toPVs (ob.xs.take n) = some ps)
    (h : Bd k0 (env ((t, .pv (.sl ps)) :: L)) (S.set o none ++ [none]) R) : Bd k0 (env L) S R :=
  Bd.then (Bd.subP t (R := fun E S' => E = env ((t, .pv (.sl ps)) :: L) ∧ S' = S.set o none ++ [none]) ht hS hn hps ⟨rfl, rfl⟩) (by rintro E2 S2 ⟨hE, hS2⟩; rw [hE, hS2]; exact h)
theorem Bd.dropB {k0 : Nat} {E : Env} {S : Store} {R : Env → Store → Prop} (o : Nat) (h : Bd k0 E (S.set o none) R) : Bd k0 E S R :=
  Bd.then (Bd.drop o (R := fun E' S' => E' = E ∧ S' = S.set o none) ⟨rfl, rfl⟩) (by rintro E2 S2 ⟨hE, hS2⟩; rw [hE, hS2]; exact h)
theorem all_take {α : Type} {p : α → Bool} {l : List α} (h : l.all p = true) (n : Nat) : (l.take n).all p = true := by
  rw [List.all_eq_true] at h ⊢
  exact fun x hx => h x (List.mem_of_mem_take hx)
theorem elems_sub {S : Store} {o off n c : Nat} {ob : Ob} (hS : S[o]? = some (some ob)) (h : off + n ≤ ob.xs.length) : elemsOf S ob.sz (.sub o off n c) = some ((ob.xs.drop off).take n) := by
  simp [elemsOf, hS, h]
theorem splice_cat {a b c d : List D} {p : Nat} (hp : p = a.length) (h : c.length = b.length) : splice (a ++ b ++ d) p c = a ++ c ++ d := by
  subst hp
  simp [splice, h]
/-- what slices.Insert comes to, in new memory -/
theorem ins_new {A V Z : List D} {i : Nat} (hi : i ≤ A.length) (hz : Z.length = A.length + V.length - i) :
    splice (splice (A.take i ++ Z) i V) (i + V.length) (A.drop i) = A.take i ++ V ++ A.drop i := by
  have e1 : A.take i ++ Z = A.take i ++ Z.take V.length ++ Z.drop V.length := by rw [List.append_assoc, List.take_append_drop]
  rw [e1, splice_cat (by simp; omega) (by simp; omega)]
  have := splice_cat (a := A.take i ++ V) (b := Z.drop V.length) (c := A.drop i) (d := []) (p := i + V.length) (by simp; omega) (by simp; omega)
  rw [List.append_nil, List.append_nil] at this
  exact this
/-- .. and in place -/
theorem ins_old {A V J : List D} {i : Nat} (hi : i ≤ A.length) (hj : J.length = V.length) :
    splice (splice (A ++ J) (i + V.length) (A.drop i)) i V = A.take i ++ V ++ A.drop i := by
  have e1 : A ++ J = (A ++ J).take (i + V.length) ++ (A ++ J).drop (i + V.length) ++ [] := by rw [List.append_nil, List.take_append_drop]
  rw [e1, splice_cat (by simp; omega) (by simp; omega), List.append_nil]
  have e2 : (A ++ J).take (i + V.length) = A.take i ++ ((A ++ J).drop i).take V.length := by
    rw [List.take_add, List.take_append_of_le_length hi]
  rw [e2, splice_cat (by simp; omega) (by simp; omega)]
end Go.V
namespace Go.V
theorem all_drop {α : Type} {p : α → Bool} {l : List α} (h : l.all p = true) (n : Nat) : (l.drop n).all p = true := by
  rw [List.all_eq_true] at h ⊢
  exact fun x hx => h x (List.mem_of_mem_drop hx)
end Go.V
namespace Go.V
theorem splice_end {A V : List D} {p : Nat} (hp : p = A.length) : splice A p V = A ++ V := by
  subst hp
  simp [splice]
end Go.V
namespace Go.V
/-- a function that takes nil and gives something pure -/
def InsE (P : Program) (f : FuncId) (args : List PV) (out : PV) : Prop := CallS P f (.nils :: args.map .pv) [] (fun d S => d = .pv out ∧ S = [none])
section q
variable {P : Program} {sf : SM} {r : RT} {L : List (Nat × D)} {S : Store} {K : Env → Store → Prop} {t : Nat}
theorem q_ins {f : FuncId} {ty sz : Nat} {args' : List Opd} {args : List PV} {o : Nat} {xs : List D} {out : PV} (hm : cOK sf = true) (h0 : xs = [] → InsE P f args out) (hc : xs ≠ [] → DelS P f ty sz xs args out) (hfl : ∀ (m : D → D), ∀ x ∈ xs, mpS m x = x) (ha : args'.map (ev (env L)) = ownD o xs :: args.map .pv) (hS : S[o]? = some (obD ty sz xs))
    (hs : sOK sf (S.set o none ++ [none])) (h : RG P sf r (env ((t, .pv out) :: L)) (S.set o none ++ [none]) K) : RG P sf (.op ⟨some t, none, .call f args'⟩ r) (env L) S K := by
  by_cases hne : xs = []
  · have hS0 := hS
    subst hne
    have e0 : S.set o none = S := by
      have hlt : o < S.length := (List.getElem?_eq_some_iff.1 hS0).1
      have : S[o] = none := by
        have := (List.getElem?_eq_some_iff.1 hS0).2
        exact this
      rw [← this, List.set_getElem_self]
    rw [e0] at hs h
    refine q_call hm ?_
    rw [ha]
    refine CallS.frame (c1 := fun d S => d = .pv out ∧ S = [none]) [] (by simp) (by simp) ?_ ?_
    · have e2 : (ownD o [] :: args.map D.pv).map (mpD (inv [])) = .nils :: args.map .pv := by
        simp only [List.map_cons, List.map_map]
        exact congrArg (D.nils :: ·) (List.map_congr_left fun x _ => mpD_pv _ _)
      rw [e2]
      exact h0 rfl
    · rintro d S1 ⟨rfl, rfl⟩
      rw [mergeS_nil]
      exact ⟨by simpa using hs, by simpa [mpD_pv] using h⟩
  · exact q_del hm (hc hne) hne hfl ha hS hs h
end q
end Go.V

namespace Go.V
theorem toPVs_set {l : List D} {ps : List PV} {z : D} {p : PV} (i : Nat) (h : toPVs l = some ps) (hz : toPV z = some p) : toPVs (l.set i z) = some (ps.set i p) := by
  induction l generalizing ps i with
  | nil => simp [toPVs] at h; subst h; simp [toPVs]
  | cons a l ih =>
    simp only [toPVs] at h
    split at h
    · rename_i q qs h1 h2
      simp at h
      subst h
      cases i with
      | zero => simp [toPVs, hz, h2]
      | succ i => simp [toPVs, h1, ih i h2]
    · simp at h
section q
variable {P : Program} {sf : SM} {r : RT} {L : List (Nat × D)} {S : Store} {K : Env → Store → Prop} {t : Nat}
/-- a pair in parts -/
abbrev prD (v : Int × Int) : D := .agg [.pv (i64 v.1), .pv (i64 v.2)]
theorem q_store_p {ty : Nat} {x y : Opd} {o i : Nat} {xs : List (Int × Int)} {v : Int × Int} (hx : ev (env L) x = .ptr o i 0) {d : D} (hy : ev (env L) y = d) (hd : cellsD d = some [.pv (i64 v.1), .pv (i64 v.2)]) (hS : S[o]? = some (obD ty 2 (dP xs))) (hi : i < xs.length) (hs : sOK sf (S.set o (some ⟨ty, 2, (dP xs).set i (prD v)⟩)))
    (h : RG P sf r (env L) (S.set o (some ⟨ty, 2, (dP xs).set i (prD v)⟩)) K) : RG P sf (.op ⟨none, none, .store 2 x y⟩ r) (env L) S K := by
  have hne : dP xs ≠ [] := ne_map (by omega)
  rw [obD_ne hne] at hS
  refine q_store (e := .pv (pairP (nth xs i))) (cs := [.pv (i64 (nth xs i).1), .pv (i64 (nth xs i).2)]) (ds := [.pv (i64 v.1), .pv (i64 v.2)]) hx hy hS ?_ rfl hd ⟨rfl, rfl, by simp, rfl, by simp [isOne]⟩ rfl hs h
  rw [nth_eq hi]
  simp [hi]
end q
theorem set_put {xs : List (Int × Int)} {x : Int × Int} (h : thereR xs x.1 = true) : xs.set (atR xs x.1) x = putR xs x := by
  have h1 := (thereR_lt h).1
  rw [putR, if_pos h, List.set_eq_take_append_cons_drop, if_pos h1]
  simp
/-! a further kid -/
abbrev addA (ks : List Int) (m : Nat) (k : Int) : List Int := ks.take m ++ [k] ++ ks.drop m
abbrev addB (cs : List Int) (m : Nat) (c : Int) : List Int := cs.take (m + 1) ++ [c] ++ cs.drop (m + 1)
def okAdd (ks cs : List Int) (m : Nat) (k c : Int) : Bool := goodInner ks cs && decide (m < cs.length) && goodInner (addA ks m k) (addB cs m c)
theorem okAdd_iff {ks cs : List Int} {m : Nat} {k c : Int} : okAdd ks cs m k c = true ↔ goodInner ks cs = true ∧ m < cs.length ∧ goodInner (addA ks m k) (addB cs m c) = true := by simp [okAdd, and_assoc]
def addR (ks cs : List Int) (m : Nat) (k c : Int) : PV := if okAdd ks cs m k c then .tup [innP (addA ks m k) (addB cs m c), .bool true] else .tup [innP [] [], .bool false]
theorem addR_t {ks cs : List Int} {m : Nat} {k c : Int} (h : okAdd ks cs m k c = true) : addR ks cs m k c = .tup [innP (addA ks m k) (addB cs m c), .bool true] := by rw [addR, if_pos h]
theorem addR_f {ks cs : List Int} {m : Nat} {k c : Int} (h : okAdd ks cs m k c = false) : addR ks cs m k c = .tup [innP [] [], .bool false] := by rw [addR, if_neg (by simp [h])]
theorem add_len {ks cs : List Int} {m : Nat} {k c : Int} (h : okAdd ks cs m k c = true) : (m ≤ ks.length ∧ ks.length ≤ 4 ∧ 1 ≤ ks.length ∧ cs.length = ks.length + 1) ∧ (addA ks m k).length = ks.length + 1 ∧ (addB cs m c).length = cs.length + 1 := by
  obtain ⟨h1, h2, h3⟩ := okAdd_iff.1 h
  have a1 := goodInner_one h1
  have a2 := goodInner_len h1
  have a3 := (goodInner_one h3).2
  have e1 : (addA ks m k).length = ks.length + 1 := by simp; omega
  have e2 : (addB cs m c).length = cs.length + 1 := by simp; omega
  exact ⟨⟨by omega, by omega, by omega, a2⟩, e1, e2⟩
theorem nth_mid {α : Type} [Inhabited α] {a b : List α} {x : α} {n : Nat} (h : n = a.length) : nth (a ++ [x] ++ b) n = x := by
  subst h
  rw [nth_eq (by simp)]
  simp
theorem nth_pre {α : Type} [Inhabited α] {a b : List α} {n : Nat} (h : n < a.length) : nth (a ++ b) n = nth a n := by
  rw [nth_eq (by simp; omega), nth_eq h, List.getElem_append_left h]
theorem nth_of_take {α : Type} [Inhabited α] {xs : List α} {n j : Nat} (h : j < n) (hj : j < xs.length) : nth (xs.take n) j = nth xs j := by
  rw [nth_eq (by simp; omega), nth_eq hj, List.getElem_take]
theorem nth_suf {α : Type} [Inhabited α] {a b : List α} {n : Nat} (h : a.length ≤ n) (h2 : n < a.length + b.length) : nth (a ++ b) n = nth b (n - a.length) := by
  rw [nth_eq (by simp; omega), nth_eq (by omega), List.getElem_append_right h]
theorem nth_of_drop {α : Type} [Inhabited α] {xs : List α} {n j : Nat} (hj : n + j < xs.length) : nth (xs.drop n) j = nth xs (n + j) := by
  rw [nth_eq (by simp; omega), nth_eq hj, List.getElem_drop]
theorem addA_at {ks : List Int} {m j : Nat} {k : Int} (hm : m ≤ ks.length) (hj : j < ks.length + 1) : nth (addA ks m k) j = if j < m then nth ks j else if j = m then k else nth ks (j - 1) := by
  have hl : (ks.take m).length = m := by simp; omega
  by_cases h1 : j < m
  · rw [if_pos h1, addA, List.append_assoc, nth_pre (by omega), nth_of_take h1 (by omega)]
  · rw [if_neg h1]
    by_cases h2 : j = m
    · rw [if_pos h2, addA, nth_mid (by omega)]
    · rw [if_neg h2, addA, nth_suf (by simp; omega) (by simp; omega)]
      have e : (ks.take m ++ [k]).length = m + 1 := by simp; omega
      rw [e, nth_of_drop (by omega)]
      congr 1; omega
/-- where keys lead after a kid was added -/
theorem add_up {ks cs : List Int} {m : Nat} {k c : Int} (h : okAdd ks cs m k c = true) (n : Int) : (k ≤ n → upTo (addA ks m k) n = upTo ks n + 1 ∧ m ≤ upTo ks n) ∧ (n < k → upTo (addA ks m k) n = upTo ks n ∧ upTo ks n ≤ m) := by
  obtain ⟨h1, h2, h3⟩ := okAdd_iff.1 h
  obtain ⟨⟨hm, _, _, hcl⟩, hl, _⟩ := add_len h
  have hr := good_rising (goodInner_keys h1)
  have hr2 := good_rising (goodInner_keys h3)
  have hu := upTo_le ks n
  have hat : nth (addA ks m k) m = k := by rw [addA_at hm (by omega)]; simp
  constructor
  · intro hn
    have hmu : m ≤ upTo ks n := by
      rcases Nat.lt_or_ge (upTo ks n) m with hlt | hge
      · have h4 := upTo_at (xs := ks) (k := n) (by omega)
        have h5 := rising_le hr2 (a := upTo ks n) (b := m) (by omega) (by omega)
        rw [hat, addA_at hm (by omega), if_pos hlt] at h5
        omega
      · exact hge
    refine ⟨upTo_eq (by omega) (fun j hj => ?_) (fun hlt => ?_), hmu⟩
    · rw [addA_at hm (by omega)]
      split
      · exact upTo_lt (by omega)
      · split
        · exact hn
        · exact upTo_lt (by omega)
    · rw [addA_at hm (by omega), if_neg (by omega), if_neg (by omega), Nat.add_sub_cancel]
      exact upTo_at (by omega)
  · intro hn
    have hmu : upTo ks n ≤ m := by
      rcases Nat.lt_or_ge m (upTo ks n) with hlt | hge
      · have h4 := upTo_lt hlt
        have h5 := rising_le hr2 (a := m) (b := m + 1) (by omega) (by omega)
        rw [hat, addA_at hm (by omega), if_neg (by omega), if_neg (by omega), Nat.add_sub_cancel] at h5
        omega
      · exact hge
    refine ⟨upTo_eq (by omega) (fun j hj => ?_) (fun hlt => ?_), hmu⟩
    · rw [addA_at hm (by omega), if_pos (by omega)]
      exact upTo_lt hj
    · rw [addA_at hm (by omega)]
      split
      · exact upTo_at (by omega)
      · rw [if_pos (by omega)]
        exact hn
theorem addB_at {cs : List Int} {m j : Nat} {c : Int} (hm : m < cs.length) (hj : j < cs.length + 1) : nth (addB cs m c) j = if j < m + 1 then nth cs j else if j = m + 1 then c else nth cs (j - 1) :=
  addA_at (m := m + 1) (by omega) hj
theorem add_route {ks cs : List Int} {m : Nat} {k c : Int} (h : okAdd ks cs m k c = true) (n : Int) (hn : n < k) : nth (addB cs m c) (upTo (addA ks m k) n) = nth cs (upTo ks n) := by
  have h1 := (add_up h n).2 hn
  have h2 := add_len h
  rw [h1.1, addB_at (by omega) (by omega), if_pos (by omega)]
/-- what FnAddKid comes to -/
theorem add_there {ks cs : List Int} {m : Nat} {k c : Int} (h : okAdd ks cs m k c = true) : nth (addB cs m c) (upTo (addA ks m k) k) = c := by
  have h1 := (add_up h k).1 (Int.le_refl _)
  have h2 := add_len h
  have hr := good_rising (goodInner_keys (okAdd_iff.1 h).2.2)
  have e : upTo ks k = m := by
    rcases Nat.lt_or_ge m (upTo ks k) with hlt | hge
    · have h4 := upTo_lt hlt
      have hu := upTo_le ks k
      have h5 := rising_iff.1 hr m (by rw [h2.2.1]; omega)
      have e1 : nth (addA ks m k) m = k := by rw [addA_at h2.1.1 (by omega), if_neg (by omega), if_pos rfl]
      have e2 : nth (addA ks m k) (m + 1) = nth ks m := by rw [addA_at h2.1.1 (by omega), if_neg (by omega), if_neg (by omega), Nat.add_sub_cancel]
      omega
    · omega
  rw [h1.1, e, addB_at (by omega) (by omega), if_neg (by omega), if_pos rfl]
theorem add_cut {ks cs : List Int} {m : Nat} {k c : Int} (h : okAdd ks cs m k c = true) : okCut (addA ks m k) (addB cs m c) (m + 1) = true ∧ cutA (addA ks m k) (m + 1) = ks ∧ cutB (addB cs m c) (m + 1) = cs := by
  obtain ⟨h1, h2, h3⟩ := okAdd_iff.1 h
  obtain ⟨⟨hm, _, h1k, hcl⟩, hl, hl2⟩ := add_len h
  refine ⟨okCut_iff.2 ⟨h3, ⟨by omega, by omega⟩, by omega⟩, ?_, ?_⟩
  · have e : (ks.take m).length = m := by simp; omega
    rw [cutA, Nat.add_sub_cancel, addA]
    have e1 : (ks.take m ++ [k] ++ ks.drop m).take m = ks.take m := by rw [List.append_assoc, List.take_append_of_le_length (by omega), List.take_of_length_le (by omega)]
    have e2 : (ks.take m ++ [k] ++ ks.drop m).drop (m + 1) = ks.drop m := by
      rw [List.drop_append, show (ks.take m ++ [k]).drop (m + 1) = [] from List.drop_of_length_le (by simp; omega), List.nil_append]
      first | (simp; done) | (simp; omega)
    rw [e1, e2, List.take_append_drop]
  · have e : (cs.take (m + 1)).length = m + 1 := by simp; omega
    rw [cutB, addB]
    have e1 : (cs.take (m + 1) ++ [c] ++ cs.drop (m + 1)).take (m + 1) = cs.take (m + 1) := by rw [List.append_assoc, List.take_append_of_le_length (by omega), List.take_of_length_le (by omega)]
    have e2 : (cs.take (m + 1) ++ [c] ++ cs.drop (m + 1)).drop (m + 1 + 1) = cs.drop (m + 1) := by
      rw [List.drop_append, show (cs.take (m + 1) ++ [c]).drop (m + 1 + 1) = [] from List.drop_of_length_le (by simp; omega), List.nil_append]
      first | (simp; done) | (simp; omega)
    rw [e1, e2, List.take_append_drop]
end Go.V
namespace Go.V
def insT (xs : List Int) (k : Int) : List Int := if okIns xs k then insK xs k else []
theorem insT_len {xs : List Int} {k : Int} : (insT xs k).length ≤ xs.length + 1 := by
  unfold insT; split
  · rw [insK_len]; omega
  · simp
end Go.V
namespace Go.V
/-- what FnValueInJoin comes to -/
theorem vj_left {xs ys : List (Int × Int)} (h : joinOK xs ys = true) {i : Nat} (hi : i < xs.length) :
    valR xs (nth (xs ++ ys) i).1 = .tup [i64 (nth (xs ++ ys) i).2, .bool true] ∧ valR ys (nth (xs ++ ys) i).1 = .tup [i64 0, .bool false] := by
  have hg : goodR xs = true := by simp only [joinOK, Bool.and_eq_true] at h; exact h.1.1
  rw [nth_pre hi]
  have hm := nth_mem hi
  exact ⟨valR_mem hg (k := (nth xs i).1) (v := (nth xs i).2) hm, valR_no fun y hy e => by have := join_lt h _ hm y hy; omega⟩
theorem vj_right {xs ys : List (Int × Int)} (h : joinOK xs ys = true) {i : Nat} (hi : xs.length ≤ i) (hi2 : i < xs.length + ys.length) :
    valR xs (nth (xs ++ ys) i).1 = .tup [i64 0, .bool false] ∧ valR ys (nth (xs ++ ys) i).1 = .tup [i64 (nth (xs ++ ys) i).2, .bool true] := by
  have hg : goodR ys = true := by simp only [joinOK, Bool.and_eq_true] at h; exact h.1.2
  rw [nth_suf hi hi2]
  have hm := nth_mem (xs := ys) (i := i - xs.length) (by omega)
  exact ⟨valR_no fun y hy e => by have := join_lt h y hy _ hm; omega, valR_mem hg (k := (nth ys (i - xs.length)).1) (v := (nth ys (i - xs.length)).2) hm⟩
def putT (xs : List (Int × Int)) (x : Int × Int) : List (Int × Int) := if okPut xs x then putR xs x else []
theorem putT_len {xs : List (Int × Int)} {x : Int × Int} : (putT xs x).length ≤ xs.length + 1 := by
  unfold putT; split
  · exact putR_len
  · simp
theorem drop_val {xs : List (Int × Int)} {k : Int} : (okDrop xs k = true → valR xs k = .tup [i64 (nth xs (atR xs k)).2, .bool true]) ∧ (okDrop xs k = false → valR xs k = .tup [i64 0, .bool false]) := by
  constructor
  · intro h; rw [okDrop] at h; rw [valR, h]; rfl
  · intro h; rw [okDrop] at h; rw [valR, h]; rfl
end Go.V
namespace Go.V
def wout (xs : List (Int × Int)) (k : Int) : List (Int × Int) := xs.filter fun x => decide (x.1 ≠ k)
theorem wout_len {xs : List (Int × Int)} {k : Int} : (wout xs k).length ≤ xs.length := List.length_filter_le ..
theorem wout_step {xs : List (Int × Int)} {k : Int} {i : Nat} (h : i < xs.length) : ((nth xs i).1 ≠ k → wout (xs.take (i + 1)) k = wout (xs.take i) k ++ [nth xs i]) ∧ ((nth xs i).1 = k → wout (xs.take (i + 1)) k = wout (xs.take i) k) := by
  rw [take_succ_nth h]
  simp only [wout, List.filter_append, List.filter_cons, List.filter_nil]
  constructor
  · intro h1; rw [if_pos (by simpa using h1)]
  · intro h1; rw [if_neg (by simpa using h1), List.append_nil]
theorem put_val {xs : List (Int × Int)} {x : Int × Int} (h : okPut xs x = true) : valR (putR xs x) x.1 = .tup [i64 x.2, .bool true] :=
  valR_mem (putR_good h) (k := x.1) (v := x.2) ((putR_mem (okPut_iff.1 h).1).2 (.inl rfl))
theorem drop_none {xs : List (Int × Int)} {k : Int} (h : okDrop xs k = true) : valR (dropR xs k) k = .tup [i64 0, .bool false] := by
  have := (drop_back h).2.2.2
  rw [valR, this, Bool.and_false]; rfl
end Go.V

/- A part of the proofs about laws of the page tree (see the text that bears the law): a small language of steps, its rules, and what the functions of the program return. -/
import Derived.Test.YtjbihdcdamchnaaPY
set_option linter.all false
set_option linter.unusedVariables false
set_option linter.unusedSimpArgs false
namespace Go.V
theorem toPVs_set {l : List D} {ps : List PV} {z : D} {p : PV} (i : Nat) (h : toPVs l = some ps) (hz : toPV z = some p) : toPVs (l.set i z) = some (ps.set i p) := by
  induction l generalizing ps i with
  | nil => simp [toPVs] at h; subst h; simp [toPVs]
  | cons a l ih =>
    simp only [toPVs] at h
    split at h
    · rename_i q qs h1 h2
      simp at h
      subst h
      cases i with
      | zero => simp [toPVs, hz, h2]
      | succ i => simp [toPVs, h1, ih i h2]
    · simp at h
section q
variable {P : Program} {sf : SM} {r : RT} {L : List (Nat × D)} {S : Store} {K : Env → Store → Prop} {t : Nat}
/-- a pair in parts -/
abbrev prD (v : Int × Int) : D := .agg [.pv (i64 v.1), .pv (i64 v.2)]
theorem q_store_p {ty : Nat} {x y : Opd} {o i : Nat} {xs : List (Int × Int)} {v : Int × Int} (hx : ev (env L) x = .ptr o i 0) {d : D} (hy : ev (env L) y = d) (hd : cellsD d = some [.pv (i64 v.1), .pv (i64 v.2)]) (hS : S[o]? = some (obD ty 2 (dP xs))) (hi : i < xs.length) (hs : sOK sf (S.set o (some ⟨ty, 2, (dP xs).set i (prD v)⟩)))
    (h : RG P sf r (env L) (S.set o (some ⟨ty, 2, (dP xs).set i (prD v)⟩)) K) : RG P sf (.op ⟨none, none, .store 2 x y⟩ r) (env L) S K := by
  have hne : dP xs ≠ [] := ne_map (by omega)
  rw [obD_ne hne] at hS
  refine q_store (e := .pv (pairP (nth xs i))) (cs := [.pv (i64 (nth xs i).1), .pv (i64 (nth xs i).2)]) (ds := [.pv (i64 v.1), .pv (i64 v.2)]) hx hy hS ?_ rfl hd ⟨rfl, rfl, by simp, rfl, by simp [isOne]⟩ rfl hs h
  rw [nth_eq hi]
  simp [hi]
end q
theorem set_put {xs : List (Int × Int)} {x : Int × Int} (h : thereR xs x.1 = true) : xs.set (atR xs x.1) x = putR xs x := by
  have h1 := (thereR_lt h).1
  rw [putR, if_pos h, List.set_eq_take_append_cons_drop, if_pos h1]
  simp
/-! a further kid -/
abbrev addA (ks : List Int) (m : Nat) (k : Int) : List Int := ks.take m ++ [k] ++ ks.drop m
abbrev addB (cs : List Int) (m : Nat) (c : Int) : List Int := cs.take (m + 1) ++ [c] ++ cs.drop (m + 1)
def okAdd (ks cs : List Int) (m : Nat) (k c : Int) : Bool := goodInner ks cs && decide (m < cs.length) && goodInner (addA ks m k) (addB cs m c)
theorem okAdd_iff {ks cs : List Int} {m : Nat} {k c : Int} : okAdd ks cs m k c = true ↔ goodInner ks cs = true ∧ m < cs.length ∧ goodInner (addA ks m k) (addB cs m c) = true := by simp [okAdd, and_assoc]
def addR (ks cs : List Int) (m : Nat) (k c : Int) : PV := if okAdd ks cs m k c then .tup [innP (addA ks m k) (addB cs m c), .bool true] else .tup [innP [] [], .bool false]
theorem addR_t {ks cs : List Int} {m : Nat} {k c : Int} (h : okAdd ks cs m k c = true) : addR ks cs m k c = .tup [innP (addA ks m k) (addB cs m c), .bool true] := by rw [addR, if_pos h]
theorem addR_f {ks cs : List Int} {m : Nat} {k c : Int} (h : okAdd ks cs m k c = false) : addR ks cs m k c = .tup [innP [] [], .bool false] := by rw [addR, if_neg (by simp [h])]
theorem add_len {ks cs : List Int} {m : Nat} {k c : Int} (h : okAdd ks cs m k c = true) : (m ≤ ks.length ∧ ks.length ≤ 4 ∧ 1 ≤ ks.length ∧ cs.length = ks.length + 1) ∧ (addA ks m k).length = ks.length + 1 ∧ (addB cs m c).length = cs.length + 1 := by
  obtain ⟨h1, h2, h3⟩ := okAdd_iff.1 h
  have a1 := goodInner_one h1
  have a2 := goodInner_len h1
  have a3 := (goodInner_one h3).2
  have e1 : (addA ks m k).length = ks.length + 1 := by simp; omega
  have e2 : (addB cs m c).length = cs.length + 1 := by simp; omega
  exact ⟨⟨by omega, by omega, by omega, a2⟩, e1, e2⟩
theorem nth_mid {α : Type} [Inhabited α] {a b : List α} {x : α} {n : Nat} (h : n = a.length) : nth (a ++ [x] ++ b) n = x := by
  subst h
  rw [nth_eq (by simp)]
  simp
theorem nth_pre {α : Type} [Inhabited α] {a b : List α} {n : Nat} (h : n < a.length) : nth (a ++ b) n = nth a n := by
  rw [nth_eq (by simp; omega), nth_eq h, List.getElem_append_left h]
theorem nth_of_take {α : Type} [Inhabited α] {xs : List α} {n j : Nat} (h : j < n) (hj : j < xs.length) : nth (xs.take n) j = nth xs j := by
  rw [nth_eq (by simp; omega), nth_eq hj, List.getElem_take]
theorem nth_suf {α : Type} [Inhabited α] {a b : List α} {n : Nat} (h : a.length ≤ n) (h2 : n < a.length + b.length) : nth (a ++ b) n = nth b (n - a.length) := by
  rw [nth_eq (by simp; omega), nth_eq (by omega), List.getElem_append_right h]
theorem nth_of_drop {α : Type} [Inhabited α] {xs : List α} {n j : Nat} (hj : n + j < xs.length) : nth (xs.drop n) j = nth xs (n + j) := by
  rw [nth_eq (by simp; omega), nth_eq hj, List.getElem_drop]
theorem addA_at {ks : List Int} {m j : Nat} {k : Int} (hm : m ≤ ks.length) (hj : j < ks.length + 1) : nth (addA ks m k) j = if j < m then nth ks j else if j = m then k else nth ks (j - 1) := by
  have hl : (ks.take m).length = m := by simp; omega
  by_cases h1 : j < m
  · rw [if_pos h1, addA, List.append_assoc, nth_pre (by omega), nth_of_take h1 (by omega)]
  · rw [if_neg h1]
    by_cases h2 : j = m
    · rw [if_pos h2, addA, nth_mid (by omega)]
    · rw [if_neg h2, addA, nth_suf (by simp; omega) (by simp; omega)]
      have e : (ks.take m ++ [k]).length = m + 1 := by simp; omega
      rw [e, nth_of_drop (by omega)]
      congr 1; omega
/-- where keys lead after a kid was added -/
theorem add_up {ks cs : List Int} {m : Nat} {k c : Int} (h : okAdd ks cs m k c = true) (n : Int) : (k ≤ n → upTo (addA ks m k) n = upTo ks n + 1 ∧ m ≤ upTo ks n) ∧ (n < k → upTo (addA ks m k) n = upTo ks n ∧ upTo ks n ≤ m) := by
  obtain ⟨h1, h2, h3⟩ := okAdd_iff.1 h
  obtain ⟨⟨hm, _, _, hcl⟩, hl, _⟩ := add_len h
  have hr := good_rising (goodInner_keys h1)
  have hr2 := good_rising (goodInner_keys h3)
  have hu := upTo_le ks n
  have hat : nth (addA ks m k) m = k := by rw [addA_at hm (by omega)]; simp
  constructor
  · intro hn
    have hmu : m ≤ upTo ks n := by
      rcases Nat.lt_or_ge (upTo ks n) m with hlt | hge
      · have h4 := upTo_at (xs := ks) (k := n) (by omega)
        have h5 := rising_le hr2 (a := upTo ks n) (b := m) (by omega) (by omega)
        rw [hat, addA_at hm (by omega), if_pos hlt] at h5
        omega
      · exact hge
    refine ⟨upTo_eq (by omega) (fun j hj => ?_) (fun hlt => ?_), hmu⟩
    · rw [addA_at hm (by omega)]
      split
      · exact upTo_lt (by omega)
      · split
        · exact hn
        · exact upTo_lt (by omega)
    · rw [addA_at hm (by omega), if_neg (by omega), if_neg (by omega), Nat.add_sub_cancel]
      exact upTo_at (by omega)
  · intro hn
    have hmu : upTo ks n ≤ m := by
      rcases Nat.lt_or_ge m (upTo ks n) with hlt | hge
      · have h4 := upTo_lt hlt
        have h5 := rising_le hr2 (a := m) (b := m + 1) (by omega) (by omega)
        rw [hat, addA_at hm (by omega), if_neg (by omega), if_neg (by omega), Nat.add_sub_cancel] at h5
        omega
      · exact hge
    refine ⟨upTo_eq (by omega) (fun j hj => ?_) (fun hlt => ?_), hmu⟩
    · rw [addA_at hm (by omega), if_pos (by omega)]
      exact upTo_lt hj
    · rw [addA_at hm (by omega)]
      split
      · exact upTo_at (by omega)
      · rw [if_pos (by omega)]
        exact hn
theorem addB_at {cs : List Int} {m j : Nat} {c : Int} (hm : m < cs.length) (hj : j < cs.length + 1) : nth (addB cs m c) j = if j < m + 1 then nth cs j else if j = m + 1 then c else nth cs (j - 1) :=
  addA_at (m := m + 1) (by omega) hj
theorem add_route {ks cs : List Int} {m : Nat} {k c : Int} (h : okAdd ks cs m k c = true) (n : Int) (hn : n < k) : nth (addB cs m c) (upTo (addA ks m k) n) = nth cs (upTo ks n) := by
  have h1 := (add_up h n).2 hn
  have h2 := add_len h
  rw [h1.1, addB_at (by omega) (by omega), if_pos (by omega)]
/-- what FnAddKid comes to -/
theorem add_there {ks cs : List Int} {m : Nat} {k c : Int} (h : okAdd ks cs m k c = true) : nth (addB cs m c) (upTo (addA ks m k) k) = c := by
  have h1 := (add_up h k).1 (Int.le_refl _)
  have h2 := add_len h
  have hr := good_rising (goodInner_keys (okAdd_iff.1 h).2.2)
  have e : upTo ks k = m := by
    rcases Nat.lt_or_ge m (upTo ks k) with hlt | hge
    · have h4 := upTo_lt hlt
      have hu := upTo_le ks k
      have h5 := rising_iff.1 hr m (by rw [h2.2.1]; omega)
      have e1 : nth (addA ks m k) m = k := by rw [addA_at h2.1.1 (by omega), if_neg (by omega), if_pos rfl]
      have e2 : nth (addA ks m k) (m + 1) = nth ks m := by rw [addA_at h2.1.1 (by omega), if_neg (by omega), if_neg (by omega), Nat.add_sub_cancel]
      omega
    · omega
  rw [h1.1, e, addB_at (by omega) (by omega), if_neg (by omega), if_pos rfl]
theorem add_cut {ks cs : List Int} {m : Nat} {k c : Int} (h : okAdd ks cs m k c = true) : okCut (addA ks m k) (addB cs m c) (m + 1) = true ∧ cutA (addA ks m k) (m + 1) = ks ∧ cutB (addB cs m c) (m + 1) = cs := by
  obtain ⟨h1, h2, h3⟩ := okAdd_iff.1 h
  obtain ⟨⟨hm, _, h1k, hcl⟩, hl, hl2⟩ := add_len h
  refine ⟨okCut_iff.2 ⟨h3, ⟨by omega, by omega⟩, by omega⟩, ?_, ?_⟩
  · have e : (ks.take m).length = m := by simp; omega
    rw [cutA, Nat.add_sub_cancel, addA]
    have e1 : (ks.take m ++ [k] ++ ks.drop m).take m = ks.take m := by rw [List.append_assoc, List.take_append_of_le_length (by omega), List.take_of_length_le (by omega)]
    have e2 : (ks.take m ++ [k] ++ ks.drop m).drop (m + 1) = ks.drop m := by
      rw [List.drop_append, show (ks.take m ++ [k]).drop (m + 1) = [] from List.drop_of_length_le (by simp; omega), List.nil_append]
      first | (simp; done) | (simp; omega)
    rw [e1, e2, List.take_append_drop]
  · have e : (cs.take (m + 1)).length = m + 1 := by simp; omega
    rw [cutB, addB]
    have e1 : (cs.take (m + 1) ++ [c] ++ cs.drop (m + 1)).take (m + 1) = cs.take (m + 1) := by rw [List.append_assoc, List.take_append_of_le_length (by omega), List.take_of_length_le (by omega)]
    have e2 : (cs.take (m + 1) ++ [c] ++ cs.drop (m + 1)).drop (m + 1 + 1) = cs.drop (m + 1) := by
      rw [List.drop_append, show (cs.take (m + 1) ++ [c]).drop (m + 1 + 1) = [] from List.drop_of_length_le (by simp; omega), List.nil_append]
      first | (simp; done) | (simp; omega)
    rw [e1, e2, List.take_append_drop]
end Go.V
namespace Go.V
def insT (xs : List Int) (k : Int) : List Int := if okIns xs k then insK xs k else []
theorem insT_len {xs : List Int} {k : Int} : (insT xs k).length ≤ xs.length + 1 := by
  unfold insT; split
  · rw [insK_len]; omega
  · simp
end Go.V
namespace Go.V
/-- what FnValueInJoin comes to -/
theorem vj_left {xs ys : List (Int × Int)} (h : joinOK xs ys = true) {i : Nat} (hi : i < xs.length) :
    valR xs (nth (xs ++ ys) i).1 = .tup [i64 (nth (xs ++ ys) i).2, .bool true] ∧ valR ys (nth (xs ++ ys) i).1 = .tup [i64 0, .bool false] := by
  have hg : goodR xs = true := by simp only [joinOK, Bool.and_eq_true] at h; exact h.1.1
  rw [nth_pre hi]
  have hm := nth_mem hi
  exact ⟨valR_mem hg (k := (nth xs i).1) (v := (nth xs i).2) hm, valR_no fun y hy e => by have := join_lt h _ hm y hy; omega⟩
theorem vj_right {xs ys : List (Int × Int)} (h : joinOK xs ys = true) {i : Nat} (hi : xs.length ≤ i) (hi2 : i < xs.length + ys.length) :
    valR xs (nth (xs ++ ys) i).1 = .tup [i64 0, .bool false] ∧ valR ys (nth (xs ++ ys) i).1 = .tup [i64 (nth (xs ++ ys) i).2, .bool true] := by
  have hg : goodR ys = true := by simp only [joinOK, Bool.and_eq_true] at h; exact h.1.2
  rw [nth_suf hi hi2]
  have hm := nth_mem (xs := ys) (i := i - xs.length) (by omega)
  exact ⟨valR_no fun y hy e => by have := join_lt h y hy _ hm; omega, valR_mem hg (k := (nth ys (i - xs.length)).1) (v := (nth ys (i - xs.length)).2) hm⟩
def putT (xs : List (Int × Int)) (x : Int × Int) : List (Int × Int) := if okPut xs x then putR xs x else []
theorem putT_len {xs : List (Int × Int)} {x : Int × Int} : (putT xs x).length ≤ xs.length + 1 := by
  unfold putT; split
  · exact putR_len
  · simp
theorem drop_val {xs : List (Int × Int)} {k : Int} : (okDrop xs k = true → valR xs k = .tup [i64 (nth xs (atR xs k)).2, .bool true]) ∧ (okDrop xs k = false → valR xs k = .tup [i64 0, .bool false]) := by
  constructor
  · intro h; rw [okDrop] at h; rw [valR, h]; rfl
  · intro h; rw [okDrop] at h; rw [valR, h]; rfl
end Go.V
namespace Go.V
def wout (xs : List (Int × Int)) (k : Int) : List (Int × Int) := xs.filter fun x => decide (x.1 ≠ k)
theorem wout_len {xs : List (Int × Int)} {k : Int} : (wout xs k).length ≤ xs.length := List.length_filter_le ..
theorem wout_step {xs : List (Int × Int)} {k : Int} {i : Nat} (h : i < xs.length) : ((nth xs i).1 ≠ k → wout (xs.take (i + 1)) k = wout (xs.take i) k ++ [nth xs i]) ∧ ((nth xs i).1 = k → wout (xs.take (i + 1)) k = wout (xs.take i) k) := by
  rw [take_succ_nth h]
  simp only [wout, List.filter_append, List.filter_cons, List.filter_nil]
  constructor
  · intro h1; rw [if_pos (by simpa using h1)]
  · intro h1; rw [if_neg (by simpa using h1), List.append_nil]
theorem put_val {xs : List (Int × Int)} {x : Int × Int} (h : okPut xs x = true) : valR (putR xs x) x.1 = .tup [i64 x.2, .bool true] :=
  valR_mem (putR_good h) (k := x.1) (v := x.2) ((putR_mem (okPut_iff.1 h).1).2 (.inl rfl))
theorem drop_none {xs : List (Int × Int)} {k : Int} (h : okDrop xs k = true) : valR (dropR xs k) k = .tup [i64 0, .bool false] := by
  have := (drop_back h).2.2.2
  rw [valR, this, Bool.and_false]; rfl
end Go.V

/- A part of the proofs about laws of the page tree (see the text that bears the law): a small language of steps, its rules, and what the functions of the program return. -/
import Derived.Test.YtjbihdcdamchnaaPW
set_option linter.all false
set_option linter.unusedVariables false
set_option linter.unusedSimpArgs false
namespace Go.V
/-! insides: joined and split -/
abbrev bothA (a : List Int) (k : Int) (b : List Int) : List Int := a ++ [k] ++ b
def okJI (a c : List Int) (k : Int) (b d : List Int) : Bool := goodInner a c && goodInner b d && goodInner (bothA a k b) (c ++ d)
def joinI (a c : List Int) (k : Int) (b d : List Int) : PV := if okJI a c k b d then .tup [innP (bothA a k b) (c ++ d), .bool true] else .tup [innP [] [], .bool false]
theorem joinI_t {a c : List Int} {k : Int} {b d : List Int} (h : okJI a c k b d = true) : joinI a c k b d = .tup [innP (bothA a k b) (c ++ d), .bool true] := by rw [joinI, if_pos h]
theorem joinI_f {a c : List Int} {k : Int} {b d : List Int} (h : okJI a c k b d = false) : joinI a c k b d = .tup [innP [] [], .bool false] := by rw [joinI, if_neg (by simp [h])]
theorem okJI_iff {a c : List Int} {k : Int} {b d : List Int} : okJI a c k b d = true ↔ goodInner a c = true ∧ goodInner b d = true ∧ goodInner (bothA a k b) (c ++ d) = true := by simp [okJI, and_assoc]
theorem ji_len {a c : List Int} {k : Int} {b d : List Int} (h : okJI a c k b d = true) : a.length + b.length ≤ 4 ∧ 1 ≤ a.length ∧ 1 ≤ b.length ∧ c.length = a.length + 1 ∧ d.length = b.length + 1 := by
  obtain ⟨h1, h2, h3⟩ := okJI_iff.1 h
  have a1 := goodInner_one h3
  have a2 := goodInner_one h1
  have a3 := goodInner_one h2
  have a4 := goodInner_len h1
  have a5 := goodInner_len h2
  simp at a1
  omega
theorem ji_nth {a : List Int} {k : Int} {b : List Int} : nth (bothA a k b) a.length = k := by
  rw [nth_eq (by simp)]
  simp
theorem ji_take {a : List Int} {k : Int} {b : List Int} : (bothA a k b).take a.length = a := by simp [bothA]
theorem ji_drop {a : List Int} {k : Int} {b : List Int} : (bothA a k b).drop (a.length + 1) = b := by simp [bothA]
abbrev halfI (ks : List Int) : Nat := ks.length / 2
def okSI (ks cs : List Int) : Bool := goodInner ks cs && decide (3 ≤ ks.length)
theorem okSI_iff {ks cs : List Int} : okSI ks cs = true ↔ goodInner ks cs = true ∧ 3 ≤ ks.length := by simp [okSI]
def splI (ks cs : List Int) : PV := if okSI ks cs then .tup [innP (ks.take (halfI ks)) (cs.take (halfI ks + 1)), i64 (nth ks (halfI ks)), innP (ks.drop (halfI ks + 1)) (cs.drop (halfI ks + 1)), .bool true] else .tup [innP [] [], i64 0, innP [] [], .bool false]
theorem splI_t {ks cs : List Int} (h : okSI ks cs = true) : splI ks cs = .tup [innP (ks.take (halfI ks)) (cs.take (halfI ks + 1)), i64 (nth ks (halfI ks)), innP (ks.drop (halfI ks + 1)) (cs.drop (halfI ks + 1)), .bool true] := by rw [splI, if_pos h]
theorem splI_f {ks cs : List Int} (h : okSI ks cs = false) : splI ks cs = .tup [innP [] [], i64 0, innP [] [], .bool false] := by rw [splI, if_neg (by simp [h])]
theorem si_len {ks cs : List Int} (h : okSI ks cs = true) : 3 ≤ ks.length ∧ ks.length ≤ 5 ∧ cs.length = ks.length + 1 := by
  obtain ⟨h1, h2⟩ := okSI_iff.1 h
  exact ⟨h2, (goodInner_one h1).2, goodInner_len h1⟩
theorem si_good {ks cs : List Int} (h : okSI ks cs = true) : goodInner (ks.take (halfI ks)) (cs.take (halfI ks + 1)) = true ∧ goodInner (ks.drop (halfI ks + 1)) (cs.drop (halfI ks + 1)) = true := by
  have hl := si_len h
  have hg := (okSI_iff.1 h).1
  rw [goodInner_iff] at hg
  obtain ⟨h2, h3, h4, h5, h6⟩ := hg
  constructor <;> rw [goodInner_iff]
  · exact ⟨h2.sublist (List.take_sublist _ _), good_sub h3 (List.take_sublist _ _), by simp [halfI]; omega, by simp [halfI]; omega, fun c hc => h6 c ((List.take_sublist _ _).subset hc)⟩
  · exact ⟨h2.sublist (List.drop_sublist _ _), good_sub h3 (List.drop_sublist _ _), by simp [halfI]; omega, by simp [halfI]; omega, fun c hc => h6 c ((List.drop_sublist _ _).subset hc)⟩
theorem si_both {ks : List Int} (h : 3 ≤ ks.length) : bothA (ks.take (halfI ks)) (nth ks (halfI ks)) (ks.drop (halfI ks + 1)) = ks := by
  have hl : halfI ks < ks.length := by simp [halfI]; omega
  rw [bothA, nth_eq hl, List.append_assoc, List.singleton_append, ← List.drop_eq_getElem_cons hl, List.take_append_drop]
theorem si_join {ks cs : List Int} (h : okSI ks cs = true) : okJI (ks.take (halfI ks)) (cs.take (halfI ks + 1)) (nth ks (halfI ks)) (ks.drop (halfI ks + 1)) (cs.drop (halfI ks + 1)) = true := by
  have hg := si_good h
  refine okJI_iff.2 ⟨hg.1, hg.2, ?_⟩
  rw [si_both (si_len h).1, List.take_append_drop]
  exact (okSI_iff.1 h).1
/-- what FnSplitInnerRoute comes to -/
theorem si_route {ks cs : List Int} (h : okSI ks cs = true) (n : Int) :
    (n < nth ks (halfI ks) → nth (cs.take (halfI ks + 1)) (upTo (ks.take (halfI ks)) n) = nth cs (upTo ks n)) ∧
    (nth ks (halfI ks) ≤ n → nth (cs.drop (halfI ks + 1)) (upTo (ks.drop (halfI ks + 1)) n) = nth cs (upTo ks n)) := by
  have hl := si_len h
  have hh : halfI ks + 1 < ks.length := by simp [halfI]; omega
  have hk := goodInner_keys (okSI_iff.1 h).1
  have hr := good_rising hk
  have hu := upTo_le ks n
  generalize hm : halfI ks = m at *
  constructor
  · intro hn
    have h1 : upTo ks n ≤ m := by
      rcases Nat.lt_or_ge m (upTo ks n) with hlt | hge
      · have := upTo_lt hlt; omega
      · exact hge
    have e : upTo (ks.take m) n = upTo ks n := by
      refine upTo_eq (by simp; omega) (fun j hj => ?_) (fun hlt => ?_)
      · rw [nth_eq (by simp; omega), List.getElem_take, ← nth_eq (by omega)]
        exact upTo_lt hj
      · simp at hlt
        rw [nth_eq (by simp; omega), List.getElem_take, ← nth_eq (by omega)]
        exact upTo_at (by omega)
    rw [e, nth_eq (by simp; omega), List.getElem_take, ← nth_eq (by omega)]
  · intro hn
    have h1 : m + 1 ≤ upTo ks n := by
      rcases Nat.lt_or_ge m (upTo ks n) with hlt | hge
      · exact hlt
      · have h3 := upTo_at (xs := ks) (k := n) (by omega)
        have := rising_le hr hge (by omega)
        omega
    have e : upTo (ks.drop (m + 1)) n = upTo ks n - (m + 1) := by
      refine upTo_eq (by simp; omega) (fun j hj => ?_) (fun hlt => ?_)
      · rw [nth_eq (by simp; omega), List.getElem_drop, ← nth_eq (by omega)]
        exact upTo_lt (by omega)
      · simp at hlt
        rw [nth_eq (by simp; omega), List.getElem_drop, ← nth_eq (by omega)]
        rw [show m + 1 + (upTo ks n - (m + 1)) = upTo ks n by omega]
        exact upTo_at (by omega)
    rw [e, nth_eq (by simp; omega), List.getElem_drop, ← nth_eq (by omega)]
    congr 1; omega
/-- what FnJoinInnerSplit comes to -/
theorem ji_split {a c : List Int} {k : Int} {b d : List Int} (h : okJI a c k b d = true) : okSI (bothA a k b) (c ++ d) = true := by
  have h1 := ji_len h
  refine okSI_iff.2 ⟨(okJI_iff.1 h).2.2, ?_⟩
  simp; omega
end Go.V

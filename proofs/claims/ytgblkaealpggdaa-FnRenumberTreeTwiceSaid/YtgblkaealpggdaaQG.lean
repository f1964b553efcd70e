/- A part of the proofs about laws of the page tree (see the text that bears the law): a small language of steps, its rules, and what the functions of the program return. -/
import Derived.Test.YtgblkaealpggdaaQF
set_option linter.all false
set_option linter.unusedVariables false
set_option linter.unusedSimpArgs false
namespace Go.V
/-! a page cut out of a tree -/
def cutC (g c : Int) : Int := c - (if decide (g < c) then 1 else 0)
def cutQ (g : Int) (p : Pg) : Pg := ⟨p.ks, p.cs.map (cutC g), p.vs⟩
def cutUp (g : Int) (ps : List Pg) (i : Nat) : List Pg := ((List.range i).filter fun (j : Nat) => decide ((j : Int) ≠ g)).map fun (j : Nat) => cutQ g (nth ps j)
def cutT (t : Pt) (g : Int) : Pt := ⟨cutC g t.r, cutUp g t.ps t.ps.length⟩
theorem cutUp_no {g : Int} {ps : List Pg} {i : Nat} (h : (i : Int) = g) : cutUp g ps (i + 1) = cutUp g ps i := by
  simp [cutUp, List.range_succ, h]
theorem cutUp_yes {g : Int} {ps : List Pg} {i : Nat} (h : (i : Int) ≠ g) : cutUp g ps (i + 1) = cutUp g ps i ++ [cutQ g (nth ps i)] := by
  simp [cutUp, List.range_succ, h]
def cutK (g : Int) (cs : List Int) (k : Nat) : List Int := (cs.take k).map (cutC g) ++ cs.drop k
theorem cutK_len {g : Int} {cs : List Int} {k : Nat} : (cutK g cs k).length = cs.length := by simp [cutK]; omega
theorem cutK_at {g : Int} {cs : List Int} {k : Nat} (h : k < cs.length) : nth (cutK g cs k) k = nth cs k := by
  rw [cutK, nth_eq (by simp; omega), List.getElem_append_right (by simp; omega), nth_eq h]
  simp [Nat.min_eq_left (Nat.le_of_lt h)]
theorem cutK_step {g : Int} {cs : List Int} {k : Nat} (h : k < cs.length) : (cutK g cs k).set k (cutC g (nth cs k)) = cutK g cs (k + 1) := by
  have hl : ((cs.take k).map (cutC g)).length = k := by simp; omega
  rw [cutK, cutK, List.set_append_right _ _ (by omega), hl, Nat.sub_self, List.drop_eq_getElem_cons h, List.set_cons_zero, take_succ_nth h, List.map_append, List.append_assoc]
  rfl
theorem cutK_all {g : Int} {cs : List Int} : cutK g cs cs.length = cs.map (cutC g) := by simp [cutK]
theorem cutC_le {g c : Int} {a b : Int} (h : a ≤ c ∧ c ≤ b) : a - 1 ≤ cutC g c ∧ cutC g c ≤ b := by
  rw [cutC]; split <;> omega
structure CutOK (t : Pt) : Prop where
  many : t.ps.length ≤ 1000
  r : -1000 ≤ t.r ∧ t.r ≤ 1000
  small : ∀ i, i < t.ps.length → (nth t.ps i).ks.length ≤ 1000 ∧ (nth t.ps i).cs.length ≤ 1000 ∧ (nth t.ps i).vs.length ≤ 1000
  kids : ∀ i, i < t.ps.length → ∀ c ∈ (nth t.ps i).cs, -1000 ≤ c ∧ c ≤ 1000
end Go.V

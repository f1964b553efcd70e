/- A part of the proofs about laws of the page tree (see the text that bears the law): a small language of steps, its rules, and what the functions of the program return. -/
import Derived.Test.YtanckppjkbfbfaaQK
set_option linter.all false
set_option linter.unusedVariables false
set_option linter.unusedSimpArgs false
namespace Go.V
/-! laws of valid trees -/
theorem page_nd {t : Pt} (hv : validT t = true) {i : Int} (hi : inT t i = true) : (pg t i).cs.Nodup ∧ t.r ∉ (pg t i).cs := by
  obtain ⟨_, _, h3, h4, h5⟩ := valid_ok hv
  have h := tree_nd h3 h4
  exact ⟨h.1 i (h5 i hi), h.2.2 i (h5 i hi)⟩
theorem inner_good {t : Pt} (hv : validT t = true) {i : Int} (hi : inT t i = true) (hc : (pg t i).cs.length ≠ 0) : goodInner (pg t i).ks (pg t i).cs = true := by
  obtain ⟨h1, h2, h3, h4, h5⟩ := valid_ok hv
  obtain ⟨h, lo, hi', ho⟩ := valid_page hv hi
  have hf := (okT_top ho).2.2.1
  rw [fillB] at hf
  have hf := fill_inner hf hc
  refine goodInner_iff.2 ⟨(page_nd hv hi).1, hf.2.2.2.1, by omega, hf.1, fun c hm => ?_⟩
  obtain ⟨h', rfl⟩ : ∃ h', h = h' + 1 := ⟨h - 1, by have := (okT_top ho).1; omega⟩
  obtain ⟨_, _, _, k⟩ := okT_kid ho hm
  have := inT_iff.1 (okT_top k).2.1
  omega
theorem pthT_len {t : Pt} (hv : validT t = true) (k : Int) : (pthT t k).length = hgtT t := (leaf_at hv k).1
def prB (t : Pt) (h : Nat) (i : Int) : List (Int × Int) := (lvB t h i).flatMap fun i => rowG (pg t i)
end Go.V
namespace Go.V
end Go.V
namespace Go.V
end Go.V

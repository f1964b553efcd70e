/- A part of the proofs about laws of the page tree (see the text that bears the law): a small language of steps, its rules, and what the functions of the program return. -/
import Derived.Test.YtgblkaealpggdaaQK
set_option linter.all false
set_option linter.unusedVariables false
set_option linter.unusedSimpArgs false
namespace Go.V
/-! laws of valid trees -/
theorem hgt_one {t : Pt} (hv : validT t = true) : (hgtT t = 1 ↔ t.ps.length = 1) := by
  obtain ⟨h1, h2, h3, h4, h5⟩ := valid_ok hv
  have hl : (wlk t (hgtT t) t.r).length = t.ps.length := (nodup_full h4 fun x hx => inT_iff.1 (okT_in h3 x hx)).1 fun q hq => h5 q (inT_iff.2 (by omega))
  constructor
  · intro e
    rw [e] at hl h3
    have hc := (okT_leaf.1 h3).2
    rw [wlk_succ, List.length_eq_zero_iff.1 hc] at hl
    simpa using hl.symm
  · intro e
    obtain ⟨h, hh⟩ : ∃ h, hgtT t = h + 1 := ⟨hgtG t 3 t.r, rfl⟩
    by_cases h0 : h = 0
    · omega
    · rw [hh] at h3 hl
      have hk := (okT_inner h0).1 h3
      have hm := nth_mem hk.2.1
      obtain ⟨_, _, _, k⟩ := okT_kid h3 hm
      have h6 := wlk_self k
      have : nth (pg t t.r).cs 0 ∈ (pg t t.r).cs.flatMap (wlk t h) := List.mem_flatMap.2 ⟨_, hm, h6⟩
      have := List.length_pos_of_mem this
      rw [wlk_succ, List.length_cons] at hl
      omega
def prB (t : Pt) (h : Nat) (i : Int) : List (Int × Int) := (lvB t h i).flatMap fun i => rowG (pg t i)
end Go.V
namespace Go.V
theorem okT_hone {t : Pt} {m : Nat} {i : Int} (h : ∃ lo hi, okT t m i lo hi = true) (hc : (pg t i).cs.length = 0) : m = 1 := by
  obtain ⟨lo, hi, ho⟩ := h
  obtain ⟨m2, rfl⟩ : ∃ m2, m = m2 + 1 := ⟨m - 1, by have := (okT_top ho).1; omega⟩
  by_cases e : m2 = 0
  · omega
  · have := ((okT_inner e).1 ho).2.1; omega
end Go.V
namespace Go.V
end Go.V

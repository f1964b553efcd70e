/- A part of the proofs about laws of the page tree (see the text that bears the law): a small language of steps, its rules, and what the functions of the program return. -/
import Derived.Test.YtfhalijoljgafaaQL
set_option linter.all false
set_option linter.unusedVariables false
set_option linter.unusedSimpArgs false
namespace Go.V
/-! sums over the pages of a tree -/
theorem count_nodup {l : List Int} (h : l.Nodup) (a : Int) : l.count a = if a ∈ l then 1 else 0 := by
  induction l with
  | nil => rfl
  | cons x l ih =>
    rw [List.nodup_cons] at h
    rw [List.count_cons, ih h.2]
    by_cases e : x = a
    · subst e; simp [h.1]
    · have : (x == a) = false := by simpa using e
      rw [this]
      simp [Ne.symm e]
theorem perm_mem {l m : List Int} (hl : l.Nodup) (hm : m.Nodup) (h : ∀ a, a ∈ l ↔ a ∈ m) : l.Perm m := by
  rw [List.perm_iff_count]
  intro a
  rw [count_nodup hl, count_nodup hm]
  simp [h a]
theorem wlk_perm {t : Pt} (hv : validT t = true) : (wlk t (hgtT t) t.r).Perm (natI 0 t.ps.length) := by
  obtain ⟨h1, h2, h3, h4, h5⟩ := valid_ok hv
  refine perm_mem h4 natI_nodup fun a => ⟨fun ha => ?_, fun ha => ?_⟩
  · have := inT_iff.1 (okT_in h3 a ha)
    exact List.mem_map.2 ⟨a.toNat, List.mem_range.2 (by omega), by omega⟩
  · obtain ⟨j, hj, rfl⟩ := natI_mem ha
    exact h5 _ (inT_iff.2 (by omega))
def sumR (f : Nat → Nat) (n : Nat) : Nat := ((List.range n).map f).sum
theorem sumR_succ {f : Nat → Nat} {n : Nat} : sumR f (n + 1) = sumR f n + f n := by simp [sumR, List.range_succ]
theorem sum_wlk {t : Pt} (hv : validT t = true) (f : Int → Nat) : ((wlk t (hgtT t) t.r).map f).sum = sumR (fun i => f (i : Int)) t.ps.length := by
  rw [((wlk_perm hv).map f).sum_nat, sumR, natI, List.map_map]
  congr 1
  exact List.map_congr_left fun i _ => by simp
theorem sum_filter (p : Int → Bool) (g : Int → Nat) : ∀ l : List Int, ((l.filter p).map g).sum = (l.map fun x => if p x then g x else 0).sum
  | [] => rfl
  | x :: l => by
    rw [List.filter_cons, List.map_cons, List.sum_cons, ← sum_filter p g l]
    split <;> simp
theorem sumR_congr {f g : Nat → Nat} {n : Nat} (h : ∀ i, i < n → f i = g i) : sumR f n = sumR g n := by
  rw [sumR, sumR]; congr 1
  exact List.map_congr_left fun i hi => h i (List.mem_range.1 hi)
theorem vals_count {t : Pt} (hv : validT t = true) : sumR (fun i => (nth t.ps i).vs.length) t.ps.length = (prV t).length := by
  have e : (prV t).length = ((lvV t).map fun i => (rowG (pg t i)).length).sum := by rw [prV_flat, List.length_flatMap]
  rw [e, lvV, if_pos hv, lvT, sum_filter, sum_wlk hv]
  refine sumR_congr fun i hi => ?_
  have hin : inT t (i : Int) = true := inT_iff.2 (by omega)
  show _ = if isLf t (i : Int) then (rowG (nth t.ps i)).length else 0
  have hpg : pg t (i : Int) = nth t.ps i := rfl
  by_cases hc : (nth t.ps i).cs.length = 0
  · rw [if_pos (by simp only [isLf, hpg]; exact decide_eq_true hc), rowG_len]
    exact ((valid_facts hv).pgs _ hin).2 hc
  · rw [if_neg (by simp only [isLf, hpg, decide_eq_true_eq]; exact hc)]
    obtain ⟨h, lo, hi', ho⟩ := valid_page hv hin
    have hf := (okT_top ho).2.2.1
    rw [fillB] at hf
    exact (fill_inner hf hc).2.2.2.2
theorem leaf_count {t : Pt} (hv : validT t = true) : sumR (fun i => if (nth t.ps i).cs.length = 0 then 1 else 0) t.ps.length = (lvV t).length := by
  have e : (lvV t).length = ((lvV t).map fun _ => 1).sum := by
    generalize lvV t = l
    induction l with
    | nil => rfl
    | cons x l ih => rw [List.length_cons, List.map_cons, List.sum_cons, ← ih]; omega
  rw [e, lvV, if_pos hv, lvT, sum_filter, sum_wlk hv]
  refine sumR_congr fun i hi => ?_
  simp only [isLf, decide_eq_true_eq]; rfl
theorem leaf_mem {t : Pt} (hv : validT t = true) {i : Nat} (hi : i < t.ps.length) : (lvV t).contains (i : Int) = decide ((nth t.ps i).cs.length = 0) := by
  have h5 := (valid_ok hv).2.2.2.2 (i : Int) (inT_iff.2 (by omega))
  rw [Bool.eq_iff_iff, List.contains_iff_mem, lvV, if_pos hv, lvT, List.mem_filter, decide_eq_true_eq]
  simp only [isLf, decide_eq_true_eq]
  exact ⟨fun h => h.2, fun h => ⟨h5, h⟩⟩
/-! kids -/
def kidsTo (t : Pt) (i : Nat) : List Int := (t.ps.take i).flatMap fun p => p.cs
end Go.V
namespace Go.V
theorem prV_le4 {t : Pt} (hv : validT t = true) : (prV t).length ≤ 4 * (lvV t).length := by
  have h4 := flatM_len (fun i => rowG (pg t i)) 4 (lvV t) fun i hi => by rw [rowG_len]; exact (okT_all2 hv i hi).1
  rw [← prV_flat] at h4
  exact h4
end Go.V
namespace Go.V
end Go.V

/- A part of the proofs about laws of the page tree (see the text that bears the law): a small language of steps, its rules, and what the functions of the program return. -/
import Derived.Test.YtfhalijoljgafaaQL
set_option linter.all false
set_option linter.unusedVariables false
set_option linter.unusedSimpArgs false
namespace Go.V
/-! sums over the pages of a tree -/
theorem count_nodup {l : List Int} (h : l.Nodup) (a : Int) : l.count a = if a ∈ l then 1 else 0 := by
  induction l with
  | nil => rfl
  | cons x l ih =>
    rw [List.nodup_cons] at h
    rw [List.count_cons, ih h.2]
    by_cases e : x = a
    · subst e; simp [h.1]
    · have : (x == a) = false := by simpa using e
      rw [this]
      simp [Ne.symm e]
theorem perm_mem {l m : List Int} (hl : l.Nodup) (hm : m.Nodup) (h : ∀ a, a ∈ l ↔ a ∈ m) : l.Perm m := by
  rw [List.perm_iff_count]
  intro a
  rw [count_nodup hl, count_nodup hm]
  simp [h a]
theorem wlk_perm {t : Pt} (hv : validT t = true) : (wlk t (hgtT t) t.r).Perm (natI 0 t.ps.length) := by
  obtain ⟨h1, h2, h3, h4, h5⟩ := valid_ok hv
  refine perm_mem h4 natI_nodup fun a => ⟨fun ha => ?_, fun ha => ?_⟩
  · have := inT_iff.1 (okT_in h3 a ha)
    exact List.mem_map.2 ⟨a.toNat, List.mem_range.2 (by omega), by omega⟩
  · obtain ⟨j, hj, rfl⟩ := natI_mem ha
    exact h5 _ (inT_iff.2 (by omega))
def sumR (f : Nat → Nat) (n : Nat) : Nat := ((List.range n).map f).sum
theorem sumR_succ {f : Nat → Nat} {n : Nat} : sumR f (n + 1) = sumR f n + f n := by simp [sumR, List.range_succ]
theorem sum_wlk {t : Pt} (hv : validT t = true) (f : Int → Nat) : ((wlk t (hgtT t) t.r).map f).sum = sumR (fun i => f (i : Int)) t.ps.length := by
  rw [((wlk_perm hv).map f).sum_nat, sumR, natI, List.map_map]
  congr 1
  exact List.map_congr_left fun i _ => by simp
theorem keys_flat {t : Pt} : keysR (prV t) = (lvV t).flatMap fun i => (pg t i).ks := by
  rw [prV_flat, keysR, List.map_flatMap]
  congr 1
  funext i
  exact keys_rowG
/-! kids -/
theorem has_parent {t : Pt} : ∀ {h : Nat} {i lo hi : Int}, okT t h i lo hi = true → ∀ x ∈ wlk t h i, x ≠ i → ∃ y ∈ wlk t h i, x ∈ (pg t y).cs
  | 0, _, _, _, a, _, _, _ => by simp [okT] at a
  | h + 1, i, lo, hi, a, x, hx, hne => by
    rw [wlk_succ, List.mem_cons] at hx
    rcases hx with hx | hx
    · exact absurd hx hne
    · obtain ⟨c, hc, hx⟩ := List.mem_flatMap.1 hx
      by_cases e : x = c
      · subst e; exact ⟨i, wlk_self a, hc⟩
      · obtain ⟨_, lo', hi', k⟩ := okT_kid a hc
        obtain ⟨y, hy, hxy⟩ := has_parent k x hx e
        exact ⟨y, by rw [wlk_succ]; exact List.mem_cons_of_mem _ (List.mem_flatMap.2 ⟨c, hc, hy⟩), hxy⟩
theorem kids_sum {t : Pt} : ∀ {h : Nat} {i lo hi : Int}, okT t h i lo hi = true → ((wlk t h i).map fun x => (pg t x).cs.length).sum + 1 = (wlk t h i).length
  | 0, _, _, _, a => by simp [okT] at a
  | h + 1, i, lo, hi, a => by
    have key : ∀ l : List Int, (∀ c ∈ l, c ∈ (pg t i).cs) → ((l.flatMap (wlk t h)).map fun x => (pg t x).cs.length).sum + l.length = (l.flatMap (wlk t h)).length := fun l => by
      induction l with
      | nil => intro _; rfl
      | cons c l ih =>
        intro hl
        obtain ⟨_, lo', hi', k⟩ := okT_kid a (hl c (List.mem_cons_self ..))
        have h1 := kids_sum k
        have h2 := ih fun d hd => hl d (List.mem_cons_of_mem _ hd)
        rw [List.flatMap_cons, List.map_append, List.sum_append, List.length_append, List.length_cons]
        omega
    have := key (pg t i).cs fun c hc => hc
    rw [wlk_succ, List.map_cons, List.sum_cons, List.length_cons]
    omega
def kidsTo (t : Pt) (i : Nat) : List Int := (t.ps.take i).flatMap fun p => p.cs
theorem kidsTo_succ {t : Pt} {i : Nat} (h : i < t.ps.length) : kidsTo t (i + 1) = kidsTo t i ++ (nth t.ps i).cs := by
  rw [kidsTo, flat_take h]; rfl
theorem all_kids {t : Pt} (hv : validT t = true) : (kidsTo t t.ps.length).length + 1 = t.ps.length ∧ ∀ i, i < t.ps.length → (kidsTo t t.ps.length).contains (i : Int) = !decide ((i : Int) = t.r) := by
  obtain ⟨h1, h2, h3, h4, h5⟩ := valid_ok hv
  have hl : (wlk t (hgtT t) t.r).length = t.ps.length := by rw [(wlk_perm hv).length_eq, natI_len]
  have e : (kidsTo t t.ps.length).length = sumR (fun i => (nth t.ps i).cs.length) t.ps.length := by
    have : ∀ i, i ≤ t.ps.length → (kidsTo t i).length = sumR (fun i => (nth t.ps i).cs.length) i := fun i => by
      induction i with
      | zero => intro _; simp [kidsTo, sumR]
      | succ i ih => intro hi; rw [kidsTo_succ (by omega), List.length_append, ih (by omega), sumR_succ]
    exact this _ (Nat.le_refl _)
  refine ⟨?_, fun i hi => ?_⟩
  · have := kids_sum h3
    rw [sum_wlk hv] at this
    rw [e]
    exact this.trans hl
  · rw [Bool.eq_iff_iff, List.contains_iff_mem]
    simp only [Bool.not_eq_eq_eq_not, Bool.not_true, decide_eq_false_iff_not]
    have mem : ∀ x : Int, x ∈ kidsTo t t.ps.length ↔ ∃ j : Nat, j < t.ps.length ∧ x ∈ (nth t.ps j).cs := fun x => by
      rw [kidsTo, List.take_length, List.mem_flatMap]
      constructor
      · rintro ⟨p, hp, hx⟩
        obtain ⟨j, hj, rfl⟩ := List.getElem_of_mem hp
        exact ⟨j, hj, by rw [nth_eq hj]; exact hx⟩
      · rintro ⟨j, hj, hx⟩
        exact ⟨_, nth_mem hj, hx⟩
    rw [mem]
    constructor
    · rintro ⟨j, hj, hx⟩ e
      exact (page_nd hv (i := (j : Int)) (inT_iff.2 (by omega))).2 (by rw [← e]; exact hx)
    · intro hne
      obtain ⟨y, hy, hxy⟩ := has_parent h3 (i : Int) (h5 _ (inT_iff.2 (by omega))) hne
      have := inT_iff.1 (okT_in h3 y hy)
      exact ⟨y.toNat, by omega, hxy⟩
end Go.V
namespace Go.V
end Go.V
namespace Go.V
end Go.V

/- A part of the proofs about laws of the page tree (see the text that bears the law): a small language of steps, its rules, and what the functions of the program return. -/
import Derived.Test.YtfhalijoljgafaaQK
set_option linter.all false
set_option linter.unusedVariables false
set_option linter.unusedSimpArgs false
namespace Go.V
/-! laws of valid trees -/
theorem page_nd {t : Pt} (hv : validT t = true) {i : Int} (hi : inT t i = true) : (pg t i).cs.Nodup ∧ t.r ∉ (pg t i).cs := by
  obtain ⟨_, _, h3, h4, h5⟩ := valid_ok hv
  have h := tree_nd h3 h4
  exact ⟨h.1 i (h5 i hi), h.2.2 i (h5 i hi)⟩
theorem inner_good {t : Pt} (hv : validT t = true) {i : Int} (hi : inT t i = true) (hc : (pg t i).cs.length ≠ 0) : goodInner (pg t i).ks (pg t i).cs = true := by
  obtain ⟨h1, h2, h3, h4, h5⟩ := valid_ok hv
  obtain ⟨h, lo, hi', ho⟩ := valid_page hv hi
  have hf := (okT_top ho).2.2.1
  rw [fillB] at hf
  have hf := fill_inner hf hc
  refine goodInner_iff.2 ⟨(page_nd hv hi).1, hf.2.2.2.1, by omega, hf.1, fun c hm => ?_⟩
  obtain ⟨h', rfl⟩ : ∃ h', h = h' + 1 := ⟨h - 1, by have := (okT_top ho).1; omega⟩
  obtain ⟨_, _, _, k⟩ := okT_kid ho hm
  have := inT_iff.1 (okT_top k).2.1
  omega
theorem pthT_len {t : Pt} (hv : validT t = true) (k : Int) : (pthT t k).length = hgtT t := (leaf_at hv k).1
theorem hgt_one {t : Pt} (hv : validT t = true) : (hgtT t = 1 ↔ t.ps.length = 1) := by
  obtain ⟨h1, h2, h3, h4, h5⟩ := valid_ok hv
  have hl : (wlk t (hgtT t) t.r).length = t.ps.length := (nodup_full h4 fun x hx => inT_iff.1 (okT_in h3 x hx)).1 fun q hq => h5 q (inT_iff.2 (by omega))
  constructor
  · intro e
    rw [e] at hl h3
    have hc := (okT_leaf.1 h3).2
    rw [wlk_succ, List.length_eq_zero_iff.1 hc] at hl
    simpa using hl.symm
  · intro e
    obtain ⟨h, hh⟩ : ∃ h, hgtT t = h + 1 := ⟨hgtG t 3 t.r, rfl⟩
    by_cases h0 : h = 0
    · omega
    · rw [hh] at h3 hl
      have hk := (okT_inner h0).1 h3
      have hm := nth_mem hk.2.1
      obtain ⟨_, _, _, k⟩ := okT_kid h3 hm
      have h6 := wlk_self k
      have : nth (pg t t.r).cs 0 ∈ (pg t t.r).cs.flatMap (wlk t h) := List.mem_flatMap.2 ⟨_, hm, h6⟩
      have := List.length_pos_of_mem this
      rw [wlk_succ, List.length_cons] at hl
      omega
theorem flat_ge {α β : Type} (f : α → List β) (n : Nat) : ∀ xs : List α, (∀ x ∈ xs, n ≤ (f x).length) → n * xs.length ≤ (xs.flatMap f).length
  | [], _ => by simp
  | x :: xs, h => by
    have h1 := h x (List.mem_cons_self ..)
    have h2 := flat_ge f n xs fun y hy => h y (List.mem_cons_of_mem _ hy)
    rw [List.flatMap_cons, List.length_append, List.length_cons, Nat.mul_succ]; omega
def prB (t : Pt) (h : Nat) (i : Int) : List (Int × Int) := (lvB t h i).flatMap fun i => rowG (pg t i)
theorem prB_inner {t : Pt} {h : Nat} {i : Int} (hc : (pg t i).cs.length ≠ 0) : prB t (h + 1) i = (pg t i).cs.flatMap (prB t h) := by
  rw [prB, lvB_inner hc, List.flatMap_assoc]; rfl
theorem pairs_below {t : Pt} (hr : ∀ x, inT t x = true → t.r ∉ (pg t x).cs) : ∀ {h : Nat} {i lo hi : Int}, okT t h i lo hi = true → i ≠ t.r → 2 * 3 ^ (h - 1) ≤ (prB t h i).length
  | 0, _, _, _, a, _ => by simp [okT] at a
  | 1, i, lo, hi, a, hne => by
    have hc := (okT_leaf.1 a).2
    have hk := (okT_p rfl a).2.1
    rw [prB, lvB_leaf hc]
    simp only [List.flatMap_cons, List.flatMap_nil, List.append_nil, rowG_len]
    rcases hk with hk | hk
    · exact absurd hk hne
    · simpa using hk
  | h + 2, i, lo, hi, a, hne => by
    have hk := (okT_inner (by omega)).1 a
    have hl := okT_less rfl (by omega) a
    have h2 := (okT_p rfl a).2.1
    have hin := (okT_top a).2.1
    rw [prB_inner (by omega)]
    have h3 := flat_ge (prB t (h + 1)) (2 * 3 ^ h) (pg t i).cs fun c hc => by
      obtain ⟨_, lo', hi', k⟩ := okT_kid a hc
      have := pairs_below hr k fun e => hr i hin (e ▸ hc)
      simpa using this
    rcases h2 with h2 | h2
    · exact absurd h2 hne
    · have h4 : 2 * 3 ^ h * 3 ≤ 2 * 3 ^ h * (pg t i).cs.length := Nat.mul_le_mul_left _ (by omega)
      rw [show h + 2 - 1 = h + 1 by omega, Nat.pow_succ]
      omega
theorem hgt_pairs {t : Pt} (hv : validT t = true) : (2 ≤ hgtT t → 4 ≤ (prV t).length) ∧ (3 ≤ hgtT t → 12 ≤ (prV t).length) := by
  obtain ⟨h1, h2, h3, h4, h5⟩ := valid_ok hv
  have hr : ∀ x, inT t x = true → t.r ∉ (pg t x).cs := fun x hx => (page_nd hv hx).2
  have e : prV t = prB t (hgtT t) t.r := by rw [prV, if_pos hv]; rfl
  obtain ⟨h, hh⟩ : ∃ h, hgtT t = h + 1 := ⟨hgtG t 3 t.r, rfl⟩
  rw [e, hh]
  rw [hh] at h3
  have key : h ≠ 0 → 2 * (2 * 3 ^ (h - 1)) ≤ (prB t (h + 1) t.r).length := fun h0 => by
    have hl := okT_less rfl h0 h3
    rw [prB_inner (by omega)]
    have h6 := flat_ge (prB t h) (2 * 3 ^ (h - 1)) (pg t t.r).cs fun c hc => by
      obtain ⟨_, lo', hi', k⟩ := okT_kid h3 hc
      exact pairs_below hr k fun e => hr t.r (okT_top h3).2.1 (e ▸ hc)
    have h7 : 2 * 3 ^ (h - 1) * 2 ≤ 2 * 3 ^ (h - 1) * (pg t t.r).cs.length := Nat.mul_le_mul_left _ (by omega)
    omega
  have h8 : h = 0 ∨ h = 1 ∨ h = 2 := by omega
  rcases h8 with rfl | rfl | rfl
  · exact ⟨fun h => by omega, fun h => by omega⟩
  · have := key (by omega); simp at this; exact ⟨fun _ => by omega, fun h => by omega⟩
  · have := key (by omega); simp at this; exact ⟨fun _ => by omega, fun _ => by omega⟩
end Go.V
namespace Go.V
theorem okT_hone {t : Pt} {m : Nat} {i : Int} (h : ∃ lo hi, okT t m i lo hi = true) (hc : (pg t i).cs.length = 0) : m = 1 := by
  obtain ⟨lo, hi, ho⟩ := h
  obtain ⟨m2, rfl⟩ : ∃ m2, m = m2 + 1 := ⟨m - 1, by have := (okT_top ho).1; omega⟩
  by_cases e : m2 = 0
  · omega
  · have := ((okT_inner e).1 ho).2.1; omega
end Go.V
namespace Go.V
theorem okT_all2 {t : Pt} (hv : validT t = true) : ∀ i ∈ lvV t, (pg t i).ks.length ≤ 4 ∧ (i = t.r ∨ 2 ≤ (pg t i).ks.length) := fun i hi => by
  rw [lvV, if_pos hv] at hi
  obtain ⟨h, lo, hi', ho⟩ := valid_page hv (lvT_mem hv hi).1
  have h1 := okT_p rfl ho
  exact ⟨h1.1.1, h1.2.1⟩
theorem root_leaf {t : Pt} (hv : validT t = true) (h1 : t.ps.length ≠ 1) : t.r ∉ lvV t := fun hm => by
  rw [lvV, if_pos hv] at hm
  have hc := (lvT_mem hv hm).2
  have ho := (valid_ok hv).2.2.1
  have h2 := mt (hgt_one hv).1 h1
  obtain ⟨h, hh⟩ : ∃ h, hgtT t = h + 1 := ⟨hgtG t 3 t.r, rfl⟩
  rw [hh] at ho h2
  have := ((okT_inner (by omega)).1 ho).2.1
  omega
theorem fill_bounds {t : Pt} (hv : validT t = true) : fillV t ≤ 100 ∧ (50 ≤ fillV t ∨ t.ps.length = 1) := by
  have hlp := lv_pos hv
  have ha := okT_all2 hv
  have h4 := flatM_len (fun i => rowG (pg t i)) 4 (lvV t) fun i hi => by rw [rowG_len]; exact (ha i hi).1
  rw [← prV_flat] at h4
  refine ⟨?_, ?_⟩
  · show 100 * (prV t).length / (4 * (lvV t).length) ≤ 100
    rw [Nat.div_le_iff_le_mul_add_pred (by omega)]
    omega
  · by_cases h1 : t.ps.length = 1
    · exact .inr h1
    · left
      have h2 := flat_ge (fun i => rowG (pg t i)) 2 (lvV t) fun i hi => by
        rw [rowG_len]
        rcases (ha i hi).2 with e | e
        · exact absurd (e ▸ hi) (root_leaf hv h1)
        · exact e
      rw [← prV_flat] at h2
      show 50 ≤ 100 * (prV t).length / (4 * (lvV t).length)
      rw [Nat.le_div_iff_mul_le (by omega)]
      omega
end Go.V

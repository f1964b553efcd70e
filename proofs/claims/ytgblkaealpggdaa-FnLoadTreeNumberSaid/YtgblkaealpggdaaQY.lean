/- A part of the proofs about laws of the page tree (see the text that bears the law): a small language of steps, its rules, and what the functions of the program return. -/
import Derived.Test.YtgblkaealpggdaaQX
set_option linter.all false
set_option linter.unusedVariables false
set_option linter.unusedSimpArgs false
/-! keys of loaded trees -/
namespace Go.V
theorem lvs_all {xs : List (Int × Int)} : ∀ g ∈ lvsP xs, ∀ k ∈ g.ks, k ∈ keysR xs := fun g hg k hk => by
  obtain ⟨i, _, rfl⟩ := List.mem_map.1 hg
  obtain ⟨y, hy, rfl⟩ := List.mem_map.1 (show k ∈ keysR (cutP xs (nlv xs.length) i) from hk)
  exact List.mem_map.2 ⟨y, List.mem_of_mem_take (List.mem_of_mem_drop hy), rfl⟩
theorem lvs_fk {xs : List (Int × Int)} (hx : xs.length ≤ 24) (h1 : nlv xs.length ≠ 1) : ∀ g ∈ lvsP xs, fk g ∈ keysR xs := fun g hg => by
  have h2 := lvs_all g hg
  obtain ⟨i, hi, rfl⟩ := List.mem_map.1 hg
  have hi' := List.mem_range.1 hi
  have hw := cut_w (m := xs.length) rfl hx h1 hi'
  have hle := cut_le (m := xs.length) (n := nlv xs.length) (i := i + 1) (by omega) (by omega)
  refine h2 _ (nth_mem ?_)
  show 0 < (keysR (cutP xs (nlv xs.length) i)).length
  rw [List.length_map, cutP, List.length_drop, List.length_take]
  omega
theorem load_keys {xs : List (Int × Int)} (hg : goodR xs = true) : ∀ g ∈ (loadT xs).ps, ∀ k ∈ g.ks, (keysR xs).contains k = true := fun g hm k hk => by
  have hx := goodR_len hg
  have hn := (nlv_le hx).1
  rw [List.contains_iff_mem]
  have hm' : g ∈ loadP xs := hm
  unfold loadP at hm'
  have inner : ∀ l : List Pg, (∀ q ∈ l, q ∈ lvsP xs) → nlv xs.length ≠ 1 → k ∈ l.map fk → k ∈ keysR xs := fun l hl h1 hkl => by
    obtain ⟨q, hq, rfl⟩ := List.mem_map.1 hkl
    exact lvs_fk hx h1 q (hl q hq)
  split at hm'
  · exact lvs_all g hm' k hk
  · rename_i h1
    split at hm'
    · rcases List.mem_cons.1 hm' with rfl | h
      · exact inner _ (fun q hq => List.mem_of_mem_drop hq) h1 hk
      · exact lvs_all g h k hk
    · rename_i h5
      have hl : nlv xs.length / 2 < (lvsP xs).length := by simp [lvsP]; omega
      simp only [List.mem_append, List.mem_cons, List.not_mem_nil, or_false] at hm'
      rcases hm' with (((rfl | rfl) | h) | rfl) | h
      · have e : k = fk (nth (lvsP xs) (nlv xs.length / 2)) := List.mem_singleton.1 hk
        rw [e]
        exact lvs_fk hx h1 _ (nth_mem hl)
      · exact inner _ (fun q hq => List.mem_of_mem_take (List.mem_of_mem_drop hq)) h1 hk
      · exact lvs_all g (List.mem_of_mem_take h) k hk
      · exact inner _ (fun q hq => List.mem_of_mem_drop hq) h1 hk
      · exact lvs_all g (List.mem_of_mem_drop h) k hk
end Go.V

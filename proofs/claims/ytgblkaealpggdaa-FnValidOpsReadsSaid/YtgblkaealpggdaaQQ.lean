/- A part of the proofs about laws of the page tree (see the text that bears the law): a small language of steps, its rules, and what the functions of the program return. -/
import Derived.Test.YtgblkaealpggdaaQM
set_option linter.all false
set_option linter.unusedVariables false
set_option linter.unusedSimpArgs false
/-! the order of keys and leaves in a valid tree -/
namespace Go.V
def sIn (xs : List Int) (lo hi : Int) : Prop := xs.Pairwise (· < ·) ∧ ∀ x ∈ xs, lo ≤ x ∧ x < hi
theorem sIn.app {a b : List Int} {lo m hi : Int} (h1 : sIn a lo m) (h2 : sIn b m hi) (hl : lo ≤ m) (hh : m ≤ hi) : sIn (a ++ b) lo hi := by
  refine ⟨List.pairwise_append.2 ⟨h1.1, h2.1, fun x hx y hy => ?_⟩, fun x hx => ?_⟩
  · have := h1.2 x hx; have := h2.2 y hy; omega
  · rcases List.mem_append.1 hx with h | h
    · have := h1.2 x h; omega
    · have := h2.2 x h; omega
theorem sIn.flat {α : Type} [Inhabited α] {cs : List α} {f : α → List Int} {b : Nat → Int} : ∀ {m : Nat}, m ≤ cs.length → (∀ j, j < m → sIn (f (nth cs j)) (b j) (b (j + 1)) ∧ b j ≤ b (j + 1)) → sIn ((cs.take m).flatMap f) (b 0) (b m) ∧ b 0 ≤ b m
  | 0, _, _ => ⟨⟨by simp, by simp⟩, Int.le_refl _⟩
  | m + 1, hm, h => by
    have h1 := sIn.flat (m := m) (by omega) fun j hj => h j (by omega)
    have h2 := h m (by omega)
    rw [flat_take (by omega)]
    exact ⟨h1.1.app h2.1 h1.2 h2.2, by omega⟩
def bnd (p : Pg) (lo hi : Int) (j : Nat) : Int := if j ≤ p.ks.length then frK p lo j else hi
theorem bnd_0 {p : Pg} {lo hi : Int} : bnd p lo hi 0 = lo := by rw [bnd, if_pos (Nat.zero_le _)]; rfl
theorem bnd_at {p : Pg} {lo hi : Int} {j : Nat} (h : j < p.ks.length) : bnd p lo hi (j + 1) = nth p.ks j := by
  rw [bnd, if_pos (by omega), frK, if_neg (by omega)]; rfl
theorem bnd_end {p : Pg} {lo hi : Int} : bnd p lo hi (p.ks.length + 1) = hi := by rw [bnd, if_neg (by omega)]
structure InF (t : Pt) (h : Nat) (i lo hi : Int) : Prop where
  c0 : (pg t i).cs.length ≠ 0
  one : 1 ≤ (pg t i).ks.length
  cl : (pg t i).cs.length = (pg t i).ks.length + 1
  good : goodKeys (pg t i).ks = true
  kin : ∀ j, j < (pg t i).ks.length → lo ≤ nth (pg t i).ks j ∧ nth (pg t i).ks j < hi
  kid : ∀ j, j < (pg t i).cs.length → okT t h (nth (pg t i).cs j) (bnd (pg t i) lo hi j) (bnd (pg t i) lo hi (j + 1)) = true
  step : ∀ j, j < (pg t i).cs.length → bnd (pg t i) lo hi j ≤ bnd (pg t i) lo hi (j + 1)
theorem keysIn_at {ks : List Int} {lo hi : Int} (h : keysIn ks lo hi = true) {j : Nat} (hj : j < ks.length) : lo ≤ nth ks j ∧ nth ks j < hi := by
  simp only [keysIn, List.all_eq_true, Bool.and_eq_true, decide_eq_true_eq] at h
  exact h _ (nth_mem hj)
theorem inF {t : Pt} {h : Nat} {i lo hi : Int} (a : okT t (h + 2) i lo hi = true) : InF t (h + 1) i lo hi := by
  have h1 := (okT_inner (by omega)).1 a
  have hf := h1.1.2.1
  simp only [fillB, fillP, Bool.and_eq_true, decide_eq_true_eq] at hf
  have hc : ¬ (pg t i).cs.length = 0 := by have := h1.2.1; omega
  have h2 := hf.2
  rw [if_neg hc] at h2
  simp only [inB, Bool.and_eq_true, decide_eq_true_eq] at h2
  have hk : ∀ j, j < (pg t i).ks.length → lo ≤ nth (pg t i).ks j ∧ nth (pg t i).ks j < hi := fun j hj => keysIn_at h1.1.2.2 hj
  have hr := rising_iff.1 (good_rising hf.1.1.2)
  refine ⟨hc, h2.1.2, h2.2, hf.1.1.2, hk, fun j hj => ?_, fun j hj => ?_⟩
  · have h3 := h1.2.2 j hj
    have e1 : bnd (pg t i) lo hi j = frK (pg t i) lo j := by rw [bnd, if_pos (by omega)]
    have e2 : bnd (pg t i) lo hi (j + 1) = toK (pg t i) hi j := by
      by_cases e : j < (pg t i).ks.length
      · rw [bnd_at e, toK, if_pos e]
      · rw [show j = (pg t i).ks.length by omega, bnd_end, toK, if_neg (by omega)]
    rw [e1, e2]; exact h3
  · by_cases e : j < (pg t i).ks.length
    · rw [bnd_at e]
      cases j with
      | zero => rw [bnd_0]; exact (hk 0 e).1
      | succ j => rw [bnd_at (by omega)]; have := hr j (by omega); omega
    · have e2 : j = (pg t i).ks.length := by omega
      have := h2.1.2
      rw [e2, bnd_end, show (pg t i).ks.length = ((pg t i).ks.length - 1) + 1 by omega, bnd_at (by omega)]
      have := (hk ((pg t i).ks.length - 1) (by omega)).2
      omega
theorem keys_in {t : Pt} : ∀ {h : Nat} {i lo hi : Int}, okT t h i lo hi = true → sIn ((lvB t h i).flatMap fun x => (pg t x).ks) lo hi
  | 0, _, _, _, a => by simp [okT] at a
  | 1, i, lo, hi, a => by
    have h1 := okT_leaf.1 a
    rw [lvB_leaf h1.2]
    have hf := h1.1.2.1
    simp only [fillB, fillP, Bool.and_eq_true, decide_eq_true_eq] at hf
    have h2 := h1.1.2.2
    simp only [keysIn, List.all_eq_true, Bool.and_eq_true, decide_eq_true_eq] at h2
    simp only [List.flatMap_cons, List.flatMap_nil, List.append_nil]
    exact ⟨rising_pw.1 (good_rising hf.1.1.2), h2⟩
  | h + 2, i, lo, hi, a => by
    have f := inF a
    rw [lvB_inner f.c0, List.flatMap_assoc]
    have h1 := sIn.flat (cs := (pg t i).cs) (f := fun c => (lvB t (h + 1) c).flatMap fun x => (pg t x).ks) (b := bnd (pg t i) lo hi) (m := (pg t i).cs.length) (Nat.le_refl _) fun j hj => ⟨keys_in (f.kid j hj), f.step j hj⟩
    rw [List.take_length, bnd_0, f.cl, bnd_end] at h1
    exact h1.1
theorem keys_good {t : Pt} (hv : validT t = true) : goodKeys (keysR (prV t)) = true := by
  obtain ⟨_, _, h3, _, _⟩ := valid_ok hv
  have h1 := keys_in h3
  have e : keysR (prV t) = (lvB t (hgtT t) t.r).flatMap fun x => (pg t x).ks := by rw [keys_flat, lvV, if_pos hv]; rfl
  rw [← e] at h1
  simp only [goodKeys, Bool.and_eq_true, List.all_eq_true, decide_eq_true_eq]
  exact ⟨rising_pw.2 h1.1, fun k hk => by have := h1.2 k hk; omega⟩
/-! the keys between leaves -/
def sepT (t : Pt) : Nat → Int → List Int
  | 0, _ => []
  | h + 1, i => if (pg t i).cs.length = 0 then [] else ((List.range (pg t i).ks.length).flatMap fun j => sepT t h (nth (pg t i).cs j) ++ [nth (pg t i).ks j]) ++ sepT t h (nth (pg t i).cs (pg t i).ks.length)
end Go.V

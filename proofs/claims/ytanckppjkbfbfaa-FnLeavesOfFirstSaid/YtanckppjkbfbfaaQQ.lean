/- A part of the proofs about laws of the page tree (see the text that bears the law): a small language of steps, its rules, and what the functions of the program return. -/
import Derived.Test.YtanckppjkbfbfaaQM
set_option linter.all false
set_option linter.unusedVariables false
set_option linter.unusedSimpArgs false
/-! the order of keys and leaves in a valid tree -/
namespace Go.V
def sIn (xs : List Int) (lo hi : Int) : Prop := xs.Pairwise (· < ·) ∧ ∀ x ∈ xs, lo ≤ x ∧ x < hi
theorem sIn.app {a b : List Int} {lo m hi : Int} (h1 : sIn a lo m) (h2 : sIn b m hi) (hl : lo ≤ m) (hh : m ≤ hi) : sIn (a ++ b) lo hi := by
  refine ⟨List.pairwise_append.2 ⟨h1.1, h2.1, fun x hx y hy => ?_⟩, fun x hx => ?_⟩
  · have := h1.2 x hx; have := h2.2 y hy; omega
  · rcases List.mem_append.1 hx with h | h
    · have := h1.2 x h; omega
    · have := h2.2 x h; omega
theorem sIn.flat {α : Type} [Inhabited α] {cs : List α} {f : α → List Int} {b : Nat → Int} : ∀ {m : Nat}, m ≤ cs.length → (∀ j, j < m → sIn (f (nth cs j)) (b j) (b (j + 1)) ∧ b j ≤ b (j + 1)) → sIn ((cs.take m).flatMap f) (b 0) (b m) ∧ b 0 ≤ b m
  | 0, _, _ => ⟨⟨by simp, by simp⟩, Int.le_refl _⟩
  | m + 1, hm, h => by
    have h1 := sIn.flat (m := m) (by omega) fun j hj => h j (by omega)
    have h2 := h m (by omega)
    rw [flat_take (by omega)]
    exact ⟨h1.1.app h2.1 h1.2 h2.2, by omega⟩
def bnd (p : Pg) (lo hi : Int) (j : Nat) : Int := if j ≤ p.ks.length then frK p lo j else hi
theorem bnd_0 {p : Pg} {lo hi : Int} : bnd p lo hi 0 = lo := by rw [bnd, if_pos (Nat.zero_le _)]; rfl
theorem bnd_at {p : Pg} {lo hi : Int} {j : Nat} (h : j < p.ks.length) : bnd p lo hi (j + 1) = nth p.ks j := by
  rw [bnd, if_pos (by omega), frK, if_neg (by omega)]; rfl
theorem bnd_end {p : Pg} {lo hi : Int} : bnd p lo hi (p.ks.length + 1) = hi := by rw [bnd, if_neg (by omega)]
structure InF (t : Pt) (h : Nat) (i lo hi : Int) : Prop where
  c0 : (pg t i).cs.length ≠ 0
  one : 1 ≤ (pg t i).ks.length
  cl : (pg t i).cs.length = (pg t i).ks.length + 1
  good : goodKeys (pg t i).ks = true
  kin : ∀ j, j < (pg t i).ks.length → lo ≤ nth (pg t i).ks j ∧ nth (pg t i).ks j < hi
  kid : ∀ j, j < (pg t i).cs.length → okT t h (nth (pg t i).cs j) (bnd (pg t i) lo hi j) (bnd (pg t i) lo hi (j + 1)) = true
  step : ∀ j, j < (pg t i).cs.length → bnd (pg t i) lo hi j ≤ bnd (pg t i) lo hi (j + 1)
theorem keysIn_at {ks : List Int} {lo hi : Int} (h : keysIn ks lo hi = true) {j : Nat} (hj : j < ks.length) : lo ≤ nth ks j ∧ nth ks j < hi := by
  simp only [keysIn, List.all_eq_true, Bool.and_eq_true, decide_eq_true_eq] at h
  exact h _ (nth_mem hj)
theorem inF {t : Pt} {h : Nat} {i lo hi : Int} (a : okT t (h + 2) i lo hi = true) : InF t (h + 1) i lo hi := by
  have h1 := (okT_inner (by omega)).1 a
  have hf := h1.1.2.1
  simp only [fillB, fillP, Bool.and_eq_true, decide_eq_true_eq] at hf
  have hc : ¬ (pg t i).cs.length = 0 := by have := h1.2.1; omega
  have h2 := hf.2
  rw [if_neg hc] at h2
  simp only [inB, Bool.and_eq_true, decide_eq_true_eq] at h2
  have hk : ∀ j, j < (pg t i).ks.length → lo ≤ nth (pg t i).ks j ∧ nth (pg t i).ks j < hi := fun j hj => keysIn_at h1.1.2.2 hj
  have hr := rising_iff.1 (good_rising hf.1.1.2)
  refine ⟨hc, h2.1.2, h2.2, hf.1.1.2, hk, fun j hj => ?_, fun j hj => ?_⟩
  · have h3 := h1.2.2 j hj
    have e1 : bnd (pg t i) lo hi j = frK (pg t i) lo j := by rw [bnd, if_pos (by omega)]
    have e2 : bnd (pg t i) lo hi (j + 1) = toK (pg t i) hi j := by
      by_cases e : j < (pg t i).ks.length
      · rw [bnd_at e, toK, if_pos e]
      · rw [show j = (pg t i).ks.length by omega, bnd_end, toK, if_neg (by omega)]
    rw [e1, e2]; exact h3
  · by_cases e : j < (pg t i).ks.length
    · rw [bnd_at e]
      cases j with
      | zero => rw [bnd_0]; exact (hk 0 e).1
      | succ j => rw [bnd_at (by omega)]; have := hr j (by omega); omega
    · have e2 : j = (pg t i).ks.length := by omega
      have := h2.1.2
      rw [e2, bnd_end, show (pg t i).ks.length = ((pg t i).ks.length - 1) + 1 by omega, bnd_at (by omega)]
      have := (hk ((pg t i).ks.length - 1) (by omega)).2
      omega
theorem keys_in {t : Pt} : ∀ {h : Nat} {i lo hi : Int}, okT t h i lo hi = true → sIn ((lvB t h i).flatMap fun x => (pg t x).ks) lo hi
  | 0, _, _, _, a => by simp [okT] at a
  | 1, i, lo, hi, a => by
    have h1 := okT_leaf.1 a
    rw [lvB_leaf h1.2]
    have hf := h1.1.2.1
    simp only [fillB, fillP, Bool.and_eq_true, decide_eq_true_eq] at hf
    have h2 := h1.1.2.2
    simp only [keysIn, List.all_eq_true, Bool.and_eq_true, decide_eq_true_eq] at h2
    simp only [List.flatMap_cons, List.flatMap_nil, List.append_nil]
    exact ⟨rising_pw.1 (good_rising hf.1.1.2), h2⟩
  | h + 2, i, lo, hi, a => by
    have f := inF a
    rw [lvB_inner f.c0, List.flatMap_assoc]
    have h1 := sIn.flat (cs := (pg t i).cs) (f := fun c => (lvB t (h + 1) c).flatMap fun x => (pg t x).ks) (b := bnd (pg t i) lo hi) (m := (pg t i).cs.length) (Nat.le_refl _) fun j hj => ⟨keys_in (f.kid j hj), f.step j hj⟩
    rw [List.take_length, bnd_0, f.cl, bnd_end] at h1
    exact h1.1
theorem keys_good {t : Pt} (hv : validT t = true) : goodKeys (keysR (prV t)) = true := by
  obtain ⟨_, _, h3, _, _⟩ := valid_ok hv
  have h1 := keys_in h3
  have e : keysR (prV t) = (lvB t (hgtT t) t.r).flatMap fun x => (pg t x).ks := by rw [keys_flat, lvV, if_pos hv]; rfl
  rw [← e] at h1
  simp only [goodKeys, Bool.and_eq_true, List.all_eq_true, decide_eq_true_eq]
  exact ⟨rising_pw.2 h1.1, fun k hk => by have := h1.2 k hk; omega⟩
/-! the keys between leaves -/
def sepT (t : Pt) : Nat → Int → List Int
  | 0, _ => []
  | h + 1, i => if (pg t i).cs.length = 0 then [] else ((List.range (pg t i).ks.length).flatMap fun j => sepT t h (nth (pg t i).cs j) ++ [nth (pg t i).ks j]) ++ sepT t h (nth (pg t i).cs (pg t i).ks.length)
theorem range_part {f : Nat → List Int} {m : Nat} : ∀ {n : Nat}, m ≤ n → ∃ r, (List.range n).flatMap f = (List.range m).flatMap f ++ r
  | 0, h => ⟨[], by rw [show m = 0 by omega]; simp⟩
  | n + 1, h => by
    by_cases e : m = n + 1
    · exact ⟨[], by rw [e]; simp⟩
    · obtain ⟨r, hr⟩ := range_part (f := f) (show m ≤ n by omega)
      exact ⟨r ++ f n, by rw [List.range_succ, List.flatMap_append, hr]; simp⟩
theorem range_succ_flat {f : Nat → List Int} {n : Nat} : (List.range (n + 1)).flatMap f = (List.range n).flatMap f ++ f n := by
  rw [List.range_succ, List.flatMap_append]; simp
theorem flat_range {cs : List Int} {f : Int → List Int} : cs.flatMap f = (List.range cs.length).flatMap fun j => f (nth cs j) := by
  have h : ∀ m, m ≤ cs.length → (cs.take m).flatMap f = (List.range m).flatMap fun j => f (nth cs j) := by
    intro m
    induction m with
    | zero => intro _; simp
    | succ m ih => intro hm; rw [flat_take (by omega), range_succ_flat, ih (by omega)]
  have := h cs.length (Nat.le_refl _)
  rwa [List.take_length] at this
theorem upTo_app {a b : List Int} {k : Int} (h : ∀ x ∈ a, x ≤ k) : upTo (a ++ b) k = a.length + upTo b k := by
  induction a with
  | nil => simp
  | cons x a ih => rw [List.cons_append, upTo_cons_le (h x List.mem_cons_self), ih fun y hy => h y (List.mem_cons_of_mem _ hy)]; simp; omega
theorem upTo_stop {a b : List Int} {x k : Int} (h : k < x) : upTo (a ++ x :: b) k = upTo a k := by
  induction a with
  | nil => rw [List.nil_append, upTo_cons_gt h]; rfl
  | cons y a ih =>
    by_cases e : y ≤ k
    · rw [List.cons_append, upTo_cons_le e, upTo_cons_le e, ih]
    · rw [List.cons_append, upTo_cons_gt (by omega), upTo_cons_gt (by omega)]
theorem sep_law {n : Nat} {f s : Nat → List Int} {ks : List Int} {k lo hi : Int} (hn : ks.length = n) (hg : goodKeys ks = true) (hl : ∀ j, j ≤ n → (f j).length = (s j).length + 1)
    (hb0 : ∀ x ∈ s 0, lo < x) (hlo : ∀ j, j < n → lo < nth ks j) (hhi : ∀ j, j < n → nth ks j < hi) (hbl : ∀ j, j < n → ∀ x ∈ s (j + 1), nth ks j < x) (hbr : ∀ j, j < n → ∀ x ∈ s j, x < nth ks j) (hbe : ∀ x ∈ s n, x < hi) (hp : ∀ j, j ≤ n → (s j).Pairwise (· < ·)) (hlh : lo < hi) :
    let L := (List.range (n + 1)).flatMap f
    let Q := ((List.range n).flatMap fun j => s j ++ [nth ks j]) ++ s n
    L.length = Q.length + 1 ∧ (Q.Pairwise (· < ·) ∧ ∀ x ∈ Q, lo < x ∧ x < hi) ∧ nth L (upTo Q k) = nth (f (upTo ks k)) (upTo (s (upTo ks k)) k) := by
  intro L Q
  have hr := good_rising hg
  have hlen : ∀ m, m ≤ n → ((List.range m).flatMap f).length = ((List.range m).flatMap fun j => s j ++ [nth ks j]).length := by
    intro m
    induction m with
    | zero => intro _; rfl
    | succ m ih => intro hm; rw [range_succ_flat, range_succ_flat, List.length_append, List.length_append, ih (by omega), List.length_append, hl m (by omega)]; rfl
  -- the parts up to kid m
  have hS : ∀ m, m ≤ n → ((List.range m).flatMap fun j => s j ++ [nth ks j]).Pairwise (· < ·) ∧ ∀ x ∈ ((List.range m).flatMap fun j => s j ++ [nth ks j]), lo < x ∧ ∃ q, q < m ∧ x ≤ nth ks q := by
    intro m
    induction m with
    | zero => intro _; exact ⟨by simp, by simp⟩
    | succ m ih =>
      intro hm
      obtain ⟨i1, i2⟩ := ih (by omega)
      have hsm : ∀ x ∈ s m, lo < x ∧ ∀ q, q < m → nth ks q < x := by
        intro x hx
        cases m with
        | zero => exact ⟨hb0 x hx, fun q hq => by omega⟩
        | succ m =>
          have h1 := hbl m (by omega) x hx
          have h2 := hlo m (by omega)
          refine ⟨by omega, fun q hq => ?_⟩
          have := rising_le hr (a := q) (b := m) (by omega) (by omega)
          omega
      rw [range_succ_flat]
      refine ⟨List.pairwise_append.2 ⟨i1, List.pairwise_append.2 ⟨hp m (by omega), by simp, fun x hx y hy => ?_⟩, fun x hx y hy => ?_⟩, fun x hx => ?_⟩
      · rw [List.mem_singleton.1 hy]; exact hbr m (by omega) x hx
      · obtain ⟨_, q, hq, hxq⟩ := i2 x hx
        rcases List.mem_append.1 hy with hy | hy
        · have := (hsm y hy).2 q hq; omega
        · rw [List.mem_singleton.1 hy]
          have := rising_iff.1 hr q (by omega)
          have := rising_le hr (a := q + 1) (b := m) (by omega) (by omega)
          omega
      · rcases List.mem_append.1 hx with hx | hx
        · obtain ⟨h1, q, hq, hxq⟩ := i2 x hx
          exact ⟨h1, q, by omega, hxq⟩
        · rcases List.mem_append.1 hx with hx | hx
          · exact ⟨(hsm x hx).1, m, by omega, by have := hbr m (by omega) x hx; omega⟩
          · rw [List.mem_singleton.1 hx]; exact ⟨hlo m (by omega), m, by omega, Int.le_refl _⟩
  have hsn : ∀ x ∈ s n, lo < x ∧ ∀ q, q < n → nth ks q < x := by
    intro x hx
    cases n with
    | zero => exact ⟨hb0 x hx, fun q hq => by omega⟩
    | succ m =>
      have h1 := hbl m (by omega) x hx
      have h2 := hlo m (by omega)
      refine ⟨by omega, fun q hq => ?_⟩
      have := rising_le hr (a := q) (b := m) (by omega) (by omega)
      omega
  have hj := upTo_le ks k
  have hle : ∀ x ∈ ((List.range (upTo ks k)).flatMap fun j => s j ++ [nth ks j]), x ≤ k := fun x hx => by
    obtain ⟨_, q, hq, hxq⟩ := (hS (upTo ks k) (by omega)).2 x hx
    have := upTo_lt hq
    omega
  refine ⟨?_, ⟨List.pairwise_append.2 ⟨(hS n (Nat.le_refl _)).1, hp n (Nat.le_refl _), fun x hx y hy => ?_⟩, fun x hx => ?_⟩, ?_⟩
  · show ((List.range (n + 1)).flatMap f).length = _
    rw [range_succ_flat, List.length_append, hlen n (Nat.le_refl _), hl n (Nat.le_refl _), List.length_append]; omega
  · obtain ⟨_, q, hq, hxq⟩ := (hS n (Nat.le_refl _)).2 x hx
    have := (hsn y hy).2 q hq; omega
  · rcases List.mem_append.1 hx with hx | hx
    · obtain ⟨h1, q, hq, hxq⟩ := (hS n (Nat.le_refl _)).2 x hx
      have := hhi q hq
      exact ⟨h1, by omega⟩
    · exact ⟨(hsn x hx).1, hbe x hx⟩
  · have hub : upTo Q k = ((List.range (upTo ks k)).flatMap fun j => s j ++ [nth ks j]).length + upTo (s (upTo ks k)) k := by
      show upTo (((List.range n).flatMap fun j => s j ++ [nth ks j]) ++ s n) k = _
      by_cases e : upTo ks k = n
      · rw [e] at hle ⊢
        exact upTo_app hle
      · obtain ⟨r, hr2⟩ := range_part (f := fun j => s j ++ [nth ks j]) (show upTo ks k + 1 ≤ n by omega)
        rw [hr2, range_succ_flat, List.append_assoc, List.append_assoc, List.append_assoc, upTo_app hle]
        congr 1
        show upTo (s (upTo ks k) ++ nth ks (upTo ks k) :: (r ++ s n)) k = _
        exact upTo_stop (upTo_at (by omega))
    rw [hub, ← hlen _ (by omega)]
    obtain ⟨r, hr2⟩ := range_part (f := f) (show upTo ks k + 1 ≤ n + 1 by omega)
    show nth ((List.range (n + 1)).flatMap f) _ = _
    have hlt : upTo (s (upTo ks k)) k < (f (upTo ks k)).length := by have := upTo_le (s (upTo ks k)) k; have := hl (upTo ks k) (by omega); omega
    rw [hr2, range_succ_flat, List.append_assoc]
    unfold nth
    rw [List.getD_eq_getElem?_getD, List.getD_eq_getElem?_getD, List.getElem?_append_right (by omega), Nat.add_sub_cancel_left, List.getElem?_append_left hlt]
end Go.V

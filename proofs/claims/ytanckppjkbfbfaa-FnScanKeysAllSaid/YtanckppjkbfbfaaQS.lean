/- A part of the proofs about laws of the page tree (see the text that bears the law): a small language of steps, its rules, and what the functions of the program return. -/
import Derived.Test.YtanckppjkbfbfaaQR
set_option linter.all false
set_option linter.unusedVariables false
set_option linter.unusedSimpArgs false
/-! next keys, ranks, ranges of keys -/
namespace Go.V
def nxtK (K : List Int) (k : Int) : Int := if upTo K k < K.length then nth K (upTo K k) else -1
theorem key_rg {K : List Int} (hg : goodKeys K = true) {i : Nat} (hi : i < K.length) : 0 ≤ nth K i ∧ nth K i ≤ 99 := by
  simp only [goodKeys, Bool.and_eq_true, List.all_eq_true, decide_eq_true_eq] at hg
  have := hg.2 _ (nth_mem hi)
  omega
def befK (K : List Int) (i : Nat) : Int := if i = 0 then -1 else nth K (i - 1)
/-! ranges -/
def inR2 (a b : Int) (x : Int × Int) : Bool := decide (a ≤ x.1) && decide (x.1 < b)
def scnL (L : List (Int × Int)) (a b : Int) : List (Int × Int) := L.filter (inR2 a b)
def scn (L : List (Int × Int)) (a b m : Int) : List (Int × Int) := (scnL L a b).take m.toNat
theorem scn_len {L : List (Int × Int)} {a b m : Int} : (scn L a b m).length ≤ L.length := by
  rw [scn, List.length_take]
  have := List.length_filter_le (inR2 a b) L
  unfold scnL; omega
theorem scnL_len {L : List (Int × Int)} {a b : Int} : (scnL L a b).length ≤ L.length := List.length_filter_le _ L
theorem scnL_succ {L : List (Int × Int)} {a b : Int} {i : Nat} (h : i < L.length) : scnL (L.take (i + 1)) a b = scnL (L.take i) a b ++ (if inR2 a b (nth L i) then [nth L i] else []) := by
  rw [take_succ_nth h, scnL, List.filter_append]
  cases hl : inR2 a b (nth L i) <;> simp [hl, scnL]
theorem scnL_yes {L : List (Int × Int)} {a b : Int} {i : Nat} (h : i < L.length) (h1 : a ≤ (nth L i).1) (h2 : (nth L i).1 < b) : scnL (L.take (i + 1)) a b = scnL (L.take i) a b ++ [nth L i] := by
  rw [scnL_succ h, inR2, decide_eq_true h1, decide_eq_true h2]; rfl
theorem scnL_no {L : List (Int × Int)} {a b : Int} {i : Nat} (h : i < L.length) (h1 : ¬ (a ≤ (nth L i).1 ∧ (nth L i).1 < b)) : scnL (L.take (i + 1)) a b = scnL (L.take i) a b := by
  have e : inR2 a b (nth L i) = false := by simp only [inR2, Bool.and_eq_false_iff, decide_eq_false_iff_not]; omega
  rw [scnL_succ h, e]; exact List.append_nil _
theorem scn_part {L : List (Int × Int)} {a b m : Int} {i : Nat} {xs : List (Int × Int)} (h1 : xs = scnL (L.take i) a b) (h2 : xs.length ≤ m.toNat) (h3 : m ≤ xs.length) : xs = scn L a b m := by
  have e : scnL L a b = xs ++ scnL (L.drop i) a b := by rw [h1, scnL, scnL, scnL, ← List.filter_append, List.take_append_drop]
  rw [scn, e, List.take_append_of_le_length (by omega), List.take_of_length_le (by omega)]
theorem scn_end {L : List (Int × Int)} {a b m : Int} {i : Nat} {xs : List (Int × Int)} (h1 : xs = scnL (L.take i) a b) (h2 : xs.length ≤ m.toNat) (h3 : L.length ≤ i) : xs = scn L a b m := by
  rw [List.take_of_length_le h3] at h1
  rw [scn, ← h1, List.take_of_length_le h2]
theorem keysR_nth' {L : List (Int × Int)} {i : Nat} (h : i < L.length) : nth (keysR L) i = (nth L i).1 := by
  rw [nth_eq (by simpa using h), nth_eq h]; simp
theorem scn_stop {L : List (Int × Int)} (hg : goodKeys (keysR L) = true) {a b m : Int} {i : Nat} {xs : List (Int × Int)} (h1 : xs = scnL (L.take i) a b) (h2 : xs.length ≤ m.toNat) (hi : i < L.length) (h3 : b ≤ (nth L i).1) : xs = scn L a b m := by
  have e : scnL L a b = xs := by
    have e0 : scnL L a b = xs ++ scnL (L.drop i) a b := by rw [h1, scnL, scnL, scnL, ← List.filter_append, List.take_append_drop]
    have e1 : scnL (L.drop i) a b = [] := by
      rw [scnL, List.filter_eq_nil_iff]
      intro x hx
      obtain ⟨j, hj, rfl⟩ := List.getElem_of_mem hx
      rw [List.length_drop] at hj
      rw [List.getElem_drop]
      have := rising_le (good_rising hg) (a := i) (b := i + j) (by omega) (by simp; omega)
      rw [keysR_nth' hi, keysR_nth' (by omega), nth_eq (show i + j < L.length by omega)] at this
      simp only [inR2, Bool.and_eq_true, decide_eq_true_eq]
      omega
    rw [e0, e1, List.append_nil]
  rw [scn, e, List.take_of_length_le h2]
theorem scn_cut {L : List (Int × Int)} {a b m : Int} {F : List (Int × Int)} (h : F = scnL L a b) : F.take (max 0 (min m (F.length : Int))).toNat = scn L a b m := by
  rw [scn, ← h]
  by_cases e : m < 0
  · rw [show (max 0 (min m (F.length : Int))).toNat = 0 by omega, show m.toNat = 0 by omega]
  · by_cases e2 : m ≤ F.length
    · rw [show (max 0 (min m (F.length : Int))).toNat = m.toNat by omega]
    · rw [show (max 0 (min m (F.length : Int))).toNat = F.length by omega, List.take_of_length_le (by omega), List.take_of_length_le (by omega)]
theorem scn_less {L : List (Int × Int)} {a b m : Int} (n : Nat) (h : n + 1 = (scn L a b m).length) : scn L a b (n : Int) = (scn L a b m).take n := by
  rw [scn, scn, List.take_take, Int.toNat_natCast]
  congr 1
  have : n + 1 ≤ m.toNat := by rw [h, scn, List.length_take]; omega
  omega
theorem scn_none {L : List (Int × Int)} {b m : Int} : scn L b b m = [] := by
  have : scnL L b b = [] := by
    rw [scnL, List.filter_eq_nil_iff]
    intro x _
    simp only [inR2, Bool.and_eq_true, decide_eq_true_eq]
    omega
  rw [scn, this, List.take_nil]
theorem row_rg {L : List (Int × Int)} (hg : goodKeys (keysR L) = true) : ∀ x ∈ L, 0 ≤ x.1 ∧ x.1 < 100 := fun x hx => by
  simp only [goodKeys, Bool.and_eq_true, List.all_eq_true, decide_eq_true_eq] at hg
  have := hg.2 x.1 (List.mem_map.2 ⟨x, hx, rfl⟩)
  omega
theorem scn_all {L : List (Int × Int)} (hg : goodKeys (keysR L) = true) (hl : L.length ≤ 64) : scn L 0 100 1000 = L := by
  have : scnL L 0 100 = L := by
    rw [scnL, List.filter_eq_self]
    intro x hx
    have := row_rg hg x hx
    simp only [inR2, Bool.and_eq_true, decide_eq_true_eq]
    omega
  rw [scn, this, List.take_of_length_le]
  show L.length ≤ 1000
  omega
theorem filter_lt : ∀ {L : List (Int × Int)}, (L.map (·.1)).Pairwise (· < ·) → ∀ c : Int, L.filter (fun x => decide (x.1 < c)) ++ L.filter (fun x => decide (c ≤ x.1)) = L
  | [], _, _ => rfl
  | x :: L, h, c => by
    rw [List.map_cons, List.pairwise_cons] at h
    by_cases e : x.1 < c
    · rw [List.filter_cons_of_pos (by simpa using e), List.filter_cons_of_neg (by simp; omega), List.cons_append, filter_lt h.2 c]
    · rw [List.filter_cons_of_neg (by simpa using e), List.filter_cons_of_pos (by simp; omega)]
      have h1 : L.filter (fun x => decide (x.1 < c)) = [] := by
        rw [List.filter_eq_nil_iff]
        intro y hy
        have := h.1 y.1 (List.mem_map.2 ⟨y, hy, rfl⟩)
        simp; omega
      have h2 : L.filter (fun x => decide (c ≤ x.1)) = L := by
        rw [List.filter_eq_self]
        intro y hy
        have := h.1 y.1 (List.mem_map.2 ⟨y, hy, rfl⟩)
        simp; omega
      rw [h1, h2]; rfl
theorem scn_two {L : List (Int × Int)} (hg : goodKeys (keysR L) = true) (hl : L.length ≤ 64) : scn L 0 50 1000 ++ scn L 50 100 1000 = L := by
  have e1 : scnL L 0 50 = L.filter (fun x => decide (x.1 < 50)) := List.filter_congr fun x hx => by
    have := row_rg hg x hx
    rw [inR2, decide_eq_true this.1]; rfl
  have e2 : scnL L 50 100 = L.filter (fun x => decide (50 ≤ x.1)) := List.filter_congr fun x hx => by
    have := row_rg hg x hx
    rw [inR2, decide_eq_true this.2, Bool.and_true]
  have l1 := scnL_len (L := L) (a := 0) (b := 50)
  have l2 := scnL_len (L := L) (a := 50) (b := 100)
  rw [scn, scn, List.take_of_length_le (by show _ ≤ 1000; omega), List.take_of_length_le (by show _ ≤ 1000; omega), e1, e2]
  exact filter_lt (rising_pw.1 (good_rising hg)) 50
end Go.V
namespace Go.V
theorem keysV_len {t : Pt} : (keysR (prV t)).length ≤ 64 := by rw [List.length_map]; exact prV_len
theorem prV_not {t : Pt} (h : validT t = false) : prV t = [] := by rw [prV, h]; rfl
theorem keysV_bd {t : Pt} : bdI 1000000000 (keysR (prV t)) := by
  cases h : validT t
  · rw [prV_not h]; exact bdI.nil
  · exact fun k hk => by have := key_rg (keys_good h) hk; omega
end Go.V
namespace Go.V
theorem keysV_good {t : Pt} : goodKeys (keysR (prV t)) = true := by
  cases h : validT t
  · rw [prV_not h]; rfl
  · exact keys_good h
def sepV (t : Pt) : List Int := sepT t (hgtT t) t.r
structure LfF (t : Pt) : Prop where
  len : (lvV t).length = (sepV t).length + 1
  good : goodKeys (sepV t) = true
  nd : (lvV t).Nodup
  at_ : ∀ k, nth (pthT t k) ((pthT t k).length - 1) = nth (lvV t) (upTo (sepV t) k)
  nxt : ∀ k, upTo (sepV t) (k + 1) = upTo (sepV t) k ∨ upTo (sepV t) (k + 1) = upTo (sepV t) k + 1
  fst : nth (lvV t) 0 = nth (pthT t 0) ((pthT t 0).length - 1)
  lst : nth (lvV t) ((lvV t).length - 1) = nth (pthT t 99) ((pthT t 99).length - 1)
end Go.V

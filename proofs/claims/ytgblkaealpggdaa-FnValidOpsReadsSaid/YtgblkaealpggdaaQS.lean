/- A part of the proofs about laws of the page tree (see the text that bears the law): a small language of steps, its rules, and what the functions of the program return. -/
import Derived.Test.YtgblkaealpggdaaQR
set_option linter.all false
set_option linter.unusedVariables false
set_option linter.unusedSimpArgs false
/-! next keys, ranks, ranges of keys -/
namespace Go.V
def nxtK (K : List Int) (k : Int) : Int := if upTo K k < K.length then nth K (upTo K k) else -1
theorem key_rg {K : List Int} (hg : goodKeys K = true) {i : Nat} (hi : i < K.length) : 0 ≤ nth K i ∧ nth K i ≤ 99 := by
  simp only [goodKeys, Bool.and_eq_true, List.all_eq_true, decide_eq_true_eq] at hg
  have := hg.2 _ (nth_mem hi)
  omega
def befK (K : List Int) (i : Nat) : Int := if i = 0 then -1 else nth K (i - 1)
/-! ranges -/
def inR2 (a b : Int) (x : Int × Int) : Bool := decide (a ≤ x.1) && decide (x.1 < b)
def scnL (L : List (Int × Int)) (a b : Int) : List (Int × Int) := L.filter (inR2 a b)
def scn (L : List (Int × Int)) (a b m : Int) : List (Int × Int) := (scnL L a b).take m.toNat
end Go.V
namespace Go.V
theorem keysV_len {t : Pt} : (keysR (prV t)).length ≤ 64 := by rw [List.length_map]; exact prV_len
theorem prV_not {t : Pt} (h : validT t = false) : prV t = [] := by rw [prV, h]; rfl
theorem keysV_bd {t : Pt} : bdI 1000000000 (keysR (prV t)) := by
  cases h : validT t
  · rw [prV_not h]; exact bdI.nil
  · exact fun k hk => by have := key_rg (keys_good h) hk; omega
end Go.V
namespace Go.V
def sepV (t : Pt) : List Int := sepT t (hgtT t) t.r
structure LfF (t : Pt) : Prop where
  len : (lvV t).length = (sepV t).length + 1
  good : goodKeys (sepV t) = true
  nd : (lvV t).Nodup
  at_ : ∀ k, nth (pthT t k) ((pthT t k).length - 1) = nth (lvV t) (upTo (sepV t) k)
  nxt : ∀ k, upTo (sepV t) (k + 1) = upTo (sepV t) k ∨ upTo (sepV t) (k + 1) = upTo (sepV t) k + 1
  fst : nth (lvV t) 0 = nth (pthT t 0) ((pthT t 0).length - 1)
  lst : nth (lvV t) ((lvV t).length - 1) = nth (pthT t 99) ((pthT t 99).length - 1)
end Go.V

/- A part of the proofs about laws of the page tree (see the text that bears the law): a small language of steps, its rules, and what the functions of the program return. -/
import Derived.Test.YtgblkaealpggdaaQM
set_option linter.all false
set_option linter.unusedVariables false
set_option linter.unusedSimpArgs false
/-! the order of keys and leaves in a valid tree -/
namespace Go.V
def sIn (xs : List Int) (lo hi : Int) : Prop := xs.Pairwise (· < ·) ∧ ∀ x ∈ xs, lo ≤ x ∧ x < hi
theorem sIn.app {a b : List Int} {lo m hi : Int} (h1 : sIn a lo m) (h2 : sIn b m hi) (hl : lo ≤ m) (hh : m ≤ hi) : sIn (a ++ b) lo hi := by
  refine ⟨List.pairwise_append.2 ⟨h1.1, h2.1, fun x hx y hy => ?_⟩, fun x hx => ?_⟩
  · have := h1.2 x hx; have := h2.2 y hy; omega
  · rcases List.mem_append.1 hx with h | h
    · have := h1.2 x h; omega
    · have := h2.2 x h; omega
def bnd (p : Pg) (lo hi : Int) (j : Nat) : Int := if j ≤ p.ks.length then frK p lo j else hi
structure InF (t : Pt) (h : Nat) (i lo hi : Int) : Prop where
  c0 : (pg t i).cs.length ≠ 0
  one : 1 ≤ (pg t i).ks.length
  cl : (pg t i).cs.length = (pg t i).ks.length + 1
  good : goodKeys (pg t i).ks = true
  kin : ∀ j, j < (pg t i).ks.length → lo ≤ nth (pg t i).ks j ∧ nth (pg t i).ks j < hi
  kid : ∀ j, j < (pg t i).cs.length → okT t h (nth (pg t i).cs j) (bnd (pg t i) lo hi j) (bnd (pg t i) lo hi (j + 1)) = true
  step : ∀ j, j < (pg t i).cs.length → bnd (pg t i) lo hi j ≤ bnd (pg t i) lo hi (j + 1)
/-! the keys between leaves -/
def sepT (t : Pt) : Nat → Int → List Int
  | 0, _ => []
  | h + 1, i => if (pg t i).cs.length = 0 then [] else ((List.range (pg t i).ks.length).flatMap fun j => sepT t h (nth (pg t i).cs j) ++ [nth (pg t i).ks j]) ++ sepT t h (nth (pg t i).cs (pg t i).ks.length)
end Go.V

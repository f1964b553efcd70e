/- A part of the proofs about laws of the page tree (see the text that bears the law): a small language of steps, its rules, and what the functions of the program return. -/
import Derived.Test.YtgblkaealpggdaaQH
set_option linter.all false
set_option linter.unusedVariables false
set_option linter.unusedSimpArgs false
namespace Go.V
/-! the first and the last step of a drop -/
abbrev dropQ (t : Pt) (k : Int) (xs : List (Int × Int)) : Pt := ⟨t.r, t.ps.set (leafAt t k).toNat (leafG xs)⟩
/-! trees that can be read -/
structure SafeT (t : Pt) : Prop where
  many : 1 ≤ t.ps.length ∧ t.ps.length ≤ 16
  bd : ∀ i, i < t.ps.length → pgB 100 (nth t.ps i)
  wk : ∃ h, wkT t h t.r = true ∧ (wlk t h t.r).length ≤ 216
  rows : rowsOK t
theorem SafeT.small {t : Pt} (h : SafeT t) : smallT t := ⟨by have := h.many; omega, fun i h0 h2 => by
  have k := (h.bd i.toNat (by omega)).ln
  have e : pg t i = nth t.ps i.toNat := rfl
  rw [e]; omega⟩
theorem pgB.le {a b : Int} {p : Pg} (h : pgB a p) (hab : a ≤ b) : pgB b p := ⟨h.ln, h.ks, fun x hx => by have := h.cs x hx; omega, h.vs⟩
end Go.V

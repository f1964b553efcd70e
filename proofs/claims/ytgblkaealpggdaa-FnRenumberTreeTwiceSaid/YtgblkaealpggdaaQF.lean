/- A part of the proofs about laws of the page tree (see the text that bears the law): a small language of steps, its rules, and what the functions of the program return. -/
import Derived.Test.YtgblkaealpggdaaQE
set_option linter.all false
set_option linter.unusedVariables false
set_option linter.unusedSimpArgs false
namespace Go.V
/-! two pages that are mended -/
abbrev mU (t : Pt) (up : Nat) : Pg := nth t.ps up
abbrev mA (t : Pt) (up f : Nat) : Int := nth (mU t up).cs f
abbrev mB (t : Pt) (up f : Nat) : Int := nth (mU t up).cs (f + 1)
abbrev mPA (t : Pt) (up f : Nat) : Pg := nth t.ps (mA t up f).toNat
abbrev mPB (t : Pt) (up f : Nat) : Pg := nth t.ps (mB t up f).toNat
def mRow (t : Pt) (up f : Nat) : List (Int × Int) := rowG (mPA t up f) ++ rowG (mPB t up f)
def mKs (t : Pt) (up f : Nat) : List Int := (mPA t up f).ks ++ [nth (mU t up).ks f] ++ (mPB t up f).ks
def mCs (t : Pt) (up f : Nat) : List Int := (mPA t up f).cs ++ (mPB t up f).cs
abbrev cutG (U : Pg) (m : Nat) : Pg := ⟨U.ks.take (m - 1) ++ U.ks.drop m, U.cs.take m ++ U.cs.drop (m + 1), []⟩
abbrev keyG (U : Pg) (f : Nat) (k : Int) : Pg := ⟨U.ks.set f k, U.cs, U.vs⟩
abbrev halfM (t : Pt) (up f : Nat) : Nat := ((mRow t up f).length + 1) / 2
def mendP (t : Pt) (up f : Nat) : List Pg :=
  if (mPA t up f).cs.length = 0 then
    if (mRow t up f).length ≤ 4 then (t.ps.set (mA t up f).toNat (leafG (mRow t up f))).set up (cutG (mU t up) (f + 1))
    else ((t.ps.set (mA t up f).toNat (leafG ((mRow t up f).take (halfM t up f)))).set (mB t up f).toNat (leafG ((mRow t up f).drop (halfM t up f)))).set up (keyG (mU t up) f (nth (mRow t up f) (halfM t up f)).1)
  else
    if (mKs t up f).length ≤ 4 then (t.ps.set (mA t up f).toNat ⟨mKs t up f, mCs t up f, []⟩).set up (cutG (mU t up) (f + 1))
    else ((t.ps.set (mA t up f).toNat ⟨(mKs t up f).take (halfI (mKs t up f)), (mCs t up f).take (halfI (mKs t up f) + 1), []⟩).set (mB t up f).toNat ⟨(mKs t up f).drop (halfI (mKs t up f) + 1), (mCs t up f).drop (halfI (mKs t up f) + 1), []⟩).set up (keyG (mU t up) f (nth (mKs t up f) (halfI (mKs t up f))))
def mJoin (t : Pt) (up f : Nat) : Bool := if (mPA t up f).cs.length = 0 then decide ((mRow t up f).length ≤ 4) else decide ((mKs t up f).length ≤ 4)
def mendG (t : Pt) (up f : Nat) : Int := if mJoin t up f then mB t up f else -1
def mendT (t : Pt) (up f : Nat) : Pt := ⟨t.r, mendP t up f⟩
structure MendOK (t : Pt) (up f : Nat) : Prop where
  hup : up < t.ps.length
  hU : (mU t up).cs.length = (mU t up).ks.length + 1 ∧ f + 1 < (mU t up).cs.length
  ha : 0 ≤ mA t up f ∧ mA t up f < t.ps.length
  hb : 0 ≤ mB t up f ∧ mB t up f < t.ps.length
  hau : (mA t up f).toNat ≠ up
  hbu : (mB t up f).toNat ≠ up
  many : t.ps.length ≤ 1000
  small : ∀ i, i < t.ps.length → (nth t.ps i).ks.length ≤ 1000 ∧ (nth t.ps i).cs.length ≤ 1000 ∧ (nth t.ps i).vs.length ≤ 1000
  leaf : (mPA t up f).cs.length = 0 → (mPA t up f).ks.length ≤ (mPA t up f).vs.length ∧ (mPB t up f).ks.length ≤ (mPB t up f).vs.length
  inner : (mPA t up f).cs.length ≠ 0 → (mPA t up f).cs.length = (mPA t up f).ks.length + 1 ∧ (mPB t up f).cs.length = (mPB t up f).ks.length + 1
theorem MendOK.smallT {t : Pt} {up f : Nat} (h : MendOK t up f) : smallT t := ⟨by have := h.many; omega, fun i h0 h2 => by
  have := h.small i.toNat (by omega)
  have e : pg t i = nth t.ps i.toNat := rfl
  rw [e]; omega⟩
theorem mRow_len {t : Pt} {up f : Nat} : (mRow t up f).length = (mPA t up f).ks.length + (mPB t up f).ks.length := by
  rw [mRow, List.length_append, rowG_len, rowG_len]
theorem mKs_len {t : Pt} {up f : Nat} : (mKs t up f).length = (mPA t up f).ks.length + 1 + (mPB t up f).ks.length := by simp [mKs]; omega
theorem mCs_len {t : Pt} {up f : Nat} : (mCs t up f).length = (mPA t up f).cs.length + (mPB t up f).cs.length := by simp [mCs]
theorem mU_set1 {t : Pt} {up i : Nat} {g : Pg} (h : up < t.ps.length) (hi : i ≠ up) : nth (t.ps.set i g) up = mU t up := by rw [nth_set h, if_neg hi]
theorem mU_set2 {t : Pt} {up i j : Nat} {g g' : Pg} (h : up < t.ps.length) (hi : i ≠ up) (hj : j ≠ up) : nth ((t.ps.set i g).set j g') up = mU t up := by rw [nth_set (by simpa using h), if_neg hj, mU_set1 h hi]
end Go.V

/- A part of the proofs about laws of the page tree (see the text that bears the law): a small language of steps, its rules, and what the functions of the program return. -/
import Derived.Test.YtanckppjkbfbfaaQQ
set_option linter.all false
set_option linter.unusedVariables false
set_option linter.unusedSimpArgs false
/-! the leaf for a key, by the keys between leaves -/
namespace Go.V
structure SepF (t : Pt) (h : Nat) (i lo hi : Int) : Prop where
  len : (lvB t h i).length = (sepT t h i).length + 1
  pw : (sepT t h i).Pairwise (· < ·)
  inn : ∀ x ∈ sepT t h i, lo < x ∧ x < hi
  last : ∀ k, (pth t k h i).length = h ∧ nth (pth t k h i) (h - 1) = nth (lvB t h i) (upTo (sepT t h i) k)
theorem pth_chain {t : Pt} (hr : ∀ x, inT t x = true → (pg t x).cs.length ≠ 0 → goodInner (pg t x).ks (pg t x).cs = true) {k : Int} : ∀ {h : Nat} {i lo hi : Int}, okT t h i lo hi = true → (pth t k h i).length = h ∧ nth (pth t k h i) 0 = i ∧ ∀ j, j < h → inT t (nth (pth t k h i) j) = true ∧ (0 < j → (pg t (nth (pth t k h i) (j - 1))).cs.contains (nth (pth t k h i) j) = true)
  | 0, _, _, _, a => by simp [okT] at a
  | 1, i, lo, hi, a => by
    have h1 := okT_leaf.1 a
    rw [pth_leaf h1.2]
    refine ⟨rfl, rfl, fun j hj => ?_⟩
    obtain rfl : j = 0 := by omega
    exact ⟨h1.1.1, fun h => by omega⟩
  | h + 2, i, lo, hi, a => by
    have f := inF a
    have hu := upTo_le (pg t i).ks k
    have hj : upTo (pg t i).ks k < (pg t i).cs.length := by rw [f.cl]; omega
    have ih := pth_chain hr (k := k) (f.kid _ hj)
    rw [pth_inner f.c0]
    refine ⟨by rw [List.length_cons, ih.1], rfl, fun j hj' => ?_⟩
    cases j with
    | zero => exact ⟨(okT_top a).2.1, fun h => by omega⟩
    | succ j =>
      refine ⟨(ih.2.2 j (by omega)).1, fun _ => ?_⟩
      show (pg t (nth (i :: pth t k (h + 1) (nth (pg t i).cs (upTo (pg t i).ks k))) j)).cs.contains (nth (pth t k (h + 1) (nth (pg t i).cs (upTo (pg t i).ks k))) j) = true
      cases j with
      | zero =>
        rw [ih.2.1]
        show (pg t i).cs.contains _ = true
        exact List.contains_iff_mem.2 (nth_mem hj)
      | succ j => exact (ih.2.2 (j + 1) (by omega)).2 (by omega)
theorem path_chain {t : Pt} (hv : validT t = true) (k : Int) : (pthT t k).length = hgtT t ∧ nth (pthT t k) 0 = t.r ∧ ∀ j, j < hgtT t → (0 ≤ nth (pthT t k) j ∧ nth (pthT t k) j < t.ps.length) ∧ (0 < j → (pg t (nth (pthT t k) (j - 1))).cs.contains (nth (pthT t k) j) = true) := by
  have h := pth_chain (fun x hx hc => inner_good hv hx hc) (k := k) (valid_ok hv).2.2.1
  exact ⟨h.1, h.2.1, fun j hj => ⟨inT_iff.1 (h.2.2 j hj).1, (h.2.2 j hj).2⟩⟩
end Go.V
namespace Go.V
theorem q_idx_at {P : Program} {sf : SM} {r : RT} {L : List (Nat × D)} {S : Store} {K : Env → Store → Prop} {t : Nat} {α : Type} [Inhabited α] {sz : Nat} {x i : Opd} {f : α → PV} {xs : List α} {k : IntKind} {m : Nat}
    (hx : ev (env L) x = .pv (.sl (xs.map f))) (hi : ev (env L) i = .pv (.int k (m : Int))) (h1 : m < xs.length) (hsz : ∀ a, (f a).nc = sz)
    (h : RG P sf r (env ((t, .pv (.con (f (nth xs m)))) :: L)) S K) : RG P sf (.op ⟨some t, none, .idx sz x i⟩ r) (env L) S K :=
  q_idx_m (n := (m : Int)) hx hi (by omega) (by omega) hsz h
end Go.V

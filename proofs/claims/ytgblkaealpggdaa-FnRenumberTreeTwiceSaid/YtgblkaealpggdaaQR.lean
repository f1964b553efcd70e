/- A part of the proofs about laws of the page tree (see the text that bears the law): a small language of steps, its rules, and what the functions of the program return. -/
import Derived.Test.YtgblkaealpggdaaQQ
set_option linter.all false
set_option linter.unusedVariables false
set_option linter.unusedSimpArgs false
/-! the leaf for a key, by the keys between leaves -/
namespace Go.V
structure SepF (t : Pt) (h : Nat) (i lo hi : Int) : Prop where
  len : (lvB t h i).length = (sepT t h i).length + 1
  pw : (sepT t h i).Pairwise (· < ·)
  inn : ∀ x ∈ sepT t h i, lo < x ∧ x < hi
  last : ∀ k, (pth t k h i).length = h ∧ nth (pth t k h i) (h - 1) = nth (lvB t h i) (upTo (sepT t h i) k)
theorem nodup_at {L : List Int} (h : L.Nodup) {i j : Nat} (hi : i < L.length) (hj : j < L.length) : nth L i = nth L j ↔ i = j := by
  rw [nth_eq hi, nth_eq hj]
  exact ⟨fun e => (List.getElem_inj h).1 e, fun e => by subst e; rfl⟩
end Go.V
namespace Go.V
theorem q_idx_at {P : Program} {sf : SM} {r : RT} {L : List (Nat × D)} {S : Store} {K : Env → Store → Prop} {t : Nat} {α : Type} [Inhabited α] {sz : Nat} {x i : Opd} {f : α → PV} {xs : List α} {k : IntKind} {m : Nat}
    (hx : ev (env L) x = .pv (.sl (xs.map f))) (hi : ev (env L) i = .pv (.int k (m : Int))) (h1 : m < xs.length) (hsz : ∀ a, (f a).nc = sz)
    (h : RG P sf r (env ((t, .pv (.con (f (nth xs m)))) :: L)) S K) : RG P sf (.op ⟨some t, none, .idx sz x i⟩ r) (env L) S K :=
  q_idx_m (n := (m : Int)) hx hi (by omega) (by omega) hsz h
end Go.V

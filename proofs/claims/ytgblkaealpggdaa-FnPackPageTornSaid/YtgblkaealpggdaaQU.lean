/- A part of the proofs about laws of the page tree (see the text that bears the law): a small language of steps, its rules, and what the functions of the program return. -/
import Derived.Test.YtgblkaealpggdaaQT
set_option linter.all false
set_option linter.unusedVariables false
set_option linter.unusedSimpArgs false
/-! pages unpacked -/
namespace Go.V
theorem q_slc_mt {P : Program} {sf : SM} {r : RT} {L : List (Nat × D)} {S : Store} {K : Env → Store → Prop} {t : Nat} {α : Type} {sz : Nat} {x : Opd} {lo hi : Option Opd} {f : α → PV} {xs : List α} (l m : Nat) (ys : List α) {a b : Int} (hx : ev (env L) x = .pv (.sl (xs.map f))) (hl : optI (env L) lo 0 = some a) (hh : optI (env L) hi ((xs.map f).length : Nat) = some b)
    (hr : a = l ∧ b = m ∧ l ≤ m ∧ m ≤ xs.length) (hsz : ∀ a, (f a).nc = sz) (he : (xs.take m).drop l = ys) (h : RG P sf r (env ((t, .pv (.sl (ys.map f))) :: L)) S K) : RG P sf (.op ⟨some t, none, .slc sz x lo hi⟩ r) (env L) S K :=
  q_slc_m l m hx hl hh hr hsz (he.symm ▸ h)
def oddG (g : Pg) : Int := if 0 < g.cs.length then 1 else 0
structure UnF (X : List Int) (g : Pg) : Prop where
  len : (X.length : Int) = 2 * (g.ks.length : Int) + 2 + oddG g
  fst : nth X 0 = 2 * (g.ks.length : Int) + oddG g
  ks : (X.take (1 + g.ks.length)).drop 1 = g.ks
  rest : (X.take (X.length - 1)).drop (1 + g.ks.length) = g.cs ++ g.vs.map fun v => v + 1000
  ne : pkL g ≠ X
theorem un_facts {g : Pg} {c : Int} (hf : fitsG g = true) (hc : c ≠ ckL (pkM g)) : UnF (pkM g ++ [c]) g := by
  have hl := pk_len hf
  have e : (pkM g ++ [c]).length = (pkL g).length := by rw [pkL, List.length_append, List.length_append]; rfl
  have em : pkM g = pkN g :: (g.ks ++ (g.cs ++ g.vs.map fun v => v + 1000)) := by simp [pkM, pkB]
  refine ⟨?_, ?_, ?_, ?_, fun h => hc (pk_changed h)⟩
  · rw [e, hl]; rfl
  · rw [em]; rfl
  · rw [em, List.cons_append, Nat.add_comm, List.take_succ_cons, List.drop_succ_cons, List.drop_zero, List.append_assoc, List.take_left]
  · rw [List.length_append, List.length_singleton, Nat.add_sub_cancel, List.take_left, em, Nat.add_comm, List.drop_succ_cons, List.drop_left]
theorem un_odd {g : Pg} (hf : fitsG g = true) (hc : 0 < g.cs.length) : oddG g = 1 ∧ g.vs = [] ∧ g = ⟨g.ks, g.cs, []⟩ := by
  have h4 := fits_four hf
  have h := hf
  rw [fits_inner (by omega) (fits_keys hf) h4, Bool.and_eq_true] at h
  have hv : g.vs = [] := List.length_eq_zero_iff.1 (of_decide_eq_true h.1)
  exact ⟨by rw [oddG, if_pos hc], hv, Pg.ext' rfl rfl hv⟩
theorem un_even {g : Pg} (hf : fitsG g = true) (hc : ¬ 0 < g.cs.length) : oddG g = 0 ∧ g.cs = [] ∧ g = ⟨g.ks, [], g.vs⟩ ∧ g.vs.length = g.ks.length := by
  have hv : g.cs = [] := List.length_eq_zero_iff.1 (by omega)
  exact ⟨by rw [oddG, if_neg hc], hv, Pg.ext' rfl hv rfl, fits_vs hf (by omega)⟩
theorem nth_add {vs : List Int} {i : Nat} (h : i < vs.length) : nth (vs.map fun v => v + 1000) i = nth vs i + 1000 := by
  rw [nth_eq (by simpa using h), nth_eq h, List.getElem_map]
theorem un_torn {g : Pg} (hf : fitsG g = true) {k : Nat} (hk : k < (pkL g).length) : let X := ((pkL g).take k).drop 0
    X.length = k ∧ (0 < X.length → 0 ≤ nth X 0 ∧ nth X 0 ≤ 9 ∧ (X.length : Int) < 2 * (nth X 0 / 2) + 2 + nth X 0 % 2) := by
  intro X
  have hX : X = (pkL g).take k := List.drop_zero
  have hl := pk_len hf
  have h4 := fits_four hf
  have el : X.length = k := by rw [hX, List.length_take]; omega
  refine ⟨el, fun h => ?_⟩
  have e : nth X 0 = pkN g := by
    obtain ⟨k, rfl⟩ : ∃ m, k = m + 1 := ⟨k - 1, by omega⟩
    have em : pkL g = pkN g :: ((g.ks ++ (g.cs ++ g.vs.map fun v => v + 1000)) ++ [ckL (pkM g)]) := by
      have : pkM g = pkN g :: (g.ks ++ (g.cs ++ g.vs.map fun v => v + 1000)) := by simp [pkM, pkB]
      have e2 : pkL g = pkM g ++ [ckL (pkM g)] := rfl
      rw [e2]
      generalize ckL (pkM g) = c
      rw [this]; rfl
    rw [hX, em]; rfl
  rw [e, el, pkN]
  have hk' : (k : Int) < ((pkL g).length : Int) := by omega
  rw [hl] at hk'
  split at hk' <;> rename_i h1
  · rw [if_pos h1]; omega
  · rw [if_neg h1]; omega
theorem set_last {g : Pg} {v : Int} : (pkL g).set ((pkL g).length - 1) v = pkM g ++ [v] := by
  have e : (pkL g).length - 1 = (pkM g).length := by rw [pkL, List.length_append]; rfl
  rw [e, pkL, List.set_append_right _ _ (Nat.le_refl _), Nat.sub_self]; rfl
end Go.V

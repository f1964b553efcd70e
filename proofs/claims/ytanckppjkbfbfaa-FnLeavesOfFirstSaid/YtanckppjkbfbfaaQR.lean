/- A part of the proofs about laws of the page tree (see the text that bears the law): a small language of steps, its rules, and what the functions of the program return. -/
import Derived.Test.YtanckppjkbfbfaaQQ
set_option linter.all false
set_option linter.unusedVariables false
set_option linter.unusedSimpArgs false
/-! the leaf for a key, by the keys between leaves -/
namespace Go.V
theorem okT_lt {t : Pt} {h : Nat} {i lo hi : Int} (a : okT t h i lo hi = true) (hn : i ≠ t.r) : lo < hi := by
  obtain ⟨_, _, hf, hk⟩ := okT_top a
  simp only [fillB, fillP, Bool.and_eq_true, Bool.or_eq_true, decide_eq_true_eq] at hf
  have h2 : 2 ≤ (pg t i).ks.length := by
    rcases hf.1.2 with h | h
    · exact absurd h hn
    · exact h
  have := keysIn_at hk (j := 0) (by omega)
  omega
structure SepF (t : Pt) (h : Nat) (i lo hi : Int) : Prop where
  len : (lvB t h i).length = (sepT t h i).length + 1
  pw : (sepT t h i).Pairwise (· < ·)
  inn : ∀ x ∈ sepT t h i, lo < x ∧ x < hi
  last : ∀ k, (pth t k h i).length = h ∧ nth (pth t k h i) (h - 1) = nth (lvB t h i) (upTo (sepT t h i) k)
theorem seps {t : Pt} (hr : ∀ x, inT t x = true → t.r ∉ (pg t x).cs) : ∀ {h : Nat} {i lo hi : Int}, okT t h i lo hi = true → lo < hi → SepF t h i lo hi
  | 0, _, _, _, a, _ => by simp [okT] at a
  | 1, i, lo, hi, a, _ => by
    have h1 := okT_leaf.1 a
    have e : sepT t 1 i = [] := by rw [sepT, if_pos h1.2]
    refine ⟨?_, ?_, ?_, fun k => ?_⟩
    · rw [lvB_leaf h1.2, e]; rfl
    · rw [e]; exact List.Pairwise.nil
    · rw [e]; intro x hx; cases hx
    · rw [lvB_leaf h1.2, pth_leaf h1.2, e]; exact ⟨rfl, rfl⟩
  | h + 2, i, lo, hi, a, hlh => by
    have f := inF a
    have hin := (okT_top a).2.1
    have kid : ∀ j, j ≤ (pg t i).ks.length → SepF t (h + 1) (nth (pg t i).cs j) (bnd (pg t i) lo hi j) (bnd (pg t i) lo hi (j + 1)) ∧ bnd (pg t i) lo hi j < bnd (pg t i) lo hi (j + 1) := fun j hj => by
      have hj' : j < (pg t i).cs.length := by rw [f.cl]; omega
      have hl := okT_lt (f.kid j hj') fun e => hr i hin (e ▸ nth_mem hj')
      exact ⟨seps hr (f.kid j hj') hl, hl⟩
    have hrs := good_rising f.good
    have h0 : lo < nth (pg t i).ks 0 := by
      have := (kid 0 (Nat.zero_le _)).2
      rwa [bnd_0, bnd_at f.one] at this
    have law := fun k => sep_law (k := k) (n := (pg t i).ks.length) (f := fun j => lvB t (h + 1) (nth (pg t i).cs j)) (s := fun j => sepT t (h + 1) (nth (pg t i).cs j)) (ks := (pg t i).ks) (lo := lo) (hi := hi) rfl f.good
      (fun j hj => (kid j hj).1.len)
      (fun x hx => by have := ((kid 0 (Nat.zero_le _)).1.inn x hx).1; rwa [bnd_0] at this)
      (fun j hj => by have := rising_le hrs (a := 0) (b := j) (by omega) (by omega); omega)
      (fun j hj => (f.kin j hj).2)
      (fun j hj x hx => by have := ((kid (j + 1) (by omega)).1.inn x hx).1; rwa [bnd_at hj] at this)
      (fun j hj x hx => by have := ((kid j (by omega)).1.inn x hx).2; rwa [bnd_at hj] at this)
      (fun x hx => by have := ((kid _ (Nat.le_refl _)).1.inn x hx).2; rwa [bnd_end] at this)
      (fun j hj => (kid j hj).1.pw) hlh
    have eL : lvB t (h + 2) i = (List.range ((pg t i).ks.length + 1)).flatMap fun j => lvB t (h + 1) (nth (pg t i).cs j) := by
      rw [lvB_inner f.c0, flat_range, f.cl]
    have eQ : sepT t (h + 2) i = ((List.range (pg t i).ks.length).flatMap fun j => sepT t (h + 1) (nth (pg t i).cs j) ++ [nth (pg t i).ks j]) ++ sepT t (h + 1) (nth (pg t i).cs (pg t i).ks.length) := by
      rw [sepT, if_neg f.c0]
    refine ⟨?_, ?_, ?_, fun k => ?_⟩
    · rw [eL, eQ]; exact (law 0).1
    · rw [eQ]; exact (law 0).2.1.1
    · rw [eQ]; exact (law 0).2.1.2
    · have hu := upTo_le (pg t i).ks k
      have hk := (kid (upTo (pg t i).ks k) hu).1.last k
      rw [eL, eQ, (law k).2.2, pth_inner f.c0, List.length_cons, hk.1]
      refine ⟨rfl, ?_⟩
      rw [← hk.2]; rfl
theorem path_leaf {t : Pt} (hv : validT t = true) : ∃ Q : List Int, (lvV t).length = Q.length + 1 ∧ goodKeys Q = true ∧ (∀ x ∈ Q, 0 < x ∧ x < 100) ∧ ∀ k, leafAt t k = nth (lvV t) (upTo Q k) := by
  obtain ⟨_, _, h3, h4, h5⟩ := valid_ok hv
  have s := seps (fun x hx => (page_nd hv hx).2) h3 (by omega)
  have e : lvV t = lvB t (hgtT t) t.r := by rw [lvV, if_pos hv]; rfl
  rw [e]
  refine ⟨sepT t (hgtT t) t.r, s.len, ?_, s.inn, fun k => ?_⟩
  · simp only [goodKeys, Bool.and_eq_true, List.all_eq_true, decide_eq_true_eq]
    exact ⟨rising_pw.2 s.pw, fun k hk => by have := s.inn k hk; omega⟩
  · have h := s.last k
    rw [← h.2, leafAt, pthT, h.1]
theorem lvV_nodup {t : Pt} (hv : validT t = true) : (lvV t).Nodup := by
  obtain ⟨_, _, h3, h4, h5⟩ := valid_ok hv
  rw [lvV, if_pos hv]
  exact h4.sublist List.filter_sublist
theorem nodup_at {L : List Int} (h : L.Nodup) {i j : Nat} (hi : i < L.length) (hj : j < L.length) : nth L i = nth L j ↔ i = j := by
  rw [nth_eq hi, nth_eq hj]
  exact ⟨fun e => (List.getElem_inj h).1 e, fun e => by subst e; rfl⟩
theorem path_ends {t : Pt} (hv : validT t = true) : leafAt t 0 = nth (lvV t) 0 ∧ leafAt t 99 = nth (lvV t) ((lvV t).length - 1) := by
  obtain ⟨Q, h1, h2, h3, h4⟩ := path_leaf hv
  rw [h4, h4, upTo_all h2, h1]
  refine ⟨?_, rfl⟩
  rw [upTo_eq (i := 0) (by omega) (by omega) fun h => (h3 _ (nth_mem h)).1]
end Go.V
namespace Go.V
theorem q_idx_at {P : Program} {sf : SM} {r : RT} {L : List (Nat × D)} {S : Store} {K : Env → Store → Prop} {t : Nat} {α : Type} [Inhabited α] {sz : Nat} {x i : Opd} {f : α → PV} {xs : List α} {k : IntKind} {m : Nat}
    (hx : ev (env L) x = .pv (.sl (xs.map f))) (hi : ev (env L) i = .pv (.int k (m : Int))) (h1 : m < xs.length) (hsz : ∀ a, (f a).nc = sz)
    (h : RG P sf r (env ((t, .pv (.con (f (nth xs m)))) :: L)) S K) : RG P sf (.op ⟨some t, none, .idx sz x i⟩ r) (env L) S K :=
  q_idx_m (n := (m : Int)) hx hi (by omega) (by omega) hsz h
end Go.V

/- A part of the proofs about laws of the page tree (see the text that bears the law): a small language of steps, its rules, and what the functions of the program return. -/
import Derived.Test.YtfhalijoljgafaaQO
set_option linter.all false
set_option linter.unusedVariables false
set_option linter.unusedSimpArgs false
/-! trees that lose their values -/
namespace Go.V
def zrG (g : Pg) : Pg := ⟨g.ks, g.cs, List.replicate g.vs.length 0⟩
def zrT (t : Pt) : Pt := ⟨t.r, t.ps.map zrG⟩
theorem zr_pg (t : Pt) (i : Int) : pg (zrT t) i = zrG (pg t i) := by
  show nth (t.ps.map zrG) i.toNat = zrG (nth t.ps i.toNat)
  by_cases h : i.toNat < t.ps.length
  · rw [nth_eq h, nth_eq (by simpa using h)]; simp
  · unfold nth
    rw [List.getD_eq_getElem?_getD, List.getD_eq_getElem?_getD, List.getElem?_eq_none (by simp; omega), List.getElem?_eq_none (by omega)]; rfl
theorem zr_inT (t : Pt) (i : Int) : inT (zrT t) i = inT t i := by simp [inT, zrT]
theorem zr_wlk (t : Pt) : ∀ (h : Nat) (i : Int), wlk (zrT t) h i = wlk t h i
  | 0, _ => rfl
  | h + 1, i => by
    rw [wlk, wlk, zr_pg]
    exact congrArg (i :: ·) (congrArg (fun f => (pg t i).cs.flatMap f) (funext (zr_wlk t h)))
theorem zr_fill {t : Pt} {i : Int} (h : fillB t i = true) : fillB (zrT t) i = true := by
  rw [fillB, zr_pg]
  rw [fillB] at h
  show fillP (decide (i = t.r)) (zrG (pg t i)) = true
  simp only [fillP, Bool.and_eq_true] at h ⊢
  refine ⟨h.1, ?_⟩
  have h2 := h.2
  by_cases hc : (pg t i).cs.length = 0
  · rw [if_pos hc] at h2
    rw [if_pos (show (zrG (pg t i)).cs.length = 0 from hc)]
    simp only [lfB, Bool.and_eq_true, decide_eq_true_eq, List.all_eq_true] at h2 ⊢
    refine ⟨by simp [zrG, h2.1], fun v hv => ?_⟩
    have := List.eq_of_mem_replicate hv
    omega
  · rw [if_neg hc] at h2
    rw [if_neg (show ¬ (zrG (pg t i)).cs.length = 0 from hc)]
    simp only [inB, Bool.and_eq_true, decide_eq_true_eq] at h2 ⊢
    exact ⟨⟨by simp [zrG, h2.1.1], h2.1.2⟩, h2.2⟩
theorem zr_ok {t : Pt} : ∀ {h : Nat} {i lo hi : Int}, okT t h i lo hi = true → okT (zrT t) h i lo hi = true
  | 0, _, _, _, a => by simp [okT] at a
  | 1, i, lo, hi, a => by
    have h1 := okT_leaf.1 a
    exact okT_leaf.2 ⟨⟨by rw [zr_inT]; exact h1.1.1, zr_fill h1.1.2.1, by rw [zr_pg]; exact h1.1.2.2⟩, by rw [zr_pg]; exact h1.2⟩
  | h + 2, i, lo, hi, a => by
    have h1 := (okT_inner (by omega)).1 a
    refine (okT_inner (by omega)).2 ⟨⟨by rw [zr_inT]; exact h1.1.1, zr_fill h1.1.2.1, by rw [zr_pg]; exact h1.1.2.2⟩, by rw [zr_pg]; exact h1.2.1, fun j hj => ?_⟩
    rw [zr_pg] at hj ⊢
    exact zr_ok (h1.2.2 j hj)
theorem zr_valid {t : Pt} (h : validT t = true) : validT (zrT t) = true := by
  obtain ⟨h1, k, h2, h3, h4, h5⟩ := valid_iff.1 h
  exact valid_iff.2 ⟨by simpa [zrT] using h1, k, h2, zr_ok h3, by rw [zr_wlk]; exact h4, by rw [zr_wlk]; simpa [zrT] using h5⟩
theorem no_page : validT ⟨0, []⟩ = false := rfl
theorem one_page : validT ⟨0, [⟨[], [], []⟩]⟩ = true := rfl
section q
variable {P : Program} {sf : SM} {r : RT} {L : List (Nat × D)} {S : Store} {K : Env → Store → Prop} {t : Nat}
theorem q_litx0 {SF : Store} {ty sz : Nat} {zero : List D} {parts : List (Nat × Opd)} (hs : sOK (.mix .l SF) S) (h : RG P (.mix .l SF) r (env ((t, .nils) :: L)) S K) : RG P (.mix .l SF) (.op ⟨some t, none, .lit ty sz 0 zero parts⟩ r) (env L) S K := by
  refine rX rfl ?_
  simp only [put_env]
  refine .inl ?_
  simp only [stepF, if_true]
  exact ⟨hs, h⟩
end q
abbrev zrD (o k : Nat) (ps : List Pg) (g : Pg) : List D := dG ps ++ [.agg [.pv (ints g.ks), .pv (ints g.cs), .own o k]]
theorem Bd.frzV {k0 : Nat} {E : Env} {S : Store} {R : Env → Store → Prop} (o k : Nat) {ty ti : Nat} {qs : List Pg} {g : Pg} (hk : k ≠ o) (hO : S[o]? = some (obD ty 3 (zrD k g.vs.length qs g))) (hK : S[k]? = some (some ⟨ti, 1, List.replicate g.vs.length (.pv (i64 0))⟩))
    (h : Bd k0 E ((S.set k none).set o (obD ty 3 (dG (qs ++ [zrG g])))) R) : Bd k0 E S R := by
  have hlen : qs.length < (qs ++ [zrG g]).length := by simp
  have ho : o < S.length := (List.getElem?_eq_some_iff.1 hO).1
  rw [obD_ne (by simp)] at hO
  have hset : ∀ x : D, zrD k g.vs.length qs g = (dG (qs ++ [zrG g])).set qs.length (.agg [.pv (ints g.ks), .pv (ints g.cs), .own k g.vs.length]) := fun _ => by
    rw [dG, List.map_append, List.set_append_right _ _ (by simp)]; simp
  by_cases h0 : g.vs.length = 0
  · refine Bd.then (Bd.drop k (R := fun E' S' => E' = E ∧ S' = S.set k none) ⟨rfl, rfl⟩) ?_
    rintro _ _ ⟨rfl, rfl⟩
    have ho2 : (S.set k none)[o]? = some (some ⟨ty, 3, zrD k g.vs.length qs g⟩) := by rw [List.getElem?_set_ne hk]; exact hO
    refine Bd.aggY o qs.length [.pv (ints g.ks), .pv (ints g.cs), .own k g.vs.length] ho2 ?_ ?_
    · rw [hset (.any)]; show ((dG (qs ++ [zrG g])).set qs.length _)[qs.length]? = _
      rw [List.getElem?_set_self (by simp)]
    · rw [h0]
      refine Bd.packG o qs.length (qs := qs ++ [zrG g]) (g := zrG g) hlen (ty := ty) ?_ ?_
      · rw [List.getElem?_set_self (by simpa using ho)]
        have hz : zrG g = ⟨g.ks, g.cs, []⟩ := by simp [zrG, h0]
        have hs2 := hset (.any)
        rw [h0] at hs2
        rw [hs2, List.set_set, hz]; rfl
      · rw [show (qs ++ [zrG g]).set qs.length (zrG g) = qs ++ [zrG g] by rw [List.set_append_right _ _ (Nat.le_refl _)]; simp, List.set_set]
        exact h
  · refine Bd.frzFB k o qs.length 2 ti 1 (xs := List.replicate g.vs.length (.pv (i64 0))) (ps := (List.replicate g.vs.length (0 : Int)).map (.int .i64)) hk ?_ ?_ hO (cs := [.pv (ints g.ks), .pv (ints g.cs), .own k g.vs.length]) ?_ ?_ ?_
    · rw [hK, obD_ne (by intro e; have e2 := congrArg List.length e; rw [List.length_replicate] at e2; exact h0 e2)]
    · rw [show List.replicate g.vs.length (D.pv (i64 0)) = dI (List.replicate g.vs.length 0) by simp]
      exact toPVs_dI _
    · rw [hset (.any)]; show ((dG (qs ++ [zrG g])).set qs.length _)[qs.length]? = _
      rw [List.getElem?_set_self (by simp)]
    · show some (D.own k g.vs.length) = some (ownD k _)
      rw [ownD_ne (by intro e; have e2 := congrArg List.length e; rw [List.length_replicate] at e2; exact h0 e2)]; simp
    · refine Bd.packG o qs.length (qs := qs ++ [zrG g]) (g := zrG g) hlen (ty := ty) ?_ ?_
      · rw [List.getElem?_set_self (by simpa using ho), hset (.any), List.set_set]; rfl
      · rw [show (qs ++ [zrG g]).set qs.length (zrG g) = qs ++ [zrG g] by rw [List.set_append_right _ _ (Nat.le_refl _)]; simp, List.set_set]
        exact h
end Go.V

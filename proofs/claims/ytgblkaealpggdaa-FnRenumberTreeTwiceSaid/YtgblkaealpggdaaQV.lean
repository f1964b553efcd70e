/- A part of the proofs about laws of the page tree (see the text that bears the law): a small language of steps, its rules, and what the functions of the program return. -/
import Derived.Test.YtgblkaealpggdaaQR
set_option linter.all false
set_option linter.unusedVariables false
set_option linter.unusedSimpArgs false
/-! trees numbered anew -/
namespace Go.V
def rnC (W : List Int) (c : Int) : Int := (plc W c : Int)
def rnG (W : List Int) (g : Pg) : Pg := ⟨g.ks, g.cs.map (rnC W), g.vs⟩
def ordT (t : Pt) : List Int := wlk t (hgtT t) t.r
def rnT (t : Pt) : Pt := ⟨0, (ordT t).map fun i => rnG (ordT t) (pg t i)⟩
theorem plc_nth {W : List Int} (hn : W.Nodup) {i : Nat} (hi : i < W.length) : plc W (nth W i) = i :=
  plc_eq hi rfl fun j hj e => by have := (nodup_at hn (by omega) hi).1 e; omega
theorem plc_mem {W : List Int} (hn : W.Nodup) {x : Int} (hx : x ∈ W) : plc W x < W.length ∧ nth W (plc W x) = x := by
  obtain ⟨j, hj, rfl⟩ := List.getElem_of_mem hx
  rw [← nth_eq hj, plc_nth hn hj]
  exact ⟨hj, rfl⟩
structure OrdF (t : Pt) : Prop where
  nd : (ordT t).Nodup
  len : (ordT t).length = t.ps.length
  rg : ∀ x ∈ ordT t, 0 ≤ x ∧ x < t.ps.length
  all : ∀ i, inT t i = true → i ∈ ordT t
  hd : nth (ordT t) 0 = t.r
  n1 : 1 ≤ t.ps.length ∧ t.ps.length ≤ 16
  kid : ∀ i, inT t i = true → ∀ c ∈ (pg t i).cs, inT t c = true
theorem ordF {t : Pt} (hv : validT t = true) : OrdF t := by
  obtain ⟨h1, h2, h3, h4, h5⟩ := valid_ok hv
  have hin := okT_in h3
  have hl := (nodup_full h4 fun x hx => inT_iff.1 (hin x hx)).1 fun q hq => h5 q (inT_iff.2 (by omega))
  refine ⟨h4, hl, fun x hx => inT_iff.1 (hin x hx), h5, ?_, h1, fun i hi c hc => ?_⟩
  · obtain ⟨h, hh⟩ : ∃ h, hgtT t = h + 1 := ⟨hgtG t 3 t.r, rfl⟩
    rw [ordT, hh, wlk_succ]; rfl
  · obtain ⟨h, lo, hi', ho⟩ := valid_page hv hi
    obtain ⟨h, rfl⟩ : ∃ m, h = m + 1 := ⟨h - 1, by have := (okT_top ho).1; omega⟩
    obtain ⟨_, _, _, k⟩ := okT_kid ho hc
    exact (okT_top k).2.1
theorem rn_pg {t : Pt} (f : OrdF t) {x : Int} (hx : x ∈ ordT t) : inT (rnT t) (rnC (ordT t) x) = true ∧ pg (rnT t) (rnC (ordT t) x) = rnG (ordT t) (pg t x) := by
  have h := plc_mem f.nd hx
  have hl : (rnT t).ps.length = (ordT t).length := List.length_map ..
  refine ⟨inT_iff.2 ⟨by unfold rnC; omega, by rw [hl]; unfold rnC; omega⟩, ?_⟩
  show nth ((ordT t).map fun i => rnG (ordT t) (pg t i)) (rnC (ordT t) x).toNat = _
  rw [rnC, Int.toNat_natCast, nth_eq (by rw [List.length_map]; exact h.1), List.getElem_map, ← nth_eq h.1, h.2]
theorem rn_top {t : Pt} (f : OrdF t) {x : Int} (hx : x ∈ ordT t) : decide (rnC (ordT t) x = (rnT t).r) = decide (x = t.r) := by
  have h := plc_mem f.nd hx
  refine decide_eq_decide.2 ⟨fun e => ?_, fun e => ?_⟩
  · have e2 : plc (ordT t) x = 0 := by
      have : ((plc (ordT t) x : Nat) : Int) = 0 := e
      omega
    rw [← h.2, e2, f.hd]
  · subst e
    have h0 : 0 < (ordT t).length := by have := f.len; have := f.n1; omega
    have := plc_nth f.nd h0
    rw [f.hd] at this
    show ((plc (ordT t) t.r : Nat) : Int) = 0
    rw [this]; rfl
theorem fillP_rn {W : List Int} {b : Bool} {g : Pg} : fillP b (rnG W g) = fillP b g := by
  simp only [fillP, rnG, lfB, inB, List.length_map]
  rfl
theorem rn_kid {W : List Int} {cs : List Int} {j : Nat} (h : j < cs.length) : nth (cs.map (rnC W)) j = rnC W (nth cs j) := by
  rw [nth_eq (by simpa using h), nth_eq h, List.getElem_map]
theorem rn_ok {t : Pt} (f : OrdF t) : ∀ {h : Nat} {i lo hi : Int}, okT t h i lo hi = true → (∀ x ∈ wlk t h i, x ∈ ordT t) → okT (rnT t) h (rnC (ordT t) i) lo hi = true ∧ wlk (rnT t) h (rnC (ordT t) i) = (wlk t h i).map (rnC (ordT t))
  | 0, _, _, _, a, _ => by simp [okT] at a
  | 1, i, lo, hi, a, hm => by
    have h1 := okT_leaf.1 a
    have hi' : i ∈ ordT t := hm i (by rw [wlk]; exact List.mem_cons_self)
    have hp := rn_pg f hi'
    have hz : (pg t i).cs = [] := List.length_eq_zero_iff.1 h1.2
    refine ⟨okT_leaf.2 ⟨⟨hp.1, ?_, ?_⟩, ?_⟩, ?_⟩
    · rw [fillB, rn_top f hi', hp.2, fillP_rn]; exact h1.1.2.1
    · rw [hp.2]; exact h1.1.2.2
    · rw [hp.2]; simp [rnG, hz]
    · rw [wlk, wlk, hp.2]; simp [rnG, hz]
  | h + 2, i, lo, hi, a, hm => by
    have h1 := (okT_inner (by omega)).1 a
    have hi' : i ∈ ordT t := hm i (by rw [wlk]; exact List.mem_cons_self)
    have hp := rn_pg f hi'
    have kid : ∀ j, (hj : j < (pg t i).cs.length) → okT (rnT t) (h + 1) (rnC (ordT t) (nth (pg t i).cs j)) (frK (pg t i) lo j) (toK (pg t i) hi j) = true ∧ wlk (rnT t) (h + 1) (rnC (ordT t) (nth (pg t i).cs j)) = (wlk t (h + 1) (nth (pg t i).cs j)).map (rnC (ordT t)) := fun j hj =>
      rn_ok f (h1.2.2 j hj) fun x hx => hm x (by rw [wlk]; exact List.mem_cons_of_mem _ (List.mem_flatMap.2 ⟨_, nth_mem hj, hx⟩))
    refine ⟨(okT_inner (by omega)).2 ⟨⟨hp.1, ?_, ?_⟩, ?_, fun j hj => ?_⟩, ?_⟩
    · rw [fillB, rn_top f hi', hp.2, fillP_rn]; exact h1.1.2.1
    · rw [hp.2]; exact h1.1.2.2
    · rw [hp.2]; simpa [rnG] using h1.2.1
    · rw [hp.2] at hj ⊢
      have hj' : j < (pg t i).cs.length := by simpa [rnG] using hj
      show okT (rnT t) (h + 1) (nth ((pg t i).cs.map (rnC (ordT t))) j) (frK (pg t i) lo j) (toK (pg t i) hi j) = true
      rw [rn_kid hj']
      exact (kid j hj').1
    · rw [wlk, wlk, hp.2, List.map_cons, List.map_flatMap]
      congr 1
      show ((pg t i).cs.map (rnC (ordT t))).flatMap _ = _
      rw [List.flatMap_map]
      apply flatMap_congr'
      intro c hc
      obtain ⟨j, hj, rfl⟩ := List.getElem_of_mem hc
      rw [← nth_eq hj]
      exact (kid j hj).2
where
  flatMap_congr' {α β : Type} {f g : α → List β} {l : List α} (h : ∀ x ∈ l, f x = g x) : l.flatMap f = l.flatMap g := by
    induction l with
    | nil => rfl
    | cons a l ih => rw [List.flatMap_cons, List.flatMap_cons, h a List.mem_cons_self, ih fun x hx => h x (List.mem_cons_of_mem _ hx)]
theorem ord_map {t : Pt} (f : OrdF t) : (ordT t).map (rnC (ordT t)) = natI 0 t.ps.length := by
  refine list_ext_nth (by rw [List.length_map, natI_len, f.len]) fun j hj => ?_
  rw [List.length_map] at hj
  rw [rn_kid hj, natI_at (by rw [← f.len]; exact hj), rnC, plc_nth f.nd hj, Nat.zero_add]
theorem valid_rn {t : Pt} (hv : validT t = true) : validT (rnT t) = true ∧ ordT (rnT t) = natI 0 (rnT t).ps.length ∧ (rnT t).ps.length = t.ps.length := by
  have f := ordF hv
  obtain ⟨h1, h2, h3, h4, h5⟩ := valid_ok hv
  have hl : (rnT t).ps.length = t.ps.length := by
    show ((ordT t).map _).length = _
    rw [List.length_map, f.len]
  have hr : rnC (ordT t) t.r = (rnT t).r := by
    have hm : t.r ∈ ordT t := h5 _ (okT_top h3).2.1
    have := rn_top f hm
    rw [decide_eq_true (rfl : t.r = t.r)] at this
    exact of_decide_eq_true this
  have k := rn_ok f h3 fun x hx => hx
  rw [hr] at k
  have e : wlk (rnT t) (hgtT t) (rnT t).r = natI 0 (rnT t).ps.length := by rw [k.2, hl]; exact ord_map f
  have hh : hgtT (rnT t) = hgtT t := okT_hgt (f := 3) k.1 (by omega)
  refine ⟨valid_iff.2 ⟨by rw [hl]; exact h1, hgtT t, h2, k.1, by rw [e]; exact natI_nodup, by rw [e, natI_len]⟩, ?_, hl⟩
  rw [ordT, hh]; exact e
theorem Pt.ext2 {a b : Pt} (h1 : a.r = b.r) (h2 : a.ps = b.ps) : a = b := by
  cases a; cases b; simp only at h1 h2; subst h1; subst h2; rfl
theorem rn_same {t : Pt} (hv : validT t = true) (h0 : t.r = 0) (hw : ordT t = natI 0 t.ps.length) : rnT t = t := by
  have f := ordF hv
  have hc : ∀ c : Int, 0 ≤ c → c < t.ps.length → rnC (ordT t) c = c := fun c h1 h2 => by
    have e : nth (ordT t) c.toNat = c := by rw [hw, natI_at (by omega)]; omega
    have := plc_nth f.nd (i := c.toNat) (by rw [f.len]; omega)
    rw [e] at this
    rw [rnC, this]; omega
  have e : (rnT t).ps = t.ps := by
    refine list_ext_nth (by show ((ordT t).map _).length = _; rw [List.length_map, f.len]) fun j hj => ?_
    have hj' : j < t.ps.length := by
      have : (rnT t).ps.length = t.ps.length := by show ((ordT t).map _).length = _; rw [List.length_map, f.len]
      omega
    have hin : inT t (j : Int) = true := inT_iff.2 (by omega)
    have h := (rn_pg f (f.all _ hin)).2
    rw [hc _ (by omega) (by omega)] at h
    have h' : nth (rnT t).ps j = rnG (ordT t) (nth t.ps j) := h
    rw [h']
    refine Pg.ext' rfl ?_ rfl
    show (nth t.ps j).cs.map (rnC (ordT t)) = (nth t.ps j).cs
    refine (List.map_congr_left fun c hcc => ?_).trans (List.map_id _)
    have := inT_iff.1 (f.kid _ hin c hcc)
    exact hc c this.1 this.2
  exact Pt.ext2 h0.symm e
theorem rn_twice {t : Pt} (hv : validT t = true) : rnT (rnT t) = rnT t := by
  have h := valid_rn hv
  exact rn_same h.1 rfl h.2.1
end Go.V

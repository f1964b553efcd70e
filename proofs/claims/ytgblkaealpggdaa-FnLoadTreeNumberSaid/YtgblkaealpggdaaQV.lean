/- A part of the proofs about laws of the page tree (see the text that bears the law): a small language of steps, its rules, and what the functions of the program return. -/
import Derived.Test.YtgblkaealpggdaaQR
set_option linter.all false
set_option linter.unusedVariables false
set_option linter.unusedSimpArgs false
/-! trees numbered anew -/
namespace Go.V
def rnC (W : List Int) (c : Int) : Int := (plc W c : Int)
def rnG (W : List Int) (g : Pg) : Pg := ⟨g.ks, g.cs.map (rnC W), g.vs⟩
def ordT (t : Pt) : List Int := wlk t (hgtT t) t.r
def rnT (t : Pt) : Pt := ⟨0, (ordT t).map fun i => rnG (ordT t) (pg t i)⟩
theorem plc_nth {W : List Int} (hn : W.Nodup) {i : Nat} (hi : i < W.length) : plc W (nth W i) = i :=
  plc_eq hi rfl fun j hj e => by have := (nodup_at hn (by omega) hi).1 e; omega
theorem plc_mem {W : List Int} (hn : W.Nodup) {x : Int} (hx : x ∈ W) : plc W x < W.length ∧ nth W (plc W x) = x := by
  obtain ⟨j, hj, rfl⟩ := List.getElem_of_mem hx
  rw [← nth_eq hj, plc_nth hn hj]
  exact ⟨hj, rfl⟩
structure OrdF (t : Pt) : Prop where
  nd : (ordT t).Nodup
  len : (ordT t).length = t.ps.length
  rg : ∀ x ∈ ordT t, 0 ≤ x ∧ x < t.ps.length
  all : ∀ i, inT t i = true → i ∈ ordT t
  hd : nth (ordT t) 0 = t.r
  n1 : 1 ≤ t.ps.length ∧ t.ps.length ≤ 16
  kid : ∀ i, inT t i = true → ∀ c ∈ (pg t i).cs, inT t c = true
theorem ordF {t : Pt} (hv : validT t = true) : OrdF t := by
  obtain ⟨h1, h2, h3, h4, h5⟩ := valid_ok hv
  have hin := okT_in h3
  have hl := (nodup_full h4 fun x hx => inT_iff.1 (hin x hx)).1 fun q hq => h5 q (inT_iff.2 (by omega))
  refine ⟨h4, hl, fun x hx => inT_iff.1 (hin x hx), h5, ?_, h1, fun i hi c hc => ?_⟩
  · obtain ⟨h, hh⟩ : ∃ h, hgtT t = h + 1 := ⟨hgtG t 3 t.r, rfl⟩
    rw [ordT, hh, wlk_succ]; rfl
  · obtain ⟨h, lo, hi', ho⟩ := valid_page hv hi
    obtain ⟨h, rfl⟩ : ∃ m, h = m + 1 := ⟨h - 1, by have := (okT_top ho).1; omega⟩
    obtain ⟨_, _, _, k⟩ := okT_kid ho hc
    exact (okT_top k).2.1
theorem rn_pg {t : Pt} (f : OrdF t) {x : Int} (hx : x ∈ ordT t) : inT (rnT t) (rnC (ordT t) x) = true ∧ pg (rnT t) (rnC (ordT t) x) = rnG (ordT t) (pg t x) := by
  have h := plc_mem f.nd hx
  have hl : (rnT t).ps.length = (ordT t).length := List.length_map ..
  refine ⟨inT_iff.2 ⟨by unfold rnC; omega, by rw [hl]; unfold rnC; omega⟩, ?_⟩
  show nth ((ordT t).map fun i => rnG (ordT t) (pg t i)) (rnC (ordT t) x).toNat = _
  rw [rnC, Int.toNat_natCast, nth_eq (by rw [List.length_map]; exact h.1), List.getElem_map, ← nth_eq h.1, h.2]
theorem Pt.ext2 {a b : Pt} (h1 : a.r = b.r) (h2 : a.ps = b.ps) : a = b := by
  cases a; cases b; simp only at h1 h2; subst h1; subst h2; rfl
theorem rn_same {t : Pt} (hv : validT t = true) (h0 : t.r = 0) (hw : ordT t = natI 0 t.ps.length) : rnT t = t := by
  have f := ordF hv
  have hc : ∀ c : Int, 0 ≤ c → c < t.ps.length → rnC (ordT t) c = c := fun c h1 h2 => by
    have e : nth (ordT t) c.toNat = c := by rw [hw, natI_at (by omega)]; omega
    have := plc_nth f.nd (i := c.toNat) (by rw [f.len]; omega)
    rw [e] at this
    rw [rnC, this]; omega
  have e : (rnT t).ps = t.ps := by
    refine list_ext_nth (by show ((ordT t).map _).length = _; rw [List.length_map, f.len]) fun j hj => ?_
    have hj' : j < t.ps.length := by
      have : (rnT t).ps.length = t.ps.length := by show ((ordT t).map _).length = _; rw [List.length_map, f.len]
      omega
    have hin : inT t (j : Int) = true := inT_iff.2 (by omega)
    have h := (rn_pg f (f.all _ hin)).2
    rw [hc _ (by omega) (by omega)] at h
    have h' : nth (rnT t).ps j = rnG (ordT t) (nth t.ps j) := h
    rw [h']
    refine Pg.ext' rfl ?_ rfl
    show (nth t.ps j).cs.map (rnC (ordT t)) = (nth t.ps j).cs
    refine (List.map_congr_left fun c hcc => ?_).trans (List.map_id _)
    have := inT_iff.1 (f.kid _ hin c hcc)
    exact hc c this.1 this.2
  exact Pt.ext2 h0.symm e
theorem load_ok {xs : List (Int × Int)} (hg : goodR xs = true) : ∃ n h, LdOK (loadT xs) xs n h := by
  have h24 := goodR_len hg
  have hn : nlv xs.length ≤ 6 := by unfold nlv; omega
  by_cases h1 : nlv xs.length = 1
  · exact ⟨_, _, (ld_case1 hg h1).1⟩
  · by_cases h5 : nlv xs.length ≤ 5
    · exact ⟨_, _, (ld_case2 hg rfl h1 h5).1⟩
    · exact ⟨_, _, (ld_case3 hg (by omega)).1⟩
theorem rn_load {xs : List (Int × Int)} (hg : goodR xs = true) : rnT (loadT xs) = loadT xs := by
  obtain ⟨n, h, a⟩ := load_ok hg
  have hv := (load_good hg).1
  have e : hgtT (loadT xs) = h := okT_hgt (f := 3) a.ok (by have := a.h3; omega)
  refine rn_same hv ?_ ?_
  · rfl
  · rw [ordT, e]; exact a.wl
end Go.V

/- A part of the proofs about laws of the page tree (see the text that bears the law): a small language of steps, its rules, and what the functions of the program return. -/
import Derived.Test.YtgblkaealpggdaaQH
set_option linter.all false
set_option linter.unusedVariables false
set_option linter.unusedSimpArgs false
namespace Go.V
/-! the first and the last step of a drop -/
theorem pw_of {α : Type} {R : α → α → Prop} (hs : ∀ a b, R a b → R b a) : ∀ {l : List α}, l.Pairwise R → ∀ a ∈ l, ∀ b ∈ l, a ≠ b → R a b
  | [], _, a, ha, _, _, _ => by cases ha
  | x :: l, h, a, ha, b, hb, hne => by
    rw [List.pairwise_cons] at h
    rcases List.mem_cons.1 ha with ea | ha2
    · rcases List.mem_cons.1 hb with eb | hb2
      · exact absurd (ea.trans eb.symm) hne
      · rw [ea]; exact h.1 b hb2
    · rcases List.mem_cons.1 hb with eb | hb2
      · rw [eb]; exact hs _ _ (h.1 a ha2)
      · exact pw_of hs h.2 a ha2 b hb2 hne
theorem wlk_self {t : Pt} {h : Nat} {i lo hi : Int} (a : okT t h i lo hi = true) : i ∈ wlk t h i := by
  obtain ⟨h', rfl⟩ : ∃ h', h = h' + 1 := ⟨h - 1, by have := (okT_top a).1; omega⟩
  exact List.mem_cons_self ..
theorem kid_tail {t : Pt} : ∀ {h : Nat} {i lo hi : Int}, okT t (h + 1) i lo hi = true → ∀ x ∈ wlk t (h + 1) i, ∀ c ∈ (pg t x).cs, c ∈ (pg t i).cs.flatMap (wlk t h)
  | h, i, lo, hi, a, x, hx, c, hc => by
    rw [wlk_succ, List.mem_cons] at hx
    rcases hx with rfl | hx
    · obtain ⟨_, lo', hi', k⟩ := okT_kid a hc
      exact List.mem_flatMap.2 ⟨c, hc, wlk_self k⟩
    · obtain ⟨d, hd, hx⟩ := List.mem_flatMap.1 hx
      obtain ⟨h0, lo', hi', k⟩ := okT_kid a hd
      obtain ⟨h', rfl⟩ : ∃ h', h = h' + 1 := ⟨h - 1, by omega⟩
      have := kid_tail k x hx c hc
      refine List.mem_flatMap.2 ⟨d, hd, ?_⟩
      rw [wlk_succ]
      exact List.mem_cons_of_mem _ this
theorem nodup_heads {f : Int → List Int} : ∀ {l : List Int}, (∀ c ∈ l, c ∈ f c) → (l.flatMap f).Nodup → l.Nodup
  | [], _, _ => List.nodup_nil
  | c :: l, hf, h => by
    rw [List.flatMap_cons, List.nodup_append] at h
    rw [List.nodup_cons]
    exact ⟨fun hm => h.2.2 c (hf c (List.mem_cons_self ..)) c (List.mem_flatMap.2 ⟨c, hm, hf c (List.mem_cons_self ..)⟩) rfl, nodup_heads (fun d hd => hf d (List.mem_cons_of_mem _ hd)) h.2.1⟩
theorem tree_nd {t : Pt} : ∀ {h : Nat} {i lo hi : Int}, okT t h i lo hi = true → (wlk t h i).Nodup → (∀ x ∈ wlk t h i, (pg t x).cs.Nodup) ∧ (∀ x ∈ wlk t h i, ∀ y ∈ wlk t h i, ∀ c, c ∈ (pg t x).cs → c ∈ (pg t y).cs → x = y) ∧ ∀ x ∈ wlk t h i, i ∉ (pg t x).cs
  | 0, _, _, _, a, _ => by simp [okT] at a
  | h + 1, i, lo, hi, a, hn => by
    have hn' := hn
    rw [wlk_succ, List.nodup_cons] at hn'
    have tail := kid_tail a
    have kid : ∀ c ∈ (pg t i).cs, ∃ lo' hi', okT t h c lo' hi' = true := fun c hc => (okT_kid a hc).2
    have hself : ∀ c ∈ (pg t i).cs, c ∈ wlk t h c := fun c hc => by obtain ⟨_, _, k⟩ := kid c hc; exact wlk_self k
    have hfm := hn'.2
    rw [List.Nodup, List.pairwise_flatMap] at hfm
    have dis : ∀ c ∈ (pg t i).cs, ∀ d ∈ (pg t i).cs, c ≠ d → ∀ x ∈ wlk t h c, x ∉ wlk t h d := fun c hc d hd hne x hx hx' =>
      pw_of (R := fun a b => ∀ x ∈ wlk t h a, ∀ y ∈ wlk t h b, x ≠ y) (fun a b k x hx y hy e => k y hy x hx e.symm) hfm.2 c hc d hd hne x hx x hx' rfl
    have ih : ∀ c ∈ (pg t i).cs, (∀ x ∈ wlk t h c, (pg t x).cs.Nodup) ∧ (∀ x ∈ wlk t h c, ∀ y ∈ wlk t h c, ∀ d, d ∈ (pg t x).cs → d ∈ (pg t y).cs → x = y) ∧ ∀ x ∈ wlk t h c, c ∉ (pg t x).cs := fun c hc => by
      obtain ⟨_, _, k⟩ := kid c hc
      exact tree_nd k (hfm.1 c hc)
    refine ⟨fun x hx => ?_, fun x hx y hy c cx cy => ?_, fun x hx hm => hn'.1 (tail x hx i hm)⟩
    · rw [wlk_succ, List.mem_cons] at hx
      rcases hx with rfl | hx
      · exact nodup_heads hself hn'.2
      · obtain ⟨d, hd, hx⟩ := List.mem_flatMap.1 hx
        exact (ih d hd).1 x hx
    · have cross : ∀ d ∈ (pg t i).cs, ∀ y ∈ wlk t h d, c ∈ (pg t i).cs → c ∈ (pg t y).cs → False := fun d hd y hy c1 c2 => by
        obtain ⟨_, _, k⟩ := kid d hd
        obtain ⟨h', rfl⟩ : ∃ h', h = h' + 1 := ⟨h - 1, by have := (okT_top k).1; omega⟩
        have k2 := kid_tail k y hy c c2
        by_cases e : c = d
        · subst e
          have := hfm.1 c hd
          rw [wlk_succ, List.pairwise_cons] at this
          exact this.1 c k2 rfl
        · refine dis c c1 d hd e c (hself c c1) ?_
          rw [wlk_succ]; exact List.mem_cons_of_mem _ k2
      have hx' := hx
      have hy' := hy
      rw [wlk_succ, List.mem_cons] at hx' hy'
      rcases hx' with ex | hx1
      · rcases hy' with ey | hy1
        · rw [ex, ey]
        · obtain ⟨d, hd, hy2⟩ := List.mem_flatMap.1 hy1
          rw [ex] at cx
          exact (cross d hd y hy2 cx cy).elim
      · obtain ⟨d, hd, hx2⟩ := List.mem_flatMap.1 hx1
        rcases hy' with ey | hy1
        · rw [ey] at cy
          exact (cross d hd x hx2 cy cx).elim
        · obtain ⟨e, he, hy2⟩ := List.mem_flatMap.1 hy1
          have inw : ∀ q ∈ (pg t i).cs, ∀ z ∈ wlk t h q, c ∈ (pg t z).cs → c ∈ wlk t h q := fun q hq z hz hc => by
            obtain ⟨_, _, k⟩ := kid q hq
            obtain ⟨h', rfl⟩ : ∃ h', h = h' + 1 := ⟨h - 1, by have := (okT_top k).1; omega⟩
            rw [wlk_succ]; exact List.mem_cons_of_mem _ (kid_tail k z hz c hc)
          by_cases q : d = e
          · subst q; exact (ih d hd).2.1 x hx2 y hy2 c cx cy
          · exact (dis d hd e he q c (inw d hd x hx2 cx) (inw e he y hy2 cy)).elim
theorem okT_allh {t : Pt} : ∀ {h : Nat} {i lo hi : Int}, okT t h i lo hi = true → ∀ x ∈ wlk t h i, ∃ h' lo' hi', h' ≤ h ∧ okT t h' x lo' hi' = true
  | 0, _, _, _, a, _, _ => by simp [okT] at a
  | h + 1, i, lo, hi, a, x, hx => by
    rw [wlk_succ, List.mem_cons] at hx
    rcases hx with rfl | hx
    · exact ⟨_, _, _, Nat.le_refl _, a⟩
    · obtain ⟨c, hc, hx⟩ := List.mem_flatMap.1 hx
      obtain ⟨_, lo', hi', h2⟩ := okT_kid a hc
      obtain ⟨h', lo2, hi2, l, k⟩ := okT_allh h2 x hx
      exact ⟨h', lo2, hi2, by omega, k⟩
theorem page_B {t : Pt} {h : Nat} {i lo hi : Int} (hm : t.ps.length ≤ 16) (a : okT t h i lo hi = true) : pgB 20 (pg t i) ∧ shp h (pg t i) := by
  have hs := okT_small a
  have htop := okT_top a
  have hf := htop.2.2.1
  rw [fillB] at hf
  have hcs : ∀ x ∈ (pg t i).cs, -20 ≤ x ∧ x ≤ 1000 := fun x hx => by
    obtain ⟨h', rfl⟩ : ∃ h', h = h' + 1 := ⟨h - 1, by omega⟩
    obtain ⟨_, _, _, k⟩ := okT_kid a hx
    have := inT_iff.1 (okT_top k).2.1
    omega
  have gk : ∀ ks, goodKeys ks = true → ∀ x ∈ ks, (-1000 : Int) ≤ x ∧ x ≤ 1000 := fun ks hk x hx => by
    have := (goodKeys_iff.1 hk).2 x hx; omega
  by_cases hc : (pg t i).cs.length = 0
  · have hl := fill_leaf hf hc
    refine ⟨⟨hs, gk _ hl.2.2.1, hcs, hl.2.2.2⟩, fun _ => ⟨List.length_eq_zero_iff.1 hc, hl.1⟩, fun e => ?_⟩
    obtain ⟨h', rfl⟩ : ∃ h', h = h' + 1 := ⟨h - 1, by omega⟩
    have := ((okT_inner (by omega)).1 a).2.1
    omega
  · have hl := fill_inner hf hc
    refine ⟨⟨hs, gk _ hl.2.2.2.1, hcs, fun x hx => ?_⟩, fun e => ?_, fun _ => hl.1⟩
    · rw [List.length_eq_zero_iff.1 hl.2.2.2.2] at hx; cases hx
    · subst e; exact absurd (okT_leaf.1 a).2 hc
abbrev dropQ (t : Pt) (k : Int) (xs : List (Int × Int)) : Pt := ⟨t.r, t.ps.set (leafAt t k).toNat (leafG xs)⟩
theorem drop_init {t : Pt} (hv : validT t = true) (k : Int) {xs : List (Int × Int)} (hx : xs.Sublist (rowG (pg t (leafAt t k)))) : ∃ ht, Alv (dropQ t k xs) [] ht 20 ∧ PthI (pthT t k) (pthT t k).length (dropQ t k xs) [] := by
  obtain ⟨h1, h2, h3, h4, h5⟩ := valid_ok hv
  obtain ⟨l1, l2, l3, l4, l5, l6⟩ := leaf_at hv k
  have hl2 := inT_iff.1 l2
  have hp := pth_ok (k := k) h3
  have nd := tree_nd h3 h4
  have hlen : (dropQ t k xs).ps.length = t.ps.length := by simp
  have mem : ∀ i : Nat, i < t.ps.length → (i : Int) ∈ wlk t (hgtT t) t.r := fun i hi => h5 _ (inT_iff.2 (by omega))
  have page : ∀ i : Nat, i < t.ps.length → ∃ h lo hi, (h ≤ 3) ∧ okT t h (i : Int) lo hi = true := fun i hi => by
    obtain ⟨h, lo, hi', k1, k2⟩ := okT_allh h3 _ (mem i hi)
    exact ⟨h, lo, hi', by omega, k2⟩
  have hgt : ∀ (i : Int) {h : Nat} {lo hi : Int}, okT t h i lo hi = true → h ≤ 3 → hgtG t 3 i + 1 = h := fun i h lo hi a b => okT_hgt a (by omega)
  have hpg : ∀ i : Nat, pg t (i : Int) = nth t.ps i := fun i => rfl
  have at' : ∀ i : Nat, i < t.ps.length → i ≠ (leafAt t k).toNat → nth (dropQ t k xs).ps i = nth t.ps i := fun i hi hne => by
    show nth (t.ps.set _ _) i = _
    rw [nth_set hi, if_neg (Ne.symm hne)]
  have atl : nth (dropQ t k xs).ps (leafAt t k).toNat = leafG xs := by
    show nth (t.ps.set _ _) _ = _
    rw [nth_set (by omega), if_pos rfl]
  have hcs : ∀ i : Nat, i < t.ps.length → (nth (dropQ t k xs).ps i).cs = (nth t.ps i).cs := fun i hi => by
    by_cases e : i = (leafAt t k).toNat
    · subst e; rw [atl]; exact (List.length_eq_zero_iff.1 l3).symm
    · rw [at' i hi e]
  have alt : ∀ i, alv (dropQ t k xs) [] i ↔ i < t.ps.length := fun i => by
    show (i < (dropQ t k xs).ps.length ∧ _) ↔ _
    rw [hlen]; simp
  have hrl : (rowG (pg t (leafAt t k))).length ≤ 4 := by rw [rowG_len]; exact l5
  have bl : pgB 20 (leafG xs) ∧ shp 1 (leafG xs) := by
    refine leaf_B (by have := hx.length_le; omega) fun x hm => ?_
    have hm2 := hx.subset hm
    have k1 := rowG_mem l4 hm2
    obtain ⟨h, lo, hi, k2⟩ := valid_page hv l2
    have b := (page_B (by omega) k2).1
    exact ⟨b.ks _ k1.1, b.vs _ k1.2⟩
  have hin := inT_iff.1 (okT_top h3).2.1
  refine ⟨fun i => hgtG t 3 (i : Int) + 1, ⟨by omega, fun i hi => ?_, fun g hg => by simp at hg, List.nodup_nil, ⟨hin.1, (alt _).2 (by show t.r.toNat < _; omega)⟩, fun i hi => ?_, fun i hi => ?_, fun i hi c hc => ?_, fun i hi => ?_, fun i j c hi hj ci cj => ?_, fun i hi hc => ?_⟩, ⟨by omega, fun j hj => ?_, fun j hj => ?_⟩⟩
  · rw [hlen] at hi
    by_cases e : i = (leafAt t k).toNat
    · subst e; rw [atl]; exact bl.1
    · rw [at' i hi e]
      obtain ⟨h, lo, hi', _, k2⟩ := page i hi
      exact (page_B (by omega) k2).1
  · obtain ⟨h, lo, hi', k1, k2⟩ := page i ((alt i).1 hi)
    have := hgt _ k2 k1
    have := (okT_top k2).1
    show 1 ≤ hgtG t 3 (i : Int) + 1 ∧ hgtG t 3 (i : Int) + 1 ≤ 3
    omega
  · have hi2 := (alt i).1 hi
    obtain ⟨h, lo, hi', k1, k2⟩ := page i hi2
    show shp (hgtG t 3 (i : Int) + 1) _
    rw [hgt _ k2 k1]
    by_cases e : i = (leafAt t k).toNat
    · have s := (page_B (by omega) k2).2
      have h1' : h = 1 := by
        by_cases q : h = 1
        · exact q
        · have := s.inner q
          rw [hpg, e] at this
          have l3' : (nth t.ps (leafAt t k).toNat).cs.length = 0 := l3
          omega
      subst e; rw [atl, h1']; exact bl.2
    · rw [at' i hi2 e]; exact (page_B (by omega) k2).2
  · have hi2 := (alt i).1 hi
    rw [hcs i hi2] at hc
    obtain ⟨h, lo, hi', k1, k2⟩ := page i hi2
    obtain ⟨h', rfl⟩ : ∃ h', h = h' + 1 := ⟨h - 1, by have := (okT_top k2).1; omega⟩
    obtain ⟨_, lo2, hi2', k3⟩ := okT_kid k2 hc
    have k4 := inT_iff.1 (okT_top k3).2.1
    refine ⟨⟨k4.1, (alt _).2 (by omega)⟩, ?_⟩
    show hgtG t 3 ((c.toNat : Nat) : Int) + 1 + 1 = hgtG t 3 (i : Int) + 1
    rw [show ((c.toNat : Nat) : Int) = c by omega, hgt _ k3 (by omega), hgt _ k2 k1]
  · have hi2 := (alt i).1 hi
    rw [hcs i hi2]
    exact nd.1 _ (mem i hi2)
  · have hi2 := (alt i).1 hi
    have hj2 := (alt j).1 hj
    rw [hcs i hi2] at ci
    rw [hcs j hj2] at cj
    have := nd.2.1 _ (mem i hi2) _ (mem j hj2) c ci cj
    omega
  · have hi2 := (alt i).1 hi
    rw [hcs i hi2] at hc
    exact nd.2.2 _ (mem i hi2) hc
  · have hj' : j < hgtT t := by rw [← l1]; exact hj
    have k1 := inT_iff.1 (hp.inr j hj')
    have e : nth (pthT t k) j = nth (pth t k (hgtT t) t.r) j := rfl
    rw [e]
    exact ⟨k1.1, (alt _).2 (by omega)⟩
  · have hj' : j + 1 < hgtT t := by rw [← l1]; exact hj
    have k1 := hp.mid j hj'
    have k2 := inT_iff.1 (hp.inr j (by omega))
    have e : ∀ j, nth (pthT t k) j = nth (pth t k (hgtT t) t.r) j := fun _ => rfl
    rw [e, e, hcs _ (by omega)]
    have k3 : 2 ≤ (pg t (nth (pth t k (hgtT t) t.r) j)).cs.length := by omega
    exact ⟨k1.2, k3⟩
/-! trees that can be read -/
structure SafeT (t : Pt) : Prop where
  many : 1 ≤ t.ps.length ∧ t.ps.length ≤ 16
  bd : ∀ i, i < t.ps.length → pgB 100 (nth t.ps i)
  wk : ∃ h, wkT t h t.r = true ∧ (wlk t h t.r).length ≤ 216
  rows : rowsOK t
theorem SafeT.small {t : Pt} (h : SafeT t) : smallT t := ⟨by have := h.many; omega, fun i h0 h2 => by
  have k := (h.bd i.toNat (by omega)).ln
  have e : pg t i = nth t.ps i.toNat := rfl
  rw [e]; omega⟩
theorem pgB.le {a b : Int} {p : Pg} (h : pgB a p) (hab : a ≤ b) : pgB b p := ⟨h.ln, h.ks, fun x hx => by have := h.cs x hx; omega, h.vs⟩
theorem wlk_6 {t : Pt} (hc : ∀ i, (pg t i).cs.length ≤ 5) : ∀ (h : Nat) (i : Int), (wlk t h i).length ≤ 6 ^ h
  | 0, _ => by simp [wlk]
  | h + 1, i => by
    have h1 := flatM_len (wlk t h) (6 ^ h) (pg t i).cs fun x _ => wlk_6 hc h x
    have h2 : 6 ^ h * (pg t i).cs.length ≤ 6 ^ h * 5 := Nat.mul_le_mul_left _ (hc i)
    have h3 : 1 ≤ 6 ^ h := Nat.one_le_pow _ _ (by omega)
    rw [wlk_succ, List.length_cons, Nat.pow_succ]
    omega
theorem cs5 {t : Pt} {b : Int} (h : ∀ i, i < t.ps.length → pgB b (nth t.ps i)) (i : Int) : (pg t i).cs.length ≤ 5 := by
  show (nth t.ps i.toNat).cs.length ≤ 5
  by_cases hi : i.toNat < t.ps.length
  · exact (h _ hi).ln.2.1
  · have e : nth t.ps i.toNat = default := by simp [nth, List.getElem?_eq_none (show t.ps.length ≤ i.toNat by omega)]
    rw [e]; show ([] : List Int).length ≤ 5; simp
theorem pow6_le {h : Nat} (h3 : h ≤ 3) : 6 ^ h ≤ 216 := Nat.le_trans (Nat.pow_le_pow_right (by omega) h3) (by decide)
theorem Alv.safe {t : Pt} {ht : Nat → Nat} {b : Int} (h : Alv t [] ht b) (hb : b ≤ 100) : SafeT t := by
  have alt : ∀ i, i < t.ps.length → alv t [] i := fun i hi => ⟨hi, by simp⟩
  have wk : ∀ (n : Nat) (i : Nat), alv t [] i → ht i = n → wkT t n (i : Int) = true := fun n => by
    induction n with
    | zero => intro i hi e; have := (h.hb i hi).1; omega
    | succ n ih =>
      intro i hi e
      rw [wkT, Bool.and_eq_true, List.all_eq_true]
      refine ⟨inT_iff.2 ⟨by omega, by have := hi.1; omega⟩, fun c hc => ?_⟩
      have k := h.kd i hi c hc
      have := ih c.toNat k.1.2 (by omega)
      rwa [show ((c.toNat : Nat) : Int) = c by have := k.1.1; omega] at this
  have hr := h.root
  refine ⟨⟨by have := hr.2.1; omega, h.many⟩, fun i hi => (h.bd i hi).le hb, ⟨ht t.r.toNat, ?_, ?_⟩, fun i hi hc => ?_⟩
  · have := wk _ t.r.toNat hr.2 rfl
    rwa [show ((t.r.toNat : Nat) : Int) = t.r by omega] at this
  · exact Nat.le_trans (wlk_6 (cs5 h.bd) _ _) (pow6_le (h.hb _ hr.2).2)
  · have hi2 := inT_iff.1 hi
    have ha := alt i.toNat (by omega)
    have s := h.sh _ ha
    by_cases e : ht i.toNat = 1
    · exact Nat.le_of_eq (s.leaf e).2.symm
    · have := s.inner e
      have hc' : (nth t.ps i.toNat).cs.length = 0 := hc
      omega
theorem valid_safe {t : Pt} (hv : validT t = true) : SafeT t := by
  obtain ⟨h1, h2, h3, h4, h5⟩ := valid_ok hv
  have bd : ∀ i, i < t.ps.length → pgB 20 (nth t.ps i) := fun i hi => by
    obtain ⟨h, lo, hi', k⟩ := valid_page hv (i := (i : Int)) (inT_iff.2 (by omega))
    exact (page_B (by omega) k).1
  refine ⟨h1, fun i hi => (bd i hi).le (by omega), ⟨hgtT t, okT_wk h3, Nat.le_trans (wlk_6 (cs5 bd) _ _) (pow6_le h2)⟩, fun i hi hc => ?_⟩
  exact Nat.le_of_eq ((valid_facts hv).pgs i hi |>.2 hc).symm
end Go.V

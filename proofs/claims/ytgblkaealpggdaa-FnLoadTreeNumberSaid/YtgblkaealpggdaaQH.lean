/- A part of the proofs about laws of the page tree (see the text that bears the law): a small language of steps, its rules, and what the functions of the program return. -/
import Derived.Test.YtgblkaealpggdaaQG
set_option linter.all false
set_option linter.unusedVariables false
set_option linter.unusedSimpArgs false
namespace Go.V
/-! what is kept while a key is dropped -/
def alv (T : Pt) (G : List Int) (i : Nat) : Prop := i < T.ps.length ∧ (i : Int) ∉ G
structure pgB (b : Int) (p : Pg) : Prop where
  ln : p.ks.length ≤ 4 ∧ p.cs.length ≤ 5 ∧ p.vs.length ≤ 4
  ks : ∀ x ∈ p.ks, -1000 ≤ x ∧ x ≤ 1000
  cs : ∀ x ∈ p.cs, -b ≤ x ∧ x ≤ 1000
  vs : ∀ x ∈ p.vs, -1000 ≤ x ∧ x ≤ 1000
structure shp (h : Nat) (p : Pg) : Prop where
  leaf : h = 1 → p.cs = [] ∧ p.vs.length = p.ks.length
  inner : h ≠ 1 → p.cs.length = p.ks.length + 1
structure Alv (T : Pt) (G : List Int) (ht : Nat → Nat) (b : Int) : Prop where
  many : T.ps.length ≤ 16
  bd : ∀ i, i < T.ps.length → pgB b (nth T.ps i)
  gr : ∀ g ∈ G, 0 ≤ g ∧ g < T.ps.length
  gn : G.Nodup
  root : 0 ≤ T.r ∧ alv T G T.r.toNat
  hb : ∀ i, alv T G i → 1 ≤ ht i ∧ ht i ≤ 3
  sh : ∀ i, alv T G i → shp (ht i) (nth T.ps i)
  kd : ∀ i, alv T G i → ∀ c ∈ (nth T.ps i).cs, (0 ≤ c ∧ alv T G c.toNat) ∧ ht c.toNat + 1 = ht i
  nd : ∀ i, alv T G i → (nth T.ps i).cs.Nodup
  dj : ∀ i j c, alv T G i → alv T G j → c ∈ (nth T.ps i).cs → c ∈ (nth T.ps j).cs → i = j
  nr : ∀ i, alv T G i → T.r ∉ (nth T.ps i).cs
structure Upd (T : Pt) (qs : List Pg) (b : Int) (ht : Nat → Nat) (a b' u : Nat) (J : Prop) : Prop where
  len : qs.length = T.ps.length
  same : ∀ i, i ≠ a → i ≠ b' → i ≠ u → nth qs i = nth T.ps i
  bA : pgB b (nth qs a)
  bB : pgB b (nth qs b')
  bU : pgB b (nth qs u)
  sA : shp (ht a) (nth qs a)
  sB : ¬ J → shp (ht b') (nth qs b')
  sU : shp (ht u) (nth qs u)
  kA : ∀ c ∈ (nth qs a).cs, c ∈ (nth T.ps a).cs ∨ c ∈ (nth T.ps b').cs
  kB : ¬ J → ∀ c ∈ (nth qs b').cs, c ∈ (nth T.ps a).cs ∨ c ∈ (nth T.ps b').cs
  kU : ∀ c ∈ (nth qs u).cs, c ∈ (nth T.ps u).cs ∧ (J → c ≠ b')
  nA : (nth qs a).cs.Nodup
  nB : ¬ J → (nth qs b').cs.Nodup
  nU : (nth qs u).cs.Nodup
  dAB : ¬ J → ∀ c ∈ (nth qs a).cs, c ∉ (nth qs b').cs
structure PthI (pt : List Int) (n : Nat) (T : Pt) (G : List Int) : Prop where
  len : n ≤ pt.length ∧ pt.length ≤ 3
  al : ∀ j, j < n → 0 ≤ nth pt j ∧ alv T G (nth pt j).toNat
  md : ∀ j, j + 1 < n → nth pt (j + 1) ∈ (nth T.ps (nth pt j).toNat).cs ∧ 2 ≤ (nth T.ps (nth pt j).toNat).cs.length
abbrev dUp (pt : List Int) (n : Nat) : Nat := (nth pt (n - 1 - 1)).toNat
abbrev dF (pt : List Int) (n : Nat) (T : Pt) : Nat := plc (nth T.ps (dUp pt n)).cs (nth pt (n - 1)) - 1
structure DropF (T : Pt) (G : List Int) (ht : Nat → Nat) (u f : Nat) : Prop where
  lu : alv T G u
  f1 : f + 1 < (nth T.ps u).cs.length
  ma : mA T u f ∈ (nth T.ps u).cs
  mb : mB T u f ∈ (nth T.ps u).cs
  la : 0 ≤ mA T u f ∧ alv T G (mA T u f).toNat
  lb : 0 ≤ mB T u f ∧ alv T G (mB T u f).toNat
  ha : ht (mA T u f).toNat + 1 = ht u
  hb : ht (mB T u f).toNat + 1 = ht u
  ne : (mA T u f).toNat ≠ (mB T u f).toNat ∧ (mA T u f).toNat ≠ u ∧ (mB T u f).toNat ≠ u
def goneM (T : Pt) (u f : Nat) (G : List Int) : List Int := if mJoin T u f = true then G ++ [mB T u f] else G
/-! pages cut out -/
theorem cutUp_erase {g : Int} {ps : List Pg} (h0 : 0 ≤ g) : ∀ i, i ≤ ps.length → cutUp g ps i = ((ps.take i).eraseIdx g.toNat).map (cutQ g)
  | 0, _ => by simp [cutUp]
  | i + 1, h => by
    have ih := cutUp_erase (ps := ps) h0 i (by omega)
    have hl : (ps.take i).length = i := by simp; omega
    rw [take_succ_nth (by omega)]
    by_cases e : (i : Int) = g
    · rw [cutUp_no e, ih, show g.toNat = i by omega]
      congr 1
      rw [List.eraseIdx_of_length_le (by omega), List.eraseIdx_append_of_length_le (by omega), hl, Nat.sub_self]
      simp
    · rw [cutUp_yes e, ih]
      by_cases hlt : g.toNat < i
      · rw [List.eraseIdx_append_of_lt_length (by omega), List.map_append]; rfl
      · rw [List.eraseIdx_append_of_length_le (by omega), List.eraseIdx_of_length_le (l := ps.take i) (by omega), List.eraseIdx_of_length_le (l := [nth ps i]) (by simp; omega), List.map_append]; rfl
def oldI (g : Int) (j : Nat) : Nat := if (j : Int) < g then j else j + 1
theorem cutT_len {t : Pt} {g : Int} (h : 0 ≤ g ∧ g < t.ps.length) : (cutT t g).ps.length = t.ps.length - 1 := by
  show (cutUp g t.ps t.ps.length).length = _
  rw [cutUp_erase h.1 _ (Nat.le_refl _), List.take_length, List.length_map, List.length_eraseIdx, if_pos (by omega)]
theorem cutT_at {t : Pt} {g : Int} (h : 0 ≤ g ∧ g < t.ps.length) {j : Nat} (hj : j < t.ps.length - 1) : nth (cutT t g).ps j = cutQ g (nth t.ps (oldI g j)) := by
  have hl := cutT_len h
  have e : (cutT t g).ps = (t.ps.eraseIdx g.toNat).map (cutQ g) := by
    show cutUp g t.ps t.ps.length = _
    rw [cutUp_erase h.1 _ (Nat.le_refl _), List.take_length]
  have hle : (t.ps.eraseIdx g.toNat).length = t.ps.length - 1 := by rw [List.length_eraseIdx, if_pos (by omega)]
  rw [e, nth_eq (by rw [List.length_map]; omega), List.getElem_map, List.getElem_eraseIdx, oldI]
  by_cases hlt : (j : Int) < g
  · rw [dif_pos (by omega), if_pos hlt, nth_eq (by omega)]
  · rw [dif_neg (by omega), if_neg hlt, nth_eq (by omega)]
theorem cutC_inj {g c d : Int} (hc : c ≠ g) (hd : d ≠ g) (h : cutC g c = cutC g d) : c = d := by
  simp only [cutC, decide_eq_true_eq] at h
  split at h <;> split at h <;> omega
theorem nodup_mapOn {f : Int → Int} {xs : List Int} (h : xs.Nodup) (hf : ∀ a ∈ xs, ∀ b ∈ xs, f a = f b → a = b) : (xs.map f).Nodup := by
  rw [List.Nodup, List.pairwise_map]
  exact List.Pairwise.imp_of_mem (fun ha hb hne e => hne (hf _ ha _ hb e)) h
theorem cutC_old {g : Int} {n : Nat} {c : Int} (hg : 0 ≤ g ∧ g < n) (h0 : 0 ≤ c) (h1 : c.toNat < n) (hne : c ≠ g) : 0 ≤ cutC g c ∧ (cutC g c).toNat < n - 1 ∧ oldI g (cutC g c).toNat = c.toNat := by
  simp only [cutC, decide_eq_true_eq, oldI]
  split <;> split <;> omega
theorem Alv.cut {T : Pt} {g : Int} {G : List Int} {ht : Nat → Nat} {b : Int} (h : Alv T (g :: G) ht b) : Alv (cutT T g) (G.map (cutC g)) (fun j => ht (oldI g j)) (b + 1) := by
  have hg := h.gr g (List.mem_cons_self ..)
  have hgn := h.gn
  rw [List.nodup_cons] at hgn
  have hgd : ∀ x ∈ G, x ≠ g := fun x hx e => hgn.1 (e ▸ hx)
  have hlen := cutT_len hg
  have nog : ∀ c : Int, 0 ≤ c → alv T (g :: G) c.toNat → c ≠ g := fun c h0 h1 e => h1.2 (by rw [show ((c.toNat : Nat) : Int) = g by omega]; exact List.mem_cons_self ..)
  have old : ∀ j, alv (cutT T g) (G.map (cutC g)) j → alv T (g :: G) (oldI g j) ∧ nth (cutT T g).ps j = cutQ g (nth T.ps (oldI g j)) := fun j hj => by
    have hj1 : j < T.ps.length - 1 := by rw [← hlen]; exact hj.1
    refine ⟨⟨by simp only [oldI]; split <;> omega, fun hm => ?_⟩, cutT_at hg hj1⟩
    rcases List.mem_cons.1 hm with e | hm
    · simp only [oldI] at e; split at e <;> omega
    · refine hj.2 (List.mem_map.2 ⟨_, hm, ?_⟩)
      by_cases hjg : (j : Int) < g
      · rw [oldI, if_pos hjg, cutC, if_neg (by simp; omega)]; omega
      · rw [oldI, if_neg hjg, cutC, if_pos (by simp; omega)]; omega
  have new : ∀ c : Int, 0 ≤ c → alv T (g :: G) c.toNat → (0 ≤ cutC g c ∧ alv (cutT T g) (G.map (cutC g)) (cutC g c).toNat) ∧ oldI g (cutC g c).toNat = c.toNat := fun c h0 h1 => by
    have hne := nog c h0 h1
    have k := cutC_old hg h0 h1.1 hne
    refine ⟨⟨k.1, by rw [hlen]; exact k.2.1, fun hm => ?_⟩, k.2.2⟩
    obtain ⟨x, hx, e⟩ := List.mem_map.1 hm
    have : x = c := cutC_inj (hgd x hx) hne (by omega)
    subst this
    exact h1.2 (by rw [show ((x.toNat : Nat) : Int) = x by omega]; exact List.mem_cons_of_mem _ hx)
  have kn : ∀ i, alv T (g :: G) i → ∀ c ∈ (nth T.ps i).cs, 0 ≤ c ∧ alv T (g :: G) c.toNat := fun i hi c hc => (h.kd i hi c hc).1
  refine ⟨by rw [hlen]; have := h.many; omega, fun i hi => ?_, fun x hx => ?_, ?_, ?_, fun i hi => h.hb _ (old i hi).1, fun i hi => ?_, fun i hi c hc => ?_, fun i hi => ?_, fun i j c hi hj ci cj => ?_, fun i hi hc => ?_⟩
  · rw [cutT_at hg (by rw [← hlen]; exact hi)]
    have k := h.bd (oldI g i) (by rw [hlen] at hi; simp only [oldI]; split <;> omega)
    refine ⟨by have := k.ln; simpa [cutQ] using this, k.ks, fun x hx => ?_, k.vs⟩
    obtain ⟨y, hy, rfl⟩ := List.mem_map.1 hx
    have := k.cs y hy
    have := cutC_le (g := g) this
    omega
  · obtain ⟨y, hy, rfl⟩ := List.mem_map.1 hx
    have k := h.gr y (List.mem_cons_of_mem _ hy)
    have k2 := cutC_old hg k.1 (n := T.ps.length) (by omega) (hgd y hy)
    rw [hlen]; omega
  · exact nodup_mapOn hgn.2 fun x hx y hy e => cutC_inj (hgd x hx) (hgd y hy) e
  · exact (new T.r h.root.1 h.root.2).1
  · have k := old i hi
    rw [k.2]
    have s := h.sh _ k.1
    refine ⟨fun e => ?_, fun e => ?_⟩
    · have := s.leaf e
      exact ⟨by show ((nth T.ps (oldI g i)).cs.map (cutC g)) = []; rw [this.1]; rfl, this.2⟩
    · have := s.inner e
      show ((nth T.ps (oldI g i)).cs.map (cutC g)).length = _
      rw [List.length_map]; exact this
  · have k := old i hi
    rw [k.2] at hc
    obtain ⟨y, hy, rfl⟩ := List.mem_map.1 hc
    have k2 := h.kd _ k.1 y hy
    have k3 := new y k2.1.1 k2.1.2
    exact ⟨k3.1, by show ht (oldI g (cutC g y).toNat) + 1 = _; rw [k3.2]; exact k2.2⟩
  · have k := old i hi
    rw [k.2]
    exact nodup_mapOn (h.nd _ k.1) fun x hx y hy e => cutC_inj (nog x (kn _ k.1 x hx).1 (kn _ k.1 x hx).2) (nog y (kn _ k.1 y hy).1 (kn _ k.1 y hy).2) e
  · have k := old i hi
    have q := old j hj
    rw [k.2] at ci
    rw [q.2] at cj
    obtain ⟨y, hy, rfl⟩ := List.mem_map.1 ci
    obtain ⟨z, hz, e⟩ := List.mem_map.1 cj
    have eq : z = y := cutC_inj (nog z (kn _ q.1 z hz).1 (kn _ q.1 z hz).2) (nog y (kn _ k.1 y hy).1 (kn _ k.1 y hy).2) e
    subst eq
    have := h.dj _ _ z k.1 q.1 hy hz
    simp only [oldI] at this
    split at this <;> split at this <;> omega
  · have k := old i hi
    rw [k.2] at hc
    obtain ⟨y, hy, e⟩ := List.mem_map.1 hc
    have eq : y = T.r := cutC_inj (nog y (kn _ k.1 y hy).1 (kn _ k.1 y hy).2) (nog T.r h.root.1 h.root.2) e
    subst eq
    exact h.nr _ k.1 hy
end Go.V

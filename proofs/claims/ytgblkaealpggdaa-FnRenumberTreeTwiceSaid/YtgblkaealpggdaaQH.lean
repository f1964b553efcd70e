/- A part of the proofs about laws of the page tree (see the text that bears the law): a small language of steps, its rules, and what the functions of the program return. -/
import Derived.Test.YtgblkaealpggdaaQG
set_option linter.all false
set_option linter.unusedVariables false
set_option linter.unusedSimpArgs false
namespace Go.V
/-! what is kept while a key is dropped -/
def alv (T : Pt) (G : List Int) (i : Nat) : Prop := i < T.ps.length ∧ (i : Int) ∉ G
structure pgB (b : Int) (p : Pg) : Prop where
  ln : p.ks.length ≤ 4 ∧ p.cs.length ≤ 5 ∧ p.vs.length ≤ 4
  ks : ∀ x ∈ p.ks, -1000 ≤ x ∧ x ≤ 1000
  cs : ∀ x ∈ p.cs, -b ≤ x ∧ x ≤ 1000
  vs : ∀ x ∈ p.vs, -1000 ≤ x ∧ x ≤ 1000
structure shp (h : Nat) (p : Pg) : Prop where
  leaf : h = 1 → p.cs = [] ∧ p.vs.length = p.ks.length
  inner : h ≠ 1 → p.cs.length = p.ks.length + 1
structure Alv (T : Pt) (G : List Int) (ht : Nat → Nat) (b : Int) : Prop where
  many : T.ps.length ≤ 16
  bd : ∀ i, i < T.ps.length → pgB b (nth T.ps i)
  gr : ∀ g ∈ G, 0 ≤ g ∧ g < T.ps.length
  gn : G.Nodup
  root : 0 ≤ T.r ∧ alv T G T.r.toNat
  hb : ∀ i, alv T G i → 1 ≤ ht i ∧ ht i ≤ 3
  sh : ∀ i, alv T G i → shp (ht i) (nth T.ps i)
  kd : ∀ i, alv T G i → ∀ c ∈ (nth T.ps i).cs, (0 ≤ c ∧ alv T G c.toNat) ∧ ht c.toNat + 1 = ht i
  nd : ∀ i, alv T G i → (nth T.ps i).cs.Nodup
  dj : ∀ i j c, alv T G i → alv T G j → c ∈ (nth T.ps i).cs → c ∈ (nth T.ps j).cs → i = j
  nr : ∀ i, alv T G i → T.r ∉ (nth T.ps i).cs
structure Upd (T : Pt) (qs : List Pg) (b : Int) (ht : Nat → Nat) (a b' u : Nat) (J : Prop) : Prop where
  len : qs.length = T.ps.length
  same : ∀ i, i ≠ a → i ≠ b' → i ≠ u → nth qs i = nth T.ps i
  bA : pgB b (nth qs a)
  bB : pgB b (nth qs b')
  bU : pgB b (nth qs u)
  sA : shp (ht a) (nth qs a)
  sB : ¬ J → shp (ht b') (nth qs b')
  sU : shp (ht u) (nth qs u)
  kA : ∀ c ∈ (nth qs a).cs, c ∈ (nth T.ps a).cs ∨ c ∈ (nth T.ps b').cs
  kB : ¬ J → ∀ c ∈ (nth qs b').cs, c ∈ (nth T.ps a).cs ∨ c ∈ (nth T.ps b').cs
  kU : ∀ c ∈ (nth qs u).cs, c ∈ (nth T.ps u).cs ∧ (J → c ≠ b')
  nA : (nth qs a).cs.Nodup
  nB : ¬ J → (nth qs b').cs.Nodup
  nU : (nth qs u).cs.Nodup
  dAB : ¬ J → ∀ c ∈ (nth qs a).cs, c ∉ (nth qs b').cs
theorem Alv.upd {T : Pt} {qs : List Pg} {G G' : List Int} {ht : Nat → Nat} {b : Int} {a b' u : Nat} {J : Prop} (h : Alv T G ht b) (U : Upd T qs b ht a b' u J) (ne : a ≠ b' ∧ a ≠ u ∧ b' ≠ u) (la : alv T G a) (lb : alv T G b') (lu : alv T G u) (hab : ht a = ht b') (hu : ht u = ht a + 1)
    (mb : (b' : Int) ∈ (nth T.ps u).cs) (hG : ∀ i, alv ⟨T.r, qs⟩ G' i ↔ alv T G i ∧ (J → i ≠ b')) (gr : ∀ g ∈ G', 0 ≤ g ∧ g < qs.length) (gn : G'.Nodup) : Alv ⟨T.r, qs⟩ G' ht b := by
  have org : ∀ i c, alv ⟨T.r, qs⟩ G' i → c ∈ (nth qs i).cs → ∃ o, alv T G o ∧ c ∈ (nth T.ps o).cs ∧ (o = i ∨ ((i = a ∨ i = b') ∧ (o = a ∨ o = b'))) := fun i c hi hc => by
    have hi2 := (hG i).1 hi
    by_cases e1 : i = a
    · subst e1
      rcases U.kA c hc with k | k
      · exact ⟨i, la, k, .inl rfl⟩
      · exact ⟨b', lb, k, .inr ⟨.inl rfl, .inr rfl⟩⟩
    · by_cases e2 : i = b'
      · subst e2
        rcases U.kB (fun j => hi2.2 j rfl) c hc with k | k
        · exact ⟨a, la, k, .inr ⟨.inr rfl, .inl rfl⟩⟩
        · exact ⟨i, lb, k, .inl rfl⟩
      · by_cases e3 : i = u
        · subst e3; exact ⟨i, lu, (U.kU c hc).1, .inl rfl⟩
        · rw [U.same i e1 e2 e3] at hc; exact ⟨i, hi2.1, hc, .inl rfl⟩
  refine ⟨by show qs.length ≤ 16; rw [U.len]; exact h.many, fun i hi => ?_, gr, gn, ⟨h.root.1, (hG _).2 ⟨h.root.2, fun _ e => ?_⟩⟩, fun i hi => h.hb i ((hG i).1 hi).1, fun i hi => ?_, fun i hi c hc => ?_, fun i hi => ?_, fun i j c hi hj ci cj => ?_, fun i hi hc => ?_⟩
  · show pgB b (nth qs i)
    by_cases e1 : i = a
    · subst e1; exact U.bA
    · by_cases e2 : i = b'
      · subst e2; exact U.bB
      · by_cases e3 : i = u
        · subst e3; exact U.bU
        · rw [U.same i e1 e2 e3]; exact h.bd i (by rw [← U.len]; exact hi)
  · have e' : T.r.toNat = b' := e
    have : T.r = (b' : Int) := by have := h.root.1; omega
    exact h.nr u lu (this ▸ mb)
  · have hi2 := (hG i).1 hi
    show shp (ht i) (nth qs i)
    by_cases e1 : i = a
    · subst e1; exact U.sA
    · by_cases e2 : i = b'
      · subst e2; exact U.sB fun j => hi2.2 j rfl
      · by_cases e3 : i = u
        · subst e3; exact U.sU
        · rw [U.same i e1 e2 e3]; exact h.sh i hi2.1
  · obtain ⟨o, lo, co, ho⟩ := org i c hi hc
    have k := h.kd o lo c co
    have hio : ht o = ht i := by
      rcases ho with rfl | ⟨e1, e2⟩
      · rfl
      · rcases e1 with rfl | rfl <;> rcases e2 with rfl | rfl <;> omega
    refine ⟨⟨k.1.1, (hG _).2 ⟨k.1.2, fun j e => ?_⟩⟩, by omega⟩
    have ce : c = (b' : Int) := by have := k.1.1; omega
    by_cases e3 : i = u
    · subst e3; exact (U.kU c hc).2 j ce
    · have hou : o = u := h.dj o u c lo lu co (ce ▸ mb)
      subst hou
      rcases ho with rfl | ⟨_, e2⟩
      · exact e3 rfl
      · omega
  · have hi2 := (hG i).1 hi
    show (nth qs i).cs.Nodup
    by_cases e1 : i = a
    · subst e1; exact U.nA
    · by_cases e2 : i = b'
      · subst e2; exact U.nB fun j => hi2.2 j rfl
      · by_cases e3 : i = u
        · subst e3; exact U.nU
        · rw [U.same i e1 e2 e3]; exact h.nd i hi2.1
  · obtain ⟨o, lo, co, ho⟩ := org i c hi ci
    obtain ⟨q, lq, cq, hq⟩ := org j c hj cj
    have hoq := h.dj o q c lo lq co cq
    subst hoq
    have key : (i = a ∨ i = b') → (j = a ∨ j = b') → i = j := fun h1 h2 => by
      rcases h1 with rfl | rfl <;> rcases h2 with rfl | rfl
      · rfl
      · exact (U.dAB (fun jj => ((hG _).1 hj).2 jj rfl) c ci cj).elim
      · exact (U.dAB (fun jj => ((hG _).1 hi).2 jj rfl) c cj ci).elim
      · rfl
    rcases ho with rfl | ⟨e1, e2⟩
    · rcases hq with rfl | ⟨e3, e4⟩
      · rfl
      · exact key e4 e3
    · rcases hq with rfl | ⟨e3, e4⟩
      · exact key e1 e2
      · exact key e1 e3
  · obtain ⟨o, lo, co, _⟩ := org i _ hi hc
    exact h.nr o lo co
structure PthI (pt : List Int) (n : Nat) (T : Pt) (G : List Int) : Prop where
  len : n ≤ pt.length ∧ pt.length ≤ 3
  al : ∀ j, j < n → 0 ≤ nth pt j ∧ alv T G (nth pt j).toNat
  md : ∀ j, j + 1 < n → nth pt (j + 1) ∈ (nth T.ps (nth pt j).toNat).cs ∧ 2 ≤ (nth T.ps (nth pt j).toNat).cs.length
abbrev dUp (pt : List Int) (n : Nat) : Nat := (nth pt (n - 1 - 1)).toNat
abbrev dF (pt : List Int) (n : Nat) (T : Pt) : Nat := plc (nth T.ps (dUp pt n)).cs (nth pt (n - 1)) - 1
structure DropF (T : Pt) (G : List Int) (ht : Nat → Nat) (u f : Nat) : Prop where
  lu : alv T G u
  f1 : f + 1 < (nth T.ps u).cs.length
  ma : mA T u f ∈ (nth T.ps u).cs
  mb : mB T u f ∈ (nth T.ps u).cs
  la : 0 ≤ mA T u f ∧ alv T G (mA T u f).toNat
  lb : 0 ≤ mB T u f ∧ alv T G (mB T u f).toNat
  ha : ht (mA T u f).toNat + 1 = ht u
  hb : ht (mB T u f).toNat + 1 = ht u
  ne : (mA T u f).toNat ≠ (mB T u f).toNat ∧ (mA T u f).toNat ≠ u ∧ (mB T u f).toNat ≠ u
theorem nodup_nth {xs : List Int} (h : xs.Nodup) {i j : Nat} (hi : i < xs.length) (hj : j < xs.length) (hne : i ≠ j) : nth xs i ≠ nth xs j := fun e =>
  hne (nodup_eq (nodup_iff.2 h) hi hj e)
theorem drop_f {T : Pt} {G : List Int} {ht : Nat → Nat} {b : Int} (h : Alv T G ht b) {u f : Nat} (lu : alv T G u) (f1 : f + 1 < (nth T.ps u).cs.length) : DropF T G ht u f := by
  have ma : mA T u f ∈ (nth T.ps u).cs := nth_mem (by omega)
  have mb : mB T u f ∈ (nth T.ps u).cs := nth_mem f1
  have ka := h.kd u lu _ ma
  have kb := h.kd u lu _ mb
  have hne := nodup_nth (h.nd u lu) (i := f) (j := f + 1) (by omega) f1 (by omega)
  have hne2 : mA T u f ≠ mB T u f := hne
  refine ⟨lu, f1, ma, mb, ka.1, kb.1, ka.2, kb.2, by have := ka.1.1; have := kb.1.1; omega, fun e => ?_, fun e => ?_⟩
  · have := ka.2; rw [e] at this; omega
  · have := kb.2; rw [e] at this; omega
theorem DropF.mend {T : Pt} {G : List Int} {ht : Nat → Nat} {b : Int} (h : Alv T G ht b) {u f : Nat} (d : DropF T G ht u f) : MendOK T u f := by
  have bu := h.bd u d.lu.1
  have su := h.sh u d.lu
  have sa := h.sh _ d.la.2
  have sb := h.sh _ d.lb.2
  have e1 := d.ha
  have e2 := d.hb
  have hu1 : ht u ≠ 1 := by have := (h.hb _ d.la.2).1; omega
  have f1 := d.f1
  refine ⟨d.lu.1, ⟨su.inner hu1, f1⟩, ⟨d.la.1, by have := d.la.2.1; have := d.la.1; omega⟩, ⟨d.lb.1, by have := d.lb.2.1; have := d.lb.1; omega⟩, d.ne.2.1, d.ne.2.2, by have := h.many; omega, fun i hi => by have := (h.bd i hi).ln; omega, fun hc => ?_, fun hc => ?_⟩
  · have ha1 : ht (mA T u f).toNat = 1 := by
      by_cases e : ht (mA T u f).toNat = 1
      · exact e
      · have := sa.inner e
        have hc' : (nth T.ps (mA T u f).toNat).cs.length = 0 := hc
        omega
    have k1 := (sa.leaf ha1).2
    have k2 := (sb.leaf (by omega)).2
    exact ⟨Nat.le_of_eq k1.symm, Nat.le_of_eq k2.symm⟩
  · have ha1 : ht (mA T u f).toNat ≠ 1 := fun e => by
      have := (sa.leaf e).1
      have hc' : (nth T.ps (mA T u f).toNat).cs.length ≠ 0 := hc
      rw [this] at hc'; exact hc' rfl
    exact ⟨sa.inner ha1, sb.inner (by omega)⟩
theorem rowG_mem {p : Pg} (h : p.vs.length = p.ks.length) {x : Int × Int} (hx : x ∈ rowG p) : x.1 ∈ p.ks ∧ x.2 ∈ p.vs := by
  obtain ⟨j, hj, rfl⟩ := List.mem_map.1 hx
  have := List.mem_range.1 hj
  exact ⟨nth_mem this, nth_mem (by omega)⟩
theorem leaf_B {b : Int} {xs : List (Int × Int)} (hl : xs.length ≤ 4) (hx : ∀ x ∈ xs, (-1000 ≤ x.1 ∧ x.1 ≤ 1000) ∧ -1000 ≤ x.2 ∧ x.2 ≤ 1000) : pgB b (leafG xs) ∧ shp 1 (leafG xs) := by
  refine ⟨⟨⟨by simp [leafG]; exact hl, by simp [leafG], by simp [leafG]; exact hl⟩, fun x h => ?_, fun x h => by simp [leafG] at h, fun x h => ?_⟩, fun _ => ⟨rfl, by simp [leafG]⟩, fun h => absurd rfl h⟩
  · obtain ⟨y, hy, rfl⟩ := List.mem_map.1 h; exact (hx y hy).1
  · obtain ⟨y, hy, rfl⟩ := List.mem_map.1 h; exact (hx y hy).2
theorem mem_cut {α : Type} [Inhabited α] {xs : List α} {k : Nat} {x : α} (h : x ∈ xs.take k ++ xs.drop (k + 1)) : x ∈ xs := by
  rcases List.mem_append.1 h with h | h
  · exact List.mem_of_mem_take h
  · exact List.mem_of_mem_drop h
theorem cut_subL {α : Type} {xs : List α} {k : Nat} : (xs.take k ++ xs.drop (k + 1)).Sublist xs := by
  conv => rhs; rw [← List.take_append_drop k xs]
  exact List.Sublist.append (List.Sublist.refl _) (by rw [show k + 1 = k + 1 from rfl, ← List.drop_drop]; exact List.drop_sublist ..)
theorem cut_not {xs : List Int} {k : Nat} (h : xs.Nodup) (hk : k < xs.length) : nth xs k ∉ xs.take k ++ xs.drop (k + 1) := fun hm => by
  have e : xs = xs.take k ++ (nth xs k :: xs.drop (k + 1)) := by rw [nth_eq hk, ← List.drop_eq_getElem_cons hk, List.take_append_drop]
  rw [e, List.nodup_append] at h
  have h2 := h.2.1
  rw [List.nodup_cons] at h2
  rcases List.mem_append.1 hm with hm | hm
  · exact h.2.2 _ hm _ (List.mem_cons_self ..) rfl
  · exact h2.1 hm
theorem cut_B {b : Int} {p : Pg} {f h : Nat} (hp : pgB b p) (hs : p.cs.length = p.ks.length + 1) (hf : f + 1 < p.cs.length) (hh : h ≠ 1) : pgB b (cutG p (f + 1)) ∧ shp h (cutG p (f + 1)) := by
  have l1 : (cutG p (f + 1)).ks.length = p.ks.length - 1 := by simp; omega
  have l2 : (cutG p (f + 1)).cs.length = p.cs.length - 1 := by simp; omega
  refine ⟨⟨⟨by have := hp.ln; omega, by have := hp.ln; omega, by simp⟩, fun x hx => hp.ks x ?_, fun x hx => hp.cs x (mem_cut hx), fun x hx => by simp at hx⟩, fun e => absurd e hh, fun _ => by omega⟩
  rcases List.mem_append.1 hx with hx | hx
  · exact List.mem_of_mem_take hx
  · exact List.mem_of_mem_drop hx
theorem key_B {b : Int} {p : Pg} {f h : Nat} {k : Int} (hp : pgB b p) (hk : -1000 ≤ k ∧ k ≤ 1000) (hs : shp h p) (hh : h ≠ 1) : pgB b (keyG p f k) ∧ shp h (keyG p f k) := by
  refine ⟨⟨by have := hp.ln; simpa using this, fun x hx => ?_, hp.cs, hp.vs⟩, fun e => absurd e hh, fun e => by have := hs.inner e; simpa using this⟩
  rcases List.mem_or_eq_of_mem_set hx with hx | rfl
  · exact hp.ks x hx
  · exact hk
theorem row_B {b : Int} {p q : Pg} (hp : pgB b p) (hq : pgB b q) (vp : p.vs.length = p.ks.length) (vq : q.vs.length = q.ks.length) : ∀ x ∈ rowG p ++ rowG q, (-1000 ≤ x.1 ∧ x.1 ≤ 1000) ∧ -1000 ≤ x.2 ∧ x.2 ≤ 1000 := fun x hx => by
  rcases List.mem_append.1 hx with hx | hx
  · have := rowG_mem vp hx; exact ⟨hp.ks _ this.1, hp.vs _ this.2⟩
  · have := rowG_mem vq hx; exact ⟨hq.ks _ this.1, hq.vs _ this.2⟩
theorem in_B {b : Int} {h : Nat} {ks cs : List Int} (l1 : ks.length ≤ 4) (l2 : cs.length = ks.length + 1) (k1 : ∀ x ∈ ks, -1000 ≤ x ∧ x ≤ 1000) (k2 : ∀ x ∈ cs, -b ≤ x ∧ x ≤ 1000) (hh : h ≠ 1) : pgB b ⟨ks, cs, []⟩ ∧ shp h ⟨ks, cs, []⟩ :=
  ⟨⟨⟨l1, by show cs.length ≤ 5; omega, by simp⟩, k1, k2, fun x hx => by simp at hx⟩, fun e => absurd e hh, fun _ => l2⟩
theorem set3 {ps : List Pg} {a b' u : Nat} {x y z : Pg} (la : a < ps.length) (lb : b' < ps.length) (lu : u < ps.length) (ne : a ≠ b' ∧ a ≠ u ∧ b' ≠ u) :
    nth (((ps.set a x).set b' y).set u z) a = x ∧ nth (((ps.set a x).set b' y).set u z) b' = y ∧ nth (((ps.set a x).set b' y).set u z) u = z ∧ (∀ i, i ≠ a → i ≠ b' → i ≠ u → nth (((ps.set a x).set b' y).set u z) i = nth ps i) ∧ (((ps.set a x).set b' y).set u z).length = ps.length := by
  refine ⟨?_, ?_, ?_, fun i h1 h2 h3 => ?_, by simp⟩
  · rw [nth_set (by simpa using la), if_neg (Ne.symm ne.2.1), nth_set (by simpa using la), if_neg (Ne.symm ne.1), nth_set la, if_pos rfl]
  · rw [nth_set (by simpa using lb), if_neg (Ne.symm ne.2.2), nth_set (by simpa using lb), if_pos rfl]
  · rw [nth_set (by simpa using lu), if_pos rfl]
  · by_cases hl : i < ps.length
    · rw [nth_set (by simpa using hl), if_neg (Ne.symm h3), nth_set (by simpa using hl), if_neg (Ne.symm h2), nth_set hl, if_neg (Ne.symm h1)]
    · simp [nth, List.getElem?_eq_none (show ps.length ≤ i by omega), List.getElem?_eq_none (show (((ps.set a x).set b' y).set u z).length ≤ i by simp; omega)]
theorem set2 {ps : List Pg} {a b' u : Nat} {x z : Pg} (la : a < ps.length) (lb : b' < ps.length) (lu : u < ps.length) (ne : a ≠ b' ∧ a ≠ u ∧ b' ≠ u) :
    nth ((ps.set a x).set u z) a = x ∧ nth ((ps.set a x).set u z) b' = nth ps b' ∧ nth ((ps.set a x).set u z) u = z ∧ (∀ i, i ≠ a → i ≠ b' → i ≠ u → nth ((ps.set a x).set u z) i = nth ps i) ∧ ((ps.set a x).set u z).length = ps.length := by
  have h := set3 (x := x) (y := nth ps b') (z := z) la lb lu ne
  have e : (ps.set a x).set b' (nth ps b') = ps.set a x := by
    have := set_nth_self (xs := ps.set a x) (i := b') (by simpa using lb)
    rwa [nth_set lb, if_neg ne.1] at this
  rw [e] at h; exact h
theorem mend_upd {T : Pt} {G : List Int} {ht : Nat → Nat} {b : Int} (h : Alv T G ht b) {u f : Nat} (d : DropF T G ht u f) : Upd T (mendP T u f) b ht (mA T u f).toNat (mB T u f).toNat u (mJoin T u f = true) := by
  have bu := h.bd u d.lu.1
  have ba := h.bd _ d.la.2.1
  have bb := h.bd _ d.lb.2.1
  have su := h.sh u d.lu
  have sa := h.sh _ d.la.2
  have sb := h.sh _ d.lb.2
  have na := h.nd _ d.la.2
  have nb := h.nd _ d.lb.2
  have nu := h.nd u d.lu
  have e1 := d.ha
  have e2 := d.hb
  have hu1 : ht u ≠ 1 := by have := (h.hb _ d.la.2).1; omega
  have hsu := su.inner hu1
  have f1 := d.f1
  have dab : ∀ c ∈ (mPA T u f).cs, c ∉ (mPB T u f).cs := fun c h1 h2 => d.ne.1 (h.dj _ _ c d.la.2 d.lb.2 h1 h2)
  have mbc : mB T u f = ((mB T u f).toNat : Int) := by have := d.lb.1; omega
  have kU1 : ∀ c ∈ (cutG (nth T.ps u) (f + 1)).cs, c ∈ (nth T.ps u).cs ∧ (True → c ≠ ((mB T u f).toNat : Int)) := fun c hc => ⟨mem_cut hc, fun _ e => cut_not nu f1 (by
    have e3 : nth (nth T.ps u).cs (f + 1) = c := by rw [e, ← mbc]
    rw [e3]; exact hc)⟩
  have nU1 : (cutG (nth T.ps u) (f + 1)).cs.Nodup := List.Nodup.sublist cut_subL nu
  by_cases hc : (mPA T u f).cs.length = 0
  · have ha1 : ht (mA T u f).toNat = 1 := by
      by_cases e : ht (mA T u f).toNat = 1
      · exact e
      · have := sa.inner e
        have hc' : (nth T.ps (mA T u f).toNat).cs.length = 0 := hc
        omega
    have hb1 : ht (mB T u f).toNat = 1 := by omega
    have va := (sa.leaf ha1).2
    have vb := (sb.leaf hb1).2
    have hr := row_B ba bb va vb
    have hl : (mRow T u f).length ≤ 8 := by
      have l1 : (mPA T u f).ks.length ≤ 4 := ba.ln.1
      have l2 : (mPB T u f).ks.length ≤ 4 := bb.ln.1
      rw [mRow_len]; omega
    by_cases hj : (mRow T u f).length ≤ 4
    · have ej : (mJoin T u f = true) = True := by rw [mJoin, if_pos hc, decide_eq_true hj]; simp
      obtain ⟨x1, x2, x3, x4, x5⟩ := set2 (x := leafG (mRow T u f)) (z := cutG (nth T.ps u) (f + 1)) d.la.2.1 d.lb.2.1 d.lu.1 d.ne
      have ep : mendP T u f = (T.ps.set (mA T u f).toNat (leafG (mRow T u f))).set u (cutG (nth T.ps u) (f + 1)) := by rw [mendP, if_pos hc, if_pos hj]
      have hB := leaf_B (b := b) hj hr
      have hU := cut_B bu hsu f1 hu1
      rw [ej, ep]
      exact ⟨x5, x4, by rw [x1]; exact hB.1, by rw [x2]; exact bb, by rw [x3]; exact hU.1, by rw [x1, ha1]; exact hB.2, fun hn => absurd trivial hn, by rw [x3]; exact hU.2, by rw [x1]; intro c hc; simp [leafG] at hc, fun hn => absurd trivial hn, by rw [x3]; exact kU1, by rw [x1]; simp [leafG], fun hn => absurd trivial hn, by rw [x3]; exact nU1, fun hn => absurd trivial hn⟩
    · have ej : (mJoin T u f = true) = False := by rw [mJoin, if_pos hc, decide_eq_false hj]; simp
      obtain ⟨x1, x2, x3, x4, x5⟩ := set3 (x := leafG ((mRow T u f).take (halfM T u f))) (y := leafG ((mRow T u f).drop (halfM T u f))) (z := keyG (nth T.ps u) f (nth (mRow T u f) (halfM T u f)).1) d.la.2.1 d.lb.2.1 d.lu.1 d.ne
      have ep : mendP T u f = ((T.ps.set (mA T u f).toNat (leafG ((mRow T u f).take (halfM T u f)))).set (mB T u f).toNat (leafG ((mRow T u f).drop (halfM T u f)))).set u (keyG (nth T.ps u) f (nth (mRow T u f) (halfM T u f)).1) := by rw [mendP, if_pos hc, if_neg hj]
      have hhm : halfM T u f = ((mRow T u f).length + 1) / 2 := rfl
      have hB1 := leaf_B (b := b) (xs := (mRow T u f).take (halfM T u f)) (by simp; omega) fun x hx => hr x (List.mem_of_mem_take hx)
      have hB2 := leaf_B (b := b) (xs := (mRow T u f).drop (halfM T u f)) (by simp; omega) fun x hx => hr x (List.mem_of_mem_drop hx)
      have hU := key_B (f := f) bu (hr (nth (mRow T u f) (halfM T u f)) (show _ ∈ mRow T u f from nth_mem (by omega))).1 su hu1
      rw [ej, ep]
      exact ⟨x5, x4, by rw [x1]; exact hB1.1, by rw [x2]; exact hB2.1, by rw [x3]; exact hU.1, by rw [x1, ha1]; exact hB1.2, fun _ => by rw [x2, hb1]; exact hB2.2, by rw [x3]; exact hU.2, by rw [x1]; intro c hc; simp [leafG] at hc, fun _ => by rw [x2]; intro c hc; simp [leafG] at hc, by rw [x3]; exact fun c hc => ⟨hc, fun hn => hn.elim⟩, by rw [x1]; simp [leafG], fun _ => by rw [x2]; simp [leafG], by rw [x3]; exact nu, fun _ => by rw [x1]; intro c hc; simp [leafG] at hc⟩
  · have ha1 : ht (mA T u f).toNat ≠ 1 := fun e => hc (by show (nth T.ps (mA T u f).toNat).cs.length = 0; rw [(sa.leaf e).1]; rfl)
    have hb1 : ht (mB T u f).toNat ≠ 1 := by omega
    have ia := sa.inner ha1
    have ib := sb.inner hb1
    have hkl := mKs_len (t := T) (up := u) (f := f)
    have hcl := mCs_len (t := T) (up := u) (f := f)
    have hlen : (mCs T u f).length = (mKs T u f).length + 1 := by
      have ia' : (mPA T u f).cs.length = (mPA T u f).ks.length + 1 := ia
      have ib' : (mPB T u f).cs.length = (mPB T u f).ks.length + 1 := ib
      omega
    have hk9 : (mKs T u f).length ≤ 9 := by
      have l1 : (mPA T u f).ks.length ≤ 4 := ba.ln.1
      have l2 : (mPB T u f).ks.length ≤ 4 := bb.ln.1
      omega
    have hkm : ∀ x ∈ mKs T u f, -1000 ≤ x ∧ x ≤ 1000 := fun x hx => by
      rcases List.mem_append.1 hx with hx | hx
      · rcases List.mem_append.1 hx with hx | hx
        · exact ba.ks x hx
        · simp at hx; subst hx; exact bu.ks _ (nth_mem (by omega))
      · exact bb.ks x hx
    have hcm : ∀ x ∈ mCs T u f, x ∈ (mPA T u f).cs ∨ x ∈ (mPB T u f).cs := fun x hx => List.mem_append.1 hx
    have hcb : ∀ x ∈ mCs T u f, -b ≤ x ∧ x ≤ 1000 := fun x hx => (hcm x hx).elim (ba.cs x) (bb.cs x)
    have hnd : (mCs T u f).Nodup := List.nodup_append.2 ⟨na, nb, fun x h1 y h2 e => dab x h1 (e ▸ h2)⟩
    by_cases hj : (mKs T u f).length ≤ 4
    · have ej : (mJoin T u f = true) = True := by rw [mJoin, if_neg hc, decide_eq_true hj]; simp
      obtain ⟨x1, x2, x3, x4, x5⟩ := set2 (x := (⟨mKs T u f, mCs T u f, []⟩ : Pg)) (z := cutG (nth T.ps u) (f + 1)) d.la.2.1 d.lb.2.1 d.lu.1 d.ne
      have ep : mendP T u f = (T.ps.set (mA T u f).toNat ⟨mKs T u f, mCs T u f, []⟩).set u (cutG (nth T.ps u) (f + 1)) := by rw [mendP, if_neg hc, if_pos hj]
      have hB := in_B (b := b) hj hlen hkm hcb ha1
      have hU := cut_B bu hsu f1 hu1
      rw [ej, ep]
      exact ⟨x5, x4, by rw [x1]; exact hB.1, by rw [x2]; exact bb, by rw [x3]; exact hU.1, by rw [x1]; exact hB.2, fun hn => absurd trivial hn, by rw [x3]; exact hU.2, by rw [x1]; exact hcm, fun hn => absurd trivial hn, by rw [x3]; exact kU1, by rw [x1]; exact hnd, fun hn => absurd trivial hn, by rw [x3]; exact nU1, fun hn => absurd trivial hn⟩
    · have ej : (mJoin T u f = true) = False := by rw [mJoin, if_neg hc, decide_eq_false hj]; simp
      have hhi : halfI (mKs T u f) = (mKs T u f).length / 2 := rfl
      obtain ⟨x1, x2, x3, x4, x5⟩ := set3 (x := (⟨(mKs T u f).take (halfI (mKs T u f)), (mCs T u f).take (halfI (mKs T u f) + 1), []⟩ : Pg)) (y := ⟨(mKs T u f).drop (halfI (mKs T u f) + 1), (mCs T u f).drop (halfI (mKs T u f) + 1), []⟩) (z := keyG (nth T.ps u) f (nth (mKs T u f) (halfI (mKs T u f)))) d.la.2.1 d.lb.2.1 d.lu.1 d.ne
      have ep : mendP T u f = ((T.ps.set (mA T u f).toNat ⟨(mKs T u f).take (halfI (mKs T u f)), (mCs T u f).take (halfI (mKs T u f) + 1), []⟩).set (mB T u f).toNat ⟨(mKs T u f).drop (halfI (mKs T u f) + 1), (mCs T u f).drop (halfI (mKs T u f) + 1), []⟩).set u (keyG (nth T.ps u) f (nth (mKs T u f) (halfI (mKs T u f)))) := by rw [mendP, if_neg hc, if_neg hj]
      have hB1 := in_B (b := b) (ks := (mKs T u f).take (halfI (mKs T u f))) (cs := (mCs T u f).take (halfI (mKs T u f) + 1)) (by rw [List.length_take]; omega) (by rw [List.length_take, List.length_take]; omega) (fun x hx => hkm x (List.mem_of_mem_take hx)) (fun x hx => hcb x (List.mem_of_mem_take hx)) ha1
      have hB2 := in_B (b := b) (ks := (mKs T u f).drop (halfI (mKs T u f) + 1)) (cs := (mCs T u f).drop (halfI (mKs T u f) + 1)) (by rw [List.length_drop]; omega) (by rw [List.length_drop, List.length_drop]; omega) (fun x hx => hkm x (List.mem_of_mem_drop hx)) (fun x hx => hcb x (List.mem_of_mem_drop hx)) hb1
      have hU := key_B (f := f) bu (hkm (nth (mKs T u f) (halfI (mKs T u f))) (nth_mem (by omega))) su hu1
      have hsp : ((mCs T u f).take (halfI (mKs T u f) + 1) ++ (mCs T u f).drop (halfI (mKs T u f) + 1)).Nodup := by rw [List.take_append_drop]; exact hnd
      rw [List.nodup_append] at hsp
      rw [ej, ep]
      exact ⟨x5, x4, by rw [x1]; exact hB1.1, by rw [x2]; exact hB2.1, by rw [x3]; exact hU.1, by rw [x1]; exact hB1.2, fun _ => by rw [x2]; exact hB2.2, by rw [x3]; exact hU.2, by rw [x1]; exact fun c hc => hcm c (List.mem_of_mem_take hc), fun _ => by rw [x2]; exact fun c hc => hcm c (List.mem_of_mem_drop hc), by rw [x3]; exact fun c hc => ⟨hc, fun hn => hn.elim⟩, by rw [x1]; exact hsp.1, fun _ => by rw [x2]; exact hsp.2.1, by rw [x3]; exact nu, fun _ => by rw [x1, x2]; exact fun c h1 h2 => hsp.2.2 c h1 c h2 rfl⟩
def goneM (T : Pt) (u f : Nat) (G : List Int) : List Int := if mJoin T u f = true then G ++ [mB T u f] else G
theorem pth_ht {pt : List Int} {n : Nat} {T : Pt} {G : List Int} {ht : Nat → Nat} {b : Int} (h : Alv T G ht b) (p : PthI pt n T G) : ∀ d j, j + d < n → ht (nth pt (j + d)).toNat + d = ht (nth pt j).toNat
  | 0, _, _ => rfl
  | d + 1, j, hj => by
    have h1 := pth_ht h p d j (by omega)
    have h2 := h.kd _ (p.al (j + d) (by omega)).2 _ (p.md (j + d) (by omega)).1
    rw [show j + (d + 1) = j + d + 1 by omega]
    omega
theorem drop_step {pt : List Int} {n : Nat} {T : Pt} {G : List Int} {ht : Nat → Nat} {b : Int} (h : Alv T G ht b) (p : PthI pt n T G) (h1 : 1 < n) :
    DropF T G ht (dUp pt n) (dF pt n T) ∧ Alv (mendT T (dUp pt n) (dF pt n T)) (goneM T (dUp pt n) (dF pt n T) G) ht b ∧ PthI pt (n - 1) (mendT T (dUp pt n) (dF pt n T)) (goneM T (dUp pt n) (dF pt n T) G) := by
  have hl := p.len
  have hlu := p.al (n - 1 - 1) (by omega)
  have hmd := p.md (n - 1 - 1) (by omega)
  rw [show n - 1 - 1 + 1 = n - 1 by omega] at hmd
  have hpl := plc_lt hmd.1
  have d : DropF T G ht (dUp pt n) (dF pt n T) := drop_f h hlu.2 (by
    have h2 : 2 ≤ (nth T.ps (dUp pt n)).cs.length := hmd.2
    have h3 : plc (nth T.ps (dUp pt n)).cs (nth pt (n - 1)) < (nth T.ps (dUp pt n)).cs.length := hpl
    show plc (nth T.ps (dUp pt n)).cs (nth pt (n - 1)) - 1 + 1 < _
    omega)
  have hht := pth_ht h p
  generalize hu : dUp pt n = u at *
  generalize hf : dF pt n T = f at *
  have U := mend_upd h d
  have mbc : mB T u f = ((mB T u f).toNat : Int) := by have := d.lb.1; omega
  have hG : ∀ i, alv ⟨T.r, mendP T u f⟩ (goneM T u f G) i ↔ alv T G i ∧ (mJoin T u f = true → i ≠ (mB T u f).toNat) := fun i => by
    show (i < (mendP T u f).length ∧ (i : Int) ∉ goneM T u f G) ↔ (i < T.ps.length ∧ (i : Int) ∉ G) ∧ _
    rw [U.len, goneM]
    by_cases hj : mJoin T u f = true
    · rw [if_pos hj, List.mem_append, List.mem_singleton, not_or]
      constructor
      · rintro ⟨k1, k2, k3⟩; exact ⟨⟨k1, k2⟩, fun _ e => k3 (by rw [mbc, e])⟩
      · rintro ⟨⟨k1, k2⟩, k3⟩; exact ⟨k1, k2, fun e => k3 hj (by rw [mbc] at e; omega)⟩
    · rw [if_neg hj]
      exact ⟨fun k => ⟨k, fun e => absurd e hj⟩, fun k => k.1⟩
  have e1 := d.ha
  have e2 := d.hb
  refine ⟨d, h.upd U d.ne d.la.2 d.lb.2 d.lu (by omega) (by omega) (by rw [← mbc]; exact d.mb) hG (fun g hg => ?_) ?_, ⟨by omega, fun j hj => ?_, fun j hj => ?_⟩⟩
  · rw [U.len]
    rw [goneM] at hg
    split at hg
    · rcases List.mem_append.1 hg with hg | hg
      · exact h.gr g hg
      · simp at hg; subst hg; have := d.lb.2.1; have := d.lb.1; omega
    · exact h.gr g hg
  · rw [goneM]
    split
    · refine List.nodup_append.2 ⟨h.gn, by simp, fun x hx y hy e => ?_⟩
      simp at hy; subst hy; subst e
      exact d.lb.2.2 (by rw [← mbc]; exact hx)
    · exact h.gn
  · have k := p.al j (by omega)
    refine ⟨k.1, (hG _).2 ⟨k.2, fun _ e => ?_⟩⟩
    have k2 := hht (n - 1 - 1 - j) j (by omega)
    rw [show j + (n - 1 - 1 - j) = n - 1 - 1 by omega, e] at k2
    have k3 : ht (nth pt (n - 1 - 1)).toNat = ht u := by rw [← hu]
    omega
  · have k := p.md j (by omega)
    have k2 := hht (n - 1 - 1 - j) j (by omega)
    rw [show j + (n - 1 - 1 - j) = n - 1 - 1 by omega] at k2
    have k3 : ht (nth pt (n - 1 - 1)).toNat = ht u := by rw [← hu]
    show nth pt (j + 1) ∈ (nth (mendP T u f) (nth pt j).toNat).cs ∧ _ ≤ (nth (mendP T u f) (nth pt j).toNat).cs.length
    rw [U.same (nth pt j).toNat (fun e => by rw [e] at k2; omega) (fun e => by rw [e] at k2; omega) (fun e => by rw [e] at k2; omega)]
    exact k
/-! pages cut out -/
theorem cutUp_erase {g : Int} {ps : List Pg} (h0 : 0 ≤ g) : ∀ i, i ≤ ps.length → cutUp g ps i = ((ps.take i).eraseIdx g.toNat).map (cutQ g)
  | 0, _ => by simp [cutUp]
  | i + 1, h => by
    have ih := cutUp_erase (ps := ps) h0 i (by omega)
    have hl : (ps.take i).length = i := by simp; omega
    rw [take_succ_nth (by omega)]
    by_cases e : (i : Int) = g
    · rw [cutUp_no e, ih, show g.toNat = i by omega]
      congr 1
      rw [List.eraseIdx_of_length_le (by omega), List.eraseIdx_append_of_length_le (by omega), hl, Nat.sub_self]
      simp
    · rw [cutUp_yes e, ih]
      by_cases hlt : g.toNat < i
      · rw [List.eraseIdx_append_of_lt_length (by omega), List.map_append]; rfl
      · rw [List.eraseIdx_append_of_length_le (by omega), List.eraseIdx_of_length_le (l := ps.take i) (by omega), List.eraseIdx_of_length_le (l := [nth ps i]) (by simp; omega), List.map_append]; rfl
def oldI (g : Int) (j : Nat) : Nat := if (j : Int) < g then j else j + 1
theorem cutT_len {t : Pt} {g : Int} (h : 0 ≤ g ∧ g < t.ps.length) : (cutT t g).ps.length = t.ps.length - 1 := by
  show (cutUp g t.ps t.ps.length).length = _
  rw [cutUp_erase h.1 _ (Nat.le_refl _), List.take_length, List.length_map, List.length_eraseIdx, if_pos (by omega)]
theorem cutT_at {t : Pt} {g : Int} (h : 0 ≤ g ∧ g < t.ps.length) {j : Nat} (hj : j < t.ps.length - 1) : nth (cutT t g).ps j = cutQ g (nth t.ps (oldI g j)) := by
  have hl := cutT_len h
  have e : (cutT t g).ps = (t.ps.eraseIdx g.toNat).map (cutQ g) := by
    show cutUp g t.ps t.ps.length = _
    rw [cutUp_erase h.1 _ (Nat.le_refl _), List.take_length]
  have hle : (t.ps.eraseIdx g.toNat).length = t.ps.length - 1 := by rw [List.length_eraseIdx, if_pos (by omega)]
  rw [e, nth_eq (by rw [List.length_map]; omega), List.getElem_map, List.getElem_eraseIdx, oldI]
  by_cases hlt : (j : Int) < g
  · rw [dif_pos (by omega), if_pos hlt, nth_eq (by omega)]
  · rw [dif_neg (by omega), if_neg hlt, nth_eq (by omega)]
theorem cutC_inj {g c d : Int} (hc : c ≠ g) (hd : d ≠ g) (h : cutC g c = cutC g d) : c = d := by
  simp only [cutC, decide_eq_true_eq] at h
  split at h <;> split at h <;> omega
theorem nodup_mapOn {f : Int → Int} {xs : List Int} (h : xs.Nodup) (hf : ∀ a ∈ xs, ∀ b ∈ xs, f a = f b → a = b) : (xs.map f).Nodup := by
  rw [List.Nodup, List.pairwise_map]
  exact List.Pairwise.imp_of_mem (fun ha hb hne e => hne (hf _ ha _ hb e)) h
theorem cutC_old {g : Int} {n : Nat} {c : Int} (hg : 0 ≤ g ∧ g < n) (h0 : 0 ≤ c) (h1 : c.toNat < n) (hne : c ≠ g) : 0 ≤ cutC g c ∧ (cutC g c).toNat < n - 1 ∧ oldI g (cutC g c).toNat = c.toNat := by
  simp only [cutC, decide_eq_true_eq, oldI]
  split <;> split <;> omega
theorem Alv.cut {T : Pt} {g : Int} {G : List Int} {ht : Nat → Nat} {b : Int} (h : Alv T (g :: G) ht b) : Alv (cutT T g) (G.map (cutC g)) (fun j => ht (oldI g j)) (b + 1) := by
  have hg := h.gr g (List.mem_cons_self ..)
  have hgn := h.gn
  rw [List.nodup_cons] at hgn
  have hgd : ∀ x ∈ G, x ≠ g := fun x hx e => hgn.1 (e ▸ hx)
  have hlen := cutT_len hg
  have nog : ∀ c : Int, 0 ≤ c → alv T (g :: G) c.toNat → c ≠ g := fun c h0 h1 e => h1.2 (by rw [show ((c.toNat : Nat) : Int) = g by omega]; exact List.mem_cons_self ..)
  have old : ∀ j, alv (cutT T g) (G.map (cutC g)) j → alv T (g :: G) (oldI g j) ∧ nth (cutT T g).ps j = cutQ g (nth T.ps (oldI g j)) := fun j hj => by
    have hj1 : j < T.ps.length - 1 := by rw [← hlen]; exact hj.1
    refine ⟨⟨by simp only [oldI]; split <;> omega, fun hm => ?_⟩, cutT_at hg hj1⟩
    rcases List.mem_cons.1 hm with e | hm
    · simp only [oldI] at e; split at e <;> omega
    · refine hj.2 (List.mem_map.2 ⟨_, hm, ?_⟩)
      by_cases hjg : (j : Int) < g
      · rw [oldI, if_pos hjg, cutC, if_neg (by simp; omega)]; omega
      · rw [oldI, if_neg hjg, cutC, if_pos (by simp; omega)]; omega
  have new : ∀ c : Int, 0 ≤ c → alv T (g :: G) c.toNat → (0 ≤ cutC g c ∧ alv (cutT T g) (G.map (cutC g)) (cutC g c).toNat) ∧ oldI g (cutC g c).toNat = c.toNat := fun c h0 h1 => by
    have hne := nog c h0 h1
    have k := cutC_old hg h0 h1.1 hne
    refine ⟨⟨k.1, by rw [hlen]; exact k.2.1, fun hm => ?_⟩, k.2.2⟩
    obtain ⟨x, hx, e⟩ := List.mem_map.1 hm
    have : x = c := cutC_inj (hgd x hx) hne (by omega)
    subst this
    exact h1.2 (by rw [show ((x.toNat : Nat) : Int) = x by omega]; exact List.mem_cons_of_mem _ hx)
  have kn : ∀ i, alv T (g :: G) i → ∀ c ∈ (nth T.ps i).cs, 0 ≤ c ∧ alv T (g :: G) c.toNat := fun i hi c hc => (h.kd i hi c hc).1
  refine ⟨by rw [hlen]; have := h.many; omega, fun i hi => ?_, fun x hx => ?_, ?_, ?_, fun i hi => h.hb _ (old i hi).1, fun i hi => ?_, fun i hi c hc => ?_, fun i hi => ?_, fun i j c hi hj ci cj => ?_, fun i hi hc => ?_⟩
  · rw [cutT_at hg (by rw [← hlen]; exact hi)]
    have k := h.bd (oldI g i) (by rw [hlen] at hi; simp only [oldI]; split <;> omega)
    refine ⟨by have := k.ln; simpa [cutQ] using this, k.ks, fun x hx => ?_, k.vs⟩
    obtain ⟨y, hy, rfl⟩ := List.mem_map.1 hx
    have := k.cs y hy
    have := cutC_le (g := g) this
    omega
  · obtain ⟨y, hy, rfl⟩ := List.mem_map.1 hx
    have k := h.gr y (List.mem_cons_of_mem _ hy)
    have k2 := cutC_old hg k.1 (n := T.ps.length) (by omega) (hgd y hy)
    rw [hlen]; omega
  · exact nodup_mapOn hgn.2 fun x hx y hy e => cutC_inj (hgd x hx) (hgd y hy) e
  · exact (new T.r h.root.1 h.root.2).1
  · have k := old i hi
    rw [k.2]
    have s := h.sh _ k.1
    refine ⟨fun e => ?_, fun e => ?_⟩
    · have := s.leaf e
      exact ⟨by show ((nth T.ps (oldI g i)).cs.map (cutC g)) = []; rw [this.1]; rfl, this.2⟩
    · have := s.inner e
      show ((nth T.ps (oldI g i)).cs.map (cutC g)).length = _
      rw [List.length_map]; exact this
  · have k := old i hi
    rw [k.2] at hc
    obtain ⟨y, hy, rfl⟩ := List.mem_map.1 hc
    have k2 := h.kd _ k.1 y hy
    have k3 := new y k2.1.1 k2.1.2
    exact ⟨k3.1, by show ht (oldI g (cutC g y).toNat) + 1 = _; rw [k3.2]; exact k2.2⟩
  · have k := old i hi
    rw [k.2]
    exact nodup_mapOn (h.nd _ k.1) fun x hx y hy e => cutC_inj (nog x (kn _ k.1 x hx).1 (kn _ k.1 x hx).2) (nog y (kn _ k.1 y hy).1 (kn _ k.1 y hy).2) e
  · have k := old i hi
    have q := old j hj
    rw [k.2] at ci
    rw [q.2] at cj
    obtain ⟨y, hy, rfl⟩ := List.mem_map.1 ci
    obtain ⟨z, hz, e⟩ := List.mem_map.1 cj
    have eq : z = y := cutC_inj (nog z (kn _ q.1 z hz).1 (kn _ q.1 z hz).2) (nog y (kn _ k.1 y hy).1 (kn _ k.1 y hy).2) e
    subst eq
    have := h.dj _ _ z k.1 q.1 hy hz
    simp only [oldI] at this
    split at this <;> split at this <;> omega
  · have k := old i hi
    rw [k.2] at hc
    obtain ⟨y, hy, e⟩ := List.mem_map.1 hc
    have eq : y = T.r := cutC_inj (nog y (kn _ k.1 y hy).1 (kn _ k.1 y hy).2) (nog T.r h.root.1 h.root.2) e
    subst eq
    exact h.nr _ k.1 hy
theorem Alv.root1 {T : Pt} {G : List Int} {ht : Nat → Nat} {b : Int} {c : Int} (h : Alv T G ht b) (hc : (nth T.ps T.r.toNat).cs = [c]) : Alv ⟨c, T.ps⟩ (G ++ [T.r]) ht b := by
  have hr := h.root
  have cr : (T.r.toNat : Int) = T.r := by omega
  have mc : c ∈ (nth T.ps T.r.toNat).cs := by rw [hc]; simp
  have hG : ∀ i, alv ⟨c, T.ps⟩ (G ++ [T.r]) i ↔ alv T G i ∧ i ≠ T.r.toNat := fun i => by
    show (i < T.ps.length ∧ (i : Int) ∉ G ++ [T.r]) ↔ _
    rw [List.mem_append, List.mem_singleton, not_or]
    exact ⟨fun k => ⟨⟨k.1, k.2.1⟩, by omega⟩, fun k => ⟨k.1.1, k.1.2, by omega⟩⟩
  have kid : ∀ i, alv T G i → ∀ x ∈ (nth T.ps i).cs, (0 ≤ x ∧ alv ⟨c, T.ps⟩ (G ++ [T.r]) x.toNat) ∧ ht x.toNat + 1 = ht i := fun i hi x hx => by
    have k := h.kd i hi x hx
    exact ⟨⟨k.1.1, (hG _).2 ⟨k.1.2, fun e => h.nr i hi (by rw [show T.r = x by omega]; exact hx)⟩⟩, k.2⟩
  refine ⟨h.many, h.bd, fun g hg => ?_, ?_, (kid _ hr.2 c mc).1, fun i hi => h.hb i ((hG i).1 hi).1, fun i hi => h.sh i ((hG i).1 hi).1, fun i hi => kid i ((hG i).1 hi).1, fun i hi => h.nd i ((hG i).1 hi).1, fun i j x hi hj => h.dj i j x ((hG i).1 hi).1 ((hG j).1 hj).1, fun i hi hm => ?_⟩
  · rcases List.mem_append.1 hg with hg | hg
    · exact h.gr g hg
    · simp at hg; subst hg; have := hr.2.1; exact ⟨hr.1, by show T.r < (T.ps.length : Int); omega⟩
  · refine List.nodup_append.2 ⟨h.gn, by simp, fun x hx y hy e => ?_⟩
    simp at hy; subst hy; subst e
    exact hr.2.2 (by rw [cr]; exact hx)
  · have k := (hG i).1 hi
    exact k.2 (h.dj i _ c k.1 hr.2 hm mc)
end Go.V

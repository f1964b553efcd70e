/- A part of the proofs about laws of the page tree (see the text that bears the law): a small language of steps, its rules, and what the functions of the program return. -/
import Derived.Test.YtgblkaealpggdaaLF
set_option linter.all false
set_option linter.unusedVariables false
set_option linter.unusedSimpArgs false
namespace Go.V
/-! leaves, pairs, paths -/
def rowG (p : Pg) : List (Int × Int) := (List.range p.ks.length).map fun i => (nth p.ks i, nth p.vs i)
theorem rowG_len {p : Pg} : (rowG p).length = p.ks.length := by simp [rowG]
def rowTo (p : Pg) (i : Nat) : List (Int × Int) := (List.range i).map fun i => (nth p.ks i, nth p.vs i)
theorem rowTo_succ {p : Pg} {i : Nat} : rowTo p (i + 1) = rowTo p i ++ [(nth p.ks i, nth p.vs i)] := by simp [rowTo, List.range_succ]
def isLf (t : Pt) (i : Int) : Bool := decide ((pg t i).cs.length = 0)
def lvT (t : Pt) (h : Nat) : List Int := (wlk t h t.r).filter (isLf t)
def prT (t : Pt) (h : Nat) : List (Int × Int) := (lvT t h).flatMap fun i => rowG (pg t i)
theorem filter_step {t : Pt} {l : List Int} {j : Nat} (h : j < l.length) : (l.take (j + 1)).filter (isLf t) = (l.take j).filter (isLf t) ++ (if isLf t (nth l j) then [nth l j] else []) := by
  rw [take_succ_nth h, List.filter_append]
  cases hl : isLf t (nth l j) <;> simp [hl]
theorem flat_part {α β : Type} [Inhabited α] {xs : List α} {j : Nat} (f : α → List β) (hj : j < xs.length) : ((xs.take j).flatMap f).length + (f (nth xs j)).length ≤ (xs.flatMap f).length := by
  have e : xs.flatMap f = (xs.take (j + 1)).flatMap f ++ (xs.drop (j + 1)).flatMap f := by rw [← List.flatMap_append, List.take_append_drop]
  rw [e, flat_take hj, List.length_append, List.length_append]; omega
def rowsOK (t : Pt) : Prop := ∀ i, inT t i = true → (pg t i).cs.length = 0 → (pg t i).ks.length ≤ (pg t i).vs.length
def pth (t : Pt) (k : Int) : Nat → Int → List Int
  | 0, _ => []
  | h + 1, i => i :: (if (pg t i).cs.length = 0 then [] else pth t k h (nth (pg t i).cs (upTo (pg t i).ks k)))
theorem pth_leaf {t : Pt} {k : Int} {h : Nat} {i : Int} (hc : (pg t i).cs.length = 0) : pth t k (h + 1) i = [i] := by rw [pth, if_pos hc]
theorem pth_inner {t : Pt} {k : Int} {h : Nat} {i : Int} (hc : (pg t i).cs.length ≠ 0) : pth t k (h + 1) i = i :: pth t k h (nth (pg t i).cs (upTo (pg t i).ks k)) := by rw [pth, if_neg hc]
end Go.V
namespace Go.V
def plc (xs : List Int) (k : Int) : Nat := xs.findIdx fun x => decide (x = k)
theorem plc_eq {xs : List Int} {k : Int} {i : Nat} (h : i < xs.length) (h1 : nth xs i = k) (h2 : ∀ j, j < i → nth xs j ≠ k) : plc xs k = i := by
  rw [plc, List.findIdx_eq h]
  refine ⟨by rw [← nth_eq h]; simpa using h1, fun j hj => ?_⟩
  have := h2 j hj
  rw [nth_eq (by omega)] at this
  simpa using this
end Go.V

namespace Go.V
/-! own pages: steps over them, functions that make trees -/
section q
variable {P : Program} {sf : SM} {r : RT} {L : List (Nat × D)} {S : Store} {K : Env → Store → Prop} {t : Nat}
theorem get_dG {qs : List Pg} {i : Nat} (hi : i < qs.length) : (dG qs)[i]? = some (.pv (pgP (nth qs i))) := by
  rw [nth_eq hi]; simp [hi]
abbrev pgC (g : Pg) : List D := [.pv (ints g.ks), .pv (ints g.cs), .pv (ints g.vs)]
theorem q_load_gf {ty : Nat} {x : Opd} {o i j : Nat} {qs : List Pg} {d : D} (hx : ev (env L) x = .ptr o i j) (hS : (fs sf S)[o]? = some (obD ty 3 (dG qs))) (hi : i < qs.length) (hj : (pgC (nth qs i))[j]? = some d) (h1 : isOne d = true)
    (h : RG P sf r (env ((t, d) :: L)) S K) : RG P sf (.op ⟨some t, none, .load 1 false x⟩ r) (env L) S K := by
  rw [obD_ne (ne_map (by omega))] at hS
  exact q_load_r hx hS (get_dG hi) rfl rfl hj h1 h
theorem q_load_gp {ty : Nat} {x : Opd} {o i : Nat} {qs : List Pg} (hx : ev (env L) x = .ptr o i 0) (hS : (fs sf S)[o]? = some (obD ty 3 (dG qs))) (hi : i < qs.length)
    (h : RG P sf r (env ((t, .agg (pgC (nth qs i))) :: L)) S K) : RG P sf (.op ⟨some t, none, .load 3 true x⟩ r) (env L) S K := by
  rw [obD_ne (ne_map (by omega))] at hS
  exact q_load_ra hx hS (get_dG hi) rfl rfl (by simp) rfl h
theorem q_store_g {ty : Nat} {x y : Opd} {o i : Nat} {qs : List Pg} {d : D} {g : Pg} (hx : ev (env L) x = .ptr o i 0) (hy : ev (env L) y = d) (hd : cellsD d = some (pgC g)) (hS : S[o]? = some (obD ty 3 (dG qs))) (hi : i < qs.length)
    (hs : sOK sf (S.set o (some ⟨ty, 3, (dG qs).set i (.agg (pgC g))⟩))) (h : RG P sf r (env L) (S.set o (some ⟨ty, 3, (dG qs).set i (.agg (pgC g))⟩)) K) : RG P sf (.op ⟨none, none, .store 3 x y⟩ r) (env L) S K := by
  rw [obD_ne (ne_map (by omega))] at hS
  exact q_store (e := .pv (pgP (nth qs i))) (cs := pgC (nth qs i)) (ds := pgC g) hx hy hS (get_dG hi) rfl hd ⟨rfl, rfl, by simp, rfl, by simp [isOne]⟩ rfl hs h
end q
theorem Bd.packG {k0 : Nat} {E : Env} {S : Store} {R : Env → Store → Prop} (o i : Nat) {ty : Nat} {qs : List Pg} {g : Pg} (hi : i < qs.length) (hS : S[o]? = some (some ⟨ty, 3, (dG qs).set i (.agg (pgC g))⟩))
    (h : Bd k0 E (S.set o (obD ty 3 (dG (qs.set i g)))) R) : Bd k0 E S R := by
  refine Bd.aggP o i [ints g.ks, ints g.cs, ints g.vs] hS ?_ ?_
  · simp [hi]
  · have e : ((dG qs).set i (D.agg (pgC g))).set i (.pv (.agg [ints g.ks, ints g.cs, ints g.vs])) = dG (qs.set i g) := by
      rw [List.set_set, dG, dG, List.map_set]
    have e2 : obD ty 3 (dG (qs.set i g)) = some ⟨ty, 3, dG (qs.set i g)⟩ := obD_ne (ne_map (by simp; omega))
    rw [e2] at h
    simp only [e]
    exact h
theorem NewT.trim {P : Program} {f : FuncId} {pty : Nat} {args : List PV} {t : Pt} (h : NewT P f pty args t) : CallS P f (args.map .pv) [] (fun d S => d = treeD 0 t ∧ S = [obD pty 3 (dG t.ps)]) := by
  refine CallS.bd h ?_
  rintro d S' ⟨T, rfl, rfl⟩
  refine Bd.renL [0] (fun i hi => absurd hi (Nat.not_lt_zero i)) (by simp) [(0, treeD 0 t)] ⟨?_, trivial⟩ (S' := [obD pty 3 (dG t.ps)]) ?_ ?_
  · show D.agg [.pv (i64 t.r), mp1 (inv [0]) (ownD 0 (dG t.ps))] = _
    rw [mp1_own rfl]
  · show [(obD pty 3 (dG t.ps)).map (mpOb (inv [0]))] = _
    rw [obD_mG]
  · exact ⟨rfl, rfl⟩
theorem fwd_own' {m o k : Nat} : ∀ {xs : List D}, mp1 (fwd [] m) (ownD o xs) = ownD (m + o) xs
  | [] => rfl
  | _ :: _ => by simp [ownD, mp1, mp0, fwd, posOf, extO]
section q
variable {P : Program} {sf : SM} {r : RT} {L : List (Nat × D)} {S : Store} {K : Env → Store → Prop} {t : Nat}
end q
/-! a pair put into a tree -/
def splP (g : Pg) : Pg × Int × Pg :=
  if g.cs.length = 0 then (leafG (splA (rowG g)), (nth (splB (rowG g)) 0).1, leafG (splB (rowG g)))
  else (⟨g.ks.take (halfI g.ks), g.cs.take (halfI g.ks + 1), []⟩, nth g.ks (halfI g.ks), ⟨g.ks.drop (halfI g.ks + 1), g.cs.drop (halfI g.ks + 1), []⟩)
def put1 (qs : List Pg) (i : Nat) : List Pg := qs.set i (splP (nth qs i)).1 ++ [(splP (nth qs i)).2.2]
def addG (u : Pg) (m : Nat) (k c : Int) : Pg := ⟨addA u.ks m k, addB u.cs m c, []⟩
def putL (pt : List Int) (r : Int) : Nat → List Pg → Pt
  | 0, qs => ⟨r, qs⟩
  | n + 1, qs =>
    if (nth qs (nth pt n).toNat).ks.length ≤ 4 then ⟨r, qs⟩
    else if n = 0 then ⟨((qs.length + 1 : Nat) : Int), put1 qs (nth pt 0).toNat ++ [⟨[(splP (nth qs (nth pt 0).toNat)).2.1], [nth pt 0, ((qs.length : Nat) : Int)], []⟩]⟩
    else putL pt r n ((put1 qs (nth pt n).toNat).set (nth pt (n - 1)).toNat
      (addG (nth (put1 qs (nth pt n).toNat) (nth pt (n - 1)).toNat) (plc (nth (put1 qs (nth pt n).toNat) (nth pt (n - 1)).toNat).cs (nth pt n)) (splP (nth qs (nth pt n).toNat)).2.1 ((qs.length : Nat) : Int)))
def pthT (t : Pt) (k : Int) : List Int := pth t k (hgtT t) t.r
def leafAt (t : Pt) (k : Int) : Int := nth (pthT t k) ((pthT t k).length - 1)
def putQ (t : Pt) (x : Int × Int) : List Pg := t.ps.set (leafAt t x.1).toNat (leafG (putR (rowG (pg t (leafAt t x.1))) x))
def putM (t : Pt) (x : Int × Int) : Pt := putL (pthT t x.1) t.r (pthT t x.1).length (putQ t x)
end Go.V

namespace Go.V
/-! what is kept while a tree is split upwards -/
theorem okT_all {t : Pt} : ∀ {h : Nat} {i lo hi : Int}, okT t h i lo hi = true → ∀ x ∈ wlk t h i, ∃ h' lo' hi', okT t h' x lo' hi' = true
  | 0, _, _, _, a, _, _ => by simp [okT] at a
  | h + 1, i, lo, hi, a, x, hx => by
    rw [wlk_succ, List.mem_cons] at hx
    rcases hx with rfl | hx
    · exact ⟨_, _, _, a⟩
    · obtain ⟨c, hc, hx⟩ := List.mem_flatMap.1 hx
      obtain ⟨_, lo', hi', h2⟩ := okT_kid a hc
      exact okT_all h2 x hx
theorem valid_ok {t : Pt} (hv : validT t = true) : (1 ≤ t.ps.length ∧ t.ps.length ≤ 16) ∧ hgtT t ≤ 3 ∧ okT t (hgtT t) t.r 0 100 = true ∧ (wlk t (hgtT t) t.r).Nodup ∧ ∀ i, inT t i = true → i ∈ wlk t (hgtT t) t.r := by
  obtain ⟨h1, h, h2, h3, h4, h5⟩ := valid_iff.1 hv
  have e : hgtT t = h := okT_hgt (f := 3) h3 (by omega)
  rw [e]
  refine ⟨h1, h2, h3, h4, fun i hi => ?_⟩
  have hi2 := inT_iff.1 hi
  have := (nodup_full h4 fun x hx => inT_iff.1 (okT_in h3 x hx)).2 h5 i.toNat (by omega)
  rwa [show ((i.toNat : Nat) : Int) = i by omega] at this
theorem okT_small {t : Pt} {h : Nat} {i lo hi : Int} (a : okT t h i lo hi = true) : (pg t i).ks.length ≤ 4 ∧ (pg t i).cs.length ≤ 5 ∧ (pg t i).vs.length ≤ 4 := by
  have h1 := (okT_top a).2.2.1
  rw [fillB] at h1
  by_cases hc : (pg t i).cs.length = 0
  · have := fill_leaf h1 hc; omega
  · have := fill_inner h1 hc; omega
theorem valid_page {t : Pt} (hv : validT t = true) {i : Int} (hi : inT t i = true) : ∃ h lo hi, okT t h i lo hi = true := by
  obtain ⟨_, _, h3, _, h5⟩ := valid_ok hv
  exact okT_all h3 i (h5 i hi)
theorem valid_small {t : Pt} (hv : validT t = true) {i : Nat} (hi : i < t.ps.length) : (nth t.ps i).ks.length ≤ 4 ∧ (nth t.ps i).cs.length ≤ 5 ∧ (nth t.ps i).vs.length ≤ 4 := by
  obtain ⟨h, lo, hi', h2⟩ := valid_page hv (i := (i : Int)) (inT_iff.2 ⟨by omega, by omega⟩)
  exact okT_small h2
structure PthOK (t : Pt) (h : Nat) (i : Int) (P : List Int) : Prop where
  len : P.length = h
  fst : nth P 0 = i
  inr : ∀ j, j < h → inT t (nth P j) = true
  mid : ∀ j, j + 1 < h → ((pg t (nth P j)).cs.length = (pg t (nth P j)).ks.length + 1 ∧ 1 ≤ (pg t (nth P j)).ks.length ∧ (pg t (nth P j)).ks.length ≤ 4) ∧ nth P (j + 1) ∈ (pg t (nth P j)).cs
  lst : ∃ lo hi, okT t 1 (nth P (h - 1)) lo hi = true
  sub : ∀ x ∈ P, x ∈ wlk t h i
theorem pth_ok {t : Pt} {k : Int} : ∀ {h : Nat} {i lo hi : Int}, okT t h i lo hi = true → PthOK t h i (pth t k h i)
  | 0, _, _, _, a => by simp [okT] at a
  | 1, i, lo, hi, a => by
    have h1 := okT_leaf.1 a
    rw [pth_leaf h1.2]
    exact ⟨rfl, rfl, (fun j hj => by have e : j = 0 := (by omega); subst e; exact h1.1.1), (fun j hj => absurd hj (by omega)), ⟨lo, hi, a⟩, (fun x hx => by simp at hx; subst hx; simp [wlk])⟩
  | h + 2, i, lo, hi, a => by
    have h1 := (okT_inner (by omega)).1 a
    have hf := fill_inner h1.1.2.1 (by omega)
    have hu := upTo_le (pg t i).ks k
    rw [pth_inner (by omega)]
    have hlt : upTo (pg t i).ks k < (pg t i).cs.length := by omega
    have hk := h1.2.2 _ hlt
    have hc := nth_mem hlt
    generalize nth (pg t i).cs (upTo (pg t i).ks k) = c at hk hc
    obtain ⟨l1, l2, l3, l4, l5, l6⟩ := pth_ok (k := k) hk
    have e : ∀ j, nth (i :: pth t k (h + 1) c) (j + 1) = nth (pth t k (h + 1) c) j := fun j => rfl
    refine ⟨by simp [l1], rfl, fun j hj => ?_, fun j hj => ?_, ?_, fun x hx => ?_⟩
    · cases j with
      | zero => exact h1.1.1
      | succ j => rw [e]; exact l3 j (by omega)
    · cases j with
      | zero => rw [e, l2]; exact ⟨⟨hf.1, hf.2.1, hf.2.2.1⟩, hc⟩
      | succ j => rw [e, e]; exact l4 j (by omega)
    · obtain ⟨lo', hi', h2⟩ := l5
      refine ⟨lo', hi', ?_⟩
      rw [show h + 2 - 1 = (h + 1 - 1) + 1 by omega, e]
      exact h2
    · rw [wlk_succ]
      rcases List.mem_cons.1 hx with rfl | hx
      · exact List.mem_cons_self ..
      · exact List.mem_cons_of_mem _ (List.mem_flatMap.2 ⟨c, hc, l6 x hx⟩)
theorem pth_nodup {t : Pt} {k : Int} : ∀ {h : Nat} {i lo hi : Int}, okT t h i lo hi = true → (wlk t h i).Nodup → (pth t k h i).Nodup
  | 0, _, _, _, a, _ => by simp [okT] at a
  | 1, i, lo, hi, a, _ => by
    rw [pth_leaf (okT_leaf.1 a).2]; simp
  | h + 2, i, lo, hi, a, hn => by
    have h1 := (okT_inner (by omega)).1 a
    have hf := fill_inner h1.1.2.1 (by omega)
    have hu := upTo_le (pg t i).ks k
    have hlt : upTo (pg t i).ks k < (pg t i).cs.length := by omega
    have hk := h1.2.2 _ hlt
    rw [wlk_succ, List.nodup_cons] at hn
    rw [pth_inner (by omega), List.nodup_cons]
    refine ⟨fun hm => hn.1 (List.mem_flatMap.2 ⟨_, nth_mem hlt, (pth_ok (k := k) hk).sub _ hm⟩), pth_nodup hk (nodup_flat_take hlt hn.2).1⟩
def GP (g : Pg) : Prop := g.ks.length ≤ 5 ∧ ((g.cs.length = 0 ∧ goodR (rowG g) = true ∧ g.vs.length = g.ks.length) ∨ (g.cs.length = g.ks.length + 1 ∧ 1 ≤ g.ks.length))
structure PutInv (pt : List Int) (n : Nat) (qs : List Pg) : Prop where
  len : n ≤ pt.length ∧ pt.length ≤ 3
  rng : ∀ j, j < pt.length → 0 ≤ nth pt j ∧ nth pt j < qs.length
  dif : ∀ a b, a < pt.length → b < pt.length → a ≠ b → (nth pt a).toNat ≠ (nth pt b).toNat
  many : 1 ≤ qs.length ∧ qs.length + n ≤ 20
  small : ∀ i, i < qs.length → (nth qs i).ks.length ≤ 100 ∧ (nth qs i).cs.length ≤ 100 ∧ (nth qs i).vs.length ≤ 100
  top : 0 < n → GP (nth qs (nth pt (n - 1)).toNat)
  rest : ∀ j, j + 1 < n → ((nth qs (nth pt j).toNat).cs.length = (nth qs (nth pt j).toNat).ks.length + 1 ∧ 1 ≤ (nth qs (nth pt j).toNat).ks.length ∧ (nth qs (nth pt j).toNat).ks.length ≤ 4) ∧ nth pt (j + 1) ∈ (nth qs (nth pt j).toNat).cs
theorem nth_set {α : Type} [Inhabited α] {xs : List α} {i j : Nat} {x : α} (hj : j < xs.length) : nth (xs.set i x) j = if i = j then x else nth xs j := by
  rw [nth_eq (by simpa using hj), nth_eq hj, List.getElem_set]
theorem splP_small {g : Pg} (h : g.ks.length ≤ 100 ∧ g.cs.length ≤ 100 ∧ g.vs.length ≤ 100) : ((splP g).1.ks.length ≤ 100 ∧ (splP g).1.cs.length ≤ 100 ∧ (splP g).1.vs.length ≤ 100) ∧ (splP g).2.2.ks.length ≤ 100 ∧ (splP g).2.2.cs.length ≤ 100 ∧ (splP g).2.2.vs.length ≤ 100 := by
  have ha : (splA (rowG g)).length ≤ g.ks.length := by
    rw [← rowG_len (p := g)]; unfold splA; split <;> simp <;> omega
  have hb : (splB (rowG g)).length ≤ g.ks.length := by
    rw [← rowG_len (p := g)]; unfold splB; split <;> simp <;> omega
  unfold splP
  split
  · simp only [leafG, List.length_map, List.length_nil]; omega
  · simp; omega
theorem put1_len {qs : List Pg} {i : Nat} : (put1 qs i).length = qs.length + 1 := by simp [put1]
theorem put1_at {qs : List Pg} {i j : Nat} (hj : j < qs.length) : nth (put1 qs i) j = if i = j then (splP (nth qs i)).1 else nth qs j := by
  rw [put1, nth_pre (by simpa using hj), nth_set hj]
theorem put1_new {qs : List Pg} {i : Nat} : nth (put1 qs i) qs.length = (splP (nth qs i)).2.2 := by
  have := nth_mid (a := qs.set i (splP (nth qs i)).1) (b := []) (x := (splP (nth qs i)).2.2) (n := qs.length) (by simp)
  rwa [List.append_nil] at this
theorem put_step {pt : List Int} {n : Nat} {qs : List Pg} (h : PutInv pt (n + 1) qs) (h0 : n ≠ 0) (k : Int) :
    PutInv pt n ((put1 qs (nth pt n).toNat).set (nth pt (n - 1)).toNat (addG (nth (put1 qs (nth pt n).toNat) (nth pt (n - 1)).toNat) (plc (nth (put1 qs (nth pt n).toNat) (nth pt (n - 1)).toNat).cs (nth pt n)) k ((qs.length : Nat) : Int))) := by
  obtain ⟨⟨l1, l2⟩, r, d, m, s, t, e⟩ := h
  have ru := r (n - 1) (by omega)
  have rn := r n (by omega)
  have hd := d n (n - 1) (by omega) (by omega) (by omega)
  have hu : nth (put1 qs (nth pt n).toNat) (nth pt (n - 1)).toNat = nth qs (nth pt (n - 1)).toNat := by rw [put1_at (by omega), if_neg hd]
  have he := e (n - 1) (by omega)
  rw [hu]
  have hsm := s (nth pt (n - 1)).toNat (by omega)
  have hp := splP_small (s (nth pt n).toNat (by omega))
  generalize hg : addG (nth qs (nth pt (n - 1)).toNat) (plc (nth qs (nth pt (n - 1)).toNat).cs (nth pt n)) k ((qs.length : Nat) : Int) = g at *
  have hgl : g.ks.length = (nth qs (nth pt (n - 1)).toNat).ks.length + 1 ∧ g.cs.length = (nth qs (nth pt (n - 1)).toNat).cs.length + 1 ∧ g.vs = [] := by
    rw [← hg]
    simp only [addG, List.length_append, List.length_take, List.length_drop, List.length_cons, List.length_nil]
    exact ⟨by omega, by omega, trivial⟩
  have hlen : ((put1 qs (nth pt n).toNat).set (nth pt (n - 1)).toNat g).length = qs.length + 1 := by rw [List.length_set, put1_len]
  have hold : ∀ j, j < qs.length → j ≠ (nth pt (n - 1)).toNat → j ≠ (nth pt n).toNat → nth ((put1 qs (nth pt n).toNat).set (nth pt (n - 1)).toNat g) j = nth qs j := fun j h1 h2 h3 => by
    rw [nth_set (by rw [put1_len]; omega), if_neg (Ne.symm h2), put1_at h1, if_neg (Ne.symm h3)]
  refine ⟨⟨by omega, l2⟩, fun j hj => ?_, d, by omega, fun i hi => ?_, fun _ => ?_, fun j hj => ?_⟩
  · have := r j hj; omega
  · rw [hlen] at hi
    rw [nth_set (by rw [put1_len]; omega)]
    split
    · rw [hgl.2.2]; simp; omega
    · by_cases hq : i = qs.length
      · subst hq; rw [put1_new]; exact hp.2
      · rw [put1_at (by omega)]
        split
        · exact hp.1
        · exact s i (by omega)
  · rw [nth_set (by rw [put1_len]; omega), if_pos rfl]
    exact ⟨by omega, .inr ⟨by omega, by omega⟩⟩
  · have rj := r j (by omega)
    have h1 := d j (n - 1) (by omega) (by omega) (by omega)
    have h2 := d j n (by omega) (by omega) (by omega)
    rw [hold _ (by omega) h1 h2]
    exact e j (by omega)
end Go.V
namespace Go.V
theorem keys_rowG {g : Pg} : keysR (rowG g) = g.ks := by
  refine list_ext_nth (by simp [rowG]) fun j hj => ?_
  simp [rowG] at hj
  rw [nth_eq (by simp [rowG]; exact hj)]
  simp [rowG]
theorem rowG_leafG {xs : List (Int × Int)} : rowG (leafG xs) = xs := by
  refine list_ext_nth (by simp [rowG, leafG]) fun j hj => ?_
  simp [rowG, leafG] at hj
  rw [nth_eq (by simp [rowG, leafG]; exact hj), nth_eq hj]
  simp only [rowG, leafG, List.getElem_map, List.getElem_range]
  rw [nth_eq (by simpa using hj), nth_eq (by simpa using hj)]
  simp
theorem row_good {g : Pg} (h1 : g.vs.length = g.ks.length) (h2 : g.ks.length ≤ 4) (h3 : goodKeys g.ks = true) (h4 : ∀ v ∈ g.vs, -1000 ≤ v ∧ v ≤ 1000) : goodR (rowG g) = true := by
  rw [goodR_iff, keys_rowG, rowG_len]
  refine ⟨fun x hx => ?_, by omega, h3⟩
  obtain ⟨j, hj, rfl⟩ := List.mem_map.1 hx
  have := List.mem_range.1 hj
  exact h4 _ (nth_mem (by omega))
theorem leaf_at {t : Pt} (hv : validT t = true) (k : Int) : (pthT t k).length = hgtT t ∧ inT t (leafAt t k) = true ∧ (pg t (leafAt t k)).cs.length = 0 ∧ (pg t (leafAt t k)).vs.length = (pg t (leafAt t k)).ks.length ∧ (pg t (leafAt t k)).ks.length ≤ 4 ∧ goodR (rowG (pg t (leafAt t k))) = true := by
  obtain ⟨_, _, h3, _, _⟩ := valid_ok hv
  have hp := pth_ok (k := k) h3
  obtain ⟨lo, hi, h5⟩ := hp.lst
  have e : leafAt t k = nth (pthT t k) (hgtT t - 1) := by rw [leafAt, pthT, hp.len]
  rw [e]
  have h6 := okT_leaf.1 h5
  have h7 := fill_leaf h6.1.2.1 h6.2
  exact ⟨hp.len, h6.1.1, h6.2, h7.1, h7.2.1, row_good h7.1 h7.2.1 h7.2.2.1 h7.2.2.2⟩
theorem put_init {t : Pt} (hv : validT t = true) {x : Int × Int} (hx : goodX x = true) : PutInv (pthT t x.1) (pthT t x.1).length (putQ t x) := by
  obtain ⟨h1, h2, h3, h4, _⟩ := valid_ok hv
  have hp := pth_ok (k := x.1) h3
  have hn := pth_nodup (k := x.1) h3 h4
  obtain ⟨l1, l2, l3, l4, l5, l6⟩ := leaf_at hv x.1
  have hl2 := inT_iff.1 l2
  have hpl : (putR (rowG (pg t (leafAt t x.1))) x).length ≤ 5 := by
    have := putR_len (xs := rowG (pg t (leafAt t x.1))) (x := x)
    rw [rowG_len] at this; omega
  have hpg : goodR (putR (rowG (pg t (leafAt t x.1))) x) = true := putR_good (okPut_iff.2 ⟨l6, hx, by omega⟩)
  have e : leafAt t x.1 = nth (pthT t x.1) (hgtT t - 1) := by rw [leafAt, l1]
  have h1h : 1 ≤ hgtT t := by rw [hgtT]; omega
  have hlen : (putQ t x).length = t.ps.length := by simp [putQ]
  have hdif : ∀ a b, a < (pthT t x.1).length → b < (pthT t x.1).length → a ≠ b → (nth (pthT t x.1) a).toNat ≠ (nth (pthT t x.1) b).toNat := fun a b ha hb hab he => by
    have ra := inT_iff.1 (hp.inr a (by omega))
    have rb := inT_iff.1 (hp.inr b (by omega))
    have : nth (pthT t x.1) a = nth (pthT t x.1) b := by
      have e1 : nth (pthT t x.1) a = nth (pth t x.1 (hgtT t) t.r) a := rfl
      have e2 : nth (pthT t x.1) b = nth (pth t x.1 (hgtT t) t.r) b := rfl
      omega
    exact hab (nodup_eq (nodup_iff.2 hn) ha hb this)
  have hat : nth (putQ t x) (leafAt t x.1).toNat = leafG (putR (rowG (pg t (leafAt t x.1))) x) := by
    rw [putQ, nth_set (by omega), if_pos rfl]
  refine ⟨⟨Nat.le_refl _, by omega⟩, fun j hj => ?_, hdif, by omega, fun i hi => ?_, fun _ => ?_, fun j hj => ?_⟩
  · have := inT_iff.1 (hp.inr j (by omega))
    have e1 : nth (pthT t x.1) j = nth (pth t x.1 (hgtT t) t.r) j := rfl
    omega
  · rw [hlen] at hi
    rw [putQ, nth_set hi]
    split
    · simp only [leafG, List.length_map, List.length_nil]; omega
    · have := valid_small hv hi; omega
  · rw [l1, ← e, hat]
    exact ⟨by simp only [leafG, List.length_map]; omega, .inl ⟨rfl, by rw [rowG_leafG]; exact hpg, by simp [leafG]⟩⟩
  · have hne : (leafAt t x.1).toNat ≠ (nth (pthT t x.1) j).toNat := by
      rw [e]; exact hdif _ _ (by omega) (by omega) (by omega)
    have rj := inT_iff.1 (hp.inr j (by omega))
    have e1 : nth (pthT t x.1) j = nth (pth t x.1 (hgtT t) t.r) j := rfl
    have e2 : nth (putQ t x) (nth (pthT t x.1) j).toNat = pg t (nth (pthT t x.1) j) := by
      rw [putQ, nth_set (by rw [e1]; omega), if_neg hne]
    rw [e2]
    exact hp.mid j (by omega)
theorem putL_small {pt : List Int} {r : Int} : ∀ {n : Nat} {qs : List Pg}, PutInv pt n qs → (1 ≤ (putL pt r n qs).ps.length ∧ (putL pt r n qs).ps.length ≤ 21) ∧ ∀ i, i < (putL pt r n qs).ps.length → (nth (putL pt r n qs).ps i).ks.length ≤ 100 ∧ (nth (putL pt r n qs).ps i).cs.length ≤ 100 ∧ (nth (putL pt r n qs).ps i).vs.length ≤ 100
  | 0, qs, h => ⟨⟨h.many.1, by have := h.many.2; show qs.length ≤ 21; omega⟩, h.small⟩
  | n + 1, qs, h => by
    rw [putL]
    split
    · exact ⟨⟨h.many.1, by have := h.many.2; show qs.length ≤ 21; omega⟩, h.small⟩
    · split
      · have hm := h.many
        have hr := h.rng 0 (by have := h.len; omega)
        have hp := splP_small (h.small (nth pt 0).toNat (by omega))
        refine ⟨by simp [put1_len]; omega, fun i hi => ?_⟩
        simp only [List.length_append, put1_len, List.length_cons, List.length_nil] at hi
        by_cases h1 : i < qs.length + 1
        · rw [nth_pre (by rw [put1_len]; omega)]
          by_cases h2 : i = qs.length
          · subst h2; rw [put1_new]; exact hp.2
          · rw [put1_at (by omega)]
            split
            · exact hp.1
            · exact h.small i (by omega)
        · rw [nth_suf (by rw [put1_len]; omega) (by rw [put1_len]; simp; omega)]
          rw [show i - (put1 qs (nth pt 0).toNat).length = 0 by rw [put1_len]; omega]
          simp [nth]
      · exact putL_small (put_step h (by assumption) _)
end Go.V
namespace Go.V
theorem valid_smallT {t : Pt} (hv : validT t = true) : smallT t := by
  obtain ⟨h1, _⟩ := valid_ok hv
  refine ⟨by omega, fun i h0 h2 => ?_⟩
  obtain ⟨h, lo, hi, h3⟩ := valid_page hv (inT_iff.2 ⟨h0, h2⟩)
  have := okT_small h3
  omega
end Go.V

namespace Go.V
/-! loaders -/
theorem RDs.tr {ρ ρ' : Rho} {I I' : Nat → Prop} {w w' : World} (t : Tr ρ I w ρ' I' w') : ∀ {vs : List Value} {ds : List D}, RDs ρ I w vs ds → RDs ρ' I' w' vs ds
  | [], [], _ => trivial
  | _ :: _, _ :: _, h => ⟨h.1.tr t, RDs.tr t h.2⟩
  | [], _ :: _, h => h.elim
  | _ :: _, [], h => h.elim
theorem CallS.pad {P : Program} {f : FuncId} {ds : List D} {S : Store} {c : D → Store → Prop} (h : CallS P f ds (S ++ [none]) c) : CallS P f ds S c := fun ρ I w vs hs hv => by
  have hold : ∀ (o' b' sz' : Nat), ρ[o']? = some (some (b', sz')) → (ρ ++ [none])[o']? = some (some (b', sz')) := fun o' b' sz' ho' => by
    rw [List.getElem?_append_left (List.getElem?_eq_some_iff.1 ho').1]; exact ho'
  have t0 : Tr ρ I w (ρ ++ [none]) I w := ⟨fun b hb => ⟨hb, rfl⟩, fun o' b' sz' ho' => ⟨hold o' b' sz' ho', fun c F hc => ⟨c, hc, rfl⟩⟩⟩
  have hback : ∀ (o' b' sz' : Nat), (ρ ++ [none])[o']? = some (some (b', sz')) → ρ[o']? = some (some (b', sz')) := fun o' b' sz' ho' => by
    rw [List.getElem?_append] at ho'
    split at ho'
    · exact ho'
    · simp only [List.getElem?_singleton] at ho'
      split at ho' <;> simp at ho'
  have hSb : ∀ (o' : Nat) (ob : Ob), (S ++ [none])[o']? = some (some ob) → S[o']? = some (some ob) := fun o' ob ho' => by
    rw [List.getElem?_append] at ho'
    split at ho'
    · exact ho'
    · simp only [List.getElem?_singleton] at ho'
      split at ho' <;> simp at ho'
  have hobs : ∀ (o' : Nat) (ob : Ob), (S ++ [none])[o']? = some (some ob) → ∃ b sz, (ρ ++ [none])[o']? = some (some (b, sz)) ∧ ObOK (ρ ++ [none]) I w b sz ob := fun o' ob ho' => by
    obtain ⟨b, sz, h1, h2, cs, h3, h4, h5⟩ := hs.obs o' ob (hSb o' ob ho')
    exact ⟨b, sz, hold _ _ _ h1, h2, cs, h3, h4, fun i hi => (h5 i hi).tr t0⟩
  have hs2 : St (ρ ++ [none]) I w (S ++ [none]) := by
    refine ⟨⟨hs.old, hobs⟩, by simp [hs.len], ?lt, ?apart, ?inj⟩
    case lt => exact fun o b sz ho => hs.lt o b sz (hback o b sz ho)
    case apart => exact fun o b sz ob hS ho => hs.apart o b sz ob (hSb o ob hS) (hback o b sz ho)
    case inj => exact fun o o' b sz sz' ob ob' h1 h2 h3 h4 => hs.inj o o' b sz sz' ob ob' (hSb _ _ h1) (hSb _ _ h2) (hback _ _ _ h3) (hback _ _ _ h4)
  refine (h (ρ ++ [none]) I w vs hs2 (RDs.tr t0 hv)).mono ?_
  rintro e w' ⟨u, d, ρ', I', S', h1, h2, h3, h4, h5⟩
  refine ⟨u, d, ρ', I', S', h1, h2, h3, h4, ?_⟩
  have h6 := h5.le (k := S.length) (by simp)
  have hl : ρ.length = S.length := hs.len
  refine ⟨h6.os, h6.tape, h6.output, h6.size, ?_, ?_, h6.im, ?_, ?_, ?_⟩
  · have := h6.kept; simp at this ⊢; omega
  · exact fun k hk hn => h6.block k hk fun o sz ho => hn o sz (hback _ _ _ ho)
  · exact fun b hb => (h6.inew b hb).imp id fun g => g.imp id fun ⟨o, sz, ho⟩ => ⟨o, sz, hback _ _ _ ho⟩
  · exact fun o b sz ho => (h6.rnew o b sz ho).imp (fun ⟨o', sz', hr⟩ => ⟨o', sz', hback _ _ _ hr⟩) id
  · exact fun o b sz ho hr => h6.fix o b sz ho (hold _ _ _ hr)

def pvz : D → D
  | .nils => .pv (.sl [])
  | d => d
theorem R1.pvz {ρ : Rho} {I : Nat → Prop} {w : World} {v : Value} {d : D} (h : R1 ρ I w v d) : R1 ρ I w v (pvz d) := by
  cases d with
  | nils => exact (rd_pv rfl).1 (toPV_sound (ρ := ρ) (d := .nils) rfl h)
  | _ => exact h
section q
variable {P : Program} {sf : SM} {r : RT} {L : List (Nat × D)} {S : Store} {K : Env → Store → Prop} {t : Nat}
end q

/-! a loader: parts, and pages of its own -/
abbrev prtsP (qs : List (List (Int × Int))) : PV := .sl (qs.map prs)
abbrev ldC (lty o : Nat) (qs : List (List (Int × Int))) (ps : List Pg) : Option Ob := some ⟨lty, 2, [.agg [.pv (prtsP qs), ownD o (dG ps)]]⟩
def LdS (P : Program) (f : FuncId) (lty pty : Nat) (args : List PV) (qs : List (List (Int × Int))) (ps : List Pg) (x : PV) (zs : List Pg) : Prop :=
  CallS P f (.ptr 0 0 0 :: args.map .pv) [ldC lty 1 qs ps, obD pty 3 (dG ps)] (fun d S => ∃ T, d = .pv x ∧ S = ldC lty 2 qs zs :: none :: obD pty 3 (dG zs) :: T)
theorem mpS_pv (m : D → D) (p : PV) : mpS m (.pv p) = .pv p := by cases p <;> rfl
theorem ldC_mp {lty o k : Nat} {m : D → D} {qs : List (List (Int × Int))} {ps : List Pg} (h : mp1 m (ownD o (dG ps)) = ownD k (dG ps)) : (ldC lty o qs ps).map (mpOb m) = ldC lty k qs ps := by
  show some (⟨lty, 2, [.agg [.pv (prtsP qs), mp1 m (ownD o (dG ps))]]⟩ : Ob) = _
  rw [h]
theorem LdS.trim {P : Program} {f : FuncId} {lty pty : Nat} {args : List PV} {qs : List (List (Int × Int))} {ps : List Pg} {x : PV} {zs : List Pg} (h : LdS P f lty pty args qs ps x zs) :
    CallS P f (.ptr 0 0 0 :: args.map .pv) [ldC lty 1 qs ps, obD pty 3 (dG ps)] (fun d S => d = .pv x ∧ S = [ldC lty 2 qs zs, none, obD pty 3 (dG zs)]) := by
  refine CallS.bd h ?_
  rintro d S' ⟨T, rfl, rfl⟩
  refine Bd.renL [0, 1, 2] (fun i hi => by have e : i = 0 ∨ i = 1 := (by simp at hi; omega); rcases e with rfl | rfl <;> rfl) (by simp) [(0, .pv x)] ⟨mpD_pv _ _, trivial⟩ (S' := [ldC lty 2 qs zs, none, obD pty 3 (dG zs)]) ?_ ?_
  · show [(ldC lty 2 qs zs).map (mpOb (inv [0, 1, 2])), none, (obD pty 3 (dG zs)).map (mpOb (inv [0, 1, 2]))] = _
    rw [obD_mG, ldC_mp (mp1_own rfl)]
  · exact ⟨rfl, rfl⟩
theorem LdS.trim0 {P : Program} {f : FuncId} {lty pty : Nat} {args : List PV} {qs : List (List (Int × Int))} {x : PV} {zs : List Pg} (h : LdS P f lty pty args qs [] x zs) :
    CallS P f (.ptr 0 0 0 :: args.map .pv) [ldC lty 0 qs []] (fun d S => d = .pv x ∧ S = [ldC lty 1 qs zs, obD pty 3 (dG zs)]) := by
  refine CallS.bd (CallS.pad h.trim) ?_
  rintro d S' ⟨rfl, rfl⟩
  refine Bd.renL [0, 2] (fun i hi => by have e : i = 0 := (by simp at hi; omega); subst e; rfl) (by simp) [(0, .pv x)] ⟨mpD_pv _ _, trivial⟩ (S' := [ldC lty 1 qs zs, obD pty 3 (dG zs)]) ?_ ?_
  · show [(ldC lty 2 qs zs).map (mpOb (inv [0, 2])), (obD pty 3 (dG zs)).map (mpOb (inv [0, 2]))] = _
    rw [obD_mG, ldC_mp (mp1_own rfl)]
  · exact ⟨rfl, rfl⟩
theorem fwd_ownG {m : D → D} {o k : Nat} {xs : List D} (h : ∀ n, m (.own o n) = .own k n) (hn : m .nils = .nils) : mp1 m (ownD o xs) = ownD k xs := by
  cases xs with
  | nil => simp [ownD, mp1, mp0, hn]
  | cons x xs => simp [ownD, mp1, mp0, h]
theorem mergeS_two {o1 o2 : Nat} {S : Store} {a b : Option Ob} {T : Store} (h1 : o1 < S.length) (h2 : o2 < S.length) (hne : o1 ≠ o2) : mergeS [o1, o2] S (a :: b :: T) = (S.set o1 (a.map (mpOb (fwd [o1, o2] S.length)))).set o2 (b.map (mpOb (fwd [o1, o2] S.length))) ++ T.map (Option.map (mpOb (fwd [o1, o2] S.length))) := by
  unfold mergeS
  simp only [List.length_cons, List.length_nil, List.drop_succ_cons, List.drop_zero]
  congr 1
  apply List.ext_getElem?
  intro x
  rw [List.getElem?_map, List.getElem?_set, List.getElem?_set]
  by_cases hx : x < S.length
  · rw [List.getElem?_range hx]
    simp only [Option.map_some, posOf]
    by_cases e1 : o1 = x
    · subst e1; simp [hx, Ne.symm hne]
    · by_cases e2 : o2 = x
      · subst e2; simp [hx, e1]
      · simp [e1, e2, List.getElem?_eq_getElem hx]
  · rw [List.getElem?_eq_none (by simp; omega)]
    have e1 : o1 ≠ x := by omega
    have e2 : o2 ≠ x := by omega
    simp [e1, e2, List.getElem?_eq_none (Nat.le_of_not_lt hx)]
section q
variable {P : Program} {sf : SM} {r : RT} {L : List (Nat × D)} {S : Store} {K : Env → Store → Prop} {t : Nat}
end q

abbrev midR {α : Type} (qs : List α) (a b : Nat) : List α := (qs.take b).drop a
/-! parts of a row -/
def prtL (xs : List (Int × Int)) : List (List (Int × Int)) := (List.range (nlv xs.length)).map (cutP xs (nlv xs.length))
theorem fk_leaf {x : List (Int × Int)} : fk (leafG x) = (nth x 0).1 := by
  cases x <;> rfl
abbrev dR (qs : List (List (Int × Int))) : List D := qs.map fun x => D.pv (prs x)
def lp3 (xs : List (Int × Int)) : List Pg := [(⟨[], [], []⟩ : Pg)] ++ [(⟨(midR (prtL xs) (0 + 1) 3).map fun x => (nth x 0).1, natI (1 + 1) (3 - 0), []⟩ : Pg)] ++ (midR (prtL xs) 0 3).map leafG
def lp6 (xs : List (Int × Int)) : List Pg := lp3 xs ++ [(⟨(midR (prtL xs) (3 + 1) 6).map fun x => (nth x 0).1, natI (5 + 1) (6 - 3), []⟩ : Pg)] ++ (midR (prtL xs) 3 6).map leafG
theorem l6 {a b c d e f a' b' c' d' e' f' : Option Ob} (h1 : a = a') (h2 : b = b') (h3 : c = c') (h4 : d = d') (h5 : e = e') (h6 : f = f') : ([a, b, c, d, e, f] : Store) = [a', b', c', d', e', f'] := by rw [h1, h2, h3, h4, h5, h6]
end Go.V

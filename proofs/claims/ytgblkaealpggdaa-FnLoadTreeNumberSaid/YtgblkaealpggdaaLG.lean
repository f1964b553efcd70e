/- A part of the proofs about laws of the page tree (see the text that bears the law): a small language of steps, its rules, and what the functions of the program return. -/
import Derived.Test.YtgblkaealpggdaaLF
set_option linter.all false
set_option linter.unusedVariables false
set_option linter.unusedSimpArgs false
namespace Go.V
/-! leaves, pairs, paths -/
def rowG (p : Pg) : List (Int × Int) := (List.range p.ks.length).map fun i => (nth p.ks i, nth p.vs i)
def rowTo (p : Pg) (i : Nat) : List (Int × Int) := (List.range i).map fun i => (nth p.ks i, nth p.vs i)
def isLf (t : Pt) (i : Int) : Bool := decide ((pg t i).cs.length = 0)
def lvT (t : Pt) (h : Nat) : List Int := (wlk t h t.r).filter (isLf t)
def prT (t : Pt) (h : Nat) : List (Int × Int) := (lvT t h).flatMap fun i => rowG (pg t i)
def rowsOK (t : Pt) : Prop := ∀ i, inT t i = true → (pg t i).cs.length = 0 → (pg t i).ks.length ≤ (pg t i).vs.length
def pth (t : Pt) (k : Int) : Nat → Int → List Int
  | 0, _ => []
  | h + 1, i => i :: (if (pg t i).cs.length = 0 then [] else pth t k h (nth (pg t i).cs (upTo (pg t i).ks k)))
end Go.V
namespace Go.V
def plc (xs : List Int) (k : Int) : Nat := xs.findIdx fun x => decide (x = k)
theorem plc_eq {xs : List Int} {k : Int} {i : Nat} (h : i < xs.length) (h1 : nth xs i = k) (h2 : ∀ j, j < i → nth xs j ≠ k) : plc xs k = i := by
  rw [plc, List.findIdx_eq h]
  refine ⟨by rw [← nth_eq h]; simpa using h1, fun j hj => ?_⟩
  have := h2 j hj
  rw [nth_eq (by omega)] at this
  simpa using this
end Go.V

namespace Go.V
/-! own pages: steps over them, functions that make trees -/
section q
variable {P : Program} {sf : SM} {r : RT} {L : List (Nat × D)} {S : Store} {K : Env → Store → Prop} {t : Nat}
theorem get_dG {qs : List Pg} {i : Nat} (hi : i < qs.length) : (dG qs)[i]? = some (.pv (pgP (nth qs i))) := by
  rw [nth_eq hi]; simp [hi]
abbrev pgC (g : Pg) : List D := [.pv (ints g.ks), .pv (ints g.cs), .pv (ints g.vs)]
end q
theorem Bd.packG {k0 : Nat} {E : Env} {S : Store} {R : Env → Store → Prop} (o i : Nat) {ty : Nat} {qs : List Pg} {g : Pg} (hi : i < qs.length) (hS : S[o]? = some (some ⟨ty, 3, (dG qs).set i (.agg (pgC g))⟩))
    (h : Bd k0 E (S.set o (obD ty 3 (dG (qs.set i g)))) R) : Bd k0 E S R := by
  refine Bd.aggP o i [ints g.ks, ints g.cs, ints g.vs] hS ?_ ?_
  · simp [hi]
  · have e : ((dG qs).set i (D.agg (pgC g))).set i (.pv (.agg [ints g.ks, ints g.cs, ints g.vs])) = dG (qs.set i g) := by
      rw [List.set_set, dG, dG, List.map_set]
    have e2 : obD ty 3 (dG (qs.set i g)) = some ⟨ty, 3, dG (qs.set i g)⟩ := obD_ne (ne_map (by simp; omega))
    rw [e2] at h
    simp only [e]
    exact h
theorem NewT.trim {P : Program} {f : FuncId} {pty : Nat} {args : List PV} {t : Pt} (h : NewT P f pty args t) : CallS P f (args.map .pv) [] (fun d S => d = treeD 0 t ∧ S = [obD pty 3 (dG t.ps)]) := by
  refine CallS.bd h ?_
  rintro d S' ⟨T, rfl, rfl⟩
  refine Bd.renL [0] (fun i hi => absurd hi (Nat.not_lt_zero i)) (by simp) [(0, treeD 0 t)] ⟨?_, trivial⟩ (S' := [obD pty 3 (dG t.ps)]) ?_ ?_
  · show D.agg [.pv (i64 t.r), mp1 (inv [0]) (ownD 0 (dG t.ps))] = _
    rw [mp1_own rfl]
  · show [(obD pty 3 (dG t.ps)).map (mpOb (inv [0]))] = _
    rw [obD_mG]
  · exact ⟨rfl, rfl⟩
theorem fwd_own' {m o k : Nat} : ∀ {xs : List D}, mp1 (fwd [] m) (ownD o xs) = ownD (m + o) xs
  | [] => rfl
  | _ :: _ => by simp [ownD, mp1, mp0, fwd, posOf, extO]
section q
variable {P : Program} {sf : SM} {r : RT} {L : List (Nat × D)} {S : Store} {K : Env → Store → Prop} {t : Nat}
theorem q_newT {f : FuncId} {pty : Nat} {args' : List Opd} {args : List PV} {T : Pt} (hm : cOK sf = true) (hc : NewT P f pty args T) (ha : args'.map (ev (env L)) = args.map .pv) (hs : sOK sf (S ++ [obD pty 3 (dG T.ps)]))
    (h : RG P sf r (env ((t, treeD S.length T) :: L)) (S ++ [obD pty 3 (dG T.ps)]) K) : RG P sf (.op ⟨some t, none, .call f args'⟩ r) (env L) S K := by
  refine q_call hm ?_
  rw [ha]
  refine CallS.frame (c1 := fun d S => d = treeD 0 T ∧ S = [obD pty 3 (dG T.ps)]) [] (by simp) (by simp) ?_ ?_
  · have e : (args.map D.pv).map (mpD (inv [])) = args.map .pv := by
      rw [List.map_map]; exact List.map_congr_left fun x _ => mpD_pv _ _
    rw [e]; exact hc.trim
  · rintro d S1 ⟨rfl, rfl⟩
    rw [mergeS_nil]
    have e1 : mpD (fwd [] S.length) (treeD 0 T) = treeD S.length T := by
      show D.agg [.pv (i64 T.r), mp1 (fwd [] S.length) (ownD 0 (dG T.ps))] = _
      rw [fwd_own' (k := 0), Nat.add_zero]
    rw [e1]
    simp only [List.map_cons, List.map_nil, obD_mG]
    exact ⟨hs, h⟩
end q
/-! a pair put into a tree -/
def splP (g : Pg) : Pg × Int × Pg :=
  if g.cs.length = 0 then (leafG (splA (rowG g)), (nth (splB (rowG g)) 0).1, leafG (splB (rowG g)))
  else (⟨g.ks.take (halfI g.ks), g.cs.take (halfI g.ks + 1), []⟩, nth g.ks (halfI g.ks), ⟨g.ks.drop (halfI g.ks + 1), g.cs.drop (halfI g.ks + 1), []⟩)
def put1 (qs : List Pg) (i : Nat) : List Pg := qs.set i (splP (nth qs i)).1 ++ [(splP (nth qs i)).2.2]
def addG (u : Pg) (m : Nat) (k c : Int) : Pg := ⟨addA u.ks m k, addB u.cs m c, []⟩
def putL (pt : List Int) (r : Int) : Nat → List Pg → Pt
  | 0, qs => ⟨r, qs⟩
  | n + 1, qs =>
    if (nth qs (nth pt n).toNat).ks.length ≤ 4 then ⟨r, qs⟩
    else if n = 0 then ⟨((qs.length + 1 : Nat) : Int), put1 qs (nth pt 0).toNat ++ [⟨[(splP (nth qs (nth pt 0).toNat)).2.1], [nth pt 0, ((qs.length : Nat) : Int)], []⟩]⟩
    else putL pt r n ((put1 qs (nth pt n).toNat).set (nth pt (n - 1)).toNat
      (addG (nth (put1 qs (nth pt n).toNat) (nth pt (n - 1)).toNat) (plc (nth (put1 qs (nth pt n).toNat) (nth pt (n - 1)).toNat).cs (nth pt n)) (splP (nth qs (nth pt n).toNat)).2.1 ((qs.length : Nat) : Int)))
def pthT (t : Pt) (k : Int) : List Int := pth t k (hgtT t) t.r
def leafAt (t : Pt) (k : Int) : Int := nth (pthT t k) ((pthT t k).length - 1)
def putQ (t : Pt) (x : Int × Int) : List Pg := t.ps.set (leafAt t x.1).toNat (leafG (putR (rowG (pg t (leafAt t x.1))) x))
def putM (t : Pt) (x : Int × Int) : Pt := putL (pthT t x.1) t.r (pthT t x.1).length (putQ t x)
end Go.V

namespace Go.V
/-! what is kept while a tree is split upwards -/
theorem okT_all {t : Pt} : ∀ {h : Nat} {i lo hi : Int}, okT t h i lo hi = true → ∀ x ∈ wlk t h i, ∃ h' lo' hi', okT t h' x lo' hi' = true
  | 0, _, _, _, a, _, _ => by simp [okT] at a
  | h + 1, i, lo, hi, a, x, hx => by
    rw [wlk_succ, List.mem_cons] at hx
    rcases hx with rfl | hx
    · exact ⟨_, _, _, a⟩
    · obtain ⟨c, hc, hx⟩ := List.mem_flatMap.1 hx
      obtain ⟨_, lo', hi', h2⟩ := okT_kid a hc
      exact okT_all h2 x hx
theorem valid_ok {t : Pt} (hv : validT t = true) : (1 ≤ t.ps.length ∧ t.ps.length ≤ 16) ∧ hgtT t ≤ 3 ∧ okT t (hgtT t) t.r 0 100 = true ∧ (wlk t (hgtT t) t.r).Nodup ∧ ∀ i, inT t i = true → i ∈ wlk t (hgtT t) t.r := by
  obtain ⟨h1, h, h2, h3, h4, h5⟩ := valid_iff.1 hv
  have e : hgtT t = h := okT_hgt (f := 3) h3 (by omega)
  rw [e]
  refine ⟨h1, h2, h3, h4, fun i hi => ?_⟩
  have hi2 := inT_iff.1 hi
  have := (nodup_full h4 fun x hx => inT_iff.1 (okT_in h3 x hx)).2 h5 i.toNat (by omega)
  rwa [show ((i.toNat : Nat) : Int) = i by omega] at this
theorem okT_small {t : Pt} {h : Nat} {i lo hi : Int} (a : okT t h i lo hi = true) : (pg t i).ks.length ≤ 4 ∧ (pg t i).cs.length ≤ 5 ∧ (pg t i).vs.length ≤ 4 := by
  have h1 := (okT_top a).2.2.1
  rw [fillB] at h1
  by_cases hc : (pg t i).cs.length = 0
  · have := fill_leaf h1 hc; omega
  · have := fill_inner h1 hc; omega
theorem valid_page {t : Pt} (hv : validT t = true) {i : Int} (hi : inT t i = true) : ∃ h lo hi, okT t h i lo hi = true := by
  obtain ⟨_, _, h3, _, h5⟩ := valid_ok hv
  exact okT_all h3 i (h5 i hi)
structure PthOK (t : Pt) (h : Nat) (i : Int) (P : List Int) : Prop where
  len : P.length = h
  fst : nth P 0 = i
  inr : ∀ j, j < h → inT t (nth P j) = true
  mid : ∀ j, j + 1 < h → ((pg t (nth P j)).cs.length = (pg t (nth P j)).ks.length + 1 ∧ 1 ≤ (pg t (nth P j)).ks.length ∧ (pg t (nth P j)).ks.length ≤ 4) ∧ nth P (j + 1) ∈ (pg t (nth P j)).cs
  lst : ∃ lo hi, okT t 1 (nth P (h - 1)) lo hi = true
  sub : ∀ x ∈ P, x ∈ wlk t h i
def GP (g : Pg) : Prop := g.ks.length ≤ 5 ∧ ((g.cs.length = 0 ∧ goodR (rowG g) = true ∧ g.vs.length = g.ks.length) ∨ (g.cs.length = g.ks.length + 1 ∧ 1 ≤ g.ks.length))
structure PutInv (pt : List Int) (n : Nat) (qs : List Pg) : Prop where
  len : n ≤ pt.length ∧ pt.length ≤ 3
  rng : ∀ j, j < pt.length → 0 ≤ nth pt j ∧ nth pt j < qs.length
  dif : ∀ a b, a < pt.length → b < pt.length → a ≠ b → (nth pt a).toNat ≠ (nth pt b).toNat
  many : 1 ≤ qs.length ∧ qs.length + n ≤ 20
  small : ∀ i, i < qs.length → (nth qs i).ks.length ≤ 100 ∧ (nth qs i).cs.length ≤ 100 ∧ (nth qs i).vs.length ≤ 100
  top : 0 < n → GP (nth qs (nth pt (n - 1)).toNat)
  rest : ∀ j, j + 1 < n → ((nth qs (nth pt j).toNat).cs.length = (nth qs (nth pt j).toNat).ks.length + 1 ∧ 1 ≤ (nth qs (nth pt j).toNat).ks.length ∧ (nth qs (nth pt j).toNat).ks.length ≤ 4) ∧ nth pt (j + 1) ∈ (nth qs (nth pt j).toNat).cs
theorem nth_set {α : Type} [Inhabited α] {xs : List α} {i j : Nat} {x : α} (hj : j < xs.length) : nth (xs.set i x) j = if i = j then x else nth xs j := by
  rw [nth_eq (by simpa using hj), nth_eq hj, List.getElem_set]
end Go.V
namespace Go.V
theorem rowG_leafG {xs : List (Int × Int)} : rowG (leafG xs) = xs := by
  refine list_ext_nth (by simp [rowG, leafG]) fun j hj => ?_
  simp [rowG, leafG] at hj
  rw [nth_eq (by simp [rowG, leafG]; exact hj), nth_eq hj]
  simp only [rowG, leafG, List.getElem_map, List.getElem_range]
  rw [nth_eq (by simpa using hj), nth_eq (by simpa using hj)]
  simp
end Go.V
namespace Go.V
theorem valid_smallT {t : Pt} (hv : validT t = true) : smallT t := by
  obtain ⟨h1, _⟩ := valid_ok hv
  refine ⟨by omega, fun i h0 h2 => ?_⟩
  obtain ⟨h, lo, hi, h3⟩ := valid_page hv (inT_iff.2 ⟨h0, h2⟩)
  have := okT_small h3
  omega
end Go.V

namespace Go.V
/-! loaders -/
theorem RDs.tr {ρ ρ' : Rho} {I I' : Nat → Prop} {w w' : World} (t : Tr ρ I w ρ' I' w') : ∀ {vs : List Value} {ds : List D}, RDs ρ I w vs ds → RDs ρ' I' w' vs ds
  | [], [], _ => trivial
  | _ :: _, _ :: _, h => ⟨h.1.tr t, RDs.tr t h.2⟩
  | [], _ :: _, h => h.elim
  | _ :: _, [], h => h.elim
theorem CallS.pad {P : Program} {f : FuncId} {ds : List D} {S : Store} {c : D → Store → Prop} (h : CallS P f ds (S ++ [none]) c) : CallS P f ds S c := fun ρ I w vs hs hv => by
  have hold : ∀ (o' b' sz' : Nat), ρ[o']? = some (some (b', sz')) → (ρ ++ [none])[o']? = some (some (b', sz')) := fun o' b' sz' ho' => by
    rw [List.getElem?_append_left (List.getElem?_eq_some_iff.1 ho').1]; exact ho'
  have t0 : Tr ρ I w (ρ ++ [none]) I w := ⟨fun b hb => ⟨hb, rfl⟩, fun o' b' sz' ho' => ⟨hold o' b' sz' ho', fun c F hc => ⟨c, hc, rfl⟩⟩⟩
  have hback : ∀ (o' b' sz' : Nat), (ρ ++ [none])[o']? = some (some (b', sz')) → ρ[o']? = some (some (b', sz')) := fun o' b' sz' ho' => by
    rw [List.getElem?_append] at ho'
    split at ho'
    · exact ho'
    · simp only [List.getElem?_singleton] at ho'
      split at ho' <;> simp at ho'
  have hSb : ∀ (o' : Nat) (ob : Ob), (S ++ [none])[o']? = some (some ob) → S[o']? = some (some ob) := fun o' ob ho' => by
    rw [List.getElem?_append] at ho'
    split at ho'
    · exact ho'
    · simp only [List.getElem?_singleton] at ho'
      split at ho' <;> simp at ho'
  have hobs : ∀ (o' : Nat) (ob : Ob), (S ++ [none])[o']? = some (some ob) → ∃ b sz, (ρ ++ [none])[o']? = some (some (b, sz)) ∧ ObOK (ρ ++ [none]) I w b sz ob := fun o' ob ho' => by
    obtain ⟨b, sz, h1, h2, cs, h3, h4, h5⟩ := hs.obs o' ob (hSb o' ob ho')
    exact ⟨b, sz, hold _ _ _ h1, h2, cs, h3, h4, fun i hi => (h5 i hi).tr t0⟩
  have hs2 : St (ρ ++ [none]) I w (S ++ [none]) := by
    refine ⟨⟨hs.old, hobs⟩, by simp [hs.len], ?lt, ?apart, ?inj⟩
    case lt => exact fun o b sz ho => hs.lt o b sz (hback o b sz ho)
    case apart => exact fun o b sz ob hS ho => hs.apart o b sz ob (hSb o ob hS) (hback o b sz ho)
    case inj => exact fun o o' b sz sz' ob ob' h1 h2 h3 h4 => hs.inj o o' b sz sz' ob ob' (hSb _ _ h1) (hSb _ _ h2) (hback _ _ _ h3) (hback _ _ _ h4)
  refine (h (ρ ++ [none]) I w vs hs2 (RDs.tr t0 hv)).mono ?_
  rintro e w' ⟨u, d, ρ', I', S', h1, h2, h3, h4, h5⟩
  refine ⟨u, d, ρ', I', S', h1, h2, h3, h4, ?_⟩
  have h6 := h5.le (k := S.length) (by simp)
  have hl : ρ.length = S.length := hs.len
  refine ⟨h6.os, h6.tape, h6.output, h6.size, ?_, ?_, h6.im, ?_, ?_, ?_⟩
  · have := h6.kept; simp at this ⊢; omega
  · exact fun k hk hn => h6.block k hk fun o sz ho => hn o sz (hback _ _ _ ho)
  · exact fun b hb => (h6.inew b hb).imp id fun g => g.imp id fun ⟨o, sz, ho⟩ => ⟨o, sz, hback _ _ _ ho⟩
  · exact fun o b sz ho => (h6.rnew o b sz ho).imp (fun ⟨o', sz', hr⟩ => ⟨o', sz', hback _ _ _ hr⟩) id
  · exact fun o b sz ho hr => h6.fix o b sz ho (hold _ _ _ hr)

def pvz : D → D
  | .nils => .pv (.sl [])
  | d => d
theorem R1.pvz {ρ : Rho} {I : Nat → Prop} {w : World} {v : Value} {d : D} (h : R1 ρ I w v d) : R1 ρ I w v (pvz d) := by
  cases d with
  | nils => exact (rd_pv rfl).1 (toPV_sound (ρ := ρ) (d := .nils) rfl h)
  | _ => exact h
theorem Bd.aggZ {k0 : Nat} {E : Env} {S : Store} {R : Env → Store → Prop} (o i : Nat) {ob : Ob} (ps : List D) (hO : S[o]? = some (some ob)) (hi : ob.xs[i]? = some (.agg ps))
    (h : Bd k0 E (S.set o (some { ob with xs := ob.xs.set i (.agg (ps.map pvz)) })) R) : Bd k0 E S R := by
  refine Bd.then (R' := fun E' S' => E' = E ∧ S' = S.set o (some { ob with xs := ob.xs.set i (.agg (ps.map pvz)) })) ?_ (by rintro _ _ ⟨rfl, rfl⟩; exact h)
  intro ρ I w a hs he hk
  have hget : ∀ q (ob' : Ob), (S.set o (some { ob with xs := ob.xs.set i (.agg (ps.map pvz)) }))[q]? = some (some ob') → ∃ ob0, S[q]? = some (some ob0) ∧ ((q ≠ o ∧ ob' = ob0) ∨ (q = o ∧ ob0 = ob ∧ ob' = { ob with xs := ob.xs.set i (.agg (ps.map pvz)) })) := fun q ob' hq => by
    rw [List.getElem?_set] at hq
    split at hq
    · rename_i e
      subst e
      split at hq <;> simp at hq
      exact ⟨ob, hO, .inr ⟨rfl, rfl, hq.symm⟩⟩
    · rename_i hne
      exact ⟨ob', hq, .inl ⟨fun e => hne e.symm, rfl⟩⟩
  refine ⟨E, _, ρ, I, ⟨rfl, rfl⟩, { old := hs.old, obs := ?_, len := by simp [hs.len], lt := hs.lt, apart := ?_, inj := ?_ }, he, Ext.refl _ _ _ _⟩
  · intro q ob' hq
    obtain ⟨ob0, g1, g2⟩ := hget q ob' hq
    obtain ⟨b, sz', k1, k2, cs0, k3, k4, k5⟩ := hs.obs q ob0 g1
    rcases g2 with ⟨_, rfl⟩ | ⟨rfl, rfl, rfl⟩
    · exact ⟨b, sz', k1, k2, cs0, k3, k4, k5⟩
    · refine ⟨b, sz', k1, k2, cs0, k3, by simpa using k4, fun q' hq' => ?_⟩
      have hq2 : q' < ob0.xs.length := by simpa using hq'
      have old := k5 q' hq2
      by_cases e : q' = i
      · subst e
        rw [List.getElem?_eq_getElem hq2] at hi
        simp at hi
        simp only [List.getElem_set_self]
        rw [hi] at old
        refine ⟨by simpa using old.1, fun m hm hm' => ?_⟩
        have := old.2 m hm (by simpa using hm')
        simp only [List.getElem_map]
        exact this.pvz
      · simp only [List.getElem_set_ne (fun e' => e e'.symm)]
        exact old
  · intro q b' sz' ob' hq hρ
    obtain ⟨ob0, g1, _⟩ := hget q ob' hq
    exact hs.apart q b' sz' ob0 g1 hρ
  · intro q q' b' sz1 sz2 obq obq' hq hq' hρ hρ'
    obtain ⟨ob0, g1, _⟩ := hget q obq hq
    obtain ⟨ob0', g1', _⟩ := hget q' obq' hq'
    exact hs.inj q q' b' sz1 sz2 ob0 ob0' g1 g1' hρ hρ'
theorem Bd.packZ {k0 : Nat} {E : Env} {S : Store} {R : Env → Store → Prop} (o i : Nat) {ty : Nat} {qs : List Pg} {g : Pg} {ds : List D} (hi : i < qs.length) (hS : S[o]? = some (some ⟨ty, 3, (dG qs).set i (.agg ds)⟩)) (hd : ds.map pvz = pgC g)
    (h : Bd k0 E (S.set o (obD ty 3 (dG (qs.set i g)))) R) : Bd k0 E S R := by
  have ho : o < S.length := (List.getElem?_eq_some_iff.1 hS).1
  refine Bd.aggZ o i ds hS (by simp [hi]) ?_
  rw [hd]
  refine Bd.packG o i (qs := qs) (g := g) hi (ty := ty) ?_ ?_
  · rw [List.getElem?_set_self ho]; simp only [List.set_set]
  · rw [List.set_set]; exact h
section q
variable {P : Program} {sf : SM} {r : RT} {L : List (Nat × D)} {S : Store} {K : Env → Store → Prop} {t : Nat}
theorem q_store_gz {ty : Nat} {x y : Opd} {o i : Nat} {qs : List Pg} {d : D} {ds : List D} (hx : ev (env L) x = .ptr o i 0) (hy : ev (env L) y = d) (hd : cellsD d = some ds) (hl : ds.length = 3) (hc : ds.all isCell = true) (hS : S[o]? = some (obD ty 3 (dG qs))) (hi : i < qs.length)
    (hs : sOK sf (S.set o (some ⟨ty, 3, (dG qs).set i (.agg ds)⟩))) (h : RG P sf r (env L) (S.set o (some ⟨ty, 3, (dG qs).set i (.agg ds)⟩)) K) : RG P sf (.op ⟨none, none, .store 3 x y⟩ r) (env L) S K := by
  rw [obD_ne (ne_map (by omega))] at hS
  refine q_store (e := .pv (pgP (nth qs i))) (cs := pgC (nth qs i)) (ds := ds) (z := .agg ds) hx hy hS (get_dG hi) rfl hd ⟨rfl, hl, by simp, hc, by simp [isOne]⟩ (by
    show D.agg (setAt (pgC (nth qs i)) 0 ds) = .agg ds
    simp [setAt, hl]) hs h
end q

theorem Bd.moveF {k0 : Nat} {E : Env} {S : Store} {R : Env → Store → Prop} (k o1 i j n : Nat) {obk ob : Ob} {cs : List D} (hk : k ≠ o1) (hS : S[k]? = some (some obk)) (hO : S[o1]? = some (some ob)) (hi : ob.xs[i]? = some (.agg cs)) (hj : cs[j]? = some (.own k n))
    (h : R E ((S.set k none).set o1 (some { ob with xs := ob.xs.set i (.agg (cs.set j (.own S.length n))) }) ++ [some obk])) : Bd k0 E S R := fun ρ I w a hs he _ => by
  obtain ⟨b, sz, h1, h2, cs0, h3, h4, h5⟩ := hs.obs k obk hS
  have hlen := hs.len
  have hget0 : (ρ ++ [some (b, sz)])[S.length]? = some (some (b, sz)) := by rw [List.getElem?_append_right (by omega)]; simp [hlen]
  have hold : ∀ (o' b' sz' : Nat), ρ[o']? = some (some (b', sz')) → (ρ ++ [some (b, sz)])[o']? = some (some (b', sz')) := fun o' b' sz' ho' => by
    rw [List.getElem?_append_left (List.getElem?_eq_some_iff.1 ho').1]; exact ho'
  have t0 : Tr ρ I w (ρ ++ [some (b, sz)]) I w := ⟨fun b hb => ⟨hb, rfl⟩, fun o' b' sz' ho' => ⟨hold o' b' sz' ho', fun c F hc => ⟨c, hc, rfl⟩⟩⟩
  have hs1 := app_st hs hS t0 (hs.apart k b sz obk hS h1) (hs.lt k b sz h1) (fun o' sz' ob2 hne hS' h' => hne (hs.inj o' k b sz' sz ob2 obk hS' hS h' h1)) h2 h3 (Nat.le_refl _) h4 (fun _ _ _ _ _ _ _ => rfl) h5
  have l1 : o1 < S.length := (List.getElem?_eq_some_iff.1 hO).1
  have hO1 : (S.set k none ++ [some obk])[o1]? = some (some ob) := by
    rw [List.getElem?_append_left (by simpa using l1), List.getElem?_set_ne hk]; exact hO
  have hset : (S.set k none).set o1 (some { ob with xs := ob.xs.set i (.agg (cs.set j (.own S.length n))) }) ++ [some obk] = (S.set k none ++ [some obk]).set o1 (some { ob with xs := ob.xs.set i (.agg (cs.set j (.own S.length n))) }) := by
    rw [List.set_append_left _ _ (by simpa using l1)]
  rw [hset] at h
  generalize hS1 : S.set k none ++ [some obk] = S1 at *
  have hget : ∀ q (ob' : Ob), (S1.set o1 (some { ob with xs := ob.xs.set i (.agg (cs.set j (.own S.length n))) }))[q]? = some (some ob') → ∃ ob0, S1[q]? = some (some ob0) ∧ ((q ≠ o1 ∧ ob' = ob0) ∨ (q = o1 ∧ ob0 = ob ∧ ob' = { ob with xs := ob.xs.set i (.agg (cs.set j (.own S.length n))) })) := fun q ob' hq => by
    rw [List.getElem?_set] at hq
    split at hq
    · rename_i e
      subst e
      split at hq <;> simp at hq
      exact ⟨ob, hO1, .inr ⟨rfl, rfl, hq.symm⟩⟩
    · rename_i hne
      exact ⟨ob', hq, .inl ⟨fun e => hne e.symm, rfl⟩⟩
  refine ⟨E, _, ρ ++ [some (b, sz)], I, h, { old := hs1.old, obs := ?_, len := by simp [hs1.len], lt := hs1.lt, apart := ?_, inj := ?_ }, fun i => RD.tr t0 (he i), ?_⟩
  · intro q ob' hq
    obtain ⟨ob0, g1, g2⟩ := hget q ob' hq
    obtain ⟨b', sz', k1, k2, cs1, k3, k4, k5⟩ := hs1.obs q ob0 g1
    rcases g2 with ⟨_, rfl⟩ | ⟨rfl, rfl, rfl⟩
    · exact ⟨b', sz', k1, k2, cs1, k3, k4, k5⟩
    · refine ⟨b', sz', k1, k2, cs1, k3, by simpa using k4, fun q' hq' => ?_⟩
      have hq2 : q' < ob0.xs.length := by simpa using hq'
      have old := k5 q' hq2
      by_cases e : q' = i
      · subst e
        rw [List.getElem?_eq_getElem hq2] at hi
        simp at hi
        simp only [List.getElem_set_self]
        rw [hi] at old
        refine ⟨by simpa using old.1, fun m hm hm' => ?_⟩
        have hm2 : m < cs.length := by simpa using hm'
        have c0 := old.2 m hm hm2
        by_cases em : m = j
        · subst em
          simp only [List.getElem_set_self]
          rw [List.getElem?_eq_getElem hm2] at hj
          simp at hj
          rw [hj] at c0
          obtain ⟨b2, sz2, cap, cs2, E2, g1, g2⟩ := c0
          rw [hold _ _ _ h1] at g1
          simp at g1
          obtain ⟨rfl, rfl⟩ := g1
          exact ⟨b, sz, cap, cs2, E2, hget0, g2⟩
        · rw [List.getElem_set_ne (fun e => em e.symm)]
          exact c0
      · simp only [List.getElem_set_ne (fun e' => e e'.symm)]
        exact old
  · intro q b' sz' ob' hq hρ
    obtain ⟨ob0, g1, _⟩ := hget q ob' hq
    exact hs1.apart q b' sz' ob0 g1 hρ
  · intro q q' b' sz1 sz2 obq obq' hq hq' hρ hρ'
    obtain ⟨ob0, g1, _⟩ := hget q obq hq
    obtain ⟨ob0', g1', _⟩ := hget q' obq' hq'
    exact hs1.inj q q' b' sz1 sz2 ob0 ob0' g1 g1' hρ hρ'
  · refine t0.ext rfl rfl rfl (Nat.le_refl _) (by simp) (fun _ _ _ => rfl) (fun _ h => .inl h) fun o' b' sz' ho' => ?_
    rw [List.getElem?_append] at ho'
    split at ho'
    · exact .inl ⟨o', sz', ho'⟩
    · simp only [List.getElem?_singleton] at ho'
      split at ho' <;> simp at ho'
      exact .inl ⟨k, sz, by rw [← ho'.1]; exact h1⟩
/-! a loader: parts, and pages of its own -/
abbrev prtsP (qs : List (List (Int × Int))) : PV := .sl (qs.map prs)
abbrev ldC (lty o : Nat) (qs : List (List (Int × Int))) (ps : List Pg) : Option Ob := some ⟨lty, 2, [.agg [.pv (prtsP qs), ownD o (dG ps)]]⟩
def LdS (P : Program) (f : FuncId) (lty pty : Nat) (args : List PV) (qs : List (List (Int × Int))) (ps : List Pg) (x : PV) (zs : List Pg) : Prop :=
  CallS P f (.ptr 0 0 0 :: args.map .pv) [ldC lty 1 qs ps, obD pty 3 (dG ps)] (fun d S => ∃ T, d = .pv x ∧ S = ldC lty 2 qs zs :: none :: obD pty 3 (dG zs) :: T)
theorem Bd.ld0 {k0 : Nat} {E : Env} {lty pty : Nat} {qs : List (List (Int × Int))} {ps : List Pg} {R : Env → Store → Prop} (h : R E [ldC lty 2 qs ps, none, obD pty 3 (dG ps)]) : Bd k0 E [ldC lty 1 qs ps, obD pty 3 (dG ps)] R := by
  cases ps with
  | nil => exact Bd.pad h
  | cons p ps => exact Bd.moveF 1 0 0 1 ((dG (p :: ps)).length) (by decide) rfl rfl rfl rfl h
theorem mpS_pv (m : D → D) (p : PV) : mpS m (.pv p) = .pv p := by cases p <;> rfl
theorem ldC_mp {lty o k : Nat} {m : D → D} {qs : List (List (Int × Int))} {ps : List Pg} (h : mp1 m (ownD o (dG ps)) = ownD k (dG ps)) : (ldC lty o qs ps).map (mpOb m) = ldC lty k qs ps := by
  show some (⟨lty, 2, [.agg [.pv (prtsP qs), mp1 m (ownD o (dG ps))]]⟩ : Ob) = _
  rw [h]
theorem LdS.trim {P : Program} {f : FuncId} {lty pty : Nat} {args : List PV} {qs : List (List (Int × Int))} {ps : List Pg} {x : PV} {zs : List Pg} (h : LdS P f lty pty args qs ps x zs) :
    CallS P f (.ptr 0 0 0 :: args.map .pv) [ldC lty 1 qs ps, obD pty 3 (dG ps)] (fun d S => d = .pv x ∧ S = [ldC lty 2 qs zs, none, obD pty 3 (dG zs)]) := by
  refine CallS.bd h ?_
  rintro d S' ⟨T, rfl, rfl⟩
  refine Bd.renL [0, 1, 2] (fun i hi => by have e : i = 0 ∨ i = 1 := (by simp at hi; omega); rcases e with rfl | rfl <;> rfl) (by simp) [(0, .pv x)] ⟨mpD_pv _ _, trivial⟩ (S' := [ldC lty 2 qs zs, none, obD pty 3 (dG zs)]) ?_ ?_
  · show [(ldC lty 2 qs zs).map (mpOb (inv [0, 1, 2])), none, (obD pty 3 (dG zs)).map (mpOb (inv [0, 1, 2]))] = _
    rw [obD_mG, ldC_mp (mp1_own rfl)]
  · exact ⟨rfl, rfl⟩
theorem LdS.trim0 {P : Program} {f : FuncId} {lty pty : Nat} {args : List PV} {qs : List (List (Int × Int))} {x : PV} {zs : List Pg} (h : LdS P f lty pty args qs [] x zs) :
    CallS P f (.ptr 0 0 0 :: args.map .pv) [ldC lty 0 qs []] (fun d S => d = .pv x ∧ S = [ldC lty 1 qs zs, obD pty 3 (dG zs)]) := by
  refine CallS.bd (CallS.pad h.trim) ?_
  rintro d S' ⟨rfl, rfl⟩
  refine Bd.renL [0, 2] (fun i hi => by have e : i = 0 := (by simp at hi; omega); subst e; rfl) (by simp) [(0, .pv x)] ⟨mpD_pv _ _, trivial⟩ (S' := [ldC lty 1 qs zs, obD pty 3 (dG zs)]) ?_ ?_
  · show [(ldC lty 2 qs zs).map (mpOb (inv [0, 2])), (obD pty 3 (dG zs)).map (mpOb (inv [0, 2]))] = _
    rw [obD_mG, ldC_mp (mp1_own rfl)]
  · exact ⟨rfl, rfl⟩
theorem fwd_ownG {m : D → D} {o k : Nat} {xs : List D} (h : ∀ n, m (.own o n) = .own k n) (hn : m .nils = .nils) : mp1 m (ownD o xs) = ownD k xs := by
  cases xs with
  | nil => simp [ownD, mp1, mp0, hn]
  | cons x xs => simp [ownD, mp1, mp0, h]
theorem mergeS_two {o1 o2 : Nat} {S : Store} {a b : Option Ob} {T : Store} (h1 : o1 < S.length) (h2 : o2 < S.length) (hne : o1 ≠ o2) : mergeS [o1, o2] S (a :: b :: T) = (S.set o1 (a.map (mpOb (fwd [o1, o2] S.length)))).set o2 (b.map (mpOb (fwd [o1, o2] S.length))) ++ T.map (Option.map (mpOb (fwd [o1, o2] S.length))) := by
  unfold mergeS
  simp only [List.length_cons, List.length_nil, List.drop_succ_cons, List.drop_zero]
  congr 1
  apply List.ext_getElem?
  intro x
  rw [List.getElem?_map, List.getElem?_set, List.getElem?_set]
  by_cases hx : x < S.length
  · rw [List.getElem?_range hx]
    simp only [Option.map_some, posOf]
    by_cases e1 : o1 = x
    · subst e1; simp [hx, Ne.symm hne]
    · by_cases e2 : o2 = x
      · subst e2; simp [hx, e1]
      · simp [e1, e2, List.getElem?_eq_getElem hx]
  · rw [List.getElem?_eq_none (by simp; omega)]
    have e1 : o1 ≠ x := by omega
    have e2 : o2 ≠ x := by omega
    simp [e1, e2, List.getElem?_eq_none (Nat.le_of_not_lt hx)]
section q
variable {P : Program} {sf : SM} {r : RT} {L : List (Nat × D)} {S : Store} {K : Env → Store → Prop} {t : Nat}
theorem q_ld {f : FuncId} {lty pty o1 o2 : Nat} {args' : List Opd} {args : List PV} {qs : List (List (Int × Int))} {ps zs : List Pg} {x : PV} (hm : cOK sf = true) (h : LdS P f lty pty args qs ps x zs) (hx : ofPV x = .pv x) (ha : args'.map (ev (env L)) = .ptr o1 0 0 :: args.map .pv) (hne : o1 ≠ o2)
    (hS1 : S[o1]? = some (ldC lty o2 qs ps)) (hS2 : S[o2]? = some (obD pty 3 (dG ps))) (h0 : ps ≠ []) (hs : sOK sf ((S.set o1 (ldC lty S.length qs zs)).set o2 none ++ [obD pty 3 (dG zs)]))
    (hk : RG P sf r (env ((t, .pv x) :: L)) ((S.set o1 (ldC lty S.length qs zs)).set o2 none ++ [obD pty 3 (dG zs)]) K) : RG P sf (.op ⟨some t, none, .call f args'⟩ r) (env L) S K := by
  refine q_call hm ?_
  rw [ha]
  have l1 : o1 < S.length := (List.getElem?_eq_some_iff.1 hS1).1
  have l2 : o2 < S.length := (List.getElem?_eq_some_iff.1 hS2).1
  have p2 : posOf [o1, o2] o2 = some 1 := by simp [posOf, hne]
  have p1 : posOf [o1, o2] o1 = some 0 := by simp [posOf]
  have e1 : subS [o1, o2] S = [ldC lty 1 qs ps, obD pty 3 (dG ps)] := by
    show [(S.getD o1 none).map (mpOb (inv [o1, o2])), (S.getD o2 none).map (mpOb (inv [o1, o2]))] = _
    rw [List.getD_eq_getElem?_getD, List.getD_eq_getElem?_getD, hS1, hS2]
    show [(ldC lty o2 qs ps).map (mpOb (inv [o1, o2])), (obD pty 3 (dG ps)).map (mpOb (inv [o1, o2]))] = _
    rw [obD_mG, ldC_mp (mp1_own p2)]
  have e2 : (.ptr o1 0 0 :: args.map D.pv).map (mpD (inv [o1, o2])) = .ptr 0 0 0 :: args.map .pv := by
    simp only [List.map_cons, List.map_map]
    rw [show mpD (inv [o1, o2]) (D.ptr o1 0 0) = .ptr 0 0 0 by simp [mpD, mpS, mp1, mp0, inv, p1]]
    exact congrArg (D.ptr 0 0 0 :: ·) (List.map_congr_left fun x _ => mpD_pv _ _)
  have hob : obD pty 3 (dG ps) = some ⟨pty, 3, dG ps⟩ := obD_ne (by simpa using h0)
  refine CallS.frame (c1 := fun d S => d = .pv x ∧ S = [ldC lty 2 qs zs, none, obD pty 3 (dG zs)]) [o1, o2] (by simp [hne]) ?_ ?_ ?_
  · intro o ho
    simp at ho
    rcases ho with rfl | rfl
    · exact ⟨_, hS1⟩
    · exact ⟨_, by rw [hS2, hob]⟩
  · rw [e1, e2]; exact h.trim
  · rintro d S1 ⟨rfl, rfl⟩
    rw [mergeS_two l1 l2 hne, List.map_cons, List.map_nil, obD_mG, ldC_mp (k := S.length) (fwd_ownG (fun n => by simp [fwd, extO]) rfl), mpD_pv]
    exact ⟨hs, hk⟩
theorem q_ld0 {f : FuncId} {lty pty o1 : Nat} {args' : List Opd} {args : List PV} {qs : List (List (Int × Int))} {zs : List Pg} {x : PV} (hm : cOK sf = true) (h : LdS P f lty pty args qs [] x zs) (hx : ofPV x = .pv x) (ha : args'.map (ev (env L)) = .ptr o1 0 0 :: args.map .pv)
    (hS1 : S[o1]? = some (ldC lty 0 qs [])) (hs : sOK sf (S.set o1 (ldC lty S.length qs zs) ++ [obD pty 3 (dG zs)]))
    (hk : RG P sf r (env ((t, .pv x) :: L)) (S.set o1 (ldC lty S.length qs zs) ++ [obD pty 3 (dG zs)]) K) : RG P sf (.op ⟨some t, none, .call f args'⟩ r) (env L) S K := by
  refine q_call hm ?_
  rw [ha]
  have l1 : o1 < S.length := (List.getElem?_eq_some_iff.1 hS1).1
  have e1 : subS [o1] S = [ldC lty 0 qs []] := by
    show [(S.getD o1 none).map (mpOb (inv [o1]))] = _
    rw [List.getD_eq_getElem?_getD, hS1]
    rfl
  have e2 : (.ptr o1 0 0 :: args.map D.pv).map (mpD (inv [o1])) = .ptr 0 0 0 :: args.map .pv := by
    simp only [List.map_cons, List.map_map]
    rw [show mpD (inv [o1]) (D.ptr o1 0 0) = .ptr 0 0 0 by simp [mpD, mpS, mp1, mp0, inv, posOf_single]]
    exact congrArg (D.ptr 0 0 0 :: ·) (List.map_congr_left fun x _ => mpD_pv _ _)
  refine CallS.frame (c1 := fun d S => d = .pv x ∧ S = [ldC lty 1 qs zs, obD pty 3 (dG zs)]) [o1] (by simp) (by simpa using ⟨_, hS1⟩) ?_ ?_
  · rw [e1, e2]; exact h.trim0
  · rintro d S1 ⟨rfl, rfl⟩
    rw [mergeS_one l1]
    simp only [List.getD_eq_getElem?_getD, List.getElem?_cons_zero, Option.getD_some, List.drop_succ_cons, List.drop_zero, List.map_cons, List.map_nil]
    rw [obD_mG, ldC_mp (k := S.length) (fwd_ownG (fun n => by simp [fwd, extO]) rfl), mpD_pv]
    exact ⟨hs, hk⟩
end q

theorem set_stepv {xs : List (Int × Int)} {ys : List Int} {i : Nat} (h : i < xs.length) (hy : i < ys.length) (g : ys.take i = (xs.take i).map Prod.snd) : (ys.set i (nth xs i).2).take (i + 1) = (xs.take (i + 1)).map Prod.snd := by
  rw [take_succ_nth h, take_succ_nth (by simpa using hy), List.take_set_of_le (Nat.le_refl _), g, nth_eq (by simpa using hy)]
  simp
abbrev midR {α : Type} (qs : List α) (a b : Nat) : List α := (qs.take b).drop a
theorem mid_len {α : Type} {qs : List α} {a b : Nat} (h : a ≤ b ∧ b ≤ qs.length) : (midR qs a b).length = b - a := by simp; omega
theorem ldC_len {lty o : Nat} {qs : List (List (Int × Int))} {ps zs : List Pg} (h : ps.length = zs.length) : ldC lty o qs ps = ldC lty o qs zs := by
  show some (⟨lty, 2, [.agg [.pv (prtsP qs), ownD o (dG ps)]]⟩ : Ob) = _
  rw [ownD_len (xs := dG ps) (ys := dG zs) (by simpa using h)]
theorem ldC_mpl {lty o k : Nat} {m : D → D} {qs : List (List (Int × Int))} {ps zs : List Pg} (hl : ps.length = zs.length) (h : mp1 m (ownD o (dG zs)) = ownD k (dG zs)) : (ldC lty o qs ps).map (mpOb m) = ldC lty k qs zs := by
  rw [ldC_len hl]; exact ldC_mp h

/-! parts of a row -/
def prtL (xs : List (Int × Int)) : List (List (Int × Int)) := (List.range (nlv xs.length)).map (cutP xs (nlv xs.length))
theorem prtL_len {xs : List (Int × Int)} : (prtL xs).length = nlv xs.length := by simp [prtL]
theorem prtL_lvs {xs : List (Int × Int)} : (prtL xs).map leafG = lvsP xs := by rw [prtL, lvsP, List.map_map]; rfl
theorem prtL_step {xs : List (Int × Int)} {i : Nat} (h : i < nlv xs.length) : (prtL xs).take (i + 1) = (prtL xs).take i ++ [cutP xs (nlv xs.length) i] := by
  rw [take_succ_nth (by rw [prtL_len]; exact h), nth_eq (by rw [prtL_len]; exact h)]
  simp [prtL]
theorem prtL_small {xs : List (Int × Int)} (h : xs.length ≤ 24) : ∀ x ∈ prtL xs, x.length ≤ 24 := fun x hx => by
  obtain ⟨i, hi, rfl⟩ := List.mem_map.1 hx
  rw [cutP_len (List.mem_range.1 hi)]
  have := cut_le (m := xs.length) (n := nlv xs.length) (i := i + 1) (by have := List.mem_range.1 hi; omega) (nlv_le h).1
  omega
theorem prtL_ne {xs : List (Int × Int)} (h : xs.length ≤ 24) (h1 : nlv xs.length ≠ 1) : ∀ x ∈ prtL xs, 0 < x.length ∧ x.length ≤ 24 := fun x hx => by
  refine ⟨?_, prtL_small h x hx⟩
  obtain ⟨i, hi, rfl⟩ := List.mem_map.1 hx
  have hi := List.mem_range.1 hi
  have h2 := nlv_le h
  rw [cutP_len hi]
  have := cut_step (m := xs.length) (n := nlv xs.length) (i := i) (by omega) (by omega)
  omega
theorem fk_leaf {x : List (Int × Int)} : fk (leafG x) = (nth x 0).1 := by
  cases x <;> rfl
theorem mid_lvs {xs : List (Int × Int)} {a b : Nat} : (midR (prtL xs) a b).map leafG = ((lvsP xs).take b).drop a := by
  rw [← prtL_lvs, List.map_drop, List.map_take]
theorem mid_fk {xs : List (Int × Int)} {a b : Nat} : ((midR (prtL xs) a b).map fun x => (nth x 0).1) = (((lvsP xs).take b).drop a).map fk := by
  rw [← mid_lvs, List.map_map]
  exact List.map_congr_left fun x _ => fk_leaf.symm
abbrev dR (qs : List (List (Int × Int))) : List D := qs.map fun x => D.pv (prs x)
theorem obD_mR {ty sz : Nat} {m : D → D} (qs : List (List (Int × Int))) : (obD ty sz (dR qs)).map (mpOb m) = obD ty sz (dR qs) := obD_m (f := prs) qs fun _ => rfl
theorem toPVs_dR (qs : List (List (Int × Int))) : toPVs (dR qs) = some (qs.map prs) := toPVs_m (f := prs) (fun _ => rfl) qs
theorem load1 {xs : List (Int × Int)} (h : nlv xs.length = 1) : ([] : List Pg) ++ (midR (prtL xs) 0 1).map leafG = loadP xs := by
  rw [mid_lvs, loadP, if_pos h, List.drop_zero, List.nil_append, List.take_of_length_le (by rw [lvsP_len]; omega)]
theorem load2 {xs : List (Int × Int)} (h1 : nlv xs.length ≠ 1) (h : nlv xs.length ≤ 5) : ([] : List Pg) ++ [(⟨(midR (prtL xs) (0 + 1) (nlv xs.length)).map fun x => (nth x 0).1, natI (0 + 1) (nlv xs.length - 0), []⟩ : Pg)] ++ (midR (prtL xs) 0 (nlv xs.length)).map leafG = loadP xs := by
  rw [mid_fk, mid_lvs, loadP, if_neg h1, if_pos h, List.take_of_length_le (by rw [lvsP_len]; omega)]
  rfl
def lp3 (xs : List (Int × Int)) : List Pg := [(⟨[], [], []⟩ : Pg)] ++ [(⟨(midR (prtL xs) (0 + 1) 3).map fun x => (nth x 0).1, natI (1 + 1) (3 - 0), []⟩ : Pg)] ++ (midR (prtL xs) 0 3).map leafG
theorem lp3_len {xs : List (Int × Int)} (h : nlv xs.length = 6) : (lp3 xs).length = 5 := by
  simp only [lp3, List.length_append, List.length_map]
  rw [mid_len (by rw [prtL_len]; omega)]; rfl
def lp6 (xs : List (Int × Int)) : List Pg := lp3 xs ++ [(⟨(midR (prtL xs) (3 + 1) 6).map fun x => (nth x 0).1, natI (5 + 1) (6 - 3), []⟩ : Pg)] ++ (midR (prtL xs) 3 6).map leafG
theorem load3 {xs : List (Int × Int)} (h : nlv xs.length = 6) : (lp6 xs).set 0 ⟨[(nth (nth (prtL xs) 3) 0).1], [1, 5], []⟩ = loadP xs := by
  have hl := lvsP_len (xs := xs)
  have e : (nth (nth (prtL xs) 3) 0).1 = fk (nth (lvsP xs) 3) := by
    rw [← prtL_lvs, nth_eq (xs := (prtL xs).map leafG) (by rw [List.length_map, prtL_len]; omega), nth_eq (xs := prtL xs) (by rw [prtL_len]; omega), List.getElem_map, fk_leaf]
  rw [lp6, lp3, mid_fk, mid_fk, mid_lvs, mid_lvs, loadP, if_neg (by omega), if_neg (by omega), h, e, List.take_of_length_le (i := 6) (by omega)]
  rfl
theorem l6 {a b c d e f a' b' c' d' e' f' : Option Ob} (h1 : a = a') (h2 : b = b') (h3 : c = c') (h4 : d = d') (h5 : e = e') (h6 : f = f') : ([a, b, c, d, e, f] : Store) = [a', b', c', d', e', f'] := by rw [h1, h2, h3, h4, h5, h6]
end Go.V

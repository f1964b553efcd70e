/- A part of the proofs about laws of the page tree (see the text that bears the law): a small language of steps, its rules, and what the functions of the program return. -/
import Derived.Test.YtgblkaealpggdaaQW
set_option linter.all false
set_option linter.unusedVariables false
set_option linter.unusedSimpArgs false
/-! numbering anew -/
namespace Go.V
theorem setAt_dI {N : List Int} {j : Nat} {v : Int} (hj : j < N.length) : setAt (dI N) j [.pv (i64 v)] = dI (N.set j v) := by
  show ((N.map _).take j ++ [D.pv (i64 v)] ++ (N.map _).drop (j + 1)) = (N.set j v).map _
  rw [List.set_eq_take_append_cons_drop, if_pos hj, List.map_append, List.map_cons, List.map_take, List.map_drop, List.append_assoc]
  rfl
def dRn (t : Pt) (i : Nat) : List D := ((ordT t).take i).map fun x => kG (8 + 2 * x.toNat + 1) (pg t x)
theorem dRn_succ {t : Pt} {i : Nat} (h : i < (ordT t).length) : dRn t (i + 1) = dRn t i ++ [kG (8 + 2 * (nth (ordT t) i).toNat + 1) (pg t (nth (ordT t) i))] := by
  rw [dRn, dRn, take_succ_nth h, List.map_append]; rfl
theorem dRn_len {t : Pt} {i : Nat} (h : i ≤ (ordT t).length) : (dRn t i).length = i := by rw [dRn, List.length_map, List.length_take]; omega
def csR (t : Pt) (i j : Nat) : List Int := if ((ordT t).take i).contains (j : Int) then (nth t.ps j).cs.map (rnC (ordT t)) else (nth t.ps j).cs
def halfC (t : Pt) (x k : Nat) : List Int := ((nth t.ps x).cs.take k).map (rnC (ordT t)) ++ (nth t.ps x).cs.drop k
theorem half_len {t : Pt} {x k : Nat} (hk : k ≤ (nth t.ps x).cs.length) : (halfC t x k).length = (nth t.ps x).cs.length := by
  rw [halfC, List.length_append, List.length_map, List.length_take, List.length_drop]; omega
theorem half_zero {t : Pt} {x : Nat} : halfC t x 0 = (nth t.ps x).cs := by simp [halfC]
theorem half_all {t : Pt} {x : Nat} : halfC t x (nth t.ps x).cs.length = (nth t.ps x).cs.map (rnC (ordT t)) := by simp [halfC]
theorem half_at {t : Pt} {x k : Nat} (hk : k < (nth t.ps x).cs.length) : nth (halfC t x k) k = nth (nth t.ps x).cs k := by
  have hl : (((nth t.ps x).cs.take k).map (rnC (ordT t))).length = k := by rw [List.length_map, List.length_take]; omega
  rw [nth_eq (by rw [half_len (by omega)]; exact hk), nth_eq hk]
  simp only [halfC]
  rw [List.getElem_append_right (by omega)]
  simp only [hl, Nat.sub_self, List.getElem_drop, Nat.add_zero]
theorem half_set {t : Pt} {x k : Nat} (hk : k < (nth t.ps x).cs.length) : (halfC t x k).set k (rnC (ordT t) (nth (nth t.ps x).cs k)) = halfC t x (k + 1) := by
  have hl : (((nth t.ps x).cs.take k).map (rnC (ordT t))).length = k := by rw [List.length_map, List.length_take]; omega
  rw [halfC, List.set_append_right _ _ (by omega), hl, Nat.sub_self, List.drop_eq_getElem_cons hk, List.set_cons_zero, halfC, take_succ_nth hk, List.map_append, List.append_assoc]
  rfl
theorem take_has {W : List Int} (hn : W.Nodup) {i j : Nat} (hi : i < W.length) (hj : j < W.length) : (W.take i).contains (nth W j) = decide (j < i) := by
  by_cases h : j < i
  · rw [decide_eq_true h, List.contains_iff_mem]
    have : j < (W.take i).length := by rw [List.length_take]; omega
    have e : nth (W.take i) j = nth W j := by rw [nth_eq this, nth_eq hj, List.getElem_take]
    rw [← e]; exact nth_mem this
  · rw [decide_eq_false h]
    refine Bool.eq_false_iff.2 fun hc => ?_
    obtain ⟨q, hq, e⟩ := List.getElem_of_mem (List.contains_iff_mem.1 hc)
    rw [List.length_take] at hq
    rw [List.getElem_take, ← nth_eq (show q < W.length by omega)] at e
    have := (nodup_at hn (by omega) hj).1 e
    omega
theorem csR_zero {t : Pt} {j : Nat} : csR t 0 j = (nth t.ps j).cs := by simp [csR]
theorem csR_all {t : Pt} (f : OrdF t) {j : Nat} (hj : j < t.ps.length) : csR t (ordT t).length j = (nth t.ps j).cs.map (rnC (ordT t)) := by
  have : (j : Int) ∈ ordT t := f.all _ (inT_iff.2 (by omega))
  rw [csR, List.take_length, if_pos (List.contains_iff_mem.2 this)]
structure NumF (t : Pt) (N : List Int) : Prop where
  len : N.length = 16
  at_ : ∀ x ∈ ordT t, nth N x.toNat = rnC (ordT t) x
theorem num_all {t : Pt} (f : OrdF t) {N : List Int} (hl : N.length = 16) (h : ∀ j, j < (ordT t).length → nth N (nth (ordT t) j).toNat = (j : Int)) : NumF t N :=
  ⟨hl, fun x hx => by
    have k := plc_mem f.nd hx
    have := h _ k.1
    rw [k.2] at this
    exact this⟩
theorem num_step {t : Pt} (f : OrdF t) {N : List Int} {i : Nat} (hl : N.length = 16) (hi : i < (ordT t).length) (h : ∀ j, j < i → nth N (nth (ordT t) j).toNat = (j : Int)) :
    ∀ j, j < i + 1 → nth (N.set (nth (ordT t) i).toNat (i : Int)) (nth (ordT t) j).toNat = (j : Int) := fun j hj => by
  have h1 := f.rg _ (nth_mem (xs := ordT t) (i := j) (by omega))
  have h2 := f.rg _ (nth_mem hi)
  have h3 := f.n1
  rw [nth_set (by omega)]
  by_cases e : j = i
  · subst e; rw [if_pos rfl]
  · have : ¬ (nth (ordT t) i).toNat = (nth (ordT t) j).toNat := fun e2 => e ((nodup_at f.nd (by omega) hi).1 (by omega))
    rw [if_neg this]; exact h j (by omega)
structure RnA (tt tp ti ta : Nat) (t : Pt) (N : List Int) (S : Store) : Prop where
  res : S[1]? = some (some ⟨tt, 2, [.agg [.pv (i64 0), .nils]]⟩)
  num : S[3]? = some (some ⟨ta, 16, [.agg (dI N)]⟩)
  kp : KpS tp ti t.ps 7 8 t.ps.length S
  h8 : S[8 + 2 * t.ps.length]? = some (some ⟨tt, 2, [.agg [.pv (i64 t.r), .own 7 t.ps.length]]⟩)
  len : S.length = 9 + 2 * t.ps.length
theorem rnA {tt tp ti ta : Nat} {t : Pt} {N : List Int} {S0 S1 : Store} (hp : ∀ (o : Nat) v, S0[o]? = some v → S1[o]? = some v) (h1 : S0[1]? = some (some ⟨tt, 2, [.agg [.pv (i64 0), .nils]]⟩)) (h3 : S0[3]? = some (some ⟨ta, 16, [.agg (dI N)]⟩))
    (hk : KpS tp ti t.ps 7 8 t.ps.length S1) (hl : S1.length = 8 + 2 * t.ps.length) {x : Option Ob} : RnA tt tp ti ta t N ((S1 ++ [x]).set S1.length (some ⟨tt, 2, [.agg [.pv (i64 t.r), .own 7 t.ps.length]]⟩)) := by
  rw [app_set]
  refine ⟨app_get (hp _ _ h1), app_get (hp _ _ h3), hk.app, ?_, by rw [List.length_append, hl]; simp; omega⟩
  rw [← hl]; exact app_last
structure RnI (tt tp ti ta : Nat) (t : Pt) (N : List Int) (i l : Nat) (S : Store) : Prop where
  res : S[1]? = some (some ⟨tt, 2, [.agg [.pv (i64 0), .nils]]⟩)
  num : S[3]? = some (some ⟨ta, 16, [.agg (dI N)]⟩)
  pag : S[7]? = some (some ⟨tp, 3, dK 8 t.ps.length t.ps⟩)
  h8 : S[8 + 2 * t.ps.length]? = some (some ⟨tt, 2, [.agg [.pv (i64 t.r), .own 7 t.ps.length]]⟩)
  h9 : S[9 + 2 * t.ps.length]? = some (some ⟨tt, 2, [.agg [.pv (i64 0), ownD l (dRn t i)]]⟩)
  lst : S[l]? = some (obD tp 3 (dRn t i))
  kid : ∀ j, j < t.ps.length → S[8 + 2 * j + 1]? = some (obD ti 1 (dI (csR t i j)))
  lo : 9 + 2 * t.ps.length < l
theorem rnI {tt tp ti ta : Nat} {t : Pt} {N : List Int} {S : Store} (h : RnA tt tp ti ta t N S) {x : Option Ob} : RnI tt tp ti ta t N 0 (10 + 2 * t.ps.length) ((S ++ [x]).set S.length (some ⟨tt, 2, [.agg [.pv (i64 0), .nils]]⟩) ++ [none]) := by
  have hl := h.len
  rw [app_set]
  refine ⟨app_get (app_get h.res), app_get (app_get h.num), app_get (app_get h.kp.pag), app_get (app_get h.h8), app_get ?_, ?_, fun j hj => ?_, by omega⟩
  · rw [← hl]; exact app_last
  · have : 10 + 2 * t.ps.length = (S ++ [some (⟨tt, 2, [.agg [.pv (i64 0), .nils]]⟩ : Ob)]).length := by rw [List.length_append, hl]; simp; omega
    rw [this]; exact app_last
  · rw [csR_zero]; exact app_get (app_get (h.kp.kid j hj))
structure RnJ (tt tp ti ta : Nat) (t : Pt) (N : List Int) (i k l o x : Nat) (S : Store) : Prop where
  res : S[1]? = some (some ⟨tt, 2, [.agg [.pv (i64 0), .nils]]⟩)
  num : S[3]? = some (some ⟨ta, 16, [.agg (dI N)]⟩)
  pag : S[7]? = some (some ⟨tp, 3, dK 8 t.ps.length t.ps⟩)
  h8 : S[8 + 2 * t.ps.length]? = some (some ⟨tt, 2, [.agg [.pv (i64 t.r), .own 7 t.ps.length]]⟩)
  h9 : S[9 + 2 * t.ps.length]? = some (some ⟨tt, 2, [.agg [.pv (i64 0), ownD l (dRn t i)]]⟩)
  lst : S[l]? = some (obD tp 3 (dRn t i))
  kid : ∀ j, j < t.ps.length → j ≠ x → S[8 + 2 * j + 1]? = some (obD ti 1 (dI (csR t i j)))
  cur : S[8 + 2 * x + 1]? = some (obD ti 1 (dI (halfC t x k)))
  pg : S[o]? = some (some ⟨tp, 3, [kG (8 + 2 * x + 1) (nth t.ps x)]⟩)
  lo : 9 + 2 * t.ps.length < l
  ol : 9 + 2 * t.ps.length < o
theorem RnI.next {tt tp ti ta : Nat} {t : Pt} {N : List Int} {i l : Nat} {S : Store} (f : OrdF t) (h : RnI tt tp ti ta t N i l S) (hi : i < (ordT t).length) {z : Option Ob} :
    RnJ tt tp ti ta t N i 0 l S.length (nth (ordT t) i).toNat ((S ++ [z]).set S.length (some ⟨tp, 3, [kG (8 + 2 * (nth (ordT t) i).toNat + 1) (nth t.ps (nth (ordT t) i).toNat)]⟩)) := by
  have hr := f.rg _ (nth_mem hi)
  rw [app_set]
  refine ⟨app_get h.res, app_get h.num, app_get h.pag, app_get h.h8, app_get h.h9, app_get h.lst, fun j hj _ => app_get (h.kid j hj), ?_, app_last, h.lo, by have := lt_of_get h.lst; have := h.lo; omega⟩
  have hx : (nth (ordT t) i).toNat < t.ps.length := by omega
  have := app_get (x := some (⟨tp, 3, [kG (8 + 2 * (nth (ordT t) i).toNat + 1) (nth t.ps (nth (ordT t) i).toNat)]⟩ : Ob)) (h.kid _ hx)
  rw [csR, show (((nth (ordT t) i).toNat : Nat) : Int) = nth (ordT t) i by omega, take_has f.nd hi hi, decide_eq_false (by omega)] at this
  rw [half_zero]
  exact this
theorem RnJ.step {tt tp ti ta : Nat} {t : Pt} {N : List Int} {i k l o x : Nat} {S : Store} (h : RnJ tt tp ti ta t N i k l o x S) (hx : x < t.ps.length) (hk : k < (nth t.ps x).cs.length) :
    RnJ tt tp ti ta t N i (k + 1) l o x (S.set (8 + 2 * x + 1) (obD ti 1 (dI ((halfC t x k).set k (rnC (ordT t) (nth (nth t.ps x).cs k)))))) := by
  have h1 := h.lo
  have h2 := h.ol
  rw [half_set hk]
  exact ⟨set_get h.res (by omega), set_get h.num (by omega), set_get h.pag (by omega), set_get h.h8 (by omega), set_get h.h9 (by omega), set_get h.lst (by omega), fun j hj hn => set_get (h.kid j hj hn) (by omega), set_self (lt_of_get h.cur), set_get h.pg (by omega), h1, h2⟩
theorem RnJ.done {tt tp ti ta : Nat} {t : Pt} {N : List Int} {i l o : Nat} {S : Store} (f : OrdF t) (hi : i < (ordT t).length) (h : RnJ tt tp ti ta t N i (nth t.ps (nth (ordT t) i).toNat).cs.length l o (nth (ordT t) i).toNat S) {y : Option Ob} :
    RnI tt tp ti ta t N (i + 1) (S.length + 1) ((((S ++ [y]).set l none) ++ [obD tp 3 (dRn t (i + 1))]).set (9 + 2 * t.ps.length) (some ⟨tt, 2, [.agg [.pv (i64 0), ownD (S.length + 1) (dRn t (i + 1))]]⟩)) := by
  have hr := f.rg _ (nth_mem hi)
  have h1 := h.lo
  have h2 := h.ol
  have hl := lt_of_get h.lst
  have g : ∀ {p v}, S[p]? = some v → p ≠ l → p ≠ 9 + 2 * t.ps.length → ((((S ++ [y]).set l none) ++ [obD tp 3 (dRn t (i + 1))]).set (9 + 2 * t.ps.length) (some ⟨tt, 2, [.agg [.pv (i64 0), ownD (S.length + 1) (dRn t (i + 1))]]⟩))[p]? = some v := fun {p v} hp hn hm => set_get (app_get (set_get (app_get hp) (fun e => hn e.symm))) (fun e => hm e.symm)
  refine ⟨g h.res (by omega) (by omega), g h.num (by omega) (by omega), g h.pag (by omega) (by omega), g h.h8 (by omega) (by omega), set_self ?_, ?_, fun j hj => ?_, by omega⟩
  · rw [List.length_append, List.length_set, List.length_append]; omega
  · refine set_get ?_ (by omega)
    have e : S.length + 1 = ((S ++ [y]).set l none).length := by rw [List.length_set, List.length_append]; rfl
    rw [e]; exact app_last
  · by_cases e : j = (nth (ordT t) i).toNat
    · subst e
      have := g h.cur (by omega) (by omega)
      rw [half_all] at this
      rw [this, csR, show (((nth (ordT t) i).toNat : Nat) : Int) = nth (ordT t) i by omega]
      by_cases e2 : i + 1 < (ordT t).length
      · rw [take_has f.nd e2 hi, decide_eq_true (by omega), if_pos rfl]
      · rw [List.take_of_length_le (by omega), if_pos (List.contains_iff_mem.2 (nth_mem hi))]
    · rw [g (h.kid j hj e) (by omega) (by omega), csR, csR, take_succ_nth hi]
      have : ((ordT t).take i ++ [nth (ordT t) i]).contains (j : Int) = ((ordT t).take i).contains (j : Int) := by
        rw [Bool.eq_iff_iff, List.contains_iff_mem, List.contains_iff_mem, List.mem_append, List.mem_singleton]
        exact ⟨fun h => h.resolve_right fun e2 => e (by omega), .inl⟩
      rw [this]
theorem optMap_map {α : Type} {n : Nat} {S : Store} {f : α → D} {g : α → PV} : ∀ {l : List α}, (∀ x ∈ l, toR n S (f x) = some (g x)) → optMap (toR n S) (l.map f) = some (l.map g)
  | [], _ => rfl
  | a :: l, h => by
    rw [List.map_cons, optMap, h a List.mem_cons_self, optMap_map fun x hx => h x (List.mem_cons_of_mem _ hx)]; rfl
theorem RnI.reads {tt tp ti ta : Nat} {t : Pt} {N : List Int} {i l : Nat} {S : Store} (f : OrdF t) (h : RnI tt tp ti ta t N i l S) (hi : i = (ordT t).length) {S' : Store} (hS : ∀ (o : Nat) v, o ≠ 1 → S[o]? = some v → S'[o]? = some v) : toR 4 S' (ownD l (dRn t i)) = some (pgsP (rnT t).ps) := by
  subst hi
  have h1 := h.lo
  have e0 : pgsP (rnT t).ps = .sl ((ordT t).map fun x => pgP (rnG (ordT t) (pg t x))) := congrArg PV.sl List.map_map
  have hd : dRn t (ordT t).length = (ordT t).map fun x => kG (8 + 2 * x.toNat + 1) (pg t x) := by rw [dRn, List.take_length]
  have hl := hS _ _ (by omega) h.lst
  rw [hd] at hl ⊢
  rw [e0]
  refine toR_own (n := 3) hl (optMap_map fun x hx => ?_)
  have hr := f.rg _ hx
  have hk := hS _ _ (by omega) (h.kid x.toNat (by omega))
  rw [csR_all f (by omega)] at hk
  have e : ownD (8 + 2 * x.toNat + 1) (dI (pg t x).cs) = ownD (8 + 2 * x.toNat + 1) (dI ((nth t.ps x.toNat).cs.map (rnC (ordT t)))) := ownD_len (by simp)
  show toR 3 S' (.agg [.pv (ints (pg t x).ks), ownD (8 + 2 * x.toNat + 1) (dI (pg t x).cs), .pv (ints (pg t x).vs)]) = _
  rw [e]
  exact toR_agg3 rfl (toR_I (n := 0) hk) rfl
end Go.V
namespace Go.V
theorem elems_last {S : Store} {ty : Nat} {d : D} : elemsOf (S ++ [some (⟨ty, 3, [d]⟩ : Ob)]) 3 (.own S.length 1) = some [d] := by
  simp [elemsOf]
theorem cell_k {o : Nat} {g : Pg} : [kG o g].all cellOK = true := by
  simp [cellOK, cellsD, isCell_own, isCell_sl]
theorem q_app_k {P : Program} {r : RT} {L : List (Nat × D)} {S : Store} {K : Env → Store → Prop} {z tp bytes l i : Nat} {t : Pt} {x y : Opd} (hx : ev (env L) x = ownD l (dRn t i)) (hy : ev (env L) y = .own S.length 1) (hi : i < (ordT t).length) (hl : (ordT t).length ≤ 16 ∧ bytes = 72) (hS : S[l]? = some (obD tp 3 (dRn t i)))
    (h : RG P .seq r (env ((z, ownD (S.length + 1) (dRn t (i + 1))) :: L)) (((S ++ [some (⟨tp, 3, [kG (8 + 2 * (nth (ordT t) i).toNat + 1) (nth t.ps (nth (ordT t) i).toNat)]⟩ : Ob)]).set l none) ++ [obD tp 3 (dRn t (i + 1))]) K) :
    RG P .seq (.op ⟨some z, none, .app tp 3 bytes x y⟩ r) (env L) (S ++ [some (⟨tp, 3, [kG (8 + 2 * (nth (ordT t) i).toNat + 1) (nth t.ps (nth (ordT t) i).toNat)]⟩ : Ob)]) K := by
  refine q_app_d (xs := dRn t i) (ys := [kG (8 + 2 * (nth (ordT t) i).toNat + 1) (nth t.ps (nth (ordT t) i).toNat)]) hx (by rw [hy]; exact elems_last) cell_k (app_get hS) ⟨?_, ?_⟩ ⟨trivial, ?_⟩
  · rw [dRn_len (by omega), hl.2]; simp; omega
  · rw [dRn_len (by omega)]; simp [maxLen]; omega
  · rw [List.length_append]
    rw [dRn_succ hi] at h
    exact h
end Go.V

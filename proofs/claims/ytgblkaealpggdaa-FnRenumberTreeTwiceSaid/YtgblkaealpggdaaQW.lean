/- A part of the proofs about laws of the page tree (see the text that bears the law): a small language of steps, its rules, and what the functions of the program return. -/
import Derived.Test.YtgblkaealpggdaaQV
set_option linter.all false
set_option linter.unusedVariables false
set_option linter.unusedSimpArgs false
/-! a tree whose pages have their kids own -/
namespace Go.V
theorem app_get {S : Store} {x : Option Ob} {o : Nat} {v : Option Ob} (h : S[o]? = some v) : (S ++ [x])[o]? = some v := by
  rw [List.getElem?_append_left (List.getElem?_eq_some_iff.1 h).1]; exact h
theorem app_last {S : Store} {x : Option Ob} : (S ++ [x])[S.length]? = some x := by simp
theorem set_get {S : Store} {x : Option Ob} {o p : Nat} {v : Option Ob} (h : S[o]? = some v) (hn : p ≠ o) : (S.set p x)[o]? = some v := by
  rw [List.getElem?_set_ne hn]; exact h
theorem set_self {S : Store} {x : Option Ob} {o : Nat} (h : o < S.length) : (S.set o x)[o]? = some x := by
  rw [List.getElem?_set_self h]
theorem app_set {S : Store} {x y : Option Ob} : (S ++ [x]).set S.length y = S ++ [y] := by
  rw [List.set_append_right _ _ (Nat.le_refl _), Nat.sub_self]; rfl
theorem lt_of_get {S : Store} {o : Nat} {v : Option Ob} (h : S[o]? = some v) : o < S.length := (List.getElem?_eq_some_iff.1 h).1
def zG : D := .agg [.nils, .nils, .nils]
abbrev kG (o : Nat) (g : Pg) : D := .agg [.pv (ints g.ks), ownD o (dI g.cs), .pv (ints g.vs)]
def dK (b m : Nat) (ps : List Pg) : List D := (List.range ps.length).map fun j => if j < m then kG (b + 2 * j + 1) (nth ps j) else zG
theorem dK_len {b m : Nat} {ps : List Pg} : (dK b m ps).length = ps.length := by simp [dK]
theorem dK_at {b m : Nat} {ps : List Pg} {j : Nat} (hj : j < ps.length) : (dK b m ps)[j]? = some (if j < m then kG (b + 2 * j + 1) (nth ps j) else zG) := by
  rw [dK, List.getElem?_map, List.getElem?_range hj]; rfl
theorem dK_zero {b : Nat} {ps : List Pg} : dK b 0 ps = List.replicate ps.length zG := by
  refine List.ext_getElem? fun j => ?_
  by_cases hj : j < ps.length
  · rw [dK_at hj, if_neg (by omega), List.getElem?_replicate, if_pos hj]
  · rw [List.getElem?_eq_none (by rw [dK_len]; omega), List.getElem?_eq_none (by simp; omega)]
theorem dK_set {b m : Nat} {ps : List Pg} (hm : m < ps.length) : (dK b m ps).set m (kG (b + 2 * m + 1) (nth ps m)) = dK b (m + 1) ps := by
  refine List.ext_getElem? fun j => ?_
  by_cases hj : j < ps.length
  · rw [dK_at hj, List.getElem?_set]
    by_cases e : m = j
    · subst e
      rw [if_pos rfl, if_pos (by rw [dK_len]; exact hm), if_pos (by omega)]
    · rw [if_neg e, dK_at hj]
      by_cases e2 : j < m
      · rw [if_pos e2, if_pos (by omega)]
      · rw [if_neg e2, if_neg (by omega)]
  · rw [List.getElem?_eq_none (by rw [List.length_set, dK_len]; omega), List.getElem?_eq_none (by rw [dK_len]; omega)]
theorem dK_map {b m k : Nat} {ps : List Pg} : (dK b m ps).map (mpS (fwd [] k)) = dK (k + b) m ps := by
  rw [dK, dK, List.map_map]
  refine List.map_congr_left fun j _ => ?_
  show mpS (fwd [] k) (if j < m then _ else _) = _
  split
  · have e : mp1 (fwd [] k) (ownD (b + 2 * j + 1) (dI (nth ps j).cs)) = ownD (k + b + 2 * j + 1) (dI (nth ps j).cs) := by
      rw [fwd_own' (k := 0), show k + (b + 2 * j + 1) = k + b + 2 * j + 1 by omega]
    exact congrArg (fun z => D.agg [.pv (ints (nth ps j).ks), z, .pv (ints (nth ps j).vs)]) e
  · rfl
structure KpS (tp ti : Nat) (ps : List Pg) (p b m : Nat) (S : Store) : Prop where
  pag : S[p]? = some (some ⟨tp, 3, dK b m ps⟩)
  kid : ∀ j, j < m → S[b + 2 * j + 1]? = some (obD ti 1 (dI (nth ps j).cs))
structure CpA (tt tp ti : Nat) (t : Pt) (i : Nat) (S : Store) : Prop where
  one : S[1]? = some (some ⟨tt, 2, [.agg [.pv (i64 0), .nils]]⟩)
  two : S[2]? = some (some ⟨tt, 2, [.agg [.pv (i64 t.r), .own 3 t.ps.length]]⟩)
  kp : KpS tp ti t.ps 3 4 i S
  len : S.length = 4 + 2 * i
structure CpB (tt tp ti : Nat) (t : Pt) (i : Nat) (S : Store) : Prop where
  one : S[1]? = some (some ⟨tt, 2, [.agg [.pv (i64 0), .nils]]⟩)
  two : S[2]? = some (some ⟨tt, 2, [.agg [.pv (i64 t.r), .own 3 t.ps.length]]⟩)
  kp : KpS tp ti t.ps 3 4 i S
  x : S[4 + 2 * i]? = some (some ⟨tp, 3, [.agg [.pv (ints (nth t.ps i).ks), .pv (ints (nth t.ps i).cs), .pv (ints (nth t.ps i).vs)]]⟩)
  len : S.length = 4 + 2 * i + 1
theorem cp_zero {tt tp ti : Nat} {t : Pt} {z : Option Ob} : CpA tt tp ti t 0 ([z, some ⟨tt, 2, [.agg [.pv (i64 0), .nils]]⟩, some ⟨tt, 2, [.agg [.pv (i64 t.r), .own 3 t.ps.length]]⟩, some ⟨tp, 3, List.replicate t.ps.length zG⟩] : Store) :=
  ⟨rfl, rfl, ⟨by rw [dK_zero]; rfl, fun j hj => by omega⟩, rfl⟩
theorem KpS.app {tp ti : Nat} {ps : List Pg} {p b m : Nat} {S : Store} (h : KpS tp ti ps p b m S) {y : Option Ob} : KpS tp ti ps p b m (S ++ [y]) :=
  ⟨app_get h.pag, fun j hj => app_get (h.kid j hj)⟩
theorem CpA.next {tt tp ti : Nat} {t : Pt} {i : Nat} {S : Store} (h : CpA tt tp ti t i S) : CpB tt tp ti t i ((S ++ [some (⟨tp, 3, [zG]⟩ : Ob)]).set S.length (some ⟨tp, 3, [.agg [.pv (ints (nth t.ps i).ks), .pv (ints (nth t.ps i).cs), .pv (ints (nth t.ps i).vs)]]⟩)) := by
  rw [app_set]
  refine ⟨app_get h.one, app_get h.two, h.kp.app, ?_, ?_⟩
  · rw [← h.len]; exact app_last
  · rw [List.length_append, h.len]; rfl
theorem CpB.next {tt tp ti : Nat} {t : Pt} {i : Nat} {S : Store} (h : CpB tt tp ti t i S) (hi : i < t.ps.length) : CpA tt tp ti t (i + 1) ((S ++ [obD ti 1 (dI (nth t.ps i).cs)]).set 3 (some ⟨tp, 3, (dK 4 i t.ps).set i (kG S.length (nth t.ps i))⟩)) := by
  have hl := h.len
  have e : kG S.length (nth t.ps i) = kG (4 + 2 * i + 1) (nth t.ps i) := by rw [hl]
  rw [e, dK_set hi]
  refine ⟨set_get (app_get h.one) (by omega), set_get (app_get h.two) (by omega), ⟨set_self (by rw [List.length_append, hl]; simp; omega), fun j hj => ?_⟩, by rw [List.length_set, List.length_append, hl]; simp; omega⟩
  refine set_get ?_ (by omega)
  by_cases e2 : j = i
  · subst e2
    rw [← hl]; exact app_last
  · exact app_get (h.kp.kid j (by omega))
def CpC (P : Program) (f : FuncId) (tp ti : Nat) (t : Pt) : Prop :=
  CallS P f [.pv (ptP t)] [] (fun d S => d = .agg [.pv (i64 t.r), .own 3 t.ps.length] ∧ KpS tp ti t.ps 3 4 t.ps.length S ∧ S.length = 4 + 2 * t.ps.length)
theorem res_one {E : Env} {S : Store} {a o ty : Nat} {d0 d1 : D} (h1 : E a = .ptr o 0 0) (h2 : S[o]? = some (some ⟨ty, 2, [.agg [d0, d1]]⟩)) : resAll E S [.c a 2] = some (.agg [d0, d1]) := by
  simp [resAll, resDs, resD, h1, h2, headAgg, isAggD, isTupD]
theorem res_tree {E : Env} {S : Store} {a c o ty : Nat} {r : Int} {d : D} {p : PV} {b : Bool} (h1 : E a = .ptr o 0 0) (h2 : S[o]? = some (some ⟨ty, 2, [.agg [.pv (i64 r), d]]⟩)) (h3 : toR 4 S d = some p) (h4 : E c = .pv (.bool b)) :
    resPV E S [.c a 2, .t c] = some (.tup [.agg [i64 r, p], .bool b]) := by
  have e : toR 5 S (.agg [.pv (i64 r), d]) = some (.agg [i64 r, p]) := toR_agg2 rfl h3
  simp [resPV, resPVs, resD, h1, h2, headAgg, isAggD, e, h4]
  rfl
theorem q_copyK {P : Program} {r : RT} {L : List (Nat × D)} {S : Store} {K : Env → Store → Prop} {f : FuncId} {t tp ti : Nat} {T : Pt} {args' : List Opd} (hc : CpC P f tp ti T) (ha : sameA (args'.map (ev (env L))) [.pv (ptP T)])
    (h : ∀ S' : Store, (∀ (o : Nat) v, S[o]? = some v → S'[o]? = some v) → KpS tp ti T.ps (S.length + 3) (S.length + 4) T.ps.length S' → S'.length = S.length + 4 + 2 * T.ps.length → RG P .seq r (env ((t, .agg [.pv (i64 T.r), .own (S.length + 3) T.ps.length]) :: L)) S' K) :
    RG P .seq (.op ⟨some t, none, .call f args'⟩ r) (env L) S K := by
  refine q_call rfl (CallS.same ha ?_)
  refine CallS.frame (c1 := fun d S => d = .agg [.pv (i64 T.r), .own 3 T.ps.length] ∧ KpS tp ti T.ps 3 4 T.ps.length S ∧ S.length = 4 + 2 * T.ps.length) [] (by simp) (by simp) ?_ ?_
  · exact hc
  · rintro d S1 ⟨rfl, hk, hl⟩
    rw [mergeS_nil]
    refine ⟨trivial, ?_⟩
    have e : mpD (fwd [] S.length) (.agg [.pv (i64 T.r), .own 3 T.ps.length]) = .agg [.pv (i64 T.r), .own (S.length + 3) T.ps.length] := by
      simp [mpD, mpS, mp1, mp0, fwd, posOf, extO]
    rw [e]
    refine h _ (fun o v hv => ?_) ⟨?_, fun j hj => ?_⟩ (by rw [List.length_append, List.length_map, hl]; omega)
    · rw [List.getElem?_append_left (lt_of_get hv)]; exact hv
    · rw [List.getElem?_append_right (by omega), Nat.add_sub_cancel_left, List.getElem?_map, hk.pag]
      show some (some (⟨tp, 3, (dK 4 T.ps.length T.ps).map (mpS (fwd [] S.length))⟩ : Ob)) = _
      rw [dK_map]
    · rw [List.getElem?_append_right (by omega), show S.length + 4 + 2 * j + 1 - S.length = 4 + 2 * j + 1 by omega, List.getElem?_map, hk.kid j hj]
      show some ((obD ti 1 (dI (nth T.ps j).cs)).map _) = _
      rw [obD_mI]
end Go.V
namespace Go.V
theorem obZ_map {ty n : Nat} {m : D → D} : (some (⟨ty, 3, List.replicate n zG⟩ : Ob)).map (mpOb m) = some ⟨ty, 3, List.replicate n zG⟩ := by
  show some (⟨ty, 3, (List.replicate n zG).map (mpS m)⟩ : Ob) = _
  rw [List.map_replicate]; rfl
end Go.V

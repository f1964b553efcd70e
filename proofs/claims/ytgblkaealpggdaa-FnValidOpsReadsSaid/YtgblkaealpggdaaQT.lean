/- A part of the proofs about laws of the page tree (see the text that bears the law): a small language of steps, its rules, and what the functions of the program return. -/
import Derived.Test.YtgblkaealpggdaaQP
import Derived.Test.YtgblkaealpggdaaQK
set_option linter.all false
set_option linter.unusedVariables false
set_option linter.unusedSimpArgs false
/-! pages that are safe, operations, pages unpacked -/
namespace Go.V
def safeP (g : Pg) (top : Bool) (k : Int) : Bool := if k = 1 then decide ((g.ks.length : Int) < 4) else if k = 2 then (if top then decide ((g.cs.length : Int) = 0) || decide (1 < (g.ks.length : Int)) else decide (2 < (g.ks.length : Int))) else true
def safeB (t : Pt) (i k : Int) : Bool := (validT t && (decide (0 ≤ i) && decide (i < t.ps.length))) && ((decide (0 ≤ k) && decide (k ≤ 2)) && safeP (nth t.ps i.toNat) (decide (i = t.r)) k)
/-! operations -/
abbrev Op3 := Int × Int × Int
abbrev opP (x : Op3) : PV := .agg [i64 x.1, i64 x.2.1, i64 x.2.2]
abbrev ops (xs : List Op3) : PV := .sl (xs.map opP)
abbrev dO (xs : List Op3) : List D := xs.map fun x => D.pv (opP x)
theorem toPVs_dO (xs : List Op3) : toPVs (dO xs) = some (xs.map opP) := toPVs_m (f := opP) (fun _ => rfl) xs
theorem elems_O {S : Store} (xs : List Op3) : elemsOf S 3 (.pv (ops xs)) = some (dO xs) := elems_m (f := opP) (fun _ => rfl) xs
theorem cell_O (xs : List Op3) : (dO xs).all cellOK = true := by
  rw [List.all_eq_true]
  intro x hx
  obtain ⟨y, _, rfl⟩ := List.mem_map.1 hx
  rfl
theorem obD_mO {ty sz : Nat} {m : D → D} (xs : List Op3) : (obD ty sz (dO xs)).map (mpOb m) = obD ty sz (dO xs) := obD_m (f := opP) xs fun _ => rfl
def okO (x : Op3) : Bool := (decide (0 ≤ x.1) && decide (x.1 ≤ 1)) && (decide (0 ≤ x.2.1) && decide (x.2.1 ≤ 99)) && (decide (-1000 ≤ x.2.2) && decide (x.2.2 ≤ 1000)) && !(decide (x.1 = 0) && decide (x.2.2 ≠ 0))
theorem okO_iff {x : Op3} : okO x = true ↔ (0 ≤ x.1 ∧ x.1 ≤ 1) ∧ (0 ≤ x.2.1 ∧ x.2.1 ≤ 99) ∧ (-1000 ≤ x.2.2 ∧ x.2.2 ≤ 1000) ∧ ¬ (x.1 = 0 ∧ x.2.2 ≠ 0) := by
  simp only [okO, Bool.and_eq_true, Bool.not_eq_true', Bool.and_eq_false_iff, decide_eq_true_eq, decide_eq_false_iff_not]
  constructor
  · rintro ⟨⟨⟨h1, h2⟩, h3⟩, h4⟩; exact ⟨h1, h2, h3, by omega⟩
  · rintro ⟨h1, h2, h3, h4⟩; exact ⟨⟨⟨h1, h2⟩, h3⟩, by omega⟩
def okOps (xs : List Op3) : Bool := decide (xs.length ≤ 4) && xs.all okO
theorem ops_long {xs : List Op3} (h : 4 < xs.length) : okOps xs = false := by rw [okOps, decide_eq_false (by omega)]; rfl
theorem ops_no {xs : List Op3} {i : Nat} (hi : i < xs.length) (h : ¬ ((0 ≤ (nth xs i).1 ∧ (nth xs i).1 ≤ 1) ∧ (0 ≤ (nth xs i).2.1 ∧ (nth xs i).2.1 ≤ 99) ∧ (-1000 ≤ (nth xs i).2.2 ∧ (nth xs i).2.2 ≤ 1000) ∧ ¬ ((nth xs i).1 = 0 ∧ (nth xs i).2.2 ≠ 0))) : okOps xs = false := by
  refine Bool.eq_false_iff.2 fun e => h ?_
  rw [okOps, Bool.and_eq_true, List.all_eq_true] at e
  exact okO_iff.1 (e.2 _ (nth_mem hi))
theorem ops_all {xs : List Op3} (h : ∀ j, j < xs.length → okO (nth xs j) = true) : okOps xs = decide ((xs.length : Int) ≤ 4) := by
  have : xs.all okO = true := List.all_eq_true.2 fun x hx => by
    obtain ⟨j, hj, rfl⟩ := List.getElem_of_mem hx
    rw [← nth_eq hj]; exact h j hj
  rw [okOps, this, Bool.and_true]
  exact decide_eq_decide.2 (by omega)
theorem ops_len {xs : List Op3} (h : okOps xs = true) : xs.length ≤ 4 := by
  rw [okOps, Bool.and_eq_true] at h
  exact of_decide_eq_true h.1
theorem ops_cut {xs : List Op3} (h : okOps xs = true) {k : Nat} (hk : k < xs.length) : okOps (xs.take k ++ xs.drop (k + 1)) = true := by
  have h1 := ops_len h
  rw [okOps, Bool.and_eq_true, List.all_eq_true] at h ⊢
  refine ⟨decide_eq_true (by rw [List.length_append, List.length_take, List.length_drop]; omega), fun x hx => h.2 x ?_⟩
  rcases List.mem_append.1 hx with hx | hx
  · exact List.mem_of_mem_take hx
  · exact List.mem_of_mem_drop hx
def readO (x : Op3) : Op3 := (0, x.2.1, 0)
theorem ops_reads {xs : List Op3} (h : okOps xs = true) : okOps (xs.map readO) = true := by
  have h1 := ops_len h
  rw [okOps, Bool.and_eq_true, List.all_eq_true] at h ⊢
  refine ⟨decide_eq_true (by rw [List.length_map]; omega), fun x hx => ?_⟩
  obtain ⟨y, hy, rfl⟩ := List.mem_map.1 hx
  have := okO_iff.1 (h.2 y hy)
  exact okO_iff.2 ⟨by simp [readO], by simp only [readO]; omega, by simp [readO], by simp [readO]⟩
/-! unpacked pages -/
end Go.V
namespace Go.V
section q
variable {P : Program} {sf : SM} {r : RT} {L : List (Nat × D)} {S : Store} {K : Env → Store → Prop} {t : Nat}
abbrev opD (v : Op3) : D := .agg [.pv (i64 v.1), .pv (i64 v.2.1), .pv (i64 v.2.2)]
theorem q_store_op {ty : Nat} {x y : Opd} {o i : Nat} {xs : List Op3} {v : Op3} (hx : ev (env L) x = .ptr o i 0) {d : D} (hy : ev (env L) y = d) (hd : cellsD d = some [.pv (i64 v.1), .pv (i64 v.2.1), .pv (i64 v.2.2)]) (hS : S[o]? = some (obD ty 3 (dO xs))) (hi : i < xs.length) (hs : sOK sf (S.set o (some ⟨ty, 3, (dO xs).set i (opD v)⟩)))
    (h : RG P sf r (env L) (S.set o (some ⟨ty, 3, (dO xs).set i (opD v)⟩)) K) : RG P sf (.op ⟨none, none, .store 3 x y⟩ r) (env L) S K := by
  have hne : dO xs ≠ [] := ne_map (by omega)
  rw [obD_ne hne] at hS
  refine q_store (e := .pv (opP (nth xs i))) (cs := [.pv (i64 (nth xs i).1), .pv (i64 (nth xs i).2.1), .pv (i64 (nth xs i).2.2)]) (ds := [.pv (i64 v.1), .pv (i64 v.2.1), .pv (i64 v.2.2)]) hx hy hS ?_ rfl hd ⟨rfl, rfl, by simp, rfl, by simp [isOne]⟩ rfl hs h
  rw [nth_eq hi]
  simp [hi]
end q
theorem CallS.toP {P : Program} {f : FuncId} {ds : List D} {S : Store} {c c0 : D → Store → Prop} (h : CallS P f ds S c0) (hp : ∀ d S', c0 d S' → ∃ p, toPV d = some p ∧ c (.pv p) S') : CallS P f ds S c :=
  fun ρ I w vs hs hv => (h ρ I w vs hs hv).mono fun _ _ ⟨u, d, ρ', I', S', h1, h2, h3, h4, h5⟩ => by
    obtain ⟨p, k1, k2⟩ := hp d S' h2
    exact ⟨u, .pv p, ρ', I', S', h1, k2, h3, rd_pv_rho (toPV_sound k1 h4), h5⟩
theorem RdT.pure {P : Program} {f : FuncId} {ty pty : Nat} {bs : List Int} {p : Int} {args : List PV} {Q : Pt → Int → Prop} (h : RdT P f ty pty bs p args Q) (hn : ∀ T q, Q T q → T.ps ≠ []) : RdS P f ty bs p args (fun x q => ∃ T, x = ptP T ∧ Q T q) := by
  refine CallS.toP (c0 := fun d S => ∃ T q, Q T q ∧ d = .agg [.pv (i64 T.r), .pv (pgsP T.ps)] ∧ S = [some (rdr ty bs q)]) (CallS.bd h.trim ?_) ?_
  · rintro d S' ⟨T, q, hq, rfl, rfl⟩
    have hne := hn T q hq
    have hd : dG T.ps ≠ [] := fun e => hne (List.map_eq_nil_iff.1 e)
    refine Bd.then (Bd.freeze 1 (ob := ⟨pty, 3, dG T.ps⟩) (ps := T.ps.map pgP) (R := fun E S => E 0 = .agg [.pv (i64 T.r), .pv (pgsP T.ps)] ∧ S = [some (rdr ty bs q), none]) (congrArg some (obD_ne hd)) (toPVs_dG _) ⟨?_, ?_⟩) ?_
    · show mpD (frz 1 (T.ps.map pgP)) (treeD 1 T) = _
      have e : treeD 1 T = .agg [.pv (i64 T.r), .own 1 T.ps.length] := by
        show D.agg [.pv (i64 T.r), ownD 1 (dG T.ps)] = _
        rw [ownD_ne hd, List.length_map]
      rw [e]
      simp [mpD, mpS, mp1, mp0, frz, List.take_of_length_le]
    · show [(some (rdr ty bs q)).map (mpOb (frz 1 (T.ps.map pgP))), none] = _
      rw [Option.map_some, mpOb_rdr]
    · rintro E S ⟨h1, rfl⟩
      refine Bd.renL [0] (fun i hi => by have e : i = 0 := (by simp at hi; omega); subst e; rfl) (by simp) [(0, .agg [.pv (i64 T.r), .pv (pgsP T.ps)])] ⟨by show mpD (inv [0]) (E 0) = _; rw [h1]; rfl, trivial⟩ (S' := [some (rdr ty bs q)]) ?_ ?_
      · show [(some (rdr ty bs q)).map (mpOb (inv [0]))] = _
        rw [Option.map_some, mpOb_rdr]
      · exact ⟨T, q, hq, rfl, rfl⟩
  · rintro d S' ⟨T, q, hq, rfl, rfl⟩
    exact ⟨ptP T, rfl, ptP T, q, [], rfl, ⟨T, rfl, hq⟩, rfl⟩
end Go.V

namespace Go.V
theorem toR_O {n o ty sz : Nat} {S : Store} {xs : List Op3} (hS : S[o]? = some (obD ty sz (dO xs))) : toR (n + 2) S (ownD o (dO xs)) = some (ops xs) :=
  toR_own hS (toR_m (f := opP) (fun _ => rfl) xs)
theorem q_rem_to {P : Program} {sf : SM} {r : RT} {L : List (Nat × D)} {S : Store} {K : Env → Store → Prop} {t : Nat} {x y : Opd} {a b : Int} (c : Int) (hx : ev (env L) x = .pv (.int .i64 a)) (hy : ev (env L) y = .pv (.int .i64 b)) (hr : 0 ≤ a ∧ 0 < b) (e : a % b = c) (h : RG P sf r (env ((t, .pv (.int .i64 c)) :: L)) S K) :
    RG P sf (.op ⟨some t, none, .bin .rem x y⟩ r) (env L) S K := q_rem hx hy hr (e ▸ h)
end Go.V

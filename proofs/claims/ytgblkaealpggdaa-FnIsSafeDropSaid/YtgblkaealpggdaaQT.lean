/- A part of the proofs about laws of the page tree (see the text that bears the law): a small language of steps, its rules, and what the functions of the program return. -/
import Derived.Test.YtgblkaealpggdaaQP
import Derived.Test.YtgblkaealpggdaaQK
set_option linter.all false
set_option linter.unusedVariables false
set_option linter.unusedSimpArgs false
/-! pages that are safe, operations, pages unpacked -/
namespace Go.V
def safeP (g : Pg) (top : Bool) (k : Int) : Bool := if k = 1 then decide ((g.ks.length : Int) < 4) else if k = 2 then (if top then decide ((g.cs.length : Int) = 0) || decide (1 < (g.ks.length : Int)) else decide (2 < (g.ks.length : Int))) else true
def safeB (t : Pt) (i k : Int) : Bool := (validT t && (decide (0 ≤ i) && decide (i < t.ps.length))) && ((decide (0 ≤ k) && decide (k ≤ 2)) && safeP (nth t.ps i.toNat) (decide (i = t.r)) k)
theorem safe_bad {t : Pt} {i k : Int} (h : validT t = false ∨ ¬ (0 ≤ i ∧ i < t.ps.length)) : safeB t i k = false := by
  unfold safeB
  rcases h with h | h
  · rw [h]; rfl
  · have : (decide (0 ≤ i) && decide (i < t.ps.length)) = false := by simp only [Bool.and_eq_false_iff, decide_eq_false_iff_not]; omega
    rw [this]; simp
theorem safe_in {t : Pt} {i k : Int} (hv : validT t = true) (hr : 0 ≤ i ∧ i < t.ps.length) : safeB t i k = ((decide (0 ≤ k) && decide (k ≤ 2)) && safeP (nth t.ps i.toNat) (decide (i = t.r)) k) := by
  unfold safeB
  rw [hv, decide_eq_true hr.1, decide_eq_true hr.2]; rfl
theorem safe_get {t : Pt} {i : Int} (hv : validT t = true) (hr : 0 ≤ i ∧ i < t.ps.length) : safeB t i 0 = true := by rw [safe_in hv hr]; rfl
theorem safe_put {t : Pt} {i : Int} (hv : validT t = true) (hr : 0 ≤ i ∧ i < t.ps.length) : safeB t i 1 = decide (((nth t.ps i.toNat).ks.length : Int) < 4) := by rw [safe_in hv hr]; rfl
theorem safe_root {t : Pt} {i : Int} (hv : validT t = true) (hr : 0 ≤ i ∧ i < t.ps.length) (h : i = t.r) : safeB t i 2 = (decide (((nth t.ps i.toNat).cs.length : Int) = 0) || decide (1 < ((nth t.ps i.toNat).ks.length : Int))) := by rw [safe_in hv hr, decide_eq_true h]; rfl
theorem safe_drop {t : Pt} {i : Int} (hv : validT t = true) (hr : 0 ≤ i ∧ i < t.ps.length) (h : i ≠ t.r) : safeB t i 2 = decide (2 < ((nth t.ps i.toNat).ks.length : Int)) := by rw [safe_in hv hr, decide_eq_false h]; rfl
theorem safe_no {t : Pt} {i k : Int} (h : ¬ (0 ≤ k ∧ k ≤ 2)) : safeB t i k = false := by
  unfold safeB
  have : (decide (0 ≤ k) && decide (k ≤ 2)) = false := by simp only [Bool.and_eq_false_iff, decide_eq_false_iff_not]; omega
  rw [this]; simp
theorem root_in {t : Pt} (hv : validT t = true) : 0 ≤ t.r ∧ t.r < t.ps.length := inT_iff.1 (okT_top (valid_ok hv).2.2.1).2.1
theorem root_one {t : Pt} (hv : validT t = true) : (nth t.ps t.r.toNat).cs.length = 0 ↔ t.ps.length = 1 := by
  have h3 := (valid_ok hv).2.2.1
  rw [← hgt_one hv]
  constructor
  · exact fun h => okT_hone (t := t) (i := t.r) ⟨_, _, h3⟩ h
  · intro e
    rw [e] at h3
    exact (okT_leaf.1 h3).2
theorem safe_top {t : Pt} (hv : validT t = true) : safeB t t.r 2 = (decide ((t.ps.length : Int) = 1) || decide (1 < ((nth t.ps t.r.toNat).ks.length : Int))) := by
  have h := root_one hv
  rw [safe_root hv (root_in hv) rfl]
  congr 1
  exact decide_eq_decide.2 (by omega)
/-! operations -/
abbrev Op3 := Int × Int × Int
abbrev opP (x : Op3) : PV := .agg [i64 x.1, i64 x.2.1, i64 x.2.2]
abbrev ops (xs : List Op3) : PV := .sl (xs.map opP)
abbrev dO (xs : List Op3) : List D := xs.map fun x => D.pv (opP x)
def okO (x : Op3) : Bool := (decide (0 ≤ x.1) && decide (x.1 ≤ 1)) && (decide (0 ≤ x.2.1) && decide (x.2.1 ≤ 99)) && (decide (-1000 ≤ x.2.2) && decide (x.2.2 ≤ 1000)) && !(decide (x.1 = 0) && decide (x.2.2 ≠ 0))
def okOps (xs : List Op3) : Bool := decide (xs.length ≤ 4) && xs.all okO
def readO (x : Op3) : Op3 := (0, x.2.1, 0)
/-! unpacked pages -/
end Go.V
namespace Go.V
section q
variable {P : Program} {sf : SM} {r : RT} {L : List (Nat × D)} {S : Store} {K : Env → Store → Prop} {t : Nat}
abbrev opD (v : Op3) : D := .agg [.pv (i64 v.1), .pv (i64 v.2.1), .pv (i64 v.2.2)]
end q
theorem CallS.toP {P : Program} {f : FuncId} {ds : List D} {S : Store} {c c0 : D → Store → Prop} (h : CallS P f ds S c0) (hp : ∀ d S', c0 d S' → ∃ p, toPV d = some p ∧ c (.pv p) S') : CallS P f ds S c :=
  fun ρ I w vs hs hv => (h ρ I w vs hs hv).mono fun _ _ ⟨u, d, ρ', I', S', h1, h2, h3, h4, h5⟩ => by
    obtain ⟨p, k1, k2⟩ := hp d S' h2
    exact ⟨u, .pv p, ρ', I', S', h1, k2, h3, rd_pv_rho (toPV_sound k1 h4), h5⟩
theorem RdT.pure {P : Program} {f : FuncId} {ty pty : Nat} {bs : List Int} {p : Int} {args : List PV} {Q : Pt → Int → Prop} (h : RdT P f ty pty bs p args Q) (hn : ∀ T q, Q T q → T.ps ≠ []) : RdS P f ty bs p args (fun x q => ∃ T, x = ptP T ∧ Q T q) := by
  refine CallS.toP (c0 := fun d S => ∃ T q, Q T q ∧ d = .agg [.pv (i64 T.r), .pv (pgsP T.ps)] ∧ S = [some (rdr ty bs q)]) (CallS.bd h.trim ?_) ?_
  · rintro d S' ⟨T, q, hq, rfl, rfl⟩
    have hne := hn T q hq
    have hd : dG T.ps ≠ [] := fun e => hne (List.map_eq_nil_iff.1 e)
    refine Bd.then (Bd.freeze 1 (ob := ⟨pty, 3, dG T.ps⟩) (ps := T.ps.map pgP) (R := fun E S => E 0 = .agg [.pv (i64 T.r), .pv (pgsP T.ps)] ∧ S = [some (rdr ty bs q), none]) (congrArg some (obD_ne hd)) (toPVs_dG _) ⟨?_, ?_⟩) ?_
    · show mpD (frz 1 (T.ps.map pgP)) (treeD 1 T) = _
      have e : treeD 1 T = .agg [.pv (i64 T.r), .own 1 T.ps.length] := by
        show D.agg [.pv (i64 T.r), ownD 1 (dG T.ps)] = _
        rw [ownD_ne hd, List.length_map]
      rw [e]
      simp [mpD, mpS, mp1, mp0, frz, List.take_of_length_le]
    · show [(some (rdr ty bs q)).map (mpOb (frz 1 (T.ps.map pgP))), none] = _
      rw [Option.map_some, mpOb_rdr]
    · rintro E S ⟨h1, rfl⟩
      refine Bd.renL [0] (fun i hi => by have e : i = 0 := (by simp at hi; omega); subst e; rfl) (by simp) [(0, .agg [.pv (i64 T.r), .pv (pgsP T.ps)])] ⟨by show mpD (inv [0]) (E 0) = _; rw [h1]; rfl, trivial⟩ (S' := [some (rdr ty bs q)]) ?_ ?_
      · show [(some (rdr ty bs q)).map (mpOb (inv [0]))] = _
        rw [Option.map_some, mpOb_rdr]
      · exact ⟨T, q, hq, rfl, rfl⟩
  · rintro d S' ⟨T, q, hq, rfl, rfl⟩
    exact ⟨ptP T, rfl, ptP T, q, [], rfl, ⟨T, rfl, hq⟩, rfl⟩
end Go.V

namespace Go.V
end Go.V

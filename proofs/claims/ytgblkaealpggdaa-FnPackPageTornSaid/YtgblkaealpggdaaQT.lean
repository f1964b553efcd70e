/- A part of the proofs about laws of the page tree (see the text that bears the law): a small language of steps, its rules, and what the functions of the program return. -/
import Derived.Test.YtgblkaealpggdaaQP
import Derived.Test.YtgblkaealpggdaaQK
set_option linter.all false
set_option linter.unusedVariables false
set_option linter.unusedSimpArgs false
/-! pages that are safe, operations, pages unpacked -/
namespace Go.V
def safeP (g : Pg) (top : Bool) (k : Int) : Bool := if k = 1 then decide ((g.ks.length : Int) < 4) else if k = 2 then (if top then decide ((g.cs.length : Int) = 0) || decide (1 < (g.ks.length : Int)) else decide (2 < (g.ks.length : Int))) else true
def safeB (t : Pt) (i k : Int) : Bool := (validT t && (decide (0 ≤ i) && decide (i < t.ps.length))) && ((decide (0 ≤ k) && decide (k ≤ 2)) && safeP (nth t.ps i.toNat) (decide (i = t.r)) k)
/-! operations -/
abbrev Op3 := Int × Int × Int
abbrev opP (x : Op3) : PV := .agg [i64 x.1, i64 x.2.1, i64 x.2.2]
abbrev ops (xs : List Op3) : PV := .sl (xs.map opP)
abbrev dO (xs : List Op3) : List D := xs.map fun x => D.pv (opP x)
def okO (x : Op3) : Bool := (decide (0 ≤ x.1) && decide (x.1 ≤ 1)) && (decide (0 ≤ x.2.1) && decide (x.2.1 ≤ 99)) && (decide (-1000 ≤ x.2.2) && decide (x.2.2 ≤ 1000)) && !(decide (x.1 = 0) && decide (x.2.2 ≠ 0))
def okOps (xs : List Op3) : Bool := decide (xs.length ≤ 4) && xs.all okO
def readO (x : Op3) : Op3 := (0, x.2.1, 0)
/-! unpacked pages -/
theorem pk_changed {g q : Pg} {c : Int} (h : pkL q = pkM g ++ [c]) : c = ckL (pkM g) := by
  rw [pkL] at h
  have h2 := List.append_inj' h rfl
  rw [← h2.1]
  exact (List.singleton_inj.1 h2.2).symm
end Go.V
namespace Go.V
section q
variable {P : Program} {sf : SM} {r : RT} {L : List (Nat × D)} {S : Store} {K : Env → Store → Prop} {t : Nat}
abbrev opD (v : Op3) : D := .agg [.pv (i64 v.1), .pv (i64 v.2.1), .pv (i64 v.2.2)]
end q
theorem CallS.toP {P : Program} {f : FuncId} {ds : List D} {S : Store} {c c0 : D → Store → Prop} (h : CallS P f ds S c0) (hp : ∀ d S', c0 d S' → ∃ p, toPV d = some p ∧ c (.pv p) S') : CallS P f ds S c :=
  fun ρ I w vs hs hv => (h ρ I w vs hs hv).mono fun _ _ ⟨u, d, ρ', I', S', h1, h2, h3, h4, h5⟩ => by
    obtain ⟨p, k1, k2⟩ := hp d S' h2
    exact ⟨u, .pv p, ρ', I', S', h1, k2, h3, rd_pv_rho (toPV_sound k1 h4), h5⟩
theorem RdT.pure {P : Program} {f : FuncId} {ty pty : Nat} {bs : List Int} {p : Int} {args : List PV} {Q : Pt → Int → Prop} (h : RdT P f ty pty bs p args Q) (hn : ∀ T q, Q T q → T.ps ≠ []) : RdS P f ty bs p args (fun x q => ∃ T, x = ptP T ∧ Q T q) := by
  refine CallS.toP (c0 := fun d S => ∃ T q, Q T q ∧ d = .agg [.pv (i64 T.r), .pv (pgsP T.ps)] ∧ S = [some (rdr ty bs q)]) (CallS.bd h.trim ?_) ?_
  · rintro d S' ⟨T, q, hq, rfl, rfl⟩
    have hne := hn T q hq
    have hd : dG T.ps ≠ [] := fun e => hne (List.map_eq_nil_iff.1 e)
    refine Bd.then (Bd.freeze 1 (ob := ⟨pty, 3, dG T.ps⟩) (ps := T.ps.map pgP) (R := fun E S => E 0 = .agg [.pv (i64 T.r), .pv (pgsP T.ps)] ∧ S = [some (rdr ty bs q), none]) (congrArg some (obD_ne hd)) (toPVs_dG _) ⟨?_, ?_⟩) ?_
    · show mpD (frz 1 (T.ps.map pgP)) (treeD 1 T) = _
      have e : treeD 1 T = .agg [.pv (i64 T.r), .own 1 T.ps.length] := by
        show D.agg [.pv (i64 T.r), ownD 1 (dG T.ps)] = _
        rw [ownD_ne hd, List.length_map]
      rw [e]
      simp [mpD, mpS, mp1, mp0, frz, List.take_of_length_le]
    · show [(some (rdr ty bs q)).map (mpOb (frz 1 (T.ps.map pgP))), none] = _
      rw [Option.map_some, mpOb_rdr]
    · rintro E S ⟨h1, rfl⟩
      refine Bd.renL [0] (fun i hi => by have e : i = 0 := (by simp at hi; omega); subst e; rfl) (by simp) [(0, .agg [.pv (i64 T.r), .pv (pgsP T.ps)])] ⟨by show mpD (inv [0]) (E 0) = _; rw [h1]; rfl, trivial⟩ (S' := [some (rdr ty bs q)]) ?_ ?_
      · show [(some (rdr ty bs q)).map (mpOb (inv [0]))] = _
        rw [Option.map_some, mpOb_rdr]
      · exact ⟨T, q, hq, rfl, rfl⟩
  · rintro d S' ⟨T, q, hq, rfl, rfl⟩
    exact ⟨ptP T, rfl, ptP T, q, [], rfl, ⟨T, rfl, hq⟩, rfl⟩
end Go.V

namespace Go.V
theorem toR_O {n o ty sz : Nat} {S : Store} {xs : List Op3} (hS : S[o]? = some (obD ty sz (dO xs))) : toR (n + 2) S (ownD o (dO xs)) = some (ops xs) :=
  toR_own hS (toR_m (f := opP) (fun _ => rfl) xs)
theorem q_rem_to {P : Program} {sf : SM} {r : RT} {L : List (Nat × D)} {S : Store} {K : Env → Store → Prop} {t : Nat} {x y : Opd} {a b : Int} (c : Int) (hx : ev (env L) x = .pv (.int .i64 a)) (hy : ev (env L) y = .pv (.int .i64 b)) (hr : 0 ≤ a ∧ 0 < b) (e : a % b = c) (h : RG P sf r (env ((t, .pv (.int .i64 c)) :: L)) S K) :
    RG P sf (.op ⟨some t, none, .bin .rem x y⟩ r) (env L) S K := q_rem hx hy hr (e ▸ h)
end Go.V

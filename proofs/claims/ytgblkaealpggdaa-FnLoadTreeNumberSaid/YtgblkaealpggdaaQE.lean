/- A part of the proofs about laws of the page tree (see the text that bears the law): a small language of steps, its rules, and what the functions of the program return. -/
import Derived.Test.YtgblkaealpggdaaQD
set_option linter.all false
set_option linter.unusedVariables false
set_option linter.unusedSimpArgs false
namespace Go.V
/-! pages of which one has its keys own -/
abbrev pgK (o : Nat) (g : Pg) : D := .agg [ownD o (dI g.ks), .pv (ints g.cs), .pv (ints g.vs)]
abbrev pgQ (o : Nat) (g : Pg) : D := .agg [.pv (ints g.ks), ownD o (dI g.cs), .pv (ints g.vs)]
def NewX (P : Program) (f : FuncId) (ty : Nat) (args : List PV) (mk : Nat → D) (xs : List Int) : Prop :=
  CallS P f (args.map .pv) [] (fun d S => ∃ T, d = mk 0 ∧ S = obD ty 1 (dI xs) :: T)
theorem NewX.trim {P : Program} {f : FuncId} {ty : Nat} {args : List PV} {mk : Nat → D} {xs : List Int} (h : NewX P f ty args mk xs) (hm : mpD (inv [0]) (mk 0) = mk 0) : CallS P f (args.map .pv) [] (fun d S => d = mk 0 ∧ S = [obD ty 1 (dI xs)]) := by
  refine CallS.bd h ?_
  rintro d S' ⟨T, rfl, rfl⟩
  refine Bd.renL [0] (fun i hi => absurd hi (Nat.not_lt_zero i)) (by simp) [(0, mk 0)] ⟨hm, trivial⟩ (S' := [obD ty 1 (dI xs)]) ?_ ?_
  · show [(obD ty 1 (dI xs)).map (mpOb (inv [0]))] = _
    rw [obD_mI]
  · exact ⟨rfl, rfl⟩
theorem pgK_mp {os : List Nat} {o k : Nat} {g : Pg} (h : posOf os o = some k) : mpS (inv os) (pgK o g) = pgK k g := by
  show D.agg [mp1 (inv os) (ownD o (dI g.ks)), _, _] = _
  rw [mp1_own h]; rfl
section q
variable {P : Program} {sf : SM} {r : RT} {L : List (Nat × D)} {S : Store} {K : Env → Store → Prop} {t : Nat}
end q
abbrev dU (k : Nat) (ps : List Pg) (up : Nat) : List D := (dG ps).set up (pgK k (nth ps up))
theorem obD_mU {ty : Nat} {os : List Nat} {o k : Nat} {ps : List Pg} {up : Nat} (h : posOf os o = some k) : (obD ty 3 (dU o ps up)).map (mpOb (inv os)) = obD ty 3 (dU k ps up) := by
  have e : (dU o ps up).map (mpS (inv os)) = dU k ps up := by
    rw [dU, List.map_set, pgK_mp h]
    congr 1
    rw [List.map_map]
    exact List.map_congr_left fun x _ => rfl
  by_cases h0 : ps = []
  · subst h0; rfl
  · have h1 : dU o ps up ≠ [] := fun e => h0 (by have := congrArg List.length e; simpa using this)
    have h2 : dU k ps up ≠ [] := fun e => h0 (by have := congrArg List.length e; simpa using this)
    rw [obD_ne h1, obD_ne h2]
    show some (⟨ty, 3, (dU o ps up).map (mpS (inv os))⟩ : Ob) = _
    rw [e]
section q
variable {P : Program} {sf : SM} {r : RT} {L : List (Nat × D)} {S : Store} {K : Env → Store → Prop} {t : Nat}
end q
end Go.V
namespace Go.V
def NewU (P : Program) (f : FuncId) (pty ity : Nat) (args : List PV) (t : Pt) (up : Nat) : Prop :=
  CallS P f (args.map .pv) [] (fun d S => ∃ T, d = treeD 0 t ∧ S = obD pty 3 (dU 1 t.ps up) :: obD ity 1 (dI (nth t.ps up).ks) :: T)
theorem tree_own {o k : Nat} {m : D → D} {t : Pt} (h : mp1 m (ownD o (dG t.ps)) = ownD k (dG t.ps)) : mpD m (treeD o t) = treeD k t := by
  show D.agg [.pv (i64 t.r), mp1 m (ownD o (dG t.ps))] = _
  rw [h]
theorem NewU.trim {P : Program} {f : FuncId} {pty ity : Nat} {args : List PV} {t : Pt} {up : Nat} (h : NewU P f pty ity args t up) : CallS P f (args.map .pv) [] (fun d S => d = treeD 0 t ∧ S = [obD pty 3 (dU 1 t.ps up), obD ity 1 (dI (nth t.ps up).ks)]) := by
  refine CallS.bd h ?_
  rintro d S' ⟨T, rfl, rfl⟩
  refine Bd.renL [0, 1] (fun i hi => absurd hi (Nat.not_lt_zero i)) (by simp) [(0, treeD 0 t)] ⟨tree_own (mp1_own rfl), trivial⟩ (S' := [obD pty 3 (dU 1 t.ps up), obD ity 1 (dI (nth t.ps up).ks)]) ?_ ?_
  · show [(obD pty 3 (dU 1 t.ps up)).map (mpOb (inv [0, 1])), (obD ity 1 (dI (nth t.ps up).ks)).map (mpOb (inv [0, 1]))] = _
    rw [obD_mI, obD_mU rfl]
  · exact ⟨rfl, rfl⟩
section q
variable {P : Program} {sf : SM} {r : RT} {L : List (Nat × D)} {S : Store} {K : Env → Store → Prop} {t : Nat}
end q
end Go.V
namespace Go.V
section q
variable {P : Program} {sf : SM} {r : RT} {L : List (Nat × D)} {S : Store} {K : Env → Store → Prop} {t : Nat}
theorem q_build3 {z0 z1 z2 : D} {x y w : Opd} {dx dy dw : D} (hx : ev (env L) x = dx) (hy : ev (env L) y = dy) (hw : ev (env L) w = dw) (cx : cellsD dx = some [dx]) (cy : cellsD dy = some [dy]) (cw : cellsD dw = some [dw]) (h : RG P sf r (env ((t, .agg [dx, dy, dw]) :: L)) S K) :
    RG P sf (.op ⟨some t, none, .build [z0, z1, z2] [(0, (1, x)), (1, (1, y)), (2, (1, w))]⟩ r) (env L) S K := by
  refine q_build ?_ h
  subst hx hy hw
  simp only [fillD, cx, cy, cw]
  simp [setAt]
end q
end Go.V
namespace Go.V
end Go.V

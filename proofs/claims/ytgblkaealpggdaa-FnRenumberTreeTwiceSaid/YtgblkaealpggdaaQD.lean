/- A part of the proofs about laws of the page tree (see the text that bears the law): a small language of steps, its rules, and what the functions of the program return. -/
import Derived.Test.YtgblkaealpggdaaLH
set_option linter.all false
set_option linter.unusedVariables false
set_option linter.unusedSimpArgs false
namespace Go.V
/-! trees put and dropped: steps -/
section q
variable {P : Program} {sf : SM} {r : RT} {L : List (Nat × D)} {S : Store} {K : Env → Store → Prop} {t : Nat}
theorem q_newTs {f : FuncId} {pty : Nat} {args' : List Opd} {args : List PV} {T : Pt} (hm : cOK sf = true) (hc : NewT P f pty args T) (ha : sameA (args'.map (ev (env L))) (args.map .pv)) (hs : sOK sf (S ++ [obD pty 3 (dG T.ps)]))
    (h : RG P sf r (env ((t, treeD S.length T) :: L)) (S ++ [obD pty 3 (dG T.ps)]) K) : RG P sf (.op ⟨some t, none, .call f args'⟩ r) (env L) S K := by
  refine q_call hm (CallS.same ha ?_)
  refine CallS.frame (c1 := fun d S => d = treeD 0 T ∧ S = [obD pty 3 (dG T.ps)]) [] (by simp) (by simp) ?_ ?_
  · rw [map_pv_inv]; exact hc.trim
  · rintro d S1 ⟨rfl, rfl⟩
    rw [mergeS_nil]
    have e1 : mpD (fwd [] S.length) (treeD 0 T) = treeD S.length T := by
      show D.agg [.pv (i64 T.r), mp1 (fwd [] S.length) (ownD 0 (dG T.ps))] = _
      rw [fwd_own' (k := 0), Nat.add_zero]
    rw [e1]
    simp only [List.map_cons, List.map_nil, obD_mG]
    exact ⟨hs, h⟩
end q
end Go.V
namespace Go.V
theorem GP.leaf {g : Pg} (h : GP g) (hc : g.cs.length = 0) : goodR (rowG g) = true ∧ g.vs.length = g.ks.length ∧ g.ks.length ≤ 5 := by
  rcases h.2 with h2 | h2
  · exact ⟨h2.2.1, h2.2.2, h.1⟩
  · omega
theorem GP.inner {g : Pg} (h : GP g) (hc : g.cs.length ≠ 0) : g.cs.length = g.ks.length + 1 ∧ 1 ≤ g.ks.length ∧ g.ks.length ≤ 5 := by
  rcases h.2 with h2 | h2
  · omega
  · exact ⟨h2.1, h2.2, h.1⟩
theorem spl_lens {xs : List (Int × Int)} (h : goodR xs = true) : (splA xs).length = halfR xs ∧ (splB xs).length = xs.length - halfR xs := by
  have h1 := spl_t h
  rw [h1.1, h1.2, List.length_take, List.length_drop]
  refine ⟨Nat.min_eq_left ?_, rfl⟩
  show (xs.length + 1) / 2 ≤ xs.length
  by_cases h0 : xs.length = 0
  · rw [h0]; omega
  · omega
theorem splP_leaf {g : Pg} (h : g.cs.length = 0) : (splP g).1 = leafG (splA (rowG g)) ∧ (splP g).2.1 = (nth (splB (rowG g)) 0).1 ∧ (splP g).2.2 = leafG (splB (rowG g)) := by
  rw [splP, if_pos h]; exact ⟨rfl, rfl, rfl⟩
theorem splP_inner {g : Pg} (h : g.cs.length ≠ 0) : (splP g).1 = ⟨g.ks.take (halfI g.ks), g.cs.take (halfI g.ks + 1), []⟩ ∧ (splP g).2.1 = nth g.ks (halfI g.ks) ∧ (splP g).2.2 = ⟨g.ks.drop (halfI g.ks + 1), g.cs.drop (halfI g.ks + 1), []⟩ := by
  rw [splP, if_neg h]; exact ⟨rfl, rfl, rfl⟩
end Go.V
namespace Go.V
theorem plc_lt {xs : List Int} {k : Int} (h : k ∈ xs) : plc xs k < xs.length := List.findIdx_lt_length_of_exists ⟨k, h, by simp⟩
abbrev putI (pt : List Int) (n : Nat) : Nat := (nth pt (n - 1)).toNat
abbrev putU (pt : List Int) (n : Nat) (qs : List Pg) : Pg := nth (put1 qs (putI pt n)) (putI pt (n - 1))
abbrev putN (pt : List Int) (n : Nat) (qs : List Pg) : List Pg := (put1 qs (putI pt n)).set (putI pt (n - 1)) (addG (putU pt n qs) (plc (putU pt n qs).cs (nth pt (n - 1))) (splP (nth qs (putI pt n))).2.1 ((qs.length : Nat) : Int))
theorem put_stop {pt : List Int} {r : Int} {n : Nat} {qs : List Pg} (h : n = 0 ∨ (nth qs (putI pt n)).ks.length ≤ 4) : putL pt r n qs = ⟨r, qs⟩ := by
  cases n with
  | zero => rfl
  | succ n => rw [putL, if_pos (by rcases h with h | h; · omega
                                   · exact h)]
theorem put_root {pt : List Int} {r : Int} {n : Nat} {qs : List Pg} (h1 : n = 1) (h : 4 < (nth qs (putI pt n)).ks.length) : putL pt r n qs = ⟨((qs.length + 1 : Nat) : Int), put1 qs (putI pt n) ++ [⟨[(splP (nth qs (putI pt n))).2.1], [nth pt 0, ((qs.length : Nat) : Int)], []⟩]⟩ := by
  subst h1
  rw [putL, if_neg (by simp at h ⊢; exact h), if_pos rfl]
theorem put_next {pt : List Int} {r : Int} {n : Nat} {qs : List Pg} (h : PutInv pt n qs) (h1 : 1 < n) (h4 : 4 < (nth qs (putI pt n)).ks.length) : PutInv pt (n - 1) (putN pt n qs) ∧ putL pt r n qs = putL pt r (n - 1) (putN pt n qs) := by
  obtain ⟨m, rfl⟩ : ∃ m, n = m + 1 := ⟨n - 1, by omega⟩
  refine ⟨put_step h (by omega) _, ?_⟩
  rw [putL, if_neg (by simp at h4 ⊢; exact h4), if_neg (by omega)]
  rfl
theorem put_up {pt : List Int} {n : Nat} {qs : List Pg} (h : PutInv pt n qs) (h1 : 1 < n) : (0 ≤ nth pt (n - 1 - 1) ∧ nth pt (n - 1 - 1) < qs.length) ∧ (putU pt n qs).cs.length = (putU pt n qs).ks.length + 1 ∧ (putU pt n qs).ks.length ≤ 4 ∧ (putU pt n qs).cs.contains (nth pt (n - 1)) = true ∧ plc (putU pt n qs).cs (nth pt (n - 1)) ≤ (putU pt n qs).ks.length := by
  obtain ⟨m, rfl⟩ : ∃ m, n = m + 2 := ⟨n - 2, by omega⟩
  have l := h.len
  have r1 := h.rng m (by omega)
  have d := h.dif (m + 1) m (by omega) (by omega) (by omega)
  have e := h.rest m (by omega)
  have hu : putU pt (m + 2) qs = nth qs (nth pt m).toNat := by
    show nth (put1 qs (nth pt (m + 1)).toNat) (nth pt m).toNat = _
    rw [put1_at (by omega), if_neg d]
  rw [hu]
  have hp := plc_lt e.2
  refine ⟨r1, e.1.1, e.1.2.2, List.contains_iff_mem.2 e.2, ?_⟩
  show plc (nth qs (nth pt m).toNat).cs (nth pt (m + 1)) ≤ _
  omega
end Go.V
namespace Go.V
theorem putM_small {t : Pt} {x : Int × Int} (hv : validT t = true) (hx : goodX x = true) : smallT (putM t x) ∧ (1 ≤ (putM t x).ps.length ∧ (putM t x).ps.length ≤ 21) := by
  have h := putL_small (r := t.r) (put_init hv hx)
  refine ⟨⟨?_, fun i h0 h2 => ?_⟩, h.1⟩
  · show (putL _ _ _ _).ps.length ≤ _
    omega
  · have := h.2 i.toNat (by show i.toNat < (putM t x).ps.length; omega)
    have e : pg (putM t x) i = nth (putL (pthT t x.1) t.r (pthT t x.1).length (putQ t x)).ps i.toNat := rfl
    rw [e]; omega
def okPutT (t : Pt) (x : Int × Int) : Bool := validT t && goodX x && validT (putM t x)
theorem okPutT_iff {t : Pt} {x : Int × Int} : okPutT t x = true ↔ validT t = true ∧ goodX x = true ∧ validT (putM t x) = true := by simp [okPutT, and_assoc]
end Go.V
namespace Go.V
theorem toR_G {n o ty sz : Nat} {S : Store} {ps : List Pg} (hS : S[o]? = some (obD ty sz (dG ps))) : toR (n + 2) S (ownD o (dG ps)) = some (pgsP ps) :=
  toR_own (n := n + 1) hS (toR_m (f := pgP) (fun _ => rfl) ps)
end Go.V

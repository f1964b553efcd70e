/- A part of the proofs about laws of the page tree (see the text that bears the law): a small language of steps, its rules, and what the functions of the program return. -/
import Derived.Test.YtgblkaealpggdaaQI
set_option linter.all false
set_option linter.unusedVariables false
set_option linter.unusedSimpArgs false
namespace Go.V
/-! steps of a drop -/
def NewTp (P : Program) (f : FuncId) (pty : Nat) (args : List PV) (t : Pt) (x : Int) : Prop :=
  CallS P f (args.map .pv) [] (fun d S => ∃ T, d = .tup [treeD 0 t, .pv (i64 x)] ∧ S = obD pty 3 (dG t.ps) :: T)
theorem tup_own {o k : Nat} {m : D → D} {t : Pt} {p : PV} (hp : mpS m (.pv p) = .pv p) (h : mp1 m (ownD o (dG t.ps)) = ownD k (dG t.ps)) : mpD m (.tup [treeD o t, .pv p]) = .tup [treeD k t, .pv p] := by
  show D.tup [D.agg [.pv (i64 t.r), mp1 m (ownD o (dG t.ps))], mpS m (.pv p)] = _
  rw [h, hp]
section q
variable {P : Program} {sf : SM} {r : RT} {L : List (Nat × D)} {S : Store} {K : Env → Store → Prop} {t : Nat}
theorem q_newTp {f : FuncId} {pty : Nat} {args' : List Opd} {args : List PV} {T : Pt} {x : Int} (hm : cOK sf = true) (hc : NewTp P f pty args T x) (ha : sameA (args'.map (ev (env L))) (args.map .pv)) (hs : sOK sf (S ++ [obD pty 3 (dG T.ps)]))
    (h : RG P sf r (env ((t, .tup [treeD S.length T, .pv (i64 x)]) :: L)) (S ++ [obD pty 3 (dG T.ps)]) K) : RG P sf (.op ⟨some t, none, .call f args'⟩ r) (env L) S K := by
  refine q_call hm (CallS.same ha ?_)
  refine CallS.frame (c1 := fun d S => d = .tup [treeD 0 T, .pv (i64 x)] ∧ S = [obD pty 3 (dG T.ps)]) [] (by simp) (by simp) ?_ ?_
  · rw [map_pv_inv]
    refine CallS.bd hc ?_
    rintro d S' ⟨R, rfl, rfl⟩
    refine Bd.renL [0] (fun i hi => absurd hi (Nat.not_lt_zero i)) (by simp) [(0, .tup [treeD 0 T, .pv (i64 x)])] ⟨tup_own rfl (mp1_own rfl), trivial⟩ (S' := [obD pty 3 (dG T.ps)]) ?_ ?_
    · show [(obD pty 3 (dG T.ps)).map (mpOb (inv [0]))] = _
      rw [obD_mG]
    · exact ⟨rfl, rfl⟩
  · rintro d S1 ⟨rfl, rfl⟩
    rw [mergeS_nil, tup_own (k := S.length) rfl (by rw [fwd_own' (k := 0), Nat.add_zero])]
    simp only [List.map_cons, List.map_nil, obD_mG]
    exact ⟨hs, h⟩
end q
theorem Alv.glen {T : Pt} {G : List Int} {ht : Nat → Nat} {b : Int} (h : Alv T G ht b) : G.length ≤ 16 := by
  have := List.Nodup.length_le_of_subset (l₁ := G) (l₂ := (List.range T.ps.length).map fun q : Nat => (q : Int)) h.gn fun x hx => by
    have := h.gr x hx
    exact List.mem_map.2 ⟨x.toNat, List.mem_range.2 (by omega), by omega⟩
  have hm := h.many
  simp at this
  omega
theorem Alv.cutOK {T : Pt} {G : List Int} {ht : Nat → Nat} {b : Int} (h : Alv T G ht b) (hb : b ≤ 100) : CutOK T := by
  have hr := h.root
  have hm := h.many
  exact ⟨by omega, by have := hr.2.1; omega, fun i hi => by have := (h.bd i hi).ln; omega, fun i hi c hc => by have := (h.bd i hi).cs c hc; omega⟩
theorem drop_cons {W : List Int} {i : Nat} (h : i < W.length) : W.drop i = nth W i :: W.drop (i + 1) := by
  rw [nth_eq h]; exact List.drop_eq_getElem_cons h
theorem cut_rest {W V : List Int} {i : Nat} {g : Int} (hl : V.length = W.length) (hv : ∀ q, q < W.length → nth V q = if i < q ∧ q < W.length then cutC g (nth W q) else nth W q) : V.drop (i + 1) = (W.drop (i + 1)).map (cutC g) := by
  refine list_ext_nth (by simp [hl]) fun j hj => ?_
  rw [List.length_drop] at hj
  rw [nth_eq (by simpa using hj), nth_eq (by simp; omega)]
  simp only [List.getElem_drop, List.getElem_map]
  have := hv (i + 1 + j) (by omega)
  rw [if_pos (by omega), nth_eq (by omega), nth_eq (by omega)] at this
  exact this
theorem dropX_sub {xs : List (Int × Int)} {k : Int} : (if okDrop xs k then dropR xs k else []).Sublist xs := by
  split
  · exact dropR_sub
  · exact List.nil_sublist _
theorem one_kid {p : Pg} (h : p.cs.length = 1) : p.cs = [nth p.cs 0] := by
  cases hc : p.cs with
  | nil => rw [hc] at h; cases h
  | cons a l =>
    rw [hc] at h
    have : l = [] := List.length_eq_zero_iff.1 (by simpa using h)
    subst this; rfl
theorem mend_join {T : Pt} {G : List Int} {ht : Nat → Nat} {u f : Nat} (d : DropF T G ht u f) : (mJoin T u f = true ↔ 0 ≤ mendG T u f) ∧ (mJoin T u f = true → mendG T u f = mB T u f) ∧ -1 ≤ mendG T u f := by
  rw [mendG]
  have := d.lb.1
  split
  · rename_i h; exact ⟨⟨fun _ => this, fun _ => h⟩, fun _ => rfl, by omega⟩
  · rename_i h; exact ⟨⟨fun k => absurd k h, fun k => absurd k (by omega)⟩, fun k => absurd k h, by omega⟩
end Go.V
namespace Go.V
theorem VS_en {P : Program} {N k0 : Nat} {c : SCode} {K : Exit → Env → Store → Prop} {S : Store} {L : List (Nat × D)} (L' : List (Nat × D)) (h : L = L') (k : VS P N k0 c K (env L') S) : VS P N k0 c K (env L) S := h ▸ k
end Go.V

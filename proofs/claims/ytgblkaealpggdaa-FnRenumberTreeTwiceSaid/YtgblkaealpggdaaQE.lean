/- A part of the proofs about laws of the page tree (see the text that bears the law): a small language of steps, its rules, and what the functions of the program return. -/
import Derived.Test.YtgblkaealpggdaaQD
set_option linter.all false
set_option linter.unusedVariables false
set_option linter.unusedSimpArgs false
namespace Go.V
/-! pages of which one has its keys own -/
abbrev pgK (o : Nat) (g : Pg) : D := .agg [ownD o (dI g.ks), .pv (ints g.cs), .pv (ints g.vs)]
abbrev pgQ (o : Nat) (g : Pg) : D := .agg [.pv (ints g.ks), ownD o (dI g.cs), .pv (ints g.vs)]
def NewX (P : Program) (f : FuncId) (ty : Nat) (args : List PV) (mk : Nat → D) (xs : List Int) : Prop :=
  CallS P f (args.map .pv) [] (fun d S => ∃ T, d = mk 0 ∧ S = obD ty 1 (dI xs) :: T)
theorem NewX.trim {P : Program} {f : FuncId} {ty : Nat} {args : List PV} {mk : Nat → D} {xs : List Int} (h : NewX P f ty args mk xs) (hm : mpD (inv [0]) (mk 0) = mk 0) : CallS P f (args.map .pv) [] (fun d S => d = mk 0 ∧ S = [obD ty 1 (dI xs)]) := by
  refine CallS.bd h ?_
  rintro d S' ⟨T, rfl, rfl⟩
  refine Bd.renL [0] (fun i hi => absurd hi (Nat.not_lt_zero i)) (by simp) [(0, mk 0)] ⟨hm, trivial⟩ (S' := [obD ty 1 (dI xs)]) ?_ ?_
  · show [(obD ty 1 (dI xs)).map (mpOb (inv [0]))] = _
    rw [obD_mI]
  · exact ⟨rfl, rfl⟩
theorem pgK_mp {os : List Nat} {o k : Nat} {g : Pg} (h : posOf os o = some k) : mpS (inv os) (pgK o g) = pgK k g := by
  show D.agg [mp1 (inv os) (ownD o (dI g.ks)), _, _] = _
  rw [mp1_own h]; rfl
theorem pgQ_mp {os : List Nat} {o k : Nat} {g : Pg} (h : posOf os o = some k) : mpS (inv os) (pgQ o g) = pgQ k g := by
  show D.agg [_, mp1 (inv os) (ownD o (dI g.cs)), _] = _
  rw [mp1_own h]; rfl
theorem pgK_fw {m : Nat} {g : Pg} : mpD (fwd [] m) (pgK 0 g) = pgK m g := by
  show D.agg [mp1 (fwd [] m) (ownD 0 (dI g.ks)), _, _] = _
  rw [fwd_own' (k := 0), Nat.add_zero]; rfl
theorem pgQ_fw {m : Nat} {g : Pg} : mpD (fwd [] m) (pgQ 0 g) = pgQ m g := by
  show D.agg [_, mp1 (fwd [] m) (ownD 0 (dI g.cs)), _] = _
  rw [fwd_own' (k := 0), Nat.add_zero]; rfl
section q
variable {P : Program} {sf : SM} {r : RT} {L : List (Nat × D)} {S : Store} {K : Env → Store → Prop} {t : Nat}
theorem q_newX {f : FuncId} {ty : Nat} {args' : List Opd} {args : List PV} {mk : Nat → D} {xs : List Int} (hm : cOK sf = true) (hc : NewX P f ty args mk xs) (h1 : mpD (inv [0]) (mk 0) = mk 0) (h2 : mpD (fwd [] S.length) (mk 0) = mk S.length) (ha : sameA (args'.map (ev (env L))) (args.map .pv)) (hs : sOK sf (S ++ [obD ty 1 (dI xs)]))
    (h : RG P sf r (env ((t, mk S.length) :: L)) (S ++ [obD ty 1 (dI xs)]) K) : RG P sf (.op ⟨some t, none, .call f args'⟩ r) (env L) S K := by
  refine q_call hm (CallS.same ha ?_)
  refine CallS.frame (c1 := fun d S => d = mk 0 ∧ S = [obD ty 1 (dI xs)]) [] (by simp) (by simp) ?_ ?_
  · rw [map_pv_inv]; exact hc.trim h1
  · rintro d S1 ⟨rfl, rfl⟩
    rw [mergeS_nil, h2]
    simp only [List.map_cons, List.map_nil, obD_mI]
    exact ⟨hs, h⟩
end q
abbrev dU (k : Nat) (ps : List Pg) (up : Nat) : List D := (dG ps).set up (pgK k (nth ps up))
theorem dU_no {k : Nat} {ps : List Pg} {up : Nat} (h : ps.length ≤ up) : dU k ps up = dG ps := List.set_eq_of_length_le (by simpa using h)
theorem dU_ne {k : Nat} {ps : List Pg} {up : Nat} {g : Pg} (h : ps.length ≠ up) : dU k (ps ++ [g]) up = dU k ps up ++ dG [g] := by
  by_cases hl : ps.length ≤ up
  · rw [dU_no hl, dU_no (by simp; omega)]; simp
  · have e : nth (ps ++ [g]) up = nth ps up := nth_pre (by omega)
    show (dG (ps ++ [g])).set up (pgK k (nth (ps ++ [g]) up)) = _
    rw [e, dG, List.map_append, List.set_append_left _ _ (by simp; omega)]
theorem dU_eq {k k0 : Nat} {ps : List Pg} {up : Nat} {g : Pg} (h : ps.length = up) : dU k (ps ++ [g]) up = dU k0 ps up ++ [pgK k g] := by
  rw [dU_no (k := k0) (by omega)]
  have e : nth (ps ++ [g]) up = g := by
    have := nth_mid (a := ps) (b := []) (x := g) (n := up) h.symm
    rwa [List.append_nil] at this
  show (dG (ps ++ [g])).set up (pgK k (nth (ps ++ [g]) up)) = _
  rw [e, dG, List.map_append, List.set_append_right _ _ (by simp; omega)]
  simp [h]
theorem obD_mU {ty : Nat} {os : List Nat} {o k : Nat} {ps : List Pg} {up : Nat} (h : posOf os o = some k) : (obD ty 3 (dU o ps up)).map (mpOb (inv os)) = obD ty 3 (dU k ps up) := by
  have e : (dU o ps up).map (mpS (inv os)) = dU k ps up := by
    rw [dU, List.map_set, pgK_mp h]
    congr 1
    rw [List.map_map]
    exact List.map_congr_left fun x _ => rfl
  by_cases h0 : ps = []
  · subst h0; rfl
  · have h1 : dU o ps up ≠ [] := fun e => h0 (by have := congrArg List.length e; simpa using this)
    have h2 : dU k ps up ≠ [] := fun e => h0 (by have := congrArg List.length e; simpa using this)
    rw [obD_ne h1, obD_ne h2]
    show some (⟨ty, 3, (dU o ps up).map (mpS (inv os))⟩ : Ob) = _
    rw [e]
theorem cell_U {k : Nat} {g : Pg} : [pgK k g].all cellOK = true := by
  simp [cellOK, cellsD, isCell_own, isCell_sl]
section q
variable {P : Program} {sf : SM} {r : RT} {L : List (Nat × D)} {S : Store} {K : Env → Store → Prop} {t : Nat}
theorem q_app_U1 {ty bytes : Nat} {x y : Opd} {k o up : Nat} {ps : List Pg} {g : Pg} (hx : ev (env L) x = ownD o (dU k ps up)) (hy : elemsOf S 3 (ev (env L) y) = some (dG [g])) (hS : S[o]? = some (obD ty 3 (dU k ps up))) (hne : ps.length ≠ up) (hb : (ps.length + 1) * bytes ≤ 140737488355328 ∧ ps.length + 1 ≤ maxLen)
    (hs : sOK sf (S.set o none ++ [obD ty 3 (dU k (ps ++ [g]) up)])) (h : RG P sf r (env ((t, ownD S.length (dU k (ps ++ [g]) up)) :: L)) (S.set o none ++ [obD ty 3 (dU k (ps ++ [g]) up)]) K) : RG P sf (.op ⟨some t, none, .app ty 3 bytes x y⟩ r) (env L) S K := by
  rw [dU_ne hne] at hs h
  exact q_app_d hx hy rfl hS (by simpa using hb) ⟨hs, h⟩
theorem q_app_U2 {ty bytes : Nat} {x y : Opd} {k k0 o up : Nat} {ps : List Pg} {g : Pg} (hx : ev (env L) x = ownD o (dU k0 ps up)) (hy : elemsOf S 3 (ev (env L) y) = some [pgK k g]) (hS : S[o]? = some (obD ty 3 (dU k0 ps up))) (he : ps.length = up) (hb : (ps.length + 1) * bytes ≤ 140737488355328 ∧ ps.length + 1 ≤ maxLen)
    (hs : sOK sf (S.set o none ++ [obD ty 3 (dU k (ps ++ [g]) up)])) (h : RG P sf r (env ((t, ownD S.length (dU k (ps ++ [g]) up)) :: L)) (S.set o none ++ [obD ty 3 (dU k (ps ++ [g]) up)]) K) : RG P sf (.op ⟨some t, none, .app ty 3 bytes x y⟩ r) (env L) S K := by
  rw [dU_eq (k0 := k0) he] at hs h
  exact q_app_d hx hy cell_U hS (by simpa using hb) ⟨hs, h⟩
theorem get_dU {k : Nat} {ps : List Pg} {up i : Nat} (hi : i < ps.length) (hne : i ≠ up) : (dU k ps up)[i]? = some (.pv (pgP (nth ps i))) := by
  rw [dU, List.getElem?_set_ne (Ne.symm hne)]; exact get_dG hi
theorem q_store_U {ty : Nat} {x y : Opd} {o i k up : Nat} {qs : List Pg} {d : D} {g : Pg} (hx : ev (env L) x = .ptr o i 0) (hy : ev (env L) y = d) (hd : cellsD d = some (pgC g)) (hS : S[o]? = some (obD ty 3 (dU k qs up))) (hi : i < qs.length) (hne : i ≠ up)
    (hs : sOK sf (S.set o (some ⟨ty, 3, (dU k qs up).set i (.agg (pgC g))⟩))) (h : RG P sf r (env L) (S.set o (some ⟨ty, 3, (dU k qs up).set i (.agg (pgC g))⟩)) K) : RG P sf (.op ⟨none, none, .store 3 x y⟩ r) (env L) S K := by
  have h0 : dU k qs up ≠ [] := fun e => by have := congrArg List.length e; simp at this; subst this; simp at hi
  rw [obD_ne h0] at hS
  exact q_store (e := .pv (pgP (nth qs i))) (cs := pgC (nth qs i)) (ds := pgC g) hx hy hS (get_dU hi hne) rfl hd ⟨rfl, rfl, by simp, rfl, by simp [isOne]⟩ rfl hs h
theorem q_idx_U {ty : Nat} {x i : Opd} {o k up : Nat} {ps : List Pg} {kd : IntKind} {n : Int} (hx : ev (env L) x = ownD o (dG ps)) (hi : ev (env L) i = .pv (.int kd n)) (h0 : 0 ≤ n) (h1 : n < ps.length) (hS : (fs sf S)[o]? = some (obD ty 3 (dU k ps up)))
    (h : RG P sf r (env ((t, .ptr o n.toNat 0) :: L)) S K) : RG P sf (.op ⟨some t, none, .idx 3 x i⟩ r) (env L) S K :=
  q_idx_d (xs := dU k ps up) (hx.trans (ownD_len (by simp))) hi h0 (by simpa using h1) hS h
theorem q_load_U {ty : Nat} {x : Opd} {o k up : Nat} {qs : List Pg} (hx : ev (env L) x = .ptr o up 0) (hS : (fs sf S)[o]? = some (obD ty 3 (dU k qs up))) (hi : up < qs.length)
    (h : RG P sf r (env ((t, ownD k (dI (nth qs up).ks)) :: L)) S K) : RG P sf (.op ⟨some t, none, .load 1 false x⟩ r) (env L) S K := by
  have h0 : dU k qs up ≠ [] := fun e => by have := congrArg List.length e; simp at this; subst this; simp at hi
  rw [obD_ne h0] at hS
  exact q_load_r hx hS (by show (dU k qs up)[up]? = _; rw [dU, List.getElem?_set_self (by simpa using hi)]) rfl rfl rfl isOne_own h
end q
theorem Bd.packU {k0 : Nat} {E : Env} {S : Store} {R : Env → Store → Prop} (o i : Nat) {ty k up : Nat} {qs : List Pg} {g : Pg} (hi : i < qs.length) (hne : i ≠ up) (hS : S[o]? = some (some ⟨ty, 3, (dU k qs up).set i (.agg (pgC g))⟩))
    (h : Bd k0 E (S.set o (obD ty 3 (dU k (qs.set i g) up))) R) : Bd k0 E S R := by
  refine Bd.aggP o i [ints g.ks, ints g.cs, ints g.vs] hS ?_ ?_
  · simp [hi]
  · have e1 : nth (qs.set i g) up = nth qs up := by
      by_cases hu : up < qs.length
      · rw [nth_set hu, if_neg hne]
      · simp [nth, List.getElem?_eq_none (show qs.length ≤ up by omega), List.getElem?_eq_none (show (qs.set i g).length ≤ up by simp; omega)]
    have e : ((dU k qs up).set i (D.agg (pgC g))).set i (.pv (.agg [ints g.ks, ints g.cs, ints g.vs])) = dU k (qs.set i g) up := by
      rw [List.set_set, dU, dU, e1, List.set_comm _ _ (Ne.symm hne)]
      congr 1
      rw [dG, dG, List.map_set]
    have h0 : dU k (qs.set i g) up ≠ [] := fun e => by have := congrArg List.length e; simp at this; subst this; simp at hi
    rw [obD_ne h0] at h
    simp only [e]
    exact h
theorem Bd.frzU {k0 : Nat} {E : Env} {S : Store} {R : Env → Store → Prop} (o k : Nat) {ty ti up : Nat} {qs : List Pg} {ks : List Int} (hok : k ≠ o) (hu : up < qs.length) (hl : ks.length = (nth qs up).ks.length) (hO : S[o]? = some (obD ty 3 (dU k qs up))) (hK : S[k]? = some (obD ti 1 (dI ks)))
    (h : Bd k0 E ((S.set k none).set o (obD ty 3 (dG (qs.set up ⟨ks, (nth qs up).cs, (nth qs up).vs⟩)))) R) : Bd k0 E S R := by
  have h0 : dU k qs up ≠ [] := fun e => by have := congrArg List.length e; simp at this; subst this; simp at hu
  have ho : o < S.length := (List.getElem?_eq_some_iff.1 hO).1
  rw [obD_ne h0] at hO
  refine Bd.frzFB k o up 0 ti 1 (xs := dI ks) hok hK (toPVs_dI _) hO (cs := [ownD k (dI (nth qs up).ks), .pv (ints (nth qs up).cs), .pv (ints (nth qs up).vs)]) ?_ ?_ ?_
  · show (dU k qs up)[up]? = _
    rw [dU, List.getElem?_set_self (by simpa using hu)]
  · show some (ownD k (dI (nth qs up).ks)) = some (ownD k (dI ks))
    rw [ownD_len (xs := dI ks) (ys := dI (nth qs up).ks) (by simpa using hl)]
  · refine Bd.packG o up (qs := qs) (g := ⟨ks, (nth qs up).cs, (nth qs up).vs⟩) hu (ty := ty) ?_ ?_
    · rw [List.getElem?_set_self (by simpa using ho)]
      show some (some (⟨ty, 3, (dU k qs up).set up (.agg [.pv (.sl (ks.map (.int .i64))), .pv (ints (nth qs up).cs), .pv (ints (nth qs up).vs)])⟩ : Ob)) = _
      rw [dU, List.set_set]
    · rw [List.set_set]; exact h
end Go.V
namespace Go.V
def NewU (P : Program) (f : FuncId) (pty ity : Nat) (args : List PV) (t : Pt) (up : Nat) : Prop :=
  CallS P f (args.map .pv) [] (fun d S => ∃ T, d = treeD 0 t ∧ S = obD pty 3 (dU 1 t.ps up) :: obD ity 1 (dI (nth t.ps up).ks) :: T)
theorem tree_own {o k : Nat} {m : D → D} {t : Pt} (h : mp1 m (ownD o (dG t.ps)) = ownD k (dG t.ps)) : mpD m (treeD o t) = treeD k t := by
  show D.agg [.pv (i64 t.r), mp1 m (ownD o (dG t.ps))] = _
  rw [h]
theorem NewU.trim {P : Program} {f : FuncId} {pty ity : Nat} {args : List PV} {t : Pt} {up : Nat} (h : NewU P f pty ity args t up) : CallS P f (args.map .pv) [] (fun d S => d = treeD 0 t ∧ S = [obD pty 3 (dU 1 t.ps up), obD ity 1 (dI (nth t.ps up).ks)]) := by
  refine CallS.bd h ?_
  rintro d S' ⟨T, rfl, rfl⟩
  refine Bd.renL [0, 1] (fun i hi => absurd hi (Nat.not_lt_zero i)) (by simp) [(0, treeD 0 t)] ⟨tree_own (mp1_own rfl), trivial⟩ (S' := [obD pty 3 (dU 1 t.ps up), obD ity 1 (dI (nth t.ps up).ks)]) ?_ ?_
  · show [(obD pty 3 (dU 1 t.ps up)).map (mpOb (inv [0, 1])), (obD ity 1 (dI (nth t.ps up).ks)).map (mpOb (inv [0, 1]))] = _
    rw [obD_mI, obD_mU rfl]
  · exact ⟨rfl, rfl⟩
theorem obD_fU {ty m k : Nat} {ps : List Pg} {up : Nat} : (obD ty 3 (dU k ps up)).map (mpOb (fwd [] m)) = obD ty 3 (dU (m + k) ps up) := by
  have e : (dU k ps up).map (mpS (fwd [] m)) = dU (m + k) ps up := by
    rw [dU, List.map_set, show mpS (fwd [] m) (pgK k (nth ps up)) = pgK (m + k) (nth ps up) from by
      show D.agg [mp1 (fwd [] m) (ownD k (dI (nth ps up).ks)), _, _] = _
      rw [fwd_own' (k := 0)]; rfl]
    congr 1
    rw [List.map_map]
    exact List.map_congr_left fun x _ => rfl
  by_cases h0 : ps = []
  · subst h0; rfl
  · have h1 : dU k ps up ≠ [] := fun e => h0 (by have := congrArg List.length e; simpa using this)
    have h2 : dU (m + k) ps up ≠ [] := fun e => h0 (by have := congrArg List.length e; simpa using this)
    rw [obD_ne h1, obD_ne h2]
    show some (⟨ty, 3, (dU k ps up).map (mpS (fwd [] m))⟩ : Ob) = _
    rw [e]
section q
variable {P : Program} {sf : SM} {r : RT} {L : List (Nat × D)} {S : Store} {K : Env → Store → Prop} {t : Nat}
theorem q_newU {f : FuncId} {pty ity : Nat} {args' : List Opd} {args : List PV} {T : Pt} {up : Nat} (hm : cOK sf = true) (hc : NewU P f pty ity args T up) (ha : sameA (args'.map (ev (env L))) (args.map .pv)) (hs : sOK sf (S ++ [obD pty 3 (dU (S.length + 1) T.ps up), obD ity 1 (dI (nth T.ps up).ks)]))
    (h : RG P sf r (env ((t, treeD S.length T) :: L)) (S ++ [obD pty 3 (dU (S.length + 1) T.ps up), obD ity 1 (dI (nth T.ps up).ks)]) K) : RG P sf (.op ⟨some t, none, .call f args'⟩ r) (env L) S K := by
  refine q_call hm (CallS.same ha ?_)
  refine CallS.frame (c1 := fun d S => d = treeD 0 T ∧ S = [obD pty 3 (dU 1 T.ps up), obD ity 1 (dI (nth T.ps up).ks)]) [] (by simp) (by simp) ?_ ?_
  · rw [map_pv_inv]; exact hc.trim
  · rintro d S1 ⟨rfl, rfl⟩
    rw [mergeS_nil, tree_own (k := S.length) (by rw [fwd_own' (k := 0), Nat.add_zero])]
    simp only [List.map_cons, List.map_nil, obD_mI, obD_fU]
    exact ⟨hs, h⟩
end q
theorem set_nth_self {α : Type} [Inhabited α] {xs : List α} {i : Nat} (h : i < xs.length) : xs.set i (nth xs i) = xs := by
  rw [nth_eq h]; exact List.set_getElem_self h
end Go.V
namespace Go.V
section q
variable {P : Program} {sf : SM} {r : RT} {L : List (Nat × D)} {S : Store} {K : Env → Store → Prop} {t : Nat}
theorem q_build3 {z0 z1 z2 : D} {x y w : Opd} {dx dy dw : D} (hx : ev (env L) x = dx) (hy : ev (env L) y = dy) (hw : ev (env L) w = dw) (cx : cellsD dx = some [dx]) (cy : cellsD dy = some [dy]) (cw : cellsD dw = some [dw]) (h : RG P sf r (env ((t, .agg [dx, dy, dw]) :: L)) S K) :
    RG P sf (.op ⟨some t, none, .build [z0, z1, z2] [(0, (1, x)), (1, (1, y)), (2, (1, w))]⟩ r) (env L) S K := by
  refine q_build ?_ h
  subst hx hy hw
  simp only [fillD, cx, cy, cw]
  simp [setAt]
end q
end Go.V
namespace Go.V
theorem RG_st {P : Program} {sf : SM} {r : RT} {E : Env} {S : Store} {K : Env → Store → Prop} (S' : Store) (h : S = S') (k : RG P sf r E S' K) : RG P sf r E S K := h ▸ k
end Go.V

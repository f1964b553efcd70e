/- A part of the proofs about laws of the page tree (see the text that bears the law): a small language of steps, its rules, and what the functions of the program return. -/
import Derived.Test.YtgblkaealpggdaaLG
set_option linter.all false
set_option linter.unusedVariables false
set_option linter.unusedSimpArgs false
namespace Go.V
/-! a function that appends to an own list of numbers -/
def AppS (P : Program) (f : FuncId) (ty : Nat) (args : List PV) (ys zs : List Int) : Prop :=
  CallS P f (args.map .pv ++ [ownD 0 (dI ys)]) [obD ty 1 (dI ys)] (fun d S => ∃ T, d = ownD 1 (dI (ys ++ zs)) ∧ S = none :: obD ty 1 (dI (ys ++ zs)) :: T)
def sameA : List D → List D → Prop
  | [], [] => True
  | d :: ds, e :: es => (d = e ∨ ∃ p, toPV d = some p ∧ e = .pv p) ∧ sameA ds es
  | _, _ => False
theorem RDs.same {ρ : Rho} {I : Nat → Prop} {w : World} : ∀ {vs : List Value} {ds es : List D}, sameA ds es → RDs ρ I w vs ds → RDs ρ I w vs es
  | [], [], [], _, _ => trivial
  | _ :: _, _ :: _, _ :: _, h, hv => ⟨by
      rcases h.1 with rfl | ⟨p, h1, rfl⟩
      · exact hv.1
      · exact rd_pv_rho (toPV_sound h1 hv.1), RDs.same h.2 hv.2⟩
  | [], [], _ :: _, h, _ => h.elim
  | [], _ :: _, _, _, hv => hv.elim
  | _ :: _, [], _, _, hv => hv.elim
  | _ :: _, _ :: _, [], h, _ => h.elim
theorem CallS.same {P : Program} {f : FuncId} {ds es : List D} {S : Store} {c : D → Store → Prop} (h : sameA ds es) (hc : CallS P f es S c) : CallS P f ds S c :=
  fun ρ I w vs hs hv => hc ρ I w vs hs (RDs.same h hv)
theorem env_same {L : List (Nat × D)} {t : Nat} {d : D} (h : env L t = d) : env ((t, d) :: L) = env L := by
  funext s
  rw [env_cons]
  split
  · rename_i e; subst e; exact h.symm
  · rfl
theorem Bd.mv0 {k0 : Nat} {L : List (Nat × D)} {ty : Nat} {ys : List Int} {R : Env → Store → Prop} (t : Nat) (ht : env L t = ownD 0 (dI ys)) (h : R (env ((t, ownD 1 (dI ys)) :: L)) [none, obD ty 1 (dI ys)]) : Bd k0 (env L) [obD ty 1 (dI ys)] R := by
  cases ys with
  | nil =>
    have e : env ((t, D.nils) :: L) = env L := env_same ht
    rw [show ownD 1 (dI []) = D.nils from rfl, e] at h
    exact Bd.pad h
  | cons y ys => exact Bd.move t (o := 0) (n := (dI (y :: ys)).length) ht rfl h
theorem AppS.trim {P : Program} {f : FuncId} {ty : Nat} {args : List PV} {ys zs : List Int} (h : AppS P f ty args ys zs) :
    CallS P f (args.map .pv ++ [ownD 0 (dI ys)]) [obD ty 1 (dI ys)] (fun d S => d = ownD 1 (dI (ys ++ zs)) ∧ S = [none, obD ty 1 (dI (ys ++ zs))]) := by
  refine CallS.bd h ?_
  rintro d S' ⟨T, rfl, rfl⟩
  refine Bd.renL [0, 1] (fun i hi => by have e : i = 0 := (by simp at hi; omega); subst e; rfl) (by simp) [(0, ownD 1 (dI (ys ++ zs)))] ⟨inv_own rfl, trivial⟩ (S' := [none, obD ty 1 (dI (ys ++ zs))]) ?_ ?_
  · show [none, (obD ty 1 (dI (ys ++ zs))).map (mpOb (inv [0, 1]))] = _
    rw [obD_mI]
  · exact ⟨rfl, rfl⟩
theorem AppS.trim0 {P : Program} {f : FuncId} {ty : Nat} {args : List PV} {zs : List Int} (h : AppS P f ty args [] zs) :
    CallS P f (args.map .pv ++ [.nils]) [] (fun d S => d = ownD 0 (dI zs) ∧ S = [obD ty 1 (dI zs)]) := by
  refine CallS.bd (CallS.pad h.trim) ?_
  rintro d S' ⟨rfl, rfl⟩
  refine Bd.renL [1] (fun i hi => absurd hi (Nat.not_lt_zero i)) (by simp) [(0, ownD 0 (dI zs))] ⟨inv_own rfl, trivial⟩ (S' := [obD ty 1 (dI zs)]) ?_ ?_
  · show [(obD ty 1 (dI ([] ++ zs))).map (mpOb (inv [1]))] = _
    rw [obD_mI]; rfl
  · exact ⟨rfl, rfl⟩
theorem fwd_ownD {m : D → D} {o k : Nat} {xs : List D} (h : ∀ n, m (.own o n) = .own k n) (hn : m .nils = .nils) : mpD m (ownD o xs) = ownD k xs := by
  cases xs with
  | nil => simp [ownD, mpD, mpS, mp1, mp0, hn]
  | cons x xs => simp [ownD, mpD, mpS, mp1, mp0, h]
theorem map_pv_inv (os : List Nat) (args : List PV) : (args.map D.pv).map (mpD (inv os)) = args.map .pv := by
  rw [List.map_map]; exact List.map_congr_left fun x _ => mpD_pv _ _
section q
variable {P : Program} {sf : SM} {r : RT} {L : List (Nat × D)} {S : Store} {K : Env → Store → Prop} {t : Nat}
theorem q_apps0 {f : FuncId} {ty : Nat} {args' : List Opd} {args : List PV} {zs : List Int} (hm : cOK sf = true) (h : AppS P f ty args [] zs) (ha : sameA (args'.map (ev (env L))) (args.map .pv ++ [.nils]))
    (hs : sOK sf (S ++ [obD ty 1 (dI zs)])) (hk : RG P sf r (env ((t, ownD S.length (dI zs)) :: L)) (S ++ [obD ty 1 (dI zs)]) K) : RG P sf (.op ⟨some t, none, .call f args'⟩ r) (env L) S K := by
  refine q_call hm (CallS.same ha ?_)
  refine CallS.frame (c1 := fun d S => d = ownD 0 (dI zs) ∧ S = [obD ty 1 (dI zs)]) [] (by simp) (by simp) ?_ ?_
  · rw [List.map_append, map_pv_inv]; exact h.trim0
  · rintro d S1 ⟨rfl, rfl⟩
    rw [mergeS_nil, fwd_ownD (k := S.length) (fun n => by simp [fwd, extO]) rfl, List.map_cons, List.map_nil, obD_mI]
    exact ⟨hs, hk⟩
theorem q_apps {f : FuncId} {ty o : Nat} {args' : List Opd} {args : List PV} {ys zs : List Int} (hm : cOK sf = true) (h : AppS P f ty args ys zs) (ha : sameA (args'.map (ev (env L))) (args.map .pv ++ [ownD o (dI ys)])) (hS : S[o]? = some (obD ty 1 (dI ys)))
    (hs : sOK sf (S.set o none ++ [obD ty 1 (dI (ys ++ zs))])) (hk : RG P sf r (env ((t, ownD S.length (dI (ys ++ zs))) :: L)) (S.set o none ++ [obD ty 1 (dI (ys ++ zs))]) K) : RG P sf (.op ⟨some t, none, .call f args'⟩ r) (env L) S K := by
  have ho : o < S.length := (List.getElem?_eq_some_iff.1 hS).1
  by_cases h0 : ys = []
  · subst h0
    have e : S.set o none = S := by
      apply List.ext_getElem?
      intro x
      rw [List.getElem?_set]
      split
      · rename_i e; subst e; rw [hS]; rfl
      · rfl
    rw [e] at hs hk
    exact q_apps0 hm h ha hs hk
  · refine q_call hm (CallS.same ha ?_)
    have hob : obD ty 1 (dI ys) = some ⟨ty, 1, dI ys⟩ := obD_ne (by simpa using h0)
    have e1 : subS [o] S = [obD ty 1 (dI ys)] := by
      show [(S.getD o none).map (mpOb (inv [o]))] = _
      rw [List.getD_eq_getElem?_getD, hS]
      exact congrArg (fun z => [z]) (obD_mI ys)
    refine CallS.frame (c1 := fun d S => d = ownD 1 (dI (ys ++ zs)) ∧ S = [none, obD ty 1 (dI (ys ++ zs))]) [o] (by simp) (by simpa using ⟨_, by rw [hS, hob]⟩) ?_ ?_
    · rw [e1, List.map_append, map_pv_inv, List.map_cons, List.map_nil, inv_own (k := 0) (by simp [posOf])]; exact h.trim
    · rintro d S1 ⟨rfl, rfl⟩
      rw [mergeS_one ho, fwd_ownD (k := S.length) (fun n => by simp [fwd, extO]) rfl]
      simp only [List.getD_eq_getElem?_getD, List.getElem?_cons_zero, Option.getD_some, List.drop_succ_cons, List.drop_zero, List.map_cons, List.map_nil, Option.map_none, obD_mI]
      exact ⟨hs, hk⟩
end q
def lvB (t : Pt) (h : Nat) (i : Int) : List Int := (wlk t h i).filter (isLf t)
theorem lvB_leaf {t : Pt} {h : Nat} {i : Int} (hc : (pg t i).cs.length = 0) : lvB t (h + 1) i = [i] := by
  have e : (pg t i).cs = [] := List.length_eq_zero_iff.1 hc
  rw [lvB, wlk_succ, e]; simp [isLf, hc]
theorem filter_flat {α β : Type} (p : β → Bool) (f : α → List β) : ∀ xs : List α, (xs.flatMap f).filter p = xs.flatMap fun x => (f x).filter p
  | [] => rfl
  | x :: xs => by rw [List.flatMap_cons, List.filter_append, filter_flat p f xs, List.flatMap_cons]
theorem lvB_inner {t : Pt} {h : Nat} {i : Int} (hc : (pg t i).cs.length ≠ 0) : lvB t (h + 1) i = (pg t i).cs.flatMap (lvB t h) := by
  rw [lvB, wlk_succ, List.filter_cons_of_neg (by simp [isLf]; intro h; rw [h] at hc; exact hc rfl), filter_flat]
  rfl
end Go.V
namespace Go.V
/-! leaves and pairs, none of trees that are not valid -/
def lvV (t : Pt) : List Int := if validT t then lvT t (hgtT t) else []
def prV (t : Pt) : List (Int × Int) := if validT t then prT t (hgtT t) else []
structure VFacts (t : Pt) : Prop where
  wk : wkT t (hgtT t) t.r = true
  n16 : (wlk t (hgtT t) t.r).length ≤ 16
  pgs : ∀ i, inT t i = true → (pg t i).ks.length ≤ 4 ∧ ((pg t i).cs.length = 0 → (pg t i).vs.length = (pg t i).ks.length)
theorem valid_facts {t : Pt} (hv : validT t = true) : VFacts t := by
  obtain ⟨h1, h2, h3, h4, h5⟩ := valid_ok hv
  refine ⟨okT_wk h3, ?_, fun i hi => ?_⟩
  · have hl : (wlk t (hgtT t) t.r).length = t.ps.length := (nodup_full h4 fun x hx => inT_iff.1 (okT_in h3 x hx)).1 fun q hq => h5 q (inT_iff.2 (by omega))
    omega
  · obtain ⟨h, lo, hi', h6⟩ := valid_page hv hi
    refine ⟨(okT_small h6).1, fun hc => ?_⟩
    have h7 := (okT_top h6).2.2.1
    rw [fillB] at h7
    exact (fill_leaf h7 hc).1
theorem lvT_mem {t : Pt} (hv : validT t = true) {i : Int} (hi : i ∈ lvT t (hgtT t)) : inT t i = true ∧ (pg t i).cs.length = 0 := by
  have h := List.mem_filter.1 hi
  exact ⟨wk_in (valid_facts hv).wk _ h.1, by simpa [isLf] using h.2⟩
theorem flatM_len {α β : Type} (f : α → List β) (n : Nat) : ∀ xs : List α, (∀ x ∈ xs, (f x).length ≤ n) → (xs.flatMap f).length ≤ n * xs.length
  | [], _ => by simp
  | x :: xs, h => by
    have h1 := h x (List.mem_cons_self ..)
    have h2 := flatM_len f n xs fun y hy => h y (List.mem_cons_of_mem _ hy)
    rw [List.flatMap_cons, List.length_append, List.length_cons, Nat.mul_succ]; omega
theorem prV_len {t : Pt} : (prV t).length ≤ 64 := by
  rw [prV]
  split
  · rename_i hv
    have h2 : (lvT t (hgtT t)).length ≤ (wlk t (hgtT t) t.r).length := List.length_filter_le ..
    have h1 := (valid_facts hv).n16
    have h3 := flatM_len (fun i => rowG (pg t i)) 4 (lvT t (hgtT t)) fun i hi => by
      rw [rowG_len]; exact ((valid_facts hv).pgs i (lvT_mem hv hi).1).1
    rw [prT]; omega
  · simp
theorem prV_flat {t : Pt} : prV t = (lvV t).flatMap fun i => rowG (pg t i) := by
  rw [prV, lvV]
  split
  · rfl
  · rfl
abbrev fillV (t : Pt) : Nat := 100 * (prV t).length / (4 * (lvV t).length)
end Go.V
namespace Go.V
/-! own pairs, written one by one -/
abbrev qD (x : Int × Int) : D := .agg [.pv (i64 x.1), .pv (i64 x.2)]
abbrev dQ (xs : List (Int × Int)) : List D := xs.map qD
section q
variable {P : Program} {sf : SM} {r : RT} {L : List (Nat × D)} {S : Store} {K : Env → Store → Prop}
end q
/-! pages of a size that code can count -/
def smG (a : List Pg) : Prop := a.length ≤ 1000000 ∧ ∀ i, i < a.length → (nth a i).ks.length ≤ 1000000 ∧ (nth a i).cs.length ≤ 1000000 ∧ (nth a i).vs.length ≤ 1000000
theorem smallT.smG {t : Pt} (h : smallT t) : smG t.ps := ⟨h.1, fun i hi => h.2 (i : Int) (by omega) (by omega)⟩
theorem pt_eq {a b : Pt} : decide (a = b) = (decide (a.r = b.r) && decide (a.ps = b.ps)) := by
  rw [← Bool.decide_and]
  refine decide_eq_decide.2 ⟨fun h => by rw [h]; exact ⟨rfl, rfl⟩, fun h => by cases a; cases b; simp at h; simp [h.1, h.2]⟩
end Go.V

namespace Go.V
/-! loaded trees: valid, of all pairs -/
theorem cut_le' {m n i j : Nat} (h : i ≤ j) : cutAt m n i ≤ cutAt m n j := Nat.div_le_div_right (Nat.mul_le_mul_left _ h)
theorem cut_all {m n : Nat} (h : 1 ≤ n) : cutAt m n n = m := Nat.mul_div_cancel _ (by omega)
theorem nth_cutP {xs : List (Int × Int)} {n i j : Nat} (hi : i < n) (hj : j < cutAt xs.length n (i + 1) - cutAt xs.length n i) : nth (cutP xs n i) j = nth xs (cutAt xs.length n i + j) := by
  have h1 := cut_le (m := xs.length) (n := n) (i := i + 1) (by omega) (by omega)
  rw [nth_eq (by rw [cutP_len hi]; exact hj), nth_eq (by omega)]
  simp [cutP]
theorem key_lt {xs : List (Int × Int)} (hg : goodR xs = true) {i j : Nat} (h : i < j) (hj : j < xs.length) : (nth xs i).1 < (nth xs j).1 := by
  have := List.pairwise_iff_getElem.1 (goodR_pw hg) i j (by omega) hj h
  rwa [nth_eq (by omega), nth_eq hj]
theorem key_le {xs : List (Int × Int)} (hg : goodR xs = true) {i j : Nat} (h : i ≤ j) (hj : j < xs.length) : (nth xs i).1 ≤ (nth xs j).1 := by
  by_cases e : i = j
  · subst e; exact Int.le_refl _
  · have := key_lt hg (show i < j by omega) hj; omega
theorem cut_w {m n i : Nat} (hn : nlv m = n) (hm : m ≤ 24) (h1 : n ≠ 1) (hi : i < n) : 2 ≤ cutAt m n (i + 1) - cutAt m n i ∧ cutAt m n (i + 1) - cutAt m n i ≤ 4 := by
  have h2 := nlv_le hm
  have h3 : 4 * (n - 1) < m ∧ m ≤ 4 * n := by simp only [nlv] at hn; omega
  have h4 : n = 2 ∨ n = 3 ∨ n = 4 ∨ n = 5 ∨ n = 6 := by omega
  have h5 : i = 0 ∨ i = 1 ∨ i = 2 ∨ i = 3 ∨ i = 4 ∨ i = 5 := by omega
  clear h2 hn
  simp only [cutAt]
  rcases h4 with rfl | rfl | rfl | rfl | rfl <;> rcases h5 with rfl | rfl | rfl | rfl | rfl | rfl <;> omega
theorem ld_leaf {t : Pt} {xs : List (Int × Int)} {n a : Nat} {p lo hi : Int} (hg : goodR xs = true) (hn : nlv xs.length = n) (ha : a < n) (h0 : inT t p = true) (hp : pg t p = leafG (cutP xs n a)) (hr : p = t.r ∨ n ≠ 1)
    (hb : ∀ j, cutAt xs.length n a ≤ j → j < cutAt xs.length n (a + 1) → lo ≤ (nth xs j).1 ∧ (nth xs j).1 < hi) : okT t 1 p lo hi = true := by
  have hx := goodR_len hg
  have hgi := goodR_iff.1 (goodR_sub (ys := cutP xs n a) hg ((List.drop_sublist ..).trans (List.take_sublist ..)))
  have hl := cutP_len (xs := xs) ha
  have hw : (n ≠ 1 → 2 ≤ (cutP xs n a).length) ∧ (cutP xs n a).length ≤ 4 := by
    by_cases h1 : n = 1
    · refine ⟨fun h => absurd h1 h, ?_⟩
      have : a = 0 := by omega
      subst this; subst h1
      rw [hl]; simp only [cutAt]; simp only [nlv] at hn; omega
    · have := cut_w hn hx h1 ha
      rw [hl]; omega
  rw [okT_one hp h0 (by simp [leafG]; exact hw.2) hgi.2.2 (by
    rcases hr with hr | hr
    · exact .inl hr
    · exact .inr (by simp [leafG]; exact hw.1 hr)) ?_]
  · simp only [leafG, lfB, List.length_nil, List.length_map, decide_true, Bool.true_and, List.all_eq_true]
    intro v hv
    obtain ⟨x, hx, rfl⟩ := List.mem_map.1 hv
    have := hgi.1 x hx
    simpa using this
  · rw [keysIn, List.all_eq_true]
    intro k hk
    obtain ⟨x, hx, rfl⟩ := List.mem_map.1 hk
    obtain ⟨j, hj, rfl⟩ := List.getElem_of_mem hx
    have e : (cutP xs n a)[j] = nth xs (cutAt xs.length n a + j) := by rw [← nth_cutP ha (by omega), nth_eq hj]
    rw [e]
    have := hb (cutAt xs.length n a + j) (by omega) (by omega)
    simpa using this
theorem natI_len {n m : Nat} : (natI n m).length = m := by simp [natI]
theorem natI_cons {n m : Nat} : natI n (m + 1) = (n : Int) :: natI (n + 1) m := by
  rw [natI, List.range_succ_eq_map, List.map_cons, List.map_map]
  rw [show ((n + 0 : Nat) : Int) = (n : Int) by simp]
  refine congrArg (List.cons (n : Int)) (List.map_congr_left fun i _ => ?_)
  show ((n + (i + 1) : Nat) : Int) = ((n + 1 + i : Nat) : Int)
  congr 1; omega
theorem natI_at {n m j : Nat} (h : j < m) : nth (natI n m) j = ((n + j : Nat) : Int) := by
  rw [nth_eq (by rw [natI_len]; exact h)]; simp [natI]
theorem natI_nodup {n m : Nat} : (natI n m).Nodup := by
  rw [natI, List.Nodup, List.pairwise_map]
  refine List.Pairwise.imp (fun h => ?_) (List.nodup_range (n := m))
  intro e; apply h; omega
theorem natI_mem {n m : Nat} {x : Int} (h : x ∈ natI n m) : ∃ j, j < m ∧ x = ((n + j : Nat) : Int) := by
  obtain ⟨j, hj, rfl⟩ := List.mem_map.1 h
  exact ⟨j, List.mem_range.1 hj, rfl⟩
abbrev midK (xs : List (Int × Int)) (a b : Nat) : List Int := (((lvsP xs).take b).drop (a + 1)).map fk
theorem midK_len {xs : List (Int × Int)} {n a b : Nat} (hn : nlv xs.length = n) (hb : b ≤ n) : (midK xs a b).length = b - (a + 1) := by
  have := lvsP_len (xs := xs)
  simp; omega
theorem midK_at {xs : List (Int × Int)} {n a b j : Nat} (hn : nlv xs.length = n) (hx : xs.length ≤ 24) (h1 : n ≠ 1) (hb : b ≤ n) (hj : j < b - (a + 1)) : nth (midK xs a b) j = (nth xs (cutAt xs.length n (a + 1 + j))).1 := by
  have hl := lvsP_len (xs := xs)
  have hw := cut_w hn hx h1 (i := a + 1 + j) (by omega)
  rw [nth_eq (by rw [midK_len hn hb]; exact hj)]
  simp only [List.getElem_map, List.getElem_drop, List.getElem_take]
  rw [← nth_eq (by omega), lvsP_at (by omega), fk_leaf, hn, nth_cutP (by omega) (by omega), Nat.add_zero]
theorem ld_block {t : Pt} {xs : List (Int × Int)} {n a b p : Nat} {lo hi : Int} (hg : goodR xs = true) (hn : nlv xs.length = n) (h1 : n ≠ 1) (hab : a + 2 ≤ b ∧ b ≤ n ∧ b ≤ a + 5) (htop : (p : Int) = t.r ∨ a + 3 ≤ b) (hin : p + (b - a) < t.ps.length)
    (hp : pg t p = ⟨midK xs a b, natI (p + 1) (b - a), []⟩) (hk : ∀ j, j < b - a → pg t ((p + 1 + j : Nat) : Int) = leafG (cutP xs n (a + j))) (hlo : lo ≤ (nth xs (cutAt xs.length n a)).1) (hhi : ∀ j, j < cutAt xs.length n b → (nth xs j).1 < hi) : okT t 2 p lo hi = true := by
  have hx := goodR_len hg
  have hc : ∀ i, i ≤ n → cutAt xs.length n i ≤ xs.length := fun i hi => cut_le hi (by omega)
  have hw : ∀ i, i < n → cutAt xs.length n i < cutAt xs.length n (i + 1) := fun i hi => by have := cut_w hn hx h1 hi; omega
  have hkl := midK_len (xs := xs) (a := a) (b := b) hn (by omega)
  have hka : ∀ j, j < b - (a + 1) → nth (midK xs a b) j = (nth xs (cutAt xs.length n (a + 1 + j))).1 := fun j hj => midK_at hn hx h1 (by omega) hj
  have hcl : ∀ i, i < n → cutAt xs.length n i < xs.length := fun i hi => by have := hw i hi; have := hc (i + 1) (by omega); omega
  have hmono : ∀ i j, i ≤ j → cutAt xs.length n i ≤ cutAt xs.length n j := fun i j h => cut_le' h
  refine okT_more (h := 1) hp (by omega) (inT_iff.2 (by omega)) (by rw [hkl]; omega) ?gk (by
    rcases htop with h | h
    · exact .inl h
    · exact .inr (by rw [hkl]; omega)) ?ki (by rw [hkl]; omega) rfl (by rw [hkl, natI_len]; omega) ?kd
  case gk =>
    refine good_true (fun j hj => ?_) fun j hj => ?_
    · rw [hkl] at hj
      rw [hka j hj]
      exact row_key hg (nth_mem (hcl _ (by omega)))
    · rw [hkl] at hj
      rw [hka j (by omega), hka (j + 1) hj]
      exact key_lt hg (hw _ (by omega)) (hcl _ (by omega))
  case ki =>
    rw [keysIn, List.all_eq_true]
    intro k hk'
    obtain ⟨j, hj, rfl⟩ := List.getElem_of_mem hk'
    rw [hkl] at hj
    rw [← nth_eq (by rw [hkl]; exact hj), hka j hj]
    have h2 := key_le hg (hmono a (a + 1 + j) (by omega)) (hcl _ (by omega))
    have h3 := hhi (cutAt xs.length n (a + 1 + j)) (by
      have := hw (a + 1 + j) (by omega); have := hmono (a + 1 + j + 1) b (by omega); omega)
    simp; omega
  case kd =>
    intro j hj
    simp only [natI_len] at hj
    rw [natI_at hj]
    refine ld_leaf hg hn (a := a + j) (by omega) (inT_iff.2 (by omega)) (hk j hj) (.inr h1) fun q hq1 hq2 => ⟨?_, ?_⟩
    · rw [frK]
      split
      · rename_i h0
        subst h0
        have := key_le hg hq1 (by have := hc (a + 0 + 1) (by omega); omega)
        exact Int.le_trans hlo this
      · rw [hka (j - 1) (by omega), show a + 1 + (j - 1) = a + j by omega]
        exact key_le hg hq1 (by have := hc (a + j + 1) (by omega); omega)
    · rw [toK]
      split
      · rename_i h0
        rw [hkl] at h0
        rw [hka j h0]
        refine key_lt hg (by rw [show a + 1 + j = a + j + 1 by omega]; exact hq2) (hcl _ (by omega))
      · rename_i h0
        rw [hkl] at h0
        exact hhi q (by rw [show a + j + 1 = b by omega] at hq2; exact hq2)
theorem flat_one {α : Type} (f : α → List α) : ∀ xs : List α, (∀ x ∈ xs, f x = [x]) → xs.flatMap f = xs
  | [], _ => rfl
  | x :: xs, h => by rw [List.flatMap_cons, h x (List.mem_cons_self ..), flat_one f xs fun y hy => h y (List.mem_cons_of_mem _ hy)]; rfl
theorem ld_wlk {t : Pt} {p k : Nat} {ks : List Int} {f : Nat → List (Int × Int)} (hp : pg t p = ⟨ks, natI (p + 1) k, []⟩) (hk : ∀ j, j < k → pg t ((p + 1 + j : Nat) : Int) = leafG (f j)) (h0 : 0 < k) : wlk t 2 p = natI p (k + 1) ∧ lvB t 2 p = natI (p + 1) k := by
  have h1 : ∀ x ∈ natI (p + 1) k, wlk t 1 x = [x] := fun x hx => by
    obtain ⟨j, hj, rfl⟩ := natI_mem hx
    rw [wlk_succ, hk j hj]; rfl
  have h2 : ∀ x ∈ natI (p + 1) k, lvB t 1 x = [x] := fun x hx => by
    obtain ⟨j, hj, rfl⟩ := natI_mem hx
    exact lvB_leaf (by rw [hk j hj]; rfl)
  refine ⟨?_, ?_⟩
  · rw [wlk_succ, hp, natI_cons, flat_one _ _ h1]
  · rw [lvB_inner (by rw [hp]; simp only [natI_len]; omega), hp, flat_one _ _ h2]
theorem mid_app {α : Type} {xs : List α} {a b c : Nat} (h1 : a ≤ b) (h2 : b ≤ c) (h3 : c ≤ xs.length) : midR xs a b ++ midR xs b c = midR xs a c := by
  have e : xs.take b = (xs.take c).take b := by rw [List.take_take, Nat.min_eq_left h2]
  have e2 : xs.take c = (xs.take c).take b ++ (xs.take c).drop b := (List.take_append_drop ..).symm
  show (xs.take b).drop a ++ (xs.take c).drop b = (xs.take c).drop a
  rw [e]
  conv => rhs; rw [e2]
  rw [List.drop_append_of_le_length (by simp; omega)]
theorem ld_rows {t : Pt} {xs : List (Int × Int)} {n a p : Nat} (hn : 1 ≤ n) : ∀ {k : Nat}, a + k ≤ n → (∀ j, j < k → pg t ((p + j : Nat) : Int) = leafG (cutP xs n (a + j))) → ((natI p k).flatMap fun i => rowG (pg t i)) = midR xs (cutAt xs.length n a) (cutAt xs.length n (a + k))
  | 0, _, _ => by simp [natI]
  | k + 1, h, hk => by
    rw [natI_succ, List.flatMap_append, ld_rows hn (by omega) fun j hj => hk j (by omega), List.flatMap_cons, List.flatMap_nil, List.append_nil, hk k (by omega), rowG_leafG]
    exact mid_app (cut_le' (by omega)) (cut_le' (by omega)) (cut_le (by omega) hn)
structure LdOK (t : Pt) (xs : List (Int × Int)) (n h : Nat) : Prop where
  ok : okT t h t.r 0 100 = true
  h3 : h ≤ 3
  wl : wlk t h t.r = natI 0 t.ps.length
  lv : (lvB t h t.r).length = n
  rw : ((lvB t h t.r).flatMap fun i => rowG (pg t i)) = xs
theorem LdOK.valid {t : Pt} {xs : List (Int × Int)} {n h : Nat} (a : LdOK t xs n h) (hl : 1 ≤ t.ps.length ∧ t.ps.length ≤ 16) : validT t = true ∧ prV t = xs ∧ (lvV t).length = n := by
  have hv : validT t = true := valid_iff.2 ⟨hl, h, a.h3, a.ok, by rw [a.wl]; exact natI_nodup, by rw [a.wl, natI_len]⟩
  have e : hgtT t = h := okT_hgt (f := 3) a.ok (by have := a.h3; omega)
  refine ⟨hv, ?_, ?_⟩
  · rw [prV_flat, lvV, if_pos hv, e]; exact a.rw
  · rw [lvV, if_pos hv, e]; exact a.lv
theorem ld_case1 {xs : List (Int × Int)} (hg : goodR xs = true) (h1 : nlv xs.length = 1) : LdOK (loadT xs) xs 1 1 ∧ (loadP xs).length = 1 := by
  have hx := goodR_len hg
  have e : loadP xs = [leafG (cutP xs 1 0)] := by rw [loadP, if_pos h1, lvsP, h1]; rfl
  have hp : pg (loadT xs) 0 = leafG (cutP xs 1 0) := by show nth (loadP xs) 0 = _; rw [e]; rfl
  have e2 : cutP xs 1 0 = xs := by simp [cutP, cutAt]
  refine ⟨⟨?_, by omega, ?_, ?_, ?_⟩, by rw [e]; rfl⟩
  · refine ld_leaf hg h1 (by omega) (inT_iff.2 ?_) hp (.inl rfl) fun j _ hj => ?_
    · show (0 : Int) ≤ 0 ∧ (0 : Int) < (loadP xs).length
      rw [e]; simp
    · have hj2 : j < xs.length := by have := cut_le (m := xs.length) (n := 1) (i := 1) (by omega) (by omega); simp only [Nat.zero_add] at hj; omega
      have := row_key hg (nth_mem hj2)
      omega
  · show wlk (loadT xs) 1 0 = natI 0 (loadP xs).length
    rw [wlk_succ, hp, e]; rfl
  · show (lvB (loadT xs) 1 0).length = 1
    rw [lvB_leaf (by rw [hp]; rfl)]; rfl
  · show ((lvB (loadT xs) 1 0).flatMap fun i => rowG (pg (loadT xs) i)) = xs
    rw [lvB_leaf (by rw [hp]; rfl)]
    simp only [List.flatMap_cons, List.flatMap_nil, List.append_nil]
    rw [hp, rowG_leafG, e2]
theorem key_100 {xs : List (Int × Int)} (hg : goodR xs = true) {c : Nat} (hc : c ≤ xs.length) : ∀ j, j < c → (nth xs j).1 < 100 := fun j hj => by
  have := row_key hg (nth_mem (show j < xs.length by omega)); omega
theorem key_0 {xs : List (Int × Int)} (hg : goodR xs = true) {j : Nat} (hj : j < xs.length) : 0 ≤ (nth xs j).1 := (row_key hg (nth_mem hj)).1
theorem ld_case2 {xs : List (Int × Int)} {n : Nat} (hg : goodR xs = true) (hn : nlv xs.length = n) (h1 : n ≠ 1) (h5 : n ≤ 5) : LdOK (loadT xs) xs n 2 ∧ (loadP xs).length = n + 1 := by
  have hx := goodR_len hg
  have hl := lvsP_len (xs := xs)
  have h2 := nlv_le hx
  have e : loadP xs = ⟨midK xs 0 n, natI 1 n, []⟩ :: lvsP xs := by
    rw [loadP, if_neg (by omega), if_pos (by omega), midK, hn, List.take_of_length_le (by omega)]
  have hlen : (loadP xs).length = n + 1 := by rw [e, List.length_cons]; omega
  have hp : pg (loadT xs) ((0 : Nat) : Int) = ⟨midK xs 0 n, natI (0 + 1) (n - 0), []⟩ := by show nth (loadP xs) 0 = _; rw [e]; rfl
  have hk : ∀ j, j < n - 0 → pg (loadT xs) ((0 + 1 + j : Nat) : Int) = leafG (cutP xs n (0 + j)) := fun j hj => by
    show nth (loadP xs) ((0 + 1 + j : Nat) : Int).toNat = _
    rw [e, Int.toNat_natCast, show 0 + 1 + j = j + 1 by omega, Nat.zero_add]
    show nth (lvsP xs) j = _
    rw [lvsP_at (by omega), hn]
  have hw := ld_wlk (f := fun j => cutP xs n (0 + j)) hp hk (by omega)
  have hc0 : cutAt xs.length n 0 = 0 := cut_zero
  refine ⟨⟨?_, by omega, ?_, ?_, ?_⟩, hlen⟩
  · refine ld_block (p := 0) (a := 0) (b := n) hg hn h1 (by omega) (.inl rfl) (by show 0 + (n - 0) < (loadP xs).length; omega) hp hk ?_ (key_100 hg (cut_le (by omega) (by omega)))
    rw [hc0]; exact key_0 hg (by omega)
  · show wlk (loadT xs) 2 ((0 : Nat) : Int) = natI 0 (loadP xs).length
    rw [hw.1, hlen, Nat.sub_zero]
  · show (lvB (loadT xs) 2 ((0 : Nat) : Int)).length = n
    rw [hw.2, natI_len, Nat.sub_zero]
  · show ((lvB (loadT xs) 2 ((0 : Nat) : Int)).flatMap fun i => rowG (pg (loadT xs) i)) = xs
    rw [hw.2, ld_rows (n := n) (a := 0) (by omega) (by omega) hk, hc0, show 0 + (n - 0) = n by omega, cut_all (by omega)]
    simp
theorem ld_case3 {xs : List (Int × Int)} (hg : goodR xs = true) (hn : nlv xs.length = 6) : LdOK (loadT xs) xs 6 3 ∧ (loadP xs).length = 9 := by
  have hx := goodR_len hg
  have hl := lvsP_len (xs := xs)
  have hm : 20 < xs.length := by simp only [nlv] at hn; omega
  have hlv : lvsP xs = [leafG (cutP xs 6 0), leafG (cutP xs 6 1), leafG (cutP xs 6 2), leafG (cutP xs 6 3), leafG (cutP xs 6 4), leafG (cutP xs 6 5)] := by rw [lvsP, hn]; rfl
  have hK : fk (nth (lvsP xs) 3) = (nth xs (cutAt xs.length 6 3)).1 := by
    have hw := cut_w hn hx (by omega) (i := 3) (by omega)
    rw [lvsP_at (by omega), fk_leaf, hn, nth_cutP (by omega) (by omega), Nat.add_zero]
  have e : loadP xs = [⟨[(nth xs (cutAt xs.length 6 3)).1], [1, 5], []⟩, ⟨midK xs 0 3, natI 2 3, []⟩, leafG (cutP xs 6 0), leafG (cutP xs 6 1), leafG (cutP xs 6 2), ⟨midK xs 3 6, natI 6 3, []⟩, leafG (cutP xs 6 3), leafG (cutP xs 6 4), leafG (cutP xs 6 5)] := by
    rw [loadP, if_neg (by omega), if_neg (by omega), hn, hK, midK, midK, hlv]
    rfl
  have hlen : (loadP xs).length = 9 := by rw [e]; rfl
  have hp0 : pg (loadT xs) 0 = ⟨[(nth xs (cutAt xs.length 6 3)).1], [1, 5], []⟩ := by show nth (loadP xs) 0 = _; rw [e]; rfl
  have hp1 : pg (loadT xs) ((1 : Nat) : Int) = ⟨midK xs 0 3, natI (1 + 1) (3 - 0), []⟩ := by show nth (loadP xs) 1 = _; rw [e]; rfl
  have hp5 : pg (loadT xs) ((5 : Nat) : Int) = ⟨midK xs 3 6, natI (5 + 1) (6 - 3), []⟩ := by show nth (loadP xs) 5 = _; rw [e]; rfl
  have hk1 : ∀ j, j < 3 - 0 → pg (loadT xs) ((1 + 1 + j : Nat) : Int) = leafG (cutP xs 6 (0 + j)) := fun j hj => by
    have : j = 0 ∨ j = 1 ∨ j = 2 := by omega
    show nth (loadP xs) _ = _
    rw [e]
    rcases this with rfl | rfl | rfl <;> rfl
  have hk5 : ∀ j, j < 6 - 3 → pg (loadT xs) ((5 + 1 + j : Nat) : Int) = leafG (cutP xs 6 (3 + j)) := fun j hj => by
    have : j = 0 ∨ j = 1 ∨ j = 2 := by omega
    show nth (loadP xs) _ = _
    rw [e]
    rcases this with rfl | rfl | rfl <;> rfl
  have hw1 := ld_wlk (f := fun j => cutP xs 6 (0 + j)) hp1 hk1 (by omega)
  have hw5 := ld_wlk (f := fun j => cutP xs 6 (3 + j)) hp5 hk5 (by omega)
  have hc0 : cutAt xs.length 6 0 = 0 := cut_zero
  have hc3 : cutAt xs.length 6 3 < xs.length := by simp only [cutAt]; omega
  have hr : (loadT xs).r = 0 := rfl
  have hwk : wlk (loadT xs) 3 0 = 0 :: (wlk (loadT xs) 2 ((1 : Nat) : Int) ++ wlk (loadT xs) 2 ((5 : Nat) : Int)) := by
    rw [wlk_succ, hp0]; simp [List.flatMap_cons]
  have hlk : lvB (loadT xs) 3 0 = lvB (loadT xs) 2 ((1 : Nat) : Int) ++ lvB (loadT xs) 2 ((5 : Nat) : Int) := by
    rw [lvB_inner (by rw [hp0]; simp), hp0]; simp [List.flatMap_cons]
  have k3 := row_key hg (nth_mem hc3)
  refine ⟨⟨?_, by omega, ?_, ?_, ?_⟩, hlen⟩
  · rw [hr]
    have b1 : okT (loadT xs) 2 ((1 : Nat) : Int) 0 (nth xs (cutAt xs.length 6 3)).1 = true := by
      refine ld_block (p := 1) (a := 0) (b := 3) hg hn (by omega) (by omega) (.inr (by omega)) (by show 1 + (3 - 0) < (loadP xs).length; omega) hp1 hk1 (by rw [hc0]; exact key_0 hg (by omega)) fun j hj => key_lt hg hj hc3
    have b5 : okT (loadT xs) 2 ((5 : Nat) : Int) (nth xs (cutAt xs.length 6 3)).1 100 = true := by
      refine ld_block (p := 5) (a := 3) (b := 6) hg hn (by omega) (by omega) (.inr (by omega)) (by show 5 + (6 - 3) < (loadP xs).length; omega) hp5 hk5 (Int.le_refl _) (key_100 hg (cut_le (by omega) (by omega)))
    refine okT_more (h := 2) hp0 (by omega) (inT_iff.2 (by show (0 : Int) ≤ 0 ∧ (0 : Int) < (loadP xs).length; omega)) (by simp) (goodKeys_iff.2 ⟨by simp, by simpa using k3⟩) (.inl rfl) (by simp [keysIn]; omega) (by simp) rfl rfl fun j hj => ?_
    have : j = 0 ∨ j = 1 := by simp at hj; omega
    rcases this with rfl | rfl
    · exact b1
    · exact b5
  · show wlk (loadT xs) 3 0 = natI 0 (loadP xs).length
    rw [hwk, hw1.1, hw5.1, hlen]; rfl
  · show (lvB (loadT xs) 3 0).length = 6
    rw [hlk, hw1.2, hw5.2]; rfl
  · show ((lvB (loadT xs) 3 0).flatMap fun i => rowG (pg (loadT xs) i)) = xs
    rw [hlk, List.flatMap_append, hw1.2, hw5.2, ld_rows (n := 6) (a := 0) (by omega) (by omega) hk1, ld_rows (n := 6) (a := 3) (by omega) (by omega) hk5, hc0]
    rw [show 0 + (3 - 0) = 3 by omega, show 3 + (6 - 3) = 6 by omega, mid_app (Nat.zero_le _) (cut_le' (by omega)) (cut_le (by omega) (by omega)), cut_all (by omega)]
    simp
def cntL (m : Nat) : Nat := if nlv m = 1 then 1 else if nlv m ≤ 5 then nlv m + 1 else nlv m + 3
theorem load_good {xs : List (Int × Int)} (hg : goodR xs = true) : validT (loadT xs) = true ∧ prV (loadT xs) = xs ∧ (lvV (loadT xs)).length = nlv xs.length ∧ (loadT xs).ps.length = cntL xs.length ∧ smallT (loadT xs) := by
  have hx := goodR_len hg
  have h2 := nlv_le hx
  have h : ∃ n h, nlv xs.length = n ∧ LdOK (loadT xs) xs n h ∧ (loadP xs).length = cntL xs.length := by
    by_cases h1 : nlv xs.length = 1
    · have := ld_case1 hg h1
      exact ⟨1, 1, h1, this.1, by rw [this.2, cntL, if_pos h1]⟩
    · by_cases h5 : nlv xs.length ≤ 5
      · have := ld_case2 hg rfl h1 h5
        exact ⟨_, 2, rfl, this.1, by rw [this.2, cntL, if_neg h1, if_pos h5]⟩
      · have h6 : nlv xs.length = 6 := by omega
        have := ld_case3 hg h6
        exact ⟨6, 3, h6, this.1, by rw [this.2, cntL, if_neg h1, if_neg h5, h6]⟩
  obtain ⟨n, h, h4, h5, h6⟩ := h
  have h7 := h5.valid (loadP_len hx)
  exact ⟨h7.1, h7.2.1, by rw [h7.2.2, h4], h6, valid_smallT h7.1⟩
theorem small0 : smallT ⟨0, []⟩ := ⟨by simp, fun i h1 h2 => by simp at h2; omega⟩
end Go.V

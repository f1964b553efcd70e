/- A part of the proofs about laws of the page tree (see the text that bears the law): a small language of steps, its rules, and what the functions of the program return. -/
import Derived.Test.YtjbihdcdamchnaaPK
set_option linter.all false
set_option linter.unusedVariables false
set_option linter.unusedSimpArgs false
namespace Go.V
/-- a function that draws and gives a fresh slice -/
def RdN (P : Program) (f : FuncId) (ty : Nat) (bs : List Int) (p : Int) (args : List PV) {α : Type} (g : α → PV) (ty2 sz : Nat) (Q : List α → Int → Prop) : Prop :=
  CallS P f (.ptr 0 0 0 :: args.map .pv) [some (rdr ty bs p)] (fun d S => ∃ xs q, Q xs q ∧ d = ownD 1 (xs.map fun a => D.pv (g a)) ∧ S = [some (rdr ty bs q), obD ty2 sz (xs.map fun a => D.pv (g a))])
theorem fwd_own {o n : Nat} : ∀ {xs : List D}, mpD (fwd [o] n) (ownD 1 xs) = ownD n xs
  | [] => rfl
  | _ :: _ => by simp [ownD, mpD, mpS, mp1, mp0, fwd, extO]
section q
variable {P : Program} {sf : SM} {r : RT} {L : List (Nat × D)} {S : Store} {K : Env → Store → Prop} {t : Nat}
theorem q_rdn {f : FuncId} {ty : Nat} {bs : List Int} {p : Int} {args' : List Opd} {args : List PV} {o : Nat} {α : Type} {g : α → PV} {ty2 sz : Nat} {Q : List α → Int → Prop} (hm : cOK sf = true) (hc : RdN P f ty bs p args g ty2 sz Q) (hg : ∀ (m : D → D) a, mpS m (.pv (g a)) = .pv (g a))
    (ha : args'.map (ev (env L)) = .ptr o 0 0 :: args.map .pv) (hS : S[o]? = some (some (rdr ty bs p))) (hs : ∀ (xs : List α) (q : Int), sOK sf (S.set o (some (rdr ty bs q)) ++ [obD ty2 sz (xs.map fun a => D.pv (g a))]))
    (h : ∀ (xs : List α) (q : Int), Q xs q → RG P sf r (env ((t, ownD S.length (xs.map fun a => D.pv (g a))) :: L)) (S.set o (some (rdr ty bs q)) ++ [obD ty2 sz (xs.map fun a => D.pv (g a))]) K) : RG P sf (.op ⟨some t, none, .call f args'⟩ r) (env L) S K := by
  have ho : o < S.length := (List.getElem?_eq_some_iff.1 hS).1
  refine q_call hm ?_
  rw [ha]
  have e1 : subS [o] S = [some (rdr ty bs p)] := by simp [subS, List.getD_eq_getElem?_getD, hS, mpOb_rdr]
  have e2 : (.ptr o 0 0 :: args.map D.pv).map (mpD (inv [o])) = .ptr 0 0 0 :: args.map .pv := by
    simp only [List.map_cons, List.map_map]
    rw [show mpD (inv [o]) (D.ptr o 0 0) = .ptr 0 0 0 by simp [mpD, mpS, mp1, mp0, inv, posOf_single]]
    exact congrArg (D.ptr 0 0 0 :: ·) (List.map_congr_left fun x _ => mpD_pv _ _)
  refine CallS.frame (c1 := fun d S => ∃ xs q, Q xs q ∧ d = ownD 1 (xs.map fun a => D.pv (g a)) ∧ S = [some (rdr ty bs q), obD ty2 sz (xs.map fun a => D.pv (g a))]) [o] (by simp) (by simpa using ⟨_, hS⟩) ?_ ?_
  · rw [e1, e2]; exact hc
  · rintro d S1 ⟨xs, q, hq, rfl, rfl⟩
    rw [mergeS_one ho, fwd_own]
    have e3 : (obD ty2 sz (xs.map fun a => D.pv (g a))).map (mpOb (fwd [o] S.length)) = obD ty2 sz (xs.map fun a => D.pv (g a)) := obD_m xs fun a => hg _ a
    have := hs xs q
    have := h xs q hq
    simp only [List.getD_eq_getElem?_getD, List.getElem?_cons_zero, Option.getD_some, Option.map_some, mpOb_rdr, List.drop_succ_cons, List.drop_zero, List.map_cons, List.map_nil, e3]
    exact ⟨‹_›, ‹_›⟩
end q
/-! rows -/
abbrev keysR (xs : List (Int × Int)) : List Int := xs.map Prod.fst
def okVals (xs : List (Int × Int)) : Bool := xs.all fun x => decide (-1000 ≤ x.2) && decide (x.2 ≤ 1000)
def goodR (xs : List (Int × Int)) : Bool := okVals xs && (decide (xs.length ≤ 24) && goodKeys (keysR xs))
def atR (xs : List (Int × Int)) (k : Int) : Nat := upTo (keysR xs) (k - 1)
def thereR (xs : List (Int × Int)) (k : Int) : Bool := decide (atR xs k < xs.length) && decide ((nth xs (atR xs k)).1 = k)
def putR (xs : List (Int × Int)) (x : Int × Int) : List (Int × Int) := xs.take (atR xs x.1) ++ [x] ++ xs.drop (if thereR xs x.1 then atR xs x.1 + 1 else atR xs x.1)
def bdP (n : Int) (xs : List (Int × Int)) : Prop := ∀ x ∈ xs, (-n ≤ x.1 ∧ x.1 ≤ n) ∧ -n ≤ x.2 ∧ x.2 ≤ n
theorem nth_keys {xs : List (Int × Int)} {i : Nat} (h : i < xs.length) : nth (keysR xs) i = (nth xs i).1 := by
  rw [nth_eq (by simpa using h), nth_eq h]; simp
theorem atR_le (xs : List (Int × Int)) (k : Int) : atR xs k ≤ xs.length := by
  have := upTo_le (keysR xs) (k - 1); simpa [atR] using this
theorem putR_len {xs : List (Int × Int)} {x : Int × Int} : (putR xs x).length ≤ xs.length + 1 := by
  have := atR_le xs x.1
  simp only [putR, List.length_append, List.length_take, List.length_cons, List.length_nil, List.length_drop]
  split <;> omega
theorem bdP.put {n : Int} {xs : List (Int × Int)} {x : Int × Int} (h : bdP n xs) (hx : (-n ≤ x.1 ∧ x.1 ≤ n) ∧ -n ≤ x.2 ∧ x.2 ≤ n) : bdP n (putR xs x) := fun y hy => by
  simp only [putR, List.mem_append, List.mem_singleton] at hy
  rcases hy with (hy | rfl) | hy
  · exact h y (List.mem_of_mem_take hy)
  · exact hx
  · exact h y (List.mem_of_mem_drop hy)
theorem bdP.nil {n : Int} : bdP n [] := fun y hy => by cases hy
theorem bdP.app {n : Int} {xs ys : List (Int × Int)} (h : bdP n xs) (k : bdP n ys) : bdP n (xs ++ ys) := fun y hy => (List.mem_append.1 hy).elim (h y) (k y)
theorem bdP.one {n : Int} {x : Int × Int} (hx : (-n ≤ x.1 ∧ x.1 ≤ n) ∧ -n ≤ x.2 ∧ x.2 ≤ n) : bdP n [x] := fun y hy => by simp at hy; subst hy; exact hx
theorem take_succ_nth {α : Type} [Inhabited α] {xs : List α} {i : Nat} (h : i < xs.length) : xs.take (i + 1) = xs.take i ++ [nth xs i] := by
  rw [List.take_add_one, List.getElem?_eq_getElem h, nth_eq h]; rfl
end Go.V
namespace Go.V
theorem okVals_false {xs : List (Int × Int)} (i : Nat) (h : i < xs.length) (hq : (decide (-1000 ≤ (nth xs i).2) && decide ((nth xs i).2 ≤ 1000)) = false) : okVals xs = false := by
  rw [okVals, List.all_eq_false]
  refine ⟨nth xs i, nth_mem h, by rw [hq]; simp⟩
theorem okVals_true {xs : List (Int × Int)} (h : ∀ j, j < xs.length → (decide (-1000 ≤ (nth xs j).2) && decide ((nth xs j).2 ≤ 1000)) = true) : okVals xs = true := by
  rw [okVals, List.all_eq_true]
  intro x hx
  obtain ⟨j, hj, rfl⟩ := List.getElem_of_mem hx
  have := h j hj
  rwa [nth_eq hj] at this
end Go.V
namespace Go.V
theorem set_step {xs : List (Int × Int)} {ys : List Int} {i : Nat} (h : i < xs.length) (hy : i < ys.length) (g : ys.take i = keysR (xs.take i)) : (ys.set i (nth xs i).1).take (i + 1) = keysR (xs.take (i + 1)) := by
  rw [take_succ_nth h, take_succ_nth (by simpa using hy), List.take_set_of_le (Nat.le_refl _), g, nth_eq (by simpa using hy)]
  simp
end Go.V
namespace Go.V
theorem q_store_e {P : Program} {sf : SM} {r : RT} {L : List (Nat × D)} {S : Store} {K : Env → Store → Prop} {ty : Nat} {x y : Opd} {o i : Nat} {xs : List Int} {v : Int} (hx : ev (env L) x = .ptr o i 0) (hy : ev (env L) y = .pv (i64 v)) (hS : S[o]? = some (some ⟨ty, 1, dI xs⟩)) (hi : i < xs.length) (hs : sOK sf (S.set o (some ⟨ty, 1, dI (xs.set i v)⟩)))
    (h : RG P sf r (env L) (S.set o (some ⟨ty, 1, dI (xs.set i v)⟩)) K) : RG P sf (.op ⟨none, none, .store 1 x y⟩ r) (env L) S K := by
  have e1 : obD ty 1 (dI xs) = some ⟨ty, 1, dI xs⟩ := obD_ne (ne_map (by omega))
  have e2 : obD ty 1 (dI (xs.set i v)) = some ⟨ty, 1, dI (xs.set i v)⟩ := obD_ne (ne_map (by simp; omega))
  exact q_store_d hx hy (by rw [e1]; exact hS) hi (by rw [e2]; exact hs) (by rw [e2]; exact h)
theorem Bd.pureO {k0 : Nat} {L : List (Nat × D)} {S : Store} {R : Env → Store → Prop} (t o : Nat) {n : Nat} {ob : Ob} {ps : List PV} (ht : env L t = .own o n) (hS : S[o]? = some (some ob)) (hn : ob.xs.length = n) (hps : toPVs ob.xs = some ps)
    (h : R (env ((t, .pv (.sl ps)) :: L)) (S.set o none)) : Bd k0 (env L) S R := by
  by_cases h0 : n = 0
  · subst h0
    have hx : ob.xs = [] := List.length_eq_zero_iff.1 hn
    rw [hx] at hps
    simp [toPVs] at hps
    subst hps
    refine Bd.then (Bd.open t (R := fun E S' => ∃ cap, E = env ((t, .sub o 0 0 cap) :: L) ∧ S' = S) ht fun cap _ _ => ⟨cap, rfl, rfl⟩) ?_
    rintro E2 S2 ⟨cap, hE, hS2⟩
    rw [hE, hS2]; clear hE hS2 E2 S2
    refine Bd.then (Bd.sub0 t (R := fun E S' => E = env ((t, .pv (.sl [])) :: L) ∧ S' = S) (by rw [env_cons, if_pos rfl]) ⟨by rw [env_dup], rfl⟩) ?_
    rintro E2 S2 ⟨hE, hS2⟩
    rw [hE, hS2]; clear hE hS2 E2 S2
    exact Bd.drop o h
  · have hne : ob.xs ≠ [] := fun e => by rw [e] at hn; simp at hn; omega
    exact Bd.pure t o ob.ty ob.sz (xs := ob.xs) (by rw [ht, ownD_ne hne, hn]) (by rw [hS, obD_ne hne]) hps h
theorem Bd.pureOB {k0 : Nat} {L : List (Nat × D)} {S : Store} {R : Env → Store → Prop} (t o : Nat) {n : Nat} {ob : Ob} {ps : List PV} (ht : env L t = .own o n) (hS : S[o]? = some (some ob)) (hn : ob.xs.length = n) (hps : toPVs ob.xs = some ps)
    (h : Bd k0 (env ((t, .pv (.sl ps)) :: L)) (S.set o none) R) : Bd k0 (env L) S R :=
  Bd.then (Bd.pureO t o (R := fun E S' => E = env ((t, .pv (.sl ps)) :: L) ∧ S' = S.set o none) ht hS hn hps ⟨rfl, rfl⟩) (by rintro E2 S2 ⟨hE, hS2⟩; rw [hE, hS2]; exact h)
end Go.V
namespace Go.V
theorem mpO_I {ty sz : Nat} {m : D → D} (xs : List Int) : (some (⟨ty, sz, dI xs⟩ : Ob)).map (mpOb m) = some ⟨ty, sz, dI xs⟩ := by
  rw [Option.map_some, mpOb_pvs (dI_mp xs m)]
theorem mpO_P {ty sz : Nat} {m : D → D} (xs : List (Int × Int)) : (some (⟨ty, sz, dP xs⟩ : Ob)).map (mpOb m) = some ⟨ty, sz, dP xs⟩ := by
  rw [Option.map_some, mpOb_pvs (dP_mp xs m)]
end Go.V
namespace Go.V
theorem there_contains {xs : List (Int × Int)} {k : Int} (h : goodKeys (keysR xs) = true) : (keysR xs).contains k = thereR xs k := by
  rw [contains_below h, thereR, atR]
  by_cases h1 : upTo (keysR xs) (k - 1) < xs.length
  · rw [nth_keys h1, List.length_map]
  · simp [h1]
def valR (xs : List (Int × Int)) (k : Int) : PV := if goodR xs && thereR xs k then .tup [i64 (nth xs (atR xs k)).2, .bool true] else .tup [i64 0, .bool false]
theorem goodR_keys {xs : List (Int × Int)} (h : goodR xs = true) : goodKeys (keysR xs) = true := by
  simp only [goodR, Bool.and_eq_true] at h; exact h.2.2
theorem goodR_len {xs : List (Int × Int)} (h : goodR xs = true) : xs.length ≤ 24 := by
  simp only [goodR, Bool.and_eq_true, decide_eq_true_eq] at h; exact h.2.1
theorem thereR_lt {xs : List (Int × Int)} {k : Int} (h : thereR xs k = true) : atR xs k < xs.length ∧ (nth xs (atR xs k)).1 = k := by
  simpa [thereR] using h
theorem bdP.keys {n : Int} {xs : List (Int × Int)} (h : bdP n xs) : bdI n (keysR xs) := fun j hj => by
  simp at hj
  rw [nth_keys hj]
  have := h _ (nth_mem hj)
  omega
/-- what FnValueIn comes to -/
theorem val_each {xs : List (Int × Int)} (h : goodR xs = true) {i : Nat} (hi : i < xs.length) : valR xs (nth xs i).1 = .tup [i64 (nth xs i).2, .bool true] := by
  have hk := goodR_keys h
  have hr := good_rising hk
  have e : atR xs (nth xs i).1 = i := by
    have := upTo_pred hk (i := i) (by simpa using hi)
    rwa [nth_keys hi] at this
  have e2 : thereR xs (nth xs i).1 = true := by
    simp [thereR, e, hi]
  rw [valR, h, e2, e]
  rfl
end Go.V
namespace Go.V
theorem res_own {E : Env} {S : Store} {t o : Nat} {xs : List D} (h : E t = ownD o xs) : resAll E S [.t t] = some (ownD o xs) := by
  cases xs <;> simp [resAll, resDs, resD, h, ownD, isTupD]
end Go.V
namespace Go.V
theorem bdP.le {n m : Int} {xs : List (Int × Int)} (h : bdP n xs) (hn : n ≤ m) : bdP m xs := fun x hx => by
  have := h x hx; omega
end Go.V
namespace Go.V
theorem valR_good {xs : List (Int × Int)} (h : goodR xs = true) (k : Int) : valR xs k = .tup [i64 (if thereR xs k then (nth xs (atR xs k)).2 else 0), .bool (thereR xs k)] := by
  rw [valR, h, Bool.true_and]
  cases thereR xs k <;> rfl
theorem valR_bad {xs : List (Int × Int)} (h : goodR xs = false) (k : Int) : valR xs k = .tup [i64 0, .bool false] := by
  rw [valR, h]; rfl
end Go.V
namespace Go.V
theorem q_quo_to {P : Program} {sf : SM} {r : RT} {L : List (Nat × D)} {S : Store} {K : Env → Store → Prop} {t : Nat} {x y : Opd} {a b : Int} (c : Int) (hx : ev (env L) x = .pv (.int .i64 a)) (hy : ev (env L) y = .pv (.int .i64 b)) (hr : 0 ≤ a ∧ 0 < b) (e : a / b = c) (hc : inR .i64 c) (h : RG P sf r (env ((t, .pv (.int .i64 c)) :: L)) S K) :
    RG P sf (.op ⟨some t, none, .bin .quo x y⟩ r) (env L) S K := q_quo hx hy ⟨hr.1, hr.2, e ▸ hc⟩ (e ▸ h)
end Go.V
namespace Go.V
abbrev halfR (xs : List (Int × Int)) : Nat := (xs.length + 1) / 2
def splA (xs : List (Int × Int)) : List (Int × Int) := if goodR xs then xs.take (halfR xs) else []
def splB (xs : List (Int × Int)) : List (Int × Int) := if goodR xs then xs.drop (halfR xs) else []
end Go.V
namespace Go.V
def GrowS (P : Program) (f : FuncId) (ty sz n : Nat) : Prop := CallS P f [.nils, .pv (i64 n)] [] (fun d S => (n = 0 ∧ d = .nils ∧ S = []) ∨ (0 < n ∧ d = .own 0 0 ∧ S = [some ⟨ty, sz, []⟩]))
theorem q_grow {P : Program} {sf : SM} {r : RT} {L : List (Nat × D)} {S : Store} {K : Env → Store → Prop} {t : Nat} {f : FuncId} {ty sz n : Nat} {args' : List Opd} (hm : cOK sf = true) (hc : GrowS P f ty sz n) (ha : args'.map (ev (env L)) = [.nils, .pv (i64 n)]) (hs : sOK sf S) (hs2 : sOK sf (S ++ [some ⟨ty, sz, []⟩]))
    (h0 : n = 0 → RG P sf r (env ((t, .nils) :: L)) S K) (h1 : 0 < n → RG P sf r (env ((t, .own S.length 0) :: L)) (S ++ [some ⟨ty, sz, []⟩]) K) : RG P sf (.op ⟨some t, none, .call f args'⟩ r) (env L) S K := by
  refine q_call hm ?_
  rw [ha]
  refine CallS.frame (c1 := fun d S => (n = 0 ∧ d = .nils ∧ S = []) ∨ (0 < n ∧ d = .own 0 0 ∧ S = [some ⟨ty, sz, []⟩])) [] (by simp) (by simp) hc ?_
  rintro d S1 (⟨hn, rfl, rfl⟩ | ⟨hn, rfl, rfl⟩)
  · rw [mergeS_nil]
    exact ⟨by simpa using hs, by simpa [mpD, mpS, mp1, mp0, fwd] using h0 hn⟩
  · rw [mergeS_nil]
    exact ⟨by simpa [mpOb] using hs2, by simpa [mpD, mpS, mp1, mp0, fwd, extO, mpOb] using h1 hn⟩
theorem q_add_to {P : Program} {sf : SM} {r : RT} {L : List (Nat × D)} {S : Store} {K : Env → Store → Prop} {t : Nat} {x y : Opd} {k : IntKind} {a b : Int} (c : Int) (hx : ev (env L) x = .pv (.int k a)) (hy : ev (env L) y = .pv (.int k b)) (e : a + b = c) (hr : inR k c) (h : RG P sf r (env ((t, .pv (.int k c)) :: L)) S K) :
    RG P sf (.op ⟨some t, none, .bin .add x y⟩ r) (env L) S K := q_add hx hy (e ▸ hr) (e ▸ h)
theorem flat_step {α : Type} {xss : List (List α)} {i : Nat} (h : i < xss.length) : (xss.take (i + 1)).flatten = (xss.take i).flatten ++ nth xss i := by
  rw [take_succ_nth h]; simp
theorem flat_le {α : Type} (xss : List (List α)) (i : Nat) : (xss.take i).flatten.length ≤ xss.flatten.length := by
  have : xss.flatten = (xss.take i).flatten ++ (xss.drop i).flatten := by rw [← List.flatten_append, List.take_append_drop]
  rw [this, List.length_append]; omega
end Go.V
namespace Go.V
/-- what slices.Concat gathers: nil while nothing may come, else an own slice -/
def gathD (z : Bool) (n : Nat) : D := if z then .nils else .own 0 n
def gathO (z : Bool) (ty sz : Nat) (xs : List D) : Store := if z then [] else [some ⟨ty, sz, xs⟩]
end Go.V
namespace Go.V
theorem q_app_om {P : Program} {sf : SM} {r : RT} {L : List (Nat × D)} {S : Store} {K : Env → Store → Prop} {t : Nat} {α : Type} {g : α → D} {ty sz bytes : Nat} {x y : Opd} {xs ys : List α} {o : Nat} (hx : ev (env L) x = .own o xs.length) (hy : elemsOf S sz (ev (env L) y) = some (ys.map g)) (hc : (ys.map g).all cellOK = true) (hS : S[o]? = some (some ⟨ty, sz, xs.map g⟩))
    (hb : (xs.length + ys.length) * bytes ≤ 140737488355328 ∧ xs.length + ys.length ≤ maxLen) (hs : sOK sf S) (hs1 : sOK sf (S.set o none ++ [some ⟨ty, sz, (xs ++ ys).map g⟩]))
    (h0 : ys = [] → RG P sf r (env ((t, .own o xs.length) :: L)) S K)
    (h1 : ys ≠ [] → RG P sf r (env ((t, .own S.length (xs ++ ys).length) :: L)) (S.set o none ++ [some ⟨ty, sz, (xs ++ ys).map g⟩]) K) : RG P sf (.op ⟨some t, none, .app ty sz bytes x y⟩ r) (env L) S K := by
  refine q_app_o hx hy hc (fun e => ⟨hs, h0 (List.map_eq_nil_iff.1 e)⟩) hS rfl rfl (by simp) fun e => ⟨by simpa using hb, ?_, ?_⟩
  · simpa [List.map_append] using hs1
  · have := h1 fun e2 => e (by rw [e2]; rfl)
    simpa [List.map_append] using this
end Go.V
namespace Go.V
def joinOK (xs ys : List (Int × Int)) : Bool := goodR xs && goodR ys && goodR (xs ++ ys)
def joinR (xs ys : List (Int × Int)) : PV := if joinOK xs ys then .tup [prs (xs ++ ys), .bool true] else .tup [prs [], .bool false]
theorem joinR_t {xs ys : List (Int × Int)} (h : joinOK xs ys = true) : joinR xs ys = .tup [prs (xs ++ ys), .bool true] := by rw [joinR, if_pos h]
theorem joinR_f {xs ys : List (Int × Int)} (h : joinOK xs ys = false) : joinR xs ys = .tup [prs [], .bool false] := by rw [joinR, if_neg (by simp [h])]
end Go.V

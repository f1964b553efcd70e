/- A part of the proofs about laws of the page tree (see the text that bears the law): a small language of steps, its rules, and what the functions of the program return. -/
import Derived.Test.YtgblkaealpggdaaLC
set_option linter.all false
set_option linter.unusedVariables false
set_option linter.unusedSimpArgs false
namespace Go.V
/-! ## plain words and laws -/
abbrev dI (ks : List Int) : List D := ks.map fun k => D.pv (i64 k)
abbrev pairP (x : Int × Int) : PV := .agg [i64 x.1, i64 x.2]
abbrev dP (xs : List (Int × Int)) : List D := xs.map fun x => D.pv (pairP x)
abbrev prs (xs : List (Int × Int)) : PV := .sl (xs.map pairP)
theorem toPVs_m {α : Type} {f : α → PV} (h : ∀ a, toPV (.pv (f a)) = some (f a)) : ∀ xs : List α, toPVs (xs.map fun a => D.pv (f a)) = some (xs.map f)
  | [] => rfl
  | a :: r => by simp only [List.map_cons, toPVs, h, toPVs_m h r]
theorem toPVs_dI (ks : List Int) : toPVs (dI ks) = some (ks.map (.int .i64)) := toPVs_m (f := fun k => i64 k) (fun _ => rfl) ks
theorem toPVs_dP (xs : List (Int × Int)) : toPVs (dP xs) = some (xs.map pairP) := toPVs_m (f := pairP) (fun _ => rfl) xs
theorem toR_m {α : Type} {f : α → PV} {n : Nat} {S : Store} (h : ∀ a, toR n S (.pv (f a)) = some (f a)) : ∀ xs : List α, optMap (toR n S) (xs.map fun a => D.pv (f a)) = some (xs.map f)
  | [] => rfl
  | a :: r => by simp only [List.map_cons, optMap, h, toR_m h r]
theorem toR_dI (S : Store) (ks : List Int) : optMap (toR 4 S) (dI ks) = some (ks.map (.int .i64)) := toR_m (f := fun k => i64 k) (fun _ => rfl) ks
theorem elems_m {α : Type} {f : α → PV} {S : Store} {sz : Nat} (h : ∀ a, (f a).nc = sz) (xs : List α) : elemsOf S sz (.pv (.sl (xs.map f))) = some (xs.map fun a => D.pv (f a)) := by
  simp only [elemsOf]
  rw [if_pos (by rw [List.all_eq_true]; intro x hx; obtain ⟨a, _, rfl⟩ := List.mem_map.1 hx; simp [h])]
  simp [List.map_map, Function.comp_def]
theorem elems_I {S : Store} (ks : List Int) : elemsOf S 1 (.pv (ints ks)) = some (dI ks) := elems_m (f := fun k => i64 k) (fun _ => rfl) ks
theorem elems_P {S : Store} (xs : List (Int × Int)) : elemsOf S 2 (.pv (prs xs)) = some (dP xs) := elems_m (f := pairP) (fun _ => rfl) xs
theorem cell_I (ks : List Int) : (dI ks).all cellOK = true := by
  rw [List.all_eq_true]; intro x hx; obtain ⟨a, _, rfl⟩ := List.mem_map.1 hx; rfl
theorem cell_P (xs : List (Int × Int)) : (dP xs).all cellOK = true := by
  rw [List.all_eq_true]; intro x hx; obtain ⟨a, _, rfl⟩ := List.mem_map.1 hx; rfl
section q
variable {P : Program} {sf : SM} {r : RT} {L : List (Nat × D)} {S : Store} {K : Env → Store → Prop} {t : Nat} {α : Type} {f : α → D}
theorem q_app_zm {ty sz bytes : Nat} {x y : Opd} {ys : List α} (hx : ev (env L) x = .nils) (hy : elemsOf S sz (ev (env L) y) = some (ys.map f)) (hc : (ys.map f).all cellOK = true) (hb : ys.length * bytes ≤ 140737488355328 ∧ ys.length ≤ 9223372036854775807)
    (hs : sOK sf (S ++ [obD ty sz (ys.map f)])) (h : RG P sf r (env ((t, ownD S.length (ys.map f)) :: L)) (S ++ [obD ty sz (ys.map f)]) K) : RG P sf (.op ⟨some t, none, .app ty sz bytes x y⟩ r) (env L) S K :=
  q_app_z hx hy hc ⟨by simpa using hb.1, by simpa [maxLen] using hb.2⟩ ⟨hs, h⟩
theorem q_app_dm {ty sz bytes : Nat} {x y : Opd} {xs ys : List α} {o : Nat} (hx : ev (env L) x = ownD o (xs.map f)) (hy : elemsOf S sz (ev (env L) y) = some (ys.map f)) (hc : (ys.map f).all cellOK = true) (hS : S[o]? = some (obD ty sz (xs.map f))) (hb : (xs.length + ys.length) * bytes ≤ 140737488355328 ∧ xs.length + ys.length ≤ 9223372036854775807)
    (hs : sOK sf (S.set o none ++ [obD ty sz ((xs ++ ys).map f)])) (h : RG P sf r (env ((t, ownD S.length ((xs ++ ys).map f)) :: L)) (S.set o none ++ [obD ty sz ((xs ++ ys).map f)]) K) : RG P sf (.op ⟨some t, none, .app ty sz bytes x y⟩ r) (env L) S K := by
  refine q_app_d hx hy hc hS ⟨by simpa using hb.1, by simpa [maxLen] using hb.2⟩ ?_
  rw [← List.map_append]
  exact ⟨hs, h⟩
theorem q_len_dm {x : Opd} {xs : List α} {o : Nat} (hx : ev (env L) x = ownD o (xs.map f)) (h : RG P sf r (env ((t, .pv (.int .i64 xs.length)) :: L)) S K) : RG P sf (.op ⟨some t, none, .len x⟩ r) (env L) S K := q_len_d hx (by simpa using h)
theorem q_idx_dm {ty sz : Nat} {x i : Opd} {o : Nat} {xs : List α} {k : IntKind} {n : Int} (hx : ev (env L) x = ownD o (xs.map f)) (hi : ev (env L) i = .pv (.int k n)) (h0 : 0 ≤ n) (h1 : n < xs.length) (hS : (fs sf S)[o]? = some (obD ty sz (xs.map f)))
    (h : RG P sf r (env ((t, .ptr o n.toNat 0) :: L)) S K) : RG P sf (.op ⟨some t, none, .idx sz x i⟩ r) (env L) S K := q_idx_d hx hi h0 (by simpa using h1) hS h
theorem q_load_d [Inhabited α] {ty sz : Nat} {x : Opd} {o i : Nat} {xs : List α} {d : D} (hx : ev (env L) x = .ptr o i 0) (hS : (fs sf S)[o]? = some (obD ty 1 (xs.map f))) (hi : i < xs.length) (hsz : sz = 1) (hc : cellsD (f (nth xs i)) = some [d]) (h1 : isOne d = true)
    (h : RG P sf r (env ((t, d) :: L)) S K) : RG P sf (.op ⟨some t, none, .load sz false x⟩ r) (env L) S K := by
  subst hsz
  have hne : xs.map f ≠ [] := fun e => by have := congrArg List.length e; simp at this; subst this; simp at hi
  rw [obD_ne hne] at hS
  have hy : (xs.map f)[i]? = some (f (nth xs i)) := by rw [List.getElem?_map, List.getElem?_eq_getElem hi, nth_eq hi]; rfl
  exact q_load_r hx hS hy hc rfl rfl h1 h
end q
theorem all_false {xs : List Int} {q : Int → Bool} (i : Nat) (h : i < xs.length) (hq : q (nth xs i) = false) : xs.all q = false := by
  rw [List.all_eq_false]
  refine ⟨nth xs i, ?_, by rw [hq]; simp⟩
  rw [nth_eq h]
  exact List.getElem_mem h
theorem all_true {xs : List Int} {q : Int → Bool} (h : ∀ j, j < xs.length → q (nth xs j) = true) : xs.all q = true := by
  rw [List.all_eq_true]
  intro x hx
  obtain ⟨j, hj, rfl⟩ := List.getElem_of_mem hx
  have := h j hj
  rwa [nth_eq hj] at this
theorem has_true {xs : List Int} {k : Int} (i : Nat) (h : i < xs.length) (e : nth xs i = k) : xs.contains k = true := by
  rw [List.contains_iff_mem, ← e, nth_eq h]
  exact List.getElem_mem h
theorem has_false {xs : List Int} {k : Int} (h : ∀ j, j < xs.length → nth xs j ≠ k) : xs.contains k = false := by
  cases hc : xs.contains k with
  | false => rfl
  | true =>
    rw [List.contains_iff_mem] at hc
    obtain ⟨j, hj, e⟩ := List.getElem_of_mem hc
    exact absurd (by rw [nth_eq hj]; exact e) (h j hj)
def rising (xs : List Int) : Bool := (List.range (xs.length - 1)).all fun j => decide (nth xs j < nth xs (j + 1))
def goodKeys (xs : List Int) : Bool := rising xs && xs.all fun k => decide (0 ≤ k) && decide (k ≤ 99)
theorem rising_iff {xs : List Int} : rising xs = true ↔ ∀ j, j + 1 < xs.length → nth xs j < nth xs (j + 1) := by
  unfold rising
  rw [List.all_eq_true]
  constructor
  · intro h j hj; simpa using h j (by simp; omega)
  · intro h j hj; simp at hj; simpa using h j (by omega)
theorem good_false {xs : List Int} (i : Nat) (h0 : 1 ≤ i) (h : i < xs.length) (h2 : nth xs i ≤ nth xs ((i : Int) - 1).toNat) : goodKeys xs = false := by
  have : rising xs = false := by
    cases hr : rising xs with
    | false => rfl
    | true =>
      have := rising_iff.1 hr (i - 1) (by omega)
      rw [show i - 1 + 1 = i by omega] at this
      rw [show ((i : Int) - 1).toNat = i - 1 by omega] at h2
      omega
  simp [goodKeys, this]
theorem good_all {xs : List Int} (h : ∀ j, j + 1 < xs.length → nth xs j < nth xs (j + 1)) : goodKeys xs = xs.all fun k => decide (0 ≤ k) && decide (k ≤ 99) := by
  simp [goodKeys, rising_iff.2 h]
theorem good_false2 {xs : List Int} (i : Nat) (h : i < xs.length) (hq : (decide (0 ≤ nth xs i) && decide (nth xs i ≤ 99)) = false) : goodKeys xs = false := by
  simp only [goodKeys, all_false (q := fun k => decide (0 ≤ k) && decide (k ≤ 99)) i h hq, Bool.and_false]
theorem good_true {xs : List Int} (h : ∀ j, j < xs.length → 0 ≤ nth xs j ∧ nth xs j ≤ 99) (h2 : ∀ j, j + 1 < xs.length → nth xs j < nth xs (j + 1)) : goodKeys xs = true := by
  rw [good_all h2]
  exact all_true fun j hj => by have := h j hj; simp [this]
def upTo (xs : List Int) (k : Int) : Nat := (xs.takeWhile fun x => decide (x ≤ k)).length
theorem upTo_eq : ∀ {xs : List Int} {k : Int} {i : Nat}, i ≤ xs.length → (∀ j, j < i → nth xs j ≤ k) → (i < xs.length → k < nth xs i) → upTo xs k = i
  | [], k, i, h, _, _ => by simp at h; subst h; rfl
  | x :: xs, k, 0, h, h1, h2 => by
    have := h2 (by simp)
    simp [nth] at this
    simp [upTo, show ¬ x ≤ k by omega]
  | x :: xs, k, i + 1, h, h1, h2 => by
    have h0 := h1 0 (by omega)
    simp [nth] at h0
    have ih := upTo_eq (xs := xs) (k := k) (i := i) (by simpa using h) (fun j hj => by have := h1 (j + 1) (by omega); simpa [nth] using this) (fun hl => by have := h2 (by simpa using hl); simpa [nth] using this)
    simp only [upTo] at ih ⊢
    simp [h0, ih]
theorem rising_le {xs : List Int} (hr : rising xs = true) : ∀ {a b : Nat}, a ≤ b → b < xs.length → nth xs a ≤ nth xs b := by
  intro a b hab hb
  induction b with
  | zero => have : a = 0 := by omega
            subst this; omega
  | succ b ih =>
    by_cases e : a = b + 1
    · subst e; omega
    · have := ih (by omega) (by omega)
      have := rising_iff.1 hr b hb
      omega
theorem good_rising {xs : List Int} (h : goodKeys xs = true) : rising xs = true := by
  simp only [goodKeys, Bool.and_eq_true] at h; exact h.1
abbrev u8s (bs : List Int) : PV := .sl (bs.map (.int .u8))
def rdr (ty : Nat) (bs : List Int) (p : Int) : Ob := ⟨ty, 2, [.agg [.pv (u8s bs), .pv (i64 p)]]⟩
def isU8 (bs : List Int) : Prop := ∀ x ∈ bs, 0 ≤ x ∧ x ≤ 255
theorem isU8.nth {bs : List Int} (h : isU8 bs) {i : Nat} (hi : i < bs.length) : 0 ≤ nth bs i ∧ nth bs i ≤ 255 := by
  rw [nth_eq hi]; exact h _ (List.getElem_mem hi)
theorem isU8.take {bs : List Int} (h : isU8 bs) (n : Nat) : isU8 (bs.take n) := fun x hx => h x (List.mem_of_mem_take hx)
def nodupI (xs : List Int) : Bool := (List.range xs.length).all fun j => !((xs.take j).contains (nth xs j))
theorem nodup_true {xs : List Int} (h : ∀ j, j < xs.length → (xs.take j).contains (nth xs j) = false) : nodupI xs = true := by
  unfold nodupI
  rw [List.all_eq_true]
  intro j hj
  rw [h j (by simpa using hj)]; rfl
theorem nodup_false {xs : List Int} (i : Nat) (hi : i < xs.length) (h : (xs.take i).contains (nth xs i) = true) : nodupI xs = false := by
  unfold nodupI
  rw [List.all_eq_false]
  exact ⟨i, by simpa using hi, by rw [h]; simp⟩
def goodInner (ks cs : List Int) : Bool := nodupI cs && (goodKeys ks && (decide ((1 : Int) ≤ ks.length) && decide ((ks.length : Int) ≤ 5)) && decide ((cs.length : Int) = ks.length + 1) && cs.all fun k => decide (0 ≤ k) && decide (k ≤ 15))
abbrev innP (ks cs : List Int) : PV := .agg [ints ks, ints cs]
theorem upTo_le (ks : List Int) (k : Int) : upTo ks k ≤ ks.length := (List.takeWhile_sublist _).length_le
def boolsD (n : Nat) (f : Nat → Bool) : List D := (List.range n).map fun v => .pv (.bool (f v))
theorem nth_mem {α : Type} [Inhabited α] {xs : List α} {i : Nat} (h : i < xs.length) : nth xs i ∈ xs := by rw [nth_eq h]; exact List.getElem_mem h
end Go.V
namespace Go.V
theorem upTo_lt {xs : List Int} {k : Int} : ∀ {i : Nat}, i < upTo xs k → nth xs i ≤ k := by
  induction xs with
  | nil => intro i h; simp [upTo] at h
  | cons x xs ih =>
    intro i h
    by_cases hx : x ≤ k
    · have e : upTo (x :: xs) k = upTo xs k + 1 := by simp [upTo, hx]
      cases i with
      | zero => exact hx
      | succ i => exact ih (by omega)
    · have e : upTo (x :: xs) k = 0 := by simp [upTo, hx]
      omega
theorem upTo_at {xs : List Int} {k : Int} (h : upTo xs k < xs.length) : k < nth xs (upTo xs k) := by
  induction xs with
  | nil => simp at h
  | cons x xs ih =>
    by_cases hx : x ≤ k
    · have e : upTo (x :: xs) k = upTo xs k + 1 := by simp [upTo, hx]
      rw [e] at h ⊢
      exact ih (by simpa using h)
    · have e : upTo (x :: xs) k = 0 := by simp [upTo, hx]
      rw [e]; simp [nth]; omega
end Go.V
namespace Go.V
theorem goodKeys_mem {ks : List Int} (h : goodKeys ks = true) {j : Nat} (hj : j < ks.length) : 0 ≤ nth ks j ∧ nth ks j ≤ 99 := by
  simp only [goodKeys, Bool.and_eq_true, List.all_eq_true] at h
  have := h.2 (nth ks j) (nth_mem hj)
  simpa using this
end Go.V

namespace Go.V
/-! readers -/
def RdS (P : Program) (f : FuncId) (ty : Nat) (bs : List Int) (p : Int) (args : List PV) (Q : PV → Int → Prop) : Prop :=
  CallS P f (.ptr 0 0 0 :: args.map .pv) [some (rdr ty bs p)] (fun d S => ∃ x q T, d = ofPV x ∧ Q x q ∧ S = some (rdr ty bs q) :: T)

theorem mpD_pv (m : D → D) (p : PV) : mpD m (.pv p) = .pv p := by cases p <;> rfl
theorem mpD_ofPV (m : D → D) (p : PV) : mpD m (ofPV p) = ofPV p := by
  cases p with
  | tup ps =>
    show D.tup ((ps.map .pv).map (mpS m)) = .tup (ps.map .pv)
    rw [List.map_map]
    exact congrArg D.tup (List.map_congr_left fun x _ => by cases x <;> rfl)
  | _ => rfl
theorem mpOb_rdr (m : D → D) (ty : Nat) (bs : List Int) (p : Int) : mpOb m (rdr ty bs p) = rdr ty bs p := rfl
theorem posOf_single (o x : Nat) : posOf [o] x = if o = x then some 0 else none := by
  simp only [posOf]
  split <;> rfl
theorem mergeS_one {o : Nat} {S S1 : Store} (ho : o < S.length) : mergeS [o] S S1 = S.set o ((S1.getD 0 none).map (mpOb (fwd [o] S.length))) ++ (S1.drop 1).map (Option.map (mpOb (fwd [o] S.length))) := by
  unfold mergeS
  congr 1
  apply List.ext_getElem?
  intro x
  rw [List.getElem?_map, List.getElem?_set]
  by_cases hx : x < S.length
  · rw [List.getElem?_range hx]
    simp only [Option.map_some, posOf_single]
    by_cases e : o = x
    · subst e; simp [hx]
    · simp [e, List.getElem?_eq_getElem hx]
  · rw [List.getElem?_eq_none (by simp; omega)]
    have : o ≠ x := by omega
    simp [this, List.getElem?_eq_none (Nat.le_of_not_lt hx)]
theorem CallS.bd {P : Program} {f : FuncId} {ds : List D} {S : Store} {c c0 : D → Store → Prop} (h : CallS P f ds S c0) (hb : ∀ d S', c0 d S' → Bd S.length (env [(0, d)]) S' (fun E S'' => c (E 0) S'')) : CallS P f ds S c := fun ρ I w vs hs hv =>
  (h ρ I w vs hs hv).mono fun e w' ⟨u, d, ρ', I', S', h1, h2, h3, h4, h5⟩ => by
    have hk : S.length ≤ S'.length := by
      have := h5.kept
      rw [hs.len] at this
      rw [← h3.len]; simpa using this
    obtain ⟨E', S'', ρ'', I'', k1, k2, k3, k4⟩ := hb d S' h2 ρ' I' w' { tmps := #[u], defers := [] } h3 (fun t => by
      rw [env_cons]
      split
      · rename_i e; subst e; exact h4
      · exact rd_any) hk
    exact ⟨u, E' 0, ρ'', I'', S'', h1, k1, k2, k3 0, h5.trans k4⟩
theorem RdS.trim {P : Program} {f : FuncId} {ty : Nat} {bs : List Int} {p : Int} {args : List PV} {Q : PV → Int → Prop} (h : RdS P f ty bs p args Q) :
    CallS P f (.ptr 0 0 0 :: args.map .pv) [some (rdr ty bs p)] (fun d S => ∃ x q, d = ofPV x ∧ Q x q ∧ S = [some (rdr ty bs q)]) := by
  refine CallS.bd h ?_
  rintro d S' ⟨x, q, T, rfl, hq, rfl⟩
  refine Bd.renL [0] (fun i hi => by have e : i = 0 := (by simp at hi; omega); subst e; rfl) (by simp) [(0, ofPV x)] ⟨mpD_ofPV _ _, trivial⟩ rfl ?_
  exact ⟨x, q, rfl, hq, rfl⟩
theorem RdS.at {P : Program} {f : FuncId} {ty : Nat} {bs : List Int} {p : Int} {args : List PV} {Q : PV → Int → Prop} (h : RdS P f ty bs p args Q) {S : Store} {o : Nat} (hS : S[o]? = some (some (rdr ty bs p))) :
    CallS P f (.ptr o 0 0 :: args.map .pv) S (fun d S' => ∃ x q, d = ofPV x ∧ Q x q ∧ S' = S.set o (some (rdr ty bs q))) := by
  have ho : o < S.length := (List.getElem?_eq_some_iff.1 hS).1
  have e1 : subS [o] S = [some (rdr ty bs p)] := by simp [subS, List.getD_eq_getElem?_getD, hS, mpOb_rdr]
  have e2 : (.ptr o 0 0 :: args.map D.pv).map (mpD (inv [o])) = .ptr 0 0 0 :: args.map .pv := by
    simp only [List.map_cons, List.map_map]
    rw [show mpD (inv [o]) (D.ptr o 0 0) = .ptr 0 0 0 by simp [mpD, mpS, mp1, mp0, inv, posOf_single]]
    exact congrArg (D.ptr 0 0 0 :: ·) (List.map_congr_left fun x _ => mpD_pv _ _)
  refine CallS.frame (c1 := fun d S => ∃ x q, d = ofPV x ∧ Q x q ∧ S = [some (rdr ty bs q)]) [o] (by simp) (by simpa using ⟨_, hS⟩) ?_ ?_
  · rw [e1, e2]; exact h.trim
  · rintro d S1 ⟨x, q, rfl, hq, rfl⟩
    rw [mergeS_one ho]
    exact ⟨x, q, mpD_ofPV _ _, hq, by simp [mpOb_rdr]⟩
theorem obD_m {α : Type} {f : α → PV} {ty sz : Nat} {m : D → D} (xs : List α) (h : ∀ a, mpS m (.pv (f a)) = .pv (f a)) : (obD ty sz (xs.map fun a => D.pv (f a))).map (mpOb m) = obD ty sz (xs.map fun a => D.pv (f a)) := by
  cases xs with
  | nil => rfl
  | cons a r =>
    simp only [List.map_cons, obD, Option.map_some, mpOb, h]
    congr 3
    rw [List.map_map]
    exact List.map_congr_left fun x _ => h x
theorem obD_mI {ty sz : Nat} {m : D → D} (xs : List Int) : (obD ty sz (dI xs)).map (mpOb m) = obD ty sz (dI xs) := obD_m (f := fun k => i64 k) xs fun _ => rfl
theorem obD_mP {ty sz : Nat} {m : D → D} (xs : List (Int × Int)) : (obD ty sz (dP xs)).map (mpOb m) = obD ty sz (dP xs) := obD_m (f := pairP) xs fun _ => rfl
section q
variable {P : Program} {sf : SM} {r : RT} {L : List (Nat × D)} {S : Store} {K : Env → Store → Prop} {t : Nat}
theorem q_rd {f : FuncId} {ty : Nat} {bs : List Int} {p : Int} {args' : List Opd} {args : List PV} {o : Nat} {Q : PV → Int → Prop} (hm : cOK sf = true) (hc : RdS P f ty bs p args Q) (ha : args'.map (ev (env L)) = .ptr o 0 0 :: args.map .pv) (hS : S[o]? = some (some (rdr ty bs p)))
    (hs : ∀ q, sOK sf (S.set o (some (rdr ty bs q)))) (h : ∀ x q, Q x q → RG P sf r (env ((t, ofPV x) :: L)) (S.set o (some (rdr ty bs q))) K) : RG P sf (.op ⟨some t, none, .call f args'⟩ r) (env L) S K := by
  refine q_call hm ?_
  rw [ha]
  refine (hc.at hS).mono ?_
  rintro d S' ⟨x, q, rfl, hq, rfl⟩
  exact ⟨hs q, h x q hq⟩
end q

theorem mergeS_nil {S S1 : Store} : mergeS [] S S1 = S ++ S1.map (Option.map (mpOb (fwd [] S.length))) := by
  unfold mergeS
  congr 1
  apply List.ext_getElem?
  intro x
  rw [List.getElem?_map]
  by_cases hx : x < S.length
  · rw [List.getElem?_range hx]
    simp [posOf, List.getElem?_eq_getElem hx]
  · rw [List.getElem?_eq_none (by simp; omega), List.getElem?_eq_none (by omega)]; rfl
def NewRd (P : Program) (f : FuncId) (ty : Nat) (bs : List Int) : Prop :=
  CallS P f [.pv (u8s bs)] [] (fun d S => ∃ bs2, (isU8 bs2 ∧ bs2.length ≤ 2000) ∧ d = .ptr 0 0 0 ∧ S = [some (rdr ty bs2 0)])
section q
variable {P : Program} {sf : SM} {r : RT} {L : List (Nat × D)} {S : Store} {K : Env → Store → Prop} {t : Nat}
theorem q_newRd {f : FuncId} {ty : Nat} {bs : List Int} {args' : List Opd} (hm : cOK sf = true) (hc : NewRd P f ty bs) (ha : args'.map (ev (env L)) = [.pv (u8s bs)])
    (hs : ∀ bs2, sOK sf (S ++ [some (rdr ty bs2 0)])) (h : ∀ bs2, isU8 bs2 ∧ bs2.length ≤ 2000 → RG P sf r (env ((t, .ptr S.length 0 0) :: L)) (S ++ [some (rdr ty bs2 0)]) K) : RG P sf (.op ⟨some t, none, .call f args'⟩ r) (env L) S K := by
  refine q_call hm ?_
  rw [ha]
  refine CallS.frame (c1 := fun d S => ∃ bs2, (isU8 bs2 ∧ bs2.length ≤ 2000) ∧ d = .ptr 0 0 0 ∧ S = [some (rdr ty bs2 0)]) [] (by simp) (by simp) hc ?_
  rintro d S1 ⟨bs2, hb, rfl, rfl⟩
  rw [mergeS_nil]
  exact ⟨hs bs2, h bs2 hb⟩
end q

/-! fresh slices -/
def NewS (P : Program) (f : FuncId) (ty sz : Nat) (args : List PV) (xs : List D) : Prop :=
  CallS P f (args.map .pv) [] (fun d S => d = ownD 0 xs ∧ S = [obD ty sz xs])

def flatD : D → Bool
  | .pv p => flatS p
  | _ => false
theorem flatD_rdc {ρ ρ' : Rho} {I I' : Nat → Prop} {w : World} {vs : List Value} {d : D} (h : RDc ρ I w vs d) (hf : flatD d = true) : RDc ρ' I' w vs d := by
  cases d with
  | pv p =>
    have h' : RC I w vs p := h
    show RC I' w vs p
    cases p with
    | agg cs => exact flatA_rc h' (by simpa [flatD, flatS] using hf)
    | _ => exact flatP_rc h' (by simpa [flatD, flatS] using hf)
  | _ => simp [flatD] at hf
theorem toRs_nil {S : Store} : toRs 5 S [] = some [] := rfl
theorem toRs_cons {S : Store} {d : D} {p : PV} {ds : List D} {ps : List PV} (h : toR 5 S d = some p) (h2 : toRs 5 S ds = some ps) : toRs 5 S (d :: ds) = some (p :: ps) := by
  simp only [toRs, optMap] at h2 ⊢
  rw [h, h2]
theorem toR_own {n o ty sz : Nat} {S : Store} {xs : List D} {ps : List PV} (hS : S[o]? = some (obD ty sz xs)) (hps : optMap (toR n S) xs = some ps) : toR (n + 1) S (ownD o xs) = some (.sl ps) := by
  cases xs with
  | nil => simp [optMap] at hps; subst hps; rfl
  | cons x r =>
    have hS' : S[o]? = some (some ⟨ty, sz, x :: r⟩) := hS
    have e1 : toR (n + 1) S (ownD o (x :: r)) = (match S[o]? with
        | some (some ob) => if r.length + 1 ≤ ob.xs.length then (optMap (toR n S) (ob.xs.take (r.length + 1))).map .sl else none
        | _ => none) := rfl
    rw [e1, hS']
    dsimp only
    rw [if_pos (by simp), List.take_of_length_le (by simp), hps]
    rfl
theorem toR_I {n o ty sz : Nat} {S : Store} {xs : List Int} (hS : S[o]? = some (obD ty sz (dI xs))) : toR (n + 2) S (ownD o (dI xs)) = some (ints xs) :=
  toR_own (n := n + 1) hS (toR_m (f := fun k => i64 k) (fun _ => rfl) xs)
theorem toR_P {n o ty sz : Nat} {S : Store} {xs : List (Int × Int)} (hS : S[o]? = some (obD ty sz (dP xs))) : toR (n + 2) S (ownD o (dP xs)) = some (prs xs) :=
  toR_own (n := n + 1) hS (toR_m (f := pairP) (fun _ => rfl) xs)
theorem toR_agg2 {n : Nat} {S : Store} {a b : D} {p q : PV} (h1 : toR n S a = some p) (h2 : toR n S b = some q) : toR (n + 1) S (.agg [a, b]) = some (.agg [p, q]) := by
  show (optMap (toR n S) [a, b]).map PV.agg = _
  simp [optMap, h1, h2]
theorem toR_agg3 {n : Nat} {S : Store} {a b c : D} {p q r : PV} (h1 : toR n S a = some p) (h2 : toR n S b = some q) (h3 : toR n S c = some r) : toR (n + 1) S (.agg [a, b, c]) = some (.agg [p, q, r]) := by
  show (optMap (toR n S) [a, b, c]).map PV.agg = _
  simp [optMap, h1, h2, h3]

theorem NewS.lendAt {P : Program} {f : FuncId} {ty sz : Nat} {ps : List PV} {xs : List D} (h : NewS P f ty sz ps xs) (hfl : ∀ x ∈ xs, flatD x = true) {ds : List D} {S : Store} (hp : toRs 5 S ds = some ps) :
    CallS P f ds S (fun d S' => d = ownD S.length xs ∧ S' = S ++ [obD ty sz xs]) := fun ρ I w vs hs hv => by
  have hold : ∀ b, allI ρ I b → b < w.heap.size := fun b hb => by
    rcases hb with hb | ⟨o, sz, ho⟩
    · exact hs.old b hb
    · exact hs.lt o b sz ho
  have hst : St [] (allI ρ I) w [] := ⟨⟨hold, by simp⟩, rfl, by simp, by simp, by simp⟩
  refine (h [] (allI ρ I) w vs hst (RVs_RDs (toRs_sound hs hp hv))).mono ?_
  rintro e w1 ⟨u, d, ρ1, I1, S1, he, ⟨rfl, rfl⟩, hs1, hu, hx⟩
  have hsame : ∀ b, allI ρ I b → I1 b ∧ w1.heap[b]? = w.heap[b]? := hx.im
  have hS1len : ρ1.length = 1 := by rw [hs1.len]; rfl
  obtain ⟨r0, rfl⟩ : ∃ r0, ρ1 = [r0] := by
    match ρ1, hS1len with
    | [r0], _ => exact ⟨r0, rfl⟩
  have kp : Keeps ρ I w w1 := ⟨fun b hb => (hsame b (.inl hb)).2, fun o b sz ho cs E hc => ⟨cs, by rw [(hsame b (.inr ⟨o, sz, ho⟩)).2]; exact hc, rfl⟩⟩
  have hget : (ρ ++ [r0])[S.length]? = some r0 := by rw [List.getElem?_append_right (by rw [hs.len]; exact Nat.le_refl _)]; simp [hs.len]
  have hleft : ∀ (o b sz : Nat), ρ[o]? = some (some (b, sz)) → (ρ ++ [r0])[o]? = some (some (b, sz)) := fun o b sz ho => by
    rw [List.getElem?_append_left (List.getElem?_eq_some_iff.1 ho).1]; exact ho
  have hsplit : ∀ (o b sz : Nat), (ρ ++ [r0])[o]? = some (some (b, sz)) → ρ[o]? = some (some (b, sz)) ∨ (o = S.length ∧ r0 = some (b, sz)) := fun o b sz ho => by
    rw [List.getElem?_append] at ho
    split at ho
    · exact .inl ho
    · rename_i hge
      simp only [List.getElem?_singleton] at ho
      split at ho <;> simp at ho
      exact .inr ⟨by have := hs.len; omega, ho⟩
  have hSsplit : ∀ (o : Nat) (ob : Ob), (S ++ [obD ty sz xs])[o]? = some (some ob) → (o < S.length ∧ S[o]? = some (some ob)) ∨ (o = S.length ∧ obD ty sz xs = some ob) := fun o ob ho => by
    rw [List.getElem?_append] at ho
    split at ho
    · rename_i hlt; exact .inl ⟨hlt, ho⟩
    · simp only [List.getElem?_singleton] at ho
      split at ho <;> simp at ho
      exact .inr ⟨by omega, ho⟩
  have t0 : Tr ρ I w (ρ ++ [r0]) I w1 := ⟨fun b hb => ⟨hb, (hsame b (.inl hb)).2⟩, fun o b sz ho => ⟨hleft o b sz ho, fun cs E hc => ⟨cs, by rw [(hsame b (.inr ⟨o, sz, ho⟩)).2]; exact hc, rfl⟩⟩⟩
  have hnew : ∀ b sz', r0 = some (b, sz') → b < w1.heap.size := fun b sz' hr => hs1.lt 0 b sz' (by rw [hr]; rfl)
  have hobok : ∀ ob, obD ty sz xs = some ob → ob.xs = xs := fun ob ho => by
    cases xs with
    | nil => cases ho
    | cons x r => simp [obD] at ho; subst ho; rfl
  refine ⟨u, ownD S.length xs, ρ ++ [r0], I, S ++ [obD ty sz xs], he, ⟨rfl, rfl⟩, { old := ?_, obs := ?_, len := by simp [hs.len], lt := ?_, apart := ?_, inj := ?_ }, ?_, ?_⟩
  · exact fun b hb => Nat.lt_of_lt_of_le (hs.old b hb) hx.size
  · intro o ob ho
    rcases hSsplit o ob ho with ⟨hlt, ho2⟩ | ⟨e2, ho2⟩
    · obtain ⟨b, sz', h1, h2, cs, h3, h4, h5⟩ := hs.obs o ob ho2
      exact ⟨b, sz', hleft o b sz' h1, h2, cs, by rw [(hsame b (.inr ⟨o, sz', h1⟩)).2]; exact h3, h4, fun i hi => (h5 i hi).tr t0⟩
    · subst e2
      obtain ⟨b, sz', h1, h2, cs, h3, h4, h5⟩ := hs1.obs 0 ob (by rw [← ho2]; rfl)
      have hr : r0 = some (b, sz') := by simpa using h1
      refine ⟨b, sz', by rw [hget, hr], h2, cs, h3, h4, fun i hi => flatD_rdc (h5 i hi) (hfl _ ?_)⟩
      have := hobok ob ho2
      rw [← this]; exact List.getElem_mem hi
  · intro o b sz' ho
    rcases hsplit o b sz' ho with ho | ⟨_, ho⟩
    · exact Nat.lt_of_lt_of_le (hs.lt o b sz' ho) hx.size
    · exact hnew b sz' ho
  · intro o b sz' ob hS ho hI
    rcases hSsplit o ob hS with ⟨hlt, hS2⟩ | ⟨e2, hS2⟩
    · rcases hsplit o b sz' ho with ho | ⟨e, _⟩
      · exact hs.apart o b sz' ob hS2 ho hI
      · omega
    · rw [e2, hget] at ho
      simp at ho
      exact hs1.apart 0 b sz' ob (by rw [← hS2]; rfl) (by rw [ho]; rfl) (hsame b (.inl hI)).1
  · intro o o' b sz1 sz2 ob ob' hS hS' ho ho'
    have clash : ∀ q sz3 sz4 ob, obD ty sz xs = some ob → r0 = some (b, sz3) → ρ[q]? = some (some (b, sz4)) → False := fun q sz3 sz4 ob h1 h2 h3 =>
      hs1.apart 0 b sz3 ob (by rw [← h1]; rfl) (by rw [h2]; rfl) (hsame b (.inr ⟨q, sz4, h3⟩)).1
    rcases hSsplit o ob hS with ⟨hlt, hS2⟩ | ⟨e2, hS2⟩
    · rcases hSsplit o' ob' hS' with ⟨hlt', hS3⟩ | ⟨e3, hS3⟩
      · rcases hsplit o b sz1 ho with ho | ⟨e, _⟩
        · rcases hsplit o' b sz2 ho' with ho' | ⟨e, _⟩
          · exact hs.inj o o' b sz1 sz2 ob ob' hS2 hS3 ho ho'
          · omega
        · omega
      · rcases hsplit o b sz1 ho with ho | ⟨e, _⟩
        · rw [e3, hget] at ho'
          simp at ho'
          exact (clash o sz2 sz1 ob' hS3 ho' ho).elim
        · omega
    · rcases hSsplit o' ob' hS' with ⟨hlt', hS3⟩ | ⟨e3, hS3⟩
      · rcases hsplit o' b sz2 ho' with ho' | ⟨e, _⟩
        · rw [e2, hget] at ho
          simp at ho
          exact (clash o' sz1 sz2 ob hS2 ho ho').elim
        · omega
      · omega
  · cases xs with
    | nil => exact rd_nils.2 (rd_nils.1 hu)
    | cons x r =>
      obtain ⟨b, sz', cap, cs, E', k1, k2⟩ := rd_own.1 hu
      refine rd_own.2 ⟨b, sz', cap, cs, E', ?_, k2⟩
      rw [hget]; simpa using k1
  · refine t0.ext hx.os hx.tape hx.output hx.size (by simp) (fun k hk _ => hx.block k hk (by simp)) (fun _ h => .inl h) fun o b sz' ho => ?_
    rcases hsplit o b sz' ho with ho | ⟨_, ho⟩
    · exact .inl ⟨o, sz', ho⟩
    · rcases hx.rnew 0 b sz' (by rw [ho]; rfl) with ⟨o', sz'', h1⟩ | h1
      · simp at h1
      · exact .inr h1
theorem flat_I (xs : List Int) : ∀ x ∈ dI xs, flatD x = true := fun x hx => by obtain ⟨a, _, rfl⟩ := List.mem_map.1 hx; rfl
theorem flat_P (xs : List (Int × Int)) : ∀ x ∈ dP xs, flatD x = true := fun x hx => by obtain ⟨a, _, rfl⟩ := List.mem_map.1 hx; rfl
section q
variable {P : Program} {sf : SM} {r : RT} {L : List (Nat × D)} {S : Store} {K : Env → Store → Prop} {t : Nat}
theorem q_new {f : FuncId} {ty sz : Nat} {args' : List Opd} {ps : List PV} {xs : List D} (hm : cOK sf = true) (hc : NewS P f ty sz ps xs) (hfl : ∀ x ∈ xs, flatD x = true) (ha : toRs 5 S (args'.map (ev (env L))) = some ps) (hs : sOK sf (S ++ [obD ty sz xs]))
    (h : RG P sf r (env ((t, ownD S.length xs) :: L)) (S ++ [obD ty sz xs]) K) : RG P sf (.op ⟨some t, none, .call f args'⟩ r) (env L) S K := by
  refine q_call hm ((hc.lendAt hfl ha).mono ?_)
  rintro d S' ⟨rfl, rfl⟩
  exact ⟨hs, h⟩
end q
theorem NewS.pure {P : Program} {f : FuncId} {ty : Nat} {ps : List PV} {xs : List Int} (h : NewS P f ty 1 ps (dI xs)) : PCon P f ps (fun p => p = ints xs) :=
  PCon.of_callS h fun d S ⟨hd, hS⟩ => ⟨_, rfl, by subst hd hS; exact reads_own rfl (toR_dI _ _)⟩
section q
variable {P : Program} {sf : SM} {r : RT} {L : List (Nat × D)} {S : Store} {K : Env → Store → Prop}
theorem q_store_d {ty : Nat} {x y : Opd} {o i : Nat} {xs : List Int} {v : Int} (hx : ev (env L) x = .ptr o i 0) (hy : ev (env L) y = .pv (i64 v)) (hS : S[o]? = some (obD ty 1 (dI xs))) (hi : i < xs.length) (hs : sOK sf (S.set o (obD ty 1 (dI (xs.set i v)))))
    (h : RG P sf r (env L) (S.set o (obD ty 1 (dI (xs.set i v)))) K) : RG P sf (.op ⟨none, none, .store 1 x y⟩ r) (env L) S K := by
  have hne : dI xs ≠ [] := fun e => by have := congrArg List.length e; simp at this; subst this; simp at hi
  have hne2 : dI (xs.set i v) ≠ [] := fun e => by have := congrArg List.length e; simp at this; subst this; simp at hi
  rw [obD_ne hne] at hS
  rw [obD_ne hne2] at hs h
  have e : (dI xs).set i (.pv (i64 v)) = dI (xs.set i v) := by rw [dI, dI, List.map_set]
  have hy2 : (dI xs)[i]? = some (.pv (i64 (nth xs i))) := by rw [List.getElem?_map, List.getElem?_eq_getElem hi, nth_eq hi]; rfl
  refine q_store (z := .pv (i64 v)) hx hy hS hy2 rfl rfl ⟨rfl, rfl, Nat.le_refl 1, rfl, fun _ => rfl⟩ rfl ?_ ?_
  · rw [e]; exact hs
  · rw [e]; exact h
end q
section q
variable {P : Program} {sf : SM} {r : RT} {L : List (Nat × D)} {S : Store} {K : Env → Store → Prop}
theorem q_storeF {x y : Opd} {o i j k : Nat} {ob : Ob} {cs xs : List D} (hx : ev (env L) x = .ptr o i j) (hy : ev (env L) y = ownD k xs) (hS : S[o]? = some (some ob)) (he : ob.xs[i]? = some (.agg cs)) (hl : cs.length = ob.sz) (hj : j < cs.length)
    (hs : sOK sf (S.set o (some { ob with xs := ob.xs.set i (.agg (setAt cs j [ownD k xs])) }))) (h : RG P sf r (env L) (S.set o (some { ob with xs := ob.xs.set i (.agg (setAt cs j [ownD k xs])) })) K) : RG P sf (.op ⟨none, none, .store 1 x y⟩ r) (env L) S K :=
  q_store hx hy hS he rfl cellsD_own ⟨hl, rfl, by omega, by simp [isCell_own], fun e => by cases e⟩ rfl hs h
theorem q_load_o {x : Opd} {o i j k : Nat} {ob : Ob} {cs xs : List D} {t : Nat} (hx : ev (env L) x = .ptr o i j) (hS : (fs sf S)[o]? = some (some ob)) (he : ob.xs[i]? = some (.agg cs)) (hl : cs.length = ob.sz) (hj : cs[j]? = some (ownD k xs))
    (h : RG P sf r (env ((t, ownD k xs) :: L)) S K) : RG P sf (.op ⟨some t, none, .load 1 false x⟩ r) (env L) S K :=
  q_load_r hx hS he rfl hl hj isOne_own h
end q
theorem l1 {a c : Option Ob} (h : a = c) : ([a] : Store) = [c] := by rw [h]
theorem l2 {a b c d : Option Ob} (h : a = c) (k : b = d) : ([a, b] : Store) = [c, d] := by rw [h, k]
theorem l3 {a b c d e f : Option Ob} (h : a = c) (k : b = d) (l : e = f) : ([a, b, e] : Store) = [c, d, f] := by rw [h, k, l]
theorem l4 {a b c d e f g i : Option Ob} (h : a = c) (k : b = d) (l : e = f) (m : g = i) : ([a, b, e, g] : Store) = [c, d, f, i] := by rw [h, k, l, m]
theorem l5 {a b c d e f g i j z : Option Ob} (h : a = c) (k : b = d) (l : e = f) (m : g = i) (n : j = z) : ([a, b, e, g, j] : Store) = [c, d, f, i, z] := by rw [h, k, l, m, n]
abbrev bdI (B : Int) (xs : List Int) : Prop := ∀ j, j < xs.length → -B ≤ nth xs j ∧ nth xs j ≤ B
theorem bdI.mem {B : Int} {xs : List Int} : bdI B xs ↔ ∀ v ∈ xs, -B ≤ v ∧ v ≤ B := by
  constructor
  · intro h v hv
    obtain ⟨j, hj, rfl⟩ := List.getElem_of_mem hv
    have := h j hj
    rwa [nth_eq hj] at this
  · intro h j hj
    rw [nth_eq hj]; exact h _ (List.getElem_mem hj)
theorem bdI.app {B : Int} {xs ys : List Int} (h : bdI B xs) (h2 : bdI B ys) : bdI B (xs ++ ys) := bdI.mem.2 fun v hv => by
  rcases List.mem_append.1 hv with h' | h'
  · exact bdI.mem.1 h v h'
  · exact bdI.mem.1 h2 v h'
theorem bdI.one {B v : Int} (h : -B ≤ v ∧ v ≤ B) : bdI B [v] := bdI.mem.2 fun u hu => by simp at hu; subst hu; exact h
theorem bdI.drop {B : Int} {xs : List Int} (h : bdI B xs) (n : Nat) : bdI B (xs.drop n) := bdI.mem.2 fun v hv => bdI.mem.1 h v (List.mem_of_mem_drop hv)
theorem bdI.take {B : Int} {xs : List Int} (h : bdI B xs) (n : Nat) : bdI B (xs.take n) := bdI.mem.2 fun v hv => bdI.mem.1 h v (List.mem_of_mem_take hv)
theorem bdI.set {B v : Int} {xs : List Int} (h : bdI B xs) (i : Nat) (hv : -B ≤ v ∧ v ≤ B) : bdI B (xs.set i v) := bdI.mem.2 fun u hu => by
  rcases List.mem_or_eq_of_mem_set hu with h' | h'
  · exact bdI.mem.1 h u h'
  · subst h'; exact hv
theorem bdI.le {B C : Int} {xs : List Int} (h : bdI B xs) (hc : B ≤ C) : bdI C xs := fun j hj => by have := h j hj; omega
theorem bdI.nil {B : Int} : bdI B [] := fun j hj => by simp at hj
end Go.V

namespace Go.V
theorem nodup_ne {xs : List Int} (h : nodupI xs = true) {i j : Nat} (hi : i < j) (hj : j < xs.length) : nth xs j ≠ nth xs i := by
  unfold nodupI at h
  rw [List.all_eq_true] at h
  have h1 := h j (by simpa using hj)
  intro e
  have : (xs.take j).contains (nth xs j) = true := by
    refine has_true (xs := xs.take j) i (by simp; omega) ?_
    rw [e, nth_eq (by simp; omega), nth_eq (by omega)]
    simp
  rw [this] at h1
  cases h1
theorem nodup_eq {xs : List Int} (h : nodupI xs = true) {i j : Nat} (hi : i < xs.length) (hj : j < xs.length) (e : nth xs i = nth xs j) : i = j := by
  rcases Nat.lt_trichotomy i j with h1 | h1 | h1
  · exact absurd e.symm (nodup_ne h h1 hj)
  · exact h1
  · exact absurd e (nodup_ne h h1 hi)
end Go.V

namespace Go.V
section bd
variable {k0 : Nat} {L : List (Nat × D)} {S : Store} {R : Env → Store → Prop}
end bd
def DelS (P : Program) (f : FuncId) (ty sz : Nat) (xs : List D) (args : List PV) (out : PV) : Prop :=
  CallS P f (.own 0 xs.length :: args.map .pv) [some ⟨ty, sz, xs⟩] (fun d S => d = .pv out ∧ S = [none, none])
section q
variable {P : Program} {sf : SM} {r : RT} {L : List (Nat × D)} {S : Store} {K : Env → Store → Prop} {t : Nat}
end q
theorem ne_map {α β : Type} {f : α → β} {xs : List α} (h : 0 < xs.length) : xs.map f ≠ [] := by
  cases xs with
  | nil => simp at h
  | cons a r => simp
theorem q_sub_to {P : Program} {sf : SM} {r : RT} {L : List (Nat × D)} {S : Store} {K : Env → Store → Prop} {t : Nat} {x y : Opd} {k : IntKind} {a b : Int} (c : Int) (hx : ev (env L) x = .pv (.int k a)) (hy : ev (env L) y = .pv (.int k b)) (e : a - b = c) (hr : inR k c) (h : RG P sf r (env ((t, .pv (.int k c)) :: L)) S K) :
    RG P sf (.op ⟨some t, none, .bin .sub x y⟩ r) (env L) S K := q_sub hx hy (e ▸ hr) (e ▸ h)
end Go.V

namespace Go.V
theorem pw_of_rising {xs : List Int} (h : ∀ j, j + 1 < xs.length → nth xs j < nth xs (j + 1)) : xs.Pairwise (· < ·) := by
  rw [List.pairwise_iff_getElem]
  intro i j hi hj hij
  have main : ∀ d, i + 1 + d < xs.length → nth xs i < nth xs (i + 1 + d) := by
    intro d
    induction d with
    | zero => intro h1; exact h i h1
    | succ d ih => intro h1; have := ih (by omega); have := h (i + 1 + d) (by omega); rw [← Nat.add_assoc]; omega
  have := main (j - i - 1) (by omega)
  rw [show i + 1 + (j - i - 1) = j by omega, nth_eq hi, nth_eq hj] at this
  exact this
theorem rising_pw {xs : List Int} : rising xs = true ↔ xs.Pairwise (· < ·) := by
  rw [rising_iff]
  constructor
  · exact pw_of_rising
  · intro h j hj
    rw [nth_eq (by omega), nth_eq hj]
    exact List.pairwise_iff_getElem.1 h j (j + 1) (by omega) hj (by omega)
theorem goodKeys_iff {xs : List Int} : goodKeys xs = true ↔ xs.Pairwise (· < ·) ∧ ∀ x ∈ xs, 0 ≤ x ∧ x ≤ 99 := by
  simp only [goodKeys, Bool.and_eq_true, rising_pw, List.all_eq_true, decide_eq_true_eq]
def rmK (xs : List Int) (k : Int) : List Int := xs.take (upTo xs (k - 1)) ++ xs.drop (upTo xs (k - 1) + 1)
theorem upTo_cons_le {x : Int} {xs : List Int} {k : Int} (h : x ≤ k) : upTo (x :: xs) k = upTo xs k + 1 := by simp [upTo, h]
theorem upTo_cons_gt {x : Int} {xs : List Int} {k : Int} (h : k < x) : upTo (x :: xs) k = 0 := by simp [upTo, show ¬ x ≤ k by omega]
theorem contains_below {xs : List Int} {k : Int} (h : goodKeys xs = true) : xs.contains k = (decide (upTo xs (k - 1) < xs.length) && decide (nth xs (upTo xs (k - 1)) = k)) := by
  have hr := good_rising h
  by_cases he : upTo xs (k - 1) < xs.length ∧ nth xs (upTo xs (k - 1)) = k
  · rw [decide_eq_true he.1, decide_eq_true he.2]
    exact has_true _ he.1 he.2
  · rw [show (decide (upTo xs (k - 1) < xs.length) && decide (nth xs (upTo xs (k - 1)) = k)) = false by
      by_cases h1 : upTo xs (k - 1) < xs.length
      · simp [h1]; exact fun e => he ⟨h1, e⟩
      · simp [h1]]
    refine has_false fun j hj e => ?_
    rcases Nat.lt_or_ge j (upTo xs (k - 1)) with hlt | hge
    · have := upTo_lt hlt; omega
    · have h1 := upTo_at (xs := xs) (k := k - 1) (by omega)
      have h2 := rising_le hr hge hj
      exact he ⟨by omega, by omega⟩
theorem PCon.eqT {α : Type} [DecidableEq α] {P : Program} {f : FuncId} {args : List PV} {xs ys : α} (h : PCon P f args (fun p => p = .bool (decide (xs = ys)))) (e : xs = ys) : PCon P f args (fun p => p = .bool true) :=
  h.mono fun p e1 => e1.trans (by rw [decide_eq_true e])
theorem PCon.to {P : Program} {f : FuncId} {args : List PV} {x y : PV} (h : PCon P f args (fun p => p = x)) (e : x = y) : PCon P f args (fun p => p = y) := h.mono fun p e1 => e1.trans e
theorem list_ext_nth {α : Type} [Inhabited α] {xs ys : List α} (hl : xs.length = ys.length) (h : ∀ j, j < xs.length → nth xs j = nth ys j) : xs = ys :=
  List.ext_getElem hl fun j h1 h2 => by have := h j h1; rwa [nth_eq h1, nth_eq h2] at this
end Go.V
namespace Go.V
end Go.V
namespace Go.V
theorem nodup_iff {xs : List Int} : nodupI xs = true ↔ xs.Nodup := by
  rw [List.Nodup, List.pairwise_iff_getElem]
  constructor
  · intro h i j hi hj hij e
    have := nodup_eq h hi hj (by rw [nth_eq hi, nth_eq hj]; exact e)
    omega
  · intro h
    refine nodup_true fun j hj => has_false fun i hi e => ?_
    simp at hi
    rw [nth_eq (by simp; omega), nth_eq hj, List.getElem_take] at e
    exact h i j (by omega) hj (by omega) e
theorem good_sub {xs ys : List Int} (h : goodKeys xs = true) (hs : ys.Sublist xs) : goodKeys ys = true := by
  rw [goodKeys_iff] at h ⊢
  exact ⟨h.1.sublist hs, fun x hx => h.2 x (hs.subset hx)⟩
theorem cut_sub {α : Type} (xs : List α) {a b : Nat} (h : a ≤ b) : (xs.take a ++ xs.drop b).Sublist xs := by
  have h2 : (xs.drop b).Sublist (xs.drop a) := by
    have := List.drop_sublist (b - a) (xs.drop a)
    rwa [List.drop_drop, show a + (b - a) = b by omega] at this
  have := List.Sublist.append (List.Sublist.refl (xs.take a)) h2
  rwa [List.take_append_drop] at this
abbrev cutA (ks : List Int) (m : Nat) : List Int := ks.take (m - 1) ++ ks.drop m
abbrev cutB (cs : List Int) (m : Nat) : List Int := cs.take m ++ cs.drop (m + 1)
def okCut (ks cs : List Int) (m : Nat) : Bool := goodInner ks cs && (decide (1 ≤ m) && decide (m < cs.length) && !decide (ks.length = 1))
def cutRes (ks cs : List Int) (m : Nat) : PV := if okCut ks cs m then .tup [innP (cutA ks m) (cutB cs m), .bool true] else .tup [innP [] [], .bool false]
end Go.V
namespace Go.V
end Go.V

namespace Go.V
def RdN (P : Program) (f : FuncId) (ty : Nat) (bs : List Int) (p : Int) (args : List PV) {α : Type} (g : α → PV) (ty2 sz : Nat) (Q : List α → Int → Prop) : Prop :=
  CallS P f (.ptr 0 0 0 :: args.map .pv) [some (rdr ty bs p)] (fun d S => ∃ xs q, Q xs q ∧ d = ownD 1 (xs.map fun a => D.pv (g a)) ∧ S = [some (rdr ty bs q), obD ty2 sz (xs.map fun a => D.pv (g a))])
theorem fwd_own {o n : Nat} : ∀ {xs : List D}, mpD (fwd [o] n) (ownD 1 xs) = ownD n xs
  | [] => rfl
  | _ :: _ => by simp [ownD, mpD, mpS, mp1, mp0, fwd, extO]
section q
variable {P : Program} {sf : SM} {r : RT} {L : List (Nat × D)} {S : Store} {K : Env → Store → Prop} {t : Nat}
theorem q_rdn {f : FuncId} {ty : Nat} {bs : List Int} {p : Int} {args' : List Opd} {args : List PV} {o : Nat} {α : Type} {g : α → PV} {ty2 sz : Nat} {Q : List α → Int → Prop} (hm : cOK sf = true) (hc : RdN P f ty bs p args g ty2 sz Q) (hg : ∀ (m : D → D) a, mpS m (.pv (g a)) = .pv (g a))
    (ha : args'.map (ev (env L)) = .ptr o 0 0 :: args.map .pv) (hS : S[o]? = some (some (rdr ty bs p))) (hs : ∀ (xs : List α) (q : Int), sOK sf (S.set o (some (rdr ty bs q)) ++ [obD ty2 sz (xs.map fun a => D.pv (g a))]))
    (h : ∀ (xs : List α) (q : Int), Q xs q → RG P sf r (env ((t, ownD S.length (xs.map fun a => D.pv (g a))) :: L)) (S.set o (some (rdr ty bs q)) ++ [obD ty2 sz (xs.map fun a => D.pv (g a))]) K) : RG P sf (.op ⟨some t, none, .call f args'⟩ r) (env L) S K := by
  have ho : o < S.length := (List.getElem?_eq_some_iff.1 hS).1
  refine q_call hm ?_
  rw [ha]
  have e1 : subS [o] S = [some (rdr ty bs p)] := by simp [subS, List.getD_eq_getElem?_getD, hS, mpOb_rdr]
  have e2 : (.ptr o 0 0 :: args.map D.pv).map (mpD (inv [o])) = .ptr 0 0 0 :: args.map .pv := by
    simp only [List.map_cons, List.map_map]
    rw [show mpD (inv [o]) (D.ptr o 0 0) = .ptr 0 0 0 by simp [mpD, mpS, mp1, mp0, inv, posOf_single]]
    exact congrArg (D.ptr 0 0 0 :: ·) (List.map_congr_left fun x _ => mpD_pv _ _)
  refine CallS.frame (c1 := fun d S => ∃ xs q, Q xs q ∧ d = ownD 1 (xs.map fun a => D.pv (g a)) ∧ S = [some (rdr ty bs q), obD ty2 sz (xs.map fun a => D.pv (g a))]) [o] (by simp) (by simpa using ⟨_, hS⟩) ?_ ?_
  · rw [e1, e2]; exact hc
  · rintro d S1 ⟨xs, q, hq, rfl, rfl⟩
    rw [mergeS_one ho, fwd_own]
    have e3 : (obD ty2 sz (xs.map fun a => D.pv (g a))).map (mpOb (fwd [o] S.length)) = obD ty2 sz (xs.map fun a => D.pv (g a)) := obD_m xs fun a => hg _ a
    have := hs xs q
    have := h xs q hq
    simp only [List.getD_eq_getElem?_getD, List.getElem?_cons_zero, Option.getD_some, Option.map_some, mpOb_rdr, List.drop_succ_cons, List.drop_zero, List.map_cons, List.map_nil, e3]
    exact ⟨‹_›, ‹_›⟩
end q
/-! rows -/
abbrev keysR (xs : List (Int × Int)) : List Int := xs.map Prod.fst
def okVals (xs : List (Int × Int)) : Bool := xs.all fun x => decide (-1000 ≤ x.2) && decide (x.2 ≤ 1000)
def goodR (xs : List (Int × Int)) : Bool := okVals xs && (decide (xs.length ≤ 24) && goodKeys (keysR xs))
def atR (xs : List (Int × Int)) (k : Int) : Nat := upTo (keysR xs) (k - 1)
def thereR (xs : List (Int × Int)) (k : Int) : Bool := decide (atR xs k < xs.length) && decide ((nth xs (atR xs k)).1 = k)
def putR (xs : List (Int × Int)) (x : Int × Int) : List (Int × Int) := xs.take (atR xs x.1) ++ [x] ++ xs.drop (if thereR xs x.1 then atR xs x.1 + 1 else atR xs x.1)
def bdP (n : Int) (xs : List (Int × Int)) : Prop := ∀ x ∈ xs, (-n ≤ x.1 ∧ x.1 ≤ n) ∧ -n ≤ x.2 ∧ x.2 ≤ n
theorem nth_keys {xs : List (Int × Int)} {i : Nat} (h : i < xs.length) : nth (keysR xs) i = (nth xs i).1 := by
  rw [nth_eq (by simpa using h), nth_eq h]; simp
theorem atR_le (xs : List (Int × Int)) (k : Int) : atR xs k ≤ xs.length := by
  have := upTo_le (keysR xs) (k - 1); simpa [atR] using this
theorem putR_len {xs : List (Int × Int)} {x : Int × Int} : (putR xs x).length ≤ xs.length + 1 := by
  have := atR_le xs x.1
  simp only [putR, List.length_append, List.length_take, List.length_cons, List.length_nil, List.length_drop]
  split <;> omega
theorem bdP.put {n : Int} {xs : List (Int × Int)} {x : Int × Int} (h : bdP n xs) (hx : (-n ≤ x.1 ∧ x.1 ≤ n) ∧ -n ≤ x.2 ∧ x.2 ≤ n) : bdP n (putR xs x) := fun y hy => by
  simp only [putR, List.mem_append, List.mem_singleton] at hy
  rcases hy with (hy | rfl) | hy
  · exact h y (List.mem_of_mem_take hy)
  · exact hx
  · exact h y (List.mem_of_mem_drop hy)
theorem bdP.nil {n : Int} : bdP n [] := fun y hy => by cases hy
theorem bdP.app {n : Int} {xs ys : List (Int × Int)} (h : bdP n xs) (k : bdP n ys) : bdP n (xs ++ ys) := fun y hy => (List.mem_append.1 hy).elim (h y) (k y)
theorem bdP.one {n : Int} {x : Int × Int} (hx : (-n ≤ x.1 ∧ x.1 ≤ n) ∧ -n ≤ x.2 ∧ x.2 ≤ n) : bdP n [x] := fun y hy => by simp at hy; subst hy; exact hx
theorem take_succ_nth {α : Type} [Inhabited α] {xs : List α} {i : Nat} (h : i < xs.length) : xs.take (i + 1) = xs.take i ++ [nth xs i] := by
  rw [List.take_add_one, List.getElem?_eq_getElem h, nth_eq h]; rfl
end Go.V
namespace Go.V
theorem okVals_false {xs : List (Int × Int)} (i : Nat) (h : i < xs.length) (hq : (decide (-1000 ≤ (nth xs i).2) && decide ((nth xs i).2 ≤ 1000)) = false) : okVals xs = false := by
  rw [okVals, List.all_eq_false]
  refine ⟨nth xs i, nth_mem h, by rw [hq]; simp⟩
theorem okVals_true {xs : List (Int × Int)} (h : ∀ j, j < xs.length → (decide (-1000 ≤ (nth xs j).2) && decide ((nth xs j).2 ≤ 1000)) = true) : okVals xs = true := by
  rw [okVals, List.all_eq_true]
  intro x hx
  obtain ⟨j, hj, rfl⟩ := List.getElem_of_mem hx
  have := h j hj
  rwa [nth_eq hj] at this
end Go.V
namespace Go.V
end Go.V
namespace Go.V
end Go.V
namespace Go.V
end Go.V
namespace Go.V
theorem there_contains {xs : List (Int × Int)} {k : Int} (h : goodKeys (keysR xs) = true) : (keysR xs).contains k = thereR xs k := by
  rw [contains_below h, thereR, atR]
  by_cases h1 : upTo (keysR xs) (k - 1) < xs.length
  · rw [nth_keys h1, List.length_map]
  · simp [h1]
def valR (xs : List (Int × Int)) (k : Int) : PV := if goodR xs && thereR xs k then .tup [i64 (nth xs (atR xs k)).2, .bool true] else .tup [i64 0, .bool false]
theorem goodR_keys {xs : List (Int × Int)} (h : goodR xs = true) : goodKeys (keysR xs) = true := by
  simp only [goodR, Bool.and_eq_true] at h; exact h.2.2
theorem goodR_len {xs : List (Int × Int)} (h : goodR xs = true) : xs.length ≤ 24 := by
  simp only [goodR, Bool.and_eq_true, decide_eq_true_eq] at h; exact h.2.1
theorem thereR_lt {xs : List (Int × Int)} {k : Int} (h : thereR xs k = true) : atR xs k < xs.length ∧ (nth xs (atR xs k)).1 = k := by
  simpa [thereR] using h
theorem bdP.keys {n : Int} {xs : List (Int × Int)} (h : bdP n xs) : bdI n (keysR xs) := fun j hj => by
  simp at hj
  rw [nth_keys hj]
  have := h _ (nth_mem hj)
  omega
end Go.V
namespace Go.V
theorem res_own {E : Env} {S : Store} {t o : Nat} {xs : List D} (h : E t = ownD o xs) : resAll E S [.t t] = some (ownD o xs) := by
  cases xs <;> simp [resAll, resDs, resD, h, ownD, isTupD]
end Go.V
namespace Go.V
theorem bdP.le {n m : Int} {xs : List (Int × Int)} (h : bdP n xs) (hn : n ≤ m) : bdP m xs := fun x hx => by
  have := h x hx; omega
end Go.V
namespace Go.V
end Go.V
namespace Go.V
theorem q_quo_to {P : Program} {sf : SM} {r : RT} {L : List (Nat × D)} {S : Store} {K : Env → Store → Prop} {t : Nat} {x y : Opd} {a b : Int} (c : Int) (hx : ev (env L) x = .pv (.int .i64 a)) (hy : ev (env L) y = .pv (.int .i64 b)) (hr : 0 ≤ a ∧ 0 < b) (e : a / b = c) (hc : inR .i64 c) (h : RG P sf r (env ((t, .pv (.int .i64 c)) :: L)) S K) :
    RG P sf (.op ⟨some t, none, .bin .quo x y⟩ r) (env L) S K := q_quo hx hy ⟨hr.1, hr.2, e ▸ hc⟩ (e ▸ h)
end Go.V
namespace Go.V
abbrev halfR (xs : List (Int × Int)) : Nat := (xs.length + 1) / 2
def splA (xs : List (Int × Int)) : List (Int × Int) := if goodR xs then xs.take (halfR xs) else []
def splB (xs : List (Int × Int)) : List (Int × Int) := if goodR xs then xs.drop (halfR xs) else []
end Go.V
namespace Go.V
def GrowS (P : Program) (f : FuncId) (ty sz n : Nat) : Prop := CallS P f [.nils, .pv (i64 n)] [] (fun d S => (n = 0 ∧ d = .nils ∧ S = []) ∨ (0 < n ∧ d = .own 0 0 ∧ S = [some ⟨ty, sz, []⟩]))
theorem q_add_to {P : Program} {sf : SM} {r : RT} {L : List (Nat × D)} {S : Store} {K : Env → Store → Prop} {t : Nat} {x y : Opd} {k : IntKind} {a b : Int} (c : Int) (hx : ev (env L) x = .pv (.int k a)) (hy : ev (env L) y = .pv (.int k b)) (e : a + b = c) (hr : inR k c) (h : RG P sf r (env ((t, .pv (.int k c)) :: L)) S K) :
    RG P sf (.op ⟨some t, none, .bin .add x y⟩ r) (env L) S K := q_add hx hy (e ▸ hr) (e ▸ h)
end Go.V
namespace Go.V
def gathD (z : Bool) (n : Nat) : D := if z then .nils else .own 0 n
def gathO (z : Bool) (ty sz : Nat) (xs : List D) : Store := if z then [] else [some ⟨ty, sz, xs⟩]
end Go.V
namespace Go.V
end Go.V
namespace Go.V
def joinOK (xs ys : List (Int × Int)) : Bool := goodR xs && goodR ys && goodR (xs ++ ys)
def joinR (xs ys : List (Int × Int)) : PV := if joinOK xs ys then .tup [prs (xs ++ ys), .bool true] else .tup [prs [], .bool false]
end Go.V

namespace Go.V
theorem goodR_iff {xs : List (Int × Int)} : goodR xs = true ↔ (∀ x ∈ xs, -1000 ≤ x.2 ∧ x.2 ≤ 1000) ∧ xs.length ≤ 24 ∧ goodKeys (keysR xs) = true := by
  simp [goodR, okVals]
theorem goodR_sub {xs ys : List (Int × Int)} (h : goodR xs = true) (hs : ys.Sublist xs) : goodR ys = true := by
  rw [goodR_iff] at h ⊢
  exact ⟨fun x hx => h.1 x (hs.subset hx), Nat.le_trans hs.length_le h.2.1, good_sub h.2.2 (hs.map _)⟩
theorem spl_t {xs : List (Int × Int)} (h : goodR xs = true) : splA xs = xs.take (halfR xs) ∧ splB xs = xs.drop (halfR xs) := by simp [splA, splB, h]
end Go.V
namespace Go.V
end Go.V

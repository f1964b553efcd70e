/- A part of the proofs about laws of the page tree (see the text that bears the law): a small language of steps, its rules, and what the functions of the program return. -/
import Derived.Test.YtjbihdcdamchnaaLC
set_option linter.all false
set_option linter.unusedVariables false
set_option linter.unusedSimpArgs false
namespace Go.V
/-! ## plain words and laws -/
abbrev dI (ks : List Int) : List D := ks.map fun k => D.pv (i64 k)
abbrev pairP (x : Int × Int) : PV := .agg [i64 x.1, i64 x.2]
abbrev dP (xs : List (Int × Int)) : List D := xs.map fun x => D.pv (pairP x)
abbrev prs (xs : List (Int × Int)) : PV := .sl (xs.map pairP)
theorem toPVs_m {α : Type} {f : α → PV} (h : ∀ a, toPV (.pv (f a)) = some (f a)) : ∀ xs : List α, toPVs (xs.map fun a => D.pv (f a)) = some (xs.map f)
  | [] => rfl
  | a :: r => by simp only [List.map_cons, toPVs, h, toPVs_m h r]
theorem toPVs_dI (ks : List Int) : toPVs (dI ks) = some (ks.map (.int .i64)) := toPVs_m (f := fun k => i64 k) (fun _ => rfl) ks
theorem toPVs_dP (xs : List (Int × Int)) : toPVs (dP xs) = some (xs.map pairP) := toPVs_m (f := pairP) (fun _ => rfl) xs
theorem toR_m {α : Type} {f : α → PV} {n : Nat} {S : Store} (h : ∀ a, toR n S (.pv (f a)) = some (f a)) : ∀ xs : List α, optMap (toR n S) (xs.map fun a => D.pv (f a)) = some (xs.map f)
  | [] => rfl
  | a :: r => by simp only [List.map_cons, optMap, h, toR_m h r]
theorem toR_dI (S : Store) (ks : List Int) : optMap (toR 4 S) (dI ks) = some (ks.map (.int .i64)) := toR_m (f := fun k => i64 k) (fun _ => rfl) ks
theorem toR_dP (S : Store) (xs : List (Int × Int)) : optMap (toR 4 S) (dP xs) = some (xs.map pairP) := toR_m (f := pairP) (fun _ => rfl) xs
theorem elems_m {α : Type} {f : α → PV} {S : Store} {sz : Nat} (h : ∀ a, (f a).nc = sz) (xs : List α) : elemsOf S sz (.pv (.sl (xs.map f))) = some (xs.map fun a => D.pv (f a)) := by
  simp only [elemsOf]
  rw [if_pos (by rw [List.all_eq_true]; intro x hx; obtain ⟨a, _, rfl⟩ := List.mem_map.1 hx; simp [h])]
  simp [List.map_map, Function.comp_def]
theorem elems_I {S : Store} (ks : List Int) : elemsOf S 1 (.pv (ints ks)) = some (dI ks) := elems_m (f := fun k => i64 k) (fun _ => rfl) ks
theorem elems_P {S : Store} (xs : List (Int × Int)) : elemsOf S 2 (.pv (prs xs)) = some (dP xs) := elems_m (f := pairP) (fun _ => rfl) xs
theorem cell_I (ks : List Int) : (dI ks).all cellOK = true := by
  rw [List.all_eq_true]; intro x hx; obtain ⟨a, _, rfl⟩ := List.mem_map.1 hx; rfl
theorem cell_P (xs : List (Int × Int)) : (dP xs).all cellOK = true := by
  rw [List.all_eq_true]; intro x hx; obtain ⟨a, _, rfl⟩ := List.mem_map.1 hx; rfl
section q
variable {P : Program} {sf : SM} {r : RT} {L : List (Nat × D)} {S : Store} {K : Env → Store → Prop} {t : Nat} {α : Type} {f : α → D}
theorem q_app_zm {ty sz bytes : Nat} {x y : Opd} {ys : List α} (hx : ev (env L) x = .nils) (hy : elemsOf S sz (ev (env L) y) = some (ys.map f)) (hc : (ys.map f).all cellOK = true) (hb : ys.length * bytes ≤ 140737488355328 ∧ ys.length ≤ 9223372036854775807)
    (hs : sOK sf (S ++ [obD ty sz (ys.map f)])) (h : RG P sf r (env ((t, ownD S.length (ys.map f)) :: L)) (S ++ [obD ty sz (ys.map f)]) K) : RG P sf (.op ⟨some t, none, .app ty sz bytes x y⟩ r) (env L) S K :=
  q_app_z hx hy hc ⟨by simpa using hb.1, by simpa [maxLen] using hb.2⟩ ⟨hs, h⟩
theorem q_app_dm {ty sz bytes : Nat} {x y : Opd} {xs ys : List α} {o : Nat} (hx : ev (env L) x = ownD o (xs.map f)) (hy : elemsOf S sz (ev (env L) y) = some (ys.map f)) (hc : (ys.map f).all cellOK = true) (hS : S[o]? = some (obD ty sz (xs.map f))) (hb : (xs.length + ys.length) * bytes ≤ 140737488355328 ∧ xs.length + ys.length ≤ 9223372036854775807)
    (hs : sOK sf (S.set o none ++ [obD ty sz ((xs ++ ys).map f)])) (h : RG P sf r (env ((t, ownD S.length ((xs ++ ys).map f)) :: L)) (S.set o none ++ [obD ty sz ((xs ++ ys).map f)]) K) : RG P sf (.op ⟨some t, none, .app ty sz bytes x y⟩ r) (env L) S K := by
  refine q_app_d hx hy hc hS ⟨by simpa using hb.1, by simpa [maxLen] using hb.2⟩ ?_
  rw [← List.map_append]
  exact ⟨hs, h⟩
theorem q_len_dm {x : Opd} {xs : List α} {o : Nat} (hx : ev (env L) x = ownD o (xs.map f)) (h : RG P sf r (env ((t, .pv (.int .i64 xs.length)) :: L)) S K) : RG P sf (.op ⟨some t, none, .len x⟩ r) (env L) S K := q_len_d hx (by simpa using h)
theorem q_idx_dm {ty sz : Nat} {x i : Opd} {o : Nat} {xs : List α} {k : IntKind} {n : Int} (hx : ev (env L) x = ownD o (xs.map f)) (hi : ev (env L) i = .pv (.int k n)) (h0 : 0 ≤ n) (h1 : n < xs.length) (hS : (fs sf S)[o]? = some (obD ty sz (xs.map f)))
    (h : RG P sf r (env ((t, .ptr o n.toNat 0) :: L)) S K) : RG P sf (.op ⟨some t, none, .idx sz x i⟩ r) (env L) S K := q_idx_d hx hi h0 (by simpa using h1) hS h
/-- an element of an own slice -/
theorem q_load_d [Inhabited α] {ty sz : Nat} {x : Opd} {o i : Nat} {xs : List α} {d : D} (hx : ev (env L) x = .ptr o i 0) (hS : (fs sf S)[o]? = some (obD ty 1 (xs.map f))) (hi : i < xs.length) (hsz : sz = 1) (hc : cellsD (f (nth xs i)) = some [d]) (h1 : isOne d = true)
    (h : RG P sf r (env ((t, d) :: L)) S K) : RG P sf (.op ⟨some t, none, .load sz false x⟩ r) (env L) S K := by
  subst hsz
  have hne : xs.map f ≠ [] := fun e => by have := congrArg List.length e; simp at this; subst this; simp at hi
  rw [obD_ne hne] at hS
  have hy : (xs.map f)[i]? = some (f (nth xs i)) := by rw [List.getElem?_map, List.getElem?_eq_getElem hi, nth_eq hi]; rfl
  exact q_load_r hx hS hy hc rfl rfl h1 h
end q
theorem all_false {xs : List Int} {q : Int → Bool} (i : Nat) (h : i < xs.length) (hq : q (nth xs i) = false) : xs.all q = false := by
  rw [List.all_eq_false]
  refine ⟨nth xs i, ?_, by rw [hq]; simp⟩
  rw [nth_eq h]
  exact List.getElem_mem h
theorem all_true {xs : List Int} {q : Int → Bool} (h : ∀ j, j < xs.length → q (nth xs j) = true) : xs.all q = true := by
  rw [List.all_eq_true]
  intro x hx
  obtain ⟨j, hj, rfl⟩ := List.getElem_of_mem hx
  have := h j hj
  rwa [nth_eq hj] at this
theorem has_true {xs : List Int} {k : Int} (i : Nat) (h : i < xs.length) (e : nth xs i = k) : xs.contains k = true := by
  rw [List.contains_iff_mem, ← e, nth_eq h]
  exact List.getElem_mem h
theorem has_false {xs : List Int} {k : Int} (h : ∀ j, j < xs.length → nth xs j ≠ k) : xs.contains k = false := by
  cases hc : xs.contains k with
  | false => rfl
  | true =>
    rw [List.contains_iff_mem] at hc
    obtain ⟨j, hj, e⟩ := List.getElem_of_mem hc
    exact absurd (by rw [nth_eq hj]; exact e) (h j hj)
/-- strictly rising -/
def rising (xs : List Int) : Bool := (List.range (xs.length - 1)).all fun j => decide (nth xs j < nth xs (j + 1))
def goodKeys (xs : List Int) : Bool := rising xs && xs.all fun k => decide (0 ≤ k) && decide (k ≤ 99)
theorem rising_iff {xs : List Int} : rising xs = true ↔ ∀ j, j + 1 < xs.length → nth xs j < nth xs (j + 1) := by
  unfold rising
  rw [List.all_eq_true]
  constructor
  · intro h j hj; simpa using h j (by simp; omega)
  · intro h j hj; simp at hj; simpa using h j (by omega)
theorem good_false {xs : List Int} (i : Nat) (h0 : 1 ≤ i) (h : i < xs.length) (h2 : nth xs i ≤ nth xs ((i : Int) - 1).toNat) : goodKeys xs = false := by
  have : rising xs = false := by
    cases hr : rising xs with
    | false => rfl
    | true =>
      have := rising_iff.1 hr (i - 1) (by omega)
      rw [show i - 1 + 1 = i by omega] at this
      rw [show ((i : Int) - 1).toNat = i - 1 by omega] at h2
      omega
  simp [goodKeys, this]
theorem good_all {xs : List Int} (h : ∀ j, j + 1 < xs.length → nth xs j < nth xs (j + 1)) : goodKeys xs = xs.all fun k => decide (0 ≤ k) && decide (k ≤ 99) := by
  simp [goodKeys, rising_iff.2 h]
theorem good_false2 {xs : List Int} (i : Nat) (h : i < xs.length) (hq : (decide (0 ≤ nth xs i) && decide (nth xs i ≤ 99)) = false) : goodKeys xs = false := by
  simp only [goodKeys, all_false (q := fun k => decide (0 ≤ k) && decide (k ≤ 99)) i h hq, Bool.and_false]
theorem good_true {xs : List Int} (h : ∀ j, j < xs.length → 0 ≤ nth xs j ∧ nth xs j ≤ 99) (h2 : ∀ j, j + 1 < xs.length → nth xs j < nth xs (j + 1)) : goodKeys xs = true := by
  rw [good_all h2]
  exact all_true fun j hj => by have := h j hj; simp [this]
def upTo (xs : List Int) (k : Int) : Nat := (xs.takeWhile fun x => decide (x ≤ k)).length
theorem upTo_eq : ∀ {xs : List Int} {k : Int} {i : Nat}, i ≤ xs.length → (∀ j, j < i → nth xs j ≤ k) → (i < xs.length → k < nth xs i) → upTo xs k = i
  | [], k, i, h, _, _ => by simp at h; subst h; rfl
  | x :: xs, k, 0, h, h1, h2 => by
    have := h2 (by simp)
    simp [nth] at this
    simp [upTo, show ¬ x ≤ k by omega]
  | x :: xs, k, i + 1, h, h1, h2 => by
    have h0 := h1 0 (by omega)
    simp [nth] at h0
    have ih := upTo_eq (xs := xs) (k := k) (i := i) (by simpa using h) (fun j hj => by have := h1 (j + 1) (by omega); simpa [nth] using this) (fun hl => by have := h2 (by simpa using hl); simpa [nth] using this)
    simp only [upTo] at ih ⊢
    simp [h0, ih]
/-- what sort.Search looks for in a rising list -/
theorem search_end {xs : List Int} {k : Int} {i : Nat} (h : i ≤ xs.length) (h1 : ∀ j, j < i → nth xs j ≤ k) (h2 : i < xs.length → k < nth xs i) : upTo xs k = i := upTo_eq h h1 h2
theorem rising_le {xs : List Int} (hr : rising xs = true) : ∀ {a b : Nat}, a ≤ b → b < xs.length → nth xs a ≤ nth xs b := by
  intro a b hab hb
  induction b with
  | zero => have : a = 0 := by omega
            subst this; omega
  | succ b ih =>
    by_cases e : a = b + 1
    · subst e; omega
    · have := ih (by omega) (by omega)
      have := rising_iff.1 hr b hb
      omega
theorem good_rising {xs : List Int} (h : goodKeys xs = true) : rising xs = true := by
  simp only [goodKeys, Bool.and_eq_true] at h; exact h.1
abbrev u8s (bs : List Int) : PV := .sl (bs.map (.int .u8))
/-- a reader -/
def rdr (ty : Nat) (bs : List Int) (p : Int) : Ob := ⟨ty, 2, [.agg [.pv (u8s bs), .pv (i64 p)]]⟩
def isU8 (bs : List Int) : Prop := ∀ x ∈ bs, 0 ≤ x ∧ x ≤ 255
theorem isU8.nth {bs : List Int} (h : isU8 bs) {i : Nat} (hi : i < bs.length) : 0 ≤ nth bs i ∧ nth bs i ≤ 255 := by
  rw [nth_eq hi]; exact h _ (List.getElem_mem hi)
theorem isU8.take {bs : List Int} (h : isU8 bs) (n : Nat) : isU8 (bs.take n) := fun x hx => h x (List.mem_of_mem_take hx)
def nodupI (xs : List Int) : Bool := (List.range xs.length).all fun j => !((xs.take j).contains (nth xs j))
theorem nodup_true {xs : List Int} (h : ∀ j, j < xs.length → (xs.take j).contains (nth xs j) = false) : nodupI xs = true := by
  unfold nodupI
  rw [List.all_eq_true]
  intro j hj
  rw [h j (by simpa using hj)]; rfl
theorem nodup_false {xs : List Int} (i : Nat) (hi : i < xs.length) (h : (xs.take i).contains (nth xs i) = true) : nodupI xs = false := by
  unfold nodupI
  rw [List.all_eq_false]
  exact ⟨i, by simpa using hi, by rw [h]; simp⟩
def goodInner (ks cs : List Int) : Bool := nodupI cs && (goodKeys ks && (decide ((1 : Int) ≤ ks.length) && decide ((ks.length : Int) ≤ 5)) && decide ((cs.length : Int) = ks.length + 1) && cs.all fun k => decide (0 ≤ k) && decide (k ≤ 15))
abbrev innP (ks cs : List Int) : PV := .agg [ints ks, ints cs]
theorem goodInner_len {ks cs : List Int} (h : goodInner ks cs = true) : cs.length = ks.length + 1 := by
  simp only [goodInner, Bool.and_eq_true, decide_eq_true_eq] at h; omega
theorem goodInner_keys {ks cs : List Int} (h : goodInner ks cs = true) : goodKeys ks = true := by
  simp only [goodInner, Bool.and_eq_true] at h; exact h.2.1.1.1
theorem upTo_le (ks : List Int) (k : Int) : upTo ks k ≤ ks.length := (List.takeWhile_sublist _).length_le
/-- a field of booleans -/
def boolsD (n : Nat) (f : Nat → Bool) : List D := (List.range n).map fun v => .pv (.bool (f v))
theorem boolsD_get {n : Nat} {f : Nat → Bool} {j : Nat} (h : j < n) : (boolsD n f)[j]? = some (.pv (.bool (f j))) := by
  simp [boolsD, List.getElem?_map, List.getElem?_range h]
theorem boolsD_set {n : Nat} {f : Nat → Bool} {j : Nat} {b : Bool} (h : j < n) : setAt (boolsD n f) j [.pv (.bool b)] = boolsD n fun v => if v = j then b else f v := by
  apply List.ext_getElem?
  intro m
  simp only [setAt, boolsD]
  rw [List.append_assoc, List.getElem?_append]
  simp only [List.length_take, List.length_map, List.length_range, List.length_singleton]
  rw [show min j n = j by omega]
  by_cases h1 : m < j
  · simp [h1, List.getElem?_take, show m ≠ j by omega, List.getElem?_map]
    by_cases h2 : m < n
    · simp [List.getElem?_range h2, show m ≠ j by omega]
    · omega
  · by_cases h2 : m = j
    · subst h2; simp [List.getElem?_range h]
    · obtain ⟨q, rfl⟩ : ∃ q, m = j + 1 + q := ⟨m - j - 1, by omega⟩
      simp [h1, show j + 1 + q - j = q + 1 by omega, List.getElem?_drop]
      by_cases h3 : j + 1 + q < n
      · simp [List.getElem?_range h3, show ¬ j + 1 + q = j by omega]
      · simp [h3]
theorem seen_step {cs : List Int} {i : Nat} (hi : i < cs.length) (h0 : 0 ≤ nth cs i) : (fun v : Nat => if v = (nth cs i).toNat then true else (cs.take i).contains (v : Int)) = fun v : Nat => (cs.take (i + 1)).contains (v : Int) := by
  funext v
  have e : cs.take (i + 1) = cs.take i ++ [nth cs i] := by rw [List.take_add_one, List.getElem?_eq_getElem hi, nth_eq hi]; rfl
  rw [e]
  by_cases hv : v = (nth cs i).toNat
  · have : (v : Int) = nth cs i := by omega
    rw [if_pos hv, this]; simp
  · have : ¬ (v : Int) = nth cs i := by omega
    rw [if_neg hv]; simp [this]
theorem nth_mem {α : Type} [Inhabited α] {xs : List α} {i : Nat} (h : i < xs.length) : nth xs i ∈ xs := by rw [nth_eq h]; exact List.getElem_mem h
end Go.V
namespace Go.V
theorem upTo_lt {xs : List Int} {k : Int} : ∀ {i : Nat}, i < upTo xs k → nth xs i ≤ k := by
  induction xs with
  | nil => intro i h; simp [upTo] at h
  | cons x xs ih =>
    intro i h
    by_cases hx : x ≤ k
    · have e : upTo (x :: xs) k = upTo xs k + 1 := by simp [upTo, hx]
      cases i with
      | zero => exact hx
      | succ i => exact ih (by omega)
    · have e : upTo (x :: xs) k = 0 := by simp [upTo, hx]
      omega
theorem upTo_at {xs : List Int} {k : Int} (h : upTo xs k < xs.length) : k < nth xs (upTo xs k) := by
  induction xs with
  | nil => simp at h
  | cons x xs ih =>
    by_cases hx : x ≤ k
    · have e : upTo (x :: xs) k = upTo xs k + 1 := by simp [upTo, hx]
      rw [e] at h ⊢
      exact ih (by simpa using h)
    · have e : upTo (x :: xs) k = 0 := by simp [upTo, hx]
      rw [e]; simp [nth]; omega
theorem upTo_dec {xs : List Int} {k : Int} (hg : goodKeys xs = true) {i : Nat} (hi : i < xs.length) : decide (k < nth xs i) = decide (upTo xs k ≤ i) := by
  congr 1
  apply propext
  constructor
  · intro h
    rcases Nat.lt_or_ge i (upTo xs k) with h' | h'
    · have := upTo_lt h'; omega
    · exact h'
  · intro h
    have h1 := upTo_at (xs := xs) (k := k) (by omega)
    have := rising_le (good_rising hg) h hi
    omega
theorem below_dec {xs : List Int} {k : Int} (hg : goodKeys xs = true) {i : Nat} (hi : i < xs.length) : decide (k ≤ nth xs i) = decide (upTo xs (k - 1) ≤ i) := by
  rw [← upTo_dec hg hi]
  congr 1
  apply propext
  omega
end Go.V
namespace Go.V
theorem goodInner_one {ks cs : List Int} (h : goodInner ks cs = true) : 1 ≤ ks.length ∧ ks.length ≤ 5 := by
  simp only [goodInner, Bool.and_eq_true, decide_eq_true_eq] at h; omega
theorem goodInner_kid {ks cs : List Int} (h : goodInner ks cs = true) {j : Nat} (hj : j < cs.length) : 0 ≤ nth cs j ∧ nth cs j ≤ 15 := by
  simp only [goodInner, Bool.and_eq_true, List.all_eq_true] at h
  have := h.2.2 (nth cs j) (nth_mem hj)
  simpa using this
theorem upTo_first {ks : List Int} (h : 1 ≤ ks.length ∧ ks.length ≤ 5) : upTo ks (nth ks 0 - 1) = 0 :=
  upTo_eq (Nat.zero_le _) (fun j hj => by omega) (fun _ => by omega)
theorem goodKeys_mem {ks : List Int} (h : goodKeys ks = true) {j : Nat} (hj : j < ks.length) : 0 ≤ nth ks j ∧ nth ks j ≤ 99 := by
  simp only [goodKeys, Bool.and_eq_true, List.all_eq_true] at h
  have := h.2 (nth ks j) (nth_mem hj)
  simpa using this
theorem upTo_all {ks : List Int} (h : goodKeys ks = true) : upTo ks 99 = ks.length :=
  upTo_eq (Nat.le_refl _) (fun j hj => (goodKeys_mem h hj).2) (fun h => absurd h (Nat.lt_irrefl _))
end Go.V

namespace Go.V
/-! readers -/
/-- a function that draws from a reader and gives something pure -/
def RdS (P : Program) (f : FuncId) (ty : Nat) (bs : List Int) (p : Int) (args : List PV) (Q : PV → Int → Prop) : Prop :=
  CallS P f (.ptr 0 0 0 :: args.map .pv) [some (rdr ty bs p)] (fun d S => ∃ x q T, d = ofPV x ∧ Q x q ∧ S = some (rdr ty bs q) :: T)

theorem mpD_pv (m : D → D) (p : PV) : mpD m (.pv p) = .pv p := by cases p <;> rfl
theorem mpD_ofPV (m : D → D) (p : PV) : mpD m (ofPV p) = ofPV p := by
  cases p with
  | tup ps =>
    show D.tup ((ps.map .pv).map (mpS m)) = .tup (ps.map .pv)
    rw [List.map_map]
    exact congrArg D.tup (List.map_congr_left fun x _ => by cases x <;> rfl)
  | _ => rfl
theorem mpOb_rdr (m : D → D) (ty : Nat) (bs : List Int) (p : Int) : mpOb m (rdr ty bs p) = rdr ty bs p := rfl
theorem posOf_single (o x : Nat) : posOf [o] x = if o = x then some 0 else none := by
  simp only [posOf]
  split <;> rfl
theorem mergeS_one {o : Nat} {S S1 : Store} (ho : o < S.length) : mergeS [o] S S1 = S.set o ((S1.getD 0 none).map (mpOb (fwd [o] S.length))) ++ (S1.drop 1).map (Option.map (mpOb (fwd [o] S.length))) := by
  unfold mergeS
  congr 1
  apply List.ext_getElem?
  intro x
  rw [List.getElem?_map, List.getElem?_set]
  by_cases hx : x < S.length
  · rw [List.getElem?_range hx]
    simp only [Option.map_some, posOf_single]
    by_cases e : o = x
    · subst e; simp [hx]
    · simp [e, List.getElem?_eq_getElem hx]
  · rw [List.getElem?_eq_none (by simp; omega)]
    have : o ≠ x := by omega
    simp [this, List.getElem?_eq_none (Nat.le_of_not_lt hx)]
/-- what a call leaves may be seen anew -/
theorem CallS.bd {P : Program} {f : FuncId} {ds : List D} {S : Store} {c c0 : D → Store → Prop} (h : CallS P f ds S c0) (hb : ∀ d S', c0 d S' → Bd S.length (env [(0, d)]) S' (fun E S'' => c (E 0) S'')) : CallS P f ds S c := fun ρ I w vs hs hv =>
  (h ρ I w vs hs hv).mono fun e w' ⟨u, d, ρ', I', S', h1, h2, h3, h4, h5⟩ => by
    have hk : S.length ≤ S'.length := by
      have := h5.kept
      rw [hs.len] at this
      rw [← h3.len]; simpa using this
    obtain ⟨E', S'', ρ'', I'', k1, k2, k3, k4⟩ := hb d S' h2 ρ' I' w' { tmps := #[u], defers := [] } h3 (fun t => by
      rw [env_cons]
      split
      · rename_i e; subst e; exact h4
      · exact rd_any) hk
    exact ⟨u, E' 0, ρ'', I'', S'', h1, k1, k2, k3 0, h5.trans k4⟩
theorem RdS.trim {P : Program} {f : FuncId} {ty : Nat} {bs : List Int} {p : Int} {args : List PV} {Q : PV → Int → Prop} (h : RdS P f ty bs p args Q) :
    CallS P f (.ptr 0 0 0 :: args.map .pv) [some (rdr ty bs p)] (fun d S => ∃ x q, d = ofPV x ∧ Q x q ∧ S = [some (rdr ty bs q)]) := by
  refine CallS.bd h ?_
  rintro d S' ⟨x, q, T, rfl, hq, rfl⟩
  refine Bd.renL [0] (fun i hi => by have e : i = 0 := (by simp at hi; omega); subst e; rfl) (by simp) [(0, ofPV x)] ⟨mpD_ofPV _ _, trivial⟩ rfl ?_
  exact ⟨x, q, rfl, hq, rfl⟩
theorem RdS.at {P : Program} {f : FuncId} {ty : Nat} {bs : List Int} {p : Int} {args : List PV} {Q : PV → Int → Prop} (h : RdS P f ty bs p args Q) {S : Store} {o : Nat} (hS : S[o]? = some (some (rdr ty bs p))) :
    CallS P f (.ptr o 0 0 :: args.map .pv) S (fun d S' => ∃ x q, d = ofPV x ∧ Q x q ∧ S' = S.set o (some (rdr ty bs q))) := by
  have ho : o < S.length := (List.getElem?_eq_some_iff.1 hS).1
  have e1 : subS [o] S = [some (rdr ty bs p)] := by simp [subS, List.getD_eq_getElem?_getD, hS, mpOb_rdr]
  have e2 : (.ptr o 0 0 :: args.map D.pv).map (mpD (inv [o])) = .ptr 0 0 0 :: args.map .pv := by
    simp only [List.map_cons, List.map_map]
    rw [show mpD (inv [o]) (D.ptr o 0 0) = .ptr 0 0 0 by simp [mpD, mpS, mp1, mp0, inv, posOf_single]]
    exact congrArg (D.ptr 0 0 0 :: ·) (List.map_congr_left fun x _ => mpD_pv _ _)
  refine CallS.frame (c1 := fun d S => ∃ x q, d = ofPV x ∧ Q x q ∧ S = [some (rdr ty bs q)]) [o] (by simp) (by simpa using ⟨_, hS⟩) ?_ ?_
  · rw [e1, e2]; exact h.trim
  · rintro d S1 ⟨x, q, rfl, hq, rfl⟩
    rw [mergeS_one ho]
    exact ⟨x, q, mpD_ofPV _ _, hq, by simp [mpOb_rdr]⟩
theorem obD_m {α : Type} {f : α → PV} {ty sz : Nat} {m : D → D} (xs : List α) (h : ∀ a, mpS m (.pv (f a)) = .pv (f a)) : (obD ty sz (xs.map fun a => D.pv (f a))).map (mpOb m) = obD ty sz (xs.map fun a => D.pv (f a)) := by
  cases xs with
  | nil => rfl
  | cons a r =>
    simp only [List.map_cons, obD, Option.map_some, mpOb, h]
    congr 3
    rw [List.map_map]
    exact List.map_congr_left fun x _ => h x
theorem obD_mI {ty sz : Nat} {m : D → D} (xs : List Int) : (obD ty sz (dI xs)).map (mpOb m) = obD ty sz (dI xs) := obD_m (f := fun k => i64 k) xs fun _ => rfl
theorem obD_mP {ty sz : Nat} {m : D → D} (xs : List (Int × Int)) : (obD ty sz (dP xs)).map (mpOb m) = obD ty sz (dP xs) := obD_m (f := pairP) xs fun _ => rfl
section q
variable {P : Program} {sf : SM} {r : RT} {L : List (Nat × D)} {S : Store} {K : Env → Store → Prop} {t : Nat}
theorem q_rd {f : FuncId} {ty : Nat} {bs : List Int} {p : Int} {args' : List Opd} {args : List PV} {o : Nat} {Q : PV → Int → Prop} (hm : cOK sf = true) (hc : RdS P f ty bs p args Q) (ha : args'.map (ev (env L)) = .ptr o 0 0 :: args.map .pv) (hS : S[o]? = some (some (rdr ty bs p)))
    (hs : ∀ q, sOK sf (S.set o (some (rdr ty bs q)))) (h : ∀ x q, Q x q → RG P sf r (env ((t, ofPV x) :: L)) (S.set o (some (rdr ty bs q))) K) : RG P sf (.op ⟨some t, none, .call f args'⟩ r) (env L) S K := by
  refine q_call hm ?_
  rw [ha]
  refine (hc.at hS).mono ?_
  rintro d S' ⟨x, q, rfl, hq, rfl⟩
  exact ⟨hs q, h x q hq⟩
end q

theorem mergeS_nil {S S1 : Store} : mergeS [] S S1 = S ++ S1.map (Option.map (mpOb (fwd [] S.length))) := by
  unfold mergeS
  congr 1
  apply List.ext_getElem?
  intro x
  rw [List.getElem?_map]
  by_cases hx : x < S.length
  · rw [List.getElem?_range hx]
    simp [posOf, List.getElem?_eq_getElem hx]
  · rw [List.getElem?_eq_none (by simp; omega), List.getElem?_eq_none (by omega)]; rfl
/-- a function that makes a reader -/
def NewRd (P : Program) (f : FuncId) (ty : Nat) (bs : List Int) : Prop :=
  CallS P f [.pv (u8s bs)] [] (fun d S => ∃ bs2, (isU8 bs2 ∧ bs2.length ≤ 2000) ∧ d = .ptr 0 0 0 ∧ S = [some (rdr ty bs2 0)])
section q
variable {P : Program} {sf : SM} {r : RT} {L : List (Nat × D)} {S : Store} {K : Env → Store → Prop} {t : Nat}
theorem q_newRd {f : FuncId} {ty : Nat} {bs : List Int} {args' : List Opd} (hm : cOK sf = true) (hc : NewRd P f ty bs) (ha : args'.map (ev (env L)) = [.pv (u8s bs)])
    (hs : ∀ bs2, sOK sf (S ++ [some (rdr ty bs2 0)])) (h : ∀ bs2, isU8 bs2 ∧ bs2.length ≤ 2000 → RG P sf r (env ((t, .ptr S.length 0 0) :: L)) (S ++ [some (rdr ty bs2 0)]) K) : RG P sf (.op ⟨some t, none, .call f args'⟩ r) (env L) S K := by
  refine q_call hm ?_
  rw [ha]
  refine CallS.frame (c1 := fun d S => ∃ bs2, (isU8 bs2 ∧ bs2.length ≤ 2000) ∧ d = .ptr 0 0 0 ∧ S = [some (rdr ty bs2 0)]) [] (by simp) (by simp) hc ?_
  rintro d S1 ⟨bs2, hb, rfl, rfl⟩
  rw [mergeS_nil]
  exact ⟨hs bs2, h bs2 hb⟩
end q

/-! fresh slices -/
def NewS (P : Program) (f : FuncId) (ty sz : Nat) (args : List PV) (xs : List D) : Prop :=
  CallS P f (args.map .pv) [] (fun d S => d = ownD 0 xs ∧ S = [obD ty sz xs])

def flatD : D → Bool
  | .pv p => flatS p
  | _ => false
theorem flatD_rdc {ρ ρ' : Rho} {I I' : Nat → Prop} {w : World} {vs : List Value} {d : D} (h : RDc ρ I w vs d) (hf : flatD d = true) : RDc ρ' I' w vs d := by
  cases d with
  | pv p =>
    have h' : RC I w vs p := h
    show RC I' w vs p
    cases p with
    | agg cs => exact flatA_rc h' (by simpa [flatD, flatS] using hf)
    | _ => exact flatP_rc h' (by simpa [flatD, flatS] using hf)
  | _ => simp [flatD] at hf
theorem toRs_nil {S : Store} : toRs 5 S [] = some [] := rfl
theorem toRs_cons {S : Store} {d : D} {p : PV} {ds : List D} {ps : List PV} (h : toR 5 S d = some p) (h2 : toRs 5 S ds = some ps) : toRs 5 S (d :: ds) = some (p :: ps) := by
  simp only [toRs, optMap] at h2 ⊢
  rw [h, h2]
theorem toR_own {n o ty sz : Nat} {S : Store} {xs : List D} {ps : List PV} (hS : S[o]? = some (obD ty sz xs)) (hps : optMap (toR n S) xs = some ps) : toR (n + 1) S (ownD o xs) = some (.sl ps) := by
  cases xs with
  | nil => simp [optMap] at hps; subst hps; rfl
  | cons x r =>
    have hS' : S[o]? = some (some ⟨ty, sz, x :: r⟩) := hS
    have e1 : toR (n + 1) S (ownD o (x :: r)) = (match S[o]? with
        | some (some ob) => if r.length + 1 ≤ ob.xs.length then (optMap (toR n S) (ob.xs.take (r.length + 1))).map .sl else none
        | _ => none) := rfl
    rw [e1, hS']
    dsimp only
    rw [if_pos (by simp), List.take_of_length_le (by simp), hps]
    rfl
theorem toR_I {n o ty sz : Nat} {S : Store} {xs : List Int} (hS : S[o]? = some (obD ty sz (dI xs))) : toR (n + 2) S (ownD o (dI xs)) = some (ints xs) :=
  toR_own (n := n + 1) hS (toR_m (f := fun k => i64 k) (fun _ => rfl) xs)
theorem toR_P {n o ty sz : Nat} {S : Store} {xs : List (Int × Int)} (hS : S[o]? = some (obD ty sz (dP xs))) : toR (n + 2) S (ownD o (dP xs)) = some (prs xs) :=
  toR_own (n := n + 1) hS (toR_m (f := pairP) (fun _ => rfl) xs)
theorem toR_agg2 {n : Nat} {S : Store} {a b : D} {p q : PV} (h1 : toR n S a = some p) (h2 : toR n S b = some q) : toR (n + 1) S (.agg [a, b]) = some (.agg [p, q]) := by
  show (optMap (toR n S) [a, b]).map PV.agg = _
  simp [optMap, h1, h2]
theorem toR_agg3 {n : Nat} {S : Store} {a b c : D} {p q r : PV} (h1 : toR n S a = some p) (h2 : toR n S b = some q) (h3 : toR n S c = some r) : toR (n + 1) S (.agg [a, b, c]) = some (.agg [p, q, r]) := by
  show (optMap (toR n S) [a, b, c]).map PV.agg = _
  simp [optMap, h1, h2, h3]

theorem NewS.lendAt {P : Program} {f : FuncId} {ty sz : Nat} {ps : List PV} {xs : List D} (h : NewS P f ty sz ps xs) (hfl : ∀ x ∈ xs, flatD x = true) {ds : List D} {S : Store} (hp : toRs 5 S ds = some ps) :
    CallS P f ds S (fun d S' => d = ownD S.length xs ∧ S' = S ++ [obD ty sz xs]) := fun ρ I w vs hs hv => by
  have hold : ∀ b, allI ρ I b → b < w.heap.size := fun b hb => by
    rcases hb with hb | ⟨o, sz, ho⟩
    · exact hs.old b hb
    · exact hs.lt o b sz ho
  have hst : St [] (allI ρ I) w [] := ⟨⟨hold, by simp⟩, rfl, by simp, by simp, by simp⟩
  refine (h [] (allI ρ I) w vs hst (RVs_RDs (toRs_sound hs hp hv))).mono ?_
  rintro e w1 ⟨u, d, ρ1, I1, S1, he, ⟨rfl, rfl⟩, hs1, hu, hx⟩
  have hsame : ∀ b, allI ρ I b → I1 b ∧ w1.heap[b]? = w.heap[b]? := hx.im
  have hS1len : ρ1.length = 1 := by rw [hs1.len]; rfl
  obtain ⟨r0, rfl⟩ : ∃ r0, ρ1 = [r0] := by
    match ρ1, hS1len with
    | [r0], _ => exact ⟨r0, rfl⟩
  have kp : Keeps ρ I w w1 := ⟨fun b hb => (hsame b (.inl hb)).2, fun o b sz ho cs E hc => ⟨cs, by rw [(hsame b (.inr ⟨o, sz, ho⟩)).2]; exact hc, rfl⟩⟩
  have hget : (ρ ++ [r0])[S.length]? = some r0 := by rw [List.getElem?_append_right (by rw [hs.len]; exact Nat.le_refl _)]; simp [hs.len]
  have hleft : ∀ (o b sz : Nat), ρ[o]? = some (some (b, sz)) → (ρ ++ [r0])[o]? = some (some (b, sz)) := fun o b sz ho => by
    rw [List.getElem?_append_left (List.getElem?_eq_some_iff.1 ho).1]; exact ho
  have hsplit : ∀ (o b sz : Nat), (ρ ++ [r0])[o]? = some (some (b, sz)) → ρ[o]? = some (some (b, sz)) ∨ (o = S.length ∧ r0 = some (b, sz)) := fun o b sz ho => by
    rw [List.getElem?_append] at ho
    split at ho
    · exact .inl ho
    · rename_i hge
      simp only [List.getElem?_singleton] at ho
      split at ho <;> simp at ho
      exact .inr ⟨by have := hs.len; omega, ho⟩
  have hSsplit : ∀ (o : Nat) (ob : Ob), (S ++ [obD ty sz xs])[o]? = some (some ob) → (o < S.length ∧ S[o]? = some (some ob)) ∨ (o = S.length ∧ obD ty sz xs = some ob) := fun o ob ho => by
    rw [List.getElem?_append] at ho
    split at ho
    · rename_i hlt; exact .inl ⟨hlt, ho⟩
    · simp only [List.getElem?_singleton] at ho
      split at ho <;> simp at ho
      exact .inr ⟨by omega, ho⟩
  have t0 : Tr ρ I w (ρ ++ [r0]) I w1 := ⟨fun b hb => ⟨hb, (hsame b (.inl hb)).2⟩, fun o b sz ho => ⟨hleft o b sz ho, fun cs E hc => ⟨cs, by rw [(hsame b (.inr ⟨o, sz, ho⟩)).2]; exact hc, rfl⟩⟩⟩
  have hnew : ∀ b sz', r0 = some (b, sz') → b < w1.heap.size := fun b sz' hr => hs1.lt 0 b sz' (by rw [hr]; rfl)
  have hobok : ∀ ob, obD ty sz xs = some ob → ob.xs = xs := fun ob ho => by
    cases xs with
    | nil => cases ho
    | cons x r => simp [obD] at ho; subst ho; rfl
  refine ⟨u, ownD S.length xs, ρ ++ [r0], I, S ++ [obD ty sz xs], he, ⟨rfl, rfl⟩, { old := ?_, obs := ?_, len := by simp [hs.len], lt := ?_, apart := ?_, inj := ?_ }, ?_, ?_⟩
  · exact fun b hb => Nat.lt_of_lt_of_le (hs.old b hb) hx.size
  · intro o ob ho
    rcases hSsplit o ob ho with ⟨hlt, ho2⟩ | ⟨e2, ho2⟩
    · obtain ⟨b, sz', h1, h2, cs, h3, h4, h5⟩ := hs.obs o ob ho2
      exact ⟨b, sz', hleft o b sz' h1, h2, cs, by rw [(hsame b (.inr ⟨o, sz', h1⟩)).2]; exact h3, h4, fun i hi => (h5 i hi).tr t0⟩
    · subst e2
      obtain ⟨b, sz', h1, h2, cs, h3, h4, h5⟩ := hs1.obs 0 ob (by rw [← ho2]; rfl)
      have hr : r0 = some (b, sz') := by simpa using h1
      refine ⟨b, sz', by rw [hget, hr], h2, cs, h3, h4, fun i hi => flatD_rdc (h5 i hi) (hfl _ ?_)⟩
      have := hobok ob ho2
      rw [← this]; exact List.getElem_mem hi
  · intro o b sz' ho
    rcases hsplit o b sz' ho with ho | ⟨_, ho⟩
    · exact Nat.lt_of_lt_of_le (hs.lt o b sz' ho) hx.size
    · exact hnew b sz' ho
  · intro o b sz' ob hS ho hI
    rcases hSsplit o ob hS with ⟨hlt, hS2⟩ | ⟨e2, hS2⟩
    · rcases hsplit o b sz' ho with ho | ⟨e, _⟩
      · exact hs.apart o b sz' ob hS2 ho hI
      · omega
    · rw [e2, hget] at ho
      simp at ho
      exact hs1.apart 0 b sz' ob (by rw [← hS2]; rfl) (by rw [ho]; rfl) (hsame b (.inl hI)).1
  · intro o o' b sz1 sz2 ob ob' hS hS' ho ho'
    have clash : ∀ q sz3 sz4 ob, obD ty sz xs = some ob → r0 = some (b, sz3) → ρ[q]? = some (some (b, sz4)) → False := fun q sz3 sz4 ob h1 h2 h3 =>
      hs1.apart 0 b sz3 ob (by rw [← h1]; rfl) (by rw [h2]; rfl) (hsame b (.inr ⟨q, sz4, h3⟩)).1
    rcases hSsplit o ob hS with ⟨hlt, hS2⟩ | ⟨e2, hS2⟩
    · rcases hSsplit o' ob' hS' with ⟨hlt', hS3⟩ | ⟨e3, hS3⟩
      · rcases hsplit o b sz1 ho with ho | ⟨e, _⟩
        · rcases hsplit o' b sz2 ho' with ho' | ⟨e, _⟩
          · exact hs.inj o o' b sz1 sz2 ob ob' hS2 hS3 ho ho'
          · omega
        · omega
      · rcases hsplit o b sz1 ho with ho | ⟨e, _⟩
        · rw [e3, hget] at ho'
          simp at ho'
          exact (clash o sz2 sz1 ob' hS3 ho' ho).elim
        · omega
    · rcases hSsplit o' ob' hS' with ⟨hlt', hS3⟩ | ⟨e3, hS3⟩
      · rcases hsplit o' b sz2 ho' with ho' | ⟨e, _⟩
        · rw [e2, hget] at ho
          simp at ho
          exact (clash o' sz1 sz2 ob hS2 ho ho').elim
        · omega
      · omega
  · cases xs with
    | nil => exact rd_nils.2 (rd_nils.1 hu)
    | cons x r =>
      obtain ⟨b, sz', cap, cs, E', k1, k2⟩ := rd_own.1 hu
      refine rd_own.2 ⟨b, sz', cap, cs, E', ?_, k2⟩
      rw [hget]; simpa using k1
  · refine t0.ext hx.os hx.tape hx.output hx.size (by simp) (fun k hk _ => hx.block k hk (by simp)) (fun _ h => .inl h) fun o b sz' ho => ?_
    rcases hsplit o b sz' ho with ho | ⟨_, ho⟩
    · exact .inl ⟨o, sz', ho⟩
    · rcases hx.rnew 0 b sz' (by rw [ho]; rfl) with ⟨o', sz'', h1⟩ | h1
      · simp at h1
      · exact .inr h1
theorem flat_I (xs : List Int) : ∀ x ∈ dI xs, flatD x = true := fun x hx => by obtain ⟨a, _, rfl⟩ := List.mem_map.1 hx; rfl
theorem flat_P (xs : List (Int × Int)) : ∀ x ∈ dP xs, flatD x = true := fun x hx => by obtain ⟨a, _, rfl⟩ := List.mem_map.1 hx; rfl
section q
variable {P : Program} {sf : SM} {r : RT} {L : List (Nat × D)} {S : Store} {K : Env → Store → Prop} {t : Nat}
theorem q_new {f : FuncId} {ty sz : Nat} {args' : List Opd} {ps : List PV} {xs : List D} (hm : cOK sf = true) (hc : NewS P f ty sz ps xs) (hfl : ∀ x ∈ xs, flatD x = true) (ha : toRs 5 S (args'.map (ev (env L))) = some ps) (hs : sOK sf (S ++ [obD ty sz xs]))
    (h : RG P sf r (env ((t, ownD S.length xs) :: L)) (S ++ [obD ty sz xs]) K) : RG P sf (.op ⟨some t, none, .call f args'⟩ r) (env L) S K := by
  refine q_call hm ((hc.lendAt hfl ha).mono ?_)
  rintro d S' ⟨rfl, rfl⟩
  exact ⟨hs, h⟩
end q
/-- the same, pure -/
theorem NewS.pure {P : Program} {f : FuncId} {ty : Nat} {ps : List PV} {xs : List Int} (h : NewS P f ty 1 ps (dI xs)) : PCon P f ps (fun p => p = ints xs) :=
  PCon.of_callS h fun d S ⟨hd, hS⟩ => ⟨_, rfl, by subst hd hS; exact reads_own rfl (toR_dI _ _)⟩
theorem NewS.pureP {P : Program} {f : FuncId} {ty : Nat} {ps : List PV} {xs : List (Int × Int)} (h : NewS P f ty 2 ps (dP xs)) : PCon P f ps (fun p => p = prs xs) :=
  PCon.of_callS h fun d S ⟨hd, hS⟩ => ⟨_, rfl, by subst hd hS; exact reads_own rfl (toR_dP _ _)⟩

section q
variable {P : Program} {sf : SM} {r : RT} {L : List (Nat × D)} {S : Store} {K : Env → Store → Prop}
/-- a store into an element of an own slice of numbers -/
theorem q_store_d {ty : Nat} {x y : Opd} {o i : Nat} {xs : List Int} {v : Int} (hx : ev (env L) x = .ptr o i 0) (hy : ev (env L) y = .pv (i64 v)) (hS : S[o]? = some (obD ty 1 (dI xs))) (hi : i < xs.length) (hs : sOK sf (S.set o (obD ty 1 (dI (xs.set i v)))))
    (h : RG P sf r (env L) (S.set o (obD ty 1 (dI (xs.set i v)))) K) : RG P sf (.op ⟨none, none, .store 1 x y⟩ r) (env L) S K := by
  have hne : dI xs ≠ [] := fun e => by have := congrArg List.length e; simp at this; subst this; simp at hi
  have hne2 : dI (xs.set i v) ≠ [] := fun e => by have := congrArg List.length e; simp at this; subst this; simp at hi
  rw [obD_ne hne] at hS
  rw [obD_ne hne2] at hs h
  have e : (dI xs).set i (.pv (i64 v)) = dI (xs.set i v) := by rw [dI, dI, List.map_set]
  have hy2 : (dI xs)[i]? = some (.pv (i64 (nth xs i))) := by rw [List.getElem?_map, List.getElem?_eq_getElem hi, nth_eq hi]; rfl
  refine q_store (z := .pv (i64 v)) hx hy hS hy2 rfl rfl ⟨rfl, rfl, Nat.le_refl 1, rfl, fun _ => rfl⟩ rfl ?_ ?_
  · rw [e]; exact hs
  · rw [e]; exact h
end q
section q
variable {P : Program} {sf : SM} {r : RT} {L : List (Nat × D)} {S : Store} {K : Env → Store → Prop}
/-- an own slice into a field -/
theorem q_storeF {x y : Opd} {o i j k : Nat} {ob : Ob} {cs xs : List D} (hx : ev (env L) x = .ptr o i j) (hy : ev (env L) y = ownD k xs) (hS : S[o]? = some (some ob)) (he : ob.xs[i]? = some (.agg cs)) (hl : cs.length = ob.sz) (hj : j < cs.length)
    (hs : sOK sf (S.set o (some { ob with xs := ob.xs.set i (.agg (setAt cs j [ownD k xs])) }))) (h : RG P sf r (env L) (S.set o (some { ob with xs := ob.xs.set i (.agg (setAt cs j [ownD k xs])) })) K) : RG P sf (.op ⟨none, none, .store 1 x y⟩ r) (env L) S K :=
  q_store hx hy hS he rfl cellsD_own ⟨hl, rfl, by omega, by simp [isCell_own], fun e => by cases e⟩ rfl hs h
theorem q_load_o {x : Opd} {o i j k : Nat} {ob : Ob} {cs xs : List D} {t : Nat} (hx : ev (env L) x = .ptr o i j) (hS : (fs sf S)[o]? = some (some ob)) (he : ob.xs[i]? = some (.agg cs)) (hl : cs.length = ob.sz) (hj : cs[j]? = some (ownD k xs))
    (h : RG P sf r (env ((t, ownD k xs) :: L)) S K) : RG P sf (.op ⟨some t, none, .load 1 false x⟩ r) (env L) S K :=
  q_load_r hx hS he rfl hl hj isOne_own h
end q
theorem l1 {a c : Option Ob} (h : a = c) : ([a] : Store) = [c] := by rw [h]
theorem l2 {a b c d : Option Ob} (h : a = c) (k : b = d) : ([a, b] : Store) = [c, d] := by rw [h, k]
theorem l3 {a b c d e f : Option Ob} (h : a = c) (k : b = d) (l : e = f) : ([a, b, e] : Store) = [c, d, f] := by rw [h, k, l]
theorem l4 {a b c d e f g i : Option Ob} (h : a = c) (k : b = d) (l : e = f) (m : g = i) : ([a, b, e, g] : Store) = [c, d, f, i] := by rw [h, k, l, m]
theorem l5 {a b c d e f g i j z : Option Ob} (h : a = c) (k : b = d) (l : e = f) (m : g = i) (n : j = z) : ([a, b, e, g, j] : Store) = [c, d, f, i, z] := by rw [h, k, l, m, n]
abbrev bdI (B : Int) (xs : List Int) : Prop := ∀ j, j < xs.length → -B ≤ nth xs j ∧ nth xs j ≤ B
theorem bdI.mem {B : Int} {xs : List Int} : bdI B xs ↔ ∀ v ∈ xs, -B ≤ v ∧ v ≤ B := by
  constructor
  · intro h v hv
    obtain ⟨j, hj, rfl⟩ := List.getElem_of_mem hv
    have := h j hj
    rwa [nth_eq hj] at this
  · intro h j hj
    rw [nth_eq hj]; exact h _ (List.getElem_mem hj)
theorem bdI.app {B : Int} {xs ys : List Int} (h : bdI B xs) (h2 : bdI B ys) : bdI B (xs ++ ys) := bdI.mem.2 fun v hv => by
  rcases List.mem_append.1 hv with h' | h'
  · exact bdI.mem.1 h v h'
  · exact bdI.mem.1 h2 v h'
theorem bdI.one {B v : Int} (h : -B ≤ v ∧ v ≤ B) : bdI B [v] := bdI.mem.2 fun u hu => by simp at hu; subst hu; exact h
theorem bdI.drop {B : Int} {xs : List Int} (h : bdI B xs) (n : Nat) : bdI B (xs.drop n) := bdI.mem.2 fun v hv => bdI.mem.1 h v (List.mem_of_mem_drop hv)
theorem bdI.take {B : Int} {xs : List Int} (h : bdI B xs) (n : Nat) : bdI B (xs.take n) := bdI.mem.2 fun v hv => bdI.mem.1 h v (List.mem_of_mem_take hv)
theorem bdI.set {B v : Int} {xs : List Int} (h : bdI B xs) (i : Nat) (hv : -B ≤ v ∧ v ≤ B) : bdI B (xs.set i v) := bdI.mem.2 fun u hu => by
  rcases List.mem_or_eq_of_mem_set hu with h' | h'
  · exact bdI.mem.1 h u h'
  · subst h'; exact hv
theorem bdI.le {B C : Int} {xs : List Int} (h : bdI B xs) (hc : B ≤ C) : bdI C xs := fun j hj => by have := h j hj; omega
theorem bdI.nil {B : Int} : bdI B [] := fun j hj => by simp at hj
end Go.V

namespace Go.V
theorem upTo_nth {ks : List Int} (h : goodKeys ks = true) {i : Nat} (hi : i < ks.length) : upTo ks (nth ks i) = i + 1 := by
  have hr := good_rising h
  refine upTo_eq (by omega) (fun j hj => rising_le hr (by omega) hi) (fun h => ?_)
  exact rising_iff.1 hr i h
theorem upTo_pred {ks : List Int} (h : goodKeys ks = true) {i : Nat} (hi : i < ks.length) : upTo ks (nth ks i - 1) = i := by
  have hr := good_rising h
  refine upTo_eq (by omega) (fun j hj => ?_) (fun h => by omega)
  have h1 := rising_iff.1 hr j (by omega)
  have h2 := rising_le hr (show j + 1 ≤ i by omega) hi
  omega
theorem nth_in {xs : List Int} {i : Nat} (h : i < xs.length) : xs.contains (nth xs i) = true := has_true i h rfl
theorem nat_i1 (i : Nat) : ((i : Int) + 1).toNat = i + 1 := by omega
theorem upTo_step {ks : List Int} (h : goodKeys ks = true) (k : Int) : (upTo ks (k + 1) = upTo ks k + 1 ∧ ks.contains (k + 1) = true) ∨ (upTo ks (k + 1) = upTo ks k ∧ ks.contains (k + 1) = false) := by
  have hr := good_rising h
  have h1 := upTo_le ks k
  by_cases he : upTo ks k < ks.length ∧ nth ks (upTo ks k) = k + 1
  · left
    have h2 := upTo_nth h he.1
    rw [he.2] at h2
    exact ⟨h2, has_true _ he.1 he.2⟩
  · right
    have h3 : ∀ j, upTo ks k ≤ j → j < ks.length → k + 1 < nth ks j := fun j hj hl => by
      have h4 := upTo_at (xs := ks) (k := k) (by omega)
      have h5 := rising_le hr hj hl
      have : nth ks (upTo ks k) ≠ k + 1 := fun e => he ⟨by omega, e⟩
      omega
    refine ⟨upTo_eq h1 (fun j hj => by have := upTo_lt hj; omega) (fun hl => h3 _ (Nat.le_refl _) hl), has_false fun j hj e => ?_⟩
    rcases Nat.lt_or_ge j (upTo ks k) with hlt | hge
    · have := upTo_lt hlt; omega
    · have := h3 j hge hj; omega
theorem nodup_ne {xs : List Int} (h : nodupI xs = true) {i j : Nat} (hi : i < j) (hj : j < xs.length) : nth xs j ≠ nth xs i := by
  unfold nodupI at h
  rw [List.all_eq_true] at h
  have h1 := h j (by simpa using hj)
  intro e
  have : (xs.take j).contains (nth xs j) = true := by
    refine has_true (xs := xs.take j) i (by simp; omega) ?_
    rw [e, nth_eq (by simp; omega), nth_eq (by omega)]
    simp
  rw [this] at h1
  cases h1
theorem nodup_eq {xs : List Int} (h : nodupI xs = true) {i j : Nat} (hi : i < xs.length) (hj : j < xs.length) (e : nth xs i = nth xs j) : i = j := by
  rcases Nat.lt_trichotomy i j with h1 | h1 | h1
  · exact absurd e.symm (nodup_ne h h1 hj)
  · exact h1
  · exact absurd e (nodup_ne h h1 hi)
theorem goodInner_nodup {ks cs : List Int} (h : goodInner ks cs = true) : nodupI cs = true := by
  simp only [goodInner, Bool.and_eq_true] at h; exact h.1
end Go.V

namespace Go.V
section bd
variable {k0 : Nat} {L : List (Nat × D)} {S : Store} {R : Env → Store → Prop}
theorem env_dup (t : Nat) (a b : D) (L : List (Nat × D)) : env ((t, a) :: (t, b) :: L) = env ((t, a) :: L) := by
  funext i
  rw [env_cons, env_cons, env_cons]
  split <;> simp_all
theorem Bd.sub0 (t : Nat) {o off cap : Nat} (ht : env L t = .sub o off 0 cap) (h : R (env ((t, .pv (.sl [])) :: L)) S) : Bd k0 (env L) S R := fun ρ I w a hs he _ => by
  have g := he t
  rw [ht, rd_sub] at g
  obtain ⟨b, sz, cs, E', h1, h2, h3, h4, h5, h6⟩ := g
  refine ⟨_, S, ρ, I, h, hs, fun i => ?_, Ext.refl _ _ _ _⟩
  rw [env_cons]
  split
  · rename_i e
    subst e
    rw [h2]
    exact (rd_pv rfl).2 (.sl0 _ _ h4)
  · exact he i
/-- a part of an own slice, seen as a value -/
theorem Bd.subP (t : Nat) {o n cap : Nat} {ob : Ob} {ps : List PV} (ht : env L t = .sub o 0 n cap) (hS : S[o]? = some (some ob)) (hn : n ≤ ob.xs.length) (hps : toPVs (ob.xs.take n) = some ps)
    (h : R (env ((t, .pv (.sl ps)) :: L)) (S.set o none ++ [none])) : Bd k0 (env L) S R := by
  have ho : o < S.length := (List.getElem?_eq_some_iff.1 hS).1
  by_cases h0 : n = 0
  · subst h0
    simp [toPVs] at hps
    subst hps
    refine Bd.then (Bd.sub0 t (R := fun E S' => E = env ((t, .pv (.sl [])) :: L) ∧ S' = S) ht ⟨rfl, rfl⟩) ?_
    rintro E2 S2 ⟨hE, hS2⟩
    rw [hE, hS2]; clear hE hS2 E2 S2
    refine Bd.then (Bd.drop o (R := fun E S' => E = env ((t, .pv (.sl [])) :: L) ∧ S' = S.set o none) ⟨rfl, rfl⟩) ?_
    rintro E2 S2 ⟨hE, hS2⟩
    rw [hE, hS2]; clear hE hS2 E2 S2
    exact Bd.pad h
  · refine Bd.then (Bd.shut t (R := fun E S' => E = env ((t, .own o n) :: L) ∧ S' = S) ht ⟨rfl, rfl⟩) ?_
    rintro E2 S2 ⟨hE, hS2⟩
    rw [hE, hS2]; clear hE hS2 E2 S2
    refine Bd.then (Bd.cut o n (R := fun E S' => E = env ((t, .own o n) :: L) ∧ S' = S.set o (some { ob with xs := ob.xs.take n })) hS ⟨rfl, rfl⟩) ?_
    rintro E2 S2 ⟨hE, hS2⟩
    rw [hE, hS2]; clear hE hS2 E2 S2
    refine Bd.then (Bd.move t (o := o) (n := n) (ob := { ob with xs := ob.xs.take n }) (R := fun E S' => E = env ((t, .own S.length n) :: L) ∧ S' = S.set o none ++ [some { ob with xs := ob.xs.take n }]) (by rw [env_cons, if_pos rfl]) (by rw [List.getElem?_set]; simp [ho]) ⟨by rw [env_dup, List.length_set], by rw [List.set_set]⟩) ?_
    rintro E2 S2 ⟨hE, hS2⟩
    rw [hE, hS2]; clear hE hS2 E2 S2
    have hlen : (ob.xs.take n).length = n := by simp; omega
    refine Bd.pure t S.length ob.ty ob.sz (xs := ob.xs.take n) ?_ ?_ hps ?_
    · rw [env_cons, if_pos rfl]
      cases hx : ob.xs.take n with
      | nil => rw [hx] at hlen; simp at hlen; omega
      | cons a r => rw [hx] at hlen; simp at hlen; simp [ownD]; omega
    · rw [List.getElem?_append_right (by simp)]
      cases hx : ob.xs.take n with
      | nil => rw [hx] at hlen; simp at hlen; omega
      | cons a r => simp [obD]
    · rw [env_dup]
      simpa using h
end bd
/-- a function that takes a slice of one's own and gives something pure -/
def DelS (P : Program) (f : FuncId) (ty sz : Nat) (xs : List D) (args : List PV) (out : PV) : Prop :=
  CallS P f (.own 0 xs.length :: args.map .pv) [some ⟨ty, sz, xs⟩] (fun d S => d = .pv out ∧ S = [none, none])
theorem mpOb_pvs {m : D → D} {ty sz : Nat} {xs : List D} (h : ∀ x ∈ xs, mpS m x = x) : mpOb m ⟨ty, sz, xs⟩ = ⟨ty, sz, xs⟩ := by
  simp only [mpOb]
  congr 1
  rw [List.map_congr_left h]
  simp
section q
variable {P : Program} {sf : SM} {r : RT} {L : List (Nat × D)} {S : Store} {K : Env → Store → Prop} {t : Nat}
theorem q_del {f : FuncId} {ty sz : Nat} {args' : List Opd} {args : List PV} {o : Nat} {xs : List D} {out : PV} (hm : cOK sf = true) (hc : DelS P f ty sz xs args out) (hne : xs ≠ []) (hfl : ∀ (m : D → D), ∀ x ∈ xs, mpS m x = x) (ha : args'.map (ev (env L)) = ownD o xs :: args.map .pv) (hS : S[o]? = some (obD ty sz xs))
    (hs : sOK sf (S.set o none ++ [none])) (h : RG P sf r (env ((t, .pv out) :: L)) (S.set o none ++ [none]) K) : RG P sf (.op ⟨some t, none, .call f args'⟩ r) (env L) S K := by
  have ho : o < S.length := (List.getElem?_eq_some_iff.1 hS).1
  rw [obD_ne hne] at hS
  rw [ownD_ne hne] at ha
  refine q_call hm ?_
  rw [ha]
  refine CallS.frame (c1 := fun d S => d = .pv out ∧ S = [none, none]) [o] (by simp) (by simpa using ⟨_, hS⟩) ?_ ?_
  · have e1 : subS [o] S = [some ⟨ty, sz, xs⟩] := by
      simp [subS, List.getD_eq_getElem?_getD, hS, mpOb_pvs (hfl _)]
    have e2 : (D.own o xs.length :: args.map D.pv).map (mpD (inv [o])) = .own 0 xs.length :: args.map .pv := by
      simp only [List.map_cons, List.map_map]
      rw [show mpD (inv [o]) (D.own o xs.length) = .own 0 xs.length by simp [mpD, mpS, mp1, mp0, inv, posOf_single]]
      exact congrArg (D.own 0 xs.length :: ·) (List.map_congr_left fun x _ => mpD_pv _ _)
    rw [e1, e2]
    exact hc
  · rintro d S1 ⟨rfl, rfl⟩
    rw [mergeS_one ho]
    exact ⟨by simpa using hs, by simpa [mpD_pv] using h⟩
end q
theorem dI_mp (xs : List Int) : ∀ (m : D → D), ∀ x ∈ dI xs, mpS m x = x := fun m x hx => by
  obtain ⟨a, _, rfl⟩ := List.mem_map.1 hx; rfl
theorem dP_mp (xs : List (Int × Int)) : ∀ (m : D → D), ∀ x ∈ dP xs, mpS m x = x := fun m x hx => by
  obtain ⟨a, _, rfl⟩ := List.mem_map.1 hx; rfl
theorem ne_map {α β : Type} {f : α → β} {xs : List α} (h : 0 < xs.length) : xs.map f ≠ [] := by
  cases xs with
  | nil => simp at h
  | cons a r => simp
theorem take_splice {w z : List D} {m : Nat} (h : m ≤ w.length) : (splice w m z).take m = w.take m := by
  unfold splice
  rw [List.append_assoc, List.take_append, List.length_take, Nat.min_eq_left h, Nat.sub_self, List.take_zero, List.append_nil, List.take_take, Nat.min_self]
theorem del_some {α : Type} {f : α → D} {xs : List α} {i j : Nat} (z : List D) (hi : i ≤ j) (hj : j ≤ xs.length) :
    (splice (splice (xs.map f) i ((xs.drop j).map f)) (i + (xs.length - j)) z).take (i + (xs.length - j)) = (xs.take i ++ xs.drop j).map f := by
  rw [take_splice (by rw [splice_len (by simp; omega)]; simp; omega)]
  unfold splice
  rw [List.take_append_of_le_length (by simp; omega), List.take_of_length_le (by simp; omega)]
  simp [List.map_append, List.map_take]
theorem del_none {α : Type} {f : α → D} {xs : List α} {i j : Nat} (z : List D) (hi : i ≤ j) (hj : j ≤ xs.length) (hd : (xs.drop j).map f = []) :
    (splice (xs.map f) i z).take i = (xs.take i ++ xs.drop j).map f := by
  rw [take_splice (by simp; omega), List.map_append, hd]
  simp [List.map_take]
theorem drop_elems {α : Type} {f : α → D} {xs : List α} {o j n' ty sz : Nat} {S : Store} (c : Nat) (hS : S[o]? = some (some ⟨ty, sz, xs.map f⟩)) (hj : j + n' = xs.length) : elemsOf S sz (.sub o j n' c) = some ((xs.drop j).map f) := by
  simp only [elemsOf]
  rw [hS]
  dsimp only
  rw [if_pos ⟨rfl, by simp; omega⟩, List.take_of_length_le (by simp; omega), List.map_drop]
theorem splice_le {w z : List D} {p n : Nat} (h : n ≤ w.length) (hp : p ≤ w.length) : n ≤ (splice w p z).length := by
  rw [splice_len hp]; omega
theorem splice_nil (w : List D) (p : Nat) : splice w p [] = w := by
  unfold splice
  simp
/-- append where there is room -/
theorem q_app_in {P : Program} {sf : SM} {r : RT} {L : List (Nat × D)} {S : Store} {K : Env → Store → Prop} {t : Nat} {ty sz bytes m : Nat} {x y : Opd} {ys : List D} {o off n cap : Nat} {ob : Ob} (hx : ev (env L) x = .sub o off n cap) (hy : elemsOf S sz (ev (env L) y) = some ys) (hc : ys.all cellOK = true) (hS : S[o]? = some (some ob)) (hz : ob.sz = sz) (hl : off + n ≤ ob.xs.length)
    (hm : ys.length = m) (hcap : n + m ≤ cap) (hs : sOK sf (S.set o (some { ob with xs := splice ob.xs (off + n) ys })))
    (h : RG P sf r (env ((t, .sub o off (n + m) cap) :: L)) (S.set o (some { ob with xs := splice ob.xs (off + n) ys })) K) : RG P sf (.op ⟨some t, none, .app ty sz bytes x y⟩ r) (env L) S K := by
  subst hm
  refine q_app_s hx hy hc hS hz hl rfl rfl (fun h0 => ?_) (fun _ _ => ⟨hs, h⟩) (fun _ h2 => by omega)
  subst h0
  have e : S.set o (some { ob with xs := splice ob.xs (off + n) [] }) = S := by
    rw [splice_nil]
    have ho := List.getElem?_eq_some_iff.1 hS
    obtain ⟨ho1, ho2⟩ := ho
    have : (some { ob with xs := ob.xs } : Option Ob) = S[o] := by rw [ho2]
    rw [this, List.set_getElem_self]
  rw [e] at hs h
  exact ⟨hs, h⟩
theorem q_sub_to {P : Program} {sf : SM} {r : RT} {L : List (Nat × D)} {S : Store} {K : Env → Store → Prop} {t : Nat} {x y : Opd} {k : IntKind} {a b : Int} (c : Int) (hx : ev (env L) x = .pv (.int k a)) (hy : ev (env L) y = .pv (.int k b)) (e : a - b = c) (hr : inR k c) (h : RG P sf r (env ((t, .pv (.int k c)) :: L)) S K) :
    RG P sf (.op ⟨some t, none, .bin .sub x y⟩ r) (env L) S K := q_sub hx hy (e ▸ hr) (e ▸ h)
end Go.V

namespace Go.V
theorem pw_of_rising {xs : List Int} (h : ∀ j, j + 1 < xs.length → nth xs j < nth xs (j + 1)) : xs.Pairwise (· < ·) := by
  rw [List.pairwise_iff_getElem]
  intro i j hi hj hij
  have main : ∀ d, i + 1 + d < xs.length → nth xs i < nth xs (i + 1 + d) := by
    intro d
    induction d with
    | zero => intro h1; exact h i h1
    | succ d ih => intro h1; have := ih (by omega); have := h (i + 1 + d) (by omega); rw [← Nat.add_assoc]; omega
  have := main (j - i - 1) (by omega)
  rw [show i + 1 + (j - i - 1) = j by omega, nth_eq hi, nth_eq hj] at this
  exact this
theorem rising_pw {xs : List Int} : rising xs = true ↔ xs.Pairwise (· < ·) := by
  rw [rising_iff]
  constructor
  · exact pw_of_rising
  · intro h j hj
    rw [nth_eq (by omega), nth_eq hj]
    exact List.pairwise_iff_getElem.1 h j (j + 1) (by omega) hj (by omega)
theorem goodKeys_iff {xs : List Int} : goodKeys xs = true ↔ xs.Pairwise (· < ·) ∧ ∀ x ∈ xs, 0 ≤ x ∧ x ≤ 99 := by
  simp only [goodKeys, Bool.and_eq_true, rising_pw, List.all_eq_true, decide_eq_true_eq]
theorem good_filter {xs : List Int} (q : Int → Bool) (h : goodKeys xs = true) : goodKeys (xs.filter q) = true := by
  rw [goodKeys_iff] at h ⊢
  exact ⟨h.1.filter _, fun x hx => h.2 x (List.mem_filter.1 hx).1⟩
/-- without a key -/
def rmK (xs : List Int) (k : Int) : List Int := xs.take (upTo xs (k - 1)) ++ xs.drop (upTo xs (k - 1) + 1)
theorem upTo_cons_le {x : Int} {xs : List Int} {k : Int} (h : x ≤ k) : upTo (x :: xs) k = upTo xs k + 1 := by simp [upTo, h]
theorem upTo_cons_gt {x : Int} {xs : List Int} {k : Int} (h : k < x) : upTo (x :: xs) k = 0 := by simp [upTo, show ¬ x ≤ k by omega]
theorem rmK_filter_pw {k : Int} : ∀ {xs : List Int}, xs.Pairwise (· < ·) → k ∈ xs → rmK xs k = xs.filter fun x => decide (x ≠ k)
  | x :: xs, h, hk => by
    rw [List.pairwise_cons] at h
    by_cases hx : x ≤ k - 1
    · have hk' : k ∈ xs := by
        rcases List.mem_cons.1 hk with e | e
        · omega
        · exact e
      have ih := rmK_filter_pw h.2 hk'
      simp only [rmK] at ih ⊢
      rw [upTo_cons_le hx, List.take_succ_cons, List.drop_succ_cons, List.filter_cons, if_pos (by simp; omega), ← ih]
      rfl
    · have e : x = k := by
        rcases List.mem_cons.1 hk with e | e
        · exact e.symm
        · have := h.1 k e; omega
      subst e
      simp only [rmK]
      rw [upTo_cons_gt (by omega), List.filter_cons, if_neg (by simp)]
      simp only [List.take_zero, List.nil_append, Nat.zero_add, List.drop_succ_cons, List.drop_zero]
      rw [List.filter_eq_self.2]
      intro y hy
      have := h.1 y hy
      simp; omega
theorem rmK_filter {k : Int} {xs : List Int} (h : goodKeys xs = true) (hk : xs.contains k = true) : rmK xs k = xs.filter fun x => decide (x ≠ k) :=
  rmK_filter_pw (goodKeys_iff.1 h).1 (by simpa using hk)
theorem contains_below {xs : List Int} {k : Int} (h : goodKeys xs = true) : xs.contains k = (decide (upTo xs (k - 1) < xs.length) && decide (nth xs (upTo xs (k - 1)) = k)) := by
  have hr := good_rising h
  by_cases he : upTo xs (k - 1) < xs.length ∧ nth xs (upTo xs (k - 1)) = k
  · rw [decide_eq_true he.1, decide_eq_true he.2]
    exact has_true _ he.1 he.2
  · rw [show (decide (upTo xs (k - 1) < xs.length) && decide (nth xs (upTo xs (k - 1)) = k)) = false by
      by_cases h1 : upTo xs (k - 1) < xs.length
      · simp [h1]; exact fun e => he ⟨h1, e⟩
      · simp [h1]]
    refine has_false fun j hj e => ?_
    rcases Nat.lt_or_ge j (upTo xs (k - 1)) with hlt | hge
    · have := upTo_lt hlt; omega
    · have h1 := upTo_at (xs := xs) (k := k - 1) (by omega)
      have h2 := rising_le hr hge hj
      exact he ⟨by omega, by omega⟩
theorem rmK_len {xs : List Int} {k : Int} : (rmK xs k).length ≤ xs.length := by simp [rmK]; omega
theorem PCon.eqT {α : Type} [DecidableEq α] {P : Program} {f : FuncId} {args : List PV} {xs ys : α} (h : PCon P f args (fun p => p = .bool (decide (xs = ys)))) (e : xs = ys) : PCon P f args (fun p => p = .bool true) :=
  h.mono fun p e1 => e1.trans (by rw [decide_eq_true e])
theorem PCon.to {P : Program} {f : FuncId} {args : List PV} {x y : PV} (h : PCon P f args (fun p => p = x)) (e : x = y) : PCon P f args (fun p => p = y) := h.mono fun p e1 => e1.trans e
theorem list_ext_nth {α : Type} [Inhabited α] {xs ys : List α} (hl : xs.length = ys.length) (h : ∀ j, j < xs.length → nth xs j = nth ys j) : xs = ys :=
  List.ext_getElem hl fun j h1 h2 => by have := h j h1; rwa [nth_eq h1, nth_eq h2] at this
end Go.V
namespace Go.V
theorem contains_filter {xs : List Int} {q : Int → Bool} {k : Int} (h : xs.contains k = true) (hq : q k = true) : (xs.filter q).contains k = true := by
  rw [List.contains_iff_mem] at h ⊢
  exact List.mem_filter.2 ⟨h, hq⟩
/-- what FnRemoveKeyOrder comes to -/
theorem rm_order {xs : List Int} {k : Int} (hg : goodKeys xs = true) (hk : xs.contains k = true) (hne : 0 < (rmK xs k).length) :
    (goodKeys (rmK xs k) && (rmK xs k).contains (nth (rmK xs k) 0)) = true ∧ (goodKeys xs && xs.contains (nth (rmK xs k) 0)) = true ∧
    (goodKeys (rmK xs (nth (rmK xs k) 0)) && (rmK xs (nth (rmK xs k) 0)).contains k) = true ∧ rmK (rmK xs k) (nth (rmK xs k) 0) = rmK (rmK xs (nth (rmK xs k) 0)) k := by
  have e1 := rmK_filter hg hk
  have hm : nth (rmK xs k) 0 ∈ rmK xs k := nth_mem hne
  generalize nth (rmK xs k) 0 = o at hm ⊢
  rw [e1] at hm ⊢
  obtain ⟨ho, hok⟩ := List.mem_filter.1 hm
  have hok' : o ≠ k := by simpa using hok
  have ho' : xs.contains o = true := by simpa using ho
  have c1 := contains_filter (q := fun x => decide (x ≠ k)) ho' (by simpa using hok')
  have c2 := contains_filter (q := fun x => decide (x ≠ o)) hk (by simpa using hok'.symm)
  rw [rmK_filter hg ho', rmK_filter (good_filter _ hg) c1, rmK_filter (good_filter _ hg) c2, good_filter _ hg, good_filter _ hg, hg, c1, c2, ho', List.filter_filter, List.filter_filter]
  refine ⟨rfl, rfl, rfl, ?_⟩
  congr 1
  funext x
  rw [Bool.and_comm]
end Go.V
namespace Go.V
theorem nodup_iff {xs : List Int} : nodupI xs = true ↔ xs.Nodup := by
  rw [List.Nodup, List.pairwise_iff_getElem]
  constructor
  · intro h i j hi hj hij e
    have := nodup_eq h hi hj (by rw [nth_eq hi, nth_eq hj]; exact e)
    omega
  · intro h
    refine nodup_true fun j hj => has_false fun i hi e => ?_
    simp at hi
    rw [nth_eq (by simp; omega), nth_eq hj, List.getElem_take] at e
    exact h i j (by omega) hj (by omega) e
theorem goodInner_iff {ks cs : List Int} : goodInner ks cs = true ↔ cs.Nodup ∧ goodKeys ks = true ∧ (1 ≤ ks.length ∧ ks.length ≤ 5) ∧ cs.length = ks.length + 1 ∧ ∀ c ∈ cs, 0 ≤ c ∧ c ≤ 15 := by
  simp only [goodInner, Bool.and_eq_true, decide_eq_true_eq, nodup_iff, List.all_eq_true]
  constructor
  · rintro ⟨h1, ⟨⟨h2, h3, h4⟩, h5⟩, h6⟩
    exact ⟨h1, h2, ⟨by omega, by omega⟩, by omega, h6⟩
  · rintro ⟨h1, h2, ⟨h3, h4⟩, h5, h6⟩
    exact ⟨h1, ⟨⟨h2, by omega, by omega⟩, by omega⟩, h6⟩
theorem good_sub {xs ys : List Int} (h : goodKeys xs = true) (hs : ys.Sublist xs) : goodKeys ys = true := by
  rw [goodKeys_iff] at h ⊢
  exact ⟨h.1.sublist hs, fun x hx => h.2 x (hs.subset hx)⟩
theorem cut_sub {α : Type} (xs : List α) {a b : Nat} (h : a ≤ b) : (xs.take a ++ xs.drop b).Sublist xs := by
  have h2 : (xs.drop b).Sublist (xs.drop a) := by
    have := List.drop_sublist (b - a) (xs.drop a)
    rwa [List.drop_drop, show a + (b - a) = b by omega] at this
  have := List.Sublist.append (List.Sublist.refl (xs.take a)) h2
  rwa [List.take_append_drop] at this
abbrev cutA (ks : List Int) (m : Nat) : List Int := ks.take (m - 1) ++ ks.drop m
abbrev cutB (cs : List Int) (m : Nat) : List Int := cs.take m ++ cs.drop (m + 1)
def okCut (ks cs : List Int) (m : Nat) : Bool := goodInner ks cs && (decide (1 ≤ m) && decide (m < cs.length) && !decide (ks.length = 1))
theorem okCut_iff {ks cs : List Int} {m : Nat} : okCut ks cs m = true ↔ goodInner ks cs = true ∧ (1 ≤ m ∧ m < cs.length) ∧ ks.length ≠ 1 := by
  simp [okCut, and_assoc]
def cutRes (ks cs : List Int) (m : Nat) : PV := if okCut ks cs m then .tup [innP (cutA ks m) (cutB cs m), .bool true] else .tup [innP [] [], .bool false]
theorem cut_good {ks cs : List Int} {m : Nat} (h : okCut ks cs m = true) : goodInner (cutA ks m) (cutB cs m) = true := by
  rw [okCut_iff] at h
  obtain ⟨h, h0, h1⟩ := h
  rw [goodInner_iff] at h ⊢
  obtain ⟨h2, h3, h4, h5, h6⟩ := h
  refine ⟨h2.sublist (cut_sub cs (by omega)), good_sub h3 (cut_sub ks (by omega)), by simp; omega, by simp; omega, fun c hc => h6 c ((cut_sub cs (by omega)).subset hc)⟩
theorem cut_lenA {ks : List Int} {m : Nat} : (cutA ks m).length ≤ ks.length + 1 := by simp; omega
theorem cut_lenB {ks : List Int} {m : Nat} : (cutB ks m).length ≤ ks.length + 1 := by simp; omega
end Go.V
namespace Go.V
theorem cutRes_t {ks cs : List Int} {m : Nat} (h : okCut ks cs m = true) : cutRes ks cs m = .tup [innP (cutA ks m) (cutB cs m), .bool true] := by rw [cutRes, if_pos h]
theorem cutRes_f {ks cs : List Int} {m : Nat} (h : okCut ks cs m = false) : cutRes ks cs m = .tup [innP [] [], .bool false] := by rw [cutRes, if_neg (by simp [h])]
theorem nth_take {α : Type} [Inhabited α] {xs ys : List α} {n i : Nat} (h : i < n) (hn : n ≤ xs.length) : nth (xs.take n ++ ys) i = nth xs i := by
  rw [nth_eq (by simp; omega), nth_eq (by omega), List.getElem_append_left (by simp; omega), List.getElem_take]
/-- what FnCutKidRoute comes to -/
theorem cut_route {ks cs : List Int} {m : Nat} (h : okCut ks cs m = true) : nth (cutB cs m) (upTo (cutA ks m) (nth ks (m - 1))) = nth cs (m - 1) ∧ (cutB cs m).contains (nth cs m) = false := by
  obtain ⟨hg, ⟨h1, h2⟩, h3⟩ := okCut_iff.1 h
  have hl := goodInner_len hg
  have hk := goodInner_keys hg
  have hr := good_rising hk
  constructor
  · have e : upTo (cutA ks m) (nth ks (m - 1)) = m - 1 := by
      refine upTo_eq (by simp; omega) (fun j hj => ?_) (fun hlt => ?_)
      · rw [nth_take hj (by omega)]
        exact rising_le hr (by omega) (by omega)
      · simp at hlt
        have e2 : nth (cutA ks m) (m - 1) = nth ks m := by
          rw [nth_eq (by simp; omega), nth_eq (by omega), List.getElem_append_right (by simp; omega)]
          simp
          congr 1
          omega
        rw [e2]
        have := rising_iff.1 hr (m - 1) (by omega)
        rwa [show m - 1 + 1 = m by omega] at this
    rw [e, nth_take (by omega) (by omega)]
  · have hn := goodInner_nodup hg
    refine has_false fun j hj e => ?_
    simp at hj
    by_cases hjm : j < m
    · rw [nth_take hjm (by omega)] at e
      have := nodup_eq hn (by omega) h2 e
      omega
    · have e2 : nth (cutB cs m) j = nth cs (j + 1) := by
        rw [nth_eq (by simp; omega), nth_eq (by omega), List.getElem_append_right (by simp; omega)]
        simp
        congr 1
        omega
      rw [e2] at e
      have := nodup_eq hn (by omega) h2 e
      omega
end Go.V

namespace Go.V
/-- a function that draws and gives a fresh slice -/
def RdN (P : Program) (f : FuncId) (ty : Nat) (bs : List Int) (p : Int) (args : List PV) {α : Type} (g : α → PV) (ty2 sz : Nat) (Q : List α → Int → Prop) : Prop :=
  CallS P f (.ptr 0 0 0 :: args.map .pv) [some (rdr ty bs p)] (fun d S => ∃ xs q, Q xs q ∧ d = ownD 1 (xs.map fun a => D.pv (g a)) ∧ S = [some (rdr ty bs q), obD ty2 sz (xs.map fun a => D.pv (g a))])
theorem fwd_own {o n : Nat} : ∀ {xs : List D}, mpD (fwd [o] n) (ownD 1 xs) = ownD n xs
  | [] => rfl
  | _ :: _ => by simp [ownD, mpD, mpS, mp1, mp0, fwd, extO]
section q
variable {P : Program} {sf : SM} {r : RT} {L : List (Nat × D)} {S : Store} {K : Env → Store → Prop} {t : Nat}
theorem q_rdn {f : FuncId} {ty : Nat} {bs : List Int} {p : Int} {args' : List Opd} {args : List PV} {o : Nat} {α : Type} {g : α → PV} {ty2 sz : Nat} {Q : List α → Int → Prop} (hm : cOK sf = true) (hc : RdN P f ty bs p args g ty2 sz Q) (hg : ∀ (m : D → D) a, mpS m (.pv (g a)) = .pv (g a))
    (ha : args'.map (ev (env L)) = .ptr o 0 0 :: args.map .pv) (hS : S[o]? = some (some (rdr ty bs p))) (hs : ∀ (xs : List α) (q : Int), sOK sf (S.set o (some (rdr ty bs q)) ++ [obD ty2 sz (xs.map fun a => D.pv (g a))]))
    (h : ∀ (xs : List α) (q : Int), Q xs q → RG P sf r (env ((t, ownD S.length (xs.map fun a => D.pv (g a))) :: L)) (S.set o (some (rdr ty bs q)) ++ [obD ty2 sz (xs.map fun a => D.pv (g a))]) K) : RG P sf (.op ⟨some t, none, .call f args'⟩ r) (env L) S K := by
  have ho : o < S.length := (List.getElem?_eq_some_iff.1 hS).1
  refine q_call hm ?_
  rw [ha]
  have e1 : subS [o] S = [some (rdr ty bs p)] := by simp [subS, List.getD_eq_getElem?_getD, hS, mpOb_rdr]
  have e2 : (.ptr o 0 0 :: args.map D.pv).map (mpD (inv [o])) = .ptr 0 0 0 :: args.map .pv := by
    simp only [List.map_cons, List.map_map]
    rw [show mpD (inv [o]) (D.ptr o 0 0) = .ptr 0 0 0 by simp [mpD, mpS, mp1, mp0, inv, posOf_single]]
    exact congrArg (D.ptr 0 0 0 :: ·) (List.map_congr_left fun x _ => mpD_pv _ _)
  refine CallS.frame (c1 := fun d S => ∃ xs q, Q xs q ∧ d = ownD 1 (xs.map fun a => D.pv (g a)) ∧ S = [some (rdr ty bs q), obD ty2 sz (xs.map fun a => D.pv (g a))]) [o] (by simp) (by simpa using ⟨_, hS⟩) ?_ ?_
  · rw [e1, e2]; exact hc
  · rintro d S1 ⟨xs, q, hq, rfl, rfl⟩
    rw [mergeS_one ho, fwd_own]
    have e3 : (obD ty2 sz (xs.map fun a => D.pv (g a))).map (mpOb (fwd [o] S.length)) = obD ty2 sz (xs.map fun a => D.pv (g a)) := obD_m xs fun a => hg _ a
    have := hs xs q
    have := h xs q hq
    simp only [List.getD_eq_getElem?_getD, List.getElem?_cons_zero, Option.getD_some, Option.map_some, mpOb_rdr, List.drop_succ_cons, List.drop_zero, List.map_cons, List.map_nil, e3]
    exact ⟨‹_›, ‹_›⟩
end q
/-! rows -/
abbrev keysR (xs : List (Int × Int)) : List Int := xs.map Prod.fst
def okVals (xs : List (Int × Int)) : Bool := xs.all fun x => decide (-1000 ≤ x.2) && decide (x.2 ≤ 1000)
def goodR (xs : List (Int × Int)) : Bool := okVals xs && (decide (xs.length ≤ 24) && goodKeys (keysR xs))
def atR (xs : List (Int × Int)) (k : Int) : Nat := upTo (keysR xs) (k - 1)
def thereR (xs : List (Int × Int)) (k : Int) : Bool := decide (atR xs k < xs.length) && decide ((nth xs (atR xs k)).1 = k)
def putR (xs : List (Int × Int)) (x : Int × Int) : List (Int × Int) := xs.take (atR xs x.1) ++ [x] ++ xs.drop (if thereR xs x.1 then atR xs x.1 + 1 else atR xs x.1)
def bdP (n : Int) (xs : List (Int × Int)) : Prop := ∀ x ∈ xs, (-n ≤ x.1 ∧ x.1 ≤ n) ∧ -n ≤ x.2 ∧ x.2 ≤ n
theorem nth_keys {xs : List (Int × Int)} {i : Nat} (h : i < xs.length) : nth (keysR xs) i = (nth xs i).1 := by
  rw [nth_eq (by simpa using h), nth_eq h]; simp
theorem atR_le (xs : List (Int × Int)) (k : Int) : atR xs k ≤ xs.length := by
  have := upTo_le (keysR xs) (k - 1); simpa [atR] using this
theorem putR_len {xs : List (Int × Int)} {x : Int × Int} : (putR xs x).length ≤ xs.length + 1 := by
  have := atR_le xs x.1
  simp only [putR, List.length_append, List.length_take, List.length_cons, List.length_nil, List.length_drop]
  split <;> omega
theorem bdP.put {n : Int} {xs : List (Int × Int)} {x : Int × Int} (h : bdP n xs) (hx : (-n ≤ x.1 ∧ x.1 ≤ n) ∧ -n ≤ x.2 ∧ x.2 ≤ n) : bdP n (putR xs x) := fun y hy => by
  simp only [putR, List.mem_append, List.mem_singleton] at hy
  rcases hy with (hy | rfl) | hy
  · exact h y (List.mem_of_mem_take hy)
  · exact hx
  · exact h y (List.mem_of_mem_drop hy)
theorem bdP.nil {n : Int} : bdP n [] := fun y hy => by cases hy
theorem bdP.app {n : Int} {xs ys : List (Int × Int)} (h : bdP n xs) (k : bdP n ys) : bdP n (xs ++ ys) := fun y hy => (List.mem_append.1 hy).elim (h y) (k y)
theorem bdP.one {n : Int} {x : Int × Int} (hx : (-n ≤ x.1 ∧ x.1 ≤ n) ∧ -n ≤ x.2 ∧ x.2 ≤ n) : bdP n [x] := fun y hy => by simp at hy; subst hy; exact hx
theorem take_succ_nth {α : Type} [Inhabited α] {xs : List α} {i : Nat} (h : i < xs.length) : xs.take (i + 1) = xs.take i ++ [nth xs i] := by
  rw [List.take_add_one, List.getElem?_eq_getElem h, nth_eq h]; rfl
end Go.V
namespace Go.V
theorem okVals_false {xs : List (Int × Int)} (i : Nat) (h : i < xs.length) (hq : (decide (-1000 ≤ (nth xs i).2) && decide ((nth xs i).2 ≤ 1000)) = false) : okVals xs = false := by
  rw [okVals, List.all_eq_false]
  refine ⟨nth xs i, nth_mem h, by rw [hq]; simp⟩
theorem okVals_true {xs : List (Int × Int)} (h : ∀ j, j < xs.length → (decide (-1000 ≤ (nth xs j).2) && decide ((nth xs j).2 ≤ 1000)) = true) : okVals xs = true := by
  rw [okVals, List.all_eq_true]
  intro x hx
  obtain ⟨j, hj, rfl⟩ := List.getElem_of_mem hx
  have := h j hj
  rwa [nth_eq hj] at this
end Go.V
namespace Go.V
theorem set_step {xs : List (Int × Int)} {ys : List Int} {i : Nat} (h : i < xs.length) (hy : i < ys.length) (g : ys.take i = keysR (xs.take i)) : (ys.set i (nth xs i).1).take (i + 1) = keysR (xs.take (i + 1)) := by
  rw [take_succ_nth h, take_succ_nth (by simpa using hy), List.take_set_of_le (Nat.le_refl _), g, nth_eq (by simpa using hy)]
  simp
end Go.V
namespace Go.V
theorem q_store_e {P : Program} {sf : SM} {r : RT} {L : List (Nat × D)} {S : Store} {K : Env → Store → Prop} {ty : Nat} {x y : Opd} {o i : Nat} {xs : List Int} {v : Int} (hx : ev (env L) x = .ptr o i 0) (hy : ev (env L) y = .pv (i64 v)) (hS : S[o]? = some (some ⟨ty, 1, dI xs⟩)) (hi : i < xs.length) (hs : sOK sf (S.set o (some ⟨ty, 1, dI (xs.set i v)⟩)))
    (h : RG P sf r (env L) (S.set o (some ⟨ty, 1, dI (xs.set i v)⟩)) K) : RG P sf (.op ⟨none, none, .store 1 x y⟩ r) (env L) S K := by
  have e1 : obD ty 1 (dI xs) = some ⟨ty, 1, dI xs⟩ := obD_ne (ne_map (by omega))
  have e2 : obD ty 1 (dI (xs.set i v)) = some ⟨ty, 1, dI (xs.set i v)⟩ := obD_ne (ne_map (by simp; omega))
  exact q_store_d hx hy (by rw [e1]; exact hS) hi (by rw [e2]; exact hs) (by rw [e2]; exact h)
theorem Bd.pureO {k0 : Nat} {L : List (Nat × D)} {S : Store} {R : Env → Store → Prop} (t o : Nat) {n : Nat} {ob : Ob} {ps : List PV} (ht : env L t = .own o n) (hS : S[o]? = some (some ob)) (hn : ob.xs.length = n) (hps : toPVs ob.xs = some ps)
    (h : R (env ((t, .pv (.sl ps)) :: L)) (S.set o none)) : Bd k0 (env L) S R := by
  by_cases h0 : n = 0
  · subst h0
    have hx : ob.xs = [] := List.length_eq_zero_iff.1 hn
    rw [hx] at hps
    simp [toPVs] at hps
    subst hps
    refine Bd.then (Bd.open t (R := fun E S' => ∃ cap, E = env ((t, .sub o 0 0 cap) :: L) ∧ S' = S) ht fun cap _ _ => ⟨cap, rfl, rfl⟩) ?_
    rintro E2 S2 ⟨cap, hE, hS2⟩
    rw [hE, hS2]; clear hE hS2 E2 S2
    refine Bd.then (Bd.sub0 t (R := fun E S' => E = env ((t, .pv (.sl [])) :: L) ∧ S' = S) (by rw [env_cons, if_pos rfl]) ⟨by rw [env_dup], rfl⟩) ?_
    rintro E2 S2 ⟨hE, hS2⟩
    rw [hE, hS2]; clear hE hS2 E2 S2
    exact Bd.drop o h
  · have hne : ob.xs ≠ [] := fun e => by rw [e] at hn; simp at hn; omega
    exact Bd.pure t o ob.ty ob.sz (xs := ob.xs) (by rw [ht, ownD_ne hne, hn]) (by rw [hS, obD_ne hne]) hps h
theorem Bd.pureOB {k0 : Nat} {L : List (Nat × D)} {S : Store} {R : Env → Store → Prop} (t o : Nat) {n : Nat} {ob : Ob} {ps : List PV} (ht : env L t = .own o n) (hS : S[o]? = some (some ob)) (hn : ob.xs.length = n) (hps : toPVs ob.xs = some ps)
    (h : Bd k0 (env ((t, .pv (.sl ps)) :: L)) (S.set o none) R) : Bd k0 (env L) S R :=
  Bd.then (Bd.pureO t o (R := fun E S' => E = env ((t, .pv (.sl ps)) :: L) ∧ S' = S.set o none) ht hS hn hps ⟨rfl, rfl⟩) (by rintro E2 S2 ⟨hE, hS2⟩; rw [hE, hS2]; exact h)
end Go.V
namespace Go.V
theorem mpO_I {ty sz : Nat} {m : D → D} (xs : List Int) : (some (⟨ty, sz, dI xs⟩ : Ob)).map (mpOb m) = some ⟨ty, sz, dI xs⟩ := by
  rw [Option.map_some, mpOb_pvs (dI_mp xs m)]
theorem mpO_P {ty sz : Nat} {m : D → D} (xs : List (Int × Int)) : (some (⟨ty, sz, dP xs⟩ : Ob)).map (mpOb m) = some ⟨ty, sz, dP xs⟩ := by
  rw [Option.map_some, mpOb_pvs (dP_mp xs m)]
end Go.V
namespace Go.V
theorem there_contains {xs : List (Int × Int)} {k : Int} (h : goodKeys (keysR xs) = true) : (keysR xs).contains k = thereR xs k := by
  rw [contains_below h, thereR, atR]
  by_cases h1 : upTo (keysR xs) (k - 1) < xs.length
  · rw [nth_keys h1, List.length_map]
  · simp [h1]
def valR (xs : List (Int × Int)) (k : Int) : PV := if goodR xs && thereR xs k then .tup [i64 (nth xs (atR xs k)).2, .bool true] else .tup [i64 0, .bool false]
theorem goodR_keys {xs : List (Int × Int)} (h : goodR xs = true) : goodKeys (keysR xs) = true := by
  simp only [goodR, Bool.and_eq_true] at h; exact h.2.2
theorem goodR_len {xs : List (Int × Int)} (h : goodR xs = true) : xs.length ≤ 24 := by
  simp only [goodR, Bool.and_eq_true, decide_eq_true_eq] at h; exact h.2.1
theorem thereR_lt {xs : List (Int × Int)} {k : Int} (h : thereR xs k = true) : atR xs k < xs.length ∧ (nth xs (atR xs k)).1 = k := by
  simpa [thereR] using h
theorem bdP.keys {n : Int} {xs : List (Int × Int)} (h : bdP n xs) : bdI n (keysR xs) := fun j hj => by
  simp at hj
  rw [nth_keys hj]
  have := h _ (nth_mem hj)
  omega
/-- what FnValueIn comes to -/
theorem val_each {xs : List (Int × Int)} (h : goodR xs = true) {i : Nat} (hi : i < xs.length) : valR xs (nth xs i).1 = .tup [i64 (nth xs i).2, .bool true] := by
  have hk := goodR_keys h
  have hr := good_rising hk
  have e : atR xs (nth xs i).1 = i := by
    have := upTo_pred hk (i := i) (by simpa using hi)
    rwa [nth_keys hi] at this
  have e2 : thereR xs (nth xs i).1 = true := by
    simp [thereR, e, hi]
  rw [valR, h, e2, e]
  rfl
end Go.V
namespace Go.V
theorem res_own {E : Env} {S : Store} {t o : Nat} {xs : List D} (h : E t = ownD o xs) : resAll E S [.t t] = some (ownD o xs) := by
  cases xs <;> simp [resAll, resDs, resD, h, ownD, isTupD]
end Go.V
namespace Go.V
theorem bdP.le {n m : Int} {xs : List (Int × Int)} (h : bdP n xs) (hn : n ≤ m) : bdP m xs := fun x hx => by
  have := h x hx; omega
end Go.V
namespace Go.V
theorem valR_good {xs : List (Int × Int)} (h : goodR xs = true) (k : Int) : valR xs k = .tup [i64 (if thereR xs k then (nth xs (atR xs k)).2 else 0), .bool (thereR xs k)] := by
  rw [valR, h, Bool.true_and]
  cases thereR xs k <;> rfl
theorem valR_bad {xs : List (Int × Int)} (h : goodR xs = false) (k : Int) : valR xs k = .tup [i64 0, .bool false] := by
  rw [valR, h]; rfl
end Go.V
namespace Go.V
theorem q_quo_to {P : Program} {sf : SM} {r : RT} {L : List (Nat × D)} {S : Store} {K : Env → Store → Prop} {t : Nat} {x y : Opd} {a b : Int} (c : Int) (hx : ev (env L) x = .pv (.int .i64 a)) (hy : ev (env L) y = .pv (.int .i64 b)) (hr : 0 ≤ a ∧ 0 < b) (e : a / b = c) (hc : inR .i64 c) (h : RG P sf r (env ((t, .pv (.int .i64 c)) :: L)) S K) :
    RG P sf (.op ⟨some t, none, .bin .quo x y⟩ r) (env L) S K := q_quo hx hy ⟨hr.1, hr.2, e ▸ hc⟩ (e ▸ h)
end Go.V
namespace Go.V
abbrev halfR (xs : List (Int × Int)) : Nat := (xs.length + 1) / 2
def splA (xs : List (Int × Int)) : List (Int × Int) := if goodR xs then xs.take (halfR xs) else []
def splB (xs : List (Int × Int)) : List (Int × Int) := if goodR xs then xs.drop (halfR xs) else []
end Go.V
namespace Go.V
def GrowS (P : Program) (f : FuncId) (ty sz n : Nat) : Prop := CallS P f [.nils, .pv (i64 n)] [] (fun d S => (n = 0 ∧ d = .nils ∧ S = []) ∨ (0 < n ∧ d = .own 0 0 ∧ S = [some ⟨ty, sz, []⟩]))
theorem q_grow {P : Program} {sf : SM} {r : RT} {L : List (Nat × D)} {S : Store} {K : Env → Store → Prop} {t : Nat} {f : FuncId} {ty sz n : Nat} {args' : List Opd} (hm : cOK sf = true) (hc : GrowS P f ty sz n) (ha : args'.map (ev (env L)) = [.nils, .pv (i64 n)]) (hs : sOK sf S) (hs2 : sOK sf (S ++ [some ⟨ty, sz, []⟩]))
    (h0 : n = 0 → RG P sf r (env ((t, .nils) :: L)) S K) (h1 : 0 < n → RG P sf r (env ((t, .own S.length 0) :: L)) (S ++ [some ⟨ty, sz, []⟩]) K) : RG P sf (.op ⟨some t, none, .call f args'⟩ r) (env L) S K := by
  refine q_call hm ?_
  rw [ha]
  refine CallS.frame (c1 := fun d S => (n = 0 ∧ d = .nils ∧ S = []) ∨ (0 < n ∧ d = .own 0 0 ∧ S = [some ⟨ty, sz, []⟩])) [] (by simp) (by simp) hc ?_
  rintro d S1 (⟨hn, rfl, rfl⟩ | ⟨hn, rfl, rfl⟩)
  · rw [mergeS_nil]
    exact ⟨by simpa using hs, by simpa [mpD, mpS, mp1, mp0, fwd] using h0 hn⟩
  · rw [mergeS_nil]
    exact ⟨by simpa [mpOb] using hs2, by simpa [mpD, mpS, mp1, mp0, fwd, extO, mpOb] using h1 hn⟩
theorem q_add_to {P : Program} {sf : SM} {r : RT} {L : List (Nat × D)} {S : Store} {K : Env → Store → Prop} {t : Nat} {x y : Opd} {k : IntKind} {a b : Int} (c : Int) (hx : ev (env L) x = .pv (.int k a)) (hy : ev (env L) y = .pv (.int k b)) (e : a + b = c) (hr : inR k c) (h : RG P sf r (env ((t, .pv (.int k c)) :: L)) S K) :
    RG P sf (.op ⟨some t, none, .bin .add x y⟩ r) (env L) S K := q_add hx hy (e ▸ hr) (e ▸ h)
theorem flat_step {α : Type} {xss : List (List α)} {i : Nat} (h : i < xss.length) : (xss.take (i + 1)).flatten = (xss.take i).flatten ++ nth xss i := by
  rw [take_succ_nth h]; simp
theorem flat_le {α : Type} (xss : List (List α)) (i : Nat) : (xss.take i).flatten.length ≤ xss.flatten.length := by
  have : xss.flatten = (xss.take i).flatten ++ (xss.drop i).flatten := by rw [← List.flatten_append, List.take_append_drop]
  rw [this, List.length_append]; omega
end Go.V
namespace Go.V
/-- what slices.Concat gathers: nil while nothing may come, else an own slice -/
def gathD (z : Bool) (n : Nat) : D := if z then .nils else .own 0 n
def gathO (z : Bool) (ty sz : Nat) (xs : List D) : Store := if z then [] else [some ⟨ty, sz, xs⟩]
end Go.V
namespace Go.V
theorem q_app_om {P : Program} {sf : SM} {r : RT} {L : List (Nat × D)} {S : Store} {K : Env → Store → Prop} {t : Nat} {α : Type} {g : α → D} {ty sz bytes : Nat} {x y : Opd} {xs ys : List α} {o : Nat} (hx : ev (env L) x = .own o xs.length) (hy : elemsOf S sz (ev (env L) y) = some (ys.map g)) (hc : (ys.map g).all cellOK = true) (hS : S[o]? = some (some ⟨ty, sz, xs.map g⟩))
    (hb : (xs.length + ys.length) * bytes ≤ 140737488355328 ∧ xs.length + ys.length ≤ maxLen) (hs : sOK sf S) (hs1 : sOK sf (S.set o none ++ [some ⟨ty, sz, (xs ++ ys).map g⟩]))
    (h0 : ys = [] → RG P sf r (env ((t, .own o xs.length) :: L)) S K)
    (h1 : ys ≠ [] → RG P sf r (env ((t, .own S.length (xs ++ ys).length) :: L)) (S.set o none ++ [some ⟨ty, sz, (xs ++ ys).map g⟩]) K) : RG P sf (.op ⟨some t, none, .app ty sz bytes x y⟩ r) (env L) S K := by
  refine q_app_o hx hy hc (fun e => ⟨hs, h0 (List.map_eq_nil_iff.1 e)⟩) hS rfl rfl (by simp) fun e => ⟨by simpa using hb, ?_, ?_⟩
  · simpa [List.map_append] using hs1
  · have := h1 fun e2 => e (by rw [e2]; rfl)
    simpa [List.map_append] using this
end Go.V
namespace Go.V
def joinOK (xs ys : List (Int × Int)) : Bool := goodR xs && goodR ys && goodR (xs ++ ys)
def joinR (xs ys : List (Int × Int)) : PV := if joinOK xs ys then .tup [prs (xs ++ ys), .bool true] else .tup [prs [], .bool false]
theorem joinR_t {xs ys : List (Int × Int)} (h : joinOK xs ys = true) : joinR xs ys = .tup [prs (xs ++ ys), .bool true] := by rw [joinR, if_pos h]
theorem joinR_f {xs ys : List (Int × Int)} (h : joinOK xs ys = false) : joinR xs ys = .tup [prs [], .bool false] := by rw [joinR, if_neg (by simp [h])]
end Go.V

namespace Go.V
theorem goodR_iff {xs : List (Int × Int)} : goodR xs = true ↔ (∀ x ∈ xs, -1000 ≤ x.2 ∧ x.2 ≤ 1000) ∧ xs.length ≤ 24 ∧ goodKeys (keysR xs) = true := by
  simp [goodR, okVals]
theorem goodR_sub {xs ys : List (Int × Int)} (h : goodR xs = true) (hs : ys.Sublist xs) : goodR ys = true := by
  rw [goodR_iff] at h ⊢
  exact ⟨fun x hx => h.1 x (hs.subset hx), Nat.le_trans hs.length_le h.2.1, good_sub h.2.2 (hs.map _)⟩
theorem joinOK_iff {xs ys : List (Int × Int)} : joinOK xs ys = true ↔ goodR (xs ++ ys) = true := by
  simp only [joinOK, Bool.and_eq_true]
  exact ⟨fun h => h.2, fun h => ⟨⟨goodR_sub h (List.sublist_append_left _ _), goodR_sub h (List.sublist_append_right _ _)⟩, h⟩⟩
theorem join_lt {xs ys : List (Int × Int)} (h : joinOK xs ys = true) : ∀ x ∈ xs, ∀ y ∈ ys, x.1 < y.1 := by
  rw [joinOK_iff, goodR_iff] at h
  have h1 := (goodKeys_iff.1 h.2.2).1
  unfold keysR at h1
  rw [List.map_append, List.pairwise_append] at h1
  exact fun x hx y hy => h1.2.2 x.1 (List.mem_map_of_mem hx) y.1 (List.mem_map_of_mem hy)
theorem join_back {xs ys : List (Int × Int)} (h : joinOK xs ys = true) : joinOK ys xs = (decide ((xs.length : Int) = 0) || decide ((ys.length : Int) = 0)) := by
  by_cases hx : xs = []
  · subst hx
    rw [joinOK_iff] at h
    simp only [List.length_nil, List.nil_append] at h ⊢
    exact joinOK_iff.2 (by simpa using h)
  · by_cases hy : ys = []
    · subst hy
      rw [joinOK_iff] at h
      simp only [List.length_nil, List.append_nil] at h ⊢
      rw [joinOK_iff.2 (by simpa using h)]
      simp
    · have e1 : ¬ (xs.length : Int) = 0 := fun e => hx (List.length_eq_zero_iff.1 (by omega))
      have e2 : ¬ (ys.length : Int) = 0 := fun e => hy (List.length_eq_zero_iff.1 (by omega))
      rw [decide_eq_false e1, decide_eq_false e2]
      refine Bool.eq_false_iff.2 fun hb => ?_
      obtain ⟨x, hx'⟩ := List.exists_mem_of_ne_nil _ hx
      obtain ⟨y, hy'⟩ := List.exists_mem_of_ne_nil _ hy
      have a1 := join_lt h x hx' y hy'
      have a2 := join_lt hb y hy' x hx'
      omega
theorem spl_join {xs : List (Int × Int)} (h : goodR xs = true) : joinOK (xs.take (halfR xs)) (xs.drop (halfR xs)) = true := by
  rw [joinOK_iff, List.take_append_drop]; exact h
theorem spl_t {xs : List (Int × Int)} (h : goodR xs = true) : splA xs = xs.take (halfR xs) ∧ splB xs = xs.drop (halfR xs) := by simp [splA, splB, h]
theorem spl_f {xs : List (Int × Int)} (h : goodR xs = false) : splA xs = [] ∧ splB xs = [] := by simp [splA, splB, h]
theorem join_len {xs ys : List (Int × Int)} (h : joinOK xs ys = true) : xs.length + ys.length ≤ 24 := by
  rw [joinOK_iff] at h
  simpa using goodR_len h
end Go.V
namespace Go.V
theorem joinR_b {xs ys : List (Int × Int)} : joinR xs ys = .tup [prs (if joinOK xs ys then xs ++ ys else []), .bool (joinOK xs ys)] := by
  rw [joinR]; cases joinOK xs ys <;> rfl
end Go.V

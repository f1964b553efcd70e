/- A part of the proofs about laws of the page tree (see the text that bears the law): a small language of steps, its rules, and what the functions of the program return. -/
import Derived.Test.YtjbihdcdamchnaaVQ
set_option linter.all false
set_option linter.unusedVariables false
set_option linter.unusedSimpArgs false
namespace Go.V
/-! ## plain words and laws -/
abbrev dI (ks : List Int) : List D := ks.map fun k => D.pv (i64 k)
abbrev pairP (x : Int × Int) : PV := .agg [i64 x.1, i64 x.2]
abbrev dP (xs : List (Int × Int)) : List D := xs.map fun x => D.pv (pairP x)
abbrev prs (xs : List (Int × Int)) : PV := .sl (xs.map pairP)
theorem toPVs_m {α : Type} {f : α → PV} (h : ∀ a, toPV (.pv (f a)) = some (f a)) : ∀ xs : List α, toPVs (xs.map fun a => D.pv (f a)) = some (xs.map f)
  | [] => rfl
  | a :: r => by simp only [List.map_cons, toPVs, h, toPVs_m h r]
theorem toPVs_dI (ks : List Int) : toPVs (dI ks) = some (ks.map (.int .i64)) := toPVs_m (f := fun k => i64 k) (fun _ => rfl) ks
theorem toPVs_dP (xs : List (Int × Int)) : toPVs (dP xs) = some (xs.map pairP) := toPVs_m (f := pairP) (fun _ => rfl) xs
theorem toR_m {α : Type} {f : α → PV} {n : Nat} {S : Store} (h : ∀ a, toR n S (.pv (f a)) = some (f a)) : ∀ xs : List α, optMap (toR n S) (xs.map fun a => D.pv (f a)) = some (xs.map f)
  | [] => rfl
  | a :: r => by simp only [List.map_cons, optMap, h, toR_m h r]
theorem toR_dI (S : Store) (ks : List Int) : optMap (toR 4 S) (dI ks) = some (ks.map (.int .i64)) := toR_m (f := fun k => i64 k) (fun _ => rfl) ks
theorem toR_dP (S : Store) (xs : List (Int × Int)) : optMap (toR 4 S) (dP xs) = some (xs.map pairP) := toR_m (f := pairP) (fun _ => rfl) xs
theorem elems_m {α : Type} {f : α → PV} {S : Store} {sz : Nat} (h : ∀ a, (f a).nc = sz) (xs : List α) : elemsOf S sz (.pv (.sl (xs.map f))) = some (xs.map fun a => D.pv (f a)) := by
  simp only [elemsOf]
  rw [if_pos (by rw [List.all_eq_true]; intro x hx; obtain ⟨a, _, rfl⟩ := List.mem_map.1 hx; simp [h])]
  simp [List.map_map, Function.comp_def]
theorem elems_I {S : Store} (ks : List Int) : elemsOf S 1 (.pv (ints ks)) = some (dI ks) := elems_m (f := fun k => i64 k) (fun _ => rfl) ks
theorem elems_P {S : Store} (xs : List (Int × Int)) : elemsOf S 2 (.pv (prs xs)) = some (dP xs) := elems_m (f := pairP) (fun _ => rfl) xs
theorem cell_I (ks : List Int) : (dI ks).all cellOK = true := by
  rw [List.all_eq_true]; intro x hx; obtain ⟨a, _, rfl⟩ := List.mem_map.1 hx; rfl
theorem cell_P (xs : List (Int × Int)) : (dP xs).all cellOK = true := by
  rw [List.all_eq_true]; intro x hx; obtain ⟨a, _, rfl⟩ := List.mem_map.1 hx; rfl
section q
variable {P : Program} {sf : SM} {r : RT} {L : List (Nat × D)} {S : Store} {K : Env → Store → Prop} {t : Nat} {α : Type} {f : α → D}
theorem q_app_zm {ty sz bytes : Nat} {x y : Opd} {ys : List α} (hx : ev (env L) x = .nils) (hy : elemsOf S sz (ev (env L) y) = some (ys.map f)) (hc : (ys.map f).all cellOK = true) (hb : ys.length * bytes ≤ 140737488355328 ∧ ys.length ≤ 9223372036854775807)
    (hs : sOK sf (S ++ [obD ty sz (ys.map f)])) (h : RG P sf r (env ((t, ownD S.length (ys.map f)) :: L)) (S ++ [obD ty sz (ys.map f)]) K) : RG P sf (.op ⟨some t, none, .app ty sz bytes x y⟩ r) (env L) S K :=
  q_app_z hx hy hc ⟨by simpa using hb.1, by simpa [maxLen] using hb.2⟩ ⟨hs, h⟩
theorem q_app_dm {ty sz bytes : Nat} {x y : Opd} {xs ys : List α} {o : Nat} (hx : ev (env L) x = ownD o (xs.map f)) (hy : elemsOf S sz (ev (env L) y) = some (ys.map f)) (hc : (ys.map f).all cellOK = true) (hS : S[o]? = some (obD ty sz (xs.map f))) (hb : (xs.length + ys.length) * bytes ≤ 140737488355328 ∧ xs.length + ys.length ≤ 9223372036854775807)
    (hs : sOK sf (S.set o none ++ [obD ty sz ((xs ++ ys).map f)])) (h : RG P sf r (env ((t, ownD S.length ((xs ++ ys).map f)) :: L)) (S.set o none ++ [obD ty sz ((xs ++ ys).map f)]) K) : RG P sf (.op ⟨some t, none, .app ty sz bytes x y⟩ r) (env L) S K := by
  refine q_app_d hx hy hc hS ⟨by simpa using hb.1, by simpa [maxLen] using hb.2⟩ ?_
  rw [← List.map_append]
  exact ⟨hs, h⟩
theorem q_len_dm {x : Opd} {xs : List α} {o : Nat} (hx : ev (env L) x = ownD o (xs.map f)) (h : RG P sf r (env ((t, .pv (.int .i64 xs.length)) :: L)) S K) : RG P sf (.op ⟨some t, none, .len x⟩ r) (env L) S K := q_len_d hx (by simpa using h)
theorem q_idx_dm {ty sz : Nat} {x i : Opd} {o : Nat} {xs : List α} {k : IntKind} {n : Int} (hx : ev (env L) x = ownD o (xs.map f)) (hi : ev (env L) i = .pv (.int k n)) (h0 : 0 ≤ n) (h1 : n < xs.length) (hS : (fs sf S)[o]? = some (obD ty sz (xs.map f)))
    (h : RG P sf r (env ((t, .ptr o n.toNat 0) :: L)) S K) : RG P sf (.op ⟨some t, none, .idx sz x i⟩ r) (env L) S K := q_idx_d hx hi h0 (by simpa using h1) hS h
/-- an element of an own slice -/
theorem q_load_d [Inhabited α] {ty sz : Nat} {x : Opd} {o i : Nat} {xs : List α} {d : D} (hx : ev (env L) x = .ptr o i 0) (hS : (fs sf S)[o]? = some (obD ty 1 (xs.map f))) (hi : i < xs.length) (hsz : sz = 1) (hc : cellsD (f (nth xs i)) = some [d]) (h1 : isOne d = true)
    (h : RG P sf r (env ((t, d) :: L)) S K) : RG P sf (.op ⟨some t, none, .load sz false x⟩ r) (env L) S K := by
  subst hsz
  have hne : xs.map f ≠ [] := fun e => by have := congrArg List.length e; simp at this; subst this; simp at hi
  rw [obD_ne hne] at hS
  have hy : (xs.map f)[i]? = some (f (nth xs i)) := by rw [List.getElem?_map, List.getElem?_eq_getElem hi, nth_eq hi]; rfl
  exact q_load_r hx hS hy hc rfl rfl h1 h
end q
theorem all_false {xs : List Int} {q : Int → Bool} (i : Nat) (h : i < xs.length) (hq : q (nth xs i) = false) : xs.all q = false := by
  rw [List.all_eq_false]
  refine ⟨nth xs i, ?_, by rw [hq]; simp⟩
  rw [nth_eq h]
  exact List.getElem_mem h
theorem all_true {xs : List Int} {q : Int → Bool} (h : ∀ j, j < xs.length → q (nth xs j) = true) : xs.all q = true := by
  rw [List.all_eq_true]
  intro x hx
  obtain ⟨j, hj, rfl⟩ := List.getElem_of_mem hx
  have := h j hj
  rwa [nth_eq hj] at this
theorem has_true {xs : List Int} {k : Int} (i : Nat) (h : i < xs.length) (e : nth xs i = k) : xs.contains k = true := by
  rw [List.contains_iff_mem, ← e, nth_eq h]
  exact List.getElem_mem h
theorem has_false {xs : List Int} {k : Int} (h : ∀ j, j < xs.length → nth xs j ≠ k) : xs.contains k = false := by
  cases hc : xs.contains k with
  | false => rfl
  | true =>
    rw [List.contains_iff_mem] at hc
    obtain ⟨j, hj, e⟩ := List.getElem_of_mem hc
    exact absurd (by rw [nth_eq hj]; exact e) (h j hj)
/-- strictly rising -/
def rising (xs : List Int) : Bool := (List.range (xs.length - 1)).all fun j => decide (nth xs j < nth xs (j + 1))
def goodKeys (xs : List Int) : Bool := rising xs && xs.all fun k => decide (0 ≤ k) && decide (k ≤ 99)
theorem rising_iff {xs : List Int} : rising xs = true ↔ ∀ j, j + 1 < xs.length → nth xs j < nth xs (j + 1) := by
  unfold rising
  rw [List.all_eq_true]
  constructor
  · intro h j hj; simpa using h j (by simp; omega)
  · intro h j hj; simp at hj; simpa using h j (by omega)
theorem good_false {xs : List Int} (i : Nat) (h0 : 1 ≤ i) (h : i < xs.length) (h2 : nth xs i ≤ nth xs ((i : Int) - 1).toNat) : goodKeys xs = false := by
  have : rising xs = false := by
    cases hr : rising xs with
    | false => rfl
    | true =>
      have := rising_iff.1 hr (i - 1) (by omega)
      rw [show i - 1 + 1 = i by omega] at this
      rw [show ((i : Int) - 1).toNat = i - 1 by omega] at h2
      omega
  simp [goodKeys, this]
theorem good_all {xs : List Int} (h : ∀ j, j + 1 < xs.length → nth xs j < nth xs (j + 1)) : goodKeys xs = xs.all fun k => decide (0 ≤ k) && decide (k ≤ 99) := by
  simp [goodKeys, rising_iff.2 h]
theorem good_false2 {xs : List Int} (i : Nat) (h : i < xs.length) (hq : (decide (0 ≤ nth xs i) && decide (nth xs i ≤ 99)) = false) : goodKeys xs = false := by
  simp only [goodKeys, all_false (q := fun k => decide (0 ≤ k) && decide (k ≤ 99)) i h hq, Bool.and_false]
theorem good_true {xs : List Int} (h : ∀ j, j < xs.length → 0 ≤ nth xs j ∧ nth xs j ≤ 99) (h2 : ∀ j, j + 1 < xs.length → nth xs j < nth xs (j + 1)) : goodKeys xs = true := by
  rw [good_all h2]
  exact all_true fun j hj => by have := h j hj; simp [this]
def upTo (xs : List Int) (k : Int) : Nat := (xs.takeWhile fun x => decide (x ≤ k)).length
theorem upTo_eq : ∀ {xs : List Int} {k : Int} {i : Nat}, i ≤ xs.length → (∀ j, j < i → nth xs j ≤ k) → (i < xs.length → k < nth xs i) → upTo xs k = i
  | [], k, i, h, _, _ => by simp at h; subst h; rfl
  | x :: xs, k, 0, h, h1, h2 => by
    have := h2 (by simp)
    simp [nth] at this
    simp [upTo, show ¬ x ≤ k by omega]
  | x :: xs, k, i + 1, h, h1, h2 => by
    have h0 := h1 0 (by omega)
    simp [nth] at h0
    have ih := upTo_eq (xs := xs) (k := k) (i := i) (by simpa using h) (fun j hj => by have := h1 (j + 1) (by omega); simpa [nth] using this) (fun hl => by have := h2 (by simpa using hl); simpa [nth] using this)
    simp only [upTo] at ih ⊢
    simp [h0, ih]
/-- what sort.Search looks for in a rising list -/
theorem search_end {xs : List Int} {k : Int} {i : Nat} (h : i ≤ xs.length) (h1 : ∀ j, j < i → nth xs j ≤ k) (h2 : i < xs.length → k < nth xs i) : upTo xs k = i := upTo_eq h h1 h2
theorem rising_le {xs : List Int} (hr : rising xs = true) : ∀ {a b : Nat}, a ≤ b → b < xs.length → nth xs a ≤ nth xs b := by
  intro a b hab hb
  induction b with
  | zero => have : a = 0 := by omega
            subst this; omega
  | succ b ih =>
    by_cases e : a = b + 1
    · subst e; omega
    · have := ih (by omega) (by omega)
      have := rising_iff.1 hr b hb
      omega
theorem good_rising {xs : List Int} (h : goodKeys xs = true) : rising xs = true := by
  simp only [goodKeys, Bool.and_eq_true] at h; exact h.1
abbrev u8s (bs : List Int) : PV := .sl (bs.map (.int .u8))
/-- a reader -/
def rdr (ty : Nat) (bs : List Int) (p : Int) : Ob := ⟨ty, 2, [.agg [.pv (u8s bs), .pv (i64 p)]]⟩
def isU8 (bs : List Int) : Prop := ∀ x ∈ bs, 0 ≤ x ∧ x ≤ 255
theorem isU8.nth {bs : List Int} (h : isU8 bs) {i : Nat} (hi : i < bs.length) : 0 ≤ nth bs i ∧ nth bs i ≤ 255 := by
  rw [nth_eq hi]; exact h _ (List.getElem_mem hi)
theorem isU8.take {bs : List Int} (h : isU8 bs) (n : Nat) : isU8 (bs.take n) := fun x hx => h x (List.mem_of_mem_take hx)
def nodupI (xs : List Int) : Bool := (List.range xs.length).all fun j => !((xs.take j).contains (nth xs j))
theorem nodup_true {xs : List Int} (h : ∀ j, j < xs.length → (xs.take j).contains (nth xs j) = false) : nodupI xs = true := by
  unfold nodupI
  rw [List.all_eq_true]
  intro j hj
  rw [h j (by simpa using hj)]; rfl
theorem nodup_false {xs : List Int} (i : Nat) (hi : i < xs.length) (h : (xs.take i).contains (nth xs i) = true) : nodupI xs = false := by
  unfold nodupI
  rw [List.all_eq_false]
  exact ⟨i, by simpa using hi, by rw [h]; simp⟩
def goodInner (ks cs : List Int) : Bool := nodupI cs && (goodKeys ks && (decide ((1 : Int) ≤ ks.length) && decide ((ks.length : Int) ≤ 5)) && decide ((cs.length : Int) = ks.length + 1) && cs.all fun k => decide (0 ≤ k) && decide (k ≤ 15))
abbrev innP (ks cs : List Int) : PV := .agg [ints ks, ints cs]
theorem goodInner_len {ks cs : List Int} (h : goodInner ks cs = true) : cs.length = ks.length + 1 := by
  simp only [goodInner, Bool.and_eq_true, decide_eq_true_eq] at h; omega
theorem goodInner_keys {ks cs : List Int} (h : goodInner ks cs = true) : goodKeys ks = true := by
  simp only [goodInner, Bool.and_eq_true] at h; exact h.2.1.1.1
theorem upTo_le (ks : List Int) (k : Int) : upTo ks k ≤ ks.length := (List.takeWhile_sublist _).length_le
/-- a field of booleans -/
def boolsD (n : Nat) (f : Nat → Bool) : List D := (List.range n).map fun v => .pv (.bool (f v))
theorem boolsD_get {n : Nat} {f : Nat → Bool} {j : Nat} (h : j < n) : (boolsD n f)[j]? = some (.pv (.bool (f j))) := by
  simp [boolsD, List.getElem?_map, List.getElem?_range h]
theorem boolsD_set {n : Nat} {f : Nat → Bool} {j : Nat} {b : Bool} (h : j < n) : setAt (boolsD n f) j [.pv (.bool b)] = boolsD n fun v => if v = j then b else f v := by
  apply List.ext_getElem?
  intro m
  simp only [setAt, boolsD]
  rw [List.append_assoc, List.getElem?_append]
  simp only [List.length_take, List.length_map, List.length_range, List.length_singleton]
  rw [show min j n = j by omega]
  by_cases h1 : m < j
  · simp [h1, List.getElem?_take, show m ≠ j by omega, List.getElem?_map]
    by_cases h2 : m < n
    · simp [List.getElem?_range h2, show m ≠ j by omega]
    · omega
  · by_cases h2 : m = j
    · subst h2; simp [List.getElem?_range h]
    · obtain ⟨q, rfl⟩ : ∃ q, m = j + 1 + q := ⟨m - j - 1, by omega⟩
      simp [h1, show j + 1 + q - j = q + 1 by omega, List.getElem?_drop]
      by_cases h3 : j + 1 + q < n
      · simp [List.getElem?_range h3, show ¬ j + 1 + q = j by omega]
      · simp [h3]
theorem seen_step {cs : List Int} {i : Nat} (hi : i < cs.length) (h0 : 0 ≤ nth cs i) : (fun v : Nat => if v = (nth cs i).toNat then true else (cs.take i).contains (v : Int)) = fun v : Nat => (cs.take (i + 1)).contains (v : Int) := by
  funext v
  have e : cs.take (i + 1) = cs.take i ++ [nth cs i] := by rw [List.take_add_one, List.getElem?_eq_getElem hi, nth_eq hi]; rfl
  rw [e]
  by_cases hv : v = (nth cs i).toNat
  · have : (v : Int) = nth cs i := by omega
    rw [if_pos hv, this]; simp
  · have : ¬ (v : Int) = nth cs i := by omega
    rw [if_neg hv]; simp [this]
theorem nth_mem {α : Type} [Inhabited α] {xs : List α} {i : Nat} (h : i < xs.length) : nth xs i ∈ xs := by rw [nth_eq h]; exact List.getElem_mem h
end Go.V
namespace Go.V
theorem upTo_lt {xs : List Int} {k : Int} : ∀ {i : Nat}, i < upTo xs k → nth xs i ≤ k := by
  induction xs with
  | nil => intro i h; simp [upTo] at h
  | cons x xs ih =>
    intro i h
    by_cases hx : x ≤ k
    · have e : upTo (x :: xs) k = upTo xs k + 1 := by simp [upTo, hx]
      cases i with
      | zero => exact hx
      | succ i => exact ih (by omega)
    · have e : upTo (x :: xs) k = 0 := by simp [upTo, hx]
      omega
theorem upTo_at {xs : List Int} {k : Int} (h : upTo xs k < xs.length) : k < nth xs (upTo xs k) := by
  induction xs with
  | nil => simp at h
  | cons x xs ih =>
    by_cases hx : x ≤ k
    · have e : upTo (x :: xs) k = upTo xs k + 1 := by simp [upTo, hx]
      rw [e] at h ⊢
      exact ih (by simpa using h)
    · have e : upTo (x :: xs) k = 0 := by simp [upTo, hx]
      rw [e]; simp [nth]; omega
theorem upTo_dec {xs : List Int} {k : Int} (hg : goodKeys xs = true) {i : Nat} (hi : i < xs.length) : decide (k < nth xs i) = decide (upTo xs k ≤ i) := by
  congr 1
  apply propext
  constructor
  · intro h
    rcases Nat.lt_or_ge i (upTo xs k) with h' | h'
    · have := upTo_lt h'; omega
    · exact h'
  · intro h
    have h1 := upTo_at (xs := xs) (k := k) (by omega)
    have := rising_le (good_rising hg) h hi
    omega
theorem below_dec {xs : List Int} {k : Int} (hg : goodKeys xs = true) {i : Nat} (hi : i < xs.length) : decide (k ≤ nth xs i) = decide (upTo xs (k - 1) ≤ i) := by
  rw [← upTo_dec hg hi]
  congr 1
  apply propext
  omega
end Go.V
namespace Go.V
theorem goodInner_one {ks cs : List Int} (h : goodInner ks cs = true) : 1 ≤ ks.length ∧ ks.length ≤ 5 := by
  simp only [goodInner, Bool.and_eq_true, decide_eq_true_eq] at h; omega
theorem goodInner_kid {ks cs : List Int} (h : goodInner ks cs = true) {j : Nat} (hj : j < cs.length) : 0 ≤ nth cs j ∧ nth cs j ≤ 15 := by
  simp only [goodInner, Bool.and_eq_true, List.all_eq_true] at h
  have := h.2.2 (nth cs j) (nth_mem hj)
  simpa using this
theorem upTo_first {ks : List Int} (h : 1 ≤ ks.length ∧ ks.length ≤ 5) : upTo ks (nth ks 0 - 1) = 0 :=
  upTo_eq (Nat.zero_le _) (fun j hj => by omega) (fun _ => by omega)
theorem goodKeys_mem {ks : List Int} (h : goodKeys ks = true) {j : Nat} (hj : j < ks.length) : 0 ≤ nth ks j ∧ nth ks j ≤ 99 := by
  simp only [goodKeys, Bool.and_eq_true, List.all_eq_true] at h
  have := h.2 (nth ks j) (nth_mem hj)
  simpa using this
theorem upTo_all {ks : List Int} (h : goodKeys ks = true) : upTo ks 99 = ks.length :=
  upTo_eq (Nat.le_refl _) (fun j hj => (goodKeys_mem h hj).2) (fun h => absurd h (Nat.lt_irrefl _))
end Go.V

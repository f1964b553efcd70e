/- A part of the proofs about laws of the page tree (see the text that bears the law): a small language of steps, its rules, and what the functions of the program return. -/
import Derived.Test.YtgblkaealpggdaaLE
set_option linter.all false
set_option linter.unusedVariables false
set_option linter.unusedSimpArgs false
namespace Go.V
/-! the model of pages and trees -/
structure Pg where
  ks : List Int
  cs : List Int
  vs : List Int
instance : Inhabited Pg := ⟨⟨[], [], []⟩⟩
structure Pt where
  r : Int
  ps : List Pg
instance : Inhabited Pt := ⟨⟨0, []⟩⟩
theorem Pg.ext' {a b : Pg} (h1 : a.ks = b.ks) (h2 : a.cs = b.cs) (h3 : a.vs = b.vs) : a = b := by
  cases a; cases b; simp at h1 h2 h3; simp [h1, h2, h3]
instance : DecidableEq Pg := fun a b => decidable_of_iff (a.ks = b.ks ∧ a.cs = b.cs ∧ a.vs = b.vs) ⟨fun h => Pg.ext' h.1 h.2.1 h.2.2, fun h => by rw [h]; exact ⟨rfl, rfl, rfl⟩⟩
instance : DecidableEq Pt := fun a b => decidable_of_iff (a.r = b.r ∧ a.ps = b.ps) ⟨fun h => by cases a; cases b; simp at h; simp [h.1, h.2], fun h => by rw [h]; exact ⟨rfl, rfl⟩⟩
abbrev pgP (p : Pg) : PV := .agg [ints p.ks, ints p.cs, ints p.vs]
abbrev pgsP (ps : List Pg) : PV := .sl (ps.map pgP)
abbrev ptP (t : Pt) : PV := .agg [i64 t.r, pgsP t.ps]
abbrev pg (t : Pt) (i : Int) : Pg := nth t.ps i.toNat
def inT (t : Pt) (i : Int) : Bool := decide (0 ≤ i) && decide (i < t.ps.length)
theorem inT_iff {t : Pt} {i : Int} : inT t i = true ↔ 0 ≤ i ∧ i < t.ps.length := by simp [inT]
def lfB (p : Pg) : Bool := decide (p.vs.length = p.ks.length) && p.vs.all fun v => decide (-1000 ≤ v) && decide (v ≤ 1000)
def inB (p : Pg) : Bool := decide (p.vs.length = 0) && decide (1 ≤ p.ks.length) && decide (p.cs.length = p.ks.length + 1)
def fillP (top : Bool) (p : Pg) : Bool :=
  (decide (p.ks.length ≤ 4) && goodKeys p.ks) && (top || decide (2 ≤ p.ks.length)) && (if p.cs.length = 0 then lfB p else inB p)
def fillB (t : Pt) (i : Int) : Bool := fillP (decide (i = t.r)) (pg t i)
def frK (p : Pg) (lo : Int) (i : Nat) : Int := if i = 0 then lo else nth p.ks (i - 1)
def toK (p : Pg) (hi : Int) (i : Nat) : Int := if i < p.ks.length then nth p.ks i else hi
def keysIn (ks : List Int) (lo hi : Int) : Bool := ks.all fun k => decide (lo ≤ k) && decide (k < hi)
def okT (t : Pt) : Nat → Int → Int → Int → Bool
  | 0, _, _, _ => false
  | h + 1, i, lo, hi => (inT t i && fillB t i && keysIn (pg t i).ks lo hi) && (if h = 0 then decide ((pg t i).cs.length = 0) else decide (0 < (pg t i).cs.length) && (List.range (pg t i).cs.length).all fun j => okT t h (nth (pg t i).cs j) (frK (pg t i) lo j) (toK (pg t i) hi j))
def wlk (t : Pt) : Nat → Int → List Int
  | 0, _ => []
  | h + 1, i => i :: (pg t i).cs.flatMap (wlk t h)
def wkT (t : Pt) : Nat → Int → Bool
  | 0, _ => false
  | h + 1, i => inT t i && (pg t i).cs.all (wkT t h)
theorem okT_leaf {t : Pt} {i lo hi : Int} : okT t 1 i lo hi = true ↔ (inT t i = true ∧ fillB t i = true ∧ keysIn (pg t i).ks lo hi = true) ∧ (pg t i).cs.length = 0 := by
  simp [okT, and_assoc]
theorem okT_inner {t : Pt} {h : Nat} {i lo hi : Int} (h0 : h ≠ 0) : okT t (h + 1) i lo hi = true ↔ (inT t i = true ∧ fillB t i = true ∧ keysIn (pg t i).ks lo hi = true) ∧ 0 < (pg t i).cs.length ∧ ∀ j, j < (pg t i).cs.length → okT t h (nth (pg t i).cs j) (frK (pg t i) lo j) (toK (pg t i) hi j) = true := by
  rw [okT, if_neg h0]
  simp only [Bool.and_eq_true, decide_eq_true_eq, List.all_eq_true, List.mem_range]
  constructor
  · rintro ⟨⟨⟨h1, h2⟩, h3⟩, h4, h5⟩; exact ⟨⟨h1, h2, h3⟩, h4, h5⟩
  · rintro ⟨⟨h1, h2, h3⟩, h4, h5⟩; exact ⟨⟨⟨h1, h2⟩, h3⟩, h4, h5⟩
theorem okT_top {t : Pt} {h : Nat} {i lo hi : Int} (ho : okT t h i lo hi = true) : 1 ≤ h ∧ inT t i = true ∧ fillB t i = true ∧ keysIn (pg t i).ks lo hi = true := by
  cases h with
  | zero => simp [okT] at ho
  | succ h =>
    rw [okT] at ho
    simp only [Bool.and_eq_true] at ho
    exact ⟨by omega, ho.1.1.1, ho.1.1.2, ho.1.2⟩
theorem okT_uniq {t : Pt} : ∀ {h h' : Nat} {i lo hi lo' hi' : Int}, okT t h i lo hi = true → okT t h' i lo' hi' = true → h = h'
  | 0, _, _, _, _, _, _, a, _ => by simp [okT] at a
  | _, 0, _, _, _, _, _, _, b => by simp [okT] at b
  | 1, 1, _, _, _, _, _, _, _ => rfl
  | 1, h' + 2, _, _, _, _, _, a, b => by
    have h1 := (okT_leaf.1 a).2
    have h2 := ((okT_inner (by omega)).1 b).2.1
    omega
  | h + 2, 1, _, _, _, _, _, a, b => by
    have h1 := (okT_leaf.1 b).2
    have h2 := ((okT_inner (by omega)).1 a).2.1
    omega
  | h + 2, h' + 2, _, _, _, _, _, a, b => by
    have h1 := (okT_inner (by omega)).1 a
    have h2 := (okT_inner (by omega)).1 b
    have := okT_uniq (h1.2.2 0 h1.2.1) (h2.2.2 0 h2.2.1)
    omega
theorem okT_kid {t : Pt} {h : Nat} {i lo hi : Int} (ho : okT t (h + 1) i lo hi = true) {c : Int} (hc : c ∈ (pg t i).cs) : h ≠ 0 ∧ ∃ lo' hi', okT t h c lo' hi' = true := by
  by_cases h0 : h = 0
  · subst h0
    have := (okT_leaf.1 ho).2
    rw [List.length_eq_zero_iff] at this
    rw [this] at hc; cases hc
  · obtain ⟨j, hj, rfl⟩ := List.getElem_of_mem hc
    have := ((okT_inner h0).1 ho).2.2 j hj
    rw [nth_eq hj] at this
    exact ⟨h0, _, _, this⟩
theorem okT_wk {t : Pt} : ∀ {h : Nat} {i lo hi : Int}, okT t h i lo hi = true → wkT t h i = true
  | 0, _, _, _, a => by simp [okT] at a
  | h + 1, i, lo, hi, a => by
    rw [wkT, (okT_top a).2.1, Bool.true_and, List.all_eq_true]
    intro c hc
    obtain ⟨_, lo', hi', h2⟩ := okT_kid a hc
    exact okT_wk h2
theorem wk_in {t : Pt} : ∀ {h : Nat} {i : Int}, wkT t h i = true → ∀ x ∈ wlk t h i, inT t x = true
  | 0, _, a, _, _ => by simp [wkT] at a
  | h + 1, i, a, x, hx => by
    rw [wkT, Bool.and_eq_true, List.all_eq_true] at a
    rw [wlk, List.mem_cons] at hx
    rcases hx with rfl | hx
    · exact a.1
    · obtain ⟨c, hc, hx⟩ := List.mem_flatMap.1 hx
      exact wk_in (a.2 c hc) x hx
theorem okT_in {t : Pt} {h : Nat} {i lo hi : Int} (a : okT t h i lo hi = true) : ∀ x ∈ wlk t h i, inT t x = true := wk_in (okT_wk a)
/-! what a check of a page comes to -/
structure VisOK (t : Pt) (i : Int) (d : Nat) (lo hi : Int) (seen : Nat → Bool) (ld : Int) (h : Nat) : Prop where
  h1 : 1 ≤ h
  h3 : d + h ≤ 3
  ok : okT t h i lo hi = true
  nd : (wlk t h i).Nodup
  un : ∀ x ∈ wlk t h i, seen x.toNat = false
  le : ld < 0 ∨ ld = d + h - 1
def visSeen (t : Pt) (i : Int) (seen : Nat → Bool) (h : Nat) : Nat → Bool := fun v => seen v || (wlk t h i).contains (v : Int)
structure KidsOK (t : Pt) (p : Pg) (d : Nat) (lo hi : Int) (s1 : Nat → Bool) (ld : Int) (i : Nat) (h : Nat) (si : Nat → Bool) (li : Int) : Prop where
  z : i = 0 → li = ld
  s : si = fun v => s1 v || ((p.cs.take i).flatMap (wlk t h)).contains (v : Int)
  nd : ((p.cs.take i).flatMap (wlk t h)).Nodup
  un : ∀ x ∈ (p.cs.take i).flatMap (wlk t h), s1 x.toNat = false
  ok : ∀ j, j < i → okT t h (nth p.cs j) (frK p lo j) (toK p hi j) = true
  p1 : 0 < i → 1 ≤ h ∧ d + 1 + h ≤ 3 ∧ (ld < 0 ∨ ld = d + h) ∧ li = d + h
theorem kids_zero {t : Pt} {p : Pg} {d : Nat} {lo hi : Int} {s1 : Nat → Bool} {ld : Int} : KidsOK t p d lo hi s1 ld 0 1 s1 ld where
  z := fun _ => rfl
  s := by funext v; simp
  nd := by simp
  un := by simp
  ok := fun j hj => by omega
  p1 := fun h => by omega
theorem flat_take {α β : Type} [Inhabited α] {xs : List α} {i : Nat} (h : i < xs.length) (f : α → List β) : (xs.take (i + 1)).flatMap f = (xs.take i).flatMap f ++ f (nth xs i) := by
  rw [take_succ_nth h, List.flatMap_append]; simp
theorem kids_step {t : Pt} {p : Pg} {d : Nat} {lo hi : Int} {s1 si : Nat → Bool} {ld li : Int} {i h h' : Nat} (hk : KidsOK t p d lo hi s1 ld i h si li) (hi' : i < p.cs.length)
    (hv : VisOK t (nth p.cs i) (d + 1) (frK p lo i) (toK p hi i) si li h') : KidsOK t p d lo hi s1 ld (i + 1) h' (visSeen t (nth p.cs i) si h') (d + h') := by
  have hh : i = 0 ∨ h = h' := by
    by_cases h0 : i = 0
    · exact .inl h0
    · right
      have h1 := hk.p1 (by omega)
      have h2 := hv.le
      have h3 := hv.h1
      omega
  have e : (p.cs.take i).flatMap (wlk t h) = (p.cs.take i).flatMap (wlk t h') := by
    rcases hh with rfl | rfl
    · simp
    · rfl
  have hin := okT_in hv.ok
  have hun : ∀ x ∈ wlk t h' (nth p.cs i), s1 x.toNat = false ∧ x ∉ (p.cs.take i).flatMap (wlk t h') := fun x hx => by
    have h1 := hv.un x hx
    rw [hk.s, e] at h1
    simp only [Bool.or_eq_false_iff] at h1
    have h2 := inT_iff.1 (hin x hx)
    refine ⟨h1.1, fun hm => ?_⟩
    have h3 := h1.2
    rw [show ((x.toNat : Nat) : Int) = x by omega] at h3
    rw [List.contains_iff_mem.2 hm] at h3
    cases h3
  constructor
  · intro h0; omega
  · funext v
    rw [visSeen, hk.s, e, flat_take hi']
    simp [Bool.or_assoc]
  · rw [flat_take hi', List.nodup_append]
    refine ⟨by rw [← e]; exact hk.nd, hv.nd, fun a ha b hb hab => (hun b hb).2 (hab ▸ ha)⟩
  · rw [flat_take hi']
    intro x hx
    rcases List.mem_append.1 hx with hx | hx
    · exact hk.un x (by rw [e]; exact hx)
    · exact (hun x hx).1
  · intro j hj
    by_cases hji : j = i
    · subst hji; exact hv.ok
    · rcases hh with rfl | rfl
      · omega
      · exact hk.ok j (by omega)
  · intro _
    have h1 := hv.h1
    have h2 := hv.h3
    refine ⟨h1, h2, ?_, rfl⟩
    have h3 := hv.le
    rcases hh with h0 | h0
    · rw [hk.z h0] at h3; omega
    · have h4 : i = 0 ∨ 0 < i := by omega
      rcases h4 with h4 | h4
      · rw [hk.z h4] at h3; omega
      · subst h0; exact (hk.p1 h4).2.2.1
theorem wlk_succ {t : Pt} {h : Nat} {i : Int} : wlk t (h + 1) i = i :: (pg t i).cs.flatMap (wlk t h) := rfl
theorem nodup_flat_take {t : Pt} {h : Nat} {cs : List Int} {i : Nat} (hi : i < cs.length) (hn : (cs.flatMap (wlk t h)).Nodup) : (wlk t h (nth cs i)).Nodup ∧ ∀ x ∈ wlk t h (nth cs i), x ∉ (cs.take i).flatMap (wlk t h) := by
  have e : cs.flatMap (wlk t h) = (cs.take i).flatMap (wlk t h) ++ (wlk t h (nth cs i) ++ (cs.drop (i + 1)).flatMap (wlk t h)) := by
    have : cs = cs.take i ++ nth cs i :: cs.drop (i + 1) := by
      rw [nth_eq hi, ← List.drop_eq_getElem_cons hi, List.take_append_drop]
    conv => lhs; rw [this]
    rw [List.flatMap_append, List.flatMap_cons]
  rw [e, List.nodup_append, List.nodup_append] at hn
  exact ⟨hn.2.1.1, fun x hx hm => hn.2.2 x hm x (List.mem_append_left _ hx) rfl⟩
theorem kids_bad {t : Pt} {i0 : Int} {d : Nat} {lo hi : Int} {seen si : Nat → Bool} {ld li : Int} {i h : Nat} (hk : KidsOK t (pg t i0) d lo hi (fun v => if v = i0.toNat then true else seen v) ld i h si li) (hi' : i < (pg t i0).cs.length)
    (hv : ∀ h', ¬ VisOK t (nth (pg t i0).cs i) (d + 1) (frK (pg t i0) lo i) (toK (pg t i0) hi i) si li h') : ∀ H, ¬ VisOK t i0 d lo hi seen ld H := by
  intro H hH
  obtain ⟨h', rfl⟩ : ∃ h', H = h' + 1 := ⟨H - 1, by have := hH.h1; omega⟩
  have h0 : h' ≠ 0 := fun e => by subst e; have := (okT_leaf.1 hH.ok).2; omega
  have hok := (okT_inner h0).1 hH.ok
  have hnd := hH.nd
  rw [wlk_succ, List.nodup_cons] at hnd
  have hn := nodup_flat_take hi' hnd.2
  have hh : i = 0 ∨ h = h' := by
    by_cases hz : i = 0
    · exact .inl hz
    · exact .inr (okT_uniq (hk.ok 0 (by omega)) (hok.2.2 0 (by omega)))
  have e : ((pg t i0).cs.take i).flatMap (wlk t h) = ((pg t i0).cs.take i).flatMap (wlk t h') := by
    rcases hh with rfl | rfl
    · simp
    · rfl
  refine hv h' ⟨by omega, by have := hH.h3; omega, hok.2.2 i hi', hn.1, fun x hx => ?_, ?_⟩
  · have hxi := inT_iff.1 (okT_in (hok.2.2 i hi') x hx)
    have hxm : x ∈ (pg t i0).cs.flatMap (wlk t h') := List.mem_flatMap.2 ⟨_, nth_mem hi', hx⟩
    have hx2 := hH.un x (by rw [wlk_succ]; exact List.mem_cons_of_mem _ hxm)
    have hi0 := inT_iff.1 hok.1.1
    have hne : x.toNat ≠ i0.toNat := fun e2 => by
      have : x = i0 := by omega
      exact hnd.1 (this ▸ hxm)
    rw [hk.s, e]
    simp only [if_neg hne, hx2, Bool.false_or]
    rw [show ((x.toNat : Nat) : Int) = x by omega]
    exact Bool.eq_false_iff.2 fun hc => hn.2 x hx (List.contains_iff_mem.1 hc)
  · have hle := hH.le
    by_cases hz : i = 0
    · rw [hk.z hz]; omega
    · have h1 := hk.p1 (by omega)
      rcases hh with hh | hh
      · omega
      · subst hh; omega
theorem kids_end {t : Pt} {i0 : Int} {d : Nat} {lo hi : Int} {seen si : Nat → Bool} {ld li : Int} {h : Nat} (hk : KidsOK t (pg t i0) d lo hi (fun v => if v = i0.toNat then true else seen v) ld (pg t i0).cs.length h si li)
    (h0 : 0 < (pg t i0).cs.length) (h1 : inT t i0 = true) (h2 : fillB t i0 = true) (h3 : keysIn (pg t i0).ks lo hi = true) (h4 : seen i0.toNat = false) :
    VisOK t i0 d lo hi seen ld (h + 1) ∧ si = visSeen t i0 seen (h + 1) ∧ li = d + (h + 1 : Nat) - 1 := by
  obtain ⟨p1, p2, p3, p4⟩ := hk.p1 h0
  have hs := hk.s
  have hnd := hk.nd
  have hun := hk.un
  rw [List.take_length] at hs hnd hun
  have hok : okT t (h + 1) i0 lo hi = true := (okT_inner (by omega)).2 ⟨⟨h1, h2, h3⟩, h0, hk.ok⟩
  have hi0 := inT_iff.1 h1
  refine ⟨⟨by omega, by omega, hok, ?_, fun x hx => ?_, by omega⟩, ?_, by omega⟩
  · rw [wlk_succ, List.nodup_cons]
    exact ⟨fun hm => by have := hun i0 hm; simp at this, hnd⟩
  · rw [wlk_succ, List.mem_cons] at hx
    rcases hx with rfl | hx
    · exact h4
    · have this : (if x.toNat = i0.toNat then true else seen x.toNat) = false := hun x hx
      split at this
      · cases this
      · exact this
  · rw [hs]
    funext v
    rw [visSeen, wlk_succ, List.contains_cons]
    by_cases hv : v = i0.toNat
    · subst hv
      rw [if_pos rfl, Bool.true_or]
      have : ((i0.toNat : Nat) : Int) = i0 := by omega
      simp [this]
    · rw [if_neg hv]
      have : ((v : Int) == i0) = false := by simp; omega
      rw [this, Bool.false_or]
end Go.V
namespace Go.V
theorem fill_inner {b : Bool} {p : Pg} (h : fillP b p = true) (h0 : p.cs.length ≠ 0) : p.cs.length = p.ks.length + 1 ∧ 1 ≤ p.ks.length ∧ p.ks.length ≤ 4 ∧ goodKeys p.ks = true ∧ p.vs.length = 0 := by
  rw [fillP, if_neg h0] at h
  simp only [Bool.and_eq_true, decide_eq_true_eq, inB] at h
  exact ⟨h.2.2, h.2.1.2, h.1.1.1, h.1.1.2, h.2.1.1⟩
theorem fill_leaf {b : Bool} {p : Pg} (h : fillP b p = true) (h0 : p.cs.length = 0) : p.vs.length = p.ks.length ∧ p.ks.length ≤ 4 ∧ goodKeys p.ks = true ∧ ∀ v ∈ p.vs, -1000 ≤ v ∧ v ≤ 1000 := by
  rw [fillP, if_pos h0] at h
  simp only [Bool.and_eq_true, decide_eq_true_eq, lfB, List.all_eq_true] at h
  exact ⟨h.2.1, h.1.1.1, h.1.1.2, h.2.2⟩
end Go.V
namespace Go.V
def hgtG (t : Pt) : Nat → Int → Nat
  | 0, _ => 0
  | f + 1, i => if inT t i && decide (0 < (pg t i).cs.length) then hgtG t f (nth (pg t i).cs 0) + 1 else 0
def hgtT (t : Pt) : Nat := hgtG t 3 t.r + 1
def validT (t : Pt) : Bool := (decide (1 ≤ t.ps.length) && decide (t.ps.length ≤ 16)) && (decide (hgtT t ≤ 3) && okT t (hgtT t) t.r 0 100) && (nodupI (wlk t (hgtT t) t.r) && decide ((wlk t (hgtT t) t.r).length = t.ps.length))
theorem okT_hgt {t : Pt} : ∀ {h f : Nat} {i lo hi : Int}, okT t h i lo hi = true → h ≤ f + 1 → hgtG t f i + 1 = h
  | 0, _, _, _, _, a, _ => by simp [okT] at a
  | 1, f, i, _, _, a, _ => by
    have h1 := (okT_leaf.1 a).2
    cases f with
    | zero => rfl
    | succ f => rw [hgtG, if_neg (by simp [List.length_eq_zero_iff.1 h1])]
  | h + 2, f, i, _, _, a, hf => by
    have h1 := (okT_inner (by omega)).1 a
    obtain ⟨f', rfl⟩ : ∃ f', f = f' + 1 := ⟨f - 1, by omega⟩
    rw [hgtG, if_pos (by rw [h1.1.1, decide_eq_true h1.2.1]; rfl), okT_hgt (h1.2.2 0 h1.2.1) (by omega)]
theorem valid_iff {t : Pt} : validT t = true ↔ (1 ≤ t.ps.length ∧ t.ps.length ≤ 16) ∧ ∃ h, h ≤ 3 ∧ okT t h t.r 0 100 = true ∧ (wlk t h t.r).Nodup ∧ (wlk t h t.r).length = t.ps.length := by
  simp only [validT, Bool.and_eq_true, decide_eq_true_eq, nodup_iff]
  constructor
  · rintro ⟨⟨h1, h2, h3⟩, h4, h5⟩
    exact ⟨h1, _, h2, h3, h4, h5⟩
  · rintro ⟨h1, h, h2, h3, h4, h5⟩
    have e : hgtT t = h := okT_hgt (f := 3) h3 (by omega)
    rw [e]
    exact ⟨⟨h1, h2, h3⟩, h4, h5⟩
theorem nodup_full {l : List Int} {n : Nat} (hn : l.Nodup) (hr : ∀ x ∈ l, 0 ≤ x ∧ x < (n : Int)) : (∀ q : Nat, q < n → (q : Int) ∈ l) ↔ l.length = n := by
  have hsub : ∀ (m : List Int), m.Nodup → (∀ x ∈ m, 0 ≤ x ∧ x < (n : Int)) → m.length ≤ n := fun m hm hmr => by
    have := List.Nodup.length_le_of_subset (l₁ := m) (l₂ := (List.range n).map fun q : Nat => (q : Int)) hm fun x hx => by
      have := hmr x hx
      exact List.mem_map.2 ⟨x.toNat, List.mem_range.2 (by omega), by omega⟩
    simpa using this
  constructor
  · intro h
    have h1 := hsub l hn hr
    have h2 := List.Nodup.length_le_of_subset (l₁ := (List.range n).map fun q : Nat => (q : Int)) (l₂ := l) (by
      rw [List.Nodup, List.pairwise_map]
      exact (List.nodup_range (n := n)).imp fun hab e => hab (by omega)) fun x hx => by
        obtain ⟨q, hq, rfl⟩ := List.mem_map.1 hx
        exact h q (List.mem_range.1 hq)
    simp at h2
    omega
  · intro h q hq
    refine Classical.byContradiction fun hc => ?_
    have := hsub ((q : Int) :: l) (List.nodup_cons.2 ⟨hc, hn⟩) fun x hx => by
      rcases List.mem_cons.1 hx with rfl | hx
      · omega
      · exact hr x hx
    simp at this
    omega
theorem vis_root {t : Pt} {h : Nat} : VisOK t t.r 0 0 100 (fun _ => false) (-1) h ↔ h ≤ 3 ∧ okT t h t.r 0 100 = true ∧ (wlk t h t.r).Nodup := by
  constructor
  · intro hv
    exact ⟨by have := hv.h3; omega, hv.ok, hv.nd⟩
  · rintro ⟨h1, h2, h3⟩
    exact ⟨(okT_top h2).1, by omega, h2, h3, fun _ _ => rfl, .inl (by omega)⟩
theorem valid_vis {t : Pt} (h1 : 1 ≤ t.ps.length ∧ t.ps.length ≤ 16) {h : Nat} (hv : VisOK t t.r 0 0 100 (fun _ => false) (-1) h) : validT t = true ↔ ∀ q : Nat, q < t.ps.length → visSeen t t.r (fun _ => false) h q = true := by
  have hr := vis_root.1 hv
  have hin : ∀ x ∈ wlk t h t.r, 0 ≤ x ∧ x < (t.ps.length : Int) := fun x hx => inT_iff.1 (okT_in hr.2.1 x hx)
  have hf := nodup_full hr.2.2 hin
  have e : (∀ q : Nat, q < t.ps.length → visSeen t t.r (fun _ => false) h q = true) ↔ (wlk t h t.r).length = t.ps.length := by
    rw [← hf]
    simp only [visSeen, Bool.false_or, List.contains_iff_mem]
  rw [e, valid_iff]
  constructor
  · rintro ⟨_, h', k1, k2, k3, k4⟩
    rw [okT_uniq hr.2.1 k2]; exact k4
  · intro hl
    exact ⟨h1, h, hr.1, hr.2.1, hr.2.2, hl⟩
theorem valid_no {t : Pt} (hv : ∀ h, ¬ VisOK t t.r 0 0 100 (fun _ => false) (-1) h) : validT t = false := by
  refine Bool.eq_false_iff.2 fun hc => ?_
  obtain ⟨_, h, k1, k2, k3, _⟩ := valid_iff.1 hc
  exact hv h (vis_root.2 ⟨k1, k2, k3⟩)
end Go.V

namespace Go.V
def RdO (P : Program) (f : FuncId) (ob : Ob) (args : List PV) (Q : PV → Ob → Prop) : Prop :=
  CallS P f (.ptr 0 0 0 :: args.map .pv) [some ob] (fun d S => ∃ x ob' T, d = ofPV x ∧ Q x ob' ∧ S = some ob' :: T)
def stillO (ob : Ob) : Prop := ∀ m, mpOb m ob = ob
theorem RdO.mono {P : Program} {f : FuncId} {ob : Ob} {args : List PV} {Q Q' : PV → Ob → Prop} (h : RdO P f ob args Q) (hq : ∀ x o, Q x o → Q' x o) : RdO P f ob args Q' :=
  CallS.mono h fun _ _ ⟨x, ob', T, h1, h2, h3⟩ => ⟨x, ob', T, h1, hq _ _ h2, h3⟩
theorem RdO.trim {P : Program} {f : FuncId} {ob : Ob} {args : List PV} {Q : PV → Ob → Prop} (h : RdO P f ob args Q) (hfl : ∀ x ob', Q x ob' → stillO ob') :
    CallS P f (.ptr 0 0 0 :: args.map .pv) [some ob] (fun d S => ∃ x ob', d = ofPV x ∧ Q x ob' ∧ S = [some ob']) := by
  refine CallS.bd h ?_
  rintro d S' ⟨x, ob', T, rfl, hq, rfl⟩
  refine Bd.renL [0] (fun i hi => by have e : i = 0 := (by simp at hi; omega); subst e; rfl) (by simp) [(0, ofPV x)] ⟨mpD_ofPV _ _, trivial⟩ (S' := [some ob']) ?_ ?_
  · simp [subS, hfl x ob' hq _]
  · exact ⟨x, ob', rfl, hq, rfl⟩
section q
variable {P : Program} {sf : SM} {r : RT} {L : List (Nat × D)} {S : Store} {K : Env → Store → Prop} {t : Nat}
theorem q_rdo {f : FuncId} {ob : Ob} {args' : List Opd} {args : List PV} {o : Nat} {Q : PV → Ob → Prop} (hm : cOK sf = true) (h : RdO P f ob args Q) (hfl0 : stillO ob) (hfl : ∀ x ob', Q x ob' → stillO ob') (ha : args'.map (ev (env L)) = .ptr o 0 0 :: args.map .pv) (hS : S[o]? = some (some ob))
    (hs : ∀ ob', sOK sf (S.set o (some ob'))) (hk : ∀ x ob', Q x ob' → RG P sf r (env ((t, ofPV x) :: L)) (S.set o (some ob')) K) : RG P sf (.op ⟨some t, none, .call f args'⟩ r) (env L) S K := by
  refine q_call hm ?_
  rw [ha]
  have ho : o < S.length := (List.getElem?_eq_some_iff.1 hS).1
  have e1 : subS [o] S = [some ob] := by simp [subS, List.getD_eq_getElem?_getD, hS, hfl0 _]
  have e2 : (.ptr o 0 0 :: args.map D.pv).map (mpD (inv [o])) = .ptr 0 0 0 :: args.map .pv := by
    simp only [List.map_cons, List.map_map]
    rw [show mpD (inv [o]) (D.ptr o 0 0) = .ptr 0 0 0 by simp [mpD, mpS, mp1, mp0, inv, posOf_single]]
    exact congrArg (D.ptr 0 0 0 :: ·) (List.map_congr_left fun x _ => mpD_pv _ _)
  refine CallS.frame (c1 := fun d S => ∃ x ob', d = ofPV x ∧ Q x ob' ∧ S = [some ob']) [o] (by simp) (by simpa using ⟨_, hS⟩) ?_ ?_
  · rw [e1, e2]; exact h.trim hfl
  · rintro d S1 ⟨x, ob', rfl, hq, rfl⟩
    rw [mergeS_one ho]
    have := hk x ob' hq
    have h2 := hs ob'
    simpa [mpD_ofPV, hfl x ob' hq _] using And.intro h2 this
end q
/-! the checker of trees -/
def chkC (t : Pt) (f : Nat → Bool) (ld : Int) : List D := [.pv (i64 t.r), .pv (pgsP t.ps), .pv (.bool (f 0)), .pv (.bool (f 1)), .pv (.bool (f 2)), .pv (.bool (f 3)), .pv (.bool (f 4)), .pv (.bool (f 5)), .pv (.bool (f 6)), .pv (.bool (f 7)), .pv (.bool (f 8)), .pv (.bool (f 9)), .pv (.bool (f 10)), .pv (.bool (f 11)), .pv (.bool (f 12)), .pv (.bool (f 13)), .pv (.bool (f 14)), .pv (.bool (f 15)), .pv (i64 ld)]
abbrev chk (ty : Nat) (t : Pt) (f : Nat → Bool) (ld : Int) : Ob := ⟨ty, 19, [.agg (chkC t f ld)]⟩
theorem chk_still {ty : Nat} {t : Pt} {f : Nat → Bool} {ld : Int} : stillO (chk ty t f ld) := fun m => rfl
theorem chk_get {t : Pt} {f : Nat → Bool} {ld : Int} {v : Nat} (h : v < 16) : (chkC t f ld)[2 + v]? = some (.pv (.bool (f v))) := by
  have : v = 0 ∨ v = 1 ∨ v = 2 ∨ v = 3 ∨ v = 4 ∨ v = 5 ∨ v = 6 ∨ v = 7 ∨ v = 8 ∨ v = 9 ∨ v = 10 ∨ v = 11 ∨ v = 12 ∨ v = 13 ∨ v = 14 ∨ v = 15 := by omega
  rcases this with rfl | rfl | rfl | rfl | rfl | rfl | rfl | rfl | rfl | rfl | rfl | rfl | rfl | rfl | rfl | rfl <;> rfl
theorem chk_set {t : Pt} {f : Nat → Bool} {ld : Int} {v : Nat} {b : Bool} (h : v < 16) : setAt (chkC t f ld) (2 + v) [.pv (.bool b)] = chkC t (fun w => if w = v then b else f w) ld := by
  have : v = 0 ∨ v = 1 ∨ v = 2 ∨ v = 3 ∨ v = 4 ∨ v = 5 ∨ v = 6 ∨ v = 7 ∨ v = 8 ∨ v = 9 ∨ v = 10 ∨ v = 11 ∨ v = 12 ∨ v = 13 ∨ v = 14 ∨ v = 15 := by omega
  rcases this with rfl | rfl | rfl | rfl | rfl | rfl | rfl | rfl | rfl | rfl | rfl | rfl | rfl | rfl | rfl | rfl <;> rfl
def smallT (t : Pt) : Prop := t.ps.length ≤ 1000000 ∧ ∀ i, 0 ≤ i → i < (t.ps.length : Int) → (pg t i).ks.length ≤ 1000000 ∧ (pg t i).cs.length ≤ 1000000 ∧ (pg t i).vs.length ≤ 1000000
end Go.V
namespace Go.V
theorem seen_leaf {t : Pt} {i : Int} {seen : Nat → Bool} (h0 : 0 ≤ i) (h : (pg t i).cs.length = 0) : (fun w => if w = i.toNat then true else seen w) = visSeen t i seen 1 := by
  funext w
  have e : (pg t i).cs = [] := List.length_eq_zero_iff.1 h
  simp only [visSeen, wlk, e, List.flatMap_nil]
  by_cases hw : w = i.toNat
  · subst hw
    have : ((i.toNat : Nat) : Int) = i := by omega
    simp [this]
  · have : ¬ (w : Int) = i := by omega
    simp [hw, this]
theorem vis_leaf {t : Pt} {i : Int} {d : Nat} {lo hi : Int} {seen : Nat → Bool} {ld : Int} (h1 : inT t i = true) (h2 : fillB t i = true) (h3 : keysIn (pg t i).ks lo hi = true) (h4 : seen i.toNat = false) (h5 : (pg t i).cs.length = 0) (hd : d < 3) (hl : ld < 0 ∨ ld = d) : VisOK t i d lo hi seen ld 1 := by
  have e : (pg t i).cs = [] := List.length_eq_zero_iff.1 h5
  refine ⟨by omega, by omega, okT_leaf.2 ⟨⟨h1, h2, h3⟩, h5⟩, by simp [wlk, e], fun x hx => ?_, by omega⟩
  simp [wlk, e] at hx
  subst hx
  exact h4
theorem vis_no {t : Pt} {i : Int} {d : Nat} {lo hi : Int} {seen : Nat → Bool} {ld : Int} {h : Nat} (hv : VisOK t i d lo hi seen ld h) : (0 ≤ i ∧ i < t.ps.length) ∧ d < 3 ∧ seen i.toNat = false ∧ fillB t i = true ∧ keysIn (pg t i).ks lo hi = true ∧ ((pg t i).cs.length = 0 → h = 1 ∧ (ld < 0 ∨ ld = d)) := by
  have h1 := okT_top hv.ok
  have h3 := hv.h1
  have h4 := hv.h3
  have h6 := hv.le
  refine ⟨inT_iff.1 h1.2.1, by omega, hv.un i ?_, h1.2.2.1, h1.2.2.2, fun h5 => ?_⟩
  · obtain ⟨h', rfl⟩ : ∃ h', h = h' + 1 := ⟨h - 1, by omega⟩
    rw [wlk_succ]; exact List.mem_cons_self ..
  · obtain ⟨h', rfl⟩ : ∃ h', h = h' + 1 := ⟨h - 1, by omega⟩
    by_cases h0 : h' = 0
    · subst h0; exact ⟨rfl, by omega⟩
    · have := ((okT_inner h0).1 hv.ok).2.1; omega
theorem keysIn_false {ks : List Int} {lo hi : Int} (m : Nat) (h : m < ks.length) (h2 : nth ks m < lo ∨ hi ≤ nth ks m) : keysIn ks lo hi = false :=
  all_false m h (by simp; omega)
theorem keysIn_true {ks : List Int} {lo hi : Int} (h : ∀ m, m < ks.length → lo ≤ nth ks m ∧ nth ks m < hi) : keysIn ks lo hi = true :=
  all_true fun m hm => by have := h m hm; simp; omega
end Go.V

namespace Go.V
theorem keysIn_all {ks : List Int} {lo hi : Int} : keysIn ks lo (hi + 1) = ks.all fun k => decide (lo ≤ k) && decide (k ≤ hi) := by
  unfold keysIn
  congr 1; funext k
  congr 1
  exact decide_eq_decide.2 (by omega)
theorem okT_p {t : Pt} {h : Nat} {i lo hi : Int} {p : Pg} (hp : pg t i = p) (a : okT t h i lo hi = true) : (p.ks.length ≤ 4 ∧ goodKeys p.ks = true) ∧ (i = t.r ∨ 2 ≤ p.ks.length) ∧ keysIn p.ks lo hi = true := by
  have h1 := okT_top a
  subst hp
  have h2 := h1.2.2.1
  rw [fillB, fillP] at h2
  simp only [Bool.and_eq_true, Bool.or_eq_true, decide_eq_true_eq] at h2
  exact ⟨h2.1.1, h2.1.2, h1.2.2.2⟩
theorem okT_one {t : Pt} {i lo hi : Int} {p : Pg} (hp : pg t i = p) (h0 : inT t i = true) (h1 : p.ks.length ≤ 4) (h2 : goodKeys p.ks = true) (h3 : i = t.r ∨ 2 ≤ p.ks.length) (h4 : keysIn p.ks lo hi = true) : okT t 1 i lo hi = (decide (p.cs.length = 0) && lfB p) := by
  subst hp
  rw [okT, if_pos rfl, h0, h4, fillB, fillP, h2, decide_eq_true h1]
  have h5 : (decide (i = t.r) || decide (2 ≤ (pg t i).ks.length)) = true := by simpa using h3
  rw [h5]
  by_cases hc : (pg t i).cs.length = 0
  · simp [hc]
  · simp [hc]
theorem okT_more {t : Pt} {h : Nat} {i lo hi : Int} {p : Pg} (hp : pg t i = p) (h0 : h ≠ 0) (hi0 : inT t i = true) (h1 : p.ks.length ≤ 4) (h2 : goodKeys p.ks = true) (h3 : i = t.r ∨ 2 ≤ p.ks.length) (h4 : keysIn p.ks lo hi = true) (h5 : p.ks.length ≠ 0) (h6 : p.vs.length = 0) (h7 : p.cs.length = p.ks.length + 1)
    (h8 : ∀ j, j < p.cs.length → okT t h (nth p.cs j) (frK p lo j) (toK p hi j) = true) : okT t (h + 1) i lo hi = true := by
  subst hp
  refine (okT_inner h0).2 ⟨⟨hi0, ?_, h4⟩, by omega, h8⟩
  have h5' : (decide (i = t.r) || decide (2 ≤ (pg t i).ks.length)) = true := by simpa using h3
  rw [fillB, fillP, h2, decide_eq_true h1, h5', if_neg (by omega), inB, decide_eq_true h6, decide_eq_true h7, decide_eq_true (by omega)]
  rfl
theorem okT_less {t : Pt} {h : Nat} {i lo hi : Int} {p : Pg} (hp : pg t i = p) (h0 : h ≠ 0) (a : okT t (h + 1) i lo hi = true) : p.ks.length ≠ 0 ∧ p.vs.length = 0 ∧ p.cs.length = p.ks.length + 1 ∧ (∀ c ∈ p.cs, inT t c = true) ∧ ∀ j, j < p.cs.length → okT t h (nth p.cs j) (frK p lo j) (toK p hi j) = true := by
  subst hp
  have h1 := (okT_inner h0).1 a
  have h2 := fill_inner (h1.1.2.1) (by omega)
  refine ⟨by omega, h2.2.2.2.2, h2.1, fun c hc => ?_, h1.2.2⟩
  obtain ⟨_, lo', hi', h3⟩ := okT_kid a hc
  exact (okT_top h3).2.1
theorem okT_len {t : Pt} : ∀ {h : Nat} {i lo hi : Int}, okT t h i lo hi = true → (wlk t h i).length ≤ 6 ^ h
  | 0, _, _, _, a => by simp [okT] at a
  | h + 1, i, lo, hi, a => by
    have hk : (pg t i).cs.length ≤ 5 := by
      by_cases h0 : h = 0
      · subst h0; have := (okT_leaf.1 a).2; omega
      · have h1 := okT_p rfl a
        have h2 := okT_less rfl h0 a
        omega
    have hb : ∀ (cs : List Int), (∀ c ∈ cs, (wlk t h c).length ≤ 6 ^ h) → (cs.flatMap (wlk t h)).length ≤ cs.length * 6 ^ h := fun cs => by
      induction cs with
      | nil => intro _; simp
      | cons c cs ih =>
        intro hc
        have h1 := ih fun x hx => hc x (List.mem_cons_of_mem _ hx)
        have h2 := hc c (List.mem_cons_self ..)
        rw [List.flatMap_cons, List.length_append, List.length_cons, Nat.add_mul]
        omega
    have := hb (pg t i).cs fun c hc => by
      obtain ⟨_, lo', hi', h3⟩ := okT_kid a hc
      exact okT_len h3
    have h5 : (pg t i).cs.length * 6 ^ h ≤ 5 * 6 ^ h := Nat.mul_le_mul_right _ hk
    have h6 : 1 ≤ 6 ^ h := Nat.one_le_pow _ _ (by omega)
    rw [wlk_succ, List.length_cons, Nat.pow_succ]
    omega
theorem wk_kid {t : Pt} {h : Nat} {i : Int} (a : wkT t (h + 1) i = true) : inT t i = true ∧ ∀ c ∈ (pg t i).cs, wkT t h c = true := by
  rw [wkT, Bool.and_eq_true, List.all_eq_true] at a; exact a
theorem wlk_part {t : Pt} {h : Nat} {cs : List Int} {j : Nat} (hj : j < cs.length) : ((cs.take j).flatMap (wlk t h)).length + (wlk t h (nth cs j)).length ≤ (cs.flatMap (wlk t h)).length := by
  have e : cs.flatMap (wlk t h) = (cs.take (j + 1)).flatMap (wlk t h) ++ (cs.drop (j + 1)).flatMap (wlk t h) := by rw [← List.flatMap_append, List.take_append_drop]
  rw [e, flat_take hj, List.length_append, List.length_append]; omega
end Go.V

namespace Go.V
/-! lists of pages, loaded trees -/
abbrev dG (ps : List Pg) : List D := ps.map fun p => D.pv (pgP p)
theorem toPVs_dG (ps : List Pg) : toPVs (dG ps) = some (ps.map pgP) := toPVs_m (f := pgP) (fun _ => rfl) ps
theorem elems_G {S : Store} (ps : List Pg) : elemsOf S 3 (.pv (pgsP ps)) = some (dG ps) := elems_m (f := pgP) (fun _ => rfl) ps
theorem cell_G (ps : List Pg) : (dG ps).all cellOK = true := by
  rw [List.all_eq_true]; intro x hx; obtain ⟨a, _, rfl⟩ := List.mem_map.1 hx; rfl
theorem obD_mG {ty sz : Nat} {m : D → D} (ps : List Pg) : (obD ty sz (dG ps)).map (mpOb m) = obD ty sz (dG ps) := obD_m (f := pgP) ps fun _ => rfl
abbrev treeD (o : Nat) (t : Pt) : D := .agg [.pv (i64 t.r), ownD o (dG t.ps)]
def leafG (xs : List (Int × Int)) : Pg := ⟨keysR xs, [], xs.map Prod.snd⟩
abbrev fk (p : Pg) : Int := nth p.ks 0
def nlv (m : Nat) : Nat := max 1 ((m + 3) / 4)
abbrev cutAt (m n i : Nat) : Nat := m * i / n
def cutP (xs : List (Int × Int)) (n i : Nat) : List (Int × Int) := (xs.take (cutAt xs.length n (i + 1))).drop (cutAt xs.length n i)
def lvsP (xs : List (Int × Int)) : List Pg := (List.range (nlv xs.length)).map fun i => leafG (cutP xs (nlv xs.length) i)
def natI (n m : Nat) : List Int := (List.range m).map fun i => ((n + i : Nat) : Int)
def loadP (xs : List (Int × Int)) : List Pg :=
  if nlv xs.length = 1 then lvsP xs
  else if nlv xs.length ≤ 5 then ⟨((lvsP xs).drop 1).map fk, natI 1 (nlv xs.length), []⟩ :: lvsP xs
  else [⟨[fk (nth (lvsP xs) (nlv xs.length / 2))], [1, ((2 + nlv xs.length / 2 : Nat) : Int)], []⟩, ⟨(((lvsP xs).take (nlv xs.length / 2)).drop 1).map fk, natI 2 (nlv xs.length / 2), []⟩] ++ (lvsP xs).take (nlv xs.length / 2)
    ++ [⟨((lvsP xs).drop (nlv xs.length / 2 + 1)).map fk, natI (3 + nlv xs.length / 2) (nlv xs.length - nlv xs.length / 2), []⟩] ++ (lvsP xs).drop (nlv xs.length / 2)
def loadT (xs : List (Int × Int)) : Pt := ⟨0, loadP xs⟩
theorem nlv_le {m : Nat} (h : m ≤ 24) : 1 ≤ nlv m ∧ nlv m ≤ 6 ∧ (nlv m ≠ 1 → nlv m ≤ m) := by simp [nlv]; omega
theorem cut_le {m n i : Nat} (hi : i ≤ n) (hn : 1 ≤ n) : cutAt m n i ≤ m := by
  rw [cutAt, Nat.div_le_iff_le_mul_add_pred (by omega)]
  have := Nat.mul_le_mul_left m hi
  rw [Nat.mul_comm n m]; omega
theorem cut_mono {m n i : Nat} : cutAt m n i ≤ cutAt m n (i + 1) := Nat.div_le_div_right (Nat.mul_le_mul_left _ (by omega))
theorem cut_zero {m n : Nat} : cutAt m n 0 = 0 := by simp [cutAt]
theorem cut_step {m n i : Nat} (hn : 1 ≤ n) (h : n ≤ m) : cutAt m n i < cutAt m n (i + 1) := by
  rw [cutAt, cutAt, Nat.mul_add, Nat.mul_one]
  have h1 : m * i / n + 1 = (m * i + n) / n := by rw [Nat.add_div_right _ (by omega)]
  have h2 : (m * i + n) / n ≤ (m * i + m) / n := Nat.div_le_div_right (by omega)
  omega
theorem cutP_len {xs : List (Int × Int)} {n i : Nat} (hi : i < n) : (cutP xs n i).length = cutAt xs.length n (i + 1) - cutAt xs.length n i := by
  have := cut_le (m := xs.length) (n := n) (i := i + 1) (by omega) (by omega)
  simp only [cutP, List.length_drop, List.length_take]
  omega
theorem lvsP_len {xs : List (Int × Int)} : (lvsP xs).length = nlv xs.length := by simp [lvsP]
theorem lvsP_at {xs : List (Int × Int)} {i : Nat} (h : i < nlv xs.length) : nth (lvsP xs) i = leafG (cutP xs (nlv xs.length) i) := by
  rw [nth_eq (by rw [lvsP_len]; exact h)]
  simp [lvsP]
theorem lvs_ks {xs : List (Int × Int)} (hx : xs.length ≤ 24) {i : Nat} (h : i < nlv xs.length) (h1 : nlv xs.length ≠ 1) : 0 < (nth (lvsP xs) i).ks.length := by
  have h2 := nlv_le hx
  rw [lvsP_at h, leafG]
  simp only [List.length_map]
  rw [cutP_len h]
  have := cut_step (m := xs.length) (n := nlv xs.length) (i := i) (by omega) (by omega)
  omega
theorem loadP_len {xs : List (Int × Int)} (hx : xs.length ≤ 24) : 1 ≤ (loadP xs).length ∧ (loadP xs).length ≤ 16 := by
  have h := nlv_le hx
  have hl := lvsP_len (xs := xs)
  unfold loadP
  split
  · omega
  · split
    · simp; omega
    · simp; omega
theorem natI_succ {n m : Nat} : natI n (m + 1) = natI n m ++ [((n + m : Nat) : Int)] := by
  simp [natI, List.range_succ]
end Go.V
namespace Go.V
section q
variable {P : Program} {sf : SM} {r : RT} {L : List (Nat × D)} {S : Store} {K : Env → Store → Prop} {t : Nat}
theorem q_mul_to {x y : Opd} {k : IntKind} {a b : Int} (c : Int) (hx : ev (env L) x = .pv (.int k a)) (hy : ev (env L) y = .pv (.int k b)) (e : a * b = c) (hr : inR k c) (h : RG P sf r (env ((t, .pv (.int k c)) :: L)) S K) :
    RG P sf (.op ⟨some t, none, .bin .mul x y⟩ r) (env L) S K := q_mul hx hy (e ▸ hr) (e ▸ h)
theorem q_mx_to {x y : Opd} {k : IntKind} {a b : Int} (c : Int) (hx : ev (env L) x = .pv (.int k a)) (hy : ev (env L) y = .pv (.int k b)) (e : max a b = c) (h : RG P sf r (env ((t, .pv (.int k c)) :: L)) S K) :
    RG P sf (.op ⟨some t, none, .mx x y⟩ r) (env L) S K := q_mx hx hy (e ▸ h)
theorem q_build1 {z0 z1 : D} {x : Opd} {d : D} (hx : ev (env L) x = d) (hd : cellsD d = some [d]) (h : RG P sf r (env ((t, .agg [z0, d]) :: L)) S K) :
    RG P sf (.op ⟨some t, none, .build [z0, z1] [(1, (1, x))]⟩ r) (env L) S K := by
  refine q_build ?_ h
  subst hx
  simp only [fillD, hd]
  simp [setAt]
end q
def NewT (P : Program) (f : FuncId) (pty : Nat) (args : List PV) (t : Pt) : Prop :=
  CallS P f (args.map .pv) [] (fun d S => ∃ T, d = treeD 0 t ∧ S = obD pty 3 (dG t.ps) :: T)
theorem mul_le24 {m i : Nat} (h : m ≤ 24) (hi : i ≤ 7) : m * i ≤ 168 := Nat.mul_le_mul h hi
theorem lvs_step {xs : List (Int × Int)} {i : Nat} (h : i < nlv xs.length) : (lvsP xs).take (i + 1) = (lvsP xs).take i ++ [leafG (cutP xs (nlv xs.length) i)] := by
  rw [take_succ_nth (by rw [lvsP_len]; exact h), lvsP_at h]
theorem lvs_keys {xs : List (Int × Int)} {i : Nat} (h : i < nlv xs.length) (h0 : 0 < i) : (((lvsP xs).take (i + 1)).drop 1).map fk = (((lvsP xs).take i).drop 1).map fk ++ [fk (nth (lvsP xs) i)] := by
  have hl := lvsP_len (xs := xs)
  rw [take_succ_nth (by omega), List.drop_append_of_le_length (by simp; omega), List.map_append]
  rfl
end Go.V
namespace Go.V
theorem l7 {a b c d e f g a' b' c' d' e' f' g' : Option Ob} (h1 : a = a') (h2 : b = b') (h3 : c = c') (h4 : d = d') (h5 : e = e') (h6 : f = f') (h7 : g = g') : ([a, b, c, d, e, f, g] : Store) = [a', b', c', d', e', f', g'] := by rw [h1, h2, h3, h4, h5, h6, h7]
theorem keys_drop {ps : List Pg} {i d : Nat} (h : i < ps.length) (hd : d ≤ i) : ((ps.take (i + 1)).drop d).map fk = ((ps.take i).drop d).map fk ++ [fk (nth ps i)] := by
  rw [take_succ_nth h, List.drop_append_of_le_length (by simp; omega), List.map_append]
  rfl
end Go.V
namespace Go.V
theorem in2 {ty sz : Nat} {os : List Nat} {a b a' b' : Nat} {xs ys : List D} (h1 : posOf os a = some a') (h2 : posOf os b = some b') : (some (⟨ty, sz, [.agg [ownD a xs, ownD b ys]]⟩ : Ob)).map (mpOb (inv os)) = some ⟨ty, sz, [.agg [ownD a' xs, ownD b' ys]]⟩ := by
  show some (⟨ty, sz, [.agg [mp1 (inv os) (ownD a xs), mp1 (inv os) (ownD b ys)]]⟩ : Ob) = _
  rw [mp1_own h1, mp1_own h2]
end Go.V

/- A part of the proofs about laws of the page tree (see the text that bears the law): a small language of steps, its rules, and what the functions of the program return. -/
import Derived.Test.YtjbihdcdamchnaaPL
set_option linter.all false
set_option linter.unusedVariables false
set_option linter.unusedSimpArgs false
namespace Go.V
/-! readers -/
/-- a function that draws from a reader and gives something pure -/
def RdS (P : Program) (f : FuncId) (ty : Nat) (bs : List Int) (p : Int) (args : List PV) (Q : PV → Int → Prop) : Prop :=
  CallS P f (.ptr 0 0 0 :: args.map .pv) [some (rdr ty bs p)] (fun d S => ∃ x q T, d = ofPV x ∧ Q x q ∧ S = some (rdr ty bs q) :: T)

theorem mpD_pv (m : D → D) (p : PV) : mpD m (.pv p) = .pv p := by cases p <;> rfl
theorem mpD_ofPV (m : D → D) (p : PV) : mpD m (ofPV p) = ofPV p := by
  cases p with
  | tup ps =>
    show D.tup ((ps.map .pv).map (mpS m)) = .tup (ps.map .pv)
    rw [List.map_map]
    exact congrArg D.tup (List.map_congr_left fun x _ => by cases x <;> rfl)
  | _ => rfl
theorem mpOb_rdr (m : D → D) (ty : Nat) (bs : List Int) (p : Int) : mpOb m (rdr ty bs p) = rdr ty bs p := rfl
theorem posOf_single (o x : Nat) : posOf [o] x = if o = x then some 0 else none := by
  simp only [posOf]
  split <;> rfl
theorem mergeS_one {o : Nat} {S S1 : Store} (ho : o < S.length) : mergeS [o] S S1 = S.set o ((S1.getD 0 none).map (mpOb (fwd [o] S.length))) ++ (S1.drop 1).map (Option.map (mpOb (fwd [o] S.length))) := by
  unfold mergeS
  congr 1
  apply List.ext_getElem?
  intro x
  rw [List.getElem?_map, List.getElem?_set]
  by_cases hx : x < S.length
  · rw [List.getElem?_range hx]
    simp only [Option.map_some, posOf_single]
    by_cases e : o = x
    · subst e; simp [hx]
    · simp [e, List.getElem?_eq_getElem hx]
  · rw [List.getElem?_eq_none (by simp; omega)]
    have : o ≠ x := by omega
    simp [this, List.getElem?_eq_none (Nat.le_of_not_lt hx)]
/-- what a call leaves may be seen anew -/
theorem CallS.bd {P : Program} {f : FuncId} {ds : List D} {S : Store} {c c0 : D → Store → Prop} (h : CallS P f ds S c0) (hb : ∀ d S', c0 d S' → Bd S.length (env [(0, d)]) S' (fun E S'' => c (E 0) S'')) : CallS P f ds S c := fun ρ I w vs hs hv =>
  (h ρ I w vs hs hv).mono fun e w' ⟨u, d, ρ', I', S', h1, h2, h3, h4, h5⟩ => by
    have hk : S.length ≤ S'.length := by
      have := h5.kept
      rw [hs.len] at this
      rw [← h3.len]; simpa using this
    obtain ⟨E', S'', ρ'', I'', k1, k2, k3, k4⟩ := hb d S' h2 ρ' I' w' { tmps := #[u], defers := [] } h3 (fun t => by
      rw [env_cons]
      split
      · rename_i e; subst e; exact h4
      · exact rd_any) hk
    exact ⟨u, E' 0, ρ'', I'', S'', h1, k1, k2, k3 0, h5.trans k4⟩
theorem RdS.trim {P : Program} {f : FuncId} {ty : Nat} {bs : List Int} {p : Int} {args : List PV} {Q : PV → Int → Prop} (h : RdS P f ty bs p args Q) :
    CallS P f (.ptr 0 0 0 :: args.map .pv) [some (rdr ty bs p)] (fun d S => ∃ x q, d = ofPV x ∧ Q x q ∧ S = [some (rdr ty bs q)]) := by
  refine CallS.bd h ?_
  rintro d S' ⟨x, q, T, rfl, hq, rfl⟩
  refine Bd.renL [0] (fun i hi => by have e : i = 0 := (by simp at hi; omega); subst e; rfl) (by simp) [(0, ofPV x)] ⟨mpD_ofPV _ _, trivial⟩ rfl ?_
  exact ⟨x, q, rfl, hq, rfl⟩
theorem RdS.at {P : Program} {f : FuncId} {ty : Nat} {bs : List Int} {p : Int} {args : List PV} {Q : PV → Int → Prop} (h : RdS P f ty bs p args Q) {S : Store} {o : Nat} (hS : S[o]? = some (some (rdr ty bs p))) :
    CallS P f (.ptr o 0 0 :: args.map .pv) S (fun d S' => ∃ x q, d = ofPV x ∧ Q x q ∧ S' = S.set o (some (rdr ty bs q))) := by
  have ho : o < S.length := (List.getElem?_eq_some_iff.1 hS).1
  have e1 : subS [o] S = [some (rdr ty bs p)] := by simp [subS, List.getD_eq_getElem?_getD, hS, mpOb_rdr]
  have e2 : (.ptr o 0 0 :: args.map D.pv).map (mpD (inv [o])) = .ptr 0 0 0 :: args.map .pv := by
    simp only [List.map_cons, List.map_map]
    rw [show mpD (inv [o]) (D.ptr o 0 0) = .ptr 0 0 0 by simp [mpD, mpS, mp1, mp0, inv, posOf_single]]
    exact congrArg (D.ptr 0 0 0 :: ·) (List.map_congr_left fun x _ => mpD_pv _ _)
  refine CallS.frame (c1 := fun d S => ∃ x q, d = ofPV x ∧ Q x q ∧ S = [some (rdr ty bs q)]) [o] (by simp) (by simpa using ⟨_, hS⟩) ?_ ?_
  · rw [e1, e2]; exact h.trim
  · rintro d S1 ⟨x, q, rfl, hq, rfl⟩
    rw [mergeS_one ho]
    exact ⟨x, q, mpD_ofPV _ _, hq, by simp [mpOb_rdr]⟩
theorem obD_m {α : Type} {f : α → PV} {ty sz : Nat} {m : D → D} (xs : List α) (h : ∀ a, mpS m (.pv (f a)) = .pv (f a)) : (obD ty sz (xs.map fun a => D.pv (f a))).map (mpOb m) = obD ty sz (xs.map fun a => D.pv (f a)) := by
  cases xs with
  | nil => rfl
  | cons a r =>
    simp only [List.map_cons, obD, Option.map_some, mpOb, h]
    congr 3
    rw [List.map_map]
    exact List.map_congr_left fun x _ => h x
theorem obD_mI {ty sz : Nat} {m : D → D} (xs : List Int) : (obD ty sz (dI xs)).map (mpOb m) = obD ty sz (dI xs) := obD_m (f := fun k => i64 k) xs fun _ => rfl
theorem obD_mP {ty sz : Nat} {m : D → D} (xs : List (Int × Int)) : (obD ty sz (dP xs)).map (mpOb m) = obD ty sz (dP xs) := obD_m (f := pairP) xs fun _ => rfl
section q
variable {P : Program} {sf : SM} {r : RT} {L : List (Nat × D)} {S : Store} {K : Env → Store → Prop} {t : Nat}
theorem q_rd {f : FuncId} {ty : Nat} {bs : List Int} {p : Int} {args' : List Opd} {args : List PV} {o : Nat} {Q : PV → Int → Prop} (hm : cOK sf = true) (hc : RdS P f ty bs p args Q) (ha : args'.map (ev (env L)) = .ptr o 0 0 :: args.map .pv) (hS : S[o]? = some (some (rdr ty bs p)))
    (hs : ∀ q, sOK sf (S.set o (some (rdr ty bs q)))) (h : ∀ x q, Q x q → RG P sf r (env ((t, ofPV x) :: L)) (S.set o (some (rdr ty bs q))) K) : RG P sf (.op ⟨some t, none, .call f args'⟩ r) (env L) S K := by
  refine q_call hm ?_
  rw [ha]
  refine (hc.at hS).mono ?_
  rintro d S' ⟨x, q, rfl, hq, rfl⟩
  exact ⟨hs q, h x q hq⟩
end q

theorem mergeS_nil {S S1 : Store} : mergeS [] S S1 = S ++ S1.map (Option.map (mpOb (fwd [] S.length))) := by
  unfold mergeS
  congr 1
  apply List.ext_getElem?
  intro x
  rw [List.getElem?_map]
  by_cases hx : x < S.length
  · rw [List.getElem?_range hx]
    simp [posOf, List.getElem?_eq_getElem hx]
  · rw [List.getElem?_eq_none (by simp; omega), List.getElem?_eq_none (by omega)]; rfl
/-- a function that makes a reader -/
def NewRd (P : Program) (f : FuncId) (ty : Nat) (bs : List Int) : Prop :=
  CallS P f [.pv (u8s bs)] [] (fun d S => ∃ bs2, (isU8 bs2 ∧ bs2.length ≤ 2000) ∧ d = .ptr 0 0 0 ∧ S = [some (rdr ty bs2 0)])
section q
variable {P : Program} {sf : SM} {r : RT} {L : List (Nat × D)} {S : Store} {K : Env → Store → Prop} {t : Nat}
theorem q_newRd {f : FuncId} {ty : Nat} {bs : List Int} {args' : List Opd} (hm : cOK sf = true) (hc : NewRd P f ty bs) (ha : args'.map (ev (env L)) = [.pv (u8s bs)])
    (hs : ∀ bs2, sOK sf (S ++ [some (rdr ty bs2 0)])) (h : ∀ bs2, isU8 bs2 ∧ bs2.length ≤ 2000 → RG P sf r (env ((t, .ptr S.length 0 0) :: L)) (S ++ [some (rdr ty bs2 0)]) K) : RG P sf (.op ⟨some t, none, .call f args'⟩ r) (env L) S K := by
  refine q_call hm ?_
  rw [ha]
  refine CallS.frame (c1 := fun d S => ∃ bs2, (isU8 bs2 ∧ bs2.length ≤ 2000) ∧ d = .ptr 0 0 0 ∧ S = [some (rdr ty bs2 0)]) [] (by simp) (by simp) hc ?_
  rintro d S1 ⟨bs2, hb, rfl, rfl⟩
  rw [mergeS_nil]
  exact ⟨hs bs2, h bs2 hb⟩
end q

/-! fresh slices -/
def NewS (P : Program) (f : FuncId) (ty sz : Nat) (args : List PV) (xs : List D) : Prop :=
  CallS P f (args.map .pv) [] (fun d S => d = ownD 0 xs ∧ S = [obD ty sz xs])

def flatD : D → Bool
  | .pv p => flatS p
  | _ => false
theorem flatD_rdc {ρ ρ' : Rho} {I I' : Nat → Prop} {w : World} {vs : List Value} {d : D} (h : RDc ρ I w vs d) (hf : flatD d = true) : RDc ρ' I' w vs d := by
  cases d with
  | pv p =>
    have h' : RC I w vs p := h
    show RC I' w vs p
    cases p with
    | agg cs => exact flatA_rc h' (by simpa [flatD, flatS] using hf)
    | _ => exact flatP_rc h' (by simpa [flatD, flatS] using hf)
  | _ => simp [flatD] at hf
theorem toRs_nil {S : Store} : toRs 5 S [] = some [] := rfl
theorem toRs_cons {S : Store} {d : D} {p : PV} {ds : List D} {ps : List PV} (h : toR 5 S d = some p) (h2 : toRs 5 S ds = some ps) : toRs 5 S (d :: ds) = some (p :: ps) := by
  simp only [toRs, optMap] at h2 ⊢
  rw [h, h2]
theorem toR_own {n o ty sz : Nat} {S : Store} {xs : List D} {ps : List PV} (hS : S[o]? = some (obD ty sz xs)) (hps : optMap (toR n S) xs = some ps) : toR (n + 1) S (ownD o xs) = some (.sl ps) := by
  cases xs with
  | nil => simp [optMap] at hps; subst hps; rfl
  | cons x r =>
    have hS' : S[o]? = some (some ⟨ty, sz, x :: r⟩) := hS
    have e1 : toR (n + 1) S (ownD o (x :: r)) = (match S[o]? with
        | some (some ob) => if r.length + 1 ≤ ob.xs.length then (optMap (toR n S) (ob.xs.take (r.length + 1))).map .sl else none
        | _ => none) := rfl
    rw [e1, hS']
    dsimp only
    rw [if_pos (by simp), List.take_of_length_le (by simp), hps]
    rfl
theorem toR_I {n o ty sz : Nat} {S : Store} {xs : List Int} (hS : S[o]? = some (obD ty sz (dI xs))) : toR (n + 2) S (ownD o (dI xs)) = some (ints xs) :=
  toR_own (n := n + 1) hS (toR_m (f := fun k => i64 k) (fun _ => rfl) xs)
theorem toR_P {n o ty sz : Nat} {S : Store} {xs : List (Int × Int)} (hS : S[o]? = some (obD ty sz (dP xs))) : toR (n + 2) S (ownD o (dP xs)) = some (prs xs) :=
  toR_own (n := n + 1) hS (toR_m (f := pairP) (fun _ => rfl) xs)
theorem toR_agg2 {n : Nat} {S : Store} {a b : D} {p q : PV} (h1 : toR n S a = some p) (h2 : toR n S b = some q) : toR (n + 1) S (.agg [a, b]) = some (.agg [p, q]) := by
  show (optMap (toR n S) [a, b]).map PV.agg = _
  simp [optMap, h1, h2]
theorem toR_agg3 {n : Nat} {S : Store} {a b c : D} {p q r : PV} (h1 : toR n S a = some p) (h2 : toR n S b = some q) (h3 : toR n S c = some r) : toR (n + 1) S (.agg [a, b, c]) = some (.agg [p, q, r]) := by
  show (optMap (toR n S) [a, b, c]).map PV.agg = _
  simp [optMap, h1, h2, h3]

theorem NewS.lendAt {P : Program} {f : FuncId} {ty sz : Nat} {ps : List PV} {xs : List D} (h : NewS P f ty sz ps xs) (hfl : ∀ x ∈ xs, flatD x = true) {ds : List D} {S : Store} (hp : toRs 5 S ds = some ps) :
    CallS P f ds S (fun d S' => d = ownD S.length xs ∧ S' = S ++ [obD ty sz xs]) := fun ρ I w vs hs hv => by
  have hold : ∀ b, allI ρ I b → b < w.heap.size := fun b hb => by
    rcases hb with hb | ⟨o, sz, ho⟩
    · exact hs.old b hb
    · exact hs.lt o b sz ho
  have hst : St [] (allI ρ I) w [] := ⟨⟨hold, by simp⟩, rfl, by simp, by simp, by simp⟩
  refine (h [] (allI ρ I) w vs hst (RVs_RDs (toRs_sound hs hp hv))).mono ?_
  rintro e w1 ⟨u, d, ρ1, I1, S1, he, ⟨rfl, rfl⟩, hs1, hu, hx⟩
  have hsame : ∀ b, allI ρ I b → I1 b ∧ w1.heap[b]? = w.heap[b]? := hx.im
  have hS1len : ρ1.length = 1 := by rw [hs1.len]; rfl
  obtain ⟨r0, rfl⟩ : ∃ r0, ρ1 = [r0] := by
    match ρ1, hS1len with
    | [r0], _ => exact ⟨r0, rfl⟩
  have kp : Keeps ρ I w w1 := ⟨fun b hb => (hsame b (.inl hb)).2, fun o b sz ho cs E hc => ⟨cs, by rw [(hsame b (.inr ⟨o, sz, ho⟩)).2]; exact hc, rfl⟩⟩
  have hget : (ρ ++ [r0])[S.length]? = some r0 := by rw [List.getElem?_append_right (by rw [hs.len]; exact Nat.le_refl _)]; simp [hs.len]
  have hleft : ∀ (o b sz : Nat), ρ[o]? = some (some (b, sz)) → (ρ ++ [r0])[o]? = some (some (b, sz)) := fun o b sz ho => by
    rw [List.getElem?_append_left (List.getElem?_eq_some_iff.1 ho).1]; exact ho
  have hsplit : ∀ (o b sz : Nat), (ρ ++ [r0])[o]? = some (some (b, sz)) → ρ[o]? = some (some (b, sz)) ∨ (o = S.length ∧ r0 = some (b, sz)) := fun o b sz ho => by
    rw [List.getElem?_append] at ho
    split at ho
    · exact .inl ho
    · rename_i hge
      simp only [List.getElem?_singleton] at ho
      split at ho <;> simp at ho
      exact .inr ⟨by have := hs.len; omega, ho⟩
  have hSsplit : ∀ (o : Nat) (ob : Ob), (S ++ [obD ty sz xs])[o]? = some (some ob) → (o < S.length ∧ S[o]? = some (some ob)) ∨ (o = S.length ∧ obD ty sz xs = some ob) := fun o ob ho => by
    rw [List.getElem?_append] at ho
    split at ho
    · rename_i hlt; exact .inl ⟨hlt, ho⟩
    · simp only [List.getElem?_singleton] at ho
      split at ho <;> simp at ho
      exact .inr ⟨by omega, ho⟩
  have t0 : Tr ρ I w (ρ ++ [r0]) I w1 := ⟨fun b hb => ⟨hb, (hsame b (.inl hb)).2⟩, fun o b sz ho => ⟨hleft o b sz ho, fun cs E hc => ⟨cs, by rw [(hsame b (.inr ⟨o, sz, ho⟩)).2]; exact hc, rfl⟩⟩⟩
  have hnew : ∀ b sz', r0 = some (b, sz') → b < w1.heap.size := fun b sz' hr => hs1.lt 0 b sz' (by rw [hr]; rfl)
  have hobok : ∀ ob, obD ty sz xs = some ob → ob.xs = xs := fun ob ho => by
    cases xs with
    | nil => cases ho
    | cons x r => simp [obD] at ho; subst ho; rfl
  refine ⟨u, ownD S.length xs, ρ ++ [r0], I, S ++ [obD ty sz xs], he, ⟨rfl, rfl⟩, { old := ?_, obs := ?_, len := by simp [hs.len], lt := ?_, apart := ?_, inj := ?_ }, ?_, ?_⟩
  · exact fun b hb => Nat.lt_of_lt_of_le (hs.old b hb) hx.size
  · intro o ob ho
    rcases hSsplit o ob ho with ⟨hlt, ho2⟩ | ⟨e2, ho2⟩
    · obtain ⟨b, sz', h1, h2, cs, h3, h4, h5⟩ := hs.obs o ob ho2
      exact ⟨b, sz', hleft o b sz' h1, h2, cs, by rw [(hsame b (.inr ⟨o, sz', h1⟩)).2]; exact h3, h4, fun i hi => (h5 i hi).tr t0⟩
    · subst e2
      obtain ⟨b, sz', h1, h2, cs, h3, h4, h5⟩ := hs1.obs 0 ob (by rw [← ho2]; rfl)
      have hr : r0 = some (b, sz') := by simpa using h1
      refine ⟨b, sz', by rw [hget, hr], h2, cs, h3, h4, fun i hi => flatD_rdc (h5 i hi) (hfl _ ?_)⟩
      have := hobok ob ho2
      rw [← this]; exact List.getElem_mem hi
  · intro o b sz' ho
    rcases hsplit o b sz' ho with ho | ⟨_, ho⟩
    · exact Nat.lt_of_lt_of_le (hs.lt o b sz' ho) hx.size
    · exact hnew b sz' ho
  · intro o b sz' ob hS ho hI
    rcases hSsplit o ob hS with ⟨hlt, hS2⟩ | ⟨e2, hS2⟩
    · rcases hsplit o b sz' ho with ho | ⟨e, _⟩
      · exact hs.apart o b sz' ob hS2 ho hI
      · omega
    · rw [e2, hget] at ho
      simp at ho
      exact hs1.apart 0 b sz' ob (by rw [← hS2]; rfl) (by rw [ho]; rfl) (hsame b (.inl hI)).1
  · intro o o' b sz1 sz2 ob ob' hS hS' ho ho'
    have clash : ∀ q sz3 sz4 ob, obD ty sz xs = some ob → r0 = some (b, sz3) → ρ[q]? = some (some (b, sz4)) → False := fun q sz3 sz4 ob h1 h2 h3 =>
      hs1.apart 0 b sz3 ob (by rw [← h1]; rfl) (by rw [h2]; rfl) (hsame b (.inr ⟨q, sz4, h3⟩)).1
    rcases hSsplit o ob hS with ⟨hlt, hS2⟩ | ⟨e2, hS2⟩
    · rcases hSsplit o' ob' hS' with ⟨hlt', hS3⟩ | ⟨e3, hS3⟩
      · rcases hsplit o b sz1 ho with ho | ⟨e, _⟩
        · rcases hsplit o' b sz2 ho' with ho' | ⟨e, _⟩
          · exact hs.inj o o' b sz1 sz2 ob ob' hS2 hS3 ho ho'
          · omega
        · omega
      · rcases hsplit o b sz1 ho with ho | ⟨e, _⟩
        · rw [e3, hget] at ho'
          simp at ho'
          exact (clash o sz2 sz1 ob' hS3 ho' ho).elim
        · omega
    · rcases hSsplit o' ob' hS' with ⟨hlt', hS3⟩ | ⟨e3, hS3⟩
      · rcases hsplit o' b sz2 ho' with ho' | ⟨e, _⟩
        · rw [e2, hget] at ho
          simp at ho
          exact (clash o' sz1 sz2 ob hS2 ho ho').elim
        · omega
      · omega
  · cases xs with
    | nil => exact rd_nils.2 (rd_nils.1 hu)
    | cons x r =>
      obtain ⟨b, sz', cap, cs, E', k1, k2⟩ := rd_own.1 hu
      refine rd_own.2 ⟨b, sz', cap, cs, E', ?_, k2⟩
      rw [hget]; simpa using k1
  · refine t0.ext hx.os hx.tape hx.output hx.size (by simp) (fun k hk _ => hx.block k hk (by simp)) (fun _ h => .inl h) fun o b sz' ho => ?_
    rcases hsplit o b sz' ho with ho | ⟨_, ho⟩
    · exact .inl ⟨o, sz', ho⟩
    · rcases hx.rnew 0 b sz' (by rw [ho]; rfl) with ⟨o', sz'', h1⟩ | h1
      · simp at h1
      · exact .inr h1
theorem flat_I (xs : List Int) : ∀ x ∈ dI xs, flatD x = true := fun x hx => by obtain ⟨a, _, rfl⟩ := List.mem_map.1 hx; rfl
theorem flat_P (xs : List (Int × Int)) : ∀ x ∈ dP xs, flatD x = true := fun x hx => by obtain ⟨a, _, rfl⟩ := List.mem_map.1 hx; rfl
section q
variable {P : Program} {sf : SM} {r : RT} {L : List (Nat × D)} {S : Store} {K : Env → Store → Prop} {t : Nat}
theorem q_new {f : FuncId} {ty sz : Nat} {args' : List Opd} {ps : List PV} {xs : List D} (hm : cOK sf = true) (hc : NewS P f ty sz ps xs) (hfl : ∀ x ∈ xs, flatD x = true) (ha : toRs 5 S (args'.map (ev (env L))) = some ps) (hs : sOK sf (S ++ [obD ty sz xs]))
    (h : RG P sf r (env ((t, ownD S.length xs) :: L)) (S ++ [obD ty sz xs]) K) : RG P sf (.op ⟨some t, none, .call f args'⟩ r) (env L) S K := by
  refine q_call hm ((hc.lendAt hfl ha).mono ?_)
  rintro d S' ⟨rfl, rfl⟩
  exact ⟨hs, h⟩
end q
/-- the same, pure -/
theorem NewS.pure {P : Program} {f : FuncId} {ty : Nat} {ps : List PV} {xs : List Int} (h : NewS P f ty 1 ps (dI xs)) : PCon P f ps (fun p => p = ints xs) :=
  PCon.of_callS h fun d S ⟨hd, hS⟩ => ⟨_, rfl, by subst hd hS; exact reads_own rfl (toR_dI _ _)⟩
theorem NewS.pureP {P : Program} {f : FuncId} {ty : Nat} {ps : List PV} {xs : List (Int × Int)} (h : NewS P f ty 2 ps (dP xs)) : PCon P f ps (fun p => p = prs xs) :=
  PCon.of_callS h fun d S ⟨hd, hS⟩ => ⟨_, rfl, by subst hd hS; exact reads_own rfl (toR_dP _ _)⟩

section q
variable {P : Program} {sf : SM} {r : RT} {L : List (Nat × D)} {S : Store} {K : Env → Store → Prop}
/-- a store into an element of an own slice of numbers -/
theorem q_store_d {ty : Nat} {x y : Opd} {o i : Nat} {xs : List Int} {v : Int} (hx : ev (env L) x = .ptr o i 0) (hy : ev (env L) y = .pv (i64 v)) (hS : S[o]? = some (obD ty 1 (dI xs))) (hi : i < xs.length) (hs : sOK sf (S.set o (obD ty 1 (dI (xs.set i v)))))
    (h : RG P sf r (env L) (S.set o (obD ty 1 (dI (xs.set i v)))) K) : RG P sf (.op ⟨none, none, .store 1 x y⟩ r) (env L) S K := by
  have hne : dI xs ≠ [] := fun e => by have := congrArg List.length e; simp at this; subst this; simp at hi
  have hne2 : dI (xs.set i v) ≠ [] := fun e => by have := congrArg List.length e; simp at this; subst this; simp at hi
  rw [obD_ne hne] at hS
  rw [obD_ne hne2] at hs h
  have e : (dI xs).set i (.pv (i64 v)) = dI (xs.set i v) := by rw [dI, dI, List.map_set]
  have hy2 : (dI xs)[i]? = some (.pv (i64 (nth xs i))) := by rw [List.getElem?_map, List.getElem?_eq_getElem hi, nth_eq hi]; rfl
  refine q_store (z := .pv (i64 v)) hx hy hS hy2 rfl rfl ⟨rfl, rfl, Nat.le_refl 1, rfl, fun _ => rfl⟩ rfl ?_ ?_
  · rw [e]; exact hs
  · rw [e]; exact h
end q
section q
variable {P : Program} {sf : SM} {r : RT} {L : List (Nat × D)} {S : Store} {K : Env → Store → Prop}
/-- an own slice into a field -/
theorem q_storeF {x y : Opd} {o i j k : Nat} {ob : Ob} {cs xs : List D} (hx : ev (env L) x = .ptr o i j) (hy : ev (env L) y = ownD k xs) (hS : S[o]? = some (some ob)) (he : ob.xs[i]? = some (.agg cs)) (hl : cs.length = ob.sz) (hj : j < cs.length)
    (hs : sOK sf (S.set o (some { ob with xs := ob.xs.set i (.agg (setAt cs j [ownD k xs])) }))) (h : RG P sf r (env L) (S.set o (some { ob with xs := ob.xs.set i (.agg (setAt cs j [ownD k xs])) })) K) : RG P sf (.op ⟨none, none, .store 1 x y⟩ r) (env L) S K :=
  q_store hx hy hS he rfl cellsD_own ⟨hl, rfl, by omega, by simp [isCell_own], fun e => by cases e⟩ rfl hs h
theorem q_load_o {x : Opd} {o i j k : Nat} {ob : Ob} {cs xs : List D} {t : Nat} (hx : ev (env L) x = .ptr o i j) (hS : (fs sf S)[o]? = some (some ob)) (he : ob.xs[i]? = some (.agg cs)) (hl : cs.length = ob.sz) (hj : cs[j]? = some (ownD k xs))
    (h : RG P sf r (env ((t, ownD k xs) :: L)) S K) : RG P sf (.op ⟨some t, none, .load 1 false x⟩ r) (env L) S K :=
  q_load_r hx hS he rfl hl hj isOne_own h
end q
theorem l1 {a c : Option Ob} (h : a = c) : ([a] : Store) = [c] := by rw [h]
theorem l2 {a b c d : Option Ob} (h : a = c) (k : b = d) : ([a, b] : Store) = [c, d] := by rw [h, k]
theorem l3 {a b c d e f : Option Ob} (h : a = c) (k : b = d) (l : e = f) : ([a, b, e] : Store) = [c, d, f] := by rw [h, k, l]
theorem l4 {a b c d e f g i : Option Ob} (h : a = c) (k : b = d) (l : e = f) (m : g = i) : ([a, b, e, g] : Store) = [c, d, f, i] := by rw [h, k, l, m]
theorem l5 {a b c d e f g i j z : Option Ob} (h : a = c) (k : b = d) (l : e = f) (m : g = i) (n : j = z) : ([a, b, e, g, j] : Store) = [c, d, f, i, z] := by rw [h, k, l, m, n]
abbrev bdI (B : Int) (xs : List Int) : Prop := ∀ j, j < xs.length → -B ≤ nth xs j ∧ nth xs j ≤ B
theorem bdI.mem {B : Int} {xs : List Int} : bdI B xs ↔ ∀ v ∈ xs, -B ≤ v ∧ v ≤ B := by
  constructor
  · intro h v hv
    obtain ⟨j, hj, rfl⟩ := List.getElem_of_mem hv
    have := h j hj
    rwa [nth_eq hj] at this
  · intro h j hj
    rw [nth_eq hj]; exact h _ (List.getElem_mem hj)
theorem bdI.app {B : Int} {xs ys : List Int} (h : bdI B xs) (h2 : bdI B ys) : bdI B (xs ++ ys) := bdI.mem.2 fun v hv => by
  rcases List.mem_append.1 hv with h' | h'
  · exact bdI.mem.1 h v h'
  · exact bdI.mem.1 h2 v h'
theorem bdI.one {B v : Int} (h : -B ≤ v ∧ v ≤ B) : bdI B [v] := bdI.mem.2 fun u hu => by simp at hu; subst hu; exact h
theorem bdI.drop {B : Int} {xs : List Int} (h : bdI B xs) (n : Nat) : bdI B (xs.drop n) := bdI.mem.2 fun v hv => bdI.mem.1 h v (List.mem_of_mem_drop hv)
theorem bdI.take {B : Int} {xs : List Int} (h : bdI B xs) (n : Nat) : bdI B (xs.take n) := bdI.mem.2 fun v hv => bdI.mem.1 h v (List.mem_of_mem_take hv)
theorem bdI.set {B v : Int} {xs : List Int} (h : bdI B xs) (i : Nat) (hv : -B ≤ v ∧ v ≤ B) : bdI B (xs.set i v) := bdI.mem.2 fun u hu => by
  rcases List.mem_or_eq_of_mem_set hu with h' | h'
  · exact bdI.mem.1 h u h'
  · subst h'; exact hv
theorem bdI.le {B C : Int} {xs : List Int} (h : bdI B xs) (hc : B ≤ C) : bdI C xs := fun j hj => by have := h j hj; omega
theorem bdI.nil {B : Int} : bdI B [] := fun j hj => by simp at hj
end Go.V

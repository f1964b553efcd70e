/- A part of the proofs about laws of the page tree (see the text that bears the law): a small language of steps, its rules, and what the functions of the program return. -/
import Derived.Test.YtjbihdcdamchnaaWKr
import Derived.Test.YtjbihdcdamchnaaPZ
set_option linter.all false
set_option linter.unusedVariables false
set_option linter.unusedSimpArgs false
set_option maxHeartbeats 4000000
namespace Go.V
open Go.Proofs.Try (prog)
theorem c_slices_Delete_Pair (xs : List (Int × Int)) (i j : Nat) (h1 : i < j) (h2 : j ≤ xs.length) (hl : xs.length ≤ 1000000000) : DelS prog 91 43 2 (dP xs) [i64 i, i64 j] (prs (xs.take i ++ xs.drop j)) := by
  unfold DelS
  rw [show (dP xs).length = xs.length by simp]
  refine callS_of_VS sl_slices_Delete_Pair (by simp) ?_
  refine VS_seq ?_
  refine VS_r0 rfl ?_
  refine q_mv rfl ?_
  refine rg_nil ?_
  refine VS_bd (Bd.open 0 rfl fun cap hc1 hc2 => ?_)
  refine VS_seq ?_
  refine VS_r0 rfl ?_
  refine q_mv rfl ?_
  refine q_mv rfl ?_
  refine q_mv rfl ?_
  refine q_mv rfl ?_
  first | refine q_len_m rfl ?_ | refine q_len_s rfl ?_ | refine q_len_o rfl ?_ | refine q_len_n rfl ?_ | refine q_len_x rfl ?_
  refine q_slc3 rfl rfl rfl rfl ⟨by omega, by omega, by omega, by omega⟩ ?_
  refine rg_nil ?_
  refine VS_seq ?_
  refine VS_seq ?_
  refine VS_r0 rfl ?_
  refine q_mv rfl ?_
  refine q_mv rfl ?_
  refine q_eql_v false rfl rfl (decide_eq_false (by omega)) ?_
  refine rg_nil ?_
  refine VS_cond rfl (fun e => by cases e) (fun _ => ?_)
  refine VS_skip ?_
  refine VS_seq ?_
  refine VS_r0 rfl ?_
  refine q_mv rfl ?_
  first | refine q_len_m rfl ?_ | refine q_len_s rfl ?_ | refine q_len_o rfl ?_ | refine q_len_n rfl ?_ | refine q_len_x rfl ?_
  refine q_mv rfl ?_
  refine rg_nil ?_
  refine VS_seq ?_
  refine VS_r2 [some ⟨43, 2, []⟩] hmix (SubL.sub (by repeat (first | exact SubL.nil | apply SubL.none | apply SubL.some | apply SubL.sh | apply SubL.eq))) ?_
  refine q_mv rfl ?_
  refine q_mv rfl ?_
  refine q_slc_s 0 i cap rfl rfl rfl rfl rfl ⟨by omega, by omega, by omega⟩ ⟨by omega, by omega, by omega⟩ (fun h => absurd h (by omega)) (fun _ => ?_)
  refine q_mv rfl ?_
  refine q_mv rfl ?_
  refine q_slc_s j (xs.length - j) (cap - j) rfl rfl rfl rfl rfl ⟨by omega, by omega, by omega⟩ ⟨by omega, by omega, by omega⟩ ?_ ?_
  · intro hcj
    have hd : (xs.drop j).map (fun k => D.pv (pairP k)) = [] := by rw [List.drop_of_length_le (by omega)]; rfl
    first
      | refine q_app_in (ys := (xs.drop j).map (fun k => .pv (pairP k))) (m := xs.length - j) rfl (drop_elems _ rfl (by omega)) (cell_P _) rfl rfl (by simp; omega) (by simp) (by omega) (by first | exact trivial | exact Sub.nil | exact Sub.refl _ | exact Sub.app _ _ | exact SubL.sub (by repeat (first | exact SubL.nil | apply SubL.none | apply SubL.some | apply SubL.sh | apply SubL.eq)) | (refine Sub.of_eq ?_; intro o ob h; rcases o with _ | _ | _ | _ | _ | o <;> simp_all)) ?_
      | refine q_app_in (ys := (xs.drop j).map (fun k => .pv (pairP k))) (m := xs.length - j) rfl (by rw [hd]; rfl) (cell_P _) rfl rfl (by simp; omega) (by simp) (by omega) (by first | exact trivial | exact Sub.nil | exact Sub.refl _ | exact Sub.app _ _ | exact SubL.sub (by repeat (first | exact SubL.nil | apply SubL.none | apply SubL.some | apply SubL.sh | apply SubL.eq)) | (refine Sub.of_eq ?_; intro o ob h; rcases o with _ | _ | _ | _ | _ | o <;> simp_all)) ?_
    refine q_mv rfl ?_
    refine rg_nil ?_
    refine VS_seq ?_
    refine VS_r0 rfl ?_
    refine q_mv rfl ?_
    refine q_mv rfl ?_
    first | refine q_len_m rfl ?_ | refine q_len_s rfl ?_ | refine q_len_o rfl ?_ | refine q_len_n rfl ?_ | refine q_len_x rfl ?_
    refine q_mv rfl ?_
    refine q_slc_s (i + (xs.length - j)) (xs.length - (i + (xs.length - j))) (cap - (i + (xs.length - j))) rfl rfl rfl rfl rfl ⟨by omega, by omega, by omega⟩ ⟨by omega, by omega, by omega⟩ (fun h => absurd h (by omega)) (fun _ => ?_)
    refine q_clear_s rfl rfl rfl (splice_le (by simp; omega) (by simp; omega)) (by omega) rfl ⟨trivial, ?_⟩
    refine rg_nil ?_
    refine VS_seq ?_
    refine VS_r0 rfl ?_
    refine q_mv rfl ?_
    refine q_mv rfl ?_
    refine rg_nil ?_
    refine VS_bd (Bd.subP (ps := (xs.take i ++ xs.drop j).map (fun k => (pairP k))) 6 rfl rfl (splice_le (splice_le (by simp; omega) (by simp; omega)) (splice_le (by simp; omega) (by simp; omega))) (by rw [Nat.zero_add, del_some _ (by omega) h2]; exact toPVs_dP _) ?_)
    refine VS_ret ?_
    exact Bd.now ⟨_, rfl, rfl, rfl⟩
  · intro hcj
    first
      | refine q_app_in (ys := (xs.drop j).map (fun k => .pv (pairP k))) (m := xs.length - j) rfl (drop_elems _ rfl (by omega)) (cell_P _) rfl rfl (by simp; omega) (by simp) (by omega) (by first | exact trivial | exact Sub.nil | exact Sub.refl _ | exact Sub.app _ _ | exact SubL.sub (by repeat (first | exact SubL.nil | apply SubL.none | apply SubL.some | apply SubL.sh | apply SubL.eq)) | (refine Sub.of_eq ?_; intro o ob h; rcases o with _ | _ | _ | _ | _ | o <;> simp_all)) ?_
      | refine q_app_in (ys := (xs.drop j).map (fun k => .pv (pairP k))) (m := xs.length - j) rfl (by rw [hd]; rfl) (cell_P _) rfl rfl (by simp; omega) (by simp) (by omega) (by first | exact trivial | exact Sub.nil | exact Sub.refl _ | exact Sub.app _ _ | exact SubL.sub (by repeat (first | exact SubL.nil | apply SubL.none | apply SubL.some | apply SubL.sh | apply SubL.eq)) | (refine Sub.of_eq ?_; intro o ob h; rcases o with _ | _ | _ | _ | _ | o <;> simp_all)) ?_
    refine q_mv rfl ?_
    refine rg_nil ?_
    refine VS_seq ?_
    refine VS_r0 rfl ?_
    refine q_mv rfl ?_
    refine q_mv rfl ?_
    first | refine q_len_m rfl ?_ | refine q_len_s rfl ?_ | refine q_len_o rfl ?_ | refine q_len_n rfl ?_ | refine q_len_x rfl ?_
    refine q_mv rfl ?_
    refine q_slc_s (i + (xs.length - j)) (xs.length - (i + (xs.length - j))) (cap - (i + (xs.length - j))) rfl rfl rfl rfl rfl ⟨by omega, by omega, by omega⟩ ⟨by omega, by omega, by omega⟩ (fun h => absurd h (by omega)) (fun _ => ?_)
    refine q_clear_s rfl rfl rfl (splice_le (by simp; omega) (by simp; omega)) (by omega) rfl ⟨trivial, ?_⟩
    refine rg_nil ?_
    refine VS_seq ?_
    refine VS_r0 rfl ?_
    refine q_mv rfl ?_
    refine q_mv rfl ?_
    refine rg_nil ?_
    refine VS_bd (Bd.subP (ps := (xs.take i ++ xs.drop j).map (fun k => (pairP k))) 6 rfl rfl (splice_le (splice_le (by simp; omega) (by simp; omega)) (splice_le (by simp; omega) (by simp; omega))) (by rw [Nat.zero_add, del_some _ (by omega) h2]; exact toPVs_dP _) ?_)
    refine VS_ret ?_
    exact Bd.now ⟨_, rfl, rfl, rfl⟩
set_option maxRecDepth 100000 in
theorem ovl_int : OvlOK prog 93 := ⟨_, _, _, _, _, rfl, rfl, rfl, rfl, rfl, rfl, rfl⟩
set_option maxRecDepth 100000 in
theorem ovl_Pair : OvlOK prog 99 := ⟨_, _, _, _, _, rfl, rfl, rfl, rfl, rfl, rfl, rfl⟩
theorem c_slices_Insert_int (xs : List Int) (i : Nat) (vs : List Int) (hi : i ≤ xs.length) (hx0 : 0 < xs.length) (hv0 : 0 < vs.length) (hv : vs.length ≤ 1000) (hl : xs.length ≤ 1000000000) : DelS prog 71 3 1 (dI xs) [i64 i, ints vs] (ints (xs.take i ++ vs ++ xs.drop i)) := by
  unfold DelS
  rw [show (dI xs).length = xs.length by simp]
  refine callS_of_VS sl_slices_Insert_int (by simp) ?_
  refine VS_seq ?_
  refine VS_r0 rfl ?_
  refine q_mv rfl ?_
  refine rg_nil ?_
  refine VS_bd (Bd.open 0 rfl fun cap hc1 hc2 => ?_)
  refine VS_join (fun E S => E = env [(0, .sub 0 0 xs.length cap), (1, .pv (i64 i)), (2, .pv (ints vs))] ∧ S = [some ⟨3, 1, dI xs⟩]) ?_ ?_
  · skip
    refine VS_r0 rfl ?_
    refine q_mv rfl ?_
    refine q_mv rfl ?_
    refine q_slc_s i (xs.length - i) (cap - i) rfl rfl rfl rfl rfl ⟨by omega, by omega, by omega⟩ ⟨by omega, by omega, by omega⟩ ?_ ?_
    · intro hc0
      refine rg_nil ?_
      exact Bd.keepL [(0, .sub 0 0 xs.length cap), (1, .pv (i64 i)), (2, .pv (ints vs))] ⟨rfl, rfl, rfl, trivial⟩ ⟨rfl, rfl⟩
    · intro hc0
      refine rg_nil ?_
      exact Bd.keepL [(0, .sub 0 0 xs.length cap), (1, .pv (i64 i)), (2, .pv (ints vs))] ⟨rfl, rfl, rfl, trivial⟩ ⟨rfl, rfl⟩
  · rintro _ _ ⟨rfl, rfl⟩
    refine VS_seq ?_
    refine VS_r0 rfl ?_
    refine q_mv rfl ?_
    first | refine q_len_m rfl ?_ | refine q_len_s rfl ?_ | refine q_len_o rfl ?_ | refine q_len_n rfl ?_ | refine q_len_x rfl ?_
    refine q_mv rfl ?_
    refine rg_nil ?_
    refine VS_seq ?_
    refine VS_seq ?_
    refine VS_r0 rfl ?_
    refine q_mv rfl ?_
    refine q_eql_v false rfl rfl (decide_eq_false (by omega)) ?_
    refine rg_nil ?_
    refine VS_cond rfl (fun e => by cases e) (fun _ => ?_)
    refine VS_skip ?_
    refine VS_seq ?_
    refine VS_r0 rfl ?_
    refine q_mv rfl ?_
    first | refine q_len_m rfl ?_ | refine q_len_s rfl ?_ | refine q_len_o rfl ?_ | refine q_len_n rfl ?_ | refine q_len_x rfl ?_
    refine q_mv rfl ?_
    refine rg_nil ?_
    refine VS_seq ?_
    refine VS_seq ?_
    refine VS_r0 rfl ?_
    refine q_mv rfl ?_
    refine q_mv rfl ?_
    refine q_eql rfl rfl ?_
    refine rg_nil ?_
    refine VS_cond rfl (fun c1 => ?_) (fun c1 => ?_)
    · try simp at c1
      refine VS_seq ?_
      refine VS_r0 rfl ?_
      refine q_mv rfl ?_
      refine q_mv rfl ?_
      refine q_app_s (ys := dI vs) (zs := dI (xs ++ vs)) (ws := dI (xs ++ vs)) rfl (elems_I _) (cell_I _) rfl rfl (by simp) (by rw [splice_end (by simp), ← List.map_append]) (by rw [List.drop_zero, List.take_of_length_le (by simp), ← List.map_append]) (fun h => absurd h (ne_map (by omega))) ?_ ?_
      · intro _ hcap
        refine ⟨(by first | exact trivial | exact Sub.nil | exact Sub.refl _ | exact Sub.app _ _ | exact SubL.sub (by repeat (first | exact SubL.nil | apply SubL.none | apply SubL.some | apply SubL.sh | apply SubL.eq)) | (refine Sub.of_eq ?_; intro o ob h; rcases o with _ | _ | _ | _ | _ | o <;> simp_all)), ?_⟩
        refine q_mv rfl ?_
        refine rg_nil ?_
        have hout : xs.take i ++ vs ++ xs.drop i = xs ++ vs := by rw [List.take_of_length_le (by omega), List.drop_of_length_le (by omega), List.append_nil]
        first
          | refine VS_bd (Bd.subP (ps := (xs ++ vs).map (fun k => (i64 k))) 6 rfl rfl (by simp) (by rw [List.take_of_length_le (by simp)]; exact toPVs_dI _) ?_)
          | refine VS_bd (Bd.pureO 6 1 (ps := (xs ++ vs).map (fun k => (i64 k))) rfl rfl (by simp) (toPVs_dI _) ?_); refine VS_bd (Bd.drop 0 ?_)
        refine VS_ret ?_
        refine Bd.now ⟨_, rfl, congrArg (fun l => D.pv (ints l)) hout.symm, rfl⟩
      · intro _ hcap
        refine ⟨⟨by simp; omega, by unfold maxLen; simp; omega⟩, (by first | exact trivial | exact Sub.nil | exact Sub.refl _ | exact Sub.app _ _ | exact SubL.sub (by repeat (first | exact SubL.nil | apply SubL.none | apply SubL.some | apply SubL.sh | apply SubL.eq)) | (refine Sub.of_eq ?_; intro o ob h; rcases o with _ | _ | _ | _ | _ | o <;> simp_all)), ?_⟩
        refine q_mv rfl ?_
        refine rg_nil ?_
        have hout : xs.take i ++ vs ++ xs.drop i = xs ++ vs := by rw [List.take_of_length_le (by omega), List.drop_of_length_le (by omega), List.append_nil]
        first
          | refine VS_bd (Bd.subP (ps := (xs ++ vs).map (fun k => (i64 k))) 6 rfl rfl (by simp) (by rw [List.take_of_length_le (by simp)]; exact toPVs_dI _) ?_)
          | refine VS_bd (Bd.pureO 6 1 (ps := (xs ++ vs).map (fun k => (i64 k))) rfl rfl (by simp) (toPVs_dI _) ?_); refine VS_bd (Bd.drop 0 ?_)
        refine VS_ret ?_
        refine Bd.now ⟨_, rfl, congrArg (fun l => D.pv (ints l)) hout.symm, rfl⟩
    · try simp at c1
      refine VS_skip ?_
      refine VS_seq ?_
      refine VS_seq ?_
      refine VS_r0 rfl ?_
      refine q_mv rfl ?_
      refine q_mv rfl ?_
      refine q_add rfl rfl (inR64 (by omega)) ?_
      refine q_mv rfl ?_
      first | refine q_cap rfl ?_ | refine q_cap_n rfl ?_
      refine q_gtr rfl rfl ?_
      refine rg_nil ?_
      refine VS_cond rfl (fun c2 => ?_) (fun c2 => ?_)
      · try simp at c2
        refine VS_seq ?_
        refine VS_r0 rfl ?_
        refine q_mv rfl ?_
        refine q_mv rfl ?_
        refine q_slc_s 0 i cap rfl rfl rfl rfl rfl ⟨by omega, by omega, by omega⟩ ⟨by omega, by omega, by omega⟩ (fun h => absurd h (by omega)) (fun _ => ?_)
        refine q_mv rfl ?_
        refine q_mv rfl ?_
        refine q_add rfl rfl (inR64 (by omega)) ?_
        refine q_mv rfl ?_
        refine q_sub_to ((xs.length + vs.length - i : Nat) : Int) rfl rfl (by omega) (inR64 (by omega)) ?_
        refine q_appz_s (m := xs.length + vs.length - i) rfl rfl rfl rfl rfl (by first | omega | (simp; omega)) rfl ⟨by omega, by omega, by omega, by unfold maxLen; omega⟩ ⟨(by first | exact trivial | exact Sub.nil | exact Sub.refl _ | exact Sub.app _ _ | exact SubL.sub (by repeat (first | exact SubL.nil | apply SubL.none | apply SubL.some | apply SubL.sh | apply SubL.eq)) | (refine Sub.of_eq ?_; intro o ob h; rcases o with _ | _ | _ | _ | _ | o <;> simp_all)), ?_⟩
        refine q_mv rfl ?_
        refine rg_nil ?_
        refine VS_bd (Bd.open 9 rfl fun cap2 hd1 hd2 => ?_)
        generalize hZ : List.replicate (xs.length + vs.length - i) _ = Z
        have hZl : Z.length = xs.length + vs.length - i := by rw [← hZ, List.length_replicate]
        refine VS_st [some ⟨3, 1, dI xs⟩, some ⟨3, 1, (dI xs).take i ++ Z⟩] rfl ?_
        refine VS_seq ?_
        refine VS_r0 rfl ?_
        refine q_mv rfl ?_
        refine q_mv rfl ?_
        refine q_slc_s i (xs.length + vs.length - i) (cap2 - i) rfl rfl rfl rfl rfl ⟨by omega, by omega, by omega⟩ ⟨by omega, by omega, by omega⟩ (fun h => absurd h (by omega)) (fun _ => ?_)
        refine q_mv rfl ?_
        refine q_copy_s (ys := dI vs) (zs := splice ((dI xs).take i ++ Z) i (dI vs)) rfl (elems_I _) (all_take (cell_I _) _) rfl rfl (by first | omega | (simp; omega)) (by rw [List.take_of_length_le (l := dI vs) (by first | omega | (simp; omega))]) ⟨(by first | exact trivial | exact Sub.nil | exact Sub.refl _ | exact Sub.app _ _ | exact SubL.sub (by repeat (first | exact SubL.nil | apply SubL.none | apply SubL.some | apply SubL.sh | apply SubL.eq)) | (refine Sub.of_eq ?_; intro o ob h; rcases o with _ | _ | _ | _ | _ | o <;> simp_all)), ?_⟩
        refine rg_nil ?_
        refine VS_seq ?_
        refine VS_r2 [some ⟨3, 1, []⟩, some ⟨3, 1, []⟩] hmix (SubL.sub (by repeat (first | exact SubL.nil | apply SubL.none | apply SubL.some | apply SubL.sh | apply SubL.eq))) ?_
        refine q_mv rfl ?_
        refine q_mv rfl ?_
        refine q_mv rfl ?_
        refine q_add rfl rfl (inR64 (by omega)) ?_
        refine q_slc_s (i + vs.length) (xs.length - i) (cap2 - (i + vs.length)) rfl rfl rfl rfl rfl ⟨by omega, by omega, by omega⟩ ⟨by omega, by omega, by omega⟩ (fun h => absurd h (by omega)) (fun _ => ?_)
        refine q_mv rfl ?_
        refine q_mv rfl ?_
        refine q_slc_s i (xs.length - i) (cap - i) rfl rfl rfl rfl rfl ⟨by omega, by omega, by omega⟩ ⟨by omega, by omega, by omega⟩ (fun h => absurd h (by omega)) (fun _ => ?_)
        refine q_last ?_
        refine q_copy_s (ys := (xs.drop i).map fun k => .pv (i64 k)) (zs := (dI xs).take i ++ dI vs ++ (dI xs).drop i) rfl (drop_elems _ rfl (by omega)) (all_take (cell_I _) _) rfl rfl (by first | omega | (simp [splice]; omega)) (by rw [List.take_of_length_le (l := (xs.drop i).map _) (by simp)]; simpa using ins_new (A := dI xs) (V := dI vs) (Z := Z) (i := i) (by simpa using hi) (by simpa using hZl)) ⟨(by first | exact trivial | exact Sub.nil | exact Sub.refl _ | exact Sub.app _ _ | exact SubL.sub (by repeat (first | exact SubL.nil | apply SubL.none | apply SubL.some | apply SubL.sh | apply SubL.eq)) | (refine Sub.of_eq ?_; intro o ob h; rcases o with _ | _ | _ | _ | _ | o <;> simp_all)), ?_⟩
        refine rg_nil ?_
        refine VS_seq ?_
        refine VS_r0 rfl ?_
        refine q_mv rfl ?_
        refine q_mv rfl ?_
        refine rg_nil ?_
        refine VS_bd (Bd.subP (ps := (xs.take i ++ vs ++ xs.drop i).map (fun k => (i64 k))) 6 rfl rfl (by first | omega | (simp; omega)) (by rw [List.take_of_length_le (by first | omega | (simp; omega))]; simpa using toPVs_dI (xs.take i ++ vs ++ xs.drop i)) ?_)
        refine VS_bd (Bd.drop 0 ?_)
        refine VS_ret ?_
        refine Bd.renL [0, 1] (fun i hi => by first | (exact absurd hi (Nat.not_lt_zero i)) | (have e : i = 0 := (by simp at hi; omega); subst e; rfl) | (have e : i = 0 ∨ i = 1 := (by simp at hi; omega); rcases e with rfl | rfl <;> rfl)) (by simp) [(6, .pv (ints (xs.take i ++ vs ++ xs.drop i)))] ⟨rfl, trivial⟩ rfl ?_
        exact ⟨_, rfl, rfl, rfl⟩
      · try simp at c2
        refine VS_skip ?_
        refine VS_seq ?_
        refine VS_r0 rfl ?_
        refine q_mv rfl ?_
        refine q_mv rfl ?_
        refine q_mv rfl ?_
        refine q_add rfl rfl (inR64 (by omega)) ?_
        refine q_slc_s 0 (xs.length + vs.length) cap rfl rfl rfl rfl rfl ⟨by omega, by omega, by omega⟩ ⟨by omega, by omega, by omega⟩ (fun h => absurd h (by omega)) (fun _ => ?_)
        refine q_mv rfl ?_
        refine rg_nil ?_
        refine VS_bd (Bd.ext 0 vs.length rfl rfl (by first | omega | (simp; omega)) ?_)
        generalize hJ : List.replicate vs.length _ = J
        have hJl : J.length = vs.length := by rw [← hJ, List.length_replicate]
        refine VS_st [some ⟨3, 1, dI xs ++ J⟩] rfl ?_
        refine VS_seq ?_
        refine VS_seq ?_
        refine VS_r0 rfl ?_
        refine q_mv rfl ?_
        refine q_mv rfl ?_
        refine q_mv rfl ?_
        refine q_mv rfl ?_
        refine q_add rfl rfl (inR64 (by omega)) ?_
        refine q_slc_s (i + vs.length) (xs.length - i) (cap - (i + vs.length)) rfl rfl rfl rfl rfl ⟨by omega, by omega, by omega⟩ ⟨by omega, by omega, by omega⟩ (fun h => absurd h (by omega)) (fun _ => ?_)
        refine q_ovl_s ovl_int rfl rfl rfl (show 0 < 1 by decide) (by simp [PV.nc]) ⟨(by first | exact trivial | exact Sub.nil | exact Sub.refl _ | exact Sub.app _ _ | exact SubL.sub (by repeat (first | exact SubL.nil | apply SubL.none | apply SubL.some | apply SubL.sh | apply SubL.eq)) | (refine Sub.of_eq ?_; intro o ob h; rcases o with _ | _ | _ | _ | _ | o <;> simp_all)), ?_⟩
        refine q_not rfl ?_
        refine rg_nil ?_
        refine VS_cond rfl (fun _ => ?_) (fun e => by cases e)
        refine VS_seq ?_
        refine VS_r2 [some ⟨3, 1, []⟩] hmix (SubL.sub (by repeat (first | exact SubL.nil | apply SubL.none | apply SubL.some | apply SubL.sh | apply SubL.eq))) ?_
        refine q_mv rfl ?_
        refine q_mv rfl ?_
        refine q_mv rfl ?_
        refine q_add rfl rfl (inR64 (by omega)) ?_
        refine q_slc_s (i + vs.length) (xs.length - i) (cap - (i + vs.length)) rfl rfl rfl rfl rfl ⟨by omega, by omega, by omega⟩ ⟨by omega, by omega, by omega⟩ (fun h => absurd h (by omega)) (fun _ => ?_)
        refine q_mv rfl ?_
        refine q_mv rfl ?_
        refine q_slc_s i (xs.length + vs.length - i) (cap - i) rfl rfl rfl rfl rfl ⟨by omega, by omega, by omega⟩ ⟨by omega, by omega, by omega⟩ (fun h => absurd h (by omega)) (fun _ => ?_)
        refine q_last ?_
        have ed : ((((dI xs) ++ J).drop i).take (xs.length + vs.length - i)).take (xs.length - i) = (dI xs).drop i := by rw [List.take_take, Nat.min_eq_left (by omega), List.drop_append_of_le_length (by simpa using hi), List.take_append_of_le_length (by simp), List.take_of_length_le (by simp)]
        refine q_copy_s (zs := splice ((dI xs) ++ J) (i + vs.length) ((dI xs).drop i)) rfl (elems_sub (o := 0) (off := i) (n := xs.length + vs.length - i) (c := cap - i) (ob := ⟨3, 1, dI xs ++ J⟩) rfl (by first | omega | (simp; omega))) (by rw [ed]; exact all_drop (cell_I _) _) rfl rfl (by first | omega | (simp; omega)) (by rw [ed]) ⟨(by first | exact trivial | exact Sub.nil | exact Sub.refl _ | exact Sub.app _ _ | exact SubL.sub (by repeat (first | exact SubL.nil | apply SubL.none | apply SubL.some | apply SubL.sh | apply SubL.eq)) | (refine Sub.of_eq ?_; intro o ob h; rcases o with _ | _ | _ | _ | _ | o <;> simp_all)), ?_⟩
        refine rg_nil ?_
        refine VS_seq ?_
        refine VS_r0 rfl ?_
        refine q_mv rfl ?_
        refine q_mv rfl ?_
        refine q_slc_s i (xs.length + vs.length - i) (cap - i) rfl rfl rfl rfl rfl ⟨by omega, by omega, by omega⟩ ⟨by omega, by omega, by omega⟩ (fun h => absurd h (by omega)) (fun _ => ?_)
        refine q_mv rfl ?_
        refine q_copy_s (ys := dI vs) (zs := (dI xs).take i ++ dI vs ++ (dI xs).drop i) rfl (elems_I _) (all_take (cell_I _) _) rfl rfl (by first | omega | (simp [splice]; omega)) (by rw [List.take_of_length_le (l := dI vs) (by first | omega | (simp; omega))]; simpa using ins_old (A := dI xs) (V := dI vs) (J := J) (i := i) (by simpa using hi) (by simpa using hJl)) ⟨(by first | exact trivial | exact Sub.nil | exact Sub.refl _ | exact Sub.app _ _ | exact SubL.sub (by repeat (first | exact SubL.nil | apply SubL.none | apply SubL.some | apply SubL.sh | apply SubL.eq)) | (refine Sub.of_eq ?_; intro o ob h; rcases o with _ | _ | _ | _ | _ | o <;> simp_all)), ?_⟩
        refine rg_nil ?_
        refine VS_seq ?_
        refine VS_r0 rfl ?_
        refine q_mv rfl ?_
        refine q_mv rfl ?_
        refine rg_nil ?_
        refine VS_bd (Bd.subP (ps := (xs.take i ++ vs ++ xs.drop i).map (fun k => (i64 k))) 6 rfl rfl (by first | omega | (simp; omega)) (by rw [List.take_of_length_le (by first | omega | (simp; omega))]; simpa using toPVs_dI (xs.take i ++ vs ++ xs.drop i)) ?_)
        refine VS_ret ?_
        exact Bd.now ⟨_, rfl, rfl, rfl⟩
theorem c_slices_Insert_Pair (xs : List (Int × Int)) (i : Nat) (vs : List (Int × Int)) (hi : i ≤ xs.length) (hx0 : 0 < xs.length) (hv0 : 0 < vs.length) (hv : vs.length ≤ 1000) (hl : xs.length ≤ 1000000000) : DelS prog 96 43 2 (dP xs) [i64 i, prs vs] (prs (xs.take i ++ vs ++ xs.drop i)) := by
  unfold DelS
  rw [show (dP xs).length = xs.length by simp]
  refine callS_of_VS sl_slices_Insert_Pair (by simp) ?_
  refine VS_seq ?_
  refine VS_r0 rfl ?_
  refine q_mv rfl ?_
  refine rg_nil ?_
  refine VS_bd (Bd.open 0 rfl fun cap hc1 hc2 => ?_)
  refine VS_join (fun E S => E = env [(0, .sub 0 0 xs.length cap), (1, .pv (i64 i)), (2, .pv (prs vs))] ∧ S = [some ⟨43, 2, dP xs⟩]) ?_ ?_
  · skip
    refine VS_r0 rfl ?_
    refine q_mv rfl ?_
    refine q_mv rfl ?_
    refine q_slc_s i (xs.length - i) (cap - i) rfl rfl rfl rfl rfl ⟨by omega, by omega, by omega⟩ ⟨by omega, by omega, by omega⟩ ?_ ?_
    · intro hc0
      refine rg_nil ?_
      exact Bd.keepL [(0, .sub 0 0 xs.length cap), (1, .pv (i64 i)), (2, .pv (prs vs))] ⟨rfl, rfl, rfl, trivial⟩ ⟨rfl, rfl⟩
    · intro hc0
      refine rg_nil ?_
      exact Bd.keepL [(0, .sub 0 0 xs.length cap), (1, .pv (i64 i)), (2, .pv (prs vs))] ⟨rfl, rfl, rfl, trivial⟩ ⟨rfl, rfl⟩
  · rintro _ _ ⟨rfl, rfl⟩
    refine VS_seq ?_
    refine VS_r0 rfl ?_
    refine q_mv rfl ?_
    first | refine q_len_m rfl ?_ | refine q_len_s rfl ?_ | refine q_len_o rfl ?_ | refine q_len_n rfl ?_ | refine q_len_x rfl ?_
    refine q_mv rfl ?_
    refine rg_nil ?_
    refine VS_seq ?_
    refine VS_seq ?_
    refine VS_r0 rfl ?_
    refine q_mv rfl ?_
    refine q_eql_v false rfl rfl (decide_eq_false (by omega)) ?_
    refine rg_nil ?_
    refine VS_cond rfl (fun e => by cases e) (fun _ => ?_)
    refine VS_skip ?_
    refine VS_seq ?_
    refine VS_r0 rfl ?_
    refine q_mv rfl ?_
    first | refine q_len_m rfl ?_ | refine q_len_s rfl ?_ | refine q_len_o rfl ?_ | refine q_len_n rfl ?_ | refine q_len_x rfl ?_
    refine q_mv rfl ?_
    refine rg_nil ?_
    refine VS_seq ?_
    refine VS_seq ?_
    refine VS_r0 rfl ?_
    refine q_mv rfl ?_
    refine q_mv rfl ?_
    refine q_eql rfl rfl ?_
    refine rg_nil ?_
    refine VS_cond rfl (fun c1 => ?_) (fun c1 => ?_)
    · try simp at c1
      refine VS_seq ?_
      refine VS_r0 rfl ?_
      refine q_mv rfl ?_
      refine q_mv rfl ?_
      refine q_app_s (ys := dP vs) (zs := dP (xs ++ vs)) (ws := dP (xs ++ vs)) rfl (elems_P _) (cell_P _) rfl rfl (by simp) (by rw [splice_end (by simp), ← List.map_append]) (by rw [List.drop_zero, List.take_of_length_le (by simp), ← List.map_append]) (fun h => absurd h (ne_map (by omega))) ?_ ?_
      · intro _ hcap
        refine ⟨(by first | exact trivial | exact Sub.nil | exact Sub.refl _ | exact Sub.app _ _ | exact SubL.sub (by repeat (first | exact SubL.nil | apply SubL.none | apply SubL.some | apply SubL.sh | apply SubL.eq)) | (refine Sub.of_eq ?_; intro o ob h; rcases o with _ | _ | _ | _ | _ | o <;> simp_all)), ?_⟩
        refine q_mv rfl ?_
        refine rg_nil ?_
        have hout : xs.take i ++ vs ++ xs.drop i = xs ++ vs := by rw [List.take_of_length_le (by omega), List.drop_of_length_le (by omega), List.append_nil]
        first
          | refine VS_bd (Bd.subP (ps := (xs ++ vs).map (fun k => (pairP k))) 6 rfl rfl (by simp) (by rw [List.take_of_length_le (by simp)]; exact toPVs_dP _) ?_)
          | refine VS_bd (Bd.pureO 6 1 (ps := (xs ++ vs).map (fun k => (pairP k))) rfl rfl (by simp) (toPVs_dP _) ?_); refine VS_bd (Bd.drop 0 ?_)
        refine VS_ret ?_
        refine Bd.now ⟨_, rfl, congrArg (fun l => D.pv (prs l)) hout.symm, rfl⟩
      · intro _ hcap
        refine ⟨⟨by simp; omega, by unfold maxLen; simp; omega⟩, (by first | exact trivial | exact Sub.nil | exact Sub.refl _ | exact Sub.app _ _ | exact SubL.sub (by repeat (first | exact SubL.nil | apply SubL.none | apply SubL.some | apply SubL.sh | apply SubL.eq)) | (refine Sub.of_eq ?_; intro o ob h; rcases o with _ | _ | _ | _ | _ | o <;> simp_all)), ?_⟩
        refine q_mv rfl ?_
        refine rg_nil ?_
        have hout : xs.take i ++ vs ++ xs.drop i = xs ++ vs := by rw [List.take_of_length_le (by omega), List.drop_of_length_le (by omega), List.append_nil]
        first
          | refine VS_bd (Bd.subP (ps := (xs ++ vs).map (fun k => (pairP k))) 6 rfl rfl (by simp) (by rw [List.take_of_length_le (by simp)]; exact toPVs_dP _) ?_)
          | refine VS_bd (Bd.pureO 6 1 (ps := (xs ++ vs).map (fun k => (pairP k))) rfl rfl (by simp) (toPVs_dP _) ?_); refine VS_bd (Bd.drop 0 ?_)
        refine VS_ret ?_
        refine Bd.now ⟨_, rfl, congrArg (fun l => D.pv (prs l)) hout.symm, rfl⟩
    · try simp at c1
      refine VS_skip ?_
      refine VS_seq ?_
      refine VS_seq ?_
      refine VS_r0 rfl ?_
      refine q_mv rfl ?_
      refine q_mv rfl ?_
      refine q_add rfl rfl (inR64 (by omega)) ?_
      refine q_mv rfl ?_
      first | refine q_cap rfl ?_ | refine q_cap_n rfl ?_
      refine q_gtr rfl rfl ?_
      refine rg_nil ?_
      refine VS_cond rfl (fun c2 => ?_) (fun c2 => ?_)
      · try simp at c2
        refine VS_seq ?_
        refine VS_r0 rfl ?_
        refine q_mv rfl ?_
        refine q_mv rfl ?_
        refine q_slc_s 0 i cap rfl rfl rfl rfl rfl ⟨by omega, by omega, by omega⟩ ⟨by omega, by omega, by omega⟩ (fun h => absurd h (by omega)) (fun _ => ?_)
        refine q_mv rfl ?_
        refine q_mv rfl ?_
        refine q_add rfl rfl (inR64 (by omega)) ?_
        refine q_mv rfl ?_
        refine q_sub_to ((xs.length + vs.length - i : Nat) : Int) rfl rfl (by omega) (inR64 (by omega)) ?_
        refine q_appz_s (m := xs.length + vs.length - i) rfl rfl rfl rfl rfl (by first | omega | (simp; omega)) rfl ⟨by omega, by omega, by omega, by unfold maxLen; omega⟩ ⟨(by first | exact trivial | exact Sub.nil | exact Sub.refl _ | exact Sub.app _ _ | exact SubL.sub (by repeat (first | exact SubL.nil | apply SubL.none | apply SubL.some | apply SubL.sh | apply SubL.eq)) | (refine Sub.of_eq ?_; intro o ob h; rcases o with _ | _ | _ | _ | _ | o <;> simp_all)), ?_⟩
        refine q_mv rfl ?_
        refine rg_nil ?_
        refine VS_bd (Bd.open 9 rfl fun cap2 hd1 hd2 => ?_)
        generalize hZ : List.replicate (xs.length + vs.length - i) _ = Z
        have hZl : Z.length = xs.length + vs.length - i := by rw [← hZ, List.length_replicate]
        refine VS_st [some ⟨43, 2, dP xs⟩, some ⟨43, 2, (dP xs).take i ++ Z⟩] rfl ?_
        refine VS_seq ?_
        refine VS_r0 rfl ?_
        refine q_mv rfl ?_
        refine q_mv rfl ?_
        refine q_slc_s i (xs.length + vs.length - i) (cap2 - i) rfl rfl rfl rfl rfl ⟨by omega, by omega, by omega⟩ ⟨by omega, by omega, by omega⟩ (fun h => absurd h (by omega)) (fun _ => ?_)
        refine q_mv rfl ?_
        refine q_copy_s (ys := dP vs) (zs := splice ((dP xs).take i ++ Z) i (dP vs)) rfl (elems_P _) (all_take (cell_P _) _) rfl rfl (by first | omega | (simp; omega)) (by rw [List.take_of_length_le (l := dP vs) (by first | omega | (simp; omega))]) ⟨(by first | exact trivial | exact Sub.nil | exact Sub.refl _ | exact Sub.app _ _ | exact SubL.sub (by repeat (first | exact SubL.nil | apply SubL.none | apply SubL.some | apply SubL.sh | apply SubL.eq)) | (refine Sub.of_eq ?_; intro o ob h; rcases o with _ | _ | _ | _ | _ | o <;> simp_all)), ?_⟩
        refine rg_nil ?_
        refine VS_seq ?_
        refine VS_r2 [some ⟨43, 2, []⟩, some ⟨43, 2, []⟩] hmix (SubL.sub (by repeat (first | exact SubL.nil | apply SubL.none | apply SubL.some | apply SubL.sh | apply SubL.eq))) ?_
        refine q_mv rfl ?_
        refine q_mv rfl ?_
        refine q_mv rfl ?_
        refine q_add rfl rfl (inR64 (by omega)) ?_
        refine q_slc_s (i + vs.length) (xs.length - i) (cap2 - (i + vs.length)) rfl rfl rfl rfl rfl ⟨by omega, by omega, by omega⟩ ⟨by omega, by omega, by omega⟩ (fun h => absurd h (by omega)) (fun _ => ?_)
        refine q_mv rfl ?_
        refine q_mv rfl ?_
        refine q_slc_s i (xs.length - i) (cap - i) rfl rfl rfl rfl rfl ⟨by omega, by omega, by omega⟩ ⟨by omega, by omega, by omega⟩ (fun h => absurd h (by omega)) (fun _ => ?_)
        refine q_last ?_
        refine q_copy_s (ys := (xs.drop i).map fun k => .pv (pairP k)) (zs := (dP xs).take i ++ dP vs ++ (dP xs).drop i) rfl (drop_elems _ rfl (by omega)) (all_take (cell_P _) _) rfl rfl (by first | omega | (simp [splice]; omega)) (by rw [List.take_of_length_le (l := (xs.drop i).map _) (by simp)]; simpa using ins_new (A := dP xs) (V := dP vs) (Z := Z) (i := i) (by simpa using hi) (by simpa using hZl)) ⟨(by first | exact trivial | exact Sub.nil | exact Sub.refl _ | exact Sub.app _ _ | exact SubL.sub (by repeat (first | exact SubL.nil | apply SubL.none | apply SubL.some | apply SubL.sh | apply SubL.eq)) | (refine Sub.of_eq ?_; intro o ob h; rcases o with _ | _ | _ | _ | _ | o <;> simp_all)), ?_⟩
        refine rg_nil ?_
        refine VS_seq ?_
        refine VS_r0 rfl ?_
        refine q_mv rfl ?_
        refine q_mv rfl ?_
        refine rg_nil ?_
        refine VS_bd (Bd.subP (ps := (xs.take i ++ vs ++ xs.drop i).map (fun k => (pairP k))) 6 rfl rfl (by first | omega | (simp; omega)) (by rw [List.take_of_length_le (by first | omega | (simp; omega))]; simpa using toPVs_dP (xs.take i ++ vs ++ xs.drop i)) ?_)
        refine VS_bd (Bd.drop 0 ?_)
        refine VS_ret ?_
        refine Bd.renL [0, 1] (fun i hi => by first | (exact absurd hi (Nat.not_lt_zero i)) | (have e : i = 0 := (by simp at hi; omega); subst e; rfl) | (have e : i = 0 ∨ i = 1 := (by simp at hi; omega); rcases e with rfl | rfl <;> rfl)) (by simp) [(6, .pv (prs (xs.take i ++ vs ++ xs.drop i)))] ⟨rfl, trivial⟩ rfl ?_
        exact ⟨_, rfl, rfl, rfl⟩
      · try simp at c2
        refine VS_skip ?_
        refine VS_seq ?_
        refine VS_r0 rfl ?_
        refine q_mv rfl ?_
        refine q_mv rfl ?_
        refine q_mv rfl ?_
        refine q_add rfl rfl (inR64 (by omega)) ?_
        refine q_slc_s 0 (xs.length + vs.length) cap rfl rfl rfl rfl rfl ⟨by omega, by omega, by omega⟩ ⟨by omega, by omega, by omega⟩ (fun h => absurd h (by omega)) (fun _ => ?_)
        refine q_mv rfl ?_
        refine rg_nil ?_
        refine VS_bd (Bd.ext 0 vs.length rfl rfl (by first | omega | (simp; omega)) ?_)
        generalize hJ : List.replicate vs.length _ = J
        have hJl : J.length = vs.length := by rw [← hJ, List.length_replicate]
        refine VS_st [some ⟨43, 2, dP xs ++ J⟩] rfl ?_
        refine VS_seq ?_
        refine VS_seq ?_
        refine VS_r0 rfl ?_
        refine q_mv rfl ?_
        refine q_mv rfl ?_
        refine q_mv rfl ?_
        refine q_mv rfl ?_
        refine q_add rfl rfl (inR64 (by omega)) ?_
        refine q_slc_s (i + vs.length) (xs.length - i) (cap - (i + vs.length)) rfl rfl rfl rfl rfl ⟨by omega, by omega, by omega⟩ ⟨by omega, by omega, by omega⟩ (fun h => absurd h (by omega)) (fun _ => ?_)
        refine q_ovl_s ovl_Pair rfl rfl rfl (show 0 < 2 by decide) (by simp [PV.nc]) ⟨(by first | exact trivial | exact Sub.nil | exact Sub.refl _ | exact Sub.app _ _ | exact SubL.sub (by repeat (first | exact SubL.nil | apply SubL.none | apply SubL.some | apply SubL.sh | apply SubL.eq)) | (refine Sub.of_eq ?_; intro o ob h; rcases o with _ | _ | _ | _ | _ | o <;> simp_all)), ?_⟩
        refine q_not rfl ?_
        refine rg_nil ?_
        refine VS_cond rfl (fun _ => ?_) (fun e => by cases e)
        refine VS_seq ?_
        refine VS_r2 [some ⟨43, 2, []⟩] hmix (SubL.sub (by repeat (first | exact SubL.nil | apply SubL.none | apply SubL.some | apply SubL.sh | apply SubL.eq))) ?_
        refine q_mv rfl ?_
        refine q_mv rfl ?_
        refine q_mv rfl ?_
        refine q_add rfl rfl (inR64 (by omega)) ?_
        refine q_slc_s (i + vs.length) (xs.length - i) (cap - (i + vs.length)) rfl rfl rfl rfl rfl ⟨by omega, by omega, by omega⟩ ⟨by omega, by omega, by omega⟩ (fun h => absurd h (by omega)) (fun _ => ?_)
        refine q_mv rfl ?_
        refine q_mv rfl ?_
        refine q_slc_s i (xs.length + vs.length - i) (cap - i) rfl rfl rfl rfl rfl ⟨by omega, by omega, by omega⟩ ⟨by omega, by omega, by omega⟩ (fun h => absurd h (by omega)) (fun _ => ?_)
        refine q_last ?_
        have ed : ((((dP xs) ++ J).drop i).take (xs.length + vs.length - i)).take (xs.length - i) = (dP xs).drop i := by rw [List.take_take, Nat.min_eq_left (by omega), List.drop_append_of_le_length (by simpa using hi), List.take_append_of_le_length (by simp), List.take_of_length_le (by simp)]
        refine q_copy_s (zs := splice ((dP xs) ++ J) (i + vs.length) ((dP xs).drop i)) rfl (elems_sub (o := 0) (off := i) (n := xs.length + vs.length - i) (c := cap - i) (ob := ⟨43, 2, dP xs ++ J⟩) rfl (by first | omega | (simp; omega))) (by rw [ed]; exact all_drop (cell_P _) _) rfl rfl (by first | omega | (simp; omega)) (by rw [ed]) ⟨(by first | exact trivial | exact Sub.nil | exact Sub.refl _ | exact Sub.app _ _ | exact SubL.sub (by repeat (first | exact SubL.nil | apply SubL.none | apply SubL.some | apply SubL.sh | apply SubL.eq)) | (refine Sub.of_eq ?_; intro o ob h; rcases o with _ | _ | _ | _ | _ | o <;> simp_all)), ?_⟩
        refine rg_nil ?_
        refine VS_seq ?_
        refine VS_r0 rfl ?_
        refine q_mv rfl ?_
        refine q_mv rfl ?_
        refine q_slc_s i (xs.length + vs.length - i) (cap - i) rfl rfl rfl rfl rfl ⟨by omega, by omega, by omega⟩ ⟨by omega, by omega, by omega⟩ (fun h => absurd h (by omega)) (fun _ => ?_)
        refine q_mv rfl ?_
        refine q_copy_s (ys := dP vs) (zs := (dP xs).take i ++ dP vs ++ (dP xs).drop i) rfl (elems_P _) (all_take (cell_P _) _) rfl rfl (by first | omega | (simp [splice]; omega)) (by rw [List.take_of_length_le (l := dP vs) (by first | omega | (simp; omega))]; simpa using ins_old (A := dP xs) (V := dP vs) (J := J) (i := i) (by simpa using hi) (by simpa using hJl)) ⟨(by first | exact trivial | exact Sub.nil | exact Sub.refl _ | exact Sub.app _ _ | exact SubL.sub (by repeat (first | exact SubL.nil | apply SubL.none | apply SubL.some | apply SubL.sh | apply SubL.eq)) | (refine Sub.of_eq ?_; intro o ob h; rcases o with _ | _ | _ | _ | _ | o <;> simp_all)), ?_⟩
        refine rg_nil ?_
        refine VS_seq ?_
        refine VS_r0 rfl ?_
        refine q_mv rfl ?_
        refine q_mv rfl ?_
        refine rg_nil ?_
        refine VS_bd (Bd.subP (ps := (xs.take i ++ vs ++ xs.drop i).map (fun k => (pairP k))) 6 rfl rfl (by first | omega | (simp; omega)) (by rw [List.take_of_length_le (by first | omega | (simp; omega))]; simpa using toPVs_dP (xs.take i ++ vs ++ xs.drop i)) ?_)
        refine VS_ret ?_
        exact Bd.now ⟨_, rfl, rfl, rfl⟩
theorem c_slices_Insert_int_0 (vs : List Int) (hv0 : 0 < vs.length) (hv : vs.length ≤ 1000) : CallS prog 71 [.nils, .pv (i64 0), .pv (ints vs)] [] (fun d S => d = .pv (ints vs) ∧ S = [none]) := by
  refine callS_of_VS sl_slices_Insert_int (by simp) ?_
  refine VS_seq ?_
  refine VS_r0 rfl ?_
  refine q_mv rfl ?_
  refine rg_nil ?_
  refine VS_seq ?_
  refine VS_r0 rfl ?_
  refine q_mv rfl ?_
  refine q_mv rfl ?_
  refine q_slc_nil rfl rfl rfl ?_
  refine rg_nil ?_
  refine VS_seq ?_
  refine VS_r0 rfl ?_
  refine q_mv rfl ?_
  first | refine q_len_m rfl ?_ | refine q_len_s rfl ?_ | refine q_len_o rfl ?_ | refine q_len_n rfl ?_ | refine q_len_x rfl ?_
  refine q_mv rfl ?_
  refine rg_nil ?_
  refine VS_seq ?_
  refine VS_seq ?_
  refine VS_r0 rfl ?_
  refine q_mv rfl ?_
  refine q_eql_v false rfl rfl (decide_eq_false (by omega)) ?_
  refine rg_nil ?_
  refine VS_cond rfl (fun e => by cases e) (fun _ => ?_)
  refine VS_skip ?_
  refine VS_seq ?_
  refine VS_r0 rfl ?_
  refine q_mv rfl ?_
  first | refine q_len_m rfl ?_ | refine q_len_s rfl ?_ | refine q_len_o rfl ?_ | refine q_len_n rfl ?_ | refine q_len_x rfl ?_
  refine q_mv rfl ?_
  refine rg_nil ?_
  refine VS_seq ?_
  refine VS_seq ?_
  refine VS_r0 rfl ?_
  refine q_mv rfl ?_
  refine q_mv rfl ?_
  refine q_eql_v true rfl rfl (rfl) ?_
  refine rg_nil ?_
  refine VS_cond rfl (fun _ => ?_) (fun e => by cases e)
  refine VS_seq ?_
  refine VS_r0 rfl ?_
  refine q_mv rfl ?_
  refine q_mv rfl ?_
  refine q_app_zm (ys := vs) (f := fun k => .pv (i64 k)) rfl (elems_I _) (cell_I _) ⟨by omega, by omega⟩ (by first | exact trivial | exact Sub.nil | exact Sub.refl _ | exact Sub.app _ _ | exact SubL.sub (by repeat (first | exact SubL.nil | apply SubL.none | apply SubL.some | apply SubL.sh | apply SubL.eq)) | (refine Sub.of_eq ?_; intro o ob h; rcases o with _ | _ | _ | _ | _ | o <;> simp_all)) ?_
  refine q_mv rfl ?_
  refine rg_nil ?_
  refine VS_ret ?_
  refine Bd.pureB 6 0 3 1 (xs := dI vs) rfl rfl (toPVs_dI _) ?_
  exact Bd.now ⟨_, rfl, rfl, rfl⟩
theorem c_slices_Insert_Pair_0 (vs : List (Int × Int)) (hv0 : 0 < vs.length) (hv : vs.length ≤ 1000) : CallS prog 96 [.nils, .pv (i64 0), .pv (prs vs)] [] (fun d S => d = .pv (prs vs) ∧ S = [none]) := by
  refine callS_of_VS sl_slices_Insert_Pair (by simp) ?_
  refine VS_seq ?_
  refine VS_r0 rfl ?_
  refine q_mv rfl ?_
  refine rg_nil ?_
  refine VS_seq ?_
  refine VS_r0 rfl ?_
  refine q_mv rfl ?_
  refine q_mv rfl ?_
  refine q_slc_nil rfl rfl rfl ?_
  refine rg_nil ?_
  refine VS_seq ?_
  refine VS_r0 rfl ?_
  refine q_mv rfl ?_
  first | refine q_len_m rfl ?_ | refine q_len_s rfl ?_ | refine q_len_o rfl ?_ | refine q_len_n rfl ?_ | refine q_len_x rfl ?_
  refine q_mv rfl ?_
  refine rg_nil ?_
  refine VS_seq ?_
  refine VS_seq ?_
  refine VS_r0 rfl ?_
  refine q_mv rfl ?_
  refine q_eql_v false rfl rfl (decide_eq_false (by omega)) ?_
  refine rg_nil ?_
  refine VS_cond rfl (fun e => by cases e) (fun _ => ?_)
  refine VS_skip ?_
  refine VS_seq ?_
  refine VS_r0 rfl ?_
  refine q_mv rfl ?_
  first | refine q_len_m rfl ?_ | refine q_len_s rfl ?_ | refine q_len_o rfl ?_ | refine q_len_n rfl ?_ | refine q_len_x rfl ?_
  refine q_mv rfl ?_
  refine rg_nil ?_
  refine VS_seq ?_
  refine VS_seq ?_
  refine VS_r0 rfl ?_
  refine q_mv rfl ?_
  refine q_mv rfl ?_
  refine q_eql_v true rfl rfl (rfl) ?_
  refine rg_nil ?_
  refine VS_cond rfl (fun _ => ?_) (fun e => by cases e)
  refine VS_seq ?_
  refine VS_r0 rfl ?_
  refine q_mv rfl ?_
  refine q_mv rfl ?_
  refine q_app_zm (ys := vs) (f := fun k => .pv (pairP k)) rfl (elems_P _) (cell_P _) ⟨by omega, by omega⟩ (by first | exact trivial | exact Sub.nil | exact Sub.refl _ | exact Sub.app _ _ | exact SubL.sub (by repeat (first | exact SubL.nil | apply SubL.none | apply SubL.some | apply SubL.sh | apply SubL.eq)) | (refine Sub.of_eq ?_; intro o ob h; rcases o with _ | _ | _ | _ | _ | o <;> simp_all)) ?_
  refine q_mv rfl ?_
  refine rg_nil ?_
  refine VS_ret ?_
  refine Bd.pureB 6 0 43 2 (xs := dP vs) rfl rfl (toPVs_dP _) ?_
  exact Bd.now ⟨_, rfl, rfl, rfl⟩
theorem ins_use_int (xs : List Int) (i : Nat) (vs : List Int) (hi : i ≤ xs.length) (hv0 : 0 < vs.length) (hv : vs.length ≤ 1000) (hl : xs.length ≤ 1000000000) :
    (dI xs = [] → InsE prog 71 [i64 i, ints vs] (ints (xs.take i ++ vs ++ xs.drop i))) ∧ (dI xs ≠ [] → DelS prog 71 3 1 (dI xs) [i64 i, ints vs] (ints (xs.take i ++ vs ++ xs.drop i))) := by
  constructor
  · intro h
    have h0 : xs = [] := List.map_eq_nil_iff.1 h
    subst h0
    obtain rfl : i = 0 := by simpa using hi
    simp only [List.take_nil, List.drop_nil, List.nil_append, List.append_nil]
    exact c_slices_Insert_int_0 vs hv0 hv
  · intro h
    exact c_slices_Insert_int xs i vs hi (List.length_pos_iff.2 fun e => h (by rw [e]; rfl)) hv0 hv hl
theorem ins_use_Pair (xs : List (Int × Int)) (i : Nat) (vs : List (Int × Int)) (hi : i ≤ xs.length) (hv0 : 0 < vs.length) (hv : vs.length ≤ 1000) (hl : xs.length ≤ 1000000000) :
    (dP xs = [] → InsE prog 96 [i64 i, prs vs] (prs (xs.take i ++ vs ++ xs.drop i))) ∧ (dP xs ≠ [] → DelS prog 96 43 2 (dP xs) [i64 i, prs vs] (prs (xs.take i ++ vs ++ xs.drop i))) := by
  constructor
  · intro h
    have h0 : xs = [] := List.map_eq_nil_iff.1 h
    subst h0
    obtain rfl : i = 0 := by simpa using hi
    simp only [List.take_nil, List.drop_nil, List.nil_append, List.append_nil]
    exact c_slices_Insert_Pair_0 vs hv0 hv
  · intro h
    exact c_slices_Insert_Pair xs i vs hi (List.length_pos_iff.2 fun e => h (by rw [e]; rfl)) hv0 hv hl
end Go.V

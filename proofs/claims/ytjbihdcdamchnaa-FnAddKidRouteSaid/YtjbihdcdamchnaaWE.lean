/- A part of the proofs about laws of the page tree (see the text that bears the law): a small language of steps, its rules, and what the functions of the program return. -/
import Derived.Test.YtjbihdcdamchnaaWD
import Derived.Test.YtjbihdcdamchnaaLE
import Derived.Test.YtjbihdcdamchnaaWA
import Derived.Test.YtjbihdcdamchnaaWB
set_option linter.all false
set_option linter.unusedVariables false
set_option linter.unusedSimpArgs false
set_option maxHeartbeats 4000000
namespace Go.V
open Go.Proofs.Try (prog)
theorem c_slices_Delete_Pair (xs : List (Int × Int)) (i j : Nat) (h1 : i < j) (h2 : j ≤ xs.length) (hl : xs.length ≤ 1000000000) : DelS prog 91 43 2 (dP xs) [i64 i, i64 j] (prs (xs.take i ++ xs.drop j)) := by
  unfold DelS
  rw [show (dP xs).length = xs.length by simp]
  refine callS_of_VS sl_slices_Delete_Pair (by simp) ?_
  refine VS_seq ?_
  refine VS_r0 rfl ?_
  refine q_mv rfl ?_
  refine rg_nil ?_
  refine VS_bd (Bd.open 0 rfl fun cap hc1 hc2 => ?_)
  refine VS_seq ?_
  refine VS_r0 rfl ?_
  refine q_mv rfl ?_
  refine q_mv rfl ?_
  refine q_mv rfl ?_
  refine q_mv rfl ?_
  first | refine q_len_m rfl ?_ | refine q_len_s rfl ?_ | refine q_len_o rfl ?_ | refine q_len_n rfl ?_ | refine q_len_x rfl ?_
  refine q_slc3 rfl rfl rfl rfl ⟨by omega, by omega, by omega, by omega⟩ ?_
  refine rg_nil ?_
  refine VS_seq ?_
  refine VS_seq ?_
  refine VS_r0 rfl ?_
  refine q_mv rfl ?_
  refine q_mv rfl ?_
  refine q_eql_v false rfl rfl (decide_eq_false (by omega)) ?_
  refine rg_nil ?_
  refine VS_cond rfl (fun e => by cases e) (fun _ => ?_)
  refine VS_skip ?_
  refine VS_seq ?_
  refine VS_r0 rfl ?_
  refine q_mv rfl ?_
  first | refine q_len_m rfl ?_ | refine q_len_s rfl ?_ | refine q_len_o rfl ?_ | refine q_len_n rfl ?_ | refine q_len_x rfl ?_
  refine q_mv rfl ?_
  refine rg_nil ?_
  refine VS_seq ?_
  refine VS_r2 [some ⟨43, 2, []⟩] hmix (SubL.sub (by repeat (first | exact SubL.nil | apply SubL.none | apply SubL.some | apply SubL.sh | apply SubL.eq))) ?_
  refine q_mv rfl ?_
  refine q_mv rfl ?_
  refine q_slc_s 0 i cap rfl rfl rfl rfl rfl ⟨by omega, by omega, by omega⟩ ⟨by omega, by omega, by omega⟩ (fun h => absurd h (by omega)) (fun _ => ?_)
  refine q_mv rfl ?_
  refine q_mv rfl ?_
  refine q_slc_s j (xs.length - j) (cap - j) rfl rfl rfl rfl rfl ⟨by omega, by omega, by omega⟩ ⟨by omega, by omega, by omega⟩ ?_ ?_
  · intro hcj
    have hd : (xs.drop j).map (fun k => D.pv (pairP k)) = [] := by rw [List.drop_of_length_le (by omega)]; rfl
    first
      | refine q_app_in (ys := (xs.drop j).map (fun k => .pv (pairP k))) (m := xs.length - j) rfl (drop_elems _ rfl (by omega)) (cell_P _) rfl rfl (by simp; omega) (by simp) (by omega) (by first | exact trivial | exact Sub.nil | exact Sub.refl _ | exact Sub.app _ _ | exact SubL.sub (by repeat (first | exact SubL.nil | apply SubL.none | apply SubL.some | apply SubL.sh | apply SubL.eq)) | (refine Sub.of_eq ?_; intro o ob h; rcases o with _ | _ | _ | _ | _ | o <;> simp_all)) ?_
      | refine q_app_in (ys := (xs.drop j).map (fun k => .pv (pairP k))) (m := xs.length - j) rfl (by rw [hd]; rfl) (cell_P _) rfl rfl (by simp; omega) (by simp) (by omega) (by first | exact trivial | exact Sub.nil | exact Sub.refl _ | exact Sub.app _ _ | exact SubL.sub (by repeat (first | exact SubL.nil | apply SubL.none | apply SubL.some | apply SubL.sh | apply SubL.eq)) | (refine Sub.of_eq ?_; intro o ob h; rcases o with _ | _ | _ | _ | _ | o <;> simp_all)) ?_
    refine q_mv rfl ?_
    refine rg_nil ?_
    refine VS_seq ?_
    refine VS_r0 rfl ?_
    refine q_mv rfl ?_
    refine q_mv rfl ?_
    first | refine q_len_m rfl ?_ | refine q_len_s rfl ?_ | refine q_len_o rfl ?_ | refine q_len_n rfl ?_ | refine q_len_x rfl ?_
    refine q_mv rfl ?_
    refine q_slc_s (i + (xs.length - j)) (xs.length - (i + (xs.length - j))) (cap - (i + (xs.length - j))) rfl rfl rfl rfl rfl ⟨by omega, by omega, by omega⟩ ⟨by omega, by omega, by omega⟩ (fun h => absurd h (by omega)) (fun _ => ?_)
    refine q_clear_s rfl rfl rfl (splice_le (by simp; omega) (by simp; omega)) (by omega) rfl ⟨trivial, ?_⟩
    refine rg_nil ?_
    refine VS_seq ?_
    refine VS_r0 rfl ?_
    refine q_mv rfl ?_
    refine q_mv rfl ?_
    refine rg_nil ?_
    refine VS_bd (Bd.subP (ps := (xs.take i ++ xs.drop j).map (fun k => (pairP k))) 6 rfl rfl (splice_le (splice_le (by simp; omega) (by simp; omega)) (splice_le (by simp; omega) (by simp; omega))) (by rw [Nat.zero_add, del_some _ (by omega) h2]; exact toPVs_dP _) ?_)
    refine VS_ret ?_
    exact Bd.now ⟨_, rfl, rfl, rfl⟩
  · intro hcj
    first
      | refine q_app_in (ys := (xs.drop j).map (fun k => .pv (pairP k))) (m := xs.length - j) rfl (drop_elems _ rfl (by omega)) (cell_P _) rfl rfl (by simp; omega) (by simp) (by omega) (by first | exact trivial | exact Sub.nil | exact Sub.refl _ | exact Sub.app _ _ | exact SubL.sub (by repeat (first | exact SubL.nil | apply SubL.none | apply SubL.some | apply SubL.sh | apply SubL.eq)) | (refine Sub.of_eq ?_; intro o ob h; rcases o with _ | _ | _ | _ | _ | o <;> simp_all)) ?_
      | refine q_app_in (ys := (xs.drop j).map (fun k => .pv (pairP k))) (m := xs.length - j) rfl (by rw [hd]; rfl) (cell_P _) rfl rfl (by simp; omega) (by simp) (by omega) (by first | exact trivial | exact Sub.nil | exact Sub.refl _ | exact Sub.app _ _ | exact SubL.sub (by repeat (first | exact SubL.nil | apply SubL.none | apply SubL.some | apply SubL.sh | apply SubL.eq)) | (refine Sub.of_eq ?_; intro o ob h; rcases o with _ | _ | _ | _ | _ | o <;> simp_all)) ?_
    refine q_mv rfl ?_
    refine rg_nil ?_
    refine VS_seq ?_
    refine VS_r0 rfl ?_
    refine q_mv rfl ?_
    refine q_mv rfl ?_
    first | refine q_len_m rfl ?_ | refine q_len_s rfl ?_ | refine q_len_o rfl ?_ | refine q_len_n rfl ?_ | refine q_len_x rfl ?_
    refine q_mv rfl ?_
    refine q_slc_s (i + (xs.length - j)) (xs.length - (i + (xs.length - j))) (cap - (i + (xs.length - j))) rfl rfl rfl rfl rfl ⟨by omega, by omega, by omega⟩ ⟨by omega, by omega, by omega⟩ (fun h => absurd h (by omega)) (fun _ => ?_)
    refine q_clear_s rfl rfl rfl (splice_le (by simp; omega) (by simp; omega)) (by omega) rfl ⟨trivial, ?_⟩
    refine rg_nil ?_
    refine VS_seq ?_
    refine VS_r0 rfl ?_
    refine q_mv rfl ?_
    refine q_mv rfl ?_
    refine rg_nil ?_
    refine VS_bd (Bd.subP (ps := (xs.take i ++ xs.drop j).map (fun k => (pairP k))) 6 rfl rfl (splice_le (splice_le (by simp; omega) (by simp; omega)) (splice_le (by simp; omega) (by simp; omega))) (by rw [Nat.zero_add, del_some _ (by omega) h2]; exact toPVs_dP _) ?_)
    refine VS_ret ?_
    exact Bd.now ⟨_, rfl, rfl, rfl⟩
set_option maxRecDepth 100000 in
theorem ovl_int : OvlOK prog 93 := ⟨_, _, _, _, _, rfl, rfl, rfl, rfl, rfl, rfl, rfl⟩
set_option maxRecDepth 100000 in
theorem ovl_Pair : OvlOK prog 99 := ⟨_, _, _, _, _, rfl, rfl, rfl, rfl, rfl, rfl, rfl⟩
theorem c_slices_Insert_int (xs : List Int) (i : Nat) (vs : List Int) (hi : i ≤ xs.length) (hx0 : 0 < xs.length) (hv0 : 0 < vs.length) (hv : vs.length ≤ 1000) (hl : xs.length ≤ 1000000000) : DelS prog 71 3 1 (dI xs) [i64 i, ints vs] (ints (xs.take i ++ vs ++ xs.drop i)) := by
  unfold DelS
  rw [show (dI xs).length = xs.length by simp]
  refine callS_of_VS sl_slices_Insert_int (by simp) ?_
  refine VS_seq ?_
  refine VS_r0 rfl ?_
  refine q_mv rfl ?_
  refine rg_nil ?_
  refine VS_bd (Bd.open 0 rfl fun cap hc1 hc2 => ?_)
  refine VS_join (fun E S => E = env [(0, .sub 0 0 xs.length cap), (1, .pv (i64 i)), (2, .pv (ints vs))] ∧ S = [some ⟨3, 1, dI xs⟩]) ?_ ?_
  · skip
    refine VS_r0 rfl ?_
    refine q_mv rfl ?_
    refine q_mv rfl ?_
    refine q_slc_s i (xs.length - i) (cap - i) rfl rfl rfl rfl rfl ⟨by omega, by omega, by omega⟩ ⟨by omega, by omega, by omega⟩ ?_ ?_
    · intro hc0
      refine rg_nil ?_
      exact Bd.keepL [(0, .sub 0 0 xs.length cap), (1, .pv (i64 i)), (2, .pv (ints vs))] ⟨rfl, rfl, rfl, trivial⟩ ⟨rfl, rfl⟩
    · intro hc0
      refine rg_nil ?_
      exact Bd.keepL [(0, .sub 0 0 xs.length cap), (1, .pv (i64 i)), (2, .pv (ints vs))] ⟨rfl, rfl, rfl, trivial⟩ ⟨rfl, rfl⟩
  · rintro _ _ ⟨rfl, rfl⟩
    refine VS_seq ?_
    refine VS_r0 rfl ?_
    refine q_mv rfl ?_
    first | refine q_len_m rfl ?_ | refine q_len_s rfl ?_ | refine q_len_o rfl ?_ | refine q_len_n rfl ?_ | refine q_len_x rfl ?_
    refine q_mv rfl ?_
    refine rg_nil ?_
    refine VS_seq ?_
    refine VS_seq ?_
    refine VS_r0 rfl ?_
    refine q_mv rfl ?_
    refine q_eql_v false rfl rfl (decide_eq_false (by omega)) ?_
    refine rg_nil ?_
    refine VS_cond rfl (fun e => by cases e) (fun _ => ?_)
    refine VS_skip ?_
    refine VS_seq ?_
    refine VS_r0 rfl ?_
    refine q_mv rfl ?_
    first | refine q_len_m rfl ?_ | refine q_len_s rfl ?_ | refine q_len_o rfl ?_ | refine q_len_n rfl ?_ | refine q_len_x rfl ?_
    refine q_mv rfl ?_
    refine rg_nil ?_
    refine VS_seq ?_
    refine VS_seq ?_
    refine VS_r0 rfl ?_
    refine q_mv rfl ?_
    refine q_mv rfl ?_
    refine q_eql rfl rfl ?_
    refine rg_nil ?_
    refine VS_cond rfl (fun c1 => ?_) (fun c1 => ?_)
    · try simp at c1
      refine VS_seq ?_
      refine VS_r0 rfl ?_
      refine q_mv rfl ?_
      refine q_mv rfl ?_
      refine q_app_s (ys := dI vs) (zs := dI (xs ++ vs)) (ws := dI (xs ++ vs)) rfl (elems_I _) (cell_I _) rfl rfl (by simp) (by rw [splice_end (by simp), ← List.map_append]) (by rw [List.drop_zero, List.take_of_length_le (by simp), ← List.map_append]) (fun h => absurd h (ne_map (by omega))) ?_ ?_
      · intro _ hcap
        refine ⟨trivial, ?_⟩
        refine q_mv rfl ?_
        refine rg_nil ?_
        have hout : xs.take i ++ vs ++ xs.drop i = xs ++ vs := by rw [List.take_of_length_le (by omega), List.drop_of_length_le (by omega), List.append_nil]
        first
          | refine VS_bd (Bd.subP (ps := (xs ++ vs).map (fun k => (i64 k))) 6 rfl rfl (by simp) (by rw [List.take_of_length_le (by simp)]; exact toPVs_dI _) ?_)
          | refine VS_bd (Bd.pureO 6 1 (ps := (xs ++ vs).map (fun k => (i64 k))) rfl rfl (by simp) (toPVs_dI _) ?_); refine VS_bd (Bd.drop 0 ?_)
        refine VS_ret ?_
        refine Bd.now ⟨_, rfl, congrArg (fun l => D.pv (ints l)) hout.symm, rfl⟩
      · intro _ hcap
        refine ⟨⟨by simp; omega, by unfold maxLen; simp; omega⟩, trivial, ?_⟩
        refine q_mv rfl ?_
        refine rg_nil ?_
        have hout : xs.take i ++ vs ++ xs.drop i = xs ++ vs := by rw [List.take_of_length_le (by omega), List.drop_of_length_le (by omega), List.append_nil]
        first
          | refine VS_bd (Bd.subP (ps := (xs ++ vs).map (fun k => (i64 k))) 6 rfl rfl (by simp) (by rw [List.take_of_length_le (by simp)]; exact toPVs_dI _) ?_)
          | refine VS_bd (Bd.pureO 6 1 (ps := (xs ++ vs).map (fun k => (i64 k))) rfl rfl (by simp) (toPVs_dI _) ?_); refine VS_bd (Bd.drop 0 ?_)
        refine VS_ret ?_
        refine Bd.now ⟨_, rfl, congrArg (fun l => D.pv (ints l)) hout.symm, rfl⟩
    · try simp at c1
      refine VS_skip ?_
      refine VS_seq ?_
      refine VS_seq ?_
      refine VS_r0 rfl ?_
      refine q_mv rfl ?_
      refine q_mv rfl ?_
      refine q_add rfl rfl (inR64 (by omega)) ?_
      refine q_mv rfl ?_
      first | refine q_cap rfl ?_ | refine q_cap_n rfl ?_
      refine q_gtr rfl rfl ?_
      refine rg_nil ?_
      refine VS_cond rfl (fun c2 => ?_) (fun c2 => ?_)
      · try simp at c2
        refine VS_seq ?_
        refine VS_r0 rfl ?_
        refine q_mv rfl ?_
        refine q_mv rfl ?_
        refine q_slc_s 0 i cap rfl rfl rfl rfl rfl ⟨by omega, by omega, by omega⟩ ⟨by omega, by omega, by omega⟩ (fun h => absurd h (by omega)) (fun _ => ?_)
        refine q_mv rfl ?_
        refine q_mv rfl ?_
        refine q_add rfl rfl (inR64 (by omega)) ?_
        refine q_mv rfl ?_
        refine q_sub_to ((xs.length + vs.length - i : Nat) : Int) rfl rfl (by omega) (inR64 (by omega)) ?_
        refine q_appz_s (m := xs.length + vs.length - i) rfl rfl rfl rfl rfl (by first | omega | (simp; omega)) rfl ⟨by omega, by omega, by omega, by unfold maxLen; omega⟩ ⟨trivial, ?_⟩
        refine q_mv rfl ?_
        refine rg_nil ?_
        refine VS_bd (Bd.open 9 rfl fun cap2 hd1 hd2 => ?_)
        generalize hZ : List.replicate (xs.length + vs.length - i) _ = Z
        have hZl : Z.length = xs.length + vs.length - i := by rw [← hZ, List.length_replicate]
        refine VS_st [some ⟨3, 1, dI xs⟩, some ⟨3, 1, (dI xs).take i ++ Z⟩] rfl ?_
        refine VS_seq ?_
        refine VS_r0 rfl ?_
        refine q_mv rfl ?_
        refine q_mv rfl ?_
        refine q_slc_s i (xs.length + vs.length - i) (cap2 - i) rfl rfl rfl rfl rfl ⟨by omega, by omega, by omega⟩ ⟨by omega, by omega, by omega⟩ (fun h => absurd h (by omega)) (fun _ => ?_)
        refine q_mv rfl ?_
        refine q_copy_s (ys := dI vs) (zs := splice ((dI xs).take i ++ Z) i (dI vs)) rfl (elems_I _) (all_take (cell_I _) _) rfl rfl (by first | omega | (simp; omega)) (by rw [List.take_of_length_le (l := dI vs) (by first | omega | (simp; omega))]) ⟨trivial, ?_⟩
        refine rg_nil ?_
        refine VS_seq ?_
        refine VS_r2 [some ⟨3, 1, []⟩, some ⟨3, 1, []⟩] hmix (SubL.sub (by repeat (first | exact SubL.nil | apply SubL.none | apply SubL.some | apply SubL.sh | apply SubL.eq))) ?_
        refine q_mv rfl ?_
        refine q_mv rfl ?_
        refine q_mv rfl ?_
        refine q_add rfl rfl (inR64 (by omega)) ?_
        refine q_slc_s (i + vs.length) (xs.length - i) (cap2 - (i + vs.length)) rfl rfl rfl rfl rfl ⟨by omega, by omega, by omega⟩ ⟨by omega, by omega, by omega⟩ (fun h => absurd h (by omega)) (fun _ => ?_)
        refine q_mv rfl ?_
        refine q_mv rfl ?_
        refine q_slc_s i (xs.length - i) (cap - i) rfl rfl rfl rfl rfl ⟨by omega, by omega, by omega⟩ ⟨by omega, by omega, by omega⟩ (fun h => absurd h (by omega)) (fun _ => ?_)
        refine q_last ?_
        refine q_copy_s (ys := (xs.drop i).map fun k => .pv (i64 k)) (zs := (dI xs).take i ++ dI vs ++ (dI xs).drop i) rfl (drop_elems _ rfl (by omega)) (all_take (cell_I _) _) rfl rfl (by first | omega | (simp [splice]; omega)) (by rw [List.take_of_length_le (l := (xs.drop i).map _) (by simp)]; simpa using ins_new (A := dI xs) (V := dI vs) (Z := Z) (i := i) (by simpa using hi) (by simpa using hZl)) ⟨(by first | exact trivial | exact Sub.nil | exact Sub.refl _ | exact Sub.app _ _ | exact SubL.sub (by repeat (first | exact SubL.nil | apply SubL.none | apply SubL.some | apply SubL.sh | apply SubL.eq)) | (refine Sub.of_eq ?_; intro o ob h; rcases o with _ | _ | _ | _ | _ | o <;> simp_all)), ?_⟩
        refine rg_nil ?_
        refine VS_seq ?_
        refine VS_r0 rfl ?_
        refine q_mv rfl ?_
        refine q_mv rfl ?_
        refine rg_nil ?_
        refine VS_bd (Bd.subP (ps := (xs.take i ++ vs ++ xs.drop i).map (fun k => (i64 k))) 6 rfl rfl (by first | omega | (simp; omega)) (by rw [List.take_of_length_le (by first | omega | (simp; omega))]; simpa using toPVs_dI (xs.take i ++ vs ++ xs.drop i)) ?_)
        refine VS_bd (Bd.drop 0 ?_)
        refine VS_ret ?_
        refine Bd.renL [0, 1] (fun i hi => by first | (exact absurd hi (Nat.not_lt_zero i)) | (have e : i = 0 := (by simp at hi; omega); subst e; rfl) | (have e : i = 0 ∨ i = 1 := (by simp at hi; omega); rcases e with rfl | rfl <;> rfl)) (by simp) [(6, .pv (ints (xs.take i ++ vs ++ xs.drop i)))] ⟨rfl, trivial⟩ rfl ?_
        exact ⟨_, rfl, rfl, rfl⟩
      · try simp at c2
        refine VS_skip ?_
        refine VS_seq ?_
        refine VS_r0 rfl ?_
        refine q_mv rfl ?_
        refine q_mv rfl ?_
        refine q_mv rfl ?_
        refine q_add rfl rfl (inR64 (by omega)) ?_
        refine q_slc_s 0 (xs.length + vs.length) cap rfl rfl rfl rfl rfl ⟨by omega, by omega, by omega⟩ ⟨by omega, by omega, by omega⟩ (fun h => absurd h (by omega)) (fun _ => ?_)
        refine q_mv rfl ?_
        refine rg_nil ?_
        refine VS_bd (Bd.ext 0 vs.length rfl rfl (by first | omega | (simp; omega)) ?_)
        generalize hJ : List.replicate vs.length _ = J
        have hJl : J.length = vs.length := by rw [← hJ, List.length_replicate]
        refine VS_st [some ⟨3, 1, dI xs ++ J⟩] rfl ?_
        refine VS_seq ?_
        refine VS_seq ?_
        refine VS_r0 rfl ?_
        refine q_mv rfl ?_
        refine q_mv rfl ?_
        refine q_mv rfl ?_
        refine q_mv rfl ?_
        refine q_add rfl rfl (inR64 (by omega)) ?_
        refine q_slc_s (i + vs.length) (xs.length - i) (cap - (i + vs.length)) rfl rfl rfl rfl rfl ⟨by omega, by omega, by omega⟩ ⟨by omega, by omega, by omega⟩ (fun h => absurd h (by omega)) (fun _ => ?_)
        refine q_ovl_s ovl_int rfl rfl rfl (show 0 < 1 by decide) (by simp [PV.nc]) ⟨trivial, ?_⟩
        refine q_not rfl ?_
        refine rg_nil ?_
        refine VS_cond rfl (fun _ => ?_) (fun e => by cases e)
        refine VS_seq ?_
        refine VS_r2 [some ⟨3, 1, []⟩] hmix (SubL.sub (by repeat (first | exact SubL.nil | apply SubL.none | apply SubL.some | apply SubL.sh | apply SubL.eq))) ?_
        refine q_mv rfl ?_
        refine q_mv rfl ?_
        refine q_mv rfl ?_
        refine q_add rfl rfl (inR64 (by omega)) ?_
        refine q_slc_s (i + vs.length) (xs.length - i) (cap - (i + vs.length)) rfl rfl rfl rfl rfl ⟨by omega, by omega, by omega⟩ ⟨by omega, by omega, by omega⟩ (fun h => absurd h (by omega)) (fun _ => ?_)
        refine q_mv rfl ?_
        refine q_mv rfl ?_
        refine q_slc_s i (xs.length + vs.length - i) (cap - i) rfl rfl rfl rfl rfl ⟨by omega, by omega, by omega⟩ ⟨by omega, by omega, by omega⟩ (fun h => absurd h (by omega)) (fun _ => ?_)
        refine q_last ?_
        have ed : ((((dI xs) ++ J).drop i).take (xs.length + vs.length - i)).take (xs.length - i) = (dI xs).drop i := by rw [List.take_take, Nat.min_eq_left (by omega), List.drop_append_of_le_length (by simpa using hi), List.take_append_of_le_length (by simp), List.take_of_length_le (by simp)]
        refine q_copy_s (zs := splice ((dI xs) ++ J) (i + vs.length) ((dI xs).drop i)) rfl (elems_sub (o := 0) (off := i) (n := xs.length + vs.length - i) (c := cap - i) (ob := ⟨3, 1, dI xs ++ J⟩) rfl (by first | omega | (simp; omega))) (by rw [ed]; exact all_drop (cell_I _) _) rfl rfl (by first | omega | (simp; omega)) (by rw [ed]) ⟨(by first | exact trivial | exact Sub.nil | exact Sub.refl _ | exact Sub.app _ _ | exact SubL.sub (by repeat (first | exact SubL.nil | apply SubL.none | apply SubL.some | apply SubL.sh | apply SubL.eq)) | (refine Sub.of_eq ?_; intro o ob h; rcases o with _ | _ | _ | _ | _ | o <;> simp_all)), ?_⟩
        refine rg_nil ?_
        refine VS_seq ?_
        refine VS_r0 rfl ?_
        refine q_mv rfl ?_
        refine q_mv rfl ?_
        refine q_slc_s i (xs.length + vs.length - i) (cap - i) rfl rfl rfl rfl rfl ⟨by omega, by omega, by omega⟩ ⟨by omega, by omega, by omega⟩ (fun h => absurd h (by omega)) (fun _ => ?_)
        refine q_mv rfl ?_
        refine q_copy_s (ys := dI vs) (zs := (dI xs).take i ++ dI vs ++ (dI xs).drop i) rfl (elems_I _) (all_take (cell_I _) _) rfl rfl (by first | omega | (simp [splice]; omega)) (by rw [List.take_of_length_le (l := dI vs) (by first | omega | (simp; omega))]; simpa using ins_old (A := dI xs) (V := dI vs) (J := J) (i := i) (by simpa using hi) (by simpa using hJl)) ⟨trivial, ?_⟩
        refine rg_nil ?_
        refine VS_seq ?_
        refine VS_r0 rfl ?_
        refine q_mv rfl ?_
        refine q_mv rfl ?_
        refine rg_nil ?_
        refine VS_bd (Bd.subP (ps := (xs.take i ++ vs ++ xs.drop i).map (fun k => (i64 k))) 6 rfl rfl (by first | omega | (simp; omega)) (by rw [List.take_of_length_le (by first | omega | (simp; omega))]; simpa using toPVs_dI (xs.take i ++ vs ++ xs.drop i)) ?_)
        refine VS_ret ?_
        exact Bd.now ⟨_, rfl, rfl, rfl⟩
theorem c_slices_Insert_Pair (xs : List (Int × Int)) (i : Nat) (vs : List (Int × Int)) (hi : i ≤ xs.length) (hx0 : 0 < xs.length) (hv0 : 0 < vs.length) (hv : vs.length ≤ 1000) (hl : xs.length ≤ 1000000000) : DelS prog 96 43 2 (dP xs) [i64 i, prs vs] (prs (xs.take i ++ vs ++ xs.drop i)) := by
  unfold DelS
  rw [show (dP xs).length = xs.length by simp]
  refine callS_of_VS sl_slices_Insert_Pair (by simp) ?_
  refine VS_seq ?_
  refine VS_r0 rfl ?_
  refine q_mv rfl ?_
  refine rg_nil ?_
  refine VS_bd (Bd.open 0 rfl fun cap hc1 hc2 => ?_)
  refine VS_join (fun E S => E = env [(0, .sub 0 0 xs.length cap), (1, .pv (i64 i)), (2, .pv (prs vs))] ∧ S = [some ⟨43, 2, dP xs⟩]) ?_ ?_
  · skip
    refine VS_r0 rfl ?_
    refine q_mv rfl ?_
    refine q_mv rfl ?_
    refine q_slc_s i (xs.length - i) (cap - i) rfl rfl rfl rfl rfl ⟨by omega, by omega, by omega⟩ ⟨by omega, by omega, by omega⟩ ?_ ?_
    · intro hc0
      refine rg_nil ?_
      exact Bd.keepL [(0, .sub 0 0 xs.length cap), (1, .pv (i64 i)), (2, .pv (prs vs))] ⟨rfl, rfl, rfl, trivial⟩ ⟨rfl, rfl⟩
    · intro hc0
      refine rg_nil ?_
      exact Bd.keepL [(0, .sub 0 0 xs.length cap), (1, .pv (i64 i)), (2, .pv (prs vs))] ⟨rfl, rfl, rfl, trivial⟩ ⟨rfl, rfl⟩
  · rintro _ _ ⟨rfl, rfl⟩
    refine VS_seq ?_
    refine VS_r0 rfl ?_
    refine q_mv rfl ?_
    first | refine q_len_m rfl ?_ | refine q_len_s rfl ?_ | refine q_len_o rfl ?_ | refine q_len_n rfl ?_ | refine q_len_x rfl ?_
    refine q_mv rfl ?_
    refine rg_nil ?_
    refine VS_seq ?_
    refine VS_seq ?_
    refine VS_r0 rfl ?_
    refine q_mv rfl ?_
    refine q_eql_v false rfl rfl (decide_eq_false (by omega)) ?_
    refine rg_nil ?_
    refine VS_cond rfl (fun e => by cases e) (fun _ => ?_)
    refine VS_skip ?_
    refine VS_seq ?_
    refine VS_r0 rfl ?_
    refine q_mv rfl ?_
    first | refine q_len_m rfl ?_ | refine q_len_s rfl ?_ | refine q_len_o rfl ?_ | refine q_len_n rfl ?_ | refine q_len_x rfl ?_
    refine q_mv rfl ?_
    refine rg_nil ?_
    refine VS_seq ?_
    refine VS_seq ?_
    refine VS_r0 rfl ?_
    refine q_mv rfl ?_
    refine q_mv rfl ?_
    refine q_eql rfl rfl ?_
    refine rg_nil ?_
    refine VS_cond rfl (fun c1 => ?_) (fun c1 => ?_)
    · try simp at c1
      refine VS_seq ?_
      refine VS_r0 rfl ?_
      refine q_mv rfl ?_
      refine q_mv rfl ?_
      refine q_app_s (ys := dP vs) (zs := dP (xs ++ vs)) (ws := dP (xs ++ vs)) rfl (elems_P _) (cell_P _) rfl rfl (by simp) (by rw [splice_end (by simp), ← List.map_append]) (by rw [List.drop_zero, List.take_of_length_le (by simp), ← List.map_append]) (fun h => absurd h (ne_map (by omega))) ?_ ?_
      · intro _ hcap
        refine ⟨trivial, ?_⟩
        refine q_mv rfl ?_
        refine rg_nil ?_
        have hout : xs.take i ++ vs ++ xs.drop i = xs ++ vs := by rw [List.take_of_length_le (by omega), List.drop_of_length_le (by omega), List.append_nil]
        first
          | refine VS_bd (Bd.subP (ps := (xs ++ vs).map (fun k => (pairP k))) 6 rfl rfl (by simp) (by rw [List.take_of_length_le (by simp)]; exact toPVs_dP _) ?_)
          | refine VS_bd (Bd.pureO 6 1 (ps := (xs ++ vs).map (fun k => (pairP k))) rfl rfl (by simp) (toPVs_dP _) ?_); refine VS_bd (Bd.drop 0 ?_)
        refine VS_ret ?_
        refine Bd.now ⟨_, rfl, congrArg (fun l => D.pv (prs l)) hout.symm, rfl⟩
      · intro _ hcap
        refine ⟨⟨by simp; omega, by unfold maxLen; simp; omega⟩, trivial, ?_⟩
        refine q_mv rfl ?_
        refine rg_nil ?_
        have hout : xs.take i ++ vs ++ xs.drop i = xs ++ vs := by rw [List.take_of_length_le (by omega), List.drop_of_length_le (by omega), List.append_nil]
        first
          | refine VS_bd (Bd.subP (ps := (xs ++ vs).map (fun k => (pairP k))) 6 rfl rfl (by simp) (by rw [List.take_of_length_le (by simp)]; exact toPVs_dP _) ?_)
          | refine VS_bd (Bd.pureO 6 1 (ps := (xs ++ vs).map (fun k => (pairP k))) rfl rfl (by simp) (toPVs_dP _) ?_); refine VS_bd (Bd.drop 0 ?_)
        refine VS_ret ?_
        refine Bd.now ⟨_, rfl, congrArg (fun l => D.pv (prs l)) hout.symm, rfl⟩
    · try simp at c1
      refine VS_skip ?_
      refine VS_seq ?_
      refine VS_seq ?_
      refine VS_r0 rfl ?_
      refine q_mv rfl ?_
      refine q_mv rfl ?_
      refine q_add rfl rfl (inR64 (by omega)) ?_
      refine q_mv rfl ?_
      first | refine q_cap rfl ?_ | refine q_cap_n rfl ?_
      refine q_gtr rfl rfl ?_
      refine rg_nil ?_
      refine VS_cond rfl (fun c2 => ?_) (fun c2 => ?_)
      · try simp at c2
        refine VS_seq ?_
        refine VS_r0 rfl ?_
        refine q_mv rfl ?_
        refine q_mv rfl ?_
        refine q_slc_s 0 i cap rfl rfl rfl rfl rfl ⟨by omega, by omega, by omega⟩ ⟨by omega, by omega, by omega⟩ (fun h => absurd h (by omega)) (fun _ => ?_)
        refine q_mv rfl ?_
        refine q_mv rfl ?_
        refine q_add rfl rfl (inR64 (by omega)) ?_
        refine q_mv rfl ?_
        refine q_sub_to ((xs.length + vs.length - i : Nat) : Int) rfl rfl (by omega) (inR64 (by omega)) ?_
        refine q_appz_s (m := xs.length + vs.length - i) rfl rfl rfl rfl rfl (by first | omega | (simp; omega)) rfl ⟨by omega, by omega, by omega, by unfold maxLen; omega⟩ ⟨trivial, ?_⟩
        refine q_mv rfl ?_
        refine rg_nil ?_
        refine VS_bd (Bd.open 9 rfl fun cap2 hd1 hd2 => ?_)
        generalize hZ : List.replicate (xs.length + vs.length - i) _ = Z
        have hZl : Z.length = xs.length + vs.length - i := by rw [← hZ, List.length_replicate]
        refine VS_st [some ⟨43, 2, dP xs⟩, some ⟨43, 2, (dP xs).take i ++ Z⟩] rfl ?_
        refine VS_seq ?_
        refine VS_r0 rfl ?_
        refine q_mv rfl ?_
        refine q_mv rfl ?_
        refine q_slc_s i (xs.length + vs.length - i) (cap2 - i) rfl rfl rfl rfl rfl ⟨by omega, by omega, by omega⟩ ⟨by omega, by omega, by omega⟩ (fun h => absurd h (by omega)) (fun _ => ?_)
        refine q_mv rfl ?_
        refine q_copy_s (ys := dP vs) (zs := splice ((dP xs).take i ++ Z) i (dP vs)) rfl (elems_P _) (all_take (cell_P _) _) rfl rfl (by first | omega | (simp; omega)) (by rw [List.take_of_length_le (l := dP vs) (by first | omega | (simp; omega))]) ⟨trivial, ?_⟩
        refine rg_nil ?_
        refine VS_seq ?_
        refine VS_r2 [some ⟨43, 2, []⟩, some ⟨43, 2, []⟩] hmix (SubL.sub (by repeat (first | exact SubL.nil | apply SubL.none | apply SubL.some | apply SubL.sh | apply SubL.eq))) ?_
        refine q_mv rfl ?_
        refine q_mv rfl ?_
        refine q_mv rfl ?_
        refine q_add rfl rfl (inR64 (by omega)) ?_
        refine q_slc_s (i + vs.length) (xs.length - i) (cap2 - (i + vs.length)) rfl rfl rfl rfl rfl ⟨by omega, by omega, by omega⟩ ⟨by omega, by omega, by omega⟩ (fun h => absurd h (by omega)) (fun _ => ?_)
        refine q_mv rfl ?_
        refine q_mv rfl ?_
        refine q_slc_s i (xs.length - i) (cap - i) rfl rfl rfl rfl rfl ⟨by omega, by omega, by omega⟩ ⟨by omega, by omega, by omega⟩ (fun h => absurd h (by omega)) (fun _ => ?_)
        refine q_last ?_
        refine q_copy_s (ys := (xs.drop i).map fun k => .pv (pairP k)) (zs := (dP xs).take i ++ dP vs ++ (dP xs).drop i) rfl (drop_elems _ rfl (by omega)) (all_take (cell_P _) _) rfl rfl (by first | omega | (simp [splice]; omega)) (by rw [List.take_of_length_le (l := (xs.drop i).map _) (by simp)]; simpa using ins_new (A := dP xs) (V := dP vs) (Z := Z) (i := i) (by simpa using hi) (by simpa using hZl)) ⟨(by first | exact trivial | exact Sub.nil | exact Sub.refl _ | exact Sub.app _ _ | exact SubL.sub (by repeat (first | exact SubL.nil | apply SubL.none | apply SubL.some | apply SubL.sh | apply SubL.eq)) | (refine Sub.of_eq ?_; intro o ob h; rcases o with _ | _ | _ | _ | _ | o <;> simp_all)), ?_⟩
        refine rg_nil ?_
        refine VS_seq ?_
        refine VS_r0 rfl ?_
        refine q_mv rfl ?_
        refine q_mv rfl ?_
        refine rg_nil ?_
        refine VS_bd (Bd.subP (ps := (xs.take i ++ vs ++ xs.drop i).map (fun k => (pairP k))) 6 rfl rfl (by first | omega | (simp; omega)) (by rw [List.take_of_length_le (by first | omega | (simp; omega))]; simpa using toPVs_dP (xs.take i ++ vs ++ xs.drop i)) ?_)
        refine VS_bd (Bd.drop 0 ?_)
        refine VS_ret ?_
        refine Bd.renL [0, 1] (fun i hi => by first | (exact absurd hi (Nat.not_lt_zero i)) | (have e : i = 0 := (by simp at hi; omega); subst e; rfl) | (have e : i = 0 ∨ i = 1 := (by simp at hi; omega); rcases e with rfl | rfl <;> rfl)) (by simp) [(6, .pv (prs (xs.take i ++ vs ++ xs.drop i)))] ⟨rfl, trivial⟩ rfl ?_
        exact ⟨_, rfl, rfl, rfl⟩
      · try simp at c2
        refine VS_skip ?_
        refine VS_seq ?_
        refine VS_r0 rfl ?_
        refine q_mv rfl ?_
        refine q_mv rfl ?_
        refine q_mv rfl ?_
        refine q_add rfl rfl (inR64 (by omega)) ?_
        refine q_slc_s 0 (xs.length + vs.length) cap rfl rfl rfl rfl rfl ⟨by omega, by omega, by omega⟩ ⟨by omega, by omega, by omega⟩ (fun h => absurd h (by omega)) (fun _ => ?_)
        refine q_mv rfl ?_
        refine rg_nil ?_
        refine VS_bd (Bd.ext 0 vs.length rfl rfl (by first | omega | (simp; omega)) ?_)
        generalize hJ : List.replicate vs.length _ = J
        have hJl : J.length = vs.length := by rw [← hJ, List.length_replicate]
        refine VS_st [some ⟨43, 2, dP xs ++ J⟩] rfl ?_
        refine VS_seq ?_
        refine VS_seq ?_
        refine VS_r0 rfl ?_
        refine q_mv rfl ?_
        refine q_mv rfl ?_
        refine q_mv rfl ?_
        refine q_mv rfl ?_
        refine q_add rfl rfl (inR64 (by omega)) ?_
        refine q_slc_s (i + vs.length) (xs.length - i) (cap - (i + vs.length)) rfl rfl rfl rfl rfl ⟨by omega, by omega, by omega⟩ ⟨by omega, by omega, by omega⟩ (fun h => absurd h (by omega)) (fun _ => ?_)
        refine q_ovl_s ovl_Pair rfl rfl rfl (show 0 < 2 by decide) (by simp [PV.nc]) ⟨trivial, ?_⟩
        refine q_not rfl ?_
        refine rg_nil ?_
        refine VS_cond rfl (fun _ => ?_) (fun e => by cases e)
        refine VS_seq ?_
        refine VS_r2 [some ⟨43, 2, []⟩] hmix (SubL.sub (by repeat (first | exact SubL.nil | apply SubL.none | apply SubL.some | apply SubL.sh | apply SubL.eq))) ?_
        refine q_mv rfl ?_
        refine q_mv rfl ?_
        refine q_mv rfl ?_
        refine q_add rfl rfl (inR64 (by omega)) ?_
        refine q_slc_s (i + vs.length) (xs.length - i) (cap - (i + vs.length)) rfl rfl rfl rfl rfl ⟨by omega, by omega, by omega⟩ ⟨by omega, by omega, by omega⟩ (fun h => absurd h (by omega)) (fun _ => ?_)
        refine q_mv rfl ?_
        refine q_mv rfl ?_
        refine q_slc_s i (xs.length + vs.length - i) (cap - i) rfl rfl rfl rfl rfl ⟨by omega, by omega, by omega⟩ ⟨by omega, by omega, by omega⟩ (fun h => absurd h (by omega)) (fun _ => ?_)
        refine q_last ?_
        have ed : ((((dP xs) ++ J).drop i).take (xs.length + vs.length - i)).take (xs.length - i) = (dP xs).drop i := by rw [List.take_take, Nat.min_eq_left (by omega), List.drop_append_of_le_length (by simpa using hi), List.take_append_of_le_length (by simp), List.take_of_length_le (by simp)]
        refine q_copy_s (zs := splice ((dP xs) ++ J) (i + vs.length) ((dP xs).drop i)) rfl (elems_sub (o := 0) (off := i) (n := xs.length + vs.length - i) (c := cap - i) (ob := ⟨43, 2, dP xs ++ J⟩) rfl (by first | omega | (simp; omega))) (by rw [ed]; exact all_drop (cell_P _) _) rfl rfl (by first | omega | (simp; omega)) (by rw [ed]) ⟨(by first | exact trivial | exact Sub.nil | exact Sub.refl _ | exact Sub.app _ _ | exact SubL.sub (by repeat (first | exact SubL.nil | apply SubL.none | apply SubL.some | apply SubL.sh | apply SubL.eq)) | (refine Sub.of_eq ?_; intro o ob h; rcases o with _ | _ | _ | _ | _ | o <;> simp_all)), ?_⟩
        refine rg_nil ?_
        refine VS_seq ?_
        refine VS_r0 rfl ?_
        refine q_mv rfl ?_
        refine q_mv rfl ?_
        refine q_slc_s i (xs.length + vs.length - i) (cap - i) rfl rfl rfl rfl rfl ⟨by omega, by omega, by omega⟩ ⟨by omega, by omega, by omega⟩ (fun h => absurd h (by omega)) (fun _ => ?_)
        refine q_mv rfl ?_
        refine q_copy_s (ys := dP vs) (zs := (dP xs).take i ++ dP vs ++ (dP xs).drop i) rfl (elems_P _) (all_take (cell_P _) _) rfl rfl (by first | omega | (simp [splice]; omega)) (by rw [List.take_of_length_le (l := dP vs) (by first | omega | (simp; omega))]; simpa using ins_old (A := dP xs) (V := dP vs) (J := J) (i := i) (by simpa using hi) (by simpa using hJl)) ⟨trivial, ?_⟩
        refine rg_nil ?_
        refine VS_seq ?_
        refine VS_r0 rfl ?_
        refine q_mv rfl ?_
        refine q_mv rfl ?_
        refine rg_nil ?_
        refine VS_bd (Bd.subP (ps := (xs.take i ++ vs ++ xs.drop i).map (fun k => (pairP k))) 6 rfl rfl (by first | omega | (simp; omega)) (by rw [List.take_of_length_le (by first | omega | (simp; omega))]; simpa using toPVs_dP (xs.take i ++ vs ++ xs.drop i)) ?_)
        refine VS_ret ?_
        exact Bd.now ⟨_, rfl, rfl, rfl⟩
theorem c_slices_Insert_int_0 (vs : List Int) (hv0 : 0 < vs.length) (hv : vs.length ≤ 1000) : CallS prog 71 [.nils, .pv (i64 0), .pv (ints vs)] [] (fun d S => d = .pv (ints vs) ∧ S = [none]) := by
  refine callS_of_VS sl_slices_Insert_int (by simp) ?_
  refine VS_seq ?_
  refine VS_r0 rfl ?_
  refine q_mv rfl ?_
  refine rg_nil ?_
  refine VS_seq ?_
  refine VS_r0 rfl ?_
  refine q_mv rfl ?_
  refine q_mv rfl ?_
  refine q_slc_nil rfl rfl rfl ?_
  refine rg_nil ?_
  refine VS_seq ?_
  refine VS_r0 rfl ?_
  refine q_mv rfl ?_
  first | refine q_len_m rfl ?_ | refine q_len_s rfl ?_ | refine q_len_o rfl ?_ | refine q_len_n rfl ?_ | refine q_len_x rfl ?_
  refine q_mv rfl ?_
  refine rg_nil ?_
  refine VS_seq ?_
  refine VS_seq ?_
  refine VS_r0 rfl ?_
  refine q_mv rfl ?_
  refine q_eql_v false rfl rfl (decide_eq_false (by omega)) ?_
  refine rg_nil ?_
  refine VS_cond rfl (fun e => by cases e) (fun _ => ?_)
  refine VS_skip ?_
  refine VS_seq ?_
  refine VS_r0 rfl ?_
  refine q_mv rfl ?_
  first | refine q_len_m rfl ?_ | refine q_len_s rfl ?_ | refine q_len_o rfl ?_ | refine q_len_n rfl ?_ | refine q_len_x rfl ?_
  refine q_mv rfl ?_
  refine rg_nil ?_
  refine VS_seq ?_
  refine VS_seq ?_
  refine VS_r0 rfl ?_
  refine q_mv rfl ?_
  refine q_mv rfl ?_
  refine q_eql_v true rfl rfl (rfl) ?_
  refine rg_nil ?_
  refine VS_cond rfl (fun _ => ?_) (fun e => by cases e)
  refine VS_seq ?_
  refine VS_r0 rfl ?_
  refine q_mv rfl ?_
  refine q_mv rfl ?_
  refine q_app_zm (ys := vs) (f := fun k => .pv (i64 k)) rfl (elems_I _) (cell_I _) ⟨by omega, by omega⟩ trivial ?_
  refine q_mv rfl ?_
  refine rg_nil ?_
  refine VS_ret ?_
  refine Bd.pureB 6 0 3 1 (xs := dI vs) rfl rfl (toPVs_dI _) ?_
  exact Bd.now ⟨_, rfl, rfl, rfl⟩
theorem c_slices_Insert_Pair_0 (vs : List (Int × Int)) (hv0 : 0 < vs.length) (hv : vs.length ≤ 1000) : CallS prog 96 [.nils, .pv (i64 0), .pv (prs vs)] [] (fun d S => d = .pv (prs vs) ∧ S = [none]) := by
  refine callS_of_VS sl_slices_Insert_Pair (by simp) ?_
  refine VS_seq ?_
  refine VS_r0 rfl ?_
  refine q_mv rfl ?_
  refine rg_nil ?_
  refine VS_seq ?_
  refine VS_r0 rfl ?_
  refine q_mv rfl ?_
  refine q_mv rfl ?_
  refine q_slc_nil rfl rfl rfl ?_
  refine rg_nil ?_
  refine VS_seq ?_
  refine VS_r0 rfl ?_
  refine q_mv rfl ?_
  first | refine q_len_m rfl ?_ | refine q_len_s rfl ?_ | refine q_len_o rfl ?_ | refine q_len_n rfl ?_ | refine q_len_x rfl ?_
  refine q_mv rfl ?_
  refine rg_nil ?_
  refine VS_seq ?_
  refine VS_seq ?_
  refine VS_r0 rfl ?_
  refine q_mv rfl ?_
  refine q_eql_v false rfl rfl (decide_eq_false (by omega)) ?_
  refine rg_nil ?_
  refine VS_cond rfl (fun e => by cases e) (fun _ => ?_)
  refine VS_skip ?_
  refine VS_seq ?_
  refine VS_r0 rfl ?_
  refine q_mv rfl ?_
  first | refine q_len_m rfl ?_ | refine q_len_s rfl ?_ | refine q_len_o rfl ?_ | refine q_len_n rfl ?_ | refine q_len_x rfl ?_
  refine q_mv rfl ?_
  refine rg_nil ?_
  refine VS_seq ?_
  refine VS_seq ?_
  refine VS_r0 rfl ?_
  refine q_mv rfl ?_
  refine q_mv rfl ?_
  refine q_eql_v true rfl rfl (rfl) ?_
  refine rg_nil ?_
  refine VS_cond rfl (fun _ => ?_) (fun e => by cases e)
  refine VS_seq ?_
  refine VS_r0 rfl ?_
  refine q_mv rfl ?_
  refine q_mv rfl ?_
  refine q_app_zm (ys := vs) (f := fun k => .pv (pairP k)) rfl (elems_P _) (cell_P _) ⟨by omega, by omega⟩ trivial ?_
  refine q_mv rfl ?_
  refine rg_nil ?_
  refine VS_ret ?_
  refine Bd.pureB 6 0 43 2 (xs := dP vs) rfl rfl (toPVs_dP _) ?_
  exact Bd.now ⟨_, rfl, rfl, rfl⟩
theorem ins_use_int (xs : List Int) (i : Nat) (vs : List Int) (hi : i ≤ xs.length) (hv0 : 0 < vs.length) (hv : vs.length ≤ 1000) (hl : xs.length ≤ 1000000000) :
    (dI xs = [] → InsE prog 71 [i64 i, ints vs] (ints (xs.take i ++ vs ++ xs.drop i))) ∧ (dI xs ≠ [] → DelS prog 71 3 1 (dI xs) [i64 i, ints vs] (ints (xs.take i ++ vs ++ xs.drop i))) := by
  constructor
  · intro h
    have h0 : xs = [] := List.map_eq_nil_iff.1 h
    subst h0
    obtain rfl : i = 0 := by simpa using hi
    simp only [List.take_nil, List.drop_nil, List.nil_append, List.append_nil]
    exact c_slices_Insert_int_0 vs hv0 hv
  · intro h
    exact c_slices_Insert_int xs i vs hi (List.length_pos_iff.2 fun e => h (by rw [e]; rfl)) hv0 hv hl
theorem ins_use_Pair (xs : List (Int × Int)) (i : Nat) (vs : List (Int × Int)) (hi : i ≤ xs.length) (hv0 : 0 < vs.length) (hv : vs.length ≤ 1000) (hl : xs.length ≤ 1000000000) :
    (dP xs = [] → InsE prog 96 [i64 i, prs vs] (prs (xs.take i ++ vs ++ xs.drop i))) ∧ (dP xs ≠ [] → DelS prog 96 43 2 (dP xs) [i64 i, prs vs] (prs (xs.take i ++ vs ++ xs.drop i))) := by
  constructor
  · intro h
    have h0 : xs = [] := List.map_eq_nil_iff.1 h
    subst h0
    obtain rfl : i = 0 := by simpa using hi
    simp only [List.take_nil, List.drop_nil, List.nil_append, List.append_nil]
    exact c_slices_Insert_Pair_0 vs hv0 hv
  · intro h
    exact c_slices_Insert_Pair xs i vs hi (List.length_pos_iff.2 fun e => h (by rw [e]; rfl)) hv0 hv hl
end Go.V

set_option maxHeartbeats 4000000
namespace Go.V
open Go.Proofs.Try (prog)
theorem c_impl_InsertKey (xs : List Int) (k : Int) (hl : xs.length ≤ 1000000000) : PCon prog 33 [ints xs, i64 k] (fun p => p = .tup [ints (if okIns xs k then insK xs k else []), .bool (okIns xs k)]) := by
  refine con_of_VS sl_impl_InsertKey (by simp) ?_
  refine VS_seq ?_
  refine VS_r0 rfl ?_
  refine q_mv rfl ?_
  refine q_mv rfl ?_
  refine rg_nil ?_
  refine VS_seq ?_
  refine VS_seq ?_
  refine VS_r0 rfl ?_
  refine q_mv rfl ?_
  refine q_callp (c_impl_ValidKeys _ (by omega)) rfl trivial ?_
  refine q_not rfl ?_
  refine q_mv rfl ?_
  refine q_b rfl (fun g10 => ?_) (fun g10 => ?_)
  · try simp at g10
    refine q_t rfl ?_
    refine q_mv rfl ?_
    refine q_t rfl ?_
    refine q_callp (c_impl_isKey _) rfl trivial ?_
    refine q_t rfl ?_
    refine q_not rfl ?_
    refine q_pick_f rfl rfl ?_
    refine rg_nil ?_
    refine VS_cond rfl (fun c0 => ?_) (fun c0 => ?_)
    · try simp at c0
      refine VS_seq ?_
      refine VS_r0 rfl ?_
      refine q_mv rfl ?_
      refine q_mv rfl ?_
      refine rg_nil ?_
      refine VS_ret ?_
      have ho : okIns xs k = false := Bool.eq_false_iff.2 fun h => by rw [okIns_iff] at h; simp_all; try omega
      exact Bd.now ⟨_, rfl, by rw [ho]; rfl⟩
    · try simp at c0
      have l0 : goodKeys xs = true := by simp_all
      have l4 : 0 ≤ k ∧ k ≤ 99 := by simp_all
      have l1 := contains_below (k := k) l0
      have l2 := upTo_le xs (k - 1)
      refine VS_skip ?_
      refine VS_seq ?_
      refine VS_r0 rfl ?_
      refine q_mv rfl ?_
      refine q_mv rfl ?_
      refine q_callp ((c_impl_KeysBelow xs k hl).to (y := i64 (upTo xs (k - 1))) (by rw [if_pos l0])) rfl trivial ?_
      refine q_mv rfl ?_
      refine rg_nil ?_
      refine VS_seq ?_
      refine VS_seq ?_
      refine VS_r0 rfl ?_
      refine q_mv rfl ?_
      refine q_mv rfl ?_
      first | refine q_len_m rfl ?_ | refine q_len_s rfl ?_ | refine q_len_o rfl ?_ | refine q_len_n rfl ?_ | refine q_len_x rfl ?_
      refine q_lss rfl rfl ?_
      refine q_mv rfl ?_
      refine q_b rfl (fun g22 => ?_) (fun g22 => ?_)
      · try simp at g22
        refine q_t rfl ?_
        refine q_mv rfl ?_
        refine q_t rfl ?_
        refine q_mv rfl ?_
        refine q_t rfl ?_
        first | refine q_idx_c _ rfl rfl (by omega) (fun _ => rfl) ?_ | refine q_idx_m rfl rfl (by omega) (by omega) (fun _ => rfl) ?_ | refine q_idx_om rfl rfl (by omega) (by omega) rfl rfl ?_
        refine q_t rfl ?_
        first | refine q_load_c rfl rfl rfl ?_ | refine q_load_r rfl rfl rfl rfl rfl rfl rfl ?_ | refine q_load_o rfl rfl rfl rfl rfl ?_
        refine q_t rfl ?_
        refine q_mv rfl ?_
        refine q_t rfl ?_
        refine q_eql rfl rfl ?_
        refine q_pick_t rfl rfl ?_
        refine rg_nil ?_
        refine VS_cond rfl (fun c1 => ?_) (fun c1 => ?_)
        · try simp at c1
          refine VS_seq ?_
          refine VS_r0 rfl ?_
          refine q_mv rfl ?_
          refine q_mv rfl ?_
          refine rg_nil ?_
          refine VS_ret ?_
          have l3 : xs.contains k = true := by rw [l1]; simp_all; try omega
          have ho : okIns xs k = false := Bool.eq_false_iff.2 fun h => by rw [okIns_iff] at h; exact h.2.2 (by simpa using l3)
          exact Bd.now ⟨_, rfl, by rw [ho]; rfl⟩
        · try simp at c1
          refine VS_skip ?_
          refine VS_seq ?_
          refine VS_r0 rfl ?_
          refine q_mv rfl ?_
          refine q_new rfl (c_slices_Clone_int xs (by omega)) (flat_I _) (by first | rfl | (repeat' (first | exact toRs_nil | refine toRs_cons ?_ ?_ | rfl | exact toR_I rfl | exact toR_P rfl | refine toR_agg2 ?_ ?_ | refine toR_agg3 ?_ ?_ ?_))) trivial ?_
          refine q_mv rfl ?_
          refine q_mv rfl ?_
          refine q_lit (xs := [i64 k]) rfl rfl rfl rfl ?_
          refine q_ins rfl (ins_use_int (xs) (upTo xs (k - 1)) ([k]) (upTo_le _ _) (by simp) (by simp) (by omega)).1 (ins_use_int (xs) (upTo xs (k - 1)) ([k]) (upTo_le _ _) (by simp) (by simp) (by omega)).2 (dI_mp _) rfl rfl trivial ?_
          refine q_mv rfl ?_
          refine q_mv rfl ?_
          refine rg_nil ?_
          refine VS_ret ?_
          have l3 : xs.contains k = false := by rw [l1]; simp_all; try omega
          have ho : okIns xs k = true := okIns_iff.2 ⟨l0, l4, by simpa using l3⟩
          exact Bd.now ⟨_, rfl, by rw [ho]; simp [insK]⟩
      · try simp at g22
        refine q_f rfl ?_
        refine q_f rfl ?_
        refine q_f rfl ?_
        refine q_f rfl ?_
        refine q_f rfl ?_
        refine q_f rfl ?_
        refine q_pick_f rfl rfl ?_
        refine rg_nil ?_
        refine VS_cond rfl (fun e => by cases e) (fun _ => ?_)
        refine VS_skip ?_
        refine VS_seq ?_
        refine VS_r0 rfl ?_
        refine q_mv rfl ?_
        refine q_new rfl (c_slices_Clone_int xs (by omega)) (flat_I _) (by first | rfl | (repeat' (first | exact toRs_nil | refine toRs_cons ?_ ?_ | rfl | exact toR_I rfl | exact toR_P rfl | refine toR_agg2 ?_ ?_ | refine toR_agg3 ?_ ?_ ?_))) trivial ?_
        refine q_mv rfl ?_
        refine q_mv rfl ?_
        refine q_lit (xs := [i64 k]) rfl rfl rfl rfl ?_
        refine q_ins rfl (ins_use_int (xs) (upTo xs (k - 1)) ([k]) (upTo_le _ _) (by simp) (by simp) (by omega)).1 (ins_use_int (xs) (upTo xs (k - 1)) ([k]) (upTo_le _ _) (by simp) (by simp) (by omega)).2 (dI_mp _) rfl rfl trivial ?_
        refine q_mv rfl ?_
        refine q_mv rfl ?_
        refine rg_nil ?_
        refine VS_ret ?_
        have l3 : xs.contains k = false := by rw [l1]; simp_all; try omega
        have ho : okIns xs k = true := okIns_iff.2 ⟨l0, l4, by simpa using l3⟩
        exact Bd.now ⟨_, rfl, by rw [ho]; simp [insK]⟩
  · try simp at g10
    refine q_f rfl ?_
    refine q_f rfl ?_
    refine q_f rfl ?_
    refine q_pick_t rfl rfl ?_
    refine rg_nil ?_
    refine VS_cond rfl (fun _ => ?_) (fun e => by cases e)
    refine VS_seq ?_
    refine VS_r0 rfl ?_
    refine q_mv rfl ?_
    refine q_mv rfl ?_
    refine rg_nil ?_
    refine VS_ret ?_
    have ho : okIns xs k = false := Bool.eq_false_iff.2 fun h => by rw [okIns_iff] at h; simp_all; try omega
    exact Bd.now ⟨_, rfl, by rw [ho]; rfl⟩
theorem c_spec_InsertKey (xs : List Int) (k : Int) (hl : xs.length ≤ 1000000000) : PCon prog 34 [ints xs, i64 k] (fun p => p = .tup [ints (if okIns xs k then insK xs k else []), .bool (okIns xs k)]) := by
  refine con_of_VS sl_spec_InsertKey (by simp) ?_
  refine VS_seq ?_
  refine VS_r0 rfl ?_
  refine q_mv rfl ?_
  refine q_mv rfl ?_
  refine rg_nil ?_
  refine VS_seq ?_
  refine VS_seq ?_
  refine VS_r0 rfl ?_
  refine q_mv rfl ?_
  refine q_callp (c_spec_validKeys _ (by omega)) rfl trivial ?_
  refine q_not rfl ?_
  refine q_mv rfl ?_
  refine q_b rfl (fun g11 => ?_) (fun g11 => ?_)
  · try simp at g11
    refine q_t rfl ?_
    refine q_mv rfl ?_
    refine q_t rfl ?_
    refine q_callp (c_spec_inRange _ _ _) rfl trivial ?_
    refine q_t rfl ?_
    refine q_not rfl ?_
    refine q_pick_f rfl rfl ?_
    refine q_mv rfl ?_
    refine q_b rfl (fun g16 => ?_) (fun g16 => ?_)
    · try simp at g16
      refine q_t rfl ?_
      refine q_mv rfl ?_
      refine q_t rfl ?_
      refine q_mv rfl ?_
      refine q_t rfl ?_
      refine q_callp (c_spec_isIn _ _ (by omega)) rfl trivial ?_
      refine q_pick_f rfl rfl ?_
      refine rg_nil ?_
      refine VS_cond rfl (fun c0 => ?_) (fun c0 => ?_)
      · try simp at c0
        refine VS_seq ?_
        refine VS_r0 rfl ?_
        refine q_mv rfl ?_
        refine q_mv rfl ?_
        refine rg_nil ?_
        refine VS_ret ?_
        have ho : okIns xs k = false := Bool.eq_false_iff.2 fun h => by rw [okIns_iff] at h; simp_all; try omega
        exact Bd.now ⟨_, rfl, by rw [ho]; rfl⟩
      · try simp at c0
        have l0 : goodKeys xs = true := by simp_all
        have l4 : 0 ≤ k ∧ k ≤ 99 := by simp_all
        have l2 := upTo_le xs (k - 1)
        have l3 : xs.contains k = false := by simp_all
        have ho : okIns xs k = true := okIns_iff.2 ⟨l0, l4, by simpa using l3⟩
        refine VS_skip ?_
        refine VS_seq ?_
        refine VS_r0 rfl ?_
        refine q_mv rfl ?_
        refine q_mv rfl ?_
        refine q_callp (c_spec_below xs k hl) rfl trivial ?_
        refine q_mv rfl ?_
        refine rg_nil ?_
        refine VS_seq ?_
        refine VS_r0 rfl ?_
        refine q_mv rfl ?_
        refine q_mv rfl ?_
        refine q_slc_m (xs := xs) (f := fun k => i64 k) 0 (upTo xs (k - 1)) rfl rfl rfl ⟨rfl, rfl, by omega, by omega⟩ (fun _ => rfl) ?_
        refine q_new rfl (c_spec_copyInts ((xs.take (upTo xs (k - 1))).drop 0) (by first | omega | (simp; omega))) (flat_I _) (by first | rfl | (repeat' (first | exact toRs_nil | refine toRs_cons ?_ ?_ | rfl | exact toR_I rfl | exact toR_P rfl | refine toR_agg2 ?_ ?_ | refine toR_agg3 ?_ ?_ ?_))) trivial ?_
        refine q_mv rfl ?_
        refine q_lit (xs := [i64 k]) rfl rfl rfl rfl ?_
        refine q_app_dm (xs := (xs.take (upTo xs (k - 1))).drop 0) (ys := [k]) (f := fun k => .pv (i64 k)) rfl rfl rfl rfl ⟨by simp; omega, by simp; omega⟩ trivial ?_
        refine q_mv rfl ?_
        refine rg_nil ?_
        refine VS_seq ?_
        refine VS_r0 rfl ?_
        refine q_mv rfl ?_
        refine q_mv rfl ?_
        refine q_mv rfl ?_
        refine q_slc_m (xs := xs) (f := fun k => i64 k) (upTo xs (k - 1)) xs.length rfl rfl rfl ⟨rfl, by simp, by omega, by omega⟩ (fun _ => rfl) ?_
        refine q_app_dm (xs := (xs.take (upTo xs (k - 1))).drop 0 ++ [k]) (ys := (xs.take xs.length).drop (upTo xs (k - 1))) (f := fun k => .pv (i64 k)) rfl (elems_I _) (cell_I _) rfl ⟨by simp; omega, by simp; omega⟩ trivial ?_
        refine q_mv rfl ?_
        refine q_mv rfl ?_
        refine rg_nil ?_
        refine VS_ret ?_
        refine Bd.pureB 4 2 3 1 (xs := dI ((xs.take (upTo xs (k - 1))).drop 0 ++ [k] ++ (xs.take xs.length).drop (upTo xs (k - 1)))) rfl rfl (toPVs_dI _) ?_
        exact Bd.now ⟨_, rfl, by rw [ho]; simp [insK]⟩
    · try simp at g16
      refine q_f rfl ?_
      refine q_f rfl ?_
      refine q_f rfl ?_
      refine q_pick_t rfl rfl ?_
      refine rg_nil ?_
      refine VS_cond rfl (fun _ => ?_) (fun e => by cases e)
      refine VS_seq ?_
      refine VS_r0 rfl ?_
      refine q_mv rfl ?_
      refine q_mv rfl ?_
      refine rg_nil ?_
      refine VS_ret ?_
      have ho : okIns xs k = false := Bool.eq_false_iff.2 fun h => by rw [okIns_iff] at h; simp_all; try omega
      exact Bd.now ⟨_, rfl, by rw [ho]; rfl⟩
  · try simp at g11
    refine q_f rfl ?_
    refine q_f rfl ?_
    refine q_f rfl ?_
    refine q_pick_t rfl rfl ?_
    refine q_mv rfl ?_
    refine q_f rfl ?_
    refine q_f rfl ?_
    refine q_f rfl ?_
    refine q_pick_t rfl rfl ?_
    refine rg_nil ?_
    refine VS_cond rfl (fun _ => ?_) (fun e => by cases e)
    refine VS_seq ?_
    refine VS_r0 rfl ?_
    refine q_mv rfl ?_
    refine q_mv rfl ?_
    refine rg_nil ?_
    refine VS_ret ?_
    have ho : okIns xs k = false := Bool.eq_false_iff.2 fun h => by rw [okIns_iff] at h; simp_all; try omega
    exact Bd.now ⟨_, rfl, by rw [ho]; rfl⟩
theorem c_impl_isPair (x : Int × Int) : PCon prog 82 [pairP x] (fun p => p = .bool (goodX x)) := by
  refine con_of_VS sl_impl_isPair (by simp) ?_
  refine VS_seq ?_
  refine VS_r0 rfl ?_
  refine q_box rfl rfl rfl trivial ?_
  refine q_mv rfl ?_
  refine rg_nil ?_
  refine VS_seq ?_
  refine VS_r0 rfl ?_
  first | refine q_fld_r rfl ?_ | refine q_fld_c rfl rfl ?_
  first | refine q_load_c rfl rfl rfl ?_ | refine q_load_r rfl rfl rfl rfl rfl rfl rfl ?_ | refine q_load_o rfl rfl rfl rfl rfl ?_
  refine q_callp (c_impl_isKey _) rfl trivial ?_
  refine q_mv rfl ?_
  refine q_b rfl (fun g6 => ?_) (fun g6 => ?_)
  · try simp at g6
    refine q_t rfl ?_
    first | refine q_fld_r rfl ?_ | refine q_fld_c rfl rfl ?_
    refine q_t rfl ?_
    first | refine q_load_c rfl rfl rfl ?_ | refine q_load_r rfl rfl rfl rfl rfl rfl rfl ?_ | refine q_load_o rfl rfl rfl rfl rfl ?_
    refine q_t rfl ?_
    refine q_callp (c_impl_isValue _) rfl trivial ?_
    refine q_pick_t rfl rfl ?_
    refine q_mv rfl ?_
    refine rg_nil ?_
    refine VS_ret ?_
    refine Bd.now ⟨_, rfl, ?_⟩
    first | (simp [goodX, *]; done) | (simp_all [goodX]; done) | (simp [goodX]; intro h1 h2; exfalso; have := g6 h1; omega)
  · try simp at g6
    refine q_f rfl ?_
    refine q_f rfl ?_
    refine q_f rfl ?_
    refine q_pick_f rfl rfl ?_
    refine q_mv rfl ?_
    refine rg_nil ?_
    refine VS_ret ?_
    refine Bd.now ⟨_, rfl, ?_⟩
    first | (simp [goodX, *]; done) | (simp_all [goodX]; done) | (simp [goodX]; intro h1 h2; exfalso; have := g6 h1; omega)
theorem c_impl_putInRow (xs : List (Int × Int)) (x : Int × Int) (hl : xs.length ≤ 1000000) (hg : goodKeys (keysR xs) = true) : PCon prog 83 [prs xs, pairP x] (fun p => p = prs (putR xs x)) := by
  refine con_of_VS sl_impl_putInRow (by simp) ?_
  refine VS_seq ?_
  refine VS_r0 rfl ?_
  refine q_box rfl rfl rfl trivial ?_
  refine q_mv rfl ?_
  refine rg_nil ?_
  refine VS_seq ?_
  refine VS_r0 rfl ?_
  refine q_mv rfl ?_
  first | refine q_fld_r rfl ?_ | refine q_fld_c rfl rfl ?_
  first | refine q_load_c rfl rfl rfl ?_ | refine q_load_r rfl rfl rfl rfl rfl rfl rfl ?_ | refine q_load_o rfl rfl rfl rfl rfl ?_
  refine q_callp (c_impl_placeInRow xs x.1 (by omega) hg) rfl trivial ?_
  refine q_mv rfl ?_
  refine q_ext rfl rfl ?_
  refine q_ext rfl rfl ?_
  refine q_mv rfl ?_
  refine q_mv rfl ?_
  refine rg_nil ?_
  refine VS_seq ?_
  refine VS_r0 rfl ?_
  refine q_mv rfl ?_
  refine q_new rfl (c_slices_Clone_Pair xs (by omega)) (flat_P _) (by first | rfl | (repeat' (first | exact toRs_nil | refine toRs_cons ?_ ?_ | rfl | exact toR_I rfl | exact toR_P rfl | refine toR_agg2 ?_ ?_ | refine toR_agg3 ?_ ?_ ?_))) trivial ?_
  refine q_mv rfl ?_
  refine rg_nil ?_
  refine VS_seq ?_
  refine VS_seq ?_
  refine VS_r0 rfl ?_
  refine q_mv rfl ?_
  refine rg_nil ?_
  refine VS_cond rfl (fun c0 => ?_) (fun c0 => ?_)
  · try simp at c0
    have ht : thereR xs x.1 = true := by simpa using c0
    have hlt := (thereR_lt ht).1
    refine VS_seq ?_
    refine VS_r0 rfl ?_
    refine q_mv rfl ?_
    refine q_mv rfl ?_
    first | refine q_load_c rfl rfl rfl ?_ | refine q_load_ra rfl rfl rfl rfl rfl (by first | (simp; done) | (simp [setAt]; done)) rfl ?_
    refine q_idx_dm (f := fun x => .pv (pairP x)) (xs := xs) (ty := 43) rfl rfl (by omega) (by omega) rfl ?_
    rw [Int.toNat_natCast]
    refine q_store_p (ty := 43) (v := x) (xs := xs) rfl rfl rfl rfl hlt trivial ?_
    refine rg_nil ?_
    refine VS_bd (Bd.pureO 7 1 (ps := (xs.set (atR xs x.1) x).map pairP) (ownD_ne (ne_map (by omega))) rfl (by simp) (by rw [List.map_set]; exact toPVs_set _ (toPVs_dP _) rfl) ?_)
    refine VS_seq ?_
    refine VS_r0 rfl ?_
    refine q_mv rfl ?_
    refine q_mv rfl ?_
    refine rg_nil ?_
    refine VS_ret ?_
    exact Bd.now ⟨_, rfl, by rw [set_put ht]⟩
  · try simp at c0
    have ht : thereR xs x.1 = false := by simpa using c0
    refine VS_skip ?_
    refine VS_seq ?_
    refine VS_r0 rfl ?_
    refine q_mv rfl ?_
    refine q_mv rfl ?_
    first | refine q_load_c rfl rfl rfl ?_ | refine q_load_ra rfl rfl rfl rfl rfl (by first | (simp; done) | (simp [setAt]; done)) rfl ?_
    refine q_lit (xs := [pairP x]) rfl rfl rfl rfl ?_
    refine q_ins rfl (ins_use_Pair (xs) (atR xs x.1) ([x]) (atR_le _ _) (by simp) (by simp) (by omega)).1 (ins_use_Pair (xs) (atR xs x.1) ([x]) (atR_le _ _) (by simp) (by simp) (by omega)).2 (dP_mp _) rfl rfl trivial ?_
    refine q_mv rfl ?_
    refine rg_nil ?_
    refine VS_ret ?_
    exact Bd.now ⟨_, rfl, by rw [putR, if_neg (by simp [ht])]⟩
theorem c_impl_PutPair (xs : List (Int × Int)) (x : Int × Int) (hl : xs.length ≤ 1000000) : PCon prog 47 [prs xs, pairP x] (fun p => p = .tup [prs (if okPut xs x then putR xs x else []), .bool (okPut xs x)]) := by
  refine con_of_VS sl_impl_PutPair (by simp) ?_
  refine VS_seq ?_
  refine VS_r0 rfl ?_
  refine q_box rfl rfl rfl trivial ?_
  refine q_mv rfl ?_
  refine q_mv rfl ?_
  refine rg_nil ?_
  refine VS_seq ?_
  refine VS_seq ?_
  refine VS_r0 rfl ?_
  refine q_mv rfl ?_
  refine q_callp (c_impl_ValidRow _ (by first | omega | (simp; omega))) rfl trivial ?_
  refine q_not rfl ?_
  refine q_mv rfl ?_
  refine q_b rfl (fun g10 => ?_) (fun g10 => ?_)
  · try simp at g10
    refine q_t rfl ?_
    first | refine q_load_c rfl rfl rfl ?_ | refine q_load_ra rfl rfl rfl rfl rfl (by first | (simp; done) | (simp [setAt]; done)) rfl ?_
    refine q_t rfl ?_
    refine q_callp (c_impl_isPair _) rfl trivial ?_
    refine q_t rfl ?_
    refine q_not rfl ?_
    refine q_pick_f rfl rfl ?_
    refine rg_nil ?_
    refine VS_cond rfl (fun c0 => ?_) (fun c0 => ?_)
    · try simp at c0
      refine VS_seq ?_
      refine VS_r0 rfl ?_
      refine q_mv rfl ?_
      refine q_mv rfl ?_
      refine rg_nil ?_
      refine VS_ret ?_
      have ho : okPut xs x = false := Bool.eq_false_iff.2 fun h => by rw [okPut_iff] at h; simp_all; try omega
      exact Bd.now ⟨_, rfl, by rw [ho]; rfl⟩
    · try simp at c0
      have l0 : goodR xs = true := by simp_all
      have l1 : goodX x = true := by simp_all
      refine VS_skip ?_
      refine VS_seq ?_
      refine VS_r0 rfl ?_
      refine q_mv rfl ?_
      first | refine q_load_c rfl rfl rfl ?_ | refine q_load_ra rfl rfl rfl rfl rfl (by first | (simp; done) | (simp [setAt]; done)) rfl ?_
      refine q_callp (c_impl_putInRow xs x (by omega) (goodR_keys l0)) rfl trivial ?_
      refine q_mv rfl ?_
      refine rg_nil ?_
      refine VS_seq ?_
      refine VS_seq ?_
      refine VS_r0 rfl ?_
      refine q_mv rfl ?_
      first | refine q_len_m rfl ?_ | refine q_len_s rfl ?_ | refine q_len_o rfl ?_ | refine q_len_n rfl ?_ | refine q_len_x rfl ?_
      refine q_gtr rfl rfl ?_
      refine rg_nil ?_
      refine VS_cond rfl (fun c1 => ?_) (fun c1 => ?_)
      · try simp at c1
        refine VS_seq ?_
        refine VS_r0 rfl ?_
        refine q_mv rfl ?_
        refine q_mv rfl ?_
        refine rg_nil ?_
        refine VS_ret ?_
        have ho : okPut xs x = false := Bool.eq_false_iff.2 fun h => by rw [okPut_iff] at h; simp_all; try omega
        exact Bd.now ⟨_, rfl, by rw [ho]; rfl⟩
      · try simp at c1
        refine VS_skip ?_
        refine VS_seq ?_
        refine VS_r0 rfl ?_
        refine q_mv rfl ?_
        refine q_mv rfl ?_
        refine q_mv rfl ?_
        refine rg_nil ?_
        refine VS_ret ?_
        have ho : okPut xs x = true := by rw [okPut_iff]; refine ⟨l0, l1, ?_⟩; omega
        exact Bd.now ⟨_, rfl, by rw [ho]; rfl⟩
  · try simp at g10
    refine q_f rfl ?_
    refine q_f rfl ?_
    refine q_f rfl ?_
    refine q_pick_t rfl rfl ?_
    refine rg_nil ?_
    refine VS_cond rfl (fun _ => ?_) (fun e => by cases e)
    refine VS_seq ?_
    refine VS_r0 rfl ?_
    refine q_mv rfl ?_
    refine q_mv rfl ?_
    refine rg_nil ?_
    refine VS_ret ?_
    have ho : okPut xs x = false := Bool.eq_false_iff.2 fun h => by rw [okPut_iff] at h; simp_all; try omega
    exact Bd.now ⟨_, rfl, by rw [ho]; rfl⟩
theorem c_spec_PutPair (xs : List (Int × Int)) (x : Int × Int) (hl : xs.length ≤ 1000000) : PCon prog 48 [prs xs, pairP x] (fun p => p = .tup [prs (if okPut xs x then putR xs x else []), .bool (okPut xs x)]) := by
  refine con_of_VS sl_spec_PutPair (by simp) ?_
  refine VS_seq ?_
  refine VS_r0 rfl ?_
  refine q_box rfl rfl rfl trivial ?_
  refine q_mv rfl ?_
  refine q_mv rfl ?_
  refine rg_nil ?_
  refine VS_seq ?_
  refine VS_seq ?_
  refine VS_r0 rfl ?_
  refine q_mv rfl ?_
  refine q_callp (c_spec_validRow xs (by omega)) rfl trivial ?_
  refine q_not rfl ?_
  refine q_mv rfl ?_
  refine q_b rfl (fun g9 => ?_) (fun g9 => ?_)
  · try simp at g9
    refine q_t rfl ?_
    first | refine q_load_c rfl rfl rfl ?_ | refine q_load_ra rfl rfl rfl rfl rfl (by first | (simp; done) | (simp [setAt]; done)) rfl ?_
    refine q_t rfl ?_
    refine q_lit (xs := [pairP x]) rfl rfl rfl rfl ?_
    refine q_t rfl ?_
    refine q_callp ((c_spec_validRow [x] (by simp)).to (y := .bool (goodX x)) (by rw [goodR_one])) rfl trivial ?_
    refine q_t rfl ?_
    refine q_not rfl ?_
    refine q_pick_f rfl rfl ?_
    refine q_mv rfl ?_
    refine q_b rfl (fun g15 => ?_) (fun g15 => ?_)
    · try simp at g15
      refine q_t rfl ?_
      refine q_mv rfl ?_
      refine q_t rfl ?_
      first | refine q_load_c rfl rfl rfl ?_ | refine q_load_ra rfl rfl rfl rfl rfl (by first | (simp; done) | (simp [setAt]; done)) rfl ?_
      refine q_t rfl ?_
      refine q_new rfl (show NewS prog 84 43 2 [prs xs, pairP x] (dP (putR xs x)) from c_spec_put xs x.1 x.2 (by omega)) (flat_P _) (by first | rfl | (repeat' (first | exact toRs_nil | refine toRs_cons ?_ ?_ | rfl | exact toR_I rfl | exact toR_P rfl | refine toR_agg2 ?_ ?_ | refine toR_agg3 ?_ ?_ ?_))) trivial ?_
      refine q_t rfl ?_
      refine q_len_dm rfl ?_
      refine q_t rfl ?_
      refine q_gtr rfl rfl ?_
      refine q_pick_f rfl rfl ?_
      refine rg_nil ?_
      refine VS_cond rfl (fun c0 => ?_) (fun c0 => ?_)
      · try simp at c0
        refine VS_seq ?_
        refine VS_r0 rfl ?_
        refine q_mv rfl ?_
        refine q_mv rfl ?_
        refine rg_nil ?_
        refine VS_ret ?_
        have ho : okPut xs x = false := Bool.eq_false_iff.2 fun h => by rw [okPut_iff] at h; simp_all; try omega
        exact Bd.now ⟨_, rfl, by rw [ho]; rfl⟩
      · try simp at c0
        refine VS_skip ?_
        refine VS_seq ?_
        refine VS_r0 rfl ?_
        refine q_mv rfl ?_
        first | refine q_load_c rfl rfl rfl ?_ | refine q_load_ra rfl rfl rfl rfl rfl (by first | (simp; done) | (simp [setAt]; done)) rfl ?_
        refine q_new rfl (show NewS prog 84 43 2 [prs xs, pairP x] (dP (putR xs x)) from c_spec_put xs x.1 x.2 (by omega)) (flat_P _) (by first | rfl | (repeat' (first | exact toRs_nil | refine toRs_cons ?_ ?_ | rfl | exact toR_I rfl | exact toR_P rfl | refine toR_agg2 ?_ ?_ | refine toR_agg3 ?_ ?_ ?_))) trivial ?_
        refine q_mv rfl ?_
        refine q_mv rfl ?_
        refine rg_nil ?_
        refine VS_ret ?_
        have ho : okPut xs x = true := okPut_iff.2 ⟨by assumption, by assumption, by omega⟩
        refine Bd.pureB 4 2 43 2 (xs := dP (putR xs x)) rfl rfl (toPVs_dP _) ?_
        exact Bd.now ⟨_, rfl, by rw [ho]; rfl⟩
    · try simp at g15
      refine q_f rfl ?_
      refine q_f rfl ?_
      refine q_f rfl ?_
      refine q_f rfl ?_
      refine q_f rfl ?_
      refine q_pick_t rfl rfl ?_
      refine rg_nil ?_
      refine VS_cond rfl (fun _ => ?_) (fun e => by cases e)
      refine VS_seq ?_
      refine VS_r0 rfl ?_
      refine q_mv rfl ?_
      refine q_mv rfl ?_
      refine rg_nil ?_
      refine VS_ret ?_
      have ho : okPut xs x = false := Bool.eq_false_iff.2 fun h => by rw [okPut_iff] at h; simp_all; try omega
      exact Bd.now ⟨_, rfl, by rw [ho]; rfl⟩
  · try simp at g9
    refine q_f rfl ?_
    refine q_f rfl ?_
    refine q_f rfl ?_
    refine q_f rfl ?_
    refine q_pick_t rfl rfl ?_
    refine q_mv rfl ?_
    refine q_f rfl ?_
    refine q_f rfl ?_
    refine q_f rfl ?_
    refine q_f rfl ?_
    refine q_f rfl ?_
    refine q_pick_t rfl rfl ?_
    refine rg_nil ?_
    refine VS_cond rfl (fun _ => ?_) (fun e => by cases e)
    refine VS_seq ?_
    refine VS_r0 rfl ?_
    refine q_mv rfl ?_
    refine q_mv rfl ?_
    refine rg_nil ?_
    refine VS_ret ?_
    have ho : okPut xs x = false := Bool.eq_false_iff.2 fun h => by rw [okPut_iff] at h; simp_all; try omega
    exact Bd.now ⟨_, rfl, by rw [ho]; rfl⟩
theorem c_impl_dropFromRow (xs : List (Int × Int)) (k : Int) (hl : xs.length ≤ 1000000) (hg : goodKeys (keysR xs) = true) : PCon prog 64 [prs xs, i64 k] (fun p => p = .tup [prs (if thereR xs k then dropR xs k else xs), .bool (thereR xs k)]) := by
  refine con_of_VS sl_impl_dropFromRow (by simp) ?_
  refine VS_seq ?_
  refine VS_r0 rfl ?_
  refine q_mv rfl ?_
  refine q_mv rfl ?_
  refine rg_nil ?_
  refine VS_seq ?_
  refine VS_r0 rfl ?_
  refine q_mv rfl ?_
  refine q_mv rfl ?_
  refine q_callp (c_impl_placeInRow xs k (by omega) hg) rfl trivial ?_
  refine q_mv rfl ?_
  refine q_ext rfl rfl ?_
  refine q_ext rfl rfl ?_
  refine q_mv rfl ?_
  refine q_mv rfl ?_
  refine rg_nil ?_
  refine VS_seq ?_
  refine VS_r0 rfl ?_
  refine q_mv rfl ?_
  refine q_new rfl (c_slices_Clone_Pair xs (by omega)) (flat_P _) (by first | rfl | (repeat' (first | exact toRs_nil | refine toRs_cons ?_ ?_ | rfl | exact toR_I rfl | exact toR_P rfl | refine toR_agg2 ?_ ?_ | refine toR_agg3 ?_ ?_ ?_))) trivial ?_
  refine q_mv rfl ?_
  refine rg_nil ?_
  refine VS_seq ?_
  refine VS_seq ?_
  refine VS_r0 rfl ?_
  refine q_mv rfl ?_
  refine q_not rfl ?_
  refine rg_nil ?_
  refine VS_cond rfl (fun c0 => ?_) (fun c0 => ?_)
  · try simp at c0
    have ht : thereR xs k = false := by simpa using c0
    refine VS_seq ?_
    refine VS_r0 rfl ?_
    refine q_mv rfl ?_
    refine q_mv rfl ?_
    refine q_mv rfl ?_
    refine rg_nil ?_
    refine VS_ret ?_
    refine Bd.pureB 4 0 43 2 (xs := dP xs) rfl rfl (toPVs_dP _) ?_
    exact Bd.now ⟨_, rfl, by rw [ht]; rfl⟩
  · try simp at c0
    have ht : thereR xs k = true := by simpa using c0
    have hlt := (thereR_lt ht).1
    refine VS_skip ?_
    refine VS_seq ?_
    refine VS_r0 rfl ?_
    refine q_mv rfl ?_
    refine q_mv rfl ?_
    refine q_mv rfl ?_
    refine q_add rfl rfl (inR64 (by omega)) ?_
    refine q_del rfl (c_slices_Delete_Pair xs (atR xs k) (atR xs k + 1) (by omega) (by omega) (by omega)) (ne_map (by omega)) (dP_mp _) rfl rfl trivial ?_
    refine q_mv rfl ?_
    refine q_mv rfl ?_
    refine rg_nil ?_
    refine VS_ret ?_
    exact Bd.now ⟨_, rfl, by rw [ht]; rfl⟩
theorem c_impl_DropPair (xs : List (Int × Int)) (k : Int) (hl : xs.length ≤ 1000000) : PCon prog 29 [prs xs, i64 k] (fun p => p = .tup [prs (if okDrop xs k then dropR xs k else []), .bool (okDrop xs k)]) := by
  refine con_of_VS sl_impl_DropPair (by simp) ?_
  refine VS_seq ?_
  refine VS_r0 rfl ?_
  refine q_mv rfl ?_
  refine q_mv rfl ?_
  refine rg_nil ?_
  refine VS_seq ?_
  refine VS_seq ?_
  refine VS_r0 rfl ?_
  refine q_mv rfl ?_
  refine q_callp (c_impl_ValidRow _ (by first | omega | (simp; omega))) rfl trivial ?_
  refine q_not rfl ?_
  refine rg_nil ?_
  refine VS_cond rfl (fun c0 => ?_) (fun c0 => ?_)
  · try simp at c0
    refine VS_seq ?_
    refine VS_r0 rfl ?_
    refine q_mv rfl ?_
    refine q_mv rfl ?_
    refine rg_nil ?_
    refine VS_ret ?_
    have ho : okDrop xs k = false := by simp_all [okDrop]
    exact Bd.now ⟨_, rfl, by rw [ho]; rfl⟩
  · try simp at c0
    have l0 : goodR xs = true := by simp_all
    refine VS_skip ?_
    refine VS_seq ?_
    refine VS_r0 rfl ?_
    refine q_mv rfl ?_
    refine q_mv rfl ?_
    refine q_callp (c_impl_dropFromRow xs k (by omega) (goodR_keys l0)) rfl trivial ?_
    refine q_mv rfl ?_
    refine q_ext rfl rfl ?_
    refine q_ext rfl rfl ?_
    refine q_mv rfl ?_
    refine q_mv rfl ?_
    refine rg_nil ?_
    refine VS_seq ?_
    refine VS_seq ?_
    refine VS_r0 rfl ?_
    refine q_mv rfl ?_
    refine q_not rfl ?_
    refine rg_nil ?_
    refine VS_cond rfl (fun c1 => ?_) (fun c1 => ?_)
    · try simp at c1
      refine VS_seq ?_
      refine VS_r0 rfl ?_
      refine q_mv rfl ?_
      refine q_mv rfl ?_
      refine rg_nil ?_
      refine VS_ret ?_
      have ho : okDrop xs k = false := by simp_all [okDrop]
      exact Bd.now ⟨_, rfl, by rw [ho]; rfl⟩
    · try simp at c1
      refine VS_skip ?_
      refine VS_seq ?_
      refine VS_r0 rfl ?_
      refine q_mv rfl ?_
      refine q_mv rfl ?_
      refine q_mv rfl ?_
      refine rg_nil ?_
      refine VS_ret ?_
      have ho : okDrop xs k = true := by simp_all [okDrop]
      exact Bd.now ⟨_, rfl, by simp_all⟩
theorem c_spec_DropPair (xs : List (Int × Int)) (k : Int) (hl : xs.length ≤ 1000000) : PCon prog 30 [prs xs, i64 k] (fun p => p = .tup [prs (if okDrop xs k then dropR xs k else []), .bool (okDrop xs k)]) := by
  refine con_of_VS sl_spec_DropPair (by simp) ?_
  refine VS_seq ?_
  refine VS_r0 rfl ?_
  refine q_mv rfl ?_
  refine q_mv rfl ?_
  refine rg_nil ?_
  refine VS_seq ?_
  refine VS_seq ?_
  refine VS_r0 rfl ?_
  refine q_mv rfl ?_
  refine q_callp (c_spec_validRow _ (by first | omega | (simp; omega))) rfl trivial ?_
  refine q_not rfl ?_
  refine q_mv rfl ?_
  refine q_b rfl (fun g10 => ?_) (fun g10 => ?_)
  · try simp at g10
    refine q_t rfl ?_
    refine q_mv rfl ?_
    refine q_t rfl ?_
    refine q_callp (c_spec_keysOf _ (by first | omega | (simp; omega))) rfl trivial ?_
    refine q_t rfl ?_
    refine q_mv rfl ?_
    refine q_t rfl ?_
    refine q_callp (c_spec_isIn (keysR xs) k (by simp; omega)) rfl trivial ?_
    refine q_t rfl ?_
    refine q_not rfl ?_
    refine q_pick_f rfl rfl ?_
    refine rg_nil ?_
    refine VS_cond rfl (fun c0 => ?_) (fun c0 => ?_)
    · try simp at c0
      refine VS_seq ?_
      refine VS_r0 rfl ?_
      refine q_mv rfl ?_
      refine q_mv rfl ?_
      refine rg_nil ?_
      refine VS_ret ?_
      have ho : okDrop xs k = false := Bool.eq_false_iff.2 fun h => by rw [okDrop_iff] at h; have h3 := h.2; rw [← there_contains (goodR_keys h.1)] at h3; simp_all
      exact Bd.now ⟨_, rfl, by rw [ho]; rfl⟩
    · try simp at c0
      have l0 : goodR xs = true := by simp_all
      have ht : thereR xs k = true := by rw [← there_contains (goodR_keys l0)]; simp_all
      have hlt := (thereR_lt ht).1
      refine VS_skip ?_
      refine VS_seq ?_
      refine VS_r0 rfl ?_
      refine q_mv rfl ?_
      refine q_callp (c_spec_keysOf _ (by first | omega | (simp; omega))) rfl trivial ?_
      refine q_mv rfl ?_
      refine q_callp ((c_spec_below (keysR xs) k (by simp; omega)).to (y := i64 (atR xs k)) rfl) rfl trivial ?_
      refine q_mv rfl ?_
      refine rg_nil ?_
      refine VS_seq ?_
      refine VS_r2 [] hmix Sub.nil ?_
      refine q_mv rfl ?_
      refine q_mv rfl ?_
      refine q_slc_m (xs := xs) (f := pairP) 0 (atR xs k) rfl rfl rfl ⟨rfl, rfl, by omega, by omega⟩ (fun _ => rfl) ?_
      refine q_mv rfl ?_
      refine q_mv rfl ?_
      refine q_add rfl rfl (inR64 (by omega)) ?_
      refine q_slc_m (xs := xs) (f := pairP) (atR xs k + 1) xs.length rfl rfl rfl ⟨rfl, by simp, by omega, by omega⟩ (fun _ => rfl) ?_
      refine q_new rfl (c_spec_copyRow ((xs.take (atR xs k)).drop 0) (by simp; omega)) (flat_P _) (by first | rfl | (repeat' (first | exact toRs_nil | refine toRs_cons ?_ ?_ | rfl | exact toR_I rfl | exact toR_P rfl | refine toR_agg2 ?_ ?_ | refine toR_agg3 ?_ ?_ ?_))) (by first | exact trivial | exact Sub.nil | exact Sub.refl _ | exact Sub.app _ _ | exact SubL.sub (by repeat (first | exact SubL.nil | apply SubL.none | apply SubL.some | apply SubL.sh | apply SubL.eq)) | (refine Sub.of_eq ?_; intro o ob h; rcases o with _ | _ | _ | _ | _ | o <;> simp_all)) ?_
      refine q_app_dm (xs := (xs.take (atR xs k)).drop 0) (ys := (xs.take xs.length).drop (atR xs k + 1)) (f := fun k => .pv (pairP k)) rfl (elems_P _) (cell_P _) rfl ⟨by simp; omega, by simp; omega⟩ (by first | exact trivial | exact Sub.nil | exact Sub.refl _ | exact Sub.app _ _ | exact SubL.sub (by repeat (first | exact SubL.nil | apply SubL.none | apply SubL.some | apply SubL.sh | apply SubL.eq)) | (refine Sub.of_eq ?_; intro o ob h; rcases o with _ | _ | _ | _ | _ | o <;> simp_all)) ?_
      refine q_mv rfl ?_
      refine q_mv rfl ?_
      refine rg_nil ?_
      refine VS_ret ?_
      have ho : okDrop xs k = true := okDrop_iff.2 ⟨l0, ht⟩
      refine Bd.pureB 4 1 43 2 (xs := dP ((xs.take (atR xs k)).drop 0 ++ (xs.take xs.length).drop (atR xs k + 1))) rfl rfl (toPVs_dP _) ?_
      exact Bd.now ⟨_, rfl, by rw [ho]; simp [dropR]⟩
  · try simp at g10
    refine q_f rfl ?_
    refine q_f rfl ?_
    refine q_f rfl ?_
    refine q_f rfl ?_
    refine q_f rfl ?_
    refine q_pick_t rfl rfl ?_
    refine rg_nil ?_
    refine VS_cond rfl (fun _ => ?_) (fun e => by cases e)
    refine VS_seq ?_
    refine VS_r0 rfl ?_
    refine q_mv rfl ?_
    refine q_mv rfl ?_
    refine rg_nil ?_
    refine VS_ret ?_
    have ho : okDrop xs k = false := Bool.eq_false_iff.2 fun h => by rw [okDrop_iff] at h; have h3 := h.2; rw [← there_contains (goodR_keys h.1)] at h3; simp_all
    exact Bd.now ⟨_, rfl, by rw [ho]; rfl⟩
end Go.V

set_option maxHeartbeats 4000000
namespace Go.V
open Go.Proofs.Try (prog)
theorem c_impl_AddKid (ks cs : List Int) (m : Nat) (k c : Int) (hk : ks.length ≤ 1000000) (hc : cs.length ≤ 1000000) (hm : m ≤ 1000000) : PCon prog 38 [innP ks cs, i64 m, i64 k, i64 c] (fun p => p = addR ks cs m k c) := by
  refine con_of_VS sl_impl_AddKid (by simp) ?_
  refine VS_seq ?_
  refine VS_r0 rfl ?_
  refine q_box rfl rfl rfl trivial ?_
  refine q_alloc trivial ?_
  refine q_mv rfl ?_
  refine rg_nil ?_
  refine VS_seq ?_
  refine VS_seq ?_
  refine VS_r0 rfl ?_
  first | refine q_load_c rfl rfl rfl ?_ | refine q_load_ra rfl rfl rfl rfl rfl (by first | (simp; done) | (simp [setAt]; done)) rfl ?_
  refine q_callp (c_impl_ValidInner ks cs (by omega) (by omega)) rfl trivial ?_
  refine q_not rfl ?_
  refine q_mv rfl ?_
  refine q_b rfl (fun g14 => ?_) (fun g14 => ?_)
  · try simp at g14
    refine q_t rfl ?_
    refine q_mv rfl ?_
    refine q_t rfl ?_
    refine q_lss rfl rfl ?_
    refine q_pick_f rfl rfl ?_
    refine q_mv rfl ?_
    refine q_b rfl (fun g18 => ?_) (fun g18 => ?_)
    · try simp at g18
      refine q_t rfl ?_
      refine q_mv rfl ?_
      refine q_t rfl ?_
      first | refine q_fld_r rfl ?_ | refine q_fld_c rfl rfl ?_
      refine q_t rfl ?_
      first | refine q_load_c rfl rfl rfl ?_ | refine q_load_r rfl rfl rfl rfl rfl rfl rfl ?_ | refine q_load_o rfl rfl rfl rfl rfl ?_
      refine q_t rfl ?_
      first | refine q_len_m rfl ?_ | refine q_len_s rfl ?_ | refine q_len_o rfl ?_ | refine q_len_n rfl ?_ | refine q_len_x rfl ?_
      refine q_t rfl ?_
      refine q_geq rfl rfl ?_
      refine q_pick_f rfl rfl ?_
      refine rg_nil ?_
      refine VS_cond rfl (fun c0 => ?_) (fun c0 => ?_)
      · try simp at c0
        refine VS_seq ?_
        refine VS_r0 rfl ?_
        refine q_build rfl ?_
        first | refine q_store rfl rfl rfl rfl rfl rfl ⟨rfl, rfl, by simp, rfl, by simp [isOne]⟩ rfl trivial ?_ | refine q_storeF rfl rfl rfl rfl rfl (by simp) trivial ?_ | refine q_store rfl rfl rfl rfl rfl rfl ⟨rfl, rfl, by simp, by simp [setAt, isCell_own, isCell_sl, isCell_int, isCell_nils], by simp [isOne]⟩ rfl trivial ?_
        refine q_mv rfl ?_
        refine rg_nil ?_
        refine VS_ret ?_
        have hok : okAdd ks cs m k c = false := Bool.eq_false_iff.2 fun h => by rw [okAdd_iff] at h; have h1 := h.1; have h2 := h.2.1; have h3 := h.2.2; simp_all; try omega
        exact Bd.now ⟨_, rfl, by rw [addR_f hok]; rfl⟩
      · try simp at c0
        have l0 : goodInner ks cs = true := by simp_all
        have hl := goodInner_len l0
        have l1 : m < cs.length := by simp_all; try omega
        refine VS_skip ?_
        refine VS_join (fun E S => E = env [(4, .ptr 0 0 0), (8, .ptr 1 0 0), (10, .ptr 2 0 0)] ∧ S = [some ⟨25, 2, [.pv (innP ks cs)]⟩, some ⟨25, 2, [.agg [.nils, .nils]]⟩, some ⟨25, 2, [.agg [.pv (ints (addA ks m k)), .pv (ints (addB cs m c))]]⟩]) ?_ ?_
        · skip
          refine VS_r2 [some ⟨25, 2, [.pv (innP ks cs)]⟩] hmix (SubL.sub (by repeat (first | exact SubL.nil | apply SubL.none | apply SubL.some | apply SubL.sh | apply SubL.eq))) ?_
          first | refine q_fld_r rfl ?_ | refine q_fld_c rfl rfl ?_
          first | refine q_load_c rfl rfl rfl ?_ | refine q_load_r rfl rfl rfl rfl rfl rfl rfl ?_ | refine q_load_o rfl rfl rfl rfl rfl ?_
          refine q_mv rfl ?_
          refine q_mv rfl ?_
          refine q_lit (xs := [i64 k]) rfl rfl rfl rfl ?_
          first | refine q_fld_r rfl ?_ | refine q_fld_c rfl rfl ?_
          first | refine q_load_c rfl rfl rfl ?_ | refine q_load_r rfl rfl rfl rfl rfl rfl rfl ?_ | refine q_load_o rfl rfl rfl rfl rfl ?_
          refine q_mv rfl ?_
          refine q_add rfl rfl (inR64 (by omega)) ?_
          refine q_mv rfl ?_
          refine q_lit (xs := [i64 c]) rfl rfl rfl rfl ?_
          refine q_or ?_ ?_
          · skip
            refine q_new rfl (c_slices_Clone_int ks (by omega)) (flat_I _) (by first | rfl | (repeat' (first | exact toRs_nil | refine toRs_cons ?_ ?_ | rfl | exact toR_I rfl | exact toR_P rfl | refine toR_agg2 ?_ ?_ | refine toR_agg3 ?_ ?_ ?_))) (by first | exact trivial | exact Sub.nil | exact Sub.refl _ | exact Sub.app _ _ | exact SubL.sub (by repeat (first | exact SubL.nil | apply SubL.none | apply SubL.some | apply SubL.sh | apply SubL.eq)) | (refine Sub.of_eq ?_; intro o ob h; rcases o with _ | _ | _ | _ | _ | o <;> simp_all)) ?_
            refine q_or ?_ ?_
            · skip
              refine q_ins rfl (ins_use_int (ks) (m) ([k]) (by omega) (by simp) (by simp) (by omega)).1 (ins_use_int (ks) (m) ([k]) (by omega) (by simp) (by simp) (by omega)).2 (dI_mp _) rfl rfl (by first | exact trivial | exact Sub.nil | exact Sub.refl _ | exact Sub.app _ _ | exact SubL.sub (by repeat (first | exact SubL.nil | apply SubL.none | apply SubL.some | apply SubL.sh | apply SubL.eq)) | (refine Sub.of_eq ?_; intro o ob h; rcases o with _ | _ | _ | _ | _ | o <;> simp_all)) ?_
              refine q_or ?_ ?_
              · skip
                refine q_new rfl (c_slices_Clone_int cs (by omega)) (flat_I _) (by first | rfl | (repeat' (first | exact toRs_nil | refine toRs_cons ?_ ?_ | rfl | exact toR_I rfl | exact toR_P rfl | refine toR_agg2 ?_ ?_ | refine toR_agg3 ?_ ?_ ?_))) (by first | exact trivial | exact Sub.nil | exact Sub.refl _ | exact Sub.app _ _ | exact SubL.sub (by repeat (first | exact SubL.nil | apply SubL.none | apply SubL.some | apply SubL.sh | apply SubL.eq)) | (refine Sub.of_eq ?_; intro o ob h; rcases o with _ | _ | _ | _ | _ | o <;> simp_all)) ?_
                refine q_or ?_ ?_
                · skip
                  refine q_ins rfl (ins_use_int (cs) (m + 1) ([c]) (by omega) (by simp) (by simp) (by omega)).1 (ins_use_int (cs) (m + 1) ([c]) (by omega) (by simp) (by simp) (by omega)).2 (dI_mp _) rfl rfl (by first | exact trivial | exact Sub.nil | exact Sub.refl _ | exact Sub.app _ _ | exact SubL.sub (by repeat (first | exact SubL.nil | apply SubL.none | apply SubL.some | apply SubL.sh | apply SubL.eq)) | (refine Sub.of_eq ?_; intro o ob h; rcases o with _ | _ | _ | _ | _ | o <;> simp_all)) ?_
                  refine q_build rfl ?_
                  refine q_alloc (by first | exact trivial | exact Sub.nil | exact Sub.refl _ | exact Sub.app _ _ | exact SubL.sub (by repeat (first | exact SubL.nil | apply SubL.none | apply SubL.some | apply SubL.sh | apply SubL.eq)) | (refine Sub.of_eq ?_; intro o ob h; rcases o with _ | _ | _ | _ | _ | o <;> simp_all)) ?_
                  refine q_last ?_
                  first | refine q_store rfl rfl rfl rfl rfl rfl ⟨rfl, rfl, by simp, rfl, by simp [isOne]⟩ rfl (by first | exact trivial | exact Sub.nil | exact Sub.refl _ | exact Sub.app _ _ | exact SubL.sub (by repeat (first | exact SubL.nil | apply SubL.none | apply SubL.some | apply SubL.sh | apply SubL.eq)) | (refine Sub.of_eq ?_; intro o ob h; rcases o with _ | _ | _ | _ | _ | o <;> simp_all)) ?_ | refine q_storeF rfl rfl rfl rfl rfl (by simp) (by first | exact trivial | exact Sub.nil | exact Sub.refl _ | exact Sub.app _ _ | exact SubL.sub (by repeat (first | exact SubL.nil | apply SubL.none | apply SubL.some | apply SubL.sh | apply SubL.eq)) | (refine Sub.of_eq ?_; intro o ob h; rcases o with _ | _ | _ | _ | _ | o <;> simp_all)) ?_ | refine q_store rfl rfl rfl rfl rfl rfl ⟨rfl, rfl, by simp, by simp [setAt, isCell_own, isCell_sl, isCell_int, isCell_nils], by simp [isOne]⟩ rfl (by first | exact trivial | exact Sub.nil | exact Sub.refl _ | exact Sub.app _ _ | exact SubL.sub (by repeat (first | exact SubL.nil | apply SubL.none | apply SubL.some | apply SubL.sh | apply SubL.eq)) | (refine Sub.of_eq ?_; intro o ob h; rcases o with _ | _ | _ | _ | _ | o <;> simp_all)) ?_
                  refine rg_nil ?_
                  first
                    | (refine Bd.renL [0, 1, 6] (fun i hi => by first | (exact absurd hi (Nat.not_lt_zero i)) | (have e : i = 0 := (by simp at hi; omega); subst e; rfl) | (have e : i = 0 ∨ i = 1 := (by simp at hi; omega); rcases e with rfl | rfl <;> rfl)) (by simp) [(4, .ptr 0 0 0), (8, .ptr 1 0 0), (10, .ptr 2 0 0)] ⟨rfl, rfl, rfl, trivial⟩ rfl ?_; exact ⟨rfl, rfl⟩)
                    | (refine Bd.renL [0, 1, 5] (fun i hi => by first | (exact absurd hi (Nat.not_lt_zero i)) | (have e : i = 0 := (by simp at hi; omega); subst e; rfl) | (have e : i = 0 ∨ i = 1 := (by simp at hi; omega); rcases e with rfl | rfl <;> rfl)) (by simp) [(4, .ptr 0 0 0), (8, .ptr 1 0 0), (10, .ptr 2 0 0)] ⟨rfl, rfl, rfl, trivial⟩ rfl ?_; exact ⟨rfl, rfl⟩)
                    | (refine Bd.renL [0, 1, 4] (fun i hi => by first | (exact absurd hi (Nat.not_lt_zero i)) | (have e : i = 0 := (by simp at hi; omega); subst e; rfl) | (have e : i = 0 ∨ i = 1 := (by simp at hi; omega); rcases e with rfl | rfl <;> rfl)) (by simp) [(4, .ptr 0 0 0), (8, .ptr 1 0 0), (10, .ptr 2 0 0)] ⟨rfl, rfl, rfl, trivial⟩ rfl ?_; exact ⟨rfl, rfl⟩)
                    | (refine Bd.renL [0, 1, 3] (fun i hi => by first | (exact absurd hi (Nat.not_lt_zero i)) | (have e : i = 0 := (by simp at hi; omega); subst e; rfl) | (have e : i = 0 ∨ i = 1 := (by simp at hi; omega); rcases e with rfl | rfl <;> rfl)) (by simp) [(4, .ptr 0 0 0), (8, .ptr 1 0 0), (10, .ptr 2 0 0)] ⟨rfl, rfl, rfl, trivial⟩ rfl ?_; exact ⟨rfl, rfl⟩)
                    | (refine Bd.renL [0, 1, 2] (fun i hi => by first | (exact absurd hi (Nat.not_lt_zero i)) | (have e : i = 0 := (by simp at hi; omega); subst e; rfl) | (have e : i = 0 ∨ i = 1 := (by simp at hi; omega); rcases e with rfl | rfl <;> rfl)) (by simp) [(4, .ptr 0 0 0), (8, .ptr 1 0 0), (10, .ptr 2 0 0)] ⟨rfl, rfl, rfl, trivial⟩ rfl ?_; exact ⟨rfl, rfl⟩)
                · skip
                  refine q_alloc (by first | exact trivial | exact Sub.nil | exact Sub.refl _ | exact Sub.app _ _ | exact SubL.sub (by repeat (first | exact SubL.nil | apply SubL.none | apply SubL.some | apply SubL.sh | apply SubL.eq)) | (refine Sub.of_eq ?_; intro o ob h; rcases o with _ | _ | _ | _ | _ | o <;> simp_all)) ?_
                  refine q_ins rfl (ins_use_int (cs) (m + 1) ([c]) (by omega) (by simp) (by simp) (by omega)).1 (ins_use_int (cs) (m + 1) ([c]) (by omega) (by simp) (by simp) (by omega)).2 (dI_mp _) rfl rfl (by first | exact trivial | exact Sub.nil | exact Sub.refl _ | exact Sub.app _ _ | exact SubL.sub (by repeat (first | exact SubL.nil | apply SubL.none | apply SubL.some | apply SubL.sh | apply SubL.eq)) | (refine Sub.of_eq ?_; intro o ob h; rcases o with _ | _ | _ | _ | _ | o <;> simp_all)) ?_
                  refine q_build rfl ?_
                  refine q_last ?_
                  first | refine q_store rfl rfl rfl rfl rfl rfl ⟨rfl, rfl, by simp, rfl, by simp [isOne]⟩ rfl (by first | exact trivial | exact Sub.nil | exact Sub.refl _ | exact Sub.app _ _ | exact SubL.sub (by repeat (first | exact SubL.nil | apply SubL.none | apply SubL.some | apply SubL.sh | apply SubL.eq)) | (refine Sub.of_eq ?_; intro o ob h; rcases o with _ | _ | _ | _ | _ | o <;> simp_all)) ?_ | refine q_storeF rfl rfl rfl rfl rfl (by simp) (by first | exact trivial | exact Sub.nil | exact Sub.refl _ | exact Sub.app _ _ | exact SubL.sub (by repeat (first | exact SubL.nil | apply SubL.none | apply SubL.some | apply SubL.sh | apply SubL.eq)) | (refine Sub.of_eq ?_; intro o ob h; rcases o with _ | _ | _ | _ | _ | o <;> simp_all)) ?_ | refine q_store rfl rfl rfl rfl rfl rfl ⟨rfl, rfl, by simp, by simp [setAt, isCell_own, isCell_sl, isCell_int, isCell_nils], by simp [isOne]⟩ rfl (by first | exact trivial | exact Sub.nil | exact Sub.refl _ | exact Sub.app _ _ | exact SubL.sub (by repeat (first | exact SubL.nil | apply SubL.none | apply SubL.some | apply SubL.sh | apply SubL.eq)) | (refine Sub.of_eq ?_; intro o ob h; rcases o with _ | _ | _ | _ | _ | o <;> simp_all)) ?_
                  refine rg_nil ?_
                  first
                    | (refine Bd.renL [0, 1, 6] (fun i hi => by first | (exact absurd hi (Nat.not_lt_zero i)) | (have e : i = 0 := (by simp at hi; omega); subst e; rfl) | (have e : i = 0 ∨ i = 1 := (by simp at hi; omega); rcases e with rfl | rfl <;> rfl)) (by simp) [(4, .ptr 0 0 0), (8, .ptr 1 0 0), (10, .ptr 2 0 0)] ⟨rfl, rfl, rfl, trivial⟩ rfl ?_; exact ⟨rfl, rfl⟩)
                    | (refine Bd.renL [0, 1, 5] (fun i hi => by first | (exact absurd hi (Nat.not_lt_zero i)) | (have e : i = 0 := (by simp at hi; omega); subst e; rfl) | (have e : i = 0 ∨ i = 1 := (by simp at hi; omega); rcases e with rfl | rfl <;> rfl)) (by simp) [(4, .ptr 0 0 0), (8, .ptr 1 0 0), (10, .ptr 2 0 0)] ⟨rfl, rfl, rfl, trivial⟩ rfl ?_; exact ⟨rfl, rfl⟩)
                    | (refine Bd.renL [0, 1, 4] (fun i hi => by first | (exact absurd hi (Nat.not_lt_zero i)) | (have e : i = 0 := (by simp at hi; omega); subst e; rfl) | (have e : i = 0 ∨ i = 1 := (by simp at hi; omega); rcases e with rfl | rfl <;> rfl)) (by simp) [(4, .ptr 0 0 0), (8, .ptr 1 0 0), (10, .ptr 2 0 0)] ⟨rfl, rfl, rfl, trivial⟩ rfl ?_; exact ⟨rfl, rfl⟩)
                    | (refine Bd.renL [0, 1, 3] (fun i hi => by first | (exact absurd hi (Nat.not_lt_zero i)) | (have e : i = 0 := (by simp at hi; omega); subst e; rfl) | (have e : i = 0 ∨ i = 1 := (by simp at hi; omega); rcases e with rfl | rfl <;> rfl)) (by simp) [(4, .ptr 0 0 0), (8, .ptr 1 0 0), (10, .ptr 2 0 0)] ⟨rfl, rfl, rfl, trivial⟩ rfl ?_; exact ⟨rfl, rfl⟩)
                    | (refine Bd.renL [0, 1, 2] (fun i hi => by first | (exact absurd hi (Nat.not_lt_zero i)) | (have e : i = 0 := (by simp at hi; omega); subst e; rfl) | (have e : i = 0 ∨ i = 1 := (by simp at hi; omega); rcases e with rfl | rfl <;> rfl)) (by simp) [(4, .ptr 0 0 0), (8, .ptr 1 0 0), (10, .ptr 2 0 0)] ⟨rfl, rfl, rfl, trivial⟩ rfl ?_; exact ⟨rfl, rfl⟩)
              · skip
                refine q_alloc (by first | exact trivial | exact Sub.nil | exact Sub.refl _ | exact Sub.app _ _ | exact SubL.sub (by repeat (first | exact SubL.nil | apply SubL.none | apply SubL.some | apply SubL.sh | apply SubL.eq)) | (refine Sub.of_eq ?_; intro o ob h; rcases o with _ | _ | _ | _ | _ | o <;> simp_all)) ?_
                refine q_new rfl (c_slices_Clone_int cs (by omega)) (flat_I _) (by first | rfl | (repeat' (first | exact toRs_nil | refine toRs_cons ?_ ?_ | rfl | exact toR_I rfl | exact toR_P rfl | refine toR_agg2 ?_ ?_ | refine toR_agg3 ?_ ?_ ?_))) (by first | exact trivial | exact Sub.nil | exact Sub.refl _ | exact Sub.app _ _ | exact SubL.sub (by repeat (first | exact SubL.nil | apply SubL.none | apply SubL.some | apply SubL.sh | apply SubL.eq)) | (refine Sub.of_eq ?_; intro o ob h; rcases o with _ | _ | _ | _ | _ | o <;> simp_all)) ?_
                refine q_ins rfl (ins_use_int (cs) (m + 1) ([c]) (by omega) (by simp) (by simp) (by omega)).1 (ins_use_int (cs) (m + 1) ([c]) (by omega) (by simp) (by simp) (by omega)).2 (dI_mp _) rfl rfl (by first | exact trivial | exact Sub.nil | exact Sub.refl _ | exact Sub.app _ _ | exact SubL.sub (by repeat (first | exact SubL.nil | apply SubL.none | apply SubL.some | apply SubL.sh | apply SubL.eq)) | (refine Sub.of_eq ?_; intro o ob h; rcases o with _ | _ | _ | _ | _ | o <;> simp_all)) ?_
                refine q_build rfl ?_
                refine q_last ?_
                first | refine q_store rfl rfl rfl rfl rfl rfl ⟨rfl, rfl, by simp, rfl, by simp [isOne]⟩ rfl (by first | exact trivial | exact Sub.nil | exact Sub.refl _ | exact Sub.app _ _ | exact SubL.sub (by repeat (first | exact SubL.nil | apply SubL.none | apply SubL.some | apply SubL.sh | apply SubL.eq)) | (refine Sub.of_eq ?_; intro o ob h; rcases o with _ | _ | _ | _ | _ | o <;> simp_all)) ?_ | refine q_storeF rfl rfl rfl rfl rfl (by simp) (by first | exact trivial | exact Sub.nil | exact Sub.refl _ | exact Sub.app _ _ | exact SubL.sub (by repeat (first | exact SubL.nil | apply SubL.none | apply SubL.some | apply SubL.sh | apply SubL.eq)) | (refine Sub.of_eq ?_; intro o ob h; rcases o with _ | _ | _ | _ | _ | o <;> simp_all)) ?_ | refine q_store rfl rfl rfl rfl rfl rfl ⟨rfl, rfl, by simp, by simp [setAt, isCell_own, isCell_sl, isCell_int, isCell_nils], by simp [isOne]⟩ rfl (by first | exact trivial | exact Sub.nil | exact Sub.refl _ | exact Sub.app _ _ | exact SubL.sub (by repeat (first | exact SubL.nil | apply SubL.none | apply SubL.some | apply SubL.sh | apply SubL.eq)) | (refine Sub.of_eq ?_; intro o ob h; rcases o with _ | _ | _ | _ | _ | o <;> simp_all)) ?_
                refine rg_nil ?_
                first
                  | (refine Bd.renL [0, 1, 6] (fun i hi => by first | (exact absurd hi (Nat.not_lt_zero i)) | (have e : i = 0 := (by simp at hi; omega); subst e; rfl) | (have e : i = 0 ∨ i = 1 := (by simp at hi; omega); rcases e with rfl | rfl <;> rfl)) (by simp) [(4, .ptr 0 0 0), (8, .ptr 1 0 0), (10, .ptr 2 0 0)] ⟨rfl, rfl, rfl, trivial⟩ rfl ?_; exact ⟨rfl, rfl⟩)
                  | (refine Bd.renL [0, 1, 5] (fun i hi => by first | (exact absurd hi (Nat.not_lt_zero i)) | (have e : i = 0 := (by simp at hi; omega); subst e; rfl) | (have e : i = 0 ∨ i = 1 := (by simp at hi; omega); rcases e with rfl | rfl <;> rfl)) (by simp) [(4, .ptr 0 0 0), (8, .ptr 1 0 0), (10, .ptr 2 0 0)] ⟨rfl, rfl, rfl, trivial⟩ rfl ?_; exact ⟨rfl, rfl⟩)
                  | (refine Bd.renL [0, 1, 4] (fun i hi => by first | (exact absurd hi (Nat.not_lt_zero i)) | (have e : i = 0 := (by simp at hi; omega); subst e; rfl) | (have e : i = 0 ∨ i = 1 := (by simp at hi; omega); rcases e with rfl | rfl <;> rfl)) (by simp) [(4, .ptr 0 0 0), (8, .ptr 1 0 0), (10, .ptr 2 0 0)] ⟨rfl, rfl, rfl, trivial⟩ rfl ?_; exact ⟨rfl, rfl⟩)
                  | (refine Bd.renL [0, 1, 3] (fun i hi => by first | (exact absurd hi (Nat.not_lt_zero i)) | (have e : i = 0 := (by simp at hi; omega); subst e; rfl) | (have e : i = 0 ∨ i = 1 := (by simp at hi; omega); rcases e with rfl | rfl <;> rfl)) (by simp) [(4, .ptr 0 0 0), (8, .ptr 1 0 0), (10, .ptr 2 0 0)] ⟨rfl, rfl, rfl, trivial⟩ rfl ?_; exact ⟨rfl, rfl⟩)
                  | (refine Bd.renL [0, 1, 2] (fun i hi => by first | (exact absurd hi (Nat.not_lt_zero i)) | (have e : i = 0 := (by simp at hi; omega); subst e; rfl) | (have e : i = 0 ∨ i = 1 := (by simp at hi; omega); rcases e with rfl | rfl <;> rfl)) (by simp) [(4, .ptr 0 0 0), (8, .ptr 1 0 0), (10, .ptr 2 0 0)] ⟨rfl, rfl, rfl, trivial⟩ rfl ?_; exact ⟨rfl, rfl⟩)
            · skip
              refine q_alloc (by first | exact trivial | exact Sub.nil | exact Sub.refl _ | exact Sub.app _ _ | exact SubL.sub (by repeat (first | exact SubL.nil | apply SubL.none | apply SubL.some | apply SubL.sh | apply SubL.eq)) | (refine Sub.of_eq ?_; intro o ob h; rcases o with _ | _ | _ | _ | _ | o <;> simp_all)) ?_
              refine q_ins rfl (ins_use_int (ks) (m) ([k]) (by omega) (by simp) (by simp) (by omega)).1 (ins_use_int (ks) (m) ([k]) (by omega) (by simp) (by simp) (by omega)).2 (dI_mp _) rfl rfl (by first | exact trivial | exact Sub.nil | exact Sub.refl _ | exact Sub.app _ _ | exact SubL.sub (by repeat (first | exact SubL.nil | apply SubL.none | apply SubL.some | apply SubL.sh | apply SubL.eq)) | (refine Sub.of_eq ?_; intro o ob h; rcases o with _ | _ | _ | _ | _ | o <;> simp_all)) ?_
              refine q_new rfl (c_slices_Clone_int cs (by omega)) (flat_I _) (by first | rfl | (repeat' (first | exact toRs_nil | refine toRs_cons ?_ ?_ | rfl | exact toR_I rfl | exact toR_P rfl | refine toR_agg2 ?_ ?_ | refine toR_agg3 ?_ ?_ ?_))) (by first | exact trivial | exact Sub.nil | exact Sub.refl _ | exact Sub.app _ _ | exact SubL.sub (by repeat (first | exact SubL.nil | apply SubL.none | apply SubL.some | apply SubL.sh | apply SubL.eq)) | (refine Sub.of_eq ?_; intro o ob h; rcases o with _ | _ | _ | _ | _ | o <;> simp_all)) ?_
              refine q_ins rfl (ins_use_int (cs) (m + 1) ([c]) (by omega) (by simp) (by simp) (by omega)).1 (ins_use_int (cs) (m + 1) ([c]) (by omega) (by simp) (by simp) (by omega)).2 (dI_mp _) rfl rfl (by first | exact trivial | exact Sub.nil | exact Sub.refl _ | exact Sub.app _ _ | exact SubL.sub (by repeat (first | exact SubL.nil | apply SubL.none | apply SubL.some | apply SubL.sh | apply SubL.eq)) | (refine Sub.of_eq ?_; intro o ob h; rcases o with _ | _ | _ | _ | _ | o <;> simp_all)) ?_
              refine q_build rfl ?_
              refine q_last ?_
              first | refine q_store rfl rfl rfl rfl rfl rfl ⟨rfl, rfl, by simp, rfl, by simp [isOne]⟩ rfl (by first | exact trivial | exact Sub.nil | exact Sub.refl _ | exact Sub.app _ _ | exact SubL.sub (by repeat (first | exact SubL.nil | apply SubL.none | apply SubL.some | apply SubL.sh | apply SubL.eq)) | (refine Sub.of_eq ?_; intro o ob h; rcases o with _ | _ | _ | _ | _ | o <;> simp_all)) ?_ | refine q_storeF rfl rfl rfl rfl rfl (by simp) (by first | exact trivial | exact Sub.nil | exact Sub.refl _ | exact Sub.app _ _ | exact SubL.sub (by repeat (first | exact SubL.nil | apply SubL.none | apply SubL.some | apply SubL.sh | apply SubL.eq)) | (refine Sub.of_eq ?_; intro o ob h; rcases o with _ | _ | _ | _ | _ | o <;> simp_all)) ?_ | refine q_store rfl rfl rfl rfl rfl rfl ⟨rfl, rfl, by simp, by simp [setAt, isCell_own, isCell_sl, isCell_int, isCell_nils], by simp [isOne]⟩ rfl (by first | exact trivial | exact Sub.nil | exact Sub.refl _ | exact Sub.app _ _ | exact SubL.sub (by repeat (first | exact SubL.nil | apply SubL.none | apply SubL.some | apply SubL.sh | apply SubL.eq)) | (refine Sub.of_eq ?_; intro o ob h; rcases o with _ | _ | _ | _ | _ | o <;> simp_all)) ?_
              refine rg_nil ?_
              first
                | (refine Bd.renL [0, 1, 6] (fun i hi => by first | (exact absurd hi (Nat.not_lt_zero i)) | (have e : i = 0 := (by simp at hi; omega); subst e; rfl) | (have e : i = 0 ∨ i = 1 := (by simp at hi; omega); rcases e with rfl | rfl <;> rfl)) (by simp) [(4, .ptr 0 0 0), (8, .ptr 1 0 0), (10, .ptr 2 0 0)] ⟨rfl, rfl, rfl, trivial⟩ rfl ?_; exact ⟨rfl, rfl⟩)
                | (refine Bd.renL [0, 1, 5] (fun i hi => by first | (exact absurd hi (Nat.not_lt_zero i)) | (have e : i = 0 := (by simp at hi; omega); subst e; rfl) | (have e : i = 0 ∨ i = 1 := (by simp at hi; omega); rcases e with rfl | rfl <;> rfl)) (by simp) [(4, .ptr 0 0 0), (8, .ptr 1 0 0), (10, .ptr 2 0 0)] ⟨rfl, rfl, rfl, trivial⟩ rfl ?_; exact ⟨rfl, rfl⟩)
                | (refine Bd.renL [0, 1, 4] (fun i hi => by first | (exact absurd hi (Nat.not_lt_zero i)) | (have e : i = 0 := (by simp at hi; omega); subst e; rfl) | (have e : i = 0 ∨ i = 1 := (by simp at hi; omega); rcases e with rfl | rfl <;> rfl)) (by simp) [(4, .ptr 0 0 0), (8, .ptr 1 0 0), (10, .ptr 2 0 0)] ⟨rfl, rfl, rfl, trivial⟩ rfl ?_; exact ⟨rfl, rfl⟩)
                | (refine Bd.renL [0, 1, 3] (fun i hi => by first | (exact absurd hi (Nat.not_lt_zero i)) | (have e : i = 0 := (by simp at hi; omega); subst e; rfl) | (have e : i = 0 ∨ i = 1 := (by simp at hi; omega); rcases e with rfl | rfl <;> rfl)) (by simp) [(4, .ptr 0 0 0), (8, .ptr 1 0 0), (10, .ptr 2 0 0)] ⟨rfl, rfl, rfl, trivial⟩ rfl ?_; exact ⟨rfl, rfl⟩)
                | (refine Bd.renL [0, 1, 2] (fun i hi => by first | (exact absurd hi (Nat.not_lt_zero i)) | (have e : i = 0 := (by simp at hi; omega); subst e; rfl) | (have e : i = 0 ∨ i = 1 := (by simp at hi; omega); rcases e with rfl | rfl <;> rfl)) (by simp) [(4, .ptr 0 0 0), (8, .ptr 1 0 0), (10, .ptr 2 0 0)] ⟨rfl, rfl, rfl, trivial⟩ rfl ?_; exact ⟨rfl, rfl⟩)
          · skip
            refine q_alloc (by first | exact trivial | exact Sub.nil | exact Sub.refl _ | exact Sub.app _ _ | exact SubL.sub (by repeat (first | exact SubL.nil | apply SubL.none | apply SubL.some | apply SubL.sh | apply SubL.eq)) | (refine Sub.of_eq ?_; intro o ob h; rcases o with _ | _ | _ | _ | _ | o <;> simp_all)) ?_
            refine q_new rfl (c_slices_Clone_int ks (by omega)) (flat_I _) (by first | rfl | (repeat' (first | exact toRs_nil | refine toRs_cons ?_ ?_ | rfl | exact toR_I rfl | exact toR_P rfl | refine toR_agg2 ?_ ?_ | refine toR_agg3 ?_ ?_ ?_))) (by first | exact trivial | exact Sub.nil | exact Sub.refl _ | exact Sub.app _ _ | exact SubL.sub (by repeat (first | exact SubL.nil | apply SubL.none | apply SubL.some | apply SubL.sh | apply SubL.eq)) | (refine Sub.of_eq ?_; intro o ob h; rcases o with _ | _ | _ | _ | _ | o <;> simp_all)) ?_
            refine q_ins rfl (ins_use_int (ks) (m) ([k]) (by omega) (by simp) (by simp) (by omega)).1 (ins_use_int (ks) (m) ([k]) (by omega) (by simp) (by simp) (by omega)).2 (dI_mp _) rfl rfl (by first | exact trivial | exact Sub.nil | exact Sub.refl _ | exact Sub.app _ _ | exact SubL.sub (by repeat (first | exact SubL.nil | apply SubL.none | apply SubL.some | apply SubL.sh | apply SubL.eq)) | (refine Sub.of_eq ?_; intro o ob h; rcases o with _ | _ | _ | _ | _ | o <;> simp_all)) ?_
            refine q_new rfl (c_slices_Clone_int cs (by omega)) (flat_I _) (by first | rfl | (repeat' (first | exact toRs_nil | refine toRs_cons ?_ ?_ | rfl | exact toR_I rfl | exact toR_P rfl | refine toR_agg2 ?_ ?_ | refine toR_agg3 ?_ ?_ ?_))) (by first | exact trivial | exact Sub.nil | exact Sub.refl _ | exact Sub.app _ _ | exact SubL.sub (by repeat (first | exact SubL.nil | apply SubL.none | apply SubL.some | apply SubL.sh | apply SubL.eq)) | (refine Sub.of_eq ?_; intro o ob h; rcases o with _ | _ | _ | _ | _ | o <;> simp_all)) ?_
            refine q_ins rfl (ins_use_int (cs) (m + 1) ([c]) (by omega) (by simp) (by simp) (by omega)).1 (ins_use_int (cs) (m + 1) ([c]) (by omega) (by simp) (by simp) (by omega)).2 (dI_mp _) rfl rfl (by first | exact trivial | exact Sub.nil | exact Sub.refl _ | exact Sub.app _ _ | exact SubL.sub (by repeat (first | exact SubL.nil | apply SubL.none | apply SubL.some | apply SubL.sh | apply SubL.eq)) | (refine Sub.of_eq ?_; intro o ob h; rcases o with _ | _ | _ | _ | _ | o <;> simp_all)) ?_
            refine q_build rfl ?_
            refine q_last ?_
            first | refine q_store rfl rfl rfl rfl rfl rfl ⟨rfl, rfl, by simp, rfl, by simp [isOne]⟩ rfl (by first | exact trivial | exact Sub.nil | exact Sub.refl _ | exact Sub.app _ _ | exact SubL.sub (by repeat (first | exact SubL.nil | apply SubL.none | apply SubL.some | apply SubL.sh | apply SubL.eq)) | (refine Sub.of_eq ?_; intro o ob h; rcases o with _ | _ | _ | _ | _ | o <;> simp_all)) ?_ | refine q_storeF rfl rfl rfl rfl rfl (by simp) (by first | exact trivial | exact Sub.nil | exact Sub.refl _ | exact Sub.app _ _ | exact SubL.sub (by repeat (first | exact SubL.nil | apply SubL.none | apply SubL.some | apply SubL.sh | apply SubL.eq)) | (refine Sub.of_eq ?_; intro o ob h; rcases o with _ | _ | _ | _ | _ | o <;> simp_all)) ?_ | refine q_store rfl rfl rfl rfl rfl rfl ⟨rfl, rfl, by simp, by simp [setAt, isCell_own, isCell_sl, isCell_int, isCell_nils], by simp [isOne]⟩ rfl (by first | exact trivial | exact Sub.nil | exact Sub.refl _ | exact Sub.app _ _ | exact SubL.sub (by repeat (first | exact SubL.nil | apply SubL.none | apply SubL.some | apply SubL.sh | apply SubL.eq)) | (refine Sub.of_eq ?_; intro o ob h; rcases o with _ | _ | _ | _ | _ | o <;> simp_all)) ?_
            refine rg_nil ?_
            first
              | (refine Bd.renL [0, 1, 6] (fun i hi => by first | (exact absurd hi (Nat.not_lt_zero i)) | (have e : i = 0 := (by simp at hi; omega); subst e; rfl) | (have e : i = 0 ∨ i = 1 := (by simp at hi; omega); rcases e with rfl | rfl <;> rfl)) (by simp) [(4, .ptr 0 0 0), (8, .ptr 1 0 0), (10, .ptr 2 0 0)] ⟨rfl, rfl, rfl, trivial⟩ rfl ?_; exact ⟨rfl, rfl⟩)
              | (refine Bd.renL [0, 1, 5] (fun i hi => by first | (exact absurd hi (Nat.not_lt_zero i)) | (have e : i = 0 := (by simp at hi; omega); subst e; rfl) | (have e : i = 0 ∨ i = 1 := (by simp at hi; omega); rcases e with rfl | rfl <;> rfl)) (by simp) [(4, .ptr 0 0 0), (8, .ptr 1 0 0), (10, .ptr 2 0 0)] ⟨rfl, rfl, rfl, trivial⟩ rfl ?_; exact ⟨rfl, rfl⟩)
              | (refine Bd.renL [0, 1, 4] (fun i hi => by first | (exact absurd hi (Nat.not_lt_zero i)) | (have e : i = 0 := (by simp at hi; omega); subst e; rfl) | (have e : i = 0 ∨ i = 1 := (by simp at hi; omega); rcases e with rfl | rfl <;> rfl)) (by simp) [(4, .ptr 0 0 0), (8, .ptr 1 0 0), (10, .ptr 2 0 0)] ⟨rfl, rfl, rfl, trivial⟩ rfl ?_; exact ⟨rfl, rfl⟩)
              | (refine Bd.renL [0, 1, 3] (fun i hi => by first | (exact absurd hi (Nat.not_lt_zero i)) | (have e : i = 0 := (by simp at hi; omega); subst e; rfl) | (have e : i = 0 ∨ i = 1 := (by simp at hi; omega); rcases e with rfl | rfl <;> rfl)) (by simp) [(4, .ptr 0 0 0), (8, .ptr 1 0 0), (10, .ptr 2 0 0)] ⟨rfl, rfl, rfl, trivial⟩ rfl ?_; exact ⟨rfl, rfl⟩)
              | (refine Bd.renL [0, 1, 2] (fun i hi => by first | (exact absurd hi (Nat.not_lt_zero i)) | (have e : i = 0 := (by simp at hi; omega); subst e; rfl) | (have e : i = 0 ∨ i = 1 := (by simp at hi; omega); rcases e with rfl | rfl <;> rfl)) (by simp) [(4, .ptr 0 0 0), (8, .ptr 1 0 0), (10, .ptr 2 0 0)] ⟨rfl, rfl, rfl, trivial⟩ rfl ?_; exact ⟨rfl, rfl⟩)
        · rintro _ _ ⟨rfl, rfl⟩
          refine VS_seq ?_
          refine VS_seq ?_
          refine VS_r0 rfl ?_
          first | refine q_load_c rfl rfl rfl ?_ | refine q_load_ra rfl rfl rfl rfl rfl (by first | (simp; done) | (simp [setAt]; done)) rfl ?_
          refine q_callp (c_impl_ValidInner (addA ks m k) (addB cs m c) (by simp; omega) (by simp; omega)) rfl trivial ?_
          refine q_not rfl ?_
          refine rg_nil ?_
          refine VS_cond rfl (fun c1 => ?_) (fun c1 => ?_)
          · try simp at c1
            refine VS_seq ?_
            refine VS_r0 rfl ?_
            refine q_build rfl ?_
            first | refine q_store rfl rfl rfl rfl rfl rfl ⟨rfl, rfl, by simp, rfl, by simp [isOne]⟩ rfl trivial ?_ | refine q_storeF rfl rfl rfl rfl rfl (by simp) trivial ?_ | refine q_store rfl rfl rfl rfl rfl rfl ⟨rfl, rfl, by simp, by simp [setAt, isCell_own, isCell_sl, isCell_int, isCell_nils], by simp [isOne]⟩ rfl trivial ?_
            refine q_mv rfl ?_
            refine rg_nil ?_
            refine VS_ret ?_
            have hok : okAdd ks cs m k c = false := Bool.eq_false_iff.2 fun h => by rw [okAdd_iff] at h; have h1 := h.1; have h2 := h.2.1; have h3 := h.2.2; simp_all; try omega
            exact Bd.now ⟨_, rfl, by rw [addR_f hok]; rfl⟩
          · try simp at c1
            refine VS_skip ?_
            refine VS_seq ?_
            refine VS_r0 rfl ?_
            first | refine q_load_c rfl rfl rfl ?_ | refine q_load_ra rfl rfl rfl rfl rfl (by first | (simp; done) | (simp [setAt]; done)) rfl ?_
            first | refine q_store rfl rfl rfl rfl rfl rfl ⟨rfl, rfl, by simp, rfl, by simp [isOne]⟩ rfl trivial ?_ | refine q_storeF rfl rfl rfl rfl rfl (by simp) trivial ?_ | refine q_store rfl rfl rfl rfl rfl rfl ⟨rfl, rfl, by simp, by simp [setAt, isCell_own, isCell_sl, isCell_int, isCell_nils], by simp [isOne]⟩ rfl trivial ?_
            refine q_mv rfl ?_
            refine rg_nil ?_
            refine VS_ret ?_
            have hok : okAdd ks cs m k c = true := by rw [okAdd_iff]; exact ⟨l0, l1, by simp_all⟩
            exact Bd.now ⟨_, rfl, by rw [addR_t hok]⟩
    · try simp at g18
      refine q_f rfl ?_
      refine q_f rfl ?_
      refine q_f rfl ?_
      refine q_f rfl ?_
      refine q_f rfl ?_
      refine q_pick_t rfl rfl ?_
      refine rg_nil ?_
      refine VS_cond rfl (fun _ => ?_) (fun e => by cases e)
      refine VS_seq ?_
      refine VS_r0 rfl ?_
      refine q_build rfl ?_
      first | refine q_store rfl rfl rfl rfl rfl rfl ⟨rfl, rfl, by simp, rfl, by simp [isOne]⟩ rfl trivial ?_ | refine q_storeF rfl rfl rfl rfl rfl (by simp) trivial ?_ | refine q_store rfl rfl rfl rfl rfl rfl ⟨rfl, rfl, by simp, by simp [setAt, isCell_own, isCell_sl, isCell_int, isCell_nils], by simp [isOne]⟩ rfl trivial ?_
      refine q_mv rfl ?_
      refine rg_nil ?_
      refine VS_ret ?_
      have hok : okAdd ks cs m k c = false := Bool.eq_false_iff.2 fun h => by rw [okAdd_iff] at h; have h1 := h.1; have h2 := h.2.1; have h3 := h.2.2; simp_all; try omega
      exact Bd.now ⟨_, rfl, by rw [addR_f hok]; rfl⟩
  · try simp at g14
    refine q_f rfl ?_
    refine q_f rfl ?_
    refine q_pick_t rfl rfl ?_
    refine q_mv rfl ?_
    refine q_f rfl ?_
    refine q_f rfl ?_
    refine q_f rfl ?_
    refine q_f rfl ?_
    refine q_f rfl ?_
    refine q_pick_t rfl rfl ?_
    refine rg_nil ?_
    refine VS_cond rfl (fun _ => ?_) (fun e => by cases e)
    refine VS_seq ?_
    refine VS_r0 rfl ?_
    refine q_build rfl ?_
    first | refine q_store rfl rfl rfl rfl rfl rfl ⟨rfl, rfl, by simp, rfl, by simp [isOne]⟩ rfl trivial ?_ | refine q_storeF rfl rfl rfl rfl rfl (by simp) trivial ?_ | refine q_store rfl rfl rfl rfl rfl rfl ⟨rfl, rfl, by simp, by simp [setAt, isCell_own, isCell_sl, isCell_int, isCell_nils], by simp [isOne]⟩ rfl trivial ?_
    refine q_mv rfl ?_
    refine rg_nil ?_
    refine VS_ret ?_
    have hok : okAdd ks cs m k c = false := Bool.eq_false_iff.2 fun h => by rw [okAdd_iff] at h; have h1 := h.1; have h2 := h.2.1; have h3 := h.2.2; simp_all; try omega
    exact Bd.now ⟨_, rfl, by rw [addR_f hok]; rfl⟩
theorem c_spec_addKid (ks cs : List Int) (m : Nat) (k c : Int) (hk : ks.length ≤ 1000000) (hc : cs.length ≤ 1000000) (hm : m ≤ 1000000) (h1 : m ≤ ks.length) (h2 : cs.length = ks.length + 1) : PCon prog 78 [innP ks cs, i64 m, i64 k, i64 c] (fun p => p = innP (addA ks m k) (addB cs m c)) := by
  refine con_of_VS sl_spec_addKid (by simp) ?_
  refine VS_seq ?_
  refine VS_r0 rfl ?_
  refine q_box rfl rfl rfl trivial ?_
  refine q_alloc trivial ?_
  refine rg_nil ?_
  refine VS_seq ?_
  refine VS_r0 rfl ?_
  first | refine q_fld_r rfl ?_ | refine q_fld_c rfl rfl ?_
  first | refine q_load_c rfl rfl rfl ?_ | refine q_load_r rfl rfl rfl rfl rfl rfl rfl ?_ | refine q_load_o rfl rfl rfl rfl rfl ?_
  refine q_mv rfl ?_
  refine q_slc_m (xs := ks) (f := fun k => i64 k) 0 m rfl rfl rfl ⟨rfl, by omega, by omega, by omega⟩ (fun _ => rfl) ?_
  refine q_new rfl (c_spec_copyInts ((ks.take m).drop 0) (by simp; omega)) (flat_I _) (by first | rfl | (repeat' (first | exact toRs_nil | refine toRs_cons ?_ ?_ | rfl | exact toR_I rfl | exact toR_P rfl | refine toR_agg2 ?_ ?_ | refine toR_agg3 ?_ ?_ ?_))) trivial ?_
  refine q_mv rfl ?_
  refine q_lit (xs := [i64 k]) rfl rfl rfl rfl ?_
  refine q_app_dm (xs := (ks.take m).drop 0) (ys := [k]) (f := fun k => .pv (i64 k)) rfl rfl rfl rfl ⟨by simp; omega, by simp; omega⟩ trivial ?_
  refine q_mv rfl ?_
  refine rg_nil ?_
  refine VS_seq ?_
  refine VS_r0 rfl ?_
  first | refine q_fld_r rfl ?_ | refine q_fld_c rfl rfl ?_
  first | refine q_load_c rfl rfl rfl ?_ | refine q_load_r rfl rfl rfl rfl rfl rfl rfl ?_ | refine q_load_o rfl rfl rfl rfl rfl ?_
  refine q_mv rfl ?_
  refine q_add rfl rfl (inR64 (by omega)) ?_
  refine q_slc_m (xs := cs) (f := fun k => i64 k) 0 (m + 1) rfl rfl rfl ⟨rfl, by omega, by omega, by omega⟩ (fun _ => rfl) ?_
  refine q_new rfl (c_spec_copyInts ((cs.take (m + 1)).drop 0) (by simp; omega)) (flat_I _) (by first | rfl | (repeat' (first | exact toRs_nil | refine toRs_cons ?_ ?_ | rfl | exact toR_I rfl | exact toR_P rfl | refine toR_agg2 ?_ ?_ | refine toR_agg3 ?_ ?_ ?_))) trivial ?_
  refine q_mv rfl ?_
  refine q_lit (xs := [i64 c]) rfl rfl rfl rfl ?_
  refine q_app_dm (xs := (cs.take (m + 1)).drop 0) (ys := [c]) (f := fun k => .pv (i64 k)) rfl rfl rfl rfl ⟨by simp; omega, by simp; omega⟩ trivial ?_
  refine q_mv rfl ?_
  refine rg_nil ?_
  refine VS_seq ?_
  refine VS_st [some ⟨25, 2, [.pv (innP ks cs)]⟩, some ⟨25, 2, [.agg [.nils, .nils]]⟩, none, obD 3 1 (dI ((ks.take m).drop 0 ++ [k])), none, obD 3 1 (dI ((cs.take (m + 1)).drop 0 ++ [c]))] rfl ?_
  refine VS_r2 [some ⟨25, 2, [.pv (innP ks cs)]⟩] hmix (SubL.sub (by repeat (first | exact SubL.nil | apply SubL.none | apply SubL.some | apply SubL.sh | apply SubL.eq))) ?_
  refine q_mv rfl ?_
  first | refine q_fld_r rfl ?_ | refine q_fld_c rfl rfl ?_
  first | refine q_load_c rfl rfl rfl ?_ | refine q_load_r rfl rfl rfl rfl rfl rfl rfl ?_ | refine q_load_o rfl rfl rfl rfl rfl ?_
  refine q_mv rfl ?_
  refine q_slc_m (xs := ks) (f := fun k => i64 k) m ks.length rfl rfl rfl ⟨rfl, by simp, by omega, by omega⟩ (fun _ => rfl) ?_
  refine q_mv rfl ?_
  first | refine q_fld_r rfl ?_ | refine q_fld_c rfl rfl ?_
  first | refine q_load_c rfl rfl rfl ?_ | refine q_load_r rfl rfl rfl rfl rfl rfl rfl ?_ | refine q_load_o rfl rfl rfl rfl rfl ?_
  refine q_mv rfl ?_
  refine q_add rfl rfl (inR64 (by omega)) ?_
  refine q_slc_m (xs := cs) (f := fun k => i64 k) (m + 1) cs.length rfl rfl rfl ⟨rfl, by simp, by omega, by omega⟩ (fun _ => rfl) ?_
  refine q_app_dm (xs := (ks.take m).drop 0 ++ [k]) (ys := (ks.take ks.length).drop m) (f := fun k => .pv (i64 k)) rfl (elems_I _) (cell_I _) rfl ⟨by simp; omega, by simp; omega⟩ (by first | exact trivial | exact Sub.nil | exact Sub.refl _ | exact Sub.app _ _ | exact SubL.sub (by repeat (first | exact SubL.nil | apply SubL.none | apply SubL.some | apply SubL.sh | apply SubL.eq)) | (refine Sub.of_eq ?_; intro o ob h; rcases o with _ | _ | _ | _ | _ | o <;> simp_all)) ?_
  refine q_app_dm (xs := (cs.take (m + 1)).drop 0 ++ [c]) (ys := (cs.take cs.length).drop (m + 1)) (f := fun k => .pv (i64 k)) rfl (elems_I _) (cell_I _) rfl ⟨by simp; omega, by simp; omega⟩ (by first | exact trivial | exact Sub.nil | exact Sub.refl _ | exact Sub.app _ _ | exact SubL.sub (by repeat (first | exact SubL.nil | apply SubL.none | apply SubL.some | apply SubL.sh | apply SubL.eq)) | (refine Sub.of_eq ?_; intro o ob h; rcases o with _ | _ | _ | _ | _ | o <;> simp_all)) ?_
  refine q_build2 (d := ownD 6 (dI ((ks.take m).drop 0 ++ [k] ++ (ks.take ks.length).drop m))) (e := ownD 7 (dI ((cs.take (m + 1)).drop 0 ++ [c] ++ (cs.take cs.length).drop (m + 1)))) rfl cellsD_own rfl cellsD_own ?_
  refine q_last ?_
  first | refine q_store rfl rfl rfl rfl rfl rfl ⟨rfl, rfl, by simp, rfl, by simp [isOne]⟩ rfl (by first | exact trivial | exact Sub.nil | exact Sub.refl _ | exact Sub.app _ _ | exact SubL.sub (by repeat (first | exact SubL.nil | apply SubL.none | apply SubL.some | apply SubL.sh | apply SubL.eq)) | (refine Sub.of_eq ?_; intro o ob h; rcases o with _ | _ | _ | _ | _ | o <;> simp_all)) ?_ | refine q_storeF rfl rfl rfl rfl rfl (by simp) (by first | exact trivial | exact Sub.nil | exact Sub.refl _ | exact Sub.app _ _ | exact SubL.sub (by repeat (first | exact SubL.nil | apply SubL.none | apply SubL.some | apply SubL.sh | apply SubL.eq)) | (refine Sub.of_eq ?_; intro o ob h; rcases o with _ | _ | _ | _ | _ | o <;> simp_all)) ?_ | refine q_store rfl rfl rfl rfl rfl rfl ⟨rfl, rfl, by simp, by simp [setAt, isCell_own, isCell_sl, isCell_int, isCell_nils], by simp [isOne]⟩ rfl (by first | exact trivial | exact Sub.nil | exact Sub.refl _ | exact Sub.app _ _ | exact SubL.sub (by repeat (first | exact SubL.nil | apply SubL.none | apply SubL.some | apply SubL.sh | apply SubL.eq)) | (refine Sub.of_eq ?_; intro o ob h; rcases o with _ | _ | _ | _ | _ | o <;> simp_all)) ?_
  refine rg_nil ?_
  refine VS_bd (Bd.frzF 6 1 0 0 3 1 (xs := dI ((ks.take m).drop 0 ++ [k] ++ (ks.take ks.length).drop m)) (by decide) rfl (toPVs_dI _) rfl rfl rfl ?_)
  refine VS_bd (Bd.frzF 7 1 0 1 3 1 (xs := dI ((cs.take (m + 1)).drop 0 ++ [c] ++ (cs.take cs.length).drop (m + 1))) (by decide) rfl (toPVs_dI _) rfl rfl rfl ?_)
  refine VS_ret ?_
  refine Bd.now ⟨_, rfl, ?_⟩
  simp
theorem c_spec_AddKid (ks cs : List Int) (m : Nat) (k c : Int) (hk : ks.length ≤ 1000000) (hc : cs.length ≤ 1000000) (hm : m ≤ 1000000) : PCon prog 39 [innP ks cs, i64 m, i64 k, i64 c] (fun p => p = addR ks cs m k c) := by
  refine con_of_VS sl_spec_AddKid (by simp) ?_
  refine VS_seq ?_
  refine VS_r0 rfl ?_
  refine q_box rfl rfl rfl trivial ?_
  refine q_alloc trivial ?_
  refine q_mv rfl ?_
  refine rg_nil ?_
  refine VS_seq ?_
  refine VS_seq ?_
  refine VS_r0 rfl ?_
  first | refine q_load_c rfl rfl rfl ?_ | refine q_load_ra rfl rfl rfl rfl rfl (by first | (simp; done) | (simp [setAt]; done)) rfl ?_
  refine q_callp (c_spec_validInner ks cs (by omega) (by omega)) rfl trivial ?_
  refine q_not rfl ?_
  refine q_mv rfl ?_
  refine q_b rfl (fun g13 => ?_) (fun g13 => ?_)
  · try simp at g13
    refine q_t rfl ?_
    refine q_mv rfl ?_
    refine q_t rfl ?_
    first | refine q_fld_r rfl ?_ | refine q_fld_c rfl rfl ?_
    refine q_t rfl ?_
    first | refine q_load_c rfl rfl rfl ?_ | refine q_load_r rfl rfl rfl rfl rfl rfl rfl ?_ | refine q_load_o rfl rfl rfl rfl rfl ?_
    refine q_t rfl ?_
    first | refine q_len_m rfl ?_ | refine q_len_s rfl ?_ | refine q_len_o rfl ?_ | refine q_len_n rfl ?_ | refine q_len_x rfl ?_
    refine q_t rfl ?_
    refine q_sub rfl rfl (inR64 (by omega)) ?_
    refine q_t rfl ?_
    refine q_callp (c_spec_inRange _ _ _) rfl trivial ?_
    refine q_t rfl ?_
    refine q_not rfl ?_
    refine q_pick_f rfl rfl ?_
    refine q_mv rfl ?_
    refine q_b rfl (fun g22 => ?_) (fun g22 => ?_)
    · try simp at g22
      have l0 : goodInner ks cs = true := by simp_all
      have hl := goodInner_len l0
      have l1 : m < cs.length := by simp_all; try omega
      refine q_t rfl ?_
      first | refine q_load_c rfl rfl rfl ?_ | refine q_load_ra rfl rfl rfl rfl rfl (by first | (simp; done) | (simp [setAt]; done)) rfl ?_
      refine q_t rfl ?_
      refine q_mv rfl ?_
      refine q_t rfl ?_
      refine q_mv rfl ?_
      refine q_t rfl ?_
      refine q_mv rfl ?_
      refine q_t rfl ?_
      refine q_callp (c_spec_addKid ks cs m k c (by omega) (by omega) (by omega) (by omega) hl) rfl trivial ?_
      refine q_t rfl ?_
      refine q_callp (c_spec_validInner (addA ks m k) (addB cs m c) (by simp; omega) (by simp; omega)) rfl trivial ?_
      refine q_t rfl ?_
      refine q_not rfl ?_
      refine q_pick_f rfl rfl ?_
      refine rg_nil ?_
      refine VS_cond rfl (fun c0 => ?_) (fun c0 => ?_)
      · try simp at c0
        refine VS_seq ?_
        refine VS_r0 rfl ?_
        refine q_build rfl ?_
        first | refine q_store rfl rfl rfl rfl rfl rfl ⟨rfl, rfl, by simp, rfl, by simp [isOne]⟩ rfl trivial ?_ | refine q_storeF rfl rfl rfl rfl rfl (by simp) trivial ?_ | refine q_store rfl rfl rfl rfl rfl rfl ⟨rfl, rfl, by simp, by simp [setAt, isCell_own, isCell_sl, isCell_int, isCell_nils], by simp [isOne]⟩ rfl trivial ?_
        refine q_mv rfl ?_
        refine rg_nil ?_
        refine VS_ret ?_
        have hok : okAdd ks cs m k c = false := Bool.eq_false_iff.2 fun h => by rw [okAdd_iff] at h; have h1 := h.1; have h2 := h.2.1; have h3 := h.2.2; simp_all; try omega
        exact Bd.now ⟨_, rfl, by rw [addR_f hok]; rfl⟩
      · try simp at c0
        refine VS_skip ?_
        refine VS_seq ?_
        refine VS_r0 rfl ?_
        first | refine q_load_c rfl rfl rfl ?_ | refine q_load_ra rfl rfl rfl rfl rfl (by first | (simp; done) | (simp [setAt]; done)) rfl ?_
        refine q_mv rfl ?_
        refine q_mv rfl ?_
        refine q_mv rfl ?_
        refine q_callp (c_spec_addKid ks cs m k c (by omega) (by omega) (by omega) (by omega) hl) rfl trivial ?_
        first | refine q_store rfl rfl rfl rfl rfl rfl ⟨rfl, rfl, by simp, rfl, by simp [isOne]⟩ rfl trivial ?_ | refine q_storeF rfl rfl rfl rfl rfl (by simp) trivial ?_ | refine q_store rfl rfl rfl rfl rfl rfl ⟨rfl, rfl, by simp, by simp [setAt, isCell_own, isCell_sl, isCell_int, isCell_nils], by simp [isOne]⟩ rfl trivial ?_
        refine q_mv rfl ?_
        refine rg_nil ?_
        refine VS_ret ?_
        have hok : okAdd ks cs m k c = true := by rw [okAdd_iff]; exact ⟨l0, l1, by simp_all⟩
        exact Bd.now ⟨_, rfl, by rw [addR_t hok]⟩
    · try simp at g22
      refine q_f rfl ?_
      refine q_f rfl ?_
      refine q_f rfl ?_
      refine q_f rfl ?_
      refine q_f rfl ?_
      refine q_f rfl ?_
      refine q_f rfl ?_
      refine q_pick_t rfl rfl ?_
      refine rg_nil ?_
      refine VS_cond rfl (fun _ => ?_) (fun e => by cases e)
      refine VS_seq ?_
      refine VS_r0 rfl ?_
      refine q_build rfl ?_
      first | refine q_store rfl rfl rfl rfl rfl rfl ⟨rfl, rfl, by simp, rfl, by simp [isOne]⟩ rfl trivial ?_ | refine q_storeF rfl rfl rfl rfl rfl (by simp) trivial ?_ | refine q_store rfl rfl rfl rfl rfl rfl ⟨rfl, rfl, by simp, by simp [setAt, isCell_own, isCell_sl, isCell_int, isCell_nils], by simp [isOne]⟩ rfl trivial ?_
      refine q_mv rfl ?_
      refine rg_nil ?_
      refine VS_ret ?_
      have hok : okAdd ks cs m k c = false := Bool.eq_false_iff.2 fun h => by rw [okAdd_iff] at h; have h1 := h.1; have h2 := h.2.1; have h3 := h.2.2; simp_all; try omega
      exact Bd.now ⟨_, rfl, by rw [addR_f hok]; rfl⟩
  · try simp at g13
    refine q_f rfl ?_
    refine q_f rfl ?_
    refine q_f rfl ?_
    refine q_f rfl ?_
    refine q_f rfl ?_
    refine q_f rfl ?_
    refine q_f rfl ?_
    refine q_pick_t rfl rfl ?_
    refine q_mv rfl ?_
    refine q_f rfl ?_
    refine q_f rfl ?_
    refine q_f rfl ?_
    refine q_f rfl ?_
    refine q_f rfl ?_
    refine q_f rfl ?_
    refine q_f rfl ?_
    refine q_pick_t rfl rfl ?_
    refine rg_nil ?_
    refine VS_cond rfl (fun _ => ?_) (fun e => by cases e)
    refine VS_seq ?_
    refine VS_r0 rfl ?_
    refine q_build rfl ?_
    first | refine q_store rfl rfl rfl rfl rfl rfl ⟨rfl, rfl, by simp, rfl, by simp [isOne]⟩ rfl trivial ?_ | refine q_storeF rfl rfl rfl rfl rfl (by simp) trivial ?_ | refine q_store rfl rfl rfl rfl rfl rfl ⟨rfl, rfl, by simp, by simp [setAt, isCell_own, isCell_sl, isCell_int, isCell_nils], by simp [isOne]⟩ rfl trivial ?_
    refine q_mv rfl ?_
    refine rg_nil ?_
    refine VS_ret ?_
    have hok : okAdd ks cs m k c = false := Bool.eq_false_iff.2 fun h => by rw [okAdd_iff] at h; have h1 := h.1; have h2 := h.2.1; have h3 := h.2.2; simp_all; try omega
    exact Bd.now ⟨_, rfl, by rw [addR_f hok]; rfl⟩
end Go.V

set_option maxHeartbeats 4000000
namespace Go.V
open Go.Proofs.Try (prog)
theorem c_spec_someValue (bs : List Int) (hb : isU8 bs) (hbl : bs.length ≤ 2000) (p : Int) (hp : 0 ≤ p) (hp2 : p ≤ 50000000000) : RdS prog 81 90 bs p [] (fun x q => ∃ v : Int, x = i64 v ∧ (-1001 ≤ v ∧ v ≤ 1001) ∧ (p ≤ q ∧ q ≤ p + 6)) := by
  refine callS_of_VS sl_spec_someValue (by simp) ?_
  refine VS_seq ?_
  refine VS_r0 rfl ?_
  refine q_mv rfl ?_
  refine rg_nil ?_
  refine VS_seq ?_
  refine VS_r0 rfl ?_
  refine q_mv rfl ?_
  refine q_mv rfl ?_
  refine q_rd rfl (c_spec_reader_pick bs hb hbl _ (by omega) 100 (by omega) (by omega)) rfl rfl (fun _ => trivial) ?_
  rintro _ q5 ⟨a, rfl, q_a, rfl⟩
  refine q_mv rfl ?_
  refine q_rd rfl (c_spec_reader_pick bs hb hbl _ (by omega) 100 (by omega) (by omega)) rfl rfl (fun _ => trivial) ?_
  rintro _ q7 ⟨b, rfl, q_b, rfl⟩
  refine q_neg rfl (inR64 (by omega)) ?_
  refine q_mv rfl ?_
  refine q_rd rfl (c_spec_reader_pick bs hb hbl _ (by omega) 100 (by omega) (by omega)) rfl rfl (fun _ => trivial) ?_
  rintro _ q10 ⟨c, rfl, q_c, rfl⟩
  refine q_mv rfl ?_
  refine q_rd rfl (c_spec_reader_pick bs hb hbl _ (by omega) 100 (by omega) (by omega)) rfl rfl (fun _ => trivial) ?_
  rintro _ q12 ⟨d, rfl, q_d, rfl⟩
  refine q_mv rfl ?_
  refine q_rd rfl (c_spec_reader_pick bs hb hbl _ (by omega) 100 (by omega) (by omega)) rfl rfl (fun _ => trivial) ?_
  rintro _ q14 ⟨e, rfl, q_e, rfl⟩
  refine q_lit (xs := [i64 a, i64 (-b), i64 0, i64 1000, i64 (-1000), i64 c, i64 d, i64 1001, i64 e]) rfl rfl rfl rfl ?_
  refine q_rd rfl (c_spec_reader_one bs hb hbl _ (by omega) [a, -b, 0, 1000, -1000, c, d, 1001, e] (by simp) (by simp) (by omega)) rfl rfl (fun _ => trivial) ?_
  rintro _ q16 ⟨v, rfl, q_v, rfl⟩
  refine q_mv rfl ?_
  refine rg_nil ?_
  refine VS_ret ?_
  simp only [List.mem_cons, List.not_mem_nil, or_false] at q_v
  exact Bd.now ⟨_, rfl, _, _, _, rfl, ⟨v, rfl, ⟨by omega, by omega⟩, by omega, by omega⟩, rfl⟩
theorem c_spec_DrawPutPair (bs : List Int) (hb : isU8 bs) (hl : bs.length ≤ 1048576) : PCon prog 46 [u8s bs] (fun p => ∃ (xs : List (Int × Int)) (x : Int × Int), p = .tup [prs xs, pairP x] ∧ (xs.length ≤ 25 ∧ bdP 2000 xs) ∧ (-1000000001 ≤ x.1 ∧ x.1 ≤ 1000000001) ∧ -1001 ≤ x.2 ∧ x.2 ≤ 1001) := by
  refine con_of_VS sl_spec_DrawPutPair (by simp) ?_
  refine VS_seq ?_
  refine VS_r0 rfl ?_
  refine q_mv rfl ?_
  refine q_alloc trivial ?_
  refine rg_nil ?_
  refine VS_seq ?_
  refine VS_r0 rfl ?_
  refine q_mv rfl ?_
  refine q_newRd rfl (c_spec_newReader _ hb hl) rfl (fun _ => trivial) ?_
  rintro bs ⟨hb, hbl⟩
  refine q_mv rfl ?_
  refine rg_nil ?_
  refine VS_seq ?_
  refine VS_r0 rfl ?_
  refine q_mv rfl ?_
  refine q_rdn rfl (c_spec_anyRow bs hb hbl _ (by omega) (by omega)) (fun _ _ => rfl) rfl rfl (fun _ _ => trivial) ?_
  rintro xs q10 ⟨⟨hx1, hx2⟩, hq1, hq2⟩
  refine q_mv rfl ?_
  refine rg_nil ?_
  refine VS_bd (Bd.pure 5 2 43 2 (xs := dP xs) rfl rfl (toPVs_dP _) ?_)
  refine VS_seq ?_
  refine VS_r0 rfl ?_
  refine q_mv rfl ?_
  refine q_mv rfl ?_
  refine q_callp (c_spec_keysOf xs (by omega)) rfl trivial ?_
  refine q_rd rfl (c_spec_keyNear bs hb hbl _ (by omega) (keysR xs) (by simp; omega) (hx2.keys.le (by omega)) (by omega)) rfl rfl (fun _ => trivial) ?_
  rintro _ q14 ⟨k, rfl, q_k, ⟨hq3, hq4⟩⟩
  refine q_mv rfl ?_
  refine rg_nil ?_
  refine VS_seq ?_
  refine VS_r0 rfl ?_
  refine q_mv rfl ?_
  refine q_mv rfl ?_
  refine q_mv rfl ?_
  refine q_rd rfl (c_spec_someValue bs hb hbl _ (by omega) (by omega)) rfl rfl (fun _ => trivial) ?_
  rintro _ q18 ⟨v, rfl, ⟨hv1, hv2⟩, ⟨hq5, hq6⟩⟩
  refine q_build rfl ?_
  refine q_mv rfl ?_
  first | refine q_store rfl rfl rfl rfl rfl rfl ⟨rfl, rfl, by simp, rfl, by simp [isOne]⟩ rfl trivial ?_ | refine q_storeF rfl rfl rfl rfl rfl (by simp) trivial ?_ | refine q_store rfl rfl rfl rfl rfl rfl ⟨rfl, rfl, by simp, by simp [setAt, isCell_own, isCell_sl, isCell_int, isCell_nils], by simp [isOne]⟩ rfl trivial ?_
  refine rg_nil ?_
  refine VS_ret ?_
  exact Bd.now ⟨_, rfl, xs, (k, v), rfl, ⟨hx1, hx2⟩, q_k, hv1, hv2⟩
theorem c_spec_DrawAddKid (bs : List Int) (hb : isU8 bs) (hl : bs.length ≤ 1048576) : PCon prog 37 [u8s bs] (fun p => ∃ (ks cs : List Int) (m : Nat) (k c : Int), p = .tup [innP ks cs, i64 m, i64 k, i64 c] ∧ ((ks.length ≤ 100 ∧ cs.length ≤ 100) ∧ bdI 1000000000 ks ∧ bdI 1000000000 cs) ∧ m ≤ 100 ∧ -1000000001 ≤ k ∧ k ≤ 1000000001) := by
  refine con_of_VS sl_spec_DrawAddKid (by simp) ?_
  refine VS_seq ?_
  refine VS_r0 rfl ?_
  refine q_alloc trivial ?_
  refine q_mv rfl ?_
  refine q_mv rfl ?_
  refine q_mv rfl ?_
  refine rg_nil ?_
  refine VS_seq ?_
  refine VS_r0 rfl ?_
  refine q_mv rfl ?_
  refine q_newRd rfl (c_spec_newReader _ hb hl) rfl (fun _ => trivial) ?_
  rintro bs ⟨hb, hbl⟩
  refine q_mv rfl ?_
  refine rg_nil ?_
  refine VS_seq ?_
  refine VS_r0 rfl ?_
  refine q_mv rfl ?_
  refine q_rd rfl (c_spec_anyInner bs hb hbl _ (by omega) (by omega)) rfl rfl (fun _ => trivial) ?_
  rintro _ q13 ⟨ks, cs, rfl, ⟨⟨hx1, hx2⟩, hx3, hx4⟩, ⟨hq1, hq2⟩⟩
  refine q_alloc trivial ?_
  first | refine q_store rfl rfl rfl rfl rfl rfl ⟨rfl, rfl, by simp, rfl, by simp [isOne]⟩ rfl trivial ?_ | refine q_storeF rfl rfl rfl rfl rfl (by simp) trivial ?_ | refine q_store rfl rfl rfl rfl rfl rfl ⟨rfl, rfl, by simp, by simp [setAt, isCell_own, isCell_sl, isCell_int, isCell_nils], by simp [isOne]⟩ rfl trivial ?_
  refine rg_nil ?_
  refine VS_seq ?_
  refine VS_r0 rfl ?_
  refine q_mv rfl ?_
  first | refine q_fld_r rfl ?_ | refine q_fld_c rfl rfl ?_
  first | refine q_load_c rfl rfl rfl ?_ | refine q_load_r rfl rfl rfl rfl rfl rfl rfl ?_ | refine q_load_o rfl rfl rfl rfl rfl ?_
  first | refine q_len_m rfl ?_ | refine q_len_s rfl ?_ | refine q_len_o rfl ?_ | refine q_len_n rfl ?_ | refine q_len_x rfl ?_
  refine q_mx rfl rfl ?_
  refine q_rd rfl (c_spec_reader_pick bs hb hbl _ (by omega) (max 1 (cs.length : Int)) (by omega) (by omega)) rfl rfl (fun _ => trivial) ?_
  rintro _ q19 ⟨v, rfl, q_v, rfl⟩
  refine q_mv rfl ?_
  refine rg_nil ?_
  refine VS_seq ?_
  refine VS_r0 rfl ?_
  refine q_mv rfl ?_
  first | refine q_fld_r rfl ?_ | refine q_fld_c rfl rfl ?_
  first | refine q_load_c rfl rfl rfl ?_ | refine q_load_r rfl rfl rfl rfl rfl rfl rfl ?_ | refine q_load_o rfl rfl rfl rfl rfl ?_
  refine q_rd rfl (c_spec_keyNear bs hb hbl _ (by omega) ks (by omega) hx3 (by omega)) rfl rfl (fun _ => trivial) ?_
  rintro _ q23 ⟨k, rfl, q_k, ⟨hq3, hq4⟩⟩
  refine q_mv rfl ?_
  refine rg_nil ?_
  refine VS_seq ?_
  refine VS_seq ?_
  refine VS_r0 rfl ?_
  refine q_mv rfl ?_
  refine q_gtr rfl rfl ?_
  refine q_mv rfl ?_
  refine q_b rfl (fun g26 => ?_) (fun g26 => ?_)
  · try simp at g26
    refine q_t rfl ?_
    refine q_mv rfl ?_
    refine q_t rfl ?_
    first | refine q_fld_r rfl ?_ | refine q_fld_c rfl rfl ?_
    refine q_t rfl ?_
    first | refine q_load_c rfl rfl rfl ?_ | refine q_load_r rfl rfl rfl rfl rfl rfl rfl ?_ | refine q_load_o rfl rfl rfl rfl rfl ?_
    refine q_t rfl ?_
    first | refine q_len_m rfl ?_ | refine q_len_s rfl ?_ | refine q_len_o rfl ?_ | refine q_len_n rfl ?_ | refine q_len_x rfl ?_
    refine q_t rfl ?_
    refine q_leq rfl rfl ?_
    refine q_pick_t rfl rfl ?_
    refine q_mv rfl ?_
    refine q_b rfl (fun g33 => ?_) (fun g33 => ?_)
    · try simp at g33
      refine q_t rfl ?_
      refine q_mv rfl ?_
      refine q_t rfl ?_
      refine q_rd rfl (c_spec_reader_pick bs hb hbl _ (by omega) 3 (by omega) (by omega)) rfl rfl (fun _ => trivial) ?_
      rintro _ q35 ⟨u, rfl, q_u, rfl⟩
      refine q_t rfl ?_
      refine q_gtr rfl rfl ?_
      refine q_pick_t rfl rfl ?_
      refine rg_nil ?_
      refine VS_cond rfl (fun c0 => ?_) (fun c0 => ?_)
      · try simp at c0
        have hk3 := hx3 (v - 1).toNat (by omega)
        refine VS_r0 rfl ?_
        first | refine q_fld_r rfl ?_ | refine q_fld_c rfl rfl ?_
        first | refine q_load_c rfl rfl rfl ?_ | refine q_load_r rfl rfl rfl rfl rfl rfl rfl ?_ | refine q_load_o rfl rfl rfl rfl rfl ?_
        refine q_mv rfl ?_
        refine q_sub rfl rfl (inR64 (by omega)) ?_
        first | refine q_idx_c _ rfl rfl (by omega) (fun _ => rfl) ?_ | refine q_idx_m rfl rfl (by omega) (by omega) (fun _ => rfl) ?_ | refine q_idx_om rfl rfl (by omega) (by omega) rfl rfl ?_
        first | refine q_load_c rfl rfl rfl ?_ | refine q_load_r rfl rfl rfl rfl rfl rfl rfl ?_ | refine q_load_o rfl rfl rfl rfl rfl ?_
        refine q_add rfl rfl (inR64 (by omega)) ?_
        refine q_mv rfl ?_
        refine rg_nil ?_
        refine VS_seq ?_
        refine VS_r2 [none, none, some ⟨25, 2, [.agg [.pv (ints (ks)), .pv (ints (cs))]]⟩] hmix (SubL.sub (by repeat (first | exact SubL.nil | apply SubL.none | apply SubL.some | apply SubL.sh | apply SubL.eq))) ?_
        first | refine q_load_c rfl rfl rfl ?_ | refine q_load_ra rfl rfl rfl rfl rfl (by first | (simp; done) | (simp [setAt]; done)) rfl ?_
        refine q_mv rfl ?_
        refine q_mv rfl ?_
        refine q_mv rfl ?_
        refine q_mv rfl ?_
        refine q_rd rfl (c_spec_reader_pick bs hb hbl _ (by omega) 16 (by omega) (by omega)) rfl rfl (fun _ => (by first | exact trivial | exact Sub.nil | exact Sub.set (Sub.refl _) _ _ (by simp) | exact SubL.sub (by repeat (first | exact SubL.nil | apply SubL.none | apply SubL.some | apply SubL.sh | apply SubL.eq)) | (refine Sub.of_eq ?_; intro o ob h; rcases o with _ | _ | _ | _ | o <;> simp_all))) ?_
        rintro _ q50 ⟨a, rfl, q_a, rfl⟩
        refine q_lit (xs := [i64 15, i64 14, i64 a, i64 16]) rfl rfl rfl rfl ?_
        refine q_rd rfl (c_spec_reader_one bs hb hbl _ (by omega) [15, 14, a, 16] (by simp) (by simp) (by omega)) rfl rfl (fun _ => (by first | exact trivial | exact Sub.nil | exact Sub.set (Sub.refl _) _ _ (by simp) | exact SubL.sub (by repeat (first | exact SubL.nil | apply SubL.none | apply SubL.some | apply SubL.sh | apply SubL.eq)) | (refine Sub.of_eq ?_; intro o ob h; rcases o with _ | _ | _ | _ | o <;> simp_all))) ?_
        rintro _ q52 ⟨c, rfl, q_c, rfl⟩
        first | refine q_store rfl rfl rfl rfl rfl rfl ⟨rfl, rfl, by simp, rfl, by simp [isOne]⟩ rfl (by first | exact trivial | exact Sub.nil | exact Sub.refl _ | exact Sub.app _ _ | exact SubL.sub (by repeat (first | exact SubL.nil | apply SubL.none | apply SubL.some | apply SubL.sh | apply SubL.eq)) | (refine Sub.of_eq ?_; intro o ob h; rcases o with _ | _ | _ | _ | _ | o <;> simp_all)) ?_ | refine q_storeF rfl rfl rfl rfl rfl (by simp) (by first | exact trivial | exact Sub.nil | exact Sub.refl _ | exact Sub.app _ _ | exact SubL.sub (by repeat (first | exact SubL.nil | apply SubL.none | apply SubL.some | apply SubL.sh | apply SubL.eq)) | (refine Sub.of_eq ?_; intro o ob h; rcases o with _ | _ | _ | _ | _ | o <;> simp_all)) ?_ | refine q_store rfl rfl rfl rfl rfl rfl ⟨rfl, rfl, by simp, by simp [setAt, isCell_own, isCell_sl, isCell_int, isCell_nils], by simp [isOne]⟩ rfl (by first | exact trivial | exact Sub.nil | exact Sub.refl _ | exact Sub.app _ _ | exact SubL.sub (by repeat (first | exact SubL.nil | apply SubL.none | apply SubL.some | apply SubL.sh | apply SubL.eq)) | (refine Sub.of_eq ?_; intro o ob h; rcases o with _ | _ | _ | _ | _ | o <;> simp_all)) ?_
        refine q_mv rfl ?_
        refine q_mv rfl ?_
        refine q_mv rfl ?_
        refine rg_nil ?_
        refine VS_ret ?_
        have hv : (v : Int) = ((v.toNat : Nat) : Int) := by omega
        exact Bd.now ⟨_, rfl, ks, cs, v.toNat, _, _, by rw [← hv], ⟨⟨hx1, hx2⟩, hx3, hx4⟩, by omega, by omega, by omega⟩
      · try simp at c0
        refine VS_skip ?_
        refine VS_seq ?_
        refine VS_r2 [none, none, some ⟨25, 2, [.agg [.pv (ints (ks)), .pv (ints (cs))]]⟩] hmix (SubL.sub (by repeat (first | exact SubL.nil | apply SubL.none | apply SubL.some | apply SubL.sh | apply SubL.eq))) ?_
        first | refine q_load_c rfl rfl rfl ?_ | refine q_load_ra rfl rfl rfl rfl rfl (by first | (simp; done) | (simp [setAt]; done)) rfl ?_
        refine q_mv rfl ?_
        refine q_mv rfl ?_
        refine q_mv rfl ?_
        refine q_mv rfl ?_
        refine q_rd rfl (c_spec_reader_pick bs hb hbl _ (by omega) 16 (by omega) (by omega)) rfl rfl (fun _ => (by first | exact trivial | exact Sub.nil | exact Sub.set (Sub.refl _) _ _ (by simp) | exact SubL.sub (by repeat (first | exact SubL.nil | apply SubL.none | apply SubL.some | apply SubL.sh | apply SubL.eq)) | (refine Sub.of_eq ?_; intro o ob h; rcases o with _ | _ | _ | _ | o <;> simp_all))) ?_
        rintro _ q50 ⟨a, rfl, q_a, rfl⟩
        refine q_lit (xs := [i64 15, i64 14, i64 a, i64 16]) rfl rfl rfl rfl ?_
        refine q_rd rfl (c_spec_reader_one bs hb hbl _ (by omega) [15, 14, a, 16] (by simp) (by simp) (by omega)) rfl rfl (fun _ => (by first | exact trivial | exact Sub.nil | exact Sub.set (Sub.refl _) _ _ (by simp) | exact SubL.sub (by repeat (first | exact SubL.nil | apply SubL.none | apply SubL.some | apply SubL.sh | apply SubL.eq)) | (refine Sub.of_eq ?_; intro o ob h; rcases o with _ | _ | _ | _ | o <;> simp_all))) ?_
        rintro _ q52 ⟨c, rfl, q_c, rfl⟩
        first | refine q_store rfl rfl rfl rfl rfl rfl ⟨rfl, rfl, by simp, rfl, by simp [isOne]⟩ rfl (by first | exact trivial | exact Sub.nil | exact Sub.refl _ | exact Sub.app _ _ | exact SubL.sub (by repeat (first | exact SubL.nil | apply SubL.none | apply SubL.some | apply SubL.sh | apply SubL.eq)) | (refine Sub.of_eq ?_; intro o ob h; rcases o with _ | _ | _ | _ | _ | o <;> simp_all)) ?_ | refine q_storeF rfl rfl rfl rfl rfl (by simp) (by first | exact trivial | exact Sub.nil | exact Sub.refl _ | exact Sub.app _ _ | exact SubL.sub (by repeat (first | exact SubL.nil | apply SubL.none | apply SubL.some | apply SubL.sh | apply SubL.eq)) | (refine Sub.of_eq ?_; intro o ob h; rcases o with _ | _ | _ | _ | _ | o <;> simp_all)) ?_ | refine q_store rfl rfl rfl rfl rfl rfl ⟨rfl, rfl, by simp, by simp [setAt, isCell_own, isCell_sl, isCell_int, isCell_nils], by simp [isOne]⟩ rfl (by first | exact trivial | exact Sub.nil | exact Sub.refl _ | exact Sub.app _ _ | exact SubL.sub (by repeat (first | exact SubL.nil | apply SubL.none | apply SubL.some | apply SubL.sh | apply SubL.eq)) | (refine Sub.of_eq ?_; intro o ob h; rcases o with _ | _ | _ | _ | _ | o <;> simp_all)) ?_
        refine q_mv rfl ?_
        refine q_mv rfl ?_
        refine q_mv rfl ?_
        refine rg_nil ?_
        refine VS_ret ?_
        have hv : (v : Int) = ((v.toNat : Nat) : Int) := by omega
        exact Bd.now ⟨_, rfl, ks, cs, v.toNat, _, _, by rw [← hv], ⟨⟨hx1, hx2⟩, hx3, hx4⟩, by omega, by omega, by omega⟩
    · try simp at g33
      refine q_f rfl ?_
      refine q_f rfl ?_
      refine q_f rfl ?_
      refine q_pick_f rfl rfl ?_
      refine rg_nil ?_
      refine VS_cond rfl (fun e => by cases e) (fun _ => ?_)
      refine VS_skip ?_
      refine VS_seq ?_
      refine VS_r2 [none, none, some ⟨25, 2, [.agg [.pv (ints (ks)), .pv (ints (cs))]]⟩] hmix (SubL.sub (by repeat (first | exact SubL.nil | apply SubL.none | apply SubL.some | apply SubL.sh | apply SubL.eq))) ?_
      first | refine q_load_c rfl rfl rfl ?_ | refine q_load_ra rfl rfl rfl rfl rfl (by first | (simp; done) | (simp [setAt]; done)) rfl ?_
      refine q_mv rfl ?_
      refine q_mv rfl ?_
      refine q_mv rfl ?_
      refine q_mv rfl ?_
      refine q_rd rfl (c_spec_reader_pick bs hb hbl _ (by omega) 16 (by omega) (by omega)) rfl rfl (fun _ => (by first | exact trivial | exact Sub.nil | exact Sub.set (Sub.refl _) _ _ (by simp) | exact SubL.sub (by repeat (first | exact SubL.nil | apply SubL.none | apply SubL.some | apply SubL.sh | apply SubL.eq)) | (refine Sub.of_eq ?_; intro o ob h; rcases o with _ | _ | _ | _ | o <;> simp_all))) ?_
      rintro _ q50 ⟨a, rfl, q_a, rfl⟩
      refine q_lit (xs := [i64 15, i64 14, i64 a, i64 16]) rfl rfl rfl rfl ?_
      refine q_rd rfl (c_spec_reader_one bs hb hbl _ (by omega) [15, 14, a, 16] (by simp) (by simp) (by omega)) rfl rfl (fun _ => (by first | exact trivial | exact Sub.nil | exact Sub.set (Sub.refl _) _ _ (by simp) | exact SubL.sub (by repeat (first | exact SubL.nil | apply SubL.none | apply SubL.some | apply SubL.sh | apply SubL.eq)) | (refine Sub.of_eq ?_; intro o ob h; rcases o with _ | _ | _ | _ | o <;> simp_all))) ?_
      rintro _ q52 ⟨c, rfl, q_c, rfl⟩
      first | refine q_store rfl rfl rfl rfl rfl rfl ⟨rfl, rfl, by simp, rfl, by simp [isOne]⟩ rfl (by first | exact trivial | exact Sub.nil | exact Sub.refl _ | exact Sub.app _ _ | exact SubL.sub (by repeat (first | exact SubL.nil | apply SubL.none | apply SubL.some | apply SubL.sh | apply SubL.eq)) | (refine Sub.of_eq ?_; intro o ob h; rcases o with _ | _ | _ | _ | _ | o <;> simp_all)) ?_ | refine q_storeF rfl rfl rfl rfl rfl (by simp) (by first | exact trivial | exact Sub.nil | exact Sub.refl _ | exact Sub.app _ _ | exact SubL.sub (by repeat (first | exact SubL.nil | apply SubL.none | apply SubL.some | apply SubL.sh | apply SubL.eq)) | (refine Sub.of_eq ?_; intro o ob h; rcases o with _ | _ | _ | _ | _ | o <;> simp_all)) ?_ | refine q_store rfl rfl rfl rfl rfl rfl ⟨rfl, rfl, by simp, by simp [setAt, isCell_own, isCell_sl, isCell_int, isCell_nils], by simp [isOne]⟩ rfl (by first | exact trivial | exact Sub.nil | exact Sub.refl _ | exact Sub.app _ _ | exact SubL.sub (by repeat (first | exact SubL.nil | apply SubL.none | apply SubL.some | apply SubL.sh | apply SubL.eq)) | (refine Sub.of_eq ?_; intro o ob h; rcases o with _ | _ | _ | _ | _ | o <;> simp_all)) ?_
      refine q_mv rfl ?_
      refine q_mv rfl ?_
      refine q_mv rfl ?_
      refine rg_nil ?_
      refine VS_ret ?_
      have hv : (v : Int) = ((v.toNat : Nat) : Int) := by omega
      exact Bd.now ⟨_, rfl, ks, cs, v.toNat, _, _, by rw [← hv], ⟨⟨hx1, hx2⟩, hx3, hx4⟩, by omega, by omega, by omega⟩
  · try simp at g26
    refine q_f rfl ?_
    refine q_f rfl ?_
    refine q_f rfl ?_
    refine q_f rfl ?_
    refine q_f rfl ?_
    refine q_pick_f rfl rfl ?_
    refine q_mv rfl ?_
    refine q_f rfl ?_
    refine q_f rfl ?_
    refine q_f rfl ?_
    refine q_pick_f rfl rfl ?_
    refine rg_nil ?_
    refine VS_cond rfl (fun e => by cases e) (fun _ => ?_)
    refine VS_skip ?_
    refine VS_seq ?_
    refine VS_r2 [none, none, some ⟨25, 2, [.agg [.pv (ints (ks)), .pv (ints (cs))]]⟩] hmix (SubL.sub (by repeat (first | exact SubL.nil | apply SubL.none | apply SubL.some | apply SubL.sh | apply SubL.eq))) ?_
    first | refine q_load_c rfl rfl rfl ?_ | refine q_load_ra rfl rfl rfl rfl rfl (by first | (simp; done) | (simp [setAt]; done)) rfl ?_
    refine q_mv rfl ?_
    refine q_mv rfl ?_
    refine q_mv rfl ?_
    refine q_mv rfl ?_
    refine q_rd rfl (c_spec_reader_pick bs hb hbl _ (by omega) 16 (by omega) (by omega)) rfl rfl (fun _ => (by first | exact trivial | exact Sub.nil | exact Sub.set (Sub.refl _) _ _ (by simp) | exact SubL.sub (by repeat (first | exact SubL.nil | apply SubL.none | apply SubL.some | apply SubL.sh | apply SubL.eq)) | (refine Sub.of_eq ?_; intro o ob h; rcases o with _ | _ | _ | _ | o <;> simp_all))) ?_
    rintro _ q50 ⟨a, rfl, q_a, rfl⟩
    refine q_lit (xs := [i64 15, i64 14, i64 a, i64 16]) rfl rfl rfl rfl ?_
    refine q_rd rfl (c_spec_reader_one bs hb hbl _ (by omega) [15, 14, a, 16] (by simp) (by simp) (by omega)) rfl rfl (fun _ => (by first | exact trivial | exact Sub.nil | exact Sub.set (Sub.refl _) _ _ (by simp) | exact SubL.sub (by repeat (first | exact SubL.nil | apply SubL.none | apply SubL.some | apply SubL.sh | apply SubL.eq)) | (refine Sub.of_eq ?_; intro o ob h; rcases o with _ | _ | _ | _ | o <;> simp_all))) ?_
    rintro _ q52 ⟨c, rfl, q_c, rfl⟩
    first | refine q_store rfl rfl rfl rfl rfl rfl ⟨rfl, rfl, by simp, rfl, by simp [isOne]⟩ rfl (by first | exact trivial | exact Sub.nil | exact Sub.refl _ | exact Sub.app _ _ | exact SubL.sub (by repeat (first | exact SubL.nil | apply SubL.none | apply SubL.some | apply SubL.sh | apply SubL.eq)) | (refine Sub.of_eq ?_; intro o ob h; rcases o with _ | _ | _ | _ | _ | o <;> simp_all)) ?_ | refine q_storeF rfl rfl rfl rfl rfl (by simp) (by first | exact trivial | exact Sub.nil | exact Sub.refl _ | exact Sub.app _ _ | exact SubL.sub (by repeat (first | exact SubL.nil | apply SubL.none | apply SubL.some | apply SubL.sh | apply SubL.eq)) | (refine Sub.of_eq ?_; intro o ob h; rcases o with _ | _ | _ | _ | _ | o <;> simp_all)) ?_ | refine q_store rfl rfl rfl rfl rfl rfl ⟨rfl, rfl, by simp, by simp [setAt, isCell_own, isCell_sl, isCell_int, isCell_nils], by simp [isOne]⟩ rfl (by first | exact trivial | exact Sub.nil | exact Sub.refl _ | exact Sub.app _ _ | exact SubL.sub (by repeat (first | exact SubL.nil | apply SubL.none | apply SubL.some | apply SubL.sh | apply SubL.eq)) | (refine Sub.of_eq ?_; intro o ob h; rcases o with _ | _ | _ | _ | _ | o <;> simp_all)) ?_
    refine q_mv rfl ?_
    refine q_mv rfl ?_
    refine q_mv rfl ?_
    refine rg_nil ?_
    refine VS_ret ?_
    have hv : (v : Int) = ((v.toNat : Nat) : Int) := by omega
    exact Bd.now ⟨_, rfl, ks, cs, v.toNat, _, _, by rw [← hv], ⟨⟨hx1, hx2⟩, hx3, hx4⟩, by omega, by omega, by omega⟩
end Go.V

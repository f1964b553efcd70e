/- A part of the proofs about laws of the page tree (see the text that bears the law): a small language of steps, its rules, and what the functions of the program return. -/
import Derived.Test.YtmckgagiibllpaaWKo
import Derived.Test.YtmckgagiibllpaaPJ
set_option linter.all false
set_option linter.unusedVariables false
set_option linter.unusedSimpArgs false
set_option maxHeartbeats 4000000
namespace Go.V
open Go.Proofs.Try (prog)
theorem c_spec_DrawJoinRows (bs : List Int) (hb : isU8 bs) (hl : bs.length ≤ 1048576) : PCon prog 28 [u8s bs] (fun p => ∃ (xs ys : List (Int × Int)), p = .tup [prs xs, prs ys] ∧ xs.length ≤ 25 ∧ ys.length ≤ 25) := by
  refine con_of_VS sl_spec_DrawJoinRows (by simp) ?_
  refine VS_seq ?_
  refine VS_r0 rfl ?_
  refine q_mv rfl ?_
  refine q_mv rfl ?_
  refine rg_nil ?_
  refine VS_seq ?_
  refine VS_r0 rfl ?_
  refine q_mv rfl ?_
  refine q_newRd rfl (c_spec_newReader _ hb hl) rfl (fun _ => (by first | exact trivial | exact Sub.nil | exact Sub.refl _ | exact Sub.app _ _ | exact SubL.sub (by repeat (first | exact SubL.nil | apply SubL.none | apply SubL.some | apply SubL.sh | apply SubL.eq)) | (refine Sub.of_eq ?_; intro o ob h; rcases o with _ | _ | _ | _ | _ | o <;> simp_all))) ?_
  rintro bs ⟨hb, hbl⟩
  refine q_mv rfl ?_
  refine rg_nil ?_
  refine VS_seq ?_
  refine VS_r0 rfl ?_
  refine q_mv rfl ?_
  refine q_rdn rfl (c_spec_anyRow bs hb hbl _ (by omega) (by omega)) (fun _ _ => rfl) rfl rfl (fun _ _ => (by first | exact trivial | exact Sub.nil | exact Sub.set (Sub.refl _) _ _ (by simp) | exact SubL.sub (by repeat (first | exact SubL.nil | apply SubL.none | apply SubL.some | apply SubL.sh | apply SubL.eq)) | (refine Sub.of_eq ?_; intro o ob h; rcases o with _ | _ | _ | _ | o <;> simp_all))) ?_
  rintro xs q10 ⟨⟨hx1, hx2⟩, hq1, hq2⟩
  refine q_mv rfl ?_
  refine rg_nil ?_
  refine VS_bd (Bd.pure 5 1 48 2 (xs := dP xs) rfl rfl (toPVs_dP _) ?_)
  refine VS_seq ?_
  refine VS_r0 rfl ?_
  refine q_mv rfl ?_
  refine q_mv rfl ?_
  first | refine q_len_m rfl ?_ | refine q_len_s rfl ?_ | refine q_len_o rfl ?_ | refine q_len_n rfl ?_ | refine q_len_x rfl ?_
  refine q_add rfl rfl (inR64 (by omega)) ?_
  refine q_rd rfl (c_spec_reader_pick bs hb hbl _ (by omega) (xs.length + 1) (by omega) (by omega)) rfl rfl (fun _ => (by first | exact trivial | exact Sub.nil | exact Sub.set (Sub.refl _) _ _ (by simp) | exact SubL.sub (by repeat (first | exact SubL.nil | apply SubL.none | apply SubL.some | apply SubL.sh | apply SubL.eq)) | (refine Sub.of_eq ?_; intro o ob h; rcases o with _ | _ | _ | _ | o <;> simp_all))) ?_
  rintro _ q15 ⟨v, rfl, q_v, rfl⟩
  refine q_mv rfl ?_
  refine rg_nil ?_
  refine VS_seq ?_
  refine VS_seq ?_
  refine VS_r0 rfl ?_
  refine q_mv rfl ?_
  refine q_rd rfl (c_spec_reader_pick bs hb hbl _ (by omega) 5 (by omega) (by omega)) rfl rfl (fun _ => (by first | exact trivial | exact Sub.nil | exact Sub.set (Sub.refl _) _ _ (by simp) | exact SubL.sub (by repeat (first | exact SubL.nil | apply SubL.none | apply SubL.some | apply SubL.sh | apply SubL.eq)) | (refine Sub.of_eq ?_; intro o ob h; rcases o with _ | _ | _ | _ | o <;> simp_all))) ?_
  rintro _ q17 ⟨u, rfl, q_u, rfl⟩
  refine q_eql rfl rfl ?_
  refine rg_nil ?_
  refine VS_cond rfl (fun c0 => ?_) (fun c0 => ?_)
  · try simp at c0
    refine VS_seq ?_
    refine VS_r0 rfl ?_
    refine q_mv rfl ?_
    refine q_mv rfl ?_
    refine q_rdn rfl (c_spec_anyRow bs hb hbl _ (by omega) (by omega)) (fun _ _ => rfl) rfl rfl (fun _ _ => (by first | exact trivial | exact Sub.nil | exact Sub.set (Sub.refl _) _ _ (by simp) | exact SubL.sub (by repeat (first | exact SubL.nil | apply SubL.none | apply SubL.some | apply SubL.sh | apply SubL.eq)) | (refine Sub.of_eq ?_; intro o ob h; rcases o with _ | _ | _ | _ | o <;> simp_all))) ?_
    rintro ys q21 ⟨⟨hy1, hy2⟩, hq3, hq4⟩
    refine q_mv rfl ?_
    refine q_mv rfl ?_
    refine rg_nil ?_
    refine VS_ret ?_
    refine Bd.pureB 3 2 48 2 (xs := dP ys) rfl rfl (toPVs_dP _) ?_
    exact Bd.now ⟨_, rfl, xs, ys, rfl, hx1, hy1⟩
  · try simp at c0
    refine VS_skip ?_
    refine VS_seq ?_
    refine VS_r2 [] hmix Sub.nil ?_
    refine q_mv rfl ?_
    refine q_mv rfl ?_
    refine q_slc_m (xs := xs) (f := pairP) 0 v.toNat rfl rfl rfl ⟨rfl, by omega, by omega, by omega⟩ (fun _ => rfl) ?_
    refine q_mv rfl ?_
    refine q_mv rfl ?_
    refine q_slc_m (xs := xs) (f := pairP) v.toNat xs.length rfl rfl rfl ⟨by omega, by simp, by omega, by omega⟩ (fun _ => rfl) ?_
    refine q_new rfl (c_spec_copyRow ((xs.take v.toNat).drop 0) (by simp; omega)) (flat_P _) (by first | rfl | (repeat' (first | exact toRs_nil | refine toRs_cons ?_ ?_ | rfl | exact toR_I rfl | exact toR_P rfl | refine toR_agg2 ?_ ?_ | refine toR_agg3 ?_ ?_ ?_))) (by first | exact trivial | exact Sub.nil | exact Sub.refl _ | exact Sub.app _ _ | exact SubL.sub (by repeat (first | exact SubL.nil | apply SubL.none | apply SubL.some | apply SubL.sh | apply SubL.eq)) | (refine Sub.of_eq ?_; intro o ob h; rcases o with _ | _ | _ | _ | _ | o <;> simp_all)) ?_
    refine q_new rfl (c_spec_copyRow ((xs.take xs.length).drop v.toNat) (by simp; omega)) (flat_P _) (by first | rfl | (repeat' (first | exact toRs_nil | refine toRs_cons ?_ ?_ | rfl | exact toR_I rfl | exact toR_P rfl | refine toR_agg2 ?_ ?_ | refine toR_agg3 ?_ ?_ ?_))) (by first | exact trivial | exact Sub.nil | exact Sub.refl _ | exact Sub.app _ _ | exact SubL.sub (by repeat (first | exact SubL.nil | apply SubL.none | apply SubL.some | apply SubL.sh | apply SubL.eq)) | (refine Sub.of_eq ?_; intro o ob h; rcases o with _ | _ | _ | _ | _ | o <;> simp_all)) ?_
    refine q_mv rfl ?_
    refine q_mv rfl ?_
    refine rg_nil ?_
    refine VS_bd (Bd.pure 2 2 48 2 (xs := dP ((xs.take v.toNat).drop 0)) rfl rfl (toPVs_dP _) ?_)
    refine VS_bd (Bd.pure 3 3 48 2 (xs := dP ((xs.take xs.length).drop v.toNat)) rfl rfl (toPVs_dP _) ?_)
    refine VS_ret ?_
    exact Bd.now ⟨_, rfl, _, _, rfl, by simp; omega, by simp; omega⟩
theorem c_laws_join (xs ys : List (Int × Int)) (hx : xs.length ≤ 1000000) (hy : ys.length ≤ 1000000) : PCon prog 32 [prs xs, prs ys] (fun p => p = prs (xs ++ ys)) := by
  refine con_of_VS sl_laws_join (by simp) ?_
  refine VS_seq ?_
  refine VS_r0 rfl ?_
  refine q_mv rfl ?_
  refine rg_nil ?_
  refine VS_seq ?_
  refine VS_r0 rfl ?_
  refine q_lit0 ?_
  refine q_mv rfl ?_
  refine q_app_zm (ys := xs) (f := fun k => .pv (pairP k)) rfl (elems_P xs) (cell_P xs) ⟨by omega, by omega⟩ (by first | exact trivial | exact Sub.nil | exact Sub.refl _ | exact Sub.app _ _ | exact SubL.sub (by repeat (first | exact SubL.nil | apply SubL.none | apply SubL.some | apply SubL.sh | apply SubL.eq)) | (refine Sub.of_eq ?_; intro o ob h; rcases o with _ | _ | _ | _ | _ | o <;> simp_all)) ?_
  refine q_mv rfl ?_
  refine q_app_dm (xs := xs) (ys := ys) (f := fun k => .pv (pairP k)) rfl (elems_P _) (cell_P _) rfl ⟨by omega, by omega⟩ (by first | exact trivial | exact Sub.nil | exact Sub.refl _ | exact Sub.app _ _ | exact SubL.sub (by repeat (first | exact SubL.nil | apply SubL.none | apply SubL.some | apply SubL.sh | apply SubL.eq)) | (refine Sub.of_eq ?_; intro o ob h; rcases o with _ | _ | _ | _ | _ | o <;> simp_all)) ?_
  refine q_mv rfl ?_
  refine rg_nil ?_
  refine VS_ret ?_
  refine Bd.pureB 4 1 48 2 (xs := dP (xs ++ ys)) rfl rfl (toPVs_dP _) ?_
  exact Bd.now ⟨_, rfl, rfl⟩
end Go.V

/- A part of the proofs about laws of the page tree (see the text that bears the law): a small language of steps, its rules, and what the functions of the program return. -/
import Derived.Test.YtmckgagiibllpaaWKc
import Derived.Test.YtmckgagiibllpaaPM
set_option linter.all false
set_option linter.unusedVariables false
set_option linter.unusedSimpArgs false
namespace Go.V
open Go.Proofs.Try (prog)
theorem c_laws_FnRouteKey (bs : List Int) (hb : isU8 bs) : PCon prog 5 [u8s bs] (fun p => p = .bool true) := by
  refine con_of_VS sl_laws_FnRouteKey (by simp) ?_
  refine VS_seq ?_
  refine VS_r0 rfl ?_
  refine q_mv rfl ?_
  refine rg_nil ?_
  refine VS_seq ?_
  refine VS_seq ?_
  refine VS_r0 rfl ?_
  refine q_mv rfl ?_
  first | refine q_len_m rfl ?_ | refine q_len_s rfl ?_ | refine q_len_o rfl ?_ | refine q_len_n rfl ?_ | refine q_len_x rfl ?_
  refine q_gtr rfl rfl ?_
  refine rg_nil ?_
  refine VS_cond rfl (fun c0 => ?_) (fun c0 => ?_)
  · try simp at c0
    refine VS_seq ?_
    refine VS_r0 rfl ?_
    refine q_mv rfl ?_
    refine rg_nil ?_
    refine VS_ret ?_
    exact Bd.now ⟨_, rfl, rfl⟩
  · try simp at c0
    refine VS_skip ?_
    refine VS_seq ?_
    refine VS_r0 rfl ?_
    refine q_mv rfl ?_
    refine q_calle rfl (c_spec_DrawRouteKey bs hb (by omega)) rfl (by first | exact trivial | exact Sub.nil | exact Sub.refl _ | exact Sub.app _ _ | exact SubL.sub (by repeat (first | exact SubL.nil | apply SubL.none | apply SubL.some | apply SubL.eq)) | (intro o ob h; rcases o with _ | _ | _ | _ | _ | o <;> simp_all)) ?_
    rintro _ ⟨ks, cs, k, rfl, ⟨⟨hx1, hx2⟩, hx3, hx4⟩, hk1, hk2⟩
    refine q_mv rfl ?_
    refine q_ext rfl rfl ?_
    refine q_ext rfl rfl ?_
    refine q_alloc (by first | exact trivial | exact Sub.nil | exact Sub.refl _ | exact Sub.app _ _ | exact SubL.sub (by repeat (first | exact SubL.nil | apply SubL.none | apply SubL.some | apply SubL.eq)) | (intro o ob h; rcases o with _ | _ | _ | _ | _ | o <;> simp_all)) ?_
    first | refine q_store rfl rfl rfl rfl rfl rfl ⟨rfl, rfl, by simp, rfl, by simp [isOne]⟩ rfl (by first | exact trivial | exact Sub.nil | exact Sub.refl _ | exact Sub.app _ _ | exact SubL.sub (by repeat (first | exact SubL.nil | apply SubL.none | apply SubL.some | apply SubL.eq)) | (intro o ob h; rcases o with _ | _ | _ | _ | _ | o <;> simp_all)) ?_ | refine q_storeF rfl rfl rfl rfl rfl (by simp) (by first | exact trivial | exact Sub.nil | exact Sub.refl _ | exact Sub.app _ _ | exact SubL.sub (by repeat (first | exact SubL.nil | apply SubL.none | apply SubL.some | apply SubL.eq)) | (intro o ob h; rcases o with _ | _ | _ | _ | _ | o <;> simp_all)) ?_ | refine q_store rfl rfl rfl rfl rfl rfl ⟨rfl, rfl, by simp, by simp [setAt, isCell_own, isCell_sl, isCell_int, isCell_nils], by simp [isOne]⟩ rfl (by first | exact trivial | exact Sub.nil | exact Sub.refl _ | exact Sub.app _ _ | exact SubL.sub (by repeat (first | exact SubL.nil | apply SubL.none | apply SubL.some | apply SubL.eq)) | (intro o ob h; rcases o with _ | _ | _ | _ | _ | o <;> simp_all)) ?_
    refine q_mv rfl ?_
    refine rg_nil ?_
    refine VS_seq ?_
    cases hg : goodInner ks cs
    · skip
      refine VS_r0 rfl ?_
      first | refine q_load_c rfl rfl rfl ?_ | refine q_load_ra rfl rfl rfl rfl rfl (by first | (simp; done) | (simp [setAt]; done)) rfl ?_
      refine q_mv rfl ?_
      refine q_callp (x := i64 (-1)) ((c_impl_RouteKey ks cs k (by omega) (by omega)).mono fun p e => e.trans (by rw [if_neg (by simp [hg])])) rfl (by first | exact trivial | exact Sub.nil | exact Sub.refl _ | exact Sub.app _ _ | exact SubL.sub (by repeat (first | exact SubL.nil | apply SubL.none | apply SubL.some | apply SubL.eq)) | (intro o ob h; rcases o with _ | _ | _ | _ | _ | o <;> simp_all)) ?_
      refine q_mv rfl ?_
      refine rg_nil ?_
      refine VS_seq ?_
      refine VS_seq ?_
      refine VS_r0 rfl ?_
      refine q_mv rfl ?_
      first | refine q_load_c rfl rfl rfl ?_ | refine q_load_ra rfl rfl rfl rfl rfl (by first | (simp; done) | (simp [setAt]; done)) rfl ?_
      refine q_mv rfl ?_
      refine q_callp (x := i64 (-1)) ((c_spec_RouteKey ks cs k (by omega) (by omega)).mono fun p e => e.trans (by rw [if_neg (by simp [hg])])) rfl (by first | exact trivial | exact Sub.nil | exact Sub.refl _ | exact Sub.app _ _ | exact SubL.sub (by repeat (first | exact SubL.nil | apply SubL.none | apply SubL.some | apply SubL.eq)) | (intro o ob h; rcases o with _ | _ | _ | _ | _ | o <;> simp_all)) ?_
      refine q_neq_v false rfl rfl (by first | exact decide_eq_true (by omega) | exact decide_eq_false (by omega) | exact nd_t (by omega) | exact nd_f (by omega) | (simp; done) | (simp; omega) | (simp [*]; done) | (simp_all; done) | (simp_all; omega)) ?_
      refine q_mv rfl ?_
      refine q_t rfl ?_
      refine q_mv rfl ?_
      refine q_t rfl ?_
      refine q_lss_v true rfl rfl (by first | exact decide_eq_true (by omega) | exact decide_eq_false (by omega) | exact nd_t (by omega) | exact nd_f (by omega) | (simp; done) | (simp; omega) | (simp [*]; done) | (simp_all; done) | (simp_all; omega)) ?_
      refine q_pick_f rfl rfl ?_
      refine rg_nil ?_
      refine VS_cond rfl (fun _ => ?_) (fun e => by cases e)
      refine VS_seq ?_
      refine VS_r0 rfl ?_
      refine q_mv rfl ?_
      first | refine q_load_c rfl rfl rfl ?_ | refine q_load_ra rfl rfl rfl rfl rfl (by first | (simp; done) | (simp [setAt]; done)) rfl ?_
      refine q_mv rfl ?_
      refine q_callp (x := i64 (-1)) ((c_spec_RouteKey ks cs k (by omega) (by omega)).mono fun p e => e.trans (by rw [if_neg (by simp [hg])])) rfl (by first | exact trivial | exact Sub.nil | exact Sub.refl _ | exact Sub.app _ _ | exact SubL.sub (by repeat (first | exact SubL.nil | apply SubL.none | apply SubL.some | apply SubL.eq)) | (intro o ob h; rcases o with _ | _ | _ | _ | _ | o <;> simp_all)) ?_
      refine q_eql_v true rfl rfl (by first | exact decide_eq_true (by omega) | exact decide_eq_false (by omega) | exact nd_t (by omega) | exact nd_f (by omega) | (simp; done) | (simp; omega) | (simp [*]; done) | (simp_all; done) | (simp_all; omega)) ?_
      refine q_mv rfl ?_
      refine rg_nil ?_
      refine VS_ret ?_
      exact Bd.now ⟨_, rfl, rfl⟩
    · skip
      have l1 := goodInner_len hg
      have l2 := upTo_le ks k
      have l3 := goodInner_keys hg
      have l4 := goodInner_one hg
      have l5 := goodInner_kid hg (j := upTo ks k) (by omega)
      refine VS_r0 rfl ?_
      first | refine q_load_c rfl rfl rfl ?_ | refine q_load_ra rfl rfl rfl rfl rfl (by first | (simp; done) | (simp [setAt]; done)) rfl ?_
      refine q_mv rfl ?_
      refine q_callp (x := i64 (nth cs (upTo ks k))) ((c_impl_RouteKey ks cs k (by omega) (by omega)).mono fun p e => e.trans (by rw [if_pos hg])) rfl (by first | exact trivial | exact Sub.nil | exact Sub.refl _ | exact Sub.app _ _ | exact SubL.sub (by repeat (first | exact SubL.nil | apply SubL.none | apply SubL.some | apply SubL.eq)) | (intro o ob h; rcases o with _ | _ | _ | _ | _ | o <;> simp_all)) ?_
      refine q_mv rfl ?_
      refine rg_nil ?_
      refine VS_seq ?_
      refine VS_seq ?_
      refine VS_r0 rfl ?_
      refine q_mv rfl ?_
      first | refine q_load_c rfl rfl rfl ?_ | refine q_load_ra rfl rfl rfl rfl rfl (by first | (simp; done) | (simp [setAt]; done)) rfl ?_
      refine q_mv rfl ?_
      refine q_callp (x := i64 (nth cs (upTo ks k))) ((c_spec_RouteKey ks cs k (by omega) (by omega)).mono fun p e => e.trans (by rw [if_pos hg])) rfl (by first | exact trivial | exact Sub.nil | exact Sub.refl _ | exact Sub.app _ _ | exact SubL.sub (by repeat (first | exact SubL.nil | apply SubL.none | apply SubL.some | apply SubL.eq)) | (intro o ob h; rcases o with _ | _ | _ | _ | _ | o <;> simp_all)) ?_
      refine q_neq_v false rfl rfl (by first | exact decide_eq_true (by omega) | exact decide_eq_false (by omega) | exact nd_t (by omega) | exact nd_f (by omega) | (simp; done) | (simp; omega) | (simp [*]; done) | (simp_all; done) | (simp_all; omega)) ?_
      refine q_mv rfl ?_
      refine q_t rfl ?_
      refine q_mv rfl ?_
      refine q_t rfl ?_
      refine q_lss_v false rfl rfl (by first | exact decide_eq_true (by omega) | exact decide_eq_false (by omega) | exact nd_t (by omega) | exact nd_f (by omega) | (simp; done) | (simp; omega) | (simp [*]; done) | (simp_all; done) | (simp_all; omega)) ?_
      refine q_pick_f rfl rfl ?_
      refine rg_nil ?_
      refine VS_cond rfl (fun e => by cases e) (fun _ => ?_)
      refine VS_skip ?_
      refine VS_seq ?_
      refine VS_seq ?_
      refine VS_r0 rfl ?_
      refine q_mv rfl ?_
      refine rg_nil ?_
      refine VS_block ?_
      refine VS_bd (Bd.keepL [(2, .pv (.bool false)), (3, .ptr 0 0 0), (4, .pv (i64 k)), (5, .pv (i64 (nth cs (upTo ks k)))), (6, .pv (i64 0))] ⟨rfl, rfl, rfl, rfl, rfl, trivial⟩ ?_)
      refine VS_loop (fun mz E S => ∃ i : Nat, mz = ks.length - i ∧ (i ≤ ks.length) ∧ E = env [(2, .pv (.bool false)), (3, .ptr 0 0 0), (4, .pv (i64 k)), (5, .pv (i64 (nth cs (upTo ks k)))), (6, .pv (i64 i))] ∧ S = [some ⟨25, 2, [.agg [.pv (ints ks), .pv (ints cs)]]⟩]) ⟨_, 0, rfl, (by first | omega | (intros; omega) | simp), rfl, rfl⟩ ?_
      rintro mz _ _ ⟨i, hmeas, g0, rfl, rfl⟩
      refine VS_seq ?_
      refine VS_seq ?_
      refine VS_r0 rfl ?_
      refine q_mv rfl ?_
      first | refine q_fld_r rfl ?_ | refine q_fld_c rfl rfl ?_
      first | refine q_load_c rfl rfl rfl ?_ | refine q_load_r rfl rfl rfl rfl rfl rfl rfl ?_ | refine q_load_o rfl rfl rfl rfl rfl ?_
      first | refine q_len_m rfl ?_ | refine q_len_s rfl ?_ | refine q_len_o rfl ?_ | refine q_len_n rfl ?_ | refine q_len_x rfl ?_
      refine q_lss rfl rfl ?_
      refine rg_nil ?_
      refine VS_cond rfl (fun c2 => ?_) (fun c2 => ?_)
      · try simp at c2
        have l7 := goodKeys_mem l3 (j := i) (by omega)
        refine VS_skip ?_
        refine VS_seq ?_
        refine VS_block ?_
        refine VS_seq ?_
        refine VS_seq ?_
        refine VS_r2 _ hmix (Sub.refl _) ?_
        first | refine q_load_c rfl rfl rfl ?_ | refine q_load_ra rfl rfl rfl rfl rfl (by first | (simp; done) | (simp [setAt]; done)) rfl ?_
        first | refine q_fld_r rfl ?_ | refine q_fld_c rfl rfl ?_
        first | refine q_load_c rfl rfl rfl ?_ | refine q_load_r rfl rfl rfl rfl rfl rfl rfl ?_ | refine q_load_o rfl rfl rfl rfl rfl ?_
        refine q_mv rfl ?_
        first | refine q_idx_c _ rfl rfl (by omega) (fun _ => rfl) ?_ | refine q_idx_m rfl rfl (by omega) (by omega) (fun _ => rfl) ?_ | refine q_idx_om rfl rfl (by omega) (by omega) rfl rfl ?_
        first | refine q_load_c rfl rfl rfl ?_ | refine q_load_r rfl rfl rfl rfl rfl rfl rfl ?_ | refine q_load_o rfl rfl rfl rfl rfl ?_
        first | refine q_fld_r rfl ?_ | refine q_fld_c rfl rfl ?_
        first | refine q_load_c rfl rfl rfl ?_ | refine q_load_r rfl rfl rfl rfl rfl rfl rfl ?_ | refine q_load_o rfl rfl rfl rfl rfl ?_
        refine q_mv rfl ?_
        refine q_add rfl rfl (inR64 (by omega)) ?_
        first | refine q_idx_c _ rfl rfl (by omega) (fun _ => rfl) ?_ | refine q_idx_m rfl rfl (by omega) (by omega) (fun _ => rfl) ?_ | refine q_idx_om rfl rfl (by omega) (by omega) rfl rfl ?_
        first | refine q_load_c rfl rfl rfl ?_ | refine q_load_r rfl rfl rfl rfl rfl rfl rfl ?_ | refine q_load_o rfl rfl rfl rfl rfl ?_
        refine q_callp (x := i64 (nth cs (upTo ks (nth ks i)))) ((c_impl_RouteKey ks cs (nth ks i) (by omega) (by omega)).mono fun p e => e.trans (by rw [if_pos hg])) rfl (by first | exact trivial | exact Sub.nil | exact Sub.refl _ | exact Sub.app _ _ | exact SubL.sub (by repeat (first | exact SubL.nil | apply SubL.none | apply SubL.some | apply SubL.eq)) | (intro o ob h; rcases o with _ | _ | _ | _ | _ | o <;> simp_all)) ?_
        refine q_neq_v false rfl rfl (by rw [upTo_nth l3 (by omega), nat_i1]; simp) ?_
        refine rg_nil ?_
        refine VS_cond rfl (fun e => by cases e) (fun _ => ?_)
        refine VS_skip ?_
        refine VS_seq ?_
        refine VS_r2 _ hmix (Sub.refl _) ?_
        refine q_mv rfl ?_
        refine q_eql rfl rfl ?_
        refine q_mv rfl ?_
        refine q_b rfl (fun g55 => ?_) (fun g55 => ?_)
        · try simp at g55
          refine q_t rfl ?_
          first | refine q_fld_r rfl ?_ | refine q_fld_c rfl rfl ?_
          refine q_t rfl ?_
          first | refine q_load_c rfl rfl rfl ?_ | refine q_load_r rfl rfl rfl rfl rfl rfl rfl ?_ | refine q_load_o rfl rfl rfl rfl rfl ?_
          refine q_t rfl ?_
          refine q_mv rfl ?_
          refine q_t rfl ?_
          refine q_sub rfl rfl (inR64 (by omega)) ?_
          refine q_t rfl ?_
          first | refine q_idx_c _ rfl rfl (by omega) (fun _ => rfl) ?_ | refine q_idx_m rfl rfl (by omega) (by omega) (fun _ => rfl) ?_ | refine q_idx_om rfl rfl (by omega) (by omega) rfl rfl ?_
          refine q_t rfl ?_
          first | refine q_load_c rfl rfl rfl ?_ | refine q_load_r rfl rfl rfl rfl rfl rfl rfl ?_ | refine q_load_o rfl rfl rfl rfl rfl ?_
          refine q_t rfl ?_
          first | refine q_fld_r rfl ?_ | refine q_fld_c rfl rfl ?_
          refine q_t rfl ?_
          first | refine q_load_c rfl rfl rfl ?_ | refine q_load_r rfl rfl rfl rfl rfl rfl rfl ?_ | refine q_load_o rfl rfl rfl rfl rfl ?_
          refine q_t rfl ?_
          refine q_mv rfl ?_
          refine q_t rfl ?_
          first | refine q_idx_c _ rfl rfl (by omega) (fun _ => rfl) ?_ | refine q_idx_m rfl rfl (by omega) (by omega) (fun _ => rfl) ?_ | refine q_idx_om rfl rfl (by omega) (by omega) rfl rfl ?_
          refine q_t rfl ?_
          first | refine q_load_c rfl rfl rfl ?_ | refine q_load_r rfl rfl rfl rfl rfl rfl rfl ?_ | refine q_load_o rfl rfl rfl rfl rfl ?_
          refine q_t rfl ?_
          refine q_sub rfl rfl (inR64 (by omega)) ?_
          refine q_t rfl ?_
          refine q_lss rfl rfl ?_
          refine q_pick_f rfl rfl ?_
          refine q_mv rfl ?_
          refine q_b rfl (fun g70 => ?_) (fun g70 => ?_)
          · try simp at g70
            refine q_t rfl ?_
            first | refine q_load_c rfl rfl rfl ?_ | refine q_load_ra rfl rfl rfl rfl rfl (by first | (simp; done) | (simp [setAt]; done)) rfl ?_
            refine q_t rfl ?_
            first | refine q_fld_r rfl ?_ | refine q_fld_c rfl rfl ?_
            refine q_t rfl ?_
            first | refine q_load_c rfl rfl rfl ?_ | refine q_load_r rfl rfl rfl rfl rfl rfl rfl ?_ | refine q_load_o rfl rfl rfl rfl rfl ?_
            refine q_t rfl ?_
            refine q_mv rfl ?_
            refine q_t rfl ?_
            first | refine q_idx_c _ rfl rfl (by omega) (fun _ => rfl) ?_ | refine q_idx_m rfl rfl (by omega) (by omega) (fun _ => rfl) ?_ | refine q_idx_om rfl rfl (by omega) (by omega) rfl rfl ?_
            refine q_t rfl ?_
            first | refine q_load_c rfl rfl rfl ?_ | refine q_load_r rfl rfl rfl rfl rfl rfl rfl ?_ | refine q_load_o rfl rfl rfl rfl rfl ?_
            refine q_t rfl ?_
            refine q_sub rfl rfl (inR64 (by omega)) ?_
            refine q_t rfl ?_
            first | refine q_fld_r rfl ?_ | refine q_fld_c rfl rfl ?_
            refine q_t rfl ?_
            first | refine q_load_c rfl rfl rfl ?_ | refine q_load_r rfl rfl rfl rfl rfl rfl rfl ?_ | refine q_load_o rfl rfl rfl rfl rfl ?_
            refine q_t rfl ?_
            refine q_mv rfl ?_
            refine q_t rfl ?_
            first | refine q_idx_c _ rfl rfl (by omega) (fun _ => rfl) ?_ | refine q_idx_m rfl rfl (by omega) (by omega) (fun _ => rfl) ?_ | refine q_idx_om rfl rfl (by omega) (by omega) rfl rfl ?_
            refine q_t rfl ?_
            first | refine q_load_c rfl rfl rfl ?_ | refine q_load_r rfl rfl rfl rfl rfl rfl rfl ?_ | refine q_load_o rfl rfl rfl rfl rfl ?_
            refine q_t rfl ?_
            refine q_callp (x := i64 (nth cs (upTo ks (nth ks i - 1)))) ((c_impl_RouteKey ks cs (nth ks i - 1) (by omega) (by omega)).mono fun p e => e.trans (by rw [if_pos hg])) rfl (by first | exact trivial | exact Sub.nil | exact Sub.refl _ | exact Sub.app _ _ | exact SubL.sub (by repeat (first | exact SubL.nil | apply SubL.none | apply SubL.some | apply SubL.eq)) | (intro o ob h; rcases o with _ | _ | _ | _ | _ | o <;> simp_all)) ?_
            refine q_t rfl ?_
            refine q_neq_v false rfl rfl (by rw [upTo_pred l3 (by omega)]; simp) ?_
            refine q_pick_t rfl rfl ?_
            refine rg_nil ?_
            refine VS_cond rfl (fun e => by cases e) (fun _ => ?_)
            refine VS_skip ?_
            refine VS_r0 rfl ?_
            refine q_mv rfl ?_
            refine q_add rfl rfl (inR64 (by omega)) ?_
            refine q_mv rfl ?_
            refine rg_nil ?_
            refine Bd.keepL [(2, .pv (.bool false)), (3, .ptr 0 0 0), (4, .pv (i64 k)), (5, .pv (i64 (nth cs (upTo ks k)))), (6, .pv (i64 (i + 1)))] ⟨rfl, rfl, rfl, rfl, rfl, trivial⟩ ⟨_, ?_, i + 1, rfl, ?_, rfl, rfl⟩
            · first | omega | assumption | rfl | (simp; omega)
            · first | omega | assumption | rfl | (simp; omega)
          · try simp at g70
            refine q_f rfl ?_
            refine q_f rfl ?_
            refine q_f rfl ?_
            refine q_f rfl ?_
            refine q_f rfl ?_
            refine q_f rfl ?_
            refine q_f rfl ?_
            refine q_f rfl ?_
            refine q_f rfl ?_
            refine q_f rfl ?_
            refine q_f rfl ?_
            refine q_f rfl ?_
            refine q_f rfl ?_
            refine q_f rfl ?_
            refine q_pick_f rfl rfl ?_
            refine rg_nil ?_
            refine VS_cond rfl (fun e => by cases e) (fun _ => ?_)
            refine VS_skip ?_
            refine VS_r0 rfl ?_
            refine q_mv rfl ?_
            refine q_add rfl rfl (inR64 (by omega)) ?_
            refine q_mv rfl ?_
            refine rg_nil ?_
            refine Bd.keepL [(2, .pv (.bool false)), (3, .ptr 0 0 0), (4, .pv (i64 k)), (5, .pv (i64 (nth cs (upTo ks k)))), (6, .pv (i64 (i + 1)))] ⟨rfl, rfl, rfl, rfl, rfl, trivial⟩ ⟨_, ?_, i + 1, rfl, ?_, rfl, rfl⟩
            · first | omega | assumption | rfl | (simp; omega)
            · first | omega | assumption | rfl | (simp; omega)
        · try simp at g55
          refine q_f rfl ?_
          refine q_f rfl ?_
          refine q_f rfl ?_
          refine q_f rfl ?_
          refine q_f rfl ?_
          refine q_f rfl ?_
          refine q_f rfl ?_
          refine q_f rfl ?_
          refine q_f rfl ?_
          refine q_f rfl ?_
          refine q_f rfl ?_
          refine q_f rfl ?_
          refine q_f rfl ?_
          refine q_pick_t rfl rfl ?_
          refine q_mv rfl ?_
          refine q_t rfl ?_
          first | refine q_load_c rfl rfl rfl ?_ | refine q_load_ra rfl rfl rfl rfl rfl (by first | (simp; done) | (simp [setAt]; done)) rfl ?_
          refine q_t rfl ?_
          first | refine q_fld_r rfl ?_ | refine q_fld_c rfl rfl ?_
          refine q_t rfl ?_
          first | refine q_load_c rfl rfl rfl ?_ | refine q_load_r rfl rfl rfl rfl rfl rfl rfl ?_ | refine q_load_o rfl rfl rfl rfl rfl ?_
          refine q_t rfl ?_
          refine q_mv rfl ?_
          refine q_t rfl ?_
          first | refine q_idx_c _ rfl rfl (by omega) (fun _ => rfl) ?_ | refine q_idx_m rfl rfl (by omega) (by omega) (fun _ => rfl) ?_ | refine q_idx_om rfl rfl (by omega) (by omega) rfl rfl ?_
          refine q_t rfl ?_
          first | refine q_load_c rfl rfl rfl ?_ | refine q_load_r rfl rfl rfl rfl rfl rfl rfl ?_ | refine q_load_o rfl rfl rfl rfl rfl ?_
          refine q_t rfl ?_
          refine q_sub rfl rfl (inR64 (by omega)) ?_
          refine q_t rfl ?_
          first | refine q_fld_r rfl ?_ | refine q_fld_c rfl rfl ?_
          refine q_t rfl ?_
          first | refine q_load_c rfl rfl rfl ?_ | refine q_load_r rfl rfl rfl rfl rfl rfl rfl ?_ | refine q_load_o rfl rfl rfl rfl rfl ?_
          refine q_t rfl ?_
          refine q_mv rfl ?_
          refine q_t rfl ?_
          first | refine q_idx_c _ rfl rfl (by omega) (fun _ => rfl) ?_ | refine q_idx_m rfl rfl (by omega) (by omega) (fun _ => rfl) ?_ | refine q_idx_om rfl rfl (by omega) (by omega) rfl rfl ?_
          refine q_t rfl ?_
          first | refine q_load_c rfl rfl rfl ?_ | refine q_load_r rfl rfl rfl rfl rfl rfl rfl ?_ | refine q_load_o rfl rfl rfl rfl rfl ?_
          refine q_t rfl ?_
          refine q_callp (x := i64 (nth cs (upTo ks (nth ks i - 1)))) ((c_impl_RouteKey ks cs (nth ks i - 1) (by omega) (by omega)).mono fun p e => e.trans (by rw [if_pos hg])) rfl (by first | exact trivial | exact Sub.nil | exact Sub.refl _ | exact Sub.app _ _ | exact SubL.sub (by repeat (first | exact SubL.nil | apply SubL.none | apply SubL.some | apply SubL.eq)) | (intro o ob h; rcases o with _ | _ | _ | _ | _ | o <;> simp_all)) ?_
          refine q_t rfl ?_
          refine q_neq_v false rfl rfl (by rw [upTo_pred l3 (by omega)]; simp) ?_
          refine q_pick_t rfl rfl ?_
          refine rg_nil ?_
          refine VS_cond rfl (fun e => by cases e) (fun _ => ?_)
          refine VS_skip ?_
          refine VS_r0 rfl ?_
          refine q_mv rfl ?_
          refine q_add rfl rfl (inR64 (by omega)) ?_
          refine q_mv rfl ?_
          refine rg_nil ?_
          refine Bd.keepL [(2, .pv (.bool false)), (3, .ptr 0 0 0), (4, .pv (i64 k)), (5, .pv (i64 (nth cs (upTo ks k)))), (6, .pv (i64 (i + 1)))] ⟨rfl, rfl, rfl, rfl, rfl, trivial⟩ ⟨_, ?_, i + 1, rfl, ?_, rfl, rfl⟩
          · first | omega | assumption | rfl | (simp; omega)
          · first | omega | assumption | rfl | (simp; omega)
      · try simp at c2
        refine VS_exit ?_
        refine VS_seq ?_
        refine VS_r0 rfl ?_
        first | refine q_fld_r rfl ?_ | refine q_fld_c rfl rfl ?_
        first | refine q_load_c rfl rfl rfl ?_ | refine q_load_r rfl rfl rfl rfl rfl rfl rfl ?_ | refine q_load_o rfl rfl rfl rfl rfl ?_
        refine q_mv rfl ?_
        refine q_callp (x := .bool true) ((c_laws_isIn _ _ (by omega)).mono fun p e => e.trans (by rw [nth_in (by omega)])) rfl (by first | exact trivial | exact Sub.nil | exact Sub.refl _ | exact Sub.app _ _ | exact SubL.sub (by repeat (first | exact SubL.nil | apply SubL.none | apply SubL.some | apply SubL.eq)) | (intro o ob h; rcases o with _ | _ | _ | _ | _ | o <;> simp_all)) ?_
        refine q_mv rfl ?_
        refine rg_nil ?_
        refine VS_ret ?_
        exact Bd.now ⟨_, rfl, rfl⟩
theorem c_laws_FnRouteKeyOrder (bs : List Int) (hb : isU8 bs) : PCon prog 6 [u8s bs] (fun p => p = .bool true) := by
  refine con_of_VS sl_laws_FnRouteKeyOrder (by simp) ?_
  refine VS_seq ?_
  refine VS_r0 rfl ?_
  refine q_mv rfl ?_
  refine rg_nil ?_
  refine VS_seq ?_
  refine VS_seq ?_
  refine VS_r0 rfl ?_
  refine q_mv rfl ?_
  first | refine q_len_m rfl ?_ | refine q_len_s rfl ?_ | refine q_len_o rfl ?_ | refine q_len_n rfl ?_ | refine q_len_x rfl ?_
  refine q_gtr rfl rfl ?_
  refine rg_nil ?_
  refine VS_cond rfl (fun c0 => ?_) (fun c0 => ?_)
  · try simp at c0
    refine VS_seq ?_
    refine VS_r0 rfl ?_
    refine q_mv rfl ?_
    refine rg_nil ?_
    refine VS_ret ?_
    exact Bd.now ⟨_, rfl, rfl⟩
  · try simp at c0
    refine VS_skip ?_
    refine VS_seq ?_
    refine VS_r0 rfl ?_
    refine q_mv rfl ?_
    refine q_calle rfl (c_spec_DrawRouteKey bs hb (by omega)) rfl (by first | exact trivial | exact Sub.nil | exact Sub.refl _ | exact Sub.app _ _ | exact SubL.sub (by repeat (first | exact SubL.nil | apply SubL.none | apply SubL.some | apply SubL.eq)) | (intro o ob h; rcases o with _ | _ | _ | _ | _ | o <;> simp_all)) ?_
    rintro _ ⟨ks, cs, k, rfl, ⟨⟨hx1, hx2⟩, hx3, hx4⟩, hk1, hk2⟩
    refine q_mv rfl ?_
    refine q_ext rfl rfl ?_
    refine q_ext rfl rfl ?_
    refine q_alloc (by first | exact trivial | exact Sub.nil | exact Sub.refl _ | exact Sub.app _ _ | exact SubL.sub (by repeat (first | exact SubL.nil | apply SubL.none | apply SubL.some | apply SubL.eq)) | (intro o ob h; rcases o with _ | _ | _ | _ | _ | o <;> simp_all)) ?_
    first | refine q_store rfl rfl rfl rfl rfl rfl ⟨rfl, rfl, by simp, rfl, by simp [isOne]⟩ rfl (by first | exact trivial | exact Sub.nil | exact Sub.refl _ | exact Sub.app _ _ | exact SubL.sub (by repeat (first | exact SubL.nil | apply SubL.none | apply SubL.some | apply SubL.eq)) | (intro o ob h; rcases o with _ | _ | _ | _ | _ | o <;> simp_all)) ?_ | refine q_storeF rfl rfl rfl rfl rfl (by simp) (by first | exact trivial | exact Sub.nil | exact Sub.refl _ | exact Sub.app _ _ | exact SubL.sub (by repeat (first | exact SubL.nil | apply SubL.none | apply SubL.some | apply SubL.eq)) | (intro o ob h; rcases o with _ | _ | _ | _ | _ | o <;> simp_all)) ?_ | refine q_store rfl rfl rfl rfl rfl rfl ⟨rfl, rfl, by simp, by simp [setAt, isCell_own, isCell_sl, isCell_int, isCell_nils], by simp [isOne]⟩ rfl (by first | exact trivial | exact Sub.nil | exact Sub.refl _ | exact Sub.app _ _ | exact SubL.sub (by repeat (first | exact SubL.nil | apply SubL.none | apply SubL.some | apply SubL.eq)) | (intro o ob h; rcases o with _ | _ | _ | _ | _ | o <;> simp_all)) ?_
    refine q_mv rfl ?_
    refine rg_nil ?_
    refine VS_seq ?_
    cases hg : goodInner ks cs
    · skip
      refine VS_r0 rfl ?_
      first | refine q_load_c rfl rfl rfl ?_ | refine q_load_ra rfl rfl rfl rfl rfl (by first | (simp; done) | (simp [setAt]; done)) rfl ?_
      refine q_mv rfl ?_
      refine q_callp (x := i64 (-1)) ((c_impl_RouteKey ks cs k (by omega) (by omega)).mono fun p e => e.trans (by rw [if_neg (by simp [hg])])) rfl (by first | exact trivial | exact Sub.nil | exact Sub.refl _ | exact Sub.app _ _ | exact SubL.sub (by repeat (first | exact SubL.nil | apply SubL.none | apply SubL.some | apply SubL.eq)) | (intro o ob h; rcases o with _ | _ | _ | _ | _ | o <;> simp_all)) ?_
      refine q_mv rfl ?_
      refine rg_nil ?_
      refine VS_seq ?_
      refine VS_seq ?_
      refine VS_r0 rfl ?_
      refine q_mv rfl ?_
      first | refine q_load_c rfl rfl rfl ?_ | refine q_load_ra rfl rfl rfl rfl rfl (by first | (simp; done) | (simp [setAt]; done)) rfl ?_
      refine q_mv rfl ?_
      refine q_callp (x := i64 (-1)) ((c_spec_RouteKey ks cs k (by omega) (by omega)).mono fun p e => e.trans (by rw [if_neg (by simp [hg])])) rfl (by first | exact trivial | exact Sub.nil | exact Sub.refl _ | exact Sub.app _ _ | exact SubL.sub (by repeat (first | exact SubL.nil | apply SubL.none | apply SubL.some | apply SubL.eq)) | (intro o ob h; rcases o with _ | _ | _ | _ | _ | o <;> simp_all)) ?_
      refine q_neq_v false rfl rfl (by first | exact decide_eq_true (by omega) | exact decide_eq_false (by omega) | exact nd_t (by omega) | exact nd_f (by omega) | (simp; done) | (simp; omega) | (simp [*]; done) | (simp_all; done) | (simp_all; omega)) ?_
      refine q_mv rfl ?_
      refine q_t rfl ?_
      refine q_mv rfl ?_
      refine q_t rfl ?_
      refine q_lss_v true rfl rfl (by first | exact decide_eq_true (by omega) | exact decide_eq_false (by omega) | exact nd_t (by omega) | exact nd_f (by omega) | (simp; done) | (simp; omega) | (simp [*]; done) | (simp_all; done) | (simp_all; omega)) ?_
      refine q_pick_f rfl rfl ?_
      refine rg_nil ?_
      refine VS_cond rfl (fun _ => ?_) (fun e => by cases e)
      refine VS_seq ?_
      refine VS_r0 rfl ?_
      refine q_mv rfl ?_
      first | refine q_load_c rfl rfl rfl ?_ | refine q_load_ra rfl rfl rfl rfl rfl (by first | (simp; done) | (simp [setAt]; done)) rfl ?_
      refine q_mv rfl ?_
      refine q_callp (x := i64 (-1)) ((c_spec_RouteKey ks cs k (by omega) (by omega)).mono fun p e => e.trans (by rw [if_neg (by simp [hg])])) rfl (by first | exact trivial | exact Sub.nil | exact Sub.refl _ | exact Sub.app _ _ | exact SubL.sub (by repeat (first | exact SubL.nil | apply SubL.none | apply SubL.some | apply SubL.eq)) | (intro o ob h; rcases o with _ | _ | _ | _ | _ | o <;> simp_all)) ?_
      refine q_eql_v true rfl rfl (by first | exact decide_eq_true (by omega) | exact decide_eq_false (by omega) | exact nd_t (by omega) | exact nd_f (by omega) | (simp; done) | (simp; omega) | (simp [*]; done) | (simp_all; done) | (simp_all; omega)) ?_
      refine q_mv rfl ?_
      refine rg_nil ?_
      refine VS_ret ?_
      exact Bd.now ⟨_, rfl, rfl⟩
    · skip
      have l1 := goodInner_len hg
      have l2 := upTo_le ks k
      have l3 := goodInner_keys hg
      have l4 := goodInner_one hg
      have l5 := goodInner_kid hg (j := upTo ks k) (by omega)
      have l6 := upTo_le ks (k + 1)
      have l7 := goodInner_nodup hg
      refine VS_r0 rfl ?_
      first | refine q_load_c rfl rfl rfl ?_ | refine q_load_ra rfl rfl rfl rfl rfl (by first | (simp; done) | (simp [setAt]; done)) rfl ?_
      refine q_mv rfl ?_
      refine q_callp (x := i64 (nth cs (upTo ks k))) ((c_impl_RouteKey ks cs k (by omega) (by omega)).mono fun p e => e.trans (by rw [if_pos hg])) rfl (by first | exact trivial | exact Sub.nil | exact Sub.refl _ | exact Sub.app _ _ | exact SubL.sub (by repeat (first | exact SubL.nil | apply SubL.none | apply SubL.some | apply SubL.eq)) | (intro o ob h; rcases o with _ | _ | _ | _ | _ | o <;> simp_all)) ?_
      refine q_mv rfl ?_
      refine rg_nil ?_
      refine VS_seq ?_
      refine VS_seq ?_
      refine VS_r0 rfl ?_
      refine q_mv rfl ?_
      first | refine q_load_c rfl rfl rfl ?_ | refine q_load_ra rfl rfl rfl rfl rfl (by first | (simp; done) | (simp [setAt]; done)) rfl ?_
      refine q_mv rfl ?_
      refine q_callp (x := i64 (nth cs (upTo ks k))) ((c_spec_RouteKey ks cs k (by omega) (by omega)).mono fun p e => e.trans (by rw [if_pos hg])) rfl (by first | exact trivial | exact Sub.nil | exact Sub.refl _ | exact Sub.app _ _ | exact SubL.sub (by repeat (first | exact SubL.nil | apply SubL.none | apply SubL.some | apply SubL.eq)) | (intro o ob h; rcases o with _ | _ | _ | _ | _ | o <;> simp_all)) ?_
      refine q_neq_v false rfl rfl (by first | exact decide_eq_true (by omega) | exact decide_eq_false (by omega) | exact nd_t (by omega) | exact nd_f (by omega) | (simp; done) | (simp; omega) | (simp [*]; done) | (simp_all; done) | (simp_all; omega)) ?_
      refine q_mv rfl ?_
      refine q_t rfl ?_
      refine q_mv rfl ?_
      refine q_t rfl ?_
      refine q_lss_v false rfl rfl (by first | exact decide_eq_true (by omega) | exact decide_eq_false (by omega) | exact nd_t (by omega) | exact nd_f (by omega) | (simp; done) | (simp; omega) | (simp [*]; done) | (simp_all; done) | (simp_all; omega)) ?_
      refine q_pick_f rfl rfl ?_
      refine rg_nil ?_
      refine VS_cond rfl (fun e => by cases e) (fun _ => ?_)
      refine VS_skip ?_
      refine VS_seq ?_
      refine VS_r0 rfl ?_
      first | refine q_load_c rfl rfl rfl ?_ | refine q_load_ra rfl rfl rfl rfl rfl (by first | (simp; done) | (simp [setAt]; done)) rfl ?_
      refine q_mv rfl ?_
      refine q_add rfl rfl (inR64 (by omega)) ?_
      refine q_callp (x := i64 (nth cs (upTo ks (k + 1)))) ((c_impl_RouteKey ks cs (k + 1) (by omega) (by omega)).mono fun p e => e.trans (by rw [if_pos hg])) rfl (by first | exact trivial | exact Sub.nil | exact Sub.refl _ | exact Sub.app _ _ | exact SubL.sub (by repeat (first | exact SubL.nil | apply SubL.none | apply SubL.some | apply SubL.eq)) | (intro o ob h; rcases o with _ | _ | _ | _ | _ | o <;> simp_all)) ?_
      refine q_mv rfl ?_
      refine rg_nil ?_
      refine VS_seq ?_
      refine VS_r0 rfl ?_
      refine q_mv rfl ?_
      refine rg_nil ?_
      refine VS_seq ?_
      refine VS_r0 rfl ?_
      refine q_mv rfl ?_
      refine rg_nil ?_
      refine VS_seq ?_
      refine VS_seq ?_
      refine VS_r0 rfl ?_
      refine q_mv rfl ?_
      refine rg_nil ?_
      refine VS_block ?_
      refine VS_bd (Bd.keepL [(2, .pv (.bool false)), (3, .ptr 0 0 0), (4, .pv (i64 k)), (5, .pv (i64 (nth cs (upTo ks k)))), (6, .pv (i64 (nth cs (upTo ks (k + 1))))), (7, .pv (i64 (-1))), (8, .pv (i64 (-1))), (9, .pv (i64 0))] ⟨rfl, rfl, rfl, rfl, rfl, rfl, rfl, rfl, trivial⟩ ?_)
      refine VS_loop (fun mz E S => ∃ i : Nat, ∃ a : Int, ∃ b : Int, mz = cs.length - i ∧ (i ≤ cs.length) ∧ (a = if upTo ks k < i then (upTo ks k : Int) else -1) ∧ (b = if upTo ks (k + 1) < i then (upTo ks (k + 1) : Int) else -1) ∧ E = env [(2, .pv (.bool false)), (3, .ptr 0 0 0), (4, .pv (i64 k)), (5, .pv (i64 (nth cs (upTo ks k)))), (6, .pv (i64 (nth cs (upTo ks (k + 1))))), (7, .pv (i64 a)), (8, .pv (i64 b)), (9, .pv (i64 i))] ∧ S = [some ⟨25, 2, [.agg [.pv (ints ks), .pv (ints cs)]]⟩]) ⟨_, 0, -1, -1, rfl, (by first | omega | (intros; omega) | simp), (by first | omega | (intros; omega) | simp), (by first | omega | (intros; omega) | simp), rfl, rfl⟩ ?_
      rintro mz _ _ ⟨i, a, b, hmeas, g0, ha, hb, rfl, rfl⟩
      refine VS_seq ?_
      refine VS_seq ?_
      refine VS_r0 rfl ?_
      refine q_mv rfl ?_
      first | refine q_fld_r rfl ?_ | refine q_fld_c rfl rfl ?_
      first | refine q_load_c rfl rfl rfl ?_ | refine q_load_r rfl rfl rfl rfl rfl rfl rfl ?_ | refine q_load_o rfl rfl rfl rfl rfl ?_
      first | refine q_len_m rfl ?_ | refine q_len_s rfl ?_ | refine q_len_o rfl ?_ | refine q_len_n rfl ?_ | refine q_len_x rfl ?_
      refine q_lss rfl rfl ?_
      refine rg_nil ?_
      refine VS_cond rfl (fun c2 => ?_) (fun c2 => ?_)
      · try simp at c2
        refine VS_skip ?_
        refine VS_seq ?_
        refine VS_block ?_
        refine VS_seq ?_
        refine VS_seq ?_
        refine VS_r0 rfl ?_
        first | refine q_fld_r rfl ?_ | refine q_fld_c rfl rfl ?_
        first | refine q_load_c rfl rfl rfl ?_ | refine q_load_r rfl rfl rfl rfl rfl rfl rfl ?_ | refine q_load_o rfl rfl rfl rfl rfl ?_
        refine q_mv rfl ?_
        first | refine q_idx_c _ rfl rfl (by omega) (fun _ => rfl) ?_ | refine q_idx_m rfl rfl (by omega) (by omega) (fun _ => rfl) ?_ | refine q_idx_om rfl rfl (by omega) (by omega) rfl rfl ?_
        first | refine q_load_c rfl rfl rfl ?_ | refine q_load_r rfl rfl rfl rfl rfl rfl rfl ?_ | refine q_load_o rfl rfl rfl rfl rfl ?_
        refine q_mv rfl ?_
        refine q_eql rfl rfl ?_
        refine rg_nil ?_
        refine VS_cond rfl (fun c3 => ?_) (fun c3 => ?_)
        · try simp at c3
          refine VS_r0 rfl ?_
          refine q_mv rfl ?_
          refine q_mv rfl ?_
          refine rg_nil ?_
          refine VS_seq ?_
          refine VS_r0 rfl ?_
          first | refine q_fld_r rfl ?_ | refine q_fld_c rfl rfl ?_
          first | refine q_load_c rfl rfl rfl ?_ | refine q_load_r rfl rfl rfl rfl rfl rfl rfl ?_ | refine q_load_o rfl rfl rfl rfl rfl ?_
          refine q_mv rfl ?_
          first | refine q_idx_c _ rfl rfl (by omega) (fun _ => rfl) ?_ | refine q_idx_m rfl rfl (by omega) (by omega) (fun _ => rfl) ?_ | refine q_idx_om rfl rfl (by omega) (by omega) rfl rfl ?_
          first | refine q_load_c rfl rfl rfl ?_ | refine q_load_r rfl rfl rfl rfl rfl rfl rfl ?_ | refine q_load_o rfl rfl rfl rfl rfl ?_
          refine q_mv rfl ?_
          refine q_eql rfl rfl ?_
          refine rg_nil ?_
          refine VS_cond rfl (fun c4 => ?_) (fun c4 => ?_)
          · try simp at c4
            refine VS_r0 rfl ?_
            refine q_mv rfl ?_
            refine q_mv rfl ?_
            refine rg_nil ?_
            refine VS_r0 rfl ?_
            refine q_mv rfl ?_
            refine q_add rfl rfl (inR64 (by omega)) ?_
            refine q_mv rfl ?_
            refine rg_nil ?_
            refine Bd.keepL [(2, .pv (.bool false)), (3, .ptr 0 0 0), (4, .pv (i64 k)), (5, .pv (i64 (nth cs (upTo ks k)))), (6, .pv (i64 (nth cs (upTo ks (k + 1))))), (7, .pv (i64 i)), (8, .pv (i64 i)), (9, .pv (i64 (i + 1)))] ⟨rfl, rfl, rfl, rfl, rfl, rfl, rfl, rfl, trivial⟩ ⟨_, ?_, i + 1, i, i, rfl, ?_, ?_, ?_, rfl, rfl⟩
            · first | omega | assumption | rfl | (simp; omega)
            · first | omega | assumption | rfl | (simp; omega)
            · have e := nodup_eq l7 (by omega) (by omega) c3
              rw [if_pos (by omega)]; omega
            · have e := nodup_eq l7 (by omega) (by omega) c4
              rw [if_pos (by omega)]; omega
          · try simp at c4
            refine VS_skip ?_
            refine VS_r0 rfl ?_
            refine q_mv rfl ?_
            refine q_add rfl rfl (inR64 (by omega)) ?_
            refine q_mv rfl ?_
            refine rg_nil ?_
            refine Bd.keepL [(2, .pv (.bool false)), (3, .ptr 0 0 0), (4, .pv (i64 k)), (5, .pv (i64 (nth cs (upTo ks k)))), (6, .pv (i64 (nth cs (upTo ks (k + 1))))), (7, .pv (i64 i)), (8, .pv (i64 b)), (9, .pv (i64 (i + 1)))] ⟨rfl, rfl, rfl, rfl, rfl, rfl, rfl, rfl, trivial⟩ ⟨_, ?_, i + 1, i, b, rfl, ?_, ?_, ?_, rfl, rfl⟩
            · first | omega | assumption | rfl | (simp; omega)
            · first | omega | assumption | rfl | (simp; omega)
            · have e := nodup_eq l7 (by omega) (by omega) c3
              rw [if_pos (by omega)]; omega
            · have e : i ≠ upTo ks (k + 1) := fun e => by rw [← e] at c4; exact c4 rfl
              rw [hb]; congr 1; exact propext ⟨fun h => by omega, fun h => by omega⟩
        · try simp at c3
          refine VS_skip ?_
          refine VS_seq ?_
          refine VS_r0 rfl ?_
          first | refine q_fld_r rfl ?_ | refine q_fld_c rfl rfl ?_
          first | refine q_load_c rfl rfl rfl ?_ | refine q_load_r rfl rfl rfl rfl rfl rfl rfl ?_ | refine q_load_o rfl rfl rfl rfl rfl ?_
          refine q_mv rfl ?_
          first | refine q_idx_c _ rfl rfl (by omega) (fun _ => rfl) ?_ | refine q_idx_m rfl rfl (by omega) (by omega) (fun _ => rfl) ?_ | refine q_idx_om rfl rfl (by omega) (by omega) rfl rfl ?_
          first | refine q_load_c rfl rfl rfl ?_ | refine q_load_r rfl rfl rfl rfl rfl rfl rfl ?_ | refine q_load_o rfl rfl rfl rfl rfl ?_
          refine q_mv rfl ?_
          refine q_eql rfl rfl ?_
          refine rg_nil ?_
          refine VS_cond rfl (fun c4 => ?_) (fun c4 => ?_)
          · try simp at c4
            refine VS_r0 rfl ?_
            refine q_mv rfl ?_
            refine q_mv rfl ?_
            refine rg_nil ?_
            refine VS_r0 rfl ?_
            refine q_mv rfl ?_
            refine q_add rfl rfl (inR64 (by omega)) ?_
            refine q_mv rfl ?_
            refine rg_nil ?_
            refine Bd.keepL [(2, .pv (.bool false)), (3, .ptr 0 0 0), (4, .pv (i64 k)), (5, .pv (i64 (nth cs (upTo ks k)))), (6, .pv (i64 (nth cs (upTo ks (k + 1))))), (7, .pv (i64 a)), (8, .pv (i64 i)), (9, .pv (i64 (i + 1)))] ⟨rfl, rfl, rfl, rfl, rfl, rfl, rfl, rfl, trivial⟩ ⟨_, ?_, i + 1, a, i, rfl, ?_, ?_, ?_, rfl, rfl⟩
            · first | omega | assumption | rfl | (simp; omega)
            · first | omega | assumption | rfl | (simp; omega)
            · have e : i ≠ upTo ks k := fun e => by rw [← e] at c3; exact c3 rfl
              rw [ha]; congr 1; exact propext ⟨fun h => by omega, fun h => by omega⟩
            · have e := nodup_eq l7 (by omega) (by omega) c4
              rw [if_pos (by omega)]; omega
          · try simp at c4
            refine VS_skip ?_
            refine VS_r0 rfl ?_
            refine q_mv rfl ?_
            refine q_add rfl rfl (inR64 (by omega)) ?_
            refine q_mv rfl ?_
            refine rg_nil ?_
            refine Bd.keepL [(2, .pv (.bool false)), (3, .ptr 0 0 0), (4, .pv (i64 k)), (5, .pv (i64 (nth cs (upTo ks k)))), (6, .pv (i64 (nth cs (upTo ks (k + 1))))), (7, .pv (i64 a)), (8, .pv (i64 b)), (9, .pv (i64 (i + 1)))] ⟨rfl, rfl, rfl, rfl, rfl, rfl, rfl, rfl, trivial⟩ ⟨_, ?_, i + 1, a, b, rfl, ?_, ?_, ?_, rfl, rfl⟩
            · first | omega | assumption | rfl | (simp; omega)
            · first | omega | assumption | rfl | (simp; omega)
            · have e : i ≠ upTo ks k := fun e => by rw [← e] at c3; exact c3 rfl
              rw [ha]; congr 1; exact propext ⟨fun h => by omega, fun h => by omega⟩
            · have e : i ≠ upTo ks (k + 1) := fun e => by rw [← e] at c4; exact c4 rfl
              rw [hb]; congr 1; exact propext ⟨fun h => by omega, fun h => by omega⟩
      · try simp at c2
        refine VS_exit ?_
        refine VS_seq ?_
        obtain rfl : i = cs.length := by omega
        rw [if_pos (by omega)] at ha hb
        rcases upTo_step l3 k with ⟨e3, e4⟩ | ⟨e3, e4⟩
        · skip
          subst ha hb
          refine VS_r0 rfl ?_
          refine q_mv rfl ?_
          refine q_geq_v true rfl rfl (by simp) ?_
          refine q_mv rfl ?_
          refine q_t rfl ?_
          refine q_mv rfl ?_
          refine q_t rfl ?_
          refine q_mv rfl ?_
          refine q_t rfl ?_
          refine q_eql_v false rfl rfl (by first | (simp [e3]; done) | (simp [e3]; omega)) ?_
          refine q_t rfl ?_
          refine q_mv rfl ?_
          refine q_t rfl ?_
          refine q_mv rfl ?_
          refine q_t rfl ?_
          refine q_mv rfl ?_
          refine q_t rfl ?_
          refine q_add rfl rfl (inR64 (by omega)) ?_
          refine q_t rfl ?_
          refine q_eql_v true rfl rfl (by first | (simp [e3]; done) | (simp [e3]; omega)) ?_
          refine q_t rfl ?_
          refine q_pick_f rfl rfl ?_
          refine q_pick_t rfl rfl ?_
          refine q_mv rfl ?_
          refine q_t rfl ?_
          refine q_mv rfl ?_
          refine q_t rfl ?_
          refine q_mv rfl ?_
          refine q_t rfl ?_
          refine q_add rfl rfl (inR64 (by omega)) ?_
          refine q_t rfl ?_
          refine q_eql_v true rfl rfl (by first | (simp [e3]; done) | (simp [e3]; omega)) ?_
          refine q_t rfl ?_
          first | refine q_fld_r rfl ?_ | refine q_fld_c rfl rfl ?_
          refine q_t rfl ?_
          first | refine q_load_c rfl rfl rfl ?_ | refine q_load_r rfl rfl rfl rfl rfl rfl rfl ?_ | refine q_load_o rfl rfl rfl rfl rfl ?_
          refine q_t rfl ?_
          refine q_mv rfl ?_
          refine q_t rfl ?_
          refine q_add rfl rfl (inR64 (by omega)) ?_
          refine q_t rfl ?_
          refine q_callp (x := .bool true) ((c_laws_isIn _ _ (by omega)).mono fun p e => e.trans (by rw [e4])) rfl (by first | exact trivial | exact Sub.nil | exact Sub.refl _ | exact Sub.app _ _ | exact SubL.sub (by repeat (first | exact SubL.nil | apply SubL.none | apply SubL.some | apply SubL.eq)) | (intro o ob h; rcases o with _ | _ | _ | _ | _ | o <;> simp_all)) ?_
          refine q_t rfl ?_
          refine q_beq_v true rfl rfl (by simp) ?_
          refine q_pick_t rfl rfl ?_
          refine q_mv rfl ?_
          refine rg_nil ?_
          refine VS_ret ?_
          exact Bd.now ⟨_, rfl, rfl⟩
        · skip
          subst ha hb
          refine VS_r0 rfl ?_
          refine q_mv rfl ?_
          refine q_geq_v true rfl rfl (by simp) ?_
          refine q_mv rfl ?_
          refine q_t rfl ?_
          refine q_mv rfl ?_
          refine q_t rfl ?_
          refine q_mv rfl ?_
          refine q_t rfl ?_
          refine q_eql_v true rfl rfl (by first | (simp [e3]; done) | (simp [e3]; omega)) ?_
          refine q_t rfl ?_
          refine q_mv rfl ?_
          refine q_f rfl ?_
          refine q_f rfl ?_
          refine q_f rfl ?_
          refine q_f rfl ?_
          refine q_t rfl ?_
          refine q_pick_t rfl rfl ?_
          refine q_pick_t rfl rfl ?_
          refine q_mv rfl ?_
          refine q_t rfl ?_
          refine q_mv rfl ?_
          refine q_t rfl ?_
          refine q_mv rfl ?_
          refine q_t rfl ?_
          refine q_add rfl rfl (inR64 (by omega)) ?_
          refine q_t rfl ?_
          refine q_eql_v false rfl rfl (by first | (simp [e3]; done) | (simp [e3]; omega)) ?_
          refine q_t rfl ?_
          first | refine q_fld_r rfl ?_ | refine q_fld_c rfl rfl ?_
          refine q_t rfl ?_
          first | refine q_load_c rfl rfl rfl ?_ | refine q_load_r rfl rfl rfl rfl rfl rfl rfl ?_ | refine q_load_o rfl rfl rfl rfl rfl ?_
          refine q_t rfl ?_
          refine q_mv rfl ?_
          refine q_t rfl ?_
          refine q_add rfl rfl (inR64 (by omega)) ?_
          refine q_t rfl ?_
          refine q_callp (x := .bool false) ((c_laws_isIn _ _ (by omega)).mono fun p e => e.trans (by rw [e4])) rfl (by first | exact trivial | exact Sub.nil | exact Sub.refl _ | exact Sub.app _ _ | exact SubL.sub (by repeat (first | exact SubL.nil | apply SubL.none | apply SubL.some | apply SubL.eq)) | (intro o ob h; rcases o with _ | _ | _ | _ | _ | o <;> simp_all)) ?_
          refine q_t rfl ?_
          refine q_beq_v true rfl rfl (by simp) ?_
          refine q_pick_t rfl rfl ?_
          refine q_mv rfl ?_
          refine rg_nil ?_
          refine VS_ret ?_
          exact Bd.now ⟨_, rfl, rfl⟩
end Go.V

/- A part of the proofs about laws of the page tree (see the text that bears the law): a small language of steps, its rules, and what the functions of the program return. -/
import Derived.Test.YtjbihdcdamchnaaWKv
import Derived.Test.YtjbihdcdamchnaaPZ
set_option linter.all false
set_option linter.unusedVariables false
set_option linter.unusedSimpArgs false
set_option maxHeartbeats 4000000
namespace Go.V
open Go.Proofs.Try (prog)
theorem c_spec_DrawInsertKey (bs : List Int) (hb : isU8 bs) (hl : bs.length ≤ 1048576) : PCon prog 32 [u8s bs] (fun p => ∃ (ks : List Int) (k : Int), p = .tup [ints ks, i64 k] ∧ (ks.length ≤ 20 ∧ bdI 1000000000 ks) ∧ -1000000001 ≤ k ∧ k ≤ 1000000001) := by
  refine con_of_VS sl_spec_DrawInsertKey (by simp) ?_
  refine VS_seq ?_
  refine VS_r0 rfl ?_
  refine q_mv rfl ?_
  refine q_mv rfl ?_
  refine rg_nil ?_
  refine VS_seq ?_
  refine VS_r0 rfl ?_
  refine q_mv rfl ?_
  refine q_calle rfl (c_spec_DrawKeysBelow bs hb hl) rfl (by first | exact trivial | exact Sub.nil | exact Sub.refl _ | exact Sub.app _ _ | exact SubL.sub (by repeat (first | exact SubL.nil | apply SubL.none | apply SubL.some | apply SubL.sh | apply SubL.eq)) | (refine Sub.of_eq ?_; intro o ob h; rcases o with _ | _ | _ | _ | _ | o <;> simp_all)) ?_
  rintro _ ⟨ks, k, rfl, ⟨hx1, hx2⟩, q_k⟩
  refine q_ext rfl rfl ?_
  refine q_ext rfl rfl ?_
  refine q_mv rfl ?_
  refine q_mv rfl ?_
  refine rg_nil ?_
  refine VS_ret ?_
  exact Bd.now ⟨_, rfl, ks, k, rfl, ⟨hx1, hx2⟩, q_k⟩
theorem c_laws_FnInsertKeyCount (bs : List Int) (hb : isU8 bs) : PCon prog 7 [u8s bs] (fun p => p = .bool true) := by
  refine con_of_VS sl_laws_FnInsertKeyCount (by simp) ?_
  refine VS_seq ?_
  refine VS_r0 rfl ?_
  refine q_mv rfl ?_
  refine rg_nil ?_
  refine VS_seq ?_
  refine VS_seq ?_
  refine VS_r0 rfl ?_
  refine q_mv rfl ?_
  first | refine q_len_m rfl ?_ | refine q_len_s rfl ?_ | refine q_len_o rfl ?_ | refine q_len_n rfl ?_ | refine q_len_x rfl ?_
  refine q_gtr rfl rfl ?_
  refine rg_nil ?_
  refine VS_cond rfl (fun c0 => ?_) (fun c0 => ?_)
  · try simp at c0
    refine VS_seq ?_
    refine VS_r0 rfl ?_
    refine q_mv rfl ?_
    refine rg_nil ?_
    refine VS_ret ?_
    exact Bd.now ⟨_, rfl, rfl⟩
  · try simp at c0
    refine VS_skip ?_
    refine VS_seq ?_
    refine VS_r0 rfl ?_
    refine q_mv rfl ?_
    refine q_calle rfl (c_spec_DrawInsertKey bs hb (by omega)) rfl (by first | exact trivial | exact Sub.nil | exact Sub.refl _ | exact Sub.app _ _ | exact SubL.sub (by repeat (first | exact SubL.nil | apply SubL.none | apply SubL.some | apply SubL.sh | apply SubL.eq)) | (refine Sub.of_eq ?_; intro o ob h; rcases o with _ | _ | _ | _ | _ | o <;> simp_all)) ?_
    rintro _ ⟨ks, k, rfl, ⟨hx1, hx2⟩, hk1, hk2⟩
    refine q_mv rfl ?_
    refine q_ext rfl rfl ?_
    refine q_ext rfl rfl ?_
    refine q_mv rfl ?_
    refine q_mv rfl ?_
    refine rg_nil ?_
    refine VS_seq ?_
    cases hg : okIns ks k
    · skip
      refine VS_r0 rfl ?_
      refine q_mv rfl ?_
      refine q_mv rfl ?_
      refine q_callp ((c_impl_InsertKey (ks) (k) (by first | omega | (simp; done) | (simp; omega))).to (y := .tup [ints ([]), .bool false]) (by rw [hg]; rfl)) rfl (by first | exact trivial | exact Sub.nil | exact Sub.refl _ | exact Sub.app _ _ | exact SubL.sub (by repeat (first | exact SubL.nil | apply SubL.none | apply SubL.some | apply SubL.sh | apply SubL.eq)) | (refine Sub.of_eq ?_; intro o ob h; rcases o with _ | _ | _ | _ | _ | o <;> simp_all)) ?_
      refine q_mv rfl ?_
      refine q_ext rfl rfl ?_
      refine q_ext rfl rfl ?_
      refine q_mv rfl ?_
      refine q_mv rfl ?_
      refine rg_nil ?_
      refine VS_seq ?_
      refine VS_r0 rfl ?_
      refine q_mv rfl ?_
      refine q_mv rfl ?_
      refine q_callp ((c_spec_InsertKey (ks) (k) (by first | omega | (simp; done) | (simp; omega))).to (y := .tup [ints ([]), .bool false]) (by rw [hg]; rfl)) rfl (by first | exact trivial | exact Sub.nil | exact Sub.refl _ | exact Sub.app _ _ | exact SubL.sub (by repeat (first | exact SubL.nil | apply SubL.none | apply SubL.some | apply SubL.sh | apply SubL.eq)) | (refine Sub.of_eq ?_; intro o ob h; rcases o with _ | _ | _ | _ | _ | o <;> simp_all)) ?_
      refine q_mv rfl ?_
      refine q_ext rfl rfl ?_
      refine q_ext rfl rfl ?_
      refine q_mv rfl ?_
      refine q_mv rfl ?_
      refine rg_nil ?_
      refine VS_seq ?_
      refine VS_seq ?_
      refine VS_r0 rfl ?_
      refine q_mv rfl ?_
      refine q_mv rfl ?_
      refine q_callp (x := .bool true) ((c_laws_equalInts _ _ (by first | omega | (simp; done) | (simp; omega)) (by first | omega | (simp; done) | (simp; omega))).eqT (by first | rfl | (simp; done))) rfl (by first | exact trivial | exact Sub.nil | exact Sub.refl _ | exact Sub.app _ _ | exact SubL.sub (by repeat (first | exact SubL.nil | apply SubL.none | apply SubL.some | apply SubL.sh | apply SubL.eq)) | (refine Sub.of_eq ?_; intro o ob h; rcases o with _ | _ | _ | _ | _ | o <;> simp_all)) ?_
      refine q_not rfl ?_
      refine q_mv rfl ?_
      refine q_t rfl ?_
      refine q_mv rfl ?_
      refine q_t rfl ?_
      refine q_mv rfl ?_
      refine q_t rfl ?_
      refine q_beq_v false rfl rfl (rfl) ?_
      refine q_pick_f rfl rfl ?_
      refine q_mv rfl ?_
      refine q_t rfl ?_
      refine q_mv rfl ?_
      refine q_t rfl ?_
      refine q_not rfl ?_
      refine q_pick_f rfl rfl ?_
      refine rg_nil ?_
      refine VS_cond rfl (fun _ => ?_) (fun e => by cases e)
      refine VS_seq ?_
      refine VS_r0 rfl ?_
      refine q_mv rfl ?_
      refine q_mv rfl ?_
      refine q_callp (x := .bool true) ((c_laws_equalInts _ _ (by first | omega | (simp; done) | (simp; omega)) (by first | omega | (simp; done) | (simp; omega))).eqT (by first | rfl | (simp; done))) rfl (by first | exact trivial | exact Sub.nil | exact Sub.refl _ | exact Sub.app _ _ | exact SubL.sub (by repeat (first | exact SubL.nil | apply SubL.none | apply SubL.some | apply SubL.sh | apply SubL.eq)) | (refine Sub.of_eq ?_; intro o ob h; rcases o with _ | _ | _ | _ | _ | o <;> simp_all)) ?_
      refine q_mv rfl ?_
      refine q_t rfl ?_
      refine q_mv rfl ?_
      refine q_t rfl ?_
      refine q_mv rfl ?_
      refine q_t rfl ?_
      refine q_beq_v true rfl rfl (rfl) ?_
      refine q_pick_t rfl rfl ?_
      refine q_mv rfl ?_
      refine rg_nil ?_
      refine VS_ret ?_
      exact Bd.now ⟨_, rfl, rfl⟩
    · skip
      have hil : (insK ks k).length = ks.length + 1 := insK_len
      have hgo := insK_good hg
      have hg1 := (okIns_iff.1 hg).1
      have hg2 := (okIns_iff.1 hg).2.1
      have hul := upTo_le ks (k - 1)
      have hit := ins_there hg
      refine VS_r0 rfl ?_
      refine q_mv rfl ?_
      refine q_mv rfl ?_
      refine q_callp ((c_impl_InsertKey (ks) (k) (by first | omega | (simp; done) | (simp; omega))).to (y := .tup [ints (insK (ks) (k)), .bool true]) (by rw [if_pos hg, hg])) rfl (by first | exact trivial | exact Sub.nil | exact Sub.refl _ | exact Sub.app _ _ | exact SubL.sub (by repeat (first | exact SubL.nil | apply SubL.none | apply SubL.some | apply SubL.sh | apply SubL.eq)) | (refine Sub.of_eq ?_; intro o ob h; rcases o with _ | _ | _ | _ | _ | o <;> simp_all)) ?_
      refine q_mv rfl ?_
      refine q_ext rfl rfl ?_
      refine q_ext rfl rfl ?_
      refine q_mv rfl ?_
      refine q_mv rfl ?_
      refine rg_nil ?_
      refine VS_seq ?_
      refine VS_r0 rfl ?_
      refine q_mv rfl ?_
      refine q_mv rfl ?_
      refine q_callp ((c_spec_InsertKey (ks) (k) (by first | omega | (simp; done) | (simp; omega))).to (y := .tup [ints (insK (ks) (k)), .bool true]) (by rw [if_pos hg, hg])) rfl (by first | exact trivial | exact Sub.nil | exact Sub.refl _ | exact Sub.app _ _ | exact SubL.sub (by repeat (first | exact SubL.nil | apply SubL.none | apply SubL.some | apply SubL.sh | apply SubL.eq)) | (refine Sub.of_eq ?_; intro o ob h; rcases o with _ | _ | _ | _ | _ | o <;> simp_all)) ?_
      refine q_mv rfl ?_
      refine q_ext rfl rfl ?_
      refine q_ext rfl rfl ?_
      refine q_mv rfl ?_
      refine q_mv rfl ?_
      refine rg_nil ?_
      refine VS_seq ?_
      refine VS_seq ?_
      refine VS_r0 rfl ?_
      refine q_mv rfl ?_
      refine q_mv rfl ?_
      refine q_callp (x := .bool true) ((c_laws_equalInts _ _ (by first | omega | (simp; done) | (simp; omega)) (by first | omega | (simp; done) | (simp; omega))).eqT (by first | rfl | (simp; done))) rfl (by first | exact trivial | exact Sub.nil | exact Sub.refl _ | exact Sub.app _ _ | exact SubL.sub (by repeat (first | exact SubL.nil | apply SubL.none | apply SubL.some | apply SubL.sh | apply SubL.eq)) | (refine Sub.of_eq ?_; intro o ob h; rcases o with _ | _ | _ | _ | _ | o <;> simp_all)) ?_
      refine q_not rfl ?_
      refine q_mv rfl ?_
      refine q_t rfl ?_
      refine q_mv rfl ?_
      refine q_t rfl ?_
      refine q_mv rfl ?_
      refine q_t rfl ?_
      refine q_beq_v false rfl rfl (rfl) ?_
      refine q_pick_f rfl rfl ?_
      refine q_mv rfl ?_
      refine q_t rfl ?_
      refine q_mv rfl ?_
      refine q_t rfl ?_
      refine q_not rfl ?_
      refine q_pick_f rfl rfl ?_
      refine rg_nil ?_
      refine VS_cond rfl (fun e => by cases e) (fun _ => ?_)
      refine VS_skip ?_
      refine VS_seq ?_
      refine VS_seq ?_
      refine VS_r0 rfl ?_
      refine q_mv rfl ?_
      refine rg_nil ?_
      refine VS_block ?_
      refine VS_bd (Bd.keepL [(2, .pv (.bool false)), (3, .pv (ints ks)), (4, .pv (i64 k)), (5, .pv (ints (insK ks k))), (9, .pv (i64 0))] ⟨rfl, rfl, rfl, rfl, rfl, trivial⟩ ?_)
      refine VS_loop (fun mz E S => ∃ n : Nat, mz = 103 - n ∧ (n ≤ 103) ∧ E = env [(2, .pv (.bool false)), (3, .pv (ints ks)), (4, .pv (i64 k)), (5, .pv (ints (insK ks k))), (9, .pv (i64 n))] ∧ S = []) ⟨_, 0, rfl, (by first | omega | (intros; omega) | simp), rfl, rfl⟩ ?_
      rintro mz _ _ ⟨n, hmeas, g0, rfl, rfl⟩
      refine VS_seq ?_
      refine VS_seq ?_
      refine VS_r0 rfl ?_
      refine q_mv rfl ?_
      refine q_leq rfl rfl ?_
      refine rg_nil ?_
      refine VS_cond rfl (fun c2 => ?_) (fun c2 => ?_)
      · try simp at c2
        have hco := ins_count (m := (n : Int) - 1) hg
        have hu1 := upTo_le (insK ks k) ((n : Int) - 1)
        have hu2 := upTo_le ks ((n : Int) - 1)
        refine VS_skip ?_
        refine VS_seq ?_
        refine VS_block ?_
        refine VS_seq ?_
        refine VS_r0 rfl ?_
        refine q_mv rfl ?_
        refine q_mv rfl ?_
        refine q_callp ((c_impl_KeysBelow (insK ks k) (n : Int) (by omega)).to (y := i64 (upTo (insK ks k) ((n : Int) - 1))) (by rw [if_pos hgo])) rfl (by first | exact trivial | exact Sub.nil | exact Sub.refl _ | exact Sub.app _ _ | exact SubL.sub (by repeat (first | exact SubL.nil | apply SubL.none | apply SubL.some | apply SubL.sh | apply SubL.eq)) | (refine Sub.of_eq ?_; intro o ob h; rcases o with _ | _ | _ | _ | _ | o <;> simp_all)) ?_
        refine q_mv rfl ?_
        refine q_mv rfl ?_
        refine q_callp ((c_impl_KeysBelow ks (n : Int) (by omega)).to (y := i64 (upTo ks ((n : Int) - 1))) (by rw [if_pos hg1])) rfl (by first | exact trivial | exact Sub.nil | exact Sub.refl _ | exact Sub.app _ _ | exact SubL.sub (by repeat (first | exact SubL.nil | apply SubL.none | apply SubL.some | apply SubL.sh | apply SubL.eq)) | (refine Sub.of_eq ?_; intro o ob h; rcases o with _ | _ | _ | _ | _ | o <;> simp_all)) ?_
        refine q_sub rfl rfl (inR64 (by omega)) ?_
        refine q_mv rfl ?_
        refine rg_nil ?_
        refine VS_seq ?_
        refine VS_r0 rfl ?_
        refine q_mv rfl ?_
        refine q_mv rfl ?_
        refine q_gtr rfl rfl ?_
        refine q_mv rfl ?_
        refine q_b rfl (fun g66 => ?_) (fun g66 => ?_)
        · try simp at g66
          rw [if_pos (by omega)] at hco
          refine q_t rfl ?_
          refine q_mv rfl ?_
          refine q_t rfl ?_
          refine q_neq_v false rfl rfl (by first | exact decide_eq_true (by omega) | exact decide_eq_false (by omega) | exact nd_t (by omega) | exact nd_f (by omega) | (simp; done) | (simp; omega) | (simp [*]; done) | (simp_all; done) | (simp_all; omega)) ?_
          refine q_pick_t rfl rfl ?_
          refine q_mv rfl ?_
          refine q_t rfl ?_
          refine q_mv rfl ?_
          refine q_t rfl ?_
          refine q_mv rfl ?_
          refine q_t rfl ?_
          refine q_leq rfl rfl ?_
          refine q_t rfl ?_
          refine q_mv rfl ?_
          refine q_b rfl (fun g74 => ?_) (fun g74 => ?_)
          · try simp at g74
            refine q_t rfl ?_
            refine q_mv rfl ?_
            refine q_t rfl ?_
            refine q_neq_v false rfl rfl (by first | exact decide_eq_true (by omega) | exact decide_eq_false (by omega) | exact nd_t (by omega) | exact nd_f (by omega) | (simp; done) | (simp; omega) | (simp [*]; done) | (simp_all; done) | (simp_all; omega)) ?_
            refine q_t rfl ?_
            refine q_pick_t rfl rfl ?_
            refine q_pick_f rfl rfl ?_
            refine rg_nil ?_
            refine VS_cond rfl (fun e => by cases e) (fun _ => ?_)
            refine VS_skip ?_
            refine VS_r0 rfl ?_
            refine q_mv rfl ?_
            refine q_add rfl rfl (inR64 (by omega)) ?_
            refine q_mv rfl ?_
            refine rg_nil ?_
            refine Bd.keepL [(2, .pv (.bool false)), (3, .pv (ints ks)), (4, .pv (i64 k)), (5, .pv (ints (insK ks k))), (9, .pv (i64 (n + 3)))] ⟨rfl, rfl, rfl, rfl, rfl, trivial⟩ ⟨_, ?_, n + 3, rfl, ?_, rfl, rfl⟩
            · first | omega | assumption | rfl | (simp; omega)
            · first | omega | assumption | rfl | (simp; omega)
          · try simp at g74
            refine q_f rfl ?_
            refine q_f rfl ?_
            refine q_t rfl ?_
            refine q_pick_f rfl rfl ?_
            refine q_pick_f rfl rfl ?_
            refine rg_nil ?_
            refine VS_cond rfl (fun e => by cases e) (fun _ => ?_)
            refine VS_skip ?_
            refine VS_r0 rfl ?_
            refine q_mv rfl ?_
            refine q_add rfl rfl (inR64 (by omega)) ?_
            refine q_mv rfl ?_
            refine rg_nil ?_
            refine Bd.keepL [(2, .pv (.bool false)), (3, .pv (ints ks)), (4, .pv (i64 k)), (5, .pv (ints (insK ks k))), (9, .pv (i64 (n + 3)))] ⟨rfl, rfl, rfl, rfl, rfl, trivial⟩ ⟨_, ?_, n + 3, rfl, ?_, rfl, rfl⟩
            · first | omega | assumption | rfl | (simp; omega)
            · first | omega | assumption | rfl | (simp; omega)
        · try simp at g66
          rw [if_neg (by omega)] at hco
          refine q_f rfl ?_
          refine q_f rfl ?_
          refine q_pick_f rfl rfl ?_
          refine q_mv rfl ?_
          refine q_t rfl ?_
          refine q_mv rfl ?_
          refine q_t rfl ?_
          refine q_mv rfl ?_
          refine q_t rfl ?_
          refine q_leq rfl rfl ?_
          refine q_t rfl ?_
          refine q_mv rfl ?_
          refine q_b rfl (fun g74 => ?_) (fun g74 => ?_)
          · try simp at g74
            refine q_t rfl ?_
            refine q_mv rfl ?_
            refine q_t rfl ?_
            refine q_neq_v false rfl rfl (by first | exact decide_eq_true (by omega) | exact decide_eq_false (by omega) | exact nd_t (by omega) | exact nd_f (by omega) | (simp; done) | (simp; omega) | (simp [*]; done) | (simp_all; done) | (simp_all; omega)) ?_
            refine q_t rfl ?_
            refine q_pick_t rfl rfl ?_
            refine q_pick_f rfl rfl ?_
            refine rg_nil ?_
            refine VS_cond rfl (fun e => by cases e) (fun _ => ?_)
            refine VS_skip ?_
            refine VS_r0 rfl ?_
            refine q_mv rfl ?_
            refine q_add rfl rfl (inR64 (by omega)) ?_
            refine q_mv rfl ?_
            refine rg_nil ?_
            refine Bd.keepL [(2, .pv (.bool false)), (3, .pv (ints ks)), (4, .pv (i64 k)), (5, .pv (ints (insK ks k))), (9, .pv (i64 (n + 3)))] ⟨rfl, rfl, rfl, rfl, rfl, trivial⟩ ⟨_, ?_, n + 3, rfl, ?_, rfl, rfl⟩
            · first | omega | assumption | rfl | (simp; omega)
            · first | omega | assumption | rfl | (simp; omega)
          · try simp at g74
            refine q_f rfl ?_
            refine q_f rfl ?_
            refine q_t rfl ?_
            refine q_pick_f rfl rfl ?_
            refine q_pick_f rfl rfl ?_
            refine rg_nil ?_
            refine VS_cond rfl (fun e => by cases e) (fun _ => ?_)
            refine VS_skip ?_
            refine VS_r0 rfl ?_
            refine q_mv rfl ?_
            refine q_add rfl rfl (inR64 (by omega)) ?_
            refine q_mv rfl ?_
            refine rg_nil ?_
            refine Bd.keepL [(2, .pv (.bool false)), (3, .pv (ints ks)), (4, .pv (i64 k)), (5, .pv (ints (insK ks k))), (9, .pv (i64 (n + 3)))] ⟨rfl, rfl, rfl, rfl, rfl, trivial⟩ ⟨_, ?_, n + 3, rfl, ?_, rfl, rfl⟩
            · first | omega | assumption | rfl | (simp; omega)
            · first | omega | assumption | rfl | (simp; omega)
      · try simp at c2
        refine VS_exit ?_
        refine VS_seq ?_
        refine VS_r0 rfl ?_
        refine q_mv rfl ?_
        first | refine q_len_m rfl ?_ | refine q_len_s rfl ?_ | refine q_len_o rfl ?_ | refine q_len_n rfl ?_ | refine q_len_x rfl ?_
        refine q_mv rfl ?_
        first | refine q_len_m rfl ?_ | refine q_len_s rfl ?_ | refine q_len_o rfl ?_ | refine q_len_n rfl ?_ | refine q_len_x rfl ?_
        refine q_add rfl rfl (inR64 (by omega)) ?_
        refine q_eql_v true rfl rfl (by simp; omega) ?_
        refine q_mv rfl ?_
        refine rg_nil ?_
        refine VS_ret ?_
        exact Bd.now ⟨_, rfl, rfl⟩
theorem c_laws_FnInsertKeyOrder (bs : List Int) (hb : isU8 bs) : PCon prog 8 [u8s bs] (fun p => p = .bool true) := by
  refine con_of_VS sl_laws_FnInsertKeyOrder (by simp) ?_
  refine VS_seq ?_
  refine VS_r0 rfl ?_
  refine q_mv rfl ?_
  refine rg_nil ?_
  refine VS_seq ?_
  refine VS_seq ?_
  refine VS_r0 rfl ?_
  refine q_mv rfl ?_
  first | refine q_len_m rfl ?_ | refine q_len_s rfl ?_ | refine q_len_o rfl ?_ | refine q_len_n rfl ?_ | refine q_len_x rfl ?_
  refine q_gtr rfl rfl ?_
  refine rg_nil ?_
  refine VS_cond rfl (fun c0 => ?_) (fun c0 => ?_)
  · try simp at c0
    refine VS_seq ?_
    refine VS_r0 rfl ?_
    refine q_mv rfl ?_
    refine rg_nil ?_
    refine VS_ret ?_
    exact Bd.now ⟨_, rfl, rfl⟩
  · try simp at c0
    refine VS_skip ?_
    refine VS_seq ?_
    refine VS_r0 rfl ?_
    refine q_mv rfl ?_
    refine q_calle rfl (c_spec_DrawInsertKey bs hb (by omega)) rfl (by first | exact trivial | exact Sub.nil | exact Sub.refl _ | exact Sub.app _ _ | exact SubL.sub (by repeat (first | exact SubL.nil | apply SubL.none | apply SubL.some | apply SubL.sh | apply SubL.eq)) | (refine Sub.of_eq ?_; intro o ob h; rcases o with _ | _ | _ | _ | _ | o <;> simp_all)) ?_
    rintro _ ⟨ks, k, rfl, ⟨hx1, hx2⟩, hk1, hk2⟩
    refine q_mv rfl ?_
    refine q_ext rfl rfl ?_
    refine q_ext rfl rfl ?_
    refine q_mv rfl ?_
    refine q_mv rfl ?_
    refine rg_nil ?_
    refine VS_seq ?_
    cases hg : okIns ks k
    · skip
      refine VS_r0 rfl ?_
      refine q_mv rfl ?_
      refine q_mv rfl ?_
      refine q_callp ((c_impl_InsertKey (ks) (k) (by first | omega | (simp; done) | (simp; omega))).to (y := .tup [ints ([]), .bool false]) (by rw [hg]; rfl)) rfl (by first | exact trivial | exact Sub.nil | exact Sub.refl _ | exact Sub.app _ _ | exact SubL.sub (by repeat (first | exact SubL.nil | apply SubL.none | apply SubL.some | apply SubL.sh | apply SubL.eq)) | (refine Sub.of_eq ?_; intro o ob h; rcases o with _ | _ | _ | _ | _ | o <;> simp_all)) ?_
      refine q_mv rfl ?_
      refine q_ext rfl rfl ?_
      refine q_ext rfl rfl ?_
      refine q_mv rfl ?_
      refine q_mv rfl ?_
      refine rg_nil ?_
      refine VS_seq ?_
      refine VS_r0 rfl ?_
      refine q_mv rfl ?_
      refine q_mv rfl ?_
      refine q_callp ((c_spec_InsertKey (ks) (k) (by first | omega | (simp; done) | (simp; omega))).to (y := .tup [ints ([]), .bool false]) (by rw [hg]; rfl)) rfl (by first | exact trivial | exact Sub.nil | exact Sub.refl _ | exact Sub.app _ _ | exact SubL.sub (by repeat (first | exact SubL.nil | apply SubL.none | apply SubL.some | apply SubL.sh | apply SubL.eq)) | (refine Sub.of_eq ?_; intro o ob h; rcases o with _ | _ | _ | _ | _ | o <;> simp_all)) ?_
      refine q_mv rfl ?_
      refine q_ext rfl rfl ?_
      refine q_ext rfl rfl ?_
      refine q_mv rfl ?_
      refine q_mv rfl ?_
      refine rg_nil ?_
      refine VS_seq ?_
      refine VS_seq ?_
      refine VS_r0 rfl ?_
      refine q_mv rfl ?_
      refine q_mv rfl ?_
      refine q_callp (x := .bool true) ((c_laws_equalInts _ _ (by first | omega | (simp; done) | (simp; omega)) (by first | omega | (simp; done) | (simp; omega))).eqT (by first | rfl | (simp; done))) rfl (by first | exact trivial | exact Sub.nil | exact Sub.refl _ | exact Sub.app _ _ | exact SubL.sub (by repeat (first | exact SubL.nil | apply SubL.none | apply SubL.some | apply SubL.sh | apply SubL.eq)) | (refine Sub.of_eq ?_; intro o ob h; rcases o with _ | _ | _ | _ | _ | o <;> simp_all)) ?_
      refine q_not rfl ?_
      refine q_mv rfl ?_
      refine q_t rfl ?_
      refine q_mv rfl ?_
      refine q_t rfl ?_
      refine q_mv rfl ?_
      refine q_t rfl ?_
      refine q_beq_v false rfl rfl (rfl) ?_
      refine q_pick_f rfl rfl ?_
      refine q_mv rfl ?_
      refine q_t rfl ?_
      refine q_mv rfl ?_
      refine q_t rfl ?_
      refine q_not rfl ?_
      refine q_pick_f rfl rfl ?_
      refine rg_nil ?_
      refine VS_cond rfl (fun _ => ?_) (fun e => by cases e)
      refine VS_seq ?_
      refine VS_r0 rfl ?_
      refine q_mv rfl ?_
      refine q_mv rfl ?_
      refine q_callp (x := .bool true) ((c_laws_equalInts _ _ (by first | omega | (simp; done) | (simp; omega)) (by first | omega | (simp; done) | (simp; omega))).eqT (by first | rfl | (simp; done))) rfl (by first | exact trivial | exact Sub.nil | exact Sub.refl _ | exact Sub.app _ _ | exact SubL.sub (by repeat (first | exact SubL.nil | apply SubL.none | apply SubL.some | apply SubL.sh | apply SubL.eq)) | (refine Sub.of_eq ?_; intro o ob h; rcases o with _ | _ | _ | _ | _ | o <;> simp_all)) ?_
      refine q_mv rfl ?_
      refine q_t rfl ?_
      refine q_mv rfl ?_
      refine q_t rfl ?_
      refine q_mv rfl ?_
      refine q_t rfl ?_
      refine q_beq_v true rfl rfl (rfl) ?_
      refine q_pick_t rfl rfl ?_
      refine q_mv rfl ?_
      refine rg_nil ?_
      refine VS_ret ?_
      exact Bd.now ⟨_, rfl, rfl⟩
    · skip
      have hil : (insK ks k).length = ks.length + 1 := insK_len
      have hgo := insK_good hg
      have hg1 := (okIns_iff.1 hg).1
      have hg2 := (okIns_iff.1 hg).2.1
      have hul := upTo_le ks (k - 1)
      have hit := ins_there hg
      refine VS_r0 rfl ?_
      refine q_mv rfl ?_
      refine q_mv rfl ?_
      refine q_callp ((c_impl_InsertKey (ks) (k) (by first | omega | (simp; done) | (simp; omega))).to (y := .tup [ints (insK (ks) (k)), .bool true]) (by rw [if_pos hg, hg])) rfl (by first | exact trivial | exact Sub.nil | exact Sub.refl _ | exact Sub.app _ _ | exact SubL.sub (by repeat (first | exact SubL.nil | apply SubL.none | apply SubL.some | apply SubL.sh | apply SubL.eq)) | (refine Sub.of_eq ?_; intro o ob h; rcases o with _ | _ | _ | _ | _ | o <;> simp_all)) ?_
      refine q_mv rfl ?_
      refine q_ext rfl rfl ?_
      refine q_ext rfl rfl ?_
      refine q_mv rfl ?_
      refine q_mv rfl ?_
      refine rg_nil ?_
      refine VS_seq ?_
      refine VS_r0 rfl ?_
      refine q_mv rfl ?_
      refine q_mv rfl ?_
      refine q_callp ((c_spec_InsertKey (ks) (k) (by first | omega | (simp; done) | (simp; omega))).to (y := .tup [ints (insK (ks) (k)), .bool true]) (by rw [if_pos hg, hg])) rfl (by first | exact trivial | exact Sub.nil | exact Sub.refl _ | exact Sub.app _ _ | exact SubL.sub (by repeat (first | exact SubL.nil | apply SubL.none | apply SubL.some | apply SubL.sh | apply SubL.eq)) | (refine Sub.of_eq ?_; intro o ob h; rcases o with _ | _ | _ | _ | _ | o <;> simp_all)) ?_
      refine q_mv rfl ?_
      refine q_ext rfl rfl ?_
      refine q_ext rfl rfl ?_
      refine q_mv rfl ?_
      refine q_mv rfl ?_
      refine rg_nil ?_
      refine VS_seq ?_
      refine VS_seq ?_
      refine VS_r0 rfl ?_
      refine q_mv rfl ?_
      refine q_mv rfl ?_
      refine q_callp (x := .bool true) ((c_laws_equalInts _ _ (by first | omega | (simp; done) | (simp; omega)) (by first | omega | (simp; done) | (simp; omega))).eqT (by first | rfl | (simp; done))) rfl (by first | exact trivial | exact Sub.nil | exact Sub.refl _ | exact Sub.app _ _ | exact SubL.sub (by repeat (first | exact SubL.nil | apply SubL.none | apply SubL.some | apply SubL.sh | apply SubL.eq)) | (refine Sub.of_eq ?_; intro o ob h; rcases o with _ | _ | _ | _ | _ | o <;> simp_all)) ?_
      refine q_not rfl ?_
      refine q_mv rfl ?_
      refine q_t rfl ?_
      refine q_mv rfl ?_
      refine q_t rfl ?_
      refine q_mv rfl ?_
      refine q_t rfl ?_
      refine q_beq_v false rfl rfl (rfl) ?_
      refine q_pick_f rfl rfl ?_
      refine q_mv rfl ?_
      refine q_t rfl ?_
      refine q_mv rfl ?_
      refine q_t rfl ?_
      refine q_not rfl ?_
      refine q_pick_f rfl rfl ?_
      refine rg_nil ?_
      refine VS_cond rfl (fun e => by cases e) (fun _ => ?_)
      refine VS_skip ?_
      refine VS_seq ?_
      refine Or.elim (Bool.eq_false_or_eq_true (okIns (insK ks k) 44)).symm (fun h2 => ?_) (fun h2 => ?_)
      · skip
        have hz1 : (insT ks 44).length ≤ ks.length + 1 := insT_len
        have hz2 : (insT (insT ks 44) k).length ≤ (insT ks 44).length + 1 := insT_len
        refine VS_r0 rfl ?_
        refine q_mv rfl ?_
        refine q_callp ((c_impl_InsertKey (insK ks k) (44) (by first | omega | (simp; done) | (simp; omega))).to (y := .tup [ints ([]), .bool false]) (by rw [h2]; rfl)) rfl (by first | exact trivial | exact Sub.nil | exact Sub.refl _ | exact Sub.app _ _ | exact SubL.sub (by repeat (first | exact SubL.nil | apply SubL.none | apply SubL.some | apply SubL.sh | apply SubL.eq)) | (refine Sub.of_eq ?_; intro o ob h; rcases o with _ | _ | _ | _ | _ | o <;> simp_all)) ?_
        refine q_mv rfl ?_
        refine q_ext rfl rfl ?_
        refine q_ext rfl rfl ?_
        refine q_mv rfl ?_
        refine q_mv rfl ?_
        refine rg_nil ?_
        refine VS_seq ?_
        refine VS_r0 rfl ?_
        refine q_mv rfl ?_
        refine q_callp ((c_impl_InsertKey ks 44 (by omega)).to (y := .tup [ints (insT ks 44), .bool (okIns ks 44)]) rfl) rfl (by first | exact trivial | exact Sub.nil | exact Sub.refl _ | exact Sub.app _ _ | exact SubL.sub (by repeat (first | exact SubL.nil | apply SubL.none | apply SubL.some | apply SubL.sh | apply SubL.eq)) | (refine Sub.of_eq ?_; intro o ob h; rcases o with _ | _ | _ | _ | _ | o <;> simp_all)) ?_
        refine q_mv rfl ?_
        refine q_ext rfl rfl ?_
        refine q_ext rfl rfl ?_
        refine q_mv rfl ?_
        refine q_mv rfl ?_
        refine rg_nil ?_
        refine VS_seq ?_
        refine VS_r0 rfl ?_
        refine q_mv rfl ?_
        refine q_mv rfl ?_
        refine q_callp ((c_impl_InsertKey (insT ks 44) k (by omega)).to (y := .tup [ints (insT (insT ks 44) k), .bool (okIns (insT ks 44) k)]) rfl) rfl (by first | exact trivial | exact Sub.nil | exact Sub.refl _ | exact Sub.app _ _ | exact SubL.sub (by repeat (first | exact SubL.nil | apply SubL.none | apply SubL.some | apply SubL.sh | apply SubL.eq)) | (refine Sub.of_eq ?_; intro o ob h; rcases o with _ | _ | _ | _ | _ | o <;> simp_all)) ?_
        refine q_mv rfl ?_
        refine q_ext rfl rfl ?_
        refine q_ext rfl rfl ?_
        refine q_mv rfl ?_
        refine q_mv rfl ?_
        refine rg_nil ?_
        refine VS_seq ?_
        refine VS_r0 rfl ?_
        refine q_mv rfl ?_
        refine q_not rfl ?_
        refine q_mv rfl ?_
        refine q_f rfl ?_
        refine q_f rfl ?_
        refine q_u rfl ?_
        refine q_f rfl ?_
        refine q_f rfl ?_
        refine q_u rfl ?_
        refine q_u rfl ?_
        refine q_u rfl ?_
        refine q_f rfl ?_
        refine q_pick_t rfl rfl ?_
        refine q_mv rfl ?_
        refine rg_nil ?_
        refine VS_ret ?_
        exact Bd.now ⟨_, rfl, rfl⟩
      · skip
        have hor := ins_order hg h2
        have hil2 : (insK (insK ks k) 44).length = ks.length + 2 := by rw [insK_len, insK_len]
        have hil3 : (insK ks 44).length = ks.length + 1 := insK_len
        have hil4 : (insK (insK ks 44) k).length = ks.length + 2 := by rw [insK_len, insK_len]
        refine VS_r0 rfl ?_
        refine q_mv rfl ?_
        refine q_callp ((c_impl_InsertKey (insK ks k) (44) (by first | omega | (simp; done) | (simp; omega))).to (y := .tup [ints (insK (insK ks k) (44)), .bool true]) (by rw [if_pos h2, h2])) rfl (by first | exact trivial | exact Sub.nil | exact Sub.refl _ | exact Sub.app _ _ | exact SubL.sub (by repeat (first | exact SubL.nil | apply SubL.none | apply SubL.some | apply SubL.sh | apply SubL.eq)) | (refine Sub.of_eq ?_; intro o ob h; rcases o with _ | _ | _ | _ | _ | o <;> simp_all)) ?_
        refine q_mv rfl ?_
        refine q_ext rfl rfl ?_
        refine q_ext rfl rfl ?_
        refine q_mv rfl ?_
        refine q_mv rfl ?_
        refine rg_nil ?_
        refine VS_seq ?_
        refine VS_r0 rfl ?_
        refine q_mv rfl ?_
        refine q_callp ((c_impl_InsertKey (ks) (44) (by first | omega | (simp; done) | (simp; omega))).to (y := .tup [ints (insK (ks) (44)), .bool true]) (by rw [if_pos hor.1, hor.1])) rfl (by first | exact trivial | exact Sub.nil | exact Sub.refl _ | exact Sub.app _ _ | exact SubL.sub (by repeat (first | exact SubL.nil | apply SubL.none | apply SubL.some | apply SubL.sh | apply SubL.eq)) | (refine Sub.of_eq ?_; intro o ob h; rcases o with _ | _ | _ | _ | _ | o <;> simp_all)) ?_
        refine q_mv rfl ?_
        refine q_ext rfl rfl ?_
        refine q_ext rfl rfl ?_
        refine q_mv rfl ?_
        refine q_mv rfl ?_
        refine rg_nil ?_
        refine VS_seq ?_
        refine VS_r0 rfl ?_
        refine q_mv rfl ?_
        refine q_mv rfl ?_
        refine q_callp ((c_impl_InsertKey (insK ks 44) (k) (by first | omega | (simp; done) | (simp; omega))).to (y := .tup [ints (insK (insK ks 44) (k)), .bool true]) (by rw [if_pos hor.2.1, hor.2.1])) rfl (by first | exact trivial | exact Sub.nil | exact Sub.refl _ | exact Sub.app _ _ | exact SubL.sub (by repeat (first | exact SubL.nil | apply SubL.none | apply SubL.some | apply SubL.sh | apply SubL.eq)) | (refine Sub.of_eq ?_; intro o ob h; rcases o with _ | _ | _ | _ | _ | o <;> simp_all)) ?_
        refine q_mv rfl ?_
        refine q_ext rfl rfl ?_
        refine q_ext rfl rfl ?_
        refine q_mv rfl ?_
        refine q_mv rfl ?_
        refine rg_nil ?_
        refine VS_seq ?_
        refine VS_r0 rfl ?_
        refine q_mv rfl ?_
        refine q_not rfl ?_
        refine q_mv rfl ?_
        refine q_t rfl ?_
        refine q_mv rfl ?_
        refine q_t rfl ?_
        refine q_mv rfl ?_
        refine q_t rfl ?_
        refine q_mv rfl ?_
        refine q_t rfl ?_
        refine q_pick_t rfl rfl ?_
        refine q_t rfl ?_
        refine q_mv rfl ?_
        refine q_t rfl ?_
        refine q_mv rfl ?_
        refine q_t rfl ?_
        refine q_mv rfl ?_
        refine q_t rfl ?_
        refine q_callp (x := .bool true) ((c_laws_equalInts (insK (insK ks k) 44) (insK (insK ks 44) k) (by omega) (by omega)).eqT hor.2.2) rfl (by first | exact trivial | exact Sub.nil | exact Sub.refl _ | exact Sub.app _ _ | exact SubL.sub (by repeat (first | exact SubL.nil | apply SubL.none | apply SubL.some | apply SubL.sh | apply SubL.eq)) | (refine Sub.of_eq ?_; intro o ob h; rcases o with _ | _ | _ | _ | _ | o <;> simp_all)) ?_
        refine q_t rfl ?_
        refine q_pick_t rfl rfl ?_
        refine q_pick_f rfl rfl ?_
        refine q_mv rfl ?_
        refine rg_nil ?_
        refine VS_ret ?_
        exact Bd.now ⟨_, rfl, rfl⟩
theorem c_laws_FnInsertKey (bs : List Int) (hb : isU8 bs) : PCon prog 10 [u8s bs] (fun p => p = .bool true) := by
  refine con_of_VS sl_laws_FnInsertKey (by simp) ?_
  refine VS_seq ?_
  refine VS_r0 rfl ?_
  refine q_mv rfl ?_
  refine rg_nil ?_
  refine VS_seq ?_
  refine VS_seq ?_
  refine VS_r0 rfl ?_
  refine q_mv rfl ?_
  first | refine q_len_m rfl ?_ | refine q_len_s rfl ?_ | refine q_len_o rfl ?_ | refine q_len_n rfl ?_ | refine q_len_x rfl ?_
  refine q_gtr rfl rfl ?_
  refine rg_nil ?_
  refine VS_cond rfl (fun c0 => ?_) (fun c0 => ?_)
  · try simp at c0
    refine VS_seq ?_
    refine VS_r0 rfl ?_
    refine q_mv rfl ?_
    refine rg_nil ?_
    refine VS_ret ?_
    exact Bd.now ⟨_, rfl, rfl⟩
  · try simp at c0
    refine VS_skip ?_
    refine VS_seq ?_
    refine VS_r0 rfl ?_
    refine q_mv rfl ?_
    refine q_calle rfl (c_spec_DrawInsertKey bs hb (by omega)) rfl (by first | exact trivial | exact Sub.nil | exact Sub.refl _ | exact Sub.app _ _ | exact SubL.sub (by repeat (first | exact SubL.nil | apply SubL.none | apply SubL.some | apply SubL.sh | apply SubL.eq)) | (refine Sub.of_eq ?_; intro o ob h; rcases o with _ | _ | _ | _ | _ | o <;> simp_all)) ?_
    rintro _ ⟨ks, k, rfl, ⟨hx1, hx2⟩, hk1, hk2⟩
    refine q_mv rfl ?_
    refine q_ext rfl rfl ?_
    refine q_ext rfl rfl ?_
    refine q_mv rfl ?_
    refine q_mv rfl ?_
    refine rg_nil ?_
    refine VS_seq ?_
    cases hg : okIns ks k
    · skip
      refine VS_r0 rfl ?_
      refine q_mv rfl ?_
      refine q_mv rfl ?_
      refine q_callp ((c_impl_InsertKey (ks) (k) (by first | omega | (simp; done) | (simp; omega))).to (y := .tup [ints ([]), .bool false]) (by rw [hg]; rfl)) rfl (by first | exact trivial | exact Sub.nil | exact Sub.refl _ | exact Sub.app _ _ | exact SubL.sub (by repeat (first | exact SubL.nil | apply SubL.none | apply SubL.some | apply SubL.sh | apply SubL.eq)) | (refine Sub.of_eq ?_; intro o ob h; rcases o with _ | _ | _ | _ | _ | o <;> simp_all)) ?_
      refine q_mv rfl ?_
      refine q_ext rfl rfl ?_
      refine q_ext rfl rfl ?_
      refine q_mv rfl ?_
      refine q_mv rfl ?_
      refine rg_nil ?_
      refine VS_seq ?_
      refine VS_r0 rfl ?_
      refine q_mv rfl ?_
      refine q_mv rfl ?_
      refine q_callp ((c_spec_InsertKey (ks) (k) (by first | omega | (simp; done) | (simp; omega))).to (y := .tup [ints ([]), .bool false]) (by rw [hg]; rfl)) rfl (by first | exact trivial | exact Sub.nil | exact Sub.refl _ | exact Sub.app _ _ | exact SubL.sub (by repeat (first | exact SubL.nil | apply SubL.none | apply SubL.some | apply SubL.sh | apply SubL.eq)) | (refine Sub.of_eq ?_; intro o ob h; rcases o with _ | _ | _ | _ | _ | o <;> simp_all)) ?_
      refine q_mv rfl ?_
      refine q_ext rfl rfl ?_
      refine q_ext rfl rfl ?_
      refine q_mv rfl ?_
      refine q_mv rfl ?_
      refine rg_nil ?_
      refine VS_seq ?_
      refine VS_seq ?_
      refine VS_r0 rfl ?_
      refine q_mv rfl ?_
      refine q_mv rfl ?_
      refine q_callp (x := .bool true) ((c_laws_equalInts _ _ (by first | omega | (simp; done) | (simp; omega)) (by first | omega | (simp; done) | (simp; omega))).eqT (by first | rfl | (simp; done))) rfl (by first | exact trivial | exact Sub.nil | exact Sub.refl _ | exact Sub.app _ _ | exact SubL.sub (by repeat (first | exact SubL.nil | apply SubL.none | apply SubL.some | apply SubL.sh | apply SubL.eq)) | (refine Sub.of_eq ?_; intro o ob h; rcases o with _ | _ | _ | _ | _ | o <;> simp_all)) ?_
      refine q_not rfl ?_
      refine q_mv rfl ?_
      refine q_t rfl ?_
      refine q_mv rfl ?_
      refine q_t rfl ?_
      refine q_mv rfl ?_
      refine q_t rfl ?_
      refine q_beq_v false rfl rfl (rfl) ?_
      refine q_pick_f rfl rfl ?_
      refine q_mv rfl ?_
      refine q_t rfl ?_
      refine q_mv rfl ?_
      refine q_t rfl ?_
      refine q_not rfl ?_
      refine q_pick_f rfl rfl ?_
      refine rg_nil ?_
      refine VS_cond rfl (fun _ => ?_) (fun e => by cases e)
      refine VS_seq ?_
      refine VS_r0 rfl ?_
      refine q_mv rfl ?_
      refine q_mv rfl ?_
      refine q_callp (x := .bool true) ((c_laws_equalInts _ _ (by first | omega | (simp; done) | (simp; omega)) (by first | omega | (simp; done) | (simp; omega))).eqT (by first | rfl | (simp; done))) rfl (by first | exact trivial | exact Sub.nil | exact Sub.refl _ | exact Sub.app _ _ | exact SubL.sub (by repeat (first | exact SubL.nil | apply SubL.none | apply SubL.some | apply SubL.sh | apply SubL.eq)) | (refine Sub.of_eq ?_; intro o ob h; rcases o with _ | _ | _ | _ | _ | o <;> simp_all)) ?_
      refine q_mv rfl ?_
      refine q_t rfl ?_
      refine q_mv rfl ?_
      refine q_t rfl ?_
      refine q_mv rfl ?_
      refine q_t rfl ?_
      refine q_beq_v true rfl rfl (rfl) ?_
      refine q_pick_t rfl rfl ?_
      refine q_mv rfl ?_
      refine rg_nil ?_
      refine VS_ret ?_
      exact Bd.now ⟨_, rfl, rfl⟩
    · skip
      have hil : (insK ks k).length = ks.length + 1 := insK_len
      have hgo := insK_good hg
      have hg1 := (okIns_iff.1 hg).1
      have hg2 := (okIns_iff.1 hg).2.1
      have hul := upTo_le ks (k - 1)
      have hit := ins_there hg
      have hrr : (goodKeys (insK ks k) && (insK ks k).contains k) = true := by rw [hgo, hit.2.1]; rfl
      refine VS_r0 rfl ?_
      refine q_mv rfl ?_
      refine q_mv rfl ?_
      refine q_callp ((c_impl_InsertKey (ks) (k) (by first | omega | (simp; done) | (simp; omega))).to (y := .tup [ints (insK (ks) (k)), .bool true]) (by rw [if_pos hg, hg])) rfl (by first | exact trivial | exact Sub.nil | exact Sub.refl _ | exact Sub.app _ _ | exact SubL.sub (by repeat (first | exact SubL.nil | apply SubL.none | apply SubL.some | apply SubL.sh | apply SubL.eq)) | (refine Sub.of_eq ?_; intro o ob h; rcases o with _ | _ | _ | _ | _ | o <;> simp_all)) ?_
      refine q_mv rfl ?_
      refine q_ext rfl rfl ?_
      refine q_ext rfl rfl ?_
      refine q_mv rfl ?_
      refine q_mv rfl ?_
      refine rg_nil ?_
      refine VS_seq ?_
      refine VS_r0 rfl ?_
      refine q_mv rfl ?_
      refine q_mv rfl ?_
      refine q_callp ((c_spec_InsertKey (ks) (k) (by first | omega | (simp; done) | (simp; omega))).to (y := .tup [ints (insK (ks) (k)), .bool true]) (by rw [if_pos hg, hg])) rfl (by first | exact trivial | exact Sub.nil | exact Sub.refl _ | exact Sub.app _ _ | exact SubL.sub (by repeat (first | exact SubL.nil | apply SubL.none | apply SubL.some | apply SubL.sh | apply SubL.eq)) | (refine Sub.of_eq ?_; intro o ob h; rcases o with _ | _ | _ | _ | _ | o <;> simp_all)) ?_
      refine q_mv rfl ?_
      refine q_ext rfl rfl ?_
      refine q_ext rfl rfl ?_
      refine q_mv rfl ?_
      refine q_mv rfl ?_
      refine rg_nil ?_
      refine VS_seq ?_
      refine VS_seq ?_
      refine VS_r0 rfl ?_
      refine q_mv rfl ?_
      refine q_mv rfl ?_
      refine q_callp (x := .bool true) ((c_laws_equalInts _ _ (by first | omega | (simp; done) | (simp; omega)) (by first | omega | (simp; done) | (simp; omega))).eqT (by first | rfl | (simp; done))) rfl (by first | exact trivial | exact Sub.nil | exact Sub.refl _ | exact Sub.app _ _ | exact SubL.sub (by repeat (first | exact SubL.nil | apply SubL.none | apply SubL.some | apply SubL.sh | apply SubL.eq)) | (refine Sub.of_eq ?_; intro o ob h; rcases o with _ | _ | _ | _ | _ | o <;> simp_all)) ?_
      refine q_not rfl ?_
      refine q_mv rfl ?_
      refine q_t rfl ?_
      refine q_mv rfl ?_
      refine q_t rfl ?_
      refine q_mv rfl ?_
      refine q_t rfl ?_
      refine q_beq_v false rfl rfl (rfl) ?_
      refine q_pick_f rfl rfl ?_
      refine q_mv rfl ?_
      refine q_t rfl ?_
      refine q_mv rfl ?_
      refine q_t rfl ?_
      refine q_not rfl ?_
      refine q_pick_f rfl rfl ?_
      refine rg_nil ?_
      refine VS_cond rfl (fun e => by cases e) (fun _ => ?_)
      refine VS_skip ?_
      refine VS_seq ?_
      refine VS_r0 rfl ?_
      refine q_mv rfl ?_
      refine q_mv rfl ?_
      refine q_callp ((c_impl_KeysBelow ks k (by omega)).to (y := i64 (upTo ks (k - 1))) (by rw [if_pos hg1])) rfl (by first | exact trivial | exact Sub.nil | exact Sub.refl _ | exact Sub.app _ _ | exact SubL.sub (by repeat (first | exact SubL.nil | apply SubL.none | apply SubL.some | apply SubL.sh | apply SubL.eq)) | (refine Sub.of_eq ?_; intro o ob h; rcases o with _ | _ | _ | _ | _ | o <;> simp_all)) ?_
      refine q_mv rfl ?_
      refine rg_nil ?_
      refine VS_seq ?_
      refine VS_r0 rfl ?_
      refine q_mv rfl ?_
      refine q_mv rfl ?_
      refine q_callp ((c_impl_RemoveKey (insK ks k) (k) (by first | omega | (simp; done) | (simp; omega))).to (y := .tup [ints (ks), .bool true]) (by rw [if_pos hrr, hrr, hit.2.2])) rfl (by first | exact trivial | exact Sub.nil | exact Sub.refl _ | exact Sub.app _ _ | exact SubL.sub (by repeat (first | exact SubL.nil | apply SubL.none | apply SubL.some | apply SubL.sh | apply SubL.eq)) | (refine Sub.of_eq ?_; intro o ob h; rcases o with _ | _ | _ | _ | _ | o <;> simp_all)) ?_
      refine q_mv rfl ?_
      refine q_ext rfl rfl ?_
      refine q_ext rfl rfl ?_
      refine q_mv rfl ?_
      refine q_mv rfl ?_
      refine rg_nil ?_
      refine VS_seq ?_
      refine VS_r0 rfl ?_
      refine q_mv rfl ?_
      refine q_geq_v true rfl rfl (decide_eq_true (by omega)) ?_
      refine q_mv rfl ?_
      refine q_t rfl ?_
      refine q_mv rfl ?_
      refine q_t rfl ?_
      refine q_mv rfl ?_
      refine q_t rfl ?_
      first | refine q_len_m rfl ?_ | refine q_len_s rfl ?_ | refine q_len_o rfl ?_ | refine q_len_n rfl ?_ | refine q_len_x rfl ?_
      refine q_t rfl ?_
      refine q_lss_v true rfl rfl (decide_eq_true (by omega)) ?_
      refine q_pick_t rfl rfl ?_
      refine q_mv rfl ?_
      refine q_t rfl ?_
      refine q_mv rfl ?_
      refine q_t rfl ?_
      refine q_mv rfl ?_
      refine q_t rfl ?_
      first | refine q_idx_c _ rfl rfl (by omega) (fun _ => rfl) ?_ | refine q_idx_m rfl rfl (by omega) (by omega) (fun _ => rfl) ?_ | refine q_idx_om rfl rfl (by omega) (by omega) rfl rfl ?_
      refine q_t rfl ?_
      first | refine q_load_c rfl rfl rfl ?_ | refine q_load_r rfl rfl rfl rfl rfl rfl rfl ?_ | refine q_load_o rfl rfl rfl rfl rfl ?_
      refine q_t rfl ?_
      refine q_mv rfl ?_
      refine q_t rfl ?_
      refine q_eql_v true rfl rfl (decide_eq_true hit.1) ?_
      refine q_pick_t rfl rfl ?_
      refine q_mv rfl ?_
      refine q_t rfl ?_
      refine q_mv rfl ?_
      refine q_pick_t rfl rfl ?_
      refine q_mv rfl ?_
      refine q_t rfl ?_
      refine q_mv rfl ?_
      refine q_t rfl ?_
      refine q_mv rfl ?_
      refine q_t rfl ?_
      refine q_callp (x := .bool true) ((c_laws_equalInts _ _ (by first | omega | (simp; done) | (simp; omega)) (by first | omega | (simp; done) | (simp; omega))).eqT (by first | rfl | (simp; done))) rfl (by first | exact trivial | exact Sub.nil | exact Sub.refl _ | exact Sub.app _ _ | exact SubL.sub (by repeat (first | exact SubL.nil | apply SubL.none | apply SubL.some | apply SubL.sh | apply SubL.eq)) | (refine Sub.of_eq ?_; intro o ob h; rcases o with _ | _ | _ | _ | _ | o <;> simp_all)) ?_
      refine q_pick_t rfl rfl ?_
      refine q_mv rfl ?_
      refine q_t rfl ?_
      refine q_mv rfl ?_
      refine q_t rfl ?_
      refine q_callp (x := .bool true) ((c_impl_ValidKeys (insK ks k) (by omega)).to (y := .bool true) (by rw [hgo])) rfl (by first | exact trivial | exact Sub.nil | exact Sub.refl _ | exact Sub.app _ _ | exact SubL.sub (by repeat (first | exact SubL.nil | apply SubL.none | apply SubL.some | apply SubL.sh | apply SubL.eq)) | (refine Sub.of_eq ?_; intro o ob h; rcases o with _ | _ | _ | _ | _ | o <;> simp_all)) ?_
      refine q_pick_t rfl rfl ?_
      refine q_mv rfl ?_
      refine rg_nil ?_
      refine VS_ret ?_
      exact Bd.now ⟨_, rfl, rfl⟩
theorem c_laws_FnRemoveKey (bs : List Int) (hb : isU8 bs) : PCon prog 11 [u8s bs] (fun p => p = .bool true) := by
  refine con_of_VS sl_laws_FnRemoveKey (by simp) ?_
  refine VS_seq ?_
  refine VS_r0 rfl ?_
  refine q_mv rfl ?_
  refine rg_nil ?_
  refine VS_seq ?_
  refine VS_seq ?_
  refine VS_r0 rfl ?_
  refine q_mv rfl ?_
  first | refine q_len_m rfl ?_ | refine q_len_s rfl ?_ | refine q_len_o rfl ?_ | refine q_len_n rfl ?_ | refine q_len_x rfl ?_
  refine q_gtr rfl rfl ?_
  refine rg_nil ?_
  refine VS_cond rfl (fun c0 => ?_) (fun c0 => ?_)
  · try simp at c0
    refine VS_seq ?_
    refine VS_r0 rfl ?_
    refine q_mv rfl ?_
    refine rg_nil ?_
    refine VS_ret ?_
    exact Bd.now ⟨_, rfl, rfl⟩
  · try simp at c0
    refine VS_skip ?_
    refine VS_seq ?_
    refine VS_r0 rfl ?_
    refine q_mv rfl ?_
    refine q_calle rfl (c_spec_DrawRemoveKey bs hb (by omega)) rfl (by first | exact trivial | exact Sub.nil | exact Sub.refl _ | exact Sub.app _ _ | exact SubL.sub (by repeat (first | exact SubL.nil | apply SubL.none | apply SubL.some | apply SubL.sh | apply SubL.eq)) | (refine Sub.of_eq ?_; intro o ob h; rcases o with _ | _ | _ | _ | _ | o <;> simp_all)) ?_
    rintro _ ⟨ks, k, rfl, ⟨hx1, hx2⟩, hk1, hk2⟩
    refine q_mv rfl ?_
    refine q_ext rfl rfl ?_
    refine q_ext rfl rfl ?_
    refine q_mv rfl ?_
    refine q_mv rfl ?_
    refine rg_nil ?_
    refine VS_seq ?_
    cases hg : goodKeys ks && ks.contains k
    · skip
      refine VS_r0 rfl ?_
      refine q_mv rfl ?_
      refine q_mv rfl ?_
      refine q_callp ((c_impl_RemoveKey (ks) (k) (by first | omega | (simp; done) | (simp; omega))).to (y := .tup [ints ([]), .bool false]) (by rw [hg]; rfl)) rfl (by first | exact trivial | exact Sub.nil | exact Sub.refl _ | exact Sub.app _ _ | exact SubL.sub (by repeat (first | exact SubL.nil | apply SubL.none | apply SubL.some | apply SubL.sh | apply SubL.eq)) | (refine Sub.of_eq ?_; intro o ob h; rcases o with _ | _ | _ | _ | _ | o <;> simp_all)) ?_
      refine q_mv rfl ?_
      refine q_ext rfl rfl ?_
      refine q_ext rfl rfl ?_
      refine q_mv rfl ?_
      refine q_mv rfl ?_
      refine rg_nil ?_
      refine VS_seq ?_
      refine VS_r0 rfl ?_
      refine q_mv rfl ?_
      refine q_mv rfl ?_
      refine q_callp ((c_spec_RemoveKey (ks) (k) (by first | omega | (simp; done) | (simp; omega))).to (y := .tup [ints ([]), .bool false]) (by rw [hg]; rfl)) rfl (by first | exact trivial | exact Sub.nil | exact Sub.refl _ | exact Sub.app _ _ | exact SubL.sub (by repeat (first | exact SubL.nil | apply SubL.none | apply SubL.some | apply SubL.sh | apply SubL.eq)) | (refine Sub.of_eq ?_; intro o ob h; rcases o with _ | _ | _ | _ | _ | o <;> simp_all)) ?_
      refine q_mv rfl ?_
      refine q_ext rfl rfl ?_
      refine q_ext rfl rfl ?_
      refine q_mv rfl ?_
      refine q_mv rfl ?_
      refine rg_nil ?_
      refine VS_seq ?_
      refine VS_seq ?_
      refine VS_r0 rfl ?_
      refine q_mv rfl ?_
      refine q_mv rfl ?_
      refine q_callp (x := .bool true) ((c_laws_equalInts _ _ (by first | omega | (simp; done) | (simp; omega)) (by first | omega | (simp; done) | (simp; omega))).eqT (by first | rfl | (simp; done))) rfl (by first | exact trivial | exact Sub.nil | exact Sub.refl _ | exact Sub.app _ _ | exact SubL.sub (by repeat (first | exact SubL.nil | apply SubL.none | apply SubL.some | apply SubL.sh | apply SubL.eq)) | (refine Sub.of_eq ?_; intro o ob h; rcases o with _ | _ | _ | _ | _ | o <;> simp_all)) ?_
      refine q_not rfl ?_
      refine q_mv rfl ?_
      refine q_t rfl ?_
      refine q_mv rfl ?_
      refine q_t rfl ?_
      refine q_mv rfl ?_
      refine q_t rfl ?_
      refine q_beq_v false rfl rfl (rfl) ?_
      refine q_pick_f rfl rfl ?_
      refine q_mv rfl ?_
      refine q_t rfl ?_
      refine q_mv rfl ?_
      refine q_t rfl ?_
      refine q_not rfl ?_
      refine q_pick_f rfl rfl ?_
      refine rg_nil ?_
      refine VS_cond rfl (fun _ => ?_) (fun e => by cases e)
      refine VS_seq ?_
      refine VS_r0 rfl ?_
      refine q_mv rfl ?_
      refine q_mv rfl ?_
      refine q_callp (x := .bool true) ((c_laws_equalInts _ _ (by first | omega | (simp; done) | (simp; omega)) (by first | omega | (simp; done) | (simp; omega))).eqT (by first | rfl | (simp; done))) rfl (by first | exact trivial | exact Sub.nil | exact Sub.refl _ | exact Sub.app _ _ | exact SubL.sub (by repeat (first | exact SubL.nil | apply SubL.none | apply SubL.some | apply SubL.sh | apply SubL.eq)) | (refine Sub.of_eq ?_; intro o ob h; rcases o with _ | _ | _ | _ | _ | o <;> simp_all)) ?_
      refine q_mv rfl ?_
      refine q_t rfl ?_
      refine q_mv rfl ?_
      refine q_t rfl ?_
      refine q_mv rfl ?_
      refine q_t rfl ?_
      refine q_beq_v true rfl rfl (rfl) ?_
      refine q_pick_t rfl rfl ?_
      refine q_mv rfl ?_
      refine rg_nil ?_
      refine VS_ret ?_
      exact Bd.now ⟨_, rfl, rfl⟩
    · skip
      have l1 : (rmK ks k).length ≤ ks.length := rmK_len
      have hg1 : goodKeys ks = true := by simp_all
      have hg2 : ks.contains k = true := by simp_all
      have hrb := rm_back hg1 hg2
      refine VS_r0 rfl ?_
      refine q_mv rfl ?_
      refine q_mv rfl ?_
      refine q_callp ((c_impl_RemoveKey (ks) (k) (by first | omega | (simp; done) | (simp; omega))).to (y := .tup [ints (rmK (ks) (k)), .bool true]) (by rw [if_pos hg, hg])) rfl (by first | exact trivial | exact Sub.nil | exact Sub.refl _ | exact Sub.app _ _ | exact SubL.sub (by repeat (first | exact SubL.nil | apply SubL.none | apply SubL.some | apply SubL.sh | apply SubL.eq)) | (refine Sub.of_eq ?_; intro o ob h; rcases o with _ | _ | _ | _ | _ | o <;> simp_all)) ?_
      refine q_mv rfl ?_
      refine q_ext rfl rfl ?_
      refine q_ext rfl rfl ?_
      refine q_mv rfl ?_
      refine q_mv rfl ?_
      refine rg_nil ?_
      refine VS_seq ?_
      refine VS_r0 rfl ?_
      refine q_mv rfl ?_
      refine q_mv rfl ?_
      refine q_callp ((c_spec_RemoveKey (ks) (k) (by first | omega | (simp; done) | (simp; omega))).to (y := .tup [ints (rmK (ks) (k)), .bool true]) (by rw [if_pos hg, hg])) rfl (by first | exact trivial | exact Sub.nil | exact Sub.refl _ | exact Sub.app _ _ | exact SubL.sub (by repeat (first | exact SubL.nil | apply SubL.none | apply SubL.some | apply SubL.sh | apply SubL.eq)) | (refine Sub.of_eq ?_; intro o ob h; rcases o with _ | _ | _ | _ | _ | o <;> simp_all)) ?_
      refine q_mv rfl ?_
      refine q_ext rfl rfl ?_
      refine q_ext rfl rfl ?_
      refine q_mv rfl ?_
      refine q_mv rfl ?_
      refine rg_nil ?_
      refine VS_seq ?_
      refine VS_seq ?_
      refine VS_r0 rfl ?_
      refine q_mv rfl ?_
      refine q_mv rfl ?_
      refine q_callp (x := .bool true) ((c_laws_equalInts _ _ (by first | omega | (simp; done) | (simp; omega)) (by first | omega | (simp; done) | (simp; omega))).eqT (by first | rfl | (simp; done))) rfl (by first | exact trivial | exact Sub.nil | exact Sub.refl _ | exact Sub.app _ _ | exact SubL.sub (by repeat (first | exact SubL.nil | apply SubL.none | apply SubL.some | apply SubL.sh | apply SubL.eq)) | (refine Sub.of_eq ?_; intro o ob h; rcases o with _ | _ | _ | _ | _ | o <;> simp_all)) ?_
      refine q_not rfl ?_
      refine q_mv rfl ?_
      refine q_t rfl ?_
      refine q_mv rfl ?_
      refine q_t rfl ?_
      refine q_mv rfl ?_
      refine q_t rfl ?_
      refine q_beq_v false rfl rfl (rfl) ?_
      refine q_pick_f rfl rfl ?_
      refine q_mv rfl ?_
      refine q_t rfl ?_
      refine q_mv rfl ?_
      refine q_t rfl ?_
      refine q_not rfl ?_
      refine q_pick_f rfl rfl ?_
      refine rg_nil ?_
      refine VS_cond rfl (fun e => by cases e) (fun _ => ?_)
      refine VS_skip ?_
      refine VS_seq ?_
      refine VS_r0 rfl ?_
      refine q_mv rfl ?_
      refine q_mv rfl ?_
      refine q_callp ((c_impl_InsertKey (rmK ks k) (k) (by first | omega | (simp; done) | (simp; omega))).to (y := .tup [ints (ks), .bool true]) (by rw [if_pos hrb.1, hrb.1, hrb.2.1])) rfl (by first | exact trivial | exact Sub.nil | exact Sub.refl _ | exact Sub.app _ _ | exact SubL.sub (by repeat (first | exact SubL.nil | apply SubL.none | apply SubL.some | apply SubL.sh | apply SubL.eq)) | (refine Sub.of_eq ?_; intro o ob h; rcases o with _ | _ | _ | _ | _ | o <;> simp_all)) ?_
      refine q_mv rfl ?_
      refine q_ext rfl rfl ?_
      refine q_ext rfl rfl ?_
      refine q_mv rfl ?_
      refine q_mv rfl ?_
      refine rg_nil ?_
      refine VS_seq ?_
      refine VS_r0 rfl ?_
      refine q_mv rfl ?_
      refine q_mv rfl ?_
      refine q_t rfl ?_
      refine q_mv rfl ?_
      refine q_t rfl ?_
      refine q_mv rfl ?_
      refine q_t rfl ?_
      refine q_callp (x := .bool true) ((c_laws_equalInts _ _ (by first | omega | (simp; done) | (simp; omega)) (by first | omega | (simp; done) | (simp; omega))).eqT (by first | rfl | (simp; done))) rfl (by first | exact trivial | exact Sub.nil | exact Sub.refl _ | exact Sub.app _ _ | exact SubL.sub (by repeat (first | exact SubL.nil | apply SubL.none | apply SubL.some | apply SubL.sh | apply SubL.eq)) | (refine Sub.of_eq ?_; intro o ob h; rcases o with _ | _ | _ | _ | _ | o <;> simp_all)) ?_
      refine q_pick_t rfl rfl ?_
      refine q_mv rfl ?_
      refine q_t rfl ?_
      refine q_mv rfl ?_
      refine q_t rfl ?_
      refine q_mv rfl ?_
      refine q_t rfl ?_
      refine q_callp (x := .bool false) ((c_laws_isIn (rmK ks k) k (by omega)).to (y := .bool false) (by rw [hrb.2.2.1])) rfl (by first | exact trivial | exact Sub.nil | exact Sub.refl _ | exact Sub.app _ _ | exact SubL.sub (by repeat (first | exact SubL.nil | apply SubL.none | apply SubL.some | apply SubL.sh | apply SubL.eq)) | (refine Sub.of_eq ?_; intro o ob h; rcases o with _ | _ | _ | _ | _ | o <;> simp_all)) ?_
      refine q_t rfl ?_
      refine q_not rfl ?_
      refine q_pick_t rfl rfl ?_
      refine q_mv rfl ?_
      refine q_t rfl ?_
      refine q_mv rfl ?_
      refine q_t rfl ?_
      first | refine q_len_m rfl ?_ | refine q_len_s rfl ?_ | refine q_len_o rfl ?_ | refine q_len_n rfl ?_ | refine q_len_x rfl ?_
      refine q_t rfl ?_
      refine q_mv rfl ?_
      refine q_t rfl ?_
      first | refine q_len_m rfl ?_ | refine q_len_s rfl ?_ | refine q_len_o rfl ?_ | refine q_len_n rfl ?_ | refine q_len_x rfl ?_
      refine q_t rfl ?_
      refine q_sub rfl rfl (inR64 (by omega)) ?_
      refine q_t rfl ?_
      refine q_eql_v true rfl rfl (decide_eq_true (by omega)) ?_
      refine q_pick_t rfl rfl ?_
      refine q_mv rfl ?_
      refine rg_nil ?_
      refine VS_ret ?_
      exact Bd.now ⟨_, rfl, rfl⟩
theorem c_laws_FnRemoveKeyNone (bs : List Int) (hb : isU8 bs) : PCon prog 12 [u8s bs] (fun p => p = .bool true) := by
  refine con_of_VS sl_laws_FnRemoveKeyNone (by simp) ?_
  refine VS_seq ?_
  refine VS_r0 rfl ?_
  refine q_mv rfl ?_
  refine rg_nil ?_
  refine VS_seq ?_
  refine VS_seq ?_
  refine VS_r0 rfl ?_
  refine q_mv rfl ?_
  first | refine q_len_m rfl ?_ | refine q_len_s rfl ?_ | refine q_len_o rfl ?_ | refine q_len_n rfl ?_ | refine q_len_x rfl ?_
  refine q_gtr rfl rfl ?_
  refine rg_nil ?_
  refine VS_cond rfl (fun c0 => ?_) (fun c0 => ?_)
  · try simp at c0
    refine VS_seq ?_
    refine VS_r0 rfl ?_
    refine q_mv rfl ?_
    refine rg_nil ?_
    refine VS_ret ?_
    exact Bd.now ⟨_, rfl, rfl⟩
  · try simp at c0
    refine VS_skip ?_
    refine VS_seq ?_
    refine VS_r0 rfl ?_
    refine q_mv rfl ?_
    refine q_calle rfl (c_spec_DrawRemoveKey bs hb (by omega)) rfl (by first | exact trivial | exact Sub.nil | exact Sub.refl _ | exact Sub.app _ _ | exact SubL.sub (by repeat (first | exact SubL.nil | apply SubL.none | apply SubL.some | apply SubL.sh | apply SubL.eq)) | (refine Sub.of_eq ?_; intro o ob h; rcases o with _ | _ | _ | _ | _ | o <;> simp_all)) ?_
    rintro _ ⟨ks, k, rfl, ⟨hx1, hx2⟩, hk1, hk2⟩
    refine q_mv rfl ?_
    refine q_ext rfl rfl ?_
    refine q_ext rfl rfl ?_
    refine q_mv rfl ?_
    refine q_mv rfl ?_
    refine rg_nil ?_
    refine VS_seq ?_
    have hb3 : goodKeys ks = false ∨ (goodKeys ks = true ∧ ks.contains k = false) ∨ (goodKeys ks = true ∧ ks.contains k = true) := by cases goodKeys ks <;> cases ks.contains k <;> simp
    have l1 : (rmK ks k).length ≤ ks.length := rmK_len
    rcases hb3 with hv | ⟨hv, hc⟩ | ⟨hv, hc⟩
    · skip
      refine VS_r0 rfl ?_
      refine q_mv rfl ?_
      refine q_mv rfl ?_
      refine q_callp ((c_impl_RemoveKey ks k (by omega)).to (y := .tup [ints [], .bool false]) (by rw [hv]; rfl)) rfl (by first | exact trivial | exact Sub.nil | exact Sub.refl _ | exact Sub.app _ _ | exact SubL.sub (by repeat (first | exact SubL.nil | apply SubL.none | apply SubL.some | apply SubL.sh | apply SubL.eq)) | (refine Sub.of_eq ?_; intro o ob h; rcases o with _ | _ | _ | _ | _ | o <;> simp_all)) ?_
      refine q_mv rfl ?_
      refine q_ext rfl rfl ?_
      refine q_ext rfl rfl ?_
      refine q_mv rfl ?_
      refine q_mv rfl ?_
      refine rg_nil ?_
      refine VS_seq ?_
      refine VS_r0 rfl ?_
      refine q_mv rfl ?_
      refine q_mv rfl ?_
      refine q_callp ((c_spec_RemoveKey ks k (by omega)).to (y := .tup [ints [], .bool false]) (by rw [hv]; rfl)) rfl (by first | exact trivial | exact Sub.nil | exact Sub.refl _ | exact Sub.app _ _ | exact SubL.sub (by repeat (first | exact SubL.nil | apply SubL.none | apply SubL.some | apply SubL.sh | apply SubL.eq)) | (refine Sub.of_eq ?_; intro o ob h; rcases o with _ | _ | _ | _ | _ | o <;> simp_all)) ?_
      refine q_mv rfl ?_
      refine q_ext rfl rfl ?_
      refine q_ext rfl rfl ?_
      refine q_mv rfl ?_
      refine q_mv rfl ?_
      refine rg_nil ?_
      refine VS_seq ?_
      refine VS_seq ?_
      refine VS_r0 rfl ?_
      refine q_mv rfl ?_
      refine q_mv rfl ?_
      refine q_callp (x := .bool true) ((c_laws_equalInts _ _ (by first | omega | (simp; done) | (simp; omega)) (by first | omega | (simp; done) | (simp; omega))).eqT (by first | rfl | (simp; done))) rfl (by first | exact trivial | exact Sub.nil | exact Sub.refl _ | exact Sub.app _ _ | exact SubL.sub (by repeat (first | exact SubL.nil | apply SubL.none | apply SubL.some | apply SubL.sh | apply SubL.eq)) | (refine Sub.of_eq ?_; intro o ob h; rcases o with _ | _ | _ | _ | _ | o <;> simp_all)) ?_
      refine q_not rfl ?_
      refine q_mv rfl ?_
      refine q_t rfl ?_
      refine q_mv rfl ?_
      refine q_t rfl ?_
      refine q_mv rfl ?_
      refine q_t rfl ?_
      refine q_beq_v false rfl rfl (rfl) ?_
      refine q_pick_f rfl rfl ?_
      refine q_mv rfl ?_
      refine q_t rfl ?_
      refine q_mv rfl ?_
      refine q_t rfl ?_
      refine q_callp (x := .bool false) ((c_impl_ValidKeys ks (by omega)).to (y := .bool false) (by rw [hv])) rfl (by first | exact trivial | exact Sub.nil | exact Sub.refl _ | exact Sub.app _ _ | exact SubL.sub (by repeat (first | exact SubL.nil | apply SubL.none | apply SubL.some | apply SubL.sh | apply SubL.eq)) | (refine Sub.of_eq ?_; intro o ob h; rcases o with _ | _ | _ | _ | _ | o <;> simp_all)) ?_
      refine q_t rfl ?_
      refine q_not rfl ?_
      refine q_pick_f rfl rfl ?_
      refine q_mv rfl ?_
      refine q_f rfl ?_
      refine q_f rfl ?_
      refine q_pick_t rfl rfl ?_
      refine q_mv rfl ?_
      refine q_f rfl ?_
      refine q_f rfl ?_
      refine q_pick_t rfl rfl ?_
      refine rg_nil ?_
      refine VS_cond rfl (fun _ => ?_) (fun e => by cases e)
      refine VS_seq ?_
      refine VS_r0 rfl ?_
      refine q_mv rfl ?_
      refine q_mv rfl ?_
      refine q_callp (x := .bool true) ((c_laws_equalInts _ _ (by first | omega | (simp; done) | (simp; omega)) (by first | omega | (simp; done) | (simp; omega))).eqT (by first | rfl | (simp; done))) rfl (by first | exact trivial | exact Sub.nil | exact Sub.refl _ | exact Sub.app _ _ | exact SubL.sub (by repeat (first | exact SubL.nil | apply SubL.none | apply SubL.some | apply SubL.sh | apply SubL.eq)) | (refine Sub.of_eq ?_; intro o ob h; rcases o with _ | _ | _ | _ | _ | o <;> simp_all)) ?_
      refine q_mv rfl ?_
      refine q_t rfl ?_
      refine q_mv rfl ?_
      refine q_t rfl ?_
      refine q_mv rfl ?_
      refine q_t rfl ?_
      refine q_beq_v true rfl rfl (rfl) ?_
      refine q_pick_t rfl rfl ?_
      refine q_mv rfl ?_
      refine rg_nil ?_
      refine VS_ret ?_
      exact Bd.now ⟨_, rfl, rfl⟩
    · skip
      refine VS_r0 rfl ?_
      refine q_mv rfl ?_
      refine q_mv rfl ?_
      refine q_callp ((c_impl_RemoveKey ks k (by omega)).to (y := .tup [ints [], .bool false]) (by rw [hv, hc]; rfl)) rfl (by first | exact trivial | exact Sub.nil | exact Sub.refl _ | exact Sub.app _ _ | exact SubL.sub (by repeat (first | exact SubL.nil | apply SubL.none | apply SubL.some | apply SubL.sh | apply SubL.eq)) | (refine Sub.of_eq ?_; intro o ob h; rcases o with _ | _ | _ | _ | _ | o <;> simp_all)) ?_
      refine q_mv rfl ?_
      refine q_ext rfl rfl ?_
      refine q_ext rfl rfl ?_
      refine q_mv rfl ?_
      refine q_mv rfl ?_
      refine rg_nil ?_
      refine VS_seq ?_
      refine VS_r0 rfl ?_
      refine q_mv rfl ?_
      refine q_mv rfl ?_
      refine q_callp ((c_spec_RemoveKey ks k (by omega)).to (y := .tup [ints [], .bool false]) (by rw [hv, hc]; rfl)) rfl (by first | exact trivial | exact Sub.nil | exact Sub.refl _ | exact Sub.app _ _ | exact SubL.sub (by repeat (first | exact SubL.nil | apply SubL.none | apply SubL.some | apply SubL.sh | apply SubL.eq)) | (refine Sub.of_eq ?_; intro o ob h; rcases o with _ | _ | _ | _ | _ | o <;> simp_all)) ?_
      refine q_mv rfl ?_
      refine q_ext rfl rfl ?_
      refine q_ext rfl rfl ?_
      refine q_mv rfl ?_
      refine q_mv rfl ?_
      refine rg_nil ?_
      refine VS_seq ?_
      refine VS_seq ?_
      refine VS_r0 rfl ?_
      refine q_mv rfl ?_
      refine q_mv rfl ?_
      refine q_callp (x := .bool true) ((c_laws_equalInts _ _ (by first | omega | (simp; done) | (simp; omega)) (by first | omega | (simp; done) | (simp; omega))).eqT (by first | rfl | (simp; done))) rfl (by first | exact trivial | exact Sub.nil | exact Sub.refl _ | exact Sub.app _ _ | exact SubL.sub (by repeat (first | exact SubL.nil | apply SubL.none | apply SubL.some | apply SubL.sh | apply SubL.eq)) | (refine Sub.of_eq ?_; intro o ob h; rcases o with _ | _ | _ | _ | _ | o <;> simp_all)) ?_
      refine q_not rfl ?_
      refine q_mv rfl ?_
      refine q_t rfl ?_
      refine q_mv rfl ?_
      refine q_t rfl ?_
      refine q_mv rfl ?_
      refine q_t rfl ?_
      refine q_beq_v false rfl rfl (rfl) ?_
      refine q_pick_f rfl rfl ?_
      refine q_mv rfl ?_
      refine q_t rfl ?_
      refine q_mv rfl ?_
      refine q_t rfl ?_
      refine q_callp (x := .bool true) ((c_impl_ValidKeys ks (by omega)).to (y := .bool true) (by rw [hv])) rfl (by first | exact trivial | exact Sub.nil | exact Sub.refl _ | exact Sub.app _ _ | exact SubL.sub (by repeat (first | exact SubL.nil | apply SubL.none | apply SubL.some | apply SubL.sh | apply SubL.eq)) | (refine Sub.of_eq ?_; intro o ob h; rcases o with _ | _ | _ | _ | _ | o <;> simp_all)) ?_
      refine q_t rfl ?_
      refine q_not rfl ?_
      refine q_pick_f rfl rfl ?_
      refine q_mv rfl ?_
      refine q_t rfl ?_
      refine q_mv rfl ?_
      refine q_t rfl ?_
      refine q_lss rfl rfl ?_
      refine q_pick_f rfl rfl ?_
      refine q_mv rfl ?_
      refine q_b rfl (fun g49 => ?_) (fun g49 => ?_)
      · try simp at g49
        refine q_t rfl ?_
        refine q_mv rfl ?_
        refine q_t rfl ?_
        refine q_gtr rfl rfl ?_
        refine q_pick_f rfl rfl ?_
        refine rg_nil ?_
        refine VS_cond rfl (fun c1 => ?_) (fun c1 => ?_)
        · try simp at c1
          refine VS_seq ?_
          refine VS_r0 rfl ?_
          refine q_mv rfl ?_
          refine q_mv rfl ?_
          refine q_callp (x := .bool true) ((c_laws_equalInts _ _ (by first | omega | (simp; done) | (simp; omega)) (by first | omega | (simp; done) | (simp; omega))).eqT (by first | rfl | (simp; done))) rfl (by first | exact trivial | exact Sub.nil | exact Sub.refl _ | exact Sub.app _ _ | exact SubL.sub (by repeat (first | exact SubL.nil | apply SubL.none | apply SubL.some | apply SubL.sh | apply SubL.eq)) | (refine Sub.of_eq ?_; intro o ob h; rcases o with _ | _ | _ | _ | _ | o <;> simp_all)) ?_
          refine q_mv rfl ?_
          refine q_t rfl ?_
          refine q_mv rfl ?_
          refine q_t rfl ?_
          refine q_mv rfl ?_
          refine q_t rfl ?_
          refine q_beq_v true rfl rfl (rfl) ?_
          refine q_pick_t rfl rfl ?_
          refine q_mv rfl ?_
          refine rg_nil ?_
          refine VS_ret ?_
          exact Bd.now ⟨_, rfl, rfl⟩
        · try simp at c1
          refine VS_skip ?_
          refine VS_seq ?_
          have hr : 0 ≤ k ∧ k ≤ 99 := by omega
          have hi : okIns ks k = true := okIns_iff.2 ⟨hv, hr, by simpa using hc⟩
          refine VS_r0 rfl ?_
          refine q_mv rfl ?_
          refine q_mv rfl ?_
          refine q_callp ((c_impl_InsertKey (ks) (k) (by first | omega | (simp; done) | (simp; omega))).to (y := .tup [ints (insK (ks) (k)), .bool true]) (by rw [if_pos hi, hi])) rfl (by first | exact trivial | exact Sub.nil | exact Sub.refl _ | exact Sub.app _ _ | exact SubL.sub (by repeat (first | exact SubL.nil | apply SubL.none | apply SubL.some | apply SubL.sh | apply SubL.eq)) | (refine Sub.of_eq ?_; intro o ob h; rcases o with _ | _ | _ | _ | _ | o <;> simp_all)) ?_
          refine q_mv rfl ?_
          refine q_ext rfl rfl ?_
          refine q_ext rfl rfl ?_
          refine q_mv rfl ?_
          refine q_mv rfl ?_
          refine rg_nil ?_
          refine VS_seq ?_
          refine VS_r0 rfl ?_
          refine q_mv rfl ?_
          refine q_mv rfl ?_
          refine q_mv rfl ?_
          refine q_callp (x := .bool false) ((c_laws_isIn ks k (by omega)).to (y := .bool false) (by rw [hc])) rfl (by first | exact trivial | exact Sub.nil | exact Sub.refl _ | exact Sub.app _ _ | exact SubL.sub (by repeat (first | exact SubL.nil | apply SubL.none | apply SubL.some | apply SubL.sh | apply SubL.eq)) | (refine Sub.of_eq ?_; intro o ob h; rcases o with _ | _ | _ | _ | _ | o <;> simp_all)) ?_
          refine q_beq_v true rfl rfl (rfl) ?_
          refine q_mv rfl ?_
          refine q_t rfl ?_
          refine q_mv rfl ?_
          refine q_t rfl ?_
          refine q_mv rfl ?_
          refine q_t rfl ?_
          refine q_not rfl ?_
          refine q_t rfl ?_
          refine q_beq_v true rfl rfl (rfl) ?_
          refine q_pick_t rfl rfl ?_
          refine q_mv rfl ?_
          refine rg_nil ?_
          refine VS_ret ?_
          exact Bd.now ⟨_, rfl, rfl⟩
      · try simp at g49
        refine q_f rfl ?_
        refine q_f rfl ?_
        refine q_pick_t rfl rfl ?_
        refine rg_nil ?_
        refine VS_cond rfl (fun _ => ?_) (fun e => by cases e)
        refine VS_seq ?_
        refine VS_r0 rfl ?_
        refine q_mv rfl ?_
        refine q_mv rfl ?_
        refine q_callp (x := .bool true) ((c_laws_equalInts _ _ (by first | omega | (simp; done) | (simp; omega)) (by first | omega | (simp; done) | (simp; omega))).eqT (by first | rfl | (simp; done))) rfl (by first | exact trivial | exact Sub.nil | exact Sub.refl _ | exact Sub.app _ _ | exact SubL.sub (by repeat (first | exact SubL.nil | apply SubL.none | apply SubL.some | apply SubL.sh | apply SubL.eq)) | (refine Sub.of_eq ?_; intro o ob h; rcases o with _ | _ | _ | _ | _ | o <;> simp_all)) ?_
        refine q_mv rfl ?_
        refine q_t rfl ?_
        refine q_mv rfl ?_
        refine q_t rfl ?_
        refine q_mv rfl ?_
        refine q_t rfl ?_
        refine q_beq_v true rfl rfl (rfl) ?_
        refine q_pick_t rfl rfl ?_
        refine q_mv rfl ?_
        refine rg_nil ?_
        refine VS_ret ?_
        exact Bd.now ⟨_, rfl, rfl⟩
    · skip
      refine VS_r0 rfl ?_
      refine q_mv rfl ?_
      refine q_mv rfl ?_
      refine q_callp ((c_impl_RemoveKey ks k (by omega)).to (y := .tup [ints (rmK ks k), .bool true]) (by rw [hv, hc]; rfl)) rfl (by first | exact trivial | exact Sub.nil | exact Sub.refl _ | exact Sub.app _ _ | exact SubL.sub (by repeat (first | exact SubL.nil | apply SubL.none | apply SubL.some | apply SubL.sh | apply SubL.eq)) | (refine Sub.of_eq ?_; intro o ob h; rcases o with _ | _ | _ | _ | _ | o <;> simp_all)) ?_
      refine q_mv rfl ?_
      refine q_ext rfl rfl ?_
      refine q_ext rfl rfl ?_
      refine q_mv rfl ?_
      refine q_mv rfl ?_
      refine rg_nil ?_
      refine VS_seq ?_
      refine VS_r0 rfl ?_
      refine q_mv rfl ?_
      refine q_mv rfl ?_
      refine q_callp ((c_spec_RemoveKey ks k (by omega)).to (y := .tup [ints (rmK ks k), .bool true]) (by rw [hv, hc]; rfl)) rfl (by first | exact trivial | exact Sub.nil | exact Sub.refl _ | exact Sub.app _ _ | exact SubL.sub (by repeat (first | exact SubL.nil | apply SubL.none | apply SubL.some | apply SubL.sh | apply SubL.eq)) | (refine Sub.of_eq ?_; intro o ob h; rcases o with _ | _ | _ | _ | _ | o <;> simp_all)) ?_
      refine q_mv rfl ?_
      refine q_ext rfl rfl ?_
      refine q_ext rfl rfl ?_
      refine q_mv rfl ?_
      refine q_mv rfl ?_
      refine rg_nil ?_
      refine VS_seq ?_
      refine VS_seq ?_
      refine VS_r0 rfl ?_
      refine q_mv rfl ?_
      refine q_mv rfl ?_
      refine q_callp (x := .bool true) ((c_laws_equalInts _ _ (by first | omega | (simp; done) | (simp; omega)) (by first | omega | (simp; done) | (simp; omega))).eqT (by first | rfl | (simp; done))) rfl (by first | exact trivial | exact Sub.nil | exact Sub.refl _ | exact Sub.app _ _ | exact SubL.sub (by repeat (first | exact SubL.nil | apply SubL.none | apply SubL.some | apply SubL.sh | apply SubL.eq)) | (refine Sub.of_eq ?_; intro o ob h; rcases o with _ | _ | _ | _ | _ | o <;> simp_all)) ?_
      refine q_not rfl ?_
      refine q_mv rfl ?_
      refine q_t rfl ?_
      refine q_mv rfl ?_
      refine q_t rfl ?_
      refine q_mv rfl ?_
      refine q_t rfl ?_
      refine q_beq_v false rfl rfl (rfl) ?_
      refine q_pick_f rfl rfl ?_
      refine q_mv rfl ?_
      refine q_t rfl ?_
      refine q_mv rfl ?_
      refine q_t rfl ?_
      refine q_callp (x := .bool true) ((c_impl_ValidKeys ks (by omega)).to (y := .bool true) (by rw [hv])) rfl (by first | exact trivial | exact Sub.nil | exact Sub.refl _ | exact Sub.app _ _ | exact SubL.sub (by repeat (first | exact SubL.nil | apply SubL.none | apply SubL.some | apply SubL.sh | apply SubL.eq)) | (refine Sub.of_eq ?_; intro o ob h; rcases o with _ | _ | _ | _ | _ | o <;> simp_all)) ?_
      refine q_t rfl ?_
      refine q_not rfl ?_
      refine q_pick_f rfl rfl ?_
      refine q_mv rfl ?_
      refine q_t rfl ?_
      refine q_mv rfl ?_
      refine q_t rfl ?_
      refine q_lss rfl rfl ?_
      refine q_pick_f rfl rfl ?_
      refine q_mv rfl ?_
      refine q_b rfl (fun g49 => ?_) (fun g49 => ?_)
      · try simp at g49
        refine q_t rfl ?_
        refine q_mv rfl ?_
        refine q_t rfl ?_
        refine q_gtr rfl rfl ?_
        refine q_pick_f rfl rfl ?_
        refine rg_nil ?_
        refine VS_cond rfl (fun c1 => ?_) (fun c1 => ?_)
        · try simp at c1
          refine VS_seq ?_
          refine VS_r0 rfl ?_
          refine q_mv rfl ?_
          refine q_mv rfl ?_
          refine q_callp (x := .bool true) ((c_laws_equalInts _ _ (by first | omega | (simp; done) | (simp; omega)) (by first | omega | (simp; done) | (simp; omega))).eqT (by first | rfl | (simp; done))) rfl (by first | exact trivial | exact Sub.nil | exact Sub.refl _ | exact Sub.app _ _ | exact SubL.sub (by repeat (first | exact SubL.nil | apply SubL.none | apply SubL.some | apply SubL.sh | apply SubL.eq)) | (refine Sub.of_eq ?_; intro o ob h; rcases o with _ | _ | _ | _ | _ | o <;> simp_all)) ?_
          refine q_mv rfl ?_
          refine q_t rfl ?_
          refine q_mv rfl ?_
          refine q_t rfl ?_
          refine q_mv rfl ?_
          refine q_t rfl ?_
          refine q_beq_v true rfl rfl (rfl) ?_
          refine q_pick_t rfl rfl ?_
          refine q_mv rfl ?_
          refine rg_nil ?_
          refine VS_ret ?_
          exact Bd.now ⟨_, rfl, rfl⟩
        · try simp at c1
          refine VS_skip ?_
          refine VS_seq ?_
          have hi : okIns ks k = false := Bool.eq_false_iff.2 fun h => (okIns_iff.1 h).2.2 (by simpa using hc)
          refine VS_r0 rfl ?_
          refine q_mv rfl ?_
          refine q_mv rfl ?_
          refine q_callp ((c_impl_InsertKey (ks) (k) (by first | omega | (simp; done) | (simp; omega))).to (y := .tup [ints ([]), .bool false]) (by rw [hi]; rfl)) rfl (by first | exact trivial | exact Sub.nil | exact Sub.refl _ | exact Sub.app _ _ | exact SubL.sub (by repeat (first | exact SubL.nil | apply SubL.none | apply SubL.some | apply SubL.sh | apply SubL.eq)) | (refine Sub.of_eq ?_; intro o ob h; rcases o with _ | _ | _ | _ | _ | o <;> simp_all)) ?_
          refine q_mv rfl ?_
          refine q_ext rfl rfl ?_
          refine q_ext rfl rfl ?_
          refine q_mv rfl ?_
          refine q_mv rfl ?_
          refine rg_nil ?_
          refine VS_seq ?_
          refine VS_r0 rfl ?_
          refine q_mv rfl ?_
          refine q_mv rfl ?_
          refine q_mv rfl ?_
          refine q_callp (x := .bool true) ((c_laws_isIn ks k (by omega)).to (y := .bool true) (by rw [hc])) rfl (by first | exact trivial | exact Sub.nil | exact Sub.refl _ | exact Sub.app _ _ | exact SubL.sub (by repeat (first | exact SubL.nil | apply SubL.none | apply SubL.some | apply SubL.sh | apply SubL.eq)) | (refine Sub.of_eq ?_; intro o ob h; rcases o with _ | _ | _ | _ | _ | o <;> simp_all)) ?_
          refine q_beq_v true rfl rfl (rfl) ?_
          refine q_mv rfl ?_
          refine q_t rfl ?_
          refine q_mv rfl ?_
          refine q_t rfl ?_
          refine q_mv rfl ?_
          refine q_t rfl ?_
          refine q_not rfl ?_
          refine q_t rfl ?_
          refine q_beq_v true rfl rfl (rfl) ?_
          refine q_pick_t rfl rfl ?_
          refine q_mv rfl ?_
          refine rg_nil ?_
          refine VS_ret ?_
          exact Bd.now ⟨_, rfl, rfl⟩
      · try simp at g49
        refine q_f rfl ?_
        refine q_f rfl ?_
        refine q_pick_t rfl rfl ?_
        refine rg_nil ?_
        refine VS_cond rfl (fun _ => ?_) (fun e => by cases e)
        refine VS_seq ?_
        refine VS_r0 rfl ?_
        refine q_mv rfl ?_
        refine q_mv rfl ?_
        refine q_callp (x := .bool true) ((c_laws_equalInts _ _ (by first | omega | (simp; done) | (simp; omega)) (by first | omega | (simp; done) | (simp; omega))).eqT (by first | rfl | (simp; done))) rfl (by first | exact trivial | exact Sub.nil | exact Sub.refl _ | exact Sub.app _ _ | exact SubL.sub (by repeat (first | exact SubL.nil | apply SubL.none | apply SubL.some | apply SubL.sh | apply SubL.eq)) | (refine Sub.of_eq ?_; intro o ob h; rcases o with _ | _ | _ | _ | _ | o <;> simp_all)) ?_
        refine q_mv rfl ?_
        refine q_t rfl ?_
        refine q_mv rfl ?_
        refine q_t rfl ?_
        refine q_mv rfl ?_
        refine q_t rfl ?_
        refine q_beq_v true rfl rfl (rfl) ?_
        refine q_pick_t rfl rfl ?_
        refine q_mv rfl ?_
        refine rg_nil ?_
        refine VS_ret ?_
        exact Bd.now ⟨_, rfl, rfl⟩
end Go.V

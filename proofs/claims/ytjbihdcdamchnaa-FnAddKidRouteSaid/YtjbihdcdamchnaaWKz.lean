/- A part of the proofs about laws of the page tree (see the text that bears the law): a small language of steps, its rules, and what the functions of the program return. -/
import Derived.Test.YtjbihdcdamchnaaWE
import Derived.Test.YtjbihdcdamchnaaWC
set_option linter.all false
set_option linter.unusedVariables false
set_option linter.unusedSimpArgs false
set_option maxHeartbeats 4000000
namespace Go.V
open Go.Proofs.Try (prog)
theorem c_laws_FnDropPairNone (bs : List Int) (hb : isU8 bs) : PCon prog 6 [u8s bs] (fun p => p = .bool true) := by
  refine con_of_VS sl_laws_FnDropPairNone (by simp) ?_
  refine VS_seq ?_
  refine VS_r0 rfl ?_
  refine q_mv rfl ?_
  refine rg_nil ?_
  refine VS_seq ?_
  refine VS_seq ?_
  refine VS_r0 rfl ?_
  refine q_mv rfl ?_
  first | refine q_len_m rfl ?_ | refine q_len_s rfl ?_ | refine q_len_o rfl ?_ | refine q_len_n rfl ?_ | refine q_len_x rfl ?_
  refine q_gtr rfl rfl ?_
  refine rg_nil ?_
  refine VS_cond rfl (fun c0 => ?_) (fun c0 => ?_)
  · try simp at c0
    refine VS_seq ?_
    refine VS_r0 rfl ?_
    refine q_mv rfl ?_
    refine rg_nil ?_
    refine VS_ret ?_
    exact Bd.now ⟨_, rfl, rfl⟩
  · try simp at c0
    refine VS_skip ?_
    refine VS_seq ?_
    refine VS_r0 rfl ?_
    refine q_mv rfl ?_
    refine q_calle rfl (c_spec_DrawDropPair bs hb (by omega)) rfl trivial ?_
    rintro _ ⟨xs, k, rfl, ⟨hx1, hx2⟩, hk1, hk2⟩
    refine q_mv rfl ?_
    refine q_ext rfl rfl ?_
    refine q_ext rfl rfl ?_
    refine q_mv rfl ?_
    refine q_mv rfl ?_
    refine rg_nil ?_
    refine VS_seq ?_
    cases hg : okDrop xs k
    · skip
      refine VS_r0 rfl ?_
      refine q_mv rfl ?_
      refine q_mv rfl ?_
      refine q_callp ((c_impl_DropPair xs k (by omega)).to (y := .tup [prs ([]), .bool false]) (by rw [hg]; rfl)) rfl trivial ?_
      refine q_mv rfl ?_
      refine q_ext rfl rfl ?_
      refine q_ext rfl rfl ?_
      refine q_mv rfl ?_
      refine q_mv rfl ?_
      refine rg_nil ?_
      refine VS_seq ?_
      refine VS_r0 rfl ?_
      refine q_mv rfl ?_
      refine q_mv rfl ?_
      refine q_callp ((c_spec_DropPair xs k (by omega)).to (y := .tup [prs ([]), .bool false]) (by rw [hg]; rfl)) rfl trivial ?_
      refine q_mv rfl ?_
      refine q_ext rfl rfl ?_
      refine q_ext rfl rfl ?_
      refine q_mv rfl ?_
      refine q_mv rfl ?_
      refine rg_nil ?_
      refine VS_seq ?_
      refine VS_seq ?_
      refine VS_r0 rfl ?_
      refine q_mv rfl ?_
      refine q_mv rfl ?_
      refine q_callp (x := .bool true) ((c_laws_equalPairs _ _ (by first | omega | (simp; done) | (simp; omega)) (by first | omega | (simp; done) | (simp; omega))).eqT (by first | rfl | (simp; done))) rfl trivial ?_
      refine q_not rfl ?_
      refine q_mv rfl ?_
      refine q_t rfl ?_
      refine q_mv rfl ?_
      refine q_t rfl ?_
      refine q_mv rfl ?_
      refine q_t rfl ?_
      refine q_beq_v false rfl rfl (rfl) ?_
      refine q_pick_f rfl rfl ?_
      refine rg_nil ?_
      refine VS_cond rfl (fun e => by cases e) (fun _ => ?_)
      refine VS_skip ?_
      refine VS_seq ?_
      refine VS_r0 rfl ?_
      refine q_mv rfl ?_
      refine q_mv rfl ?_
      refine q_callp ((c_impl_ValueIn xs k (by omega)).to (y := .tup [i64 0, .bool false]) (drop_val.2 hg)) rfl trivial ?_
      refine q_mv rfl ?_
      refine q_ext rfl rfl ?_
      refine q_ext rfl rfl ?_
      refine q_mv rfl ?_
      refine q_mv rfl ?_
      refine rg_nil ?_
      refine VS_seq ?_
      refine VS_r0 rfl ?_
      refine q_mv rfl ?_
      refine q_mv rfl ?_
      refine q_beq_v true rfl rfl (rfl) ?_
      refine q_mv rfl ?_
      refine q_t rfl ?_
      refine q_mv rfl ?_
      refine q_t rfl ?_
      refine q_not rfl ?_
      refine q_t rfl ?_
      refine q_mv rfl ?_
      refine q_f rfl ?_
      refine q_f rfl ?_
      refine q_t rfl ?_
      refine q_pick_t rfl rfl ?_
      refine q_pick_t rfl rfl ?_
      refine q_mv rfl ?_
      refine rg_nil ?_
      refine VS_ret ?_
      exact Bd.now ⟨_, rfl, rfl⟩
    · skip
      have hl := dropR_len (okDrop_iff.1 hg).2
      refine VS_r0 rfl ?_
      refine q_mv rfl ?_
      refine q_mv rfl ?_
      refine q_callp ((c_impl_DropPair xs k (by omega)).to (y := .tup [prs (dropR xs k), .bool true]) (by rw [if_pos hg, hg])) rfl trivial ?_
      refine q_mv rfl ?_
      refine q_ext rfl rfl ?_
      refine q_ext rfl rfl ?_
      refine q_mv rfl ?_
      refine q_mv rfl ?_
      refine rg_nil ?_
      refine VS_seq ?_
      refine VS_r0 rfl ?_
      refine q_mv rfl ?_
      refine q_mv rfl ?_
      refine q_callp ((c_spec_DropPair xs k (by omega)).to (y := .tup [prs (dropR xs k), .bool true]) (by rw [if_pos hg, hg])) rfl trivial ?_
      refine q_mv rfl ?_
      refine q_ext rfl rfl ?_
      refine q_ext rfl rfl ?_
      refine q_mv rfl ?_
      refine q_mv rfl ?_
      refine rg_nil ?_
      refine VS_seq ?_
      refine VS_seq ?_
      refine VS_r0 rfl ?_
      refine q_mv rfl ?_
      refine q_mv rfl ?_
      refine q_callp (x := .bool true) ((c_laws_equalPairs _ _ (by first | omega | (simp; done) | (simp; omega)) (by first | omega | (simp; done) | (simp; omega))).eqT (by first | rfl | (simp; done))) rfl trivial ?_
      refine q_not rfl ?_
      refine q_mv rfl ?_
      refine q_t rfl ?_
      refine q_mv rfl ?_
      refine q_t rfl ?_
      refine q_mv rfl ?_
      refine q_t rfl ?_
      refine q_beq_v false rfl rfl (rfl) ?_
      refine q_pick_f rfl rfl ?_
      refine rg_nil ?_
      refine VS_cond rfl (fun e => by cases e) (fun _ => ?_)
      refine VS_skip ?_
      refine VS_seq ?_
      refine VS_r0 rfl ?_
      refine q_mv rfl ?_
      refine q_mv rfl ?_
      refine q_callp ((c_impl_ValueIn xs k (by omega)).to (y := .tup [i64 (nth xs (atR xs k)).2, .bool true]) (drop_val.1 hg)) rfl trivial ?_
      refine q_mv rfl ?_
      refine q_ext rfl rfl ?_
      refine q_ext rfl rfl ?_
      refine q_mv rfl ?_
      refine q_mv rfl ?_
      refine rg_nil ?_
      refine VS_seq ?_
      refine VS_r0 rfl ?_
      refine q_mv rfl ?_
      refine q_mv rfl ?_
      refine q_beq_v true rfl rfl (rfl) ?_
      refine q_mv rfl ?_
      refine q_t rfl ?_
      refine q_mv rfl ?_
      refine q_t rfl ?_
      refine q_not rfl ?_
      refine q_t rfl ?_
      refine q_mv rfl ?_
      refine q_t rfl ?_
      refine q_mv rfl ?_
      refine q_t rfl ?_
      refine q_callp (x := .bool true) ((c_impl_ValidRow (dropR xs k) (by omega)).to (y := .bool true) (by rw [(drop_back hg).2.2.1])) rfl trivial ?_
      refine q_t rfl ?_
      refine q_pick_f rfl rfl ?_
      refine q_pick_t rfl rfl ?_
      refine q_mv rfl ?_
      refine rg_nil ?_
      refine VS_ret ?_
      exact Bd.now ⟨_, rfl, rfl⟩
theorem c_laws_FnPutPairOrder (bs : List Int) (hb : isU8 bs) : PCon prog 14 [u8s bs] (fun p => p = .bool true) := by
  refine con_of_VS sl_laws_FnPutPairOrder (by simp) ?_
  refine VS_seq ?_
  refine VS_r0 rfl ?_
  refine q_mv rfl ?_
  refine rg_nil ?_
  refine VS_seq ?_
  refine VS_seq ?_
  refine VS_r0 rfl ?_
  refine q_mv rfl ?_
  first | refine q_len_m rfl ?_ | refine q_len_s rfl ?_ | refine q_len_o rfl ?_ | refine q_len_n rfl ?_ | refine q_len_x rfl ?_
  refine q_gtr rfl rfl ?_
  refine rg_nil ?_
  refine VS_cond rfl (fun c0 => ?_) (fun c0 => ?_)
  · try simp at c0
    refine VS_seq ?_
    refine VS_r0 rfl ?_
    refine q_mv rfl ?_
    refine rg_nil ?_
    refine VS_ret ?_
    exact Bd.now ⟨_, rfl, rfl⟩
  · try simp at c0
    refine VS_skip ?_
    refine VS_seq ?_
    refine VS_r0 rfl ?_
    refine q_mv rfl ?_
    refine q_calle rfl (c_spec_DrawPutPair bs hb (by omega)) rfl trivial ?_
    rintro _ ⟨xs, x, rfl, ⟨hx1, hx2⟩, ⟨hk1, hk2⟩, hk3, hk4⟩
    refine q_mv rfl ?_
    refine q_ext rfl rfl ?_
    refine q_ext rfl rfl ?_
    refine q_alloc trivial ?_
    refine q_mv rfl ?_
    first | refine q_store rfl rfl rfl rfl rfl rfl ⟨rfl, rfl, by simp, rfl, by simp [isOne]⟩ rfl trivial ?_ | refine q_storeF rfl rfl rfl rfl rfl (by simp) trivial ?_ | refine q_store rfl rfl rfl rfl rfl rfl ⟨rfl, rfl, by simp, by simp [setAt, isCell_own, isCell_sl, isCell_int, isCell_nils], by simp [isOne]⟩ rfl trivial ?_
    refine rg_nil ?_
    refine VS_seq ?_
    cases hg : okPut xs x
    · skip
      refine VS_r0 rfl ?_
      refine q_mv rfl ?_
      first | refine q_load_c rfl rfl rfl ?_ | refine q_load_ra rfl rfl rfl rfl rfl (by first | (simp; done) | (simp [setAt]; done)) rfl ?_
      refine q_callp ((c_impl_PutPair (xs) (x) (by omega)).to (y := .tup [prs ([]), .bool false]) (by rw [hg]; rfl)) rfl trivial ?_
      refine q_mv rfl ?_
      refine q_ext rfl rfl ?_
      refine q_ext rfl rfl ?_
      refine q_mv rfl ?_
      refine q_mv rfl ?_
      refine rg_nil ?_
      refine VS_seq ?_
      refine VS_r0 rfl ?_
      refine q_mv rfl ?_
      first | refine q_load_c rfl rfl rfl ?_ | refine q_load_ra rfl rfl rfl rfl rfl (by first | (simp; done) | (simp [setAt]; done)) rfl ?_
      refine q_callp ((c_spec_PutPair (xs) (x) (by omega)).to (y := .tup [prs ([]), .bool false]) (by rw [hg]; rfl)) rfl trivial ?_
      refine q_mv rfl ?_
      refine q_ext rfl rfl ?_
      refine q_ext rfl rfl ?_
      refine q_mv rfl ?_
      refine q_mv rfl ?_
      refine rg_nil ?_
      refine VS_seq ?_
      refine VS_seq ?_
      refine VS_r0 rfl ?_
      refine q_mv rfl ?_
      refine q_mv rfl ?_
      refine q_callp (x := .bool true) ((c_laws_equalPairs _ _ (by first | omega | (simp; done) | (simp; omega)) (by first | omega | (simp; done) | (simp; omega))).eqT (by first | rfl | (simp; done))) rfl trivial ?_
      refine q_not rfl ?_
      refine q_mv rfl ?_
      refine q_t rfl ?_
      refine q_mv rfl ?_
      refine q_t rfl ?_
      refine q_mv rfl ?_
      refine q_t rfl ?_
      refine q_beq_v false rfl rfl (rfl) ?_
      refine q_pick_f rfl rfl ?_
      refine q_mv rfl ?_
      refine q_t rfl ?_
      refine q_mv rfl ?_
      refine q_t rfl ?_
      refine q_not rfl ?_
      refine q_pick_f rfl rfl ?_
      refine q_mv rfl ?_
      refine q_f rfl ?_
      refine q_f rfl ?_
      refine q_f rfl ?_
      refine q_pick_t rfl rfl ?_
      refine rg_nil ?_
      refine VS_cond rfl (fun _ => ?_) (fun e => by cases e)
      refine VS_seq ?_
      refine VS_r0 rfl ?_
      refine q_mv rfl ?_
      refine q_mv rfl ?_
      refine q_callp (x := .bool true) ((c_laws_equalPairs _ _ (by first | omega | (simp; done) | (simp; omega)) (by first | omega | (simp; done) | (simp; omega))).eqT (by first | rfl | (simp; done))) rfl trivial ?_
      refine q_mv rfl ?_
      refine q_t rfl ?_
      refine q_mv rfl ?_
      refine q_t rfl ?_
      refine q_mv rfl ?_
      refine q_t rfl ?_
      refine q_beq_v true rfl rfl (rfl) ?_
      refine q_pick_t rfl rfl ?_
      refine q_mv rfl ?_
      refine rg_nil ?_
      refine VS_ret ?_
      exact Bd.now ⟨_, rfl, rfl⟩
    · skip
      have hpl : (putR xs x).length ≤ xs.length + 1 := putR_len
      have hpg := putR_good hg
      refine VS_r0 rfl ?_
      refine q_mv rfl ?_
      first | refine q_load_c rfl rfl rfl ?_ | refine q_load_ra rfl rfl rfl rfl rfl (by first | (simp; done) | (simp [setAt]; done)) rfl ?_
      refine q_callp ((c_impl_PutPair (xs) (x) (by omega)).to (y := .tup [prs (putR (xs) (x)), .bool true]) (by rw [if_pos hg, hg])) rfl trivial ?_
      refine q_mv rfl ?_
      refine q_ext rfl rfl ?_
      refine q_ext rfl rfl ?_
      refine q_mv rfl ?_
      refine q_mv rfl ?_
      refine rg_nil ?_
      refine VS_seq ?_
      refine VS_r0 rfl ?_
      refine q_mv rfl ?_
      first | refine q_load_c rfl rfl rfl ?_ | refine q_load_ra rfl rfl rfl rfl rfl (by first | (simp; done) | (simp [setAt]; done)) rfl ?_
      refine q_callp ((c_spec_PutPair (xs) (x) (by omega)).to (y := .tup [prs (putR (xs) (x)), .bool true]) (by rw [if_pos hg, hg])) rfl trivial ?_
      refine q_mv rfl ?_
      refine q_ext rfl rfl ?_
      refine q_ext rfl rfl ?_
      refine q_mv rfl ?_
      refine q_mv rfl ?_
      refine rg_nil ?_
      refine VS_seq ?_
      refine VS_seq ?_
      refine VS_r0 rfl ?_
      refine q_mv rfl ?_
      refine q_mv rfl ?_
      refine q_callp (x := .bool true) ((c_laws_equalPairs _ _ (by first | omega | (simp; done) | (simp; omega)) (by first | omega | (simp; done) | (simp; omega))).eqT (by first | rfl | (simp; done))) rfl trivial ?_
      refine q_not rfl ?_
      refine q_mv rfl ?_
      refine q_t rfl ?_
      refine q_mv rfl ?_
      refine q_t rfl ?_
      refine q_mv rfl ?_
      refine q_t rfl ?_
      refine q_beq_v false rfl rfl (rfl) ?_
      refine q_pick_f rfl rfl ?_
      refine q_mv rfl ?_
      refine q_t rfl ?_
      refine q_mv rfl ?_
      refine q_t rfl ?_
      refine q_not rfl ?_
      refine q_pick_f rfl rfl ?_
      refine q_mv rfl ?_
      refine q_t rfl ?_
      first | refine q_fld_r rfl ?_ | refine q_fld_c rfl rfl ?_
      refine q_t rfl ?_
      first | refine q_load_c rfl rfl rfl ?_ | refine q_load_r rfl rfl rfl rfl rfl rfl rfl ?_ | refine q_load_o rfl rfl rfl rfl rfl ?_
      refine q_t rfl ?_
      refine q_eql rfl rfl ?_
      refine q_pick_f rfl rfl ?_
      refine rg_nil ?_
      refine VS_cond rfl (fun c1 => ?_) (fun c1 => ?_)
      · try simp at c1
        refine VS_seq ?_
        refine VS_r0 rfl ?_
        refine q_mv rfl ?_
        refine q_mv rfl ?_
        refine q_callp (x := .bool true) ((c_laws_equalPairs _ _ (by first | omega | (simp; done) | (simp; omega)) (by first | omega | (simp; done) | (simp; omega))).eqT (by first | rfl | (simp; done))) rfl trivial ?_
        refine q_mv rfl ?_
        refine q_t rfl ?_
        refine q_mv rfl ?_
        refine q_t rfl ?_
        refine q_mv rfl ?_
        refine q_t rfl ?_
        refine q_beq_v true rfl rfl (rfl) ?_
        refine q_pick_t rfl rfl ?_
        refine q_mv rfl ?_
        refine rg_nil ?_
        refine VS_ret ?_
        exact Bd.now ⟨_, rfl, rfl⟩
      · try simp at c1
        refine VS_skip ?_
        refine VS_seq ?_
        refine VS_r0 rfl ?_
        refine q_build rfl ?_
        refine q_alloc trivial ?_
        first | refine q_store rfl rfl rfl rfl rfl rfl ⟨rfl, rfl, by simp, rfl, by simp [isOne]⟩ rfl trivial ?_ | refine q_storeF rfl rfl rfl rfl rfl (by simp) trivial ?_ | refine q_store rfl rfl rfl rfl rfl rfl ⟨rfl, rfl, by simp, by simp [setAt, isCell_own, isCell_sl, isCell_int, isCell_nils], by simp [isOne]⟩ rfl trivial ?_
        refine rg_nil ?_
        refine VS_seq ?_
        refine Or.elim (Bool.eq_false_or_eq_true (okPut (putR xs x) (33, 4))).symm (fun h2 => ?_) (fun h2 => ?_)
        · skip
          have hz1 : (putT xs (33, 4)).length ≤ xs.length + 1 := putT_len
          have hz2 : (putT (putT xs (33, 4)) x).length ≤ (putT xs (33, 4)).length + 1 := putT_len
          refine VS_r0 rfl ?_
          refine q_mv rfl ?_
          first | refine q_load_c rfl rfl rfl ?_ | refine q_load_ra rfl rfl rfl rfl rfl (by first | (simp; done) | (simp [setAt]; done)) rfl ?_
          refine q_callp ((c_impl_PutPair (putR xs x) ((33, 4)) (by omega)).to (y := .tup [prs ([]), .bool false]) (by rw [h2]; rfl)) rfl trivial ?_
          refine q_mv rfl ?_
          refine q_ext rfl rfl ?_
          refine q_ext rfl rfl ?_
          refine q_mv rfl ?_
          refine q_mv rfl ?_
          refine rg_nil ?_
          refine VS_seq ?_
          refine VS_r0 rfl ?_
          refine q_mv rfl ?_
          first | refine q_load_c rfl rfl rfl ?_ | refine q_load_ra rfl rfl rfl rfl rfl (by first | (simp; done) | (simp [setAt]; done)) rfl ?_
          refine q_callp ((c_impl_PutPair (xs) ((33, 4)) (by omega)).to (y := .tup [prs (putT (xs) ((33, 4))), .bool (okPut (xs) ((33, 4)))]) rfl) rfl trivial ?_
          refine q_mv rfl ?_
          refine q_ext rfl rfl ?_
          refine q_ext rfl rfl ?_
          refine q_mv rfl ?_
          refine q_mv rfl ?_
          refine rg_nil ?_
          refine VS_seq ?_
          refine VS_r0 rfl ?_
          refine q_mv rfl ?_
          first | refine q_load_c rfl rfl rfl ?_ | refine q_load_ra rfl rfl rfl rfl rfl (by first | (simp; done) | (simp [setAt]; done)) rfl ?_
          refine q_callp ((c_impl_PutPair (putT xs (33, 4)) (x) (by omega)).to (y := .tup [prs (putT (putT xs (33, 4)) (x)), .bool (okPut (putT xs (33, 4)) (x))]) rfl) rfl trivial ?_
          refine q_mv rfl ?_
          refine q_ext rfl rfl ?_
          refine q_ext rfl rfl ?_
          refine q_mv rfl ?_
          refine q_mv rfl ?_
          refine rg_nil ?_
          refine VS_seq ?_
          refine VS_r0 rfl ?_
          refine q_mv rfl ?_
          refine q_not rfl ?_
          refine q_mv rfl ?_
          refine q_f rfl ?_
          refine q_f rfl ?_
          refine q_u rfl ?_
          refine q_f rfl ?_
          refine q_f rfl ?_
          refine q_u rfl ?_
          refine q_u rfl ?_
          refine q_u rfl ?_
          refine q_f rfl ?_
          refine q_pick_t rfl rfl ?_
          refine q_mv rfl ?_
          refine rg_nil ?_
          refine VS_ret ?_
          exact Bd.now ⟨_, rfl, rfl⟩
        · skip
          have hpo := put_order hg h2 (by omega)
          have hz1 : (putR xs (33, 4)).length ≤ xs.length + 1 := putR_len
          have hz2 : (putR (putR xs (33, 4)) x).length ≤ (putR xs (33, 4)).length + 1 := putR_len
          have hz3 : (putR (putR xs x) (33, 4)).length ≤ (putR xs x).length + 1 := putR_len
          refine VS_r0 rfl ?_
          refine q_mv rfl ?_
          first | refine q_load_c rfl rfl rfl ?_ | refine q_load_ra rfl rfl rfl rfl rfl (by first | (simp; done) | (simp [setAt]; done)) rfl ?_
          refine q_callp ((c_impl_PutPair (putR xs x) ((33, 4)) (by omega)).to (y := .tup [prs (putR (putR xs x) ((33, 4))), .bool true]) (by rw [if_pos h2, h2])) rfl trivial ?_
          refine q_mv rfl ?_
          refine q_ext rfl rfl ?_
          refine q_ext rfl rfl ?_
          refine q_mv rfl ?_
          refine q_mv rfl ?_
          refine rg_nil ?_
          refine VS_seq ?_
          refine VS_r0 rfl ?_
          refine q_mv rfl ?_
          first | refine q_load_c rfl rfl rfl ?_ | refine q_load_ra rfl rfl rfl rfl rfl (by first | (simp; done) | (simp [setAt]; done)) rfl ?_
          refine q_callp ((c_impl_PutPair (xs) ((33, 4)) (by omega)).to (y := .tup [prs (putR (xs) ((33, 4))), .bool true]) (by rw [if_pos hpo.1, hpo.1])) rfl trivial ?_
          refine q_mv rfl ?_
          refine q_ext rfl rfl ?_
          refine q_ext rfl rfl ?_
          refine q_mv rfl ?_
          refine q_mv rfl ?_
          refine rg_nil ?_
          refine VS_seq ?_
          refine VS_r0 rfl ?_
          refine q_mv rfl ?_
          first | refine q_load_c rfl rfl rfl ?_ | refine q_load_ra rfl rfl rfl rfl rfl (by first | (simp; done) | (simp [setAt]; done)) rfl ?_
          refine q_callp ((c_impl_PutPair (putR xs (33, 4)) (x) (by omega)).to (y := .tup [prs (putR (putR xs (33, 4)) (x)), .bool true]) (by rw [if_pos hpo.2.1, hpo.2.1])) rfl trivial ?_
          refine q_mv rfl ?_
          refine q_ext rfl rfl ?_
          refine q_ext rfl rfl ?_
          refine q_mv rfl ?_
          refine q_mv rfl ?_
          refine rg_nil ?_
          refine VS_seq ?_
          refine VS_r0 rfl ?_
          refine q_mv rfl ?_
          refine q_not rfl ?_
          refine q_mv rfl ?_
          refine q_t rfl ?_
          refine q_mv rfl ?_
          refine q_t rfl ?_
          refine q_mv rfl ?_
          refine q_t rfl ?_
          refine q_mv rfl ?_
          refine q_t rfl ?_
          refine q_pick_t rfl rfl ?_
          refine q_t rfl ?_
          refine q_mv rfl ?_
          refine q_t rfl ?_
          refine q_mv rfl ?_
          refine q_t rfl ?_
          refine q_mv rfl ?_
          refine q_t rfl ?_
          refine q_callp (x := .bool true) ((c_laws_equalPairs (putR (putR xs x) (33, 4)) (putR (putR xs (33, 4)) x) (by omega) (by omega)).eqT hpo.2.2) rfl trivial ?_
          refine q_t rfl ?_
          refine q_pick_t rfl rfl ?_
          refine q_pick_f rfl rfl ?_
          refine q_mv rfl ?_
          refine rg_nil ?_
          refine VS_ret ?_
          exact Bd.now ⟨_, rfl, rfl⟩
theorem c_laws_FnValueInJoin (bs : List Int) (hb : isU8 bs) : PCon prog 4 [u8s bs] (fun p => p = .bool true) := by
  refine con_of_VS sl_laws_FnValueInJoin (by simp) ?_
  refine VS_seq ?_
  refine VS_r0 rfl ?_
  refine q_mv rfl ?_
  refine rg_nil ?_
  refine VS_seq ?_
  refine VS_seq ?_
  refine VS_r0 rfl ?_
  refine q_mv rfl ?_
  first | refine q_len_m rfl ?_ | refine q_len_s rfl ?_ | refine q_len_o rfl ?_ | refine q_len_n rfl ?_ | refine q_len_x rfl ?_
  refine q_gtr rfl rfl ?_
  refine rg_nil ?_
  refine VS_cond rfl (fun c0 => ?_) (fun c0 => ?_)
  · try simp at c0
    refine VS_seq ?_
    refine VS_r0 rfl ?_
    refine q_mv rfl ?_
    refine rg_nil ?_
    refine VS_ret ?_
    exact Bd.now ⟨_, rfl, rfl⟩
  · try simp at c0
    refine VS_skip ?_
    refine VS_seq ?_
    refine VS_r0 rfl ?_
    refine q_mv rfl ?_
    refine q_calle rfl (c_spec_DrawJoinRows bs hb (by omega)) rfl trivial ?_
    rintro _ ⟨xs, ys, rfl, hx, hy⟩
    refine q_mv rfl ?_
    refine q_ext rfl rfl ?_
    refine q_ext rfl rfl ?_
    refine q_mv rfl ?_
    refine q_mv rfl ?_
    refine rg_nil ?_
    refine VS_seq ?_
    cases hg : joinOK xs ys
    · skip
      refine VS_r0 rfl ?_
      refine q_mv rfl ?_
      refine q_mv rfl ?_
      refine q_callp ((c_impl_JoinRows (xs) (ys) (by omega) (by omega)).to (y := .tup [prs [], .bool false]) (joinR_f hg)) rfl trivial ?_
      refine q_mv rfl ?_
      refine q_ext rfl rfl ?_
      refine q_ext rfl rfl ?_
      refine q_mv rfl ?_
      refine q_mv rfl ?_
      refine rg_nil ?_
      refine VS_seq ?_
      refine VS_r0 rfl ?_
      refine q_mv rfl ?_
      refine q_mv rfl ?_
      refine q_callp ((c_spec_JoinRows (xs) (ys) (by omega) (by omega)).to (y := .tup [prs [], .bool false]) (joinR_f hg)) rfl trivial ?_
      refine q_mv rfl ?_
      refine q_ext rfl rfl ?_
      refine q_ext rfl rfl ?_
      refine q_mv rfl ?_
      refine q_mv rfl ?_
      refine rg_nil ?_
      refine VS_seq ?_
      refine VS_seq ?_
      refine VS_r0 rfl ?_
      refine q_mv rfl ?_
      refine q_mv rfl ?_
      refine q_callp (x := .bool true) ((c_laws_equalPairs _ _ (by first | omega | (simp; done) | (simp; omega)) (by first | omega | (simp; done) | (simp; omega))).eqT (by first | rfl | (simp; done))) rfl trivial ?_
      refine q_not rfl ?_
      refine q_mv rfl ?_
      refine q_t rfl ?_
      refine q_mv rfl ?_
      refine q_t rfl ?_
      refine q_mv rfl ?_
      refine q_t rfl ?_
      refine q_beq_v false rfl rfl (rfl) ?_
      refine q_pick_f rfl rfl ?_
      refine q_mv rfl ?_
      refine q_t rfl ?_
      refine q_mv rfl ?_
      refine q_t rfl ?_
      refine q_not rfl ?_
      refine q_pick_f rfl rfl ?_
      refine rg_nil ?_
      refine VS_cond rfl (fun _ => ?_) (fun e => by cases e)
      refine VS_seq ?_
      refine VS_r0 rfl ?_
      refine q_mv rfl ?_
      refine q_mv rfl ?_
      refine q_callp (x := .bool true) ((c_laws_equalPairs _ _ (by first | omega | (simp; done) | (simp; omega)) (by first | omega | (simp; done) | (simp; omega))).eqT (by first | rfl | (simp; done))) rfl trivial ?_
      refine q_mv rfl ?_
      refine q_t rfl ?_
      refine q_mv rfl ?_
      refine q_t rfl ?_
      refine q_mv rfl ?_
      refine q_t rfl ?_
      refine q_beq_v true rfl rfl (rfl) ?_
      refine q_pick_t rfl rfl ?_
      refine q_mv rfl ?_
      refine rg_nil ?_
      refine VS_ret ?_
      exact Bd.now ⟨_, rfl, rfl⟩
    · skip
      have hjl := join_len hg
      refine VS_r0 rfl ?_
      refine q_mv rfl ?_
      refine q_mv rfl ?_
      refine q_callp ((c_impl_JoinRows (xs) (ys) (by omega) (by omega)).to (y := .tup [prs (xs ++ ys), .bool true]) (joinR_t hg)) rfl trivial ?_
      refine q_mv rfl ?_
      refine q_ext rfl rfl ?_
      refine q_ext rfl rfl ?_
      refine q_mv rfl ?_
      refine q_mv rfl ?_
      refine rg_nil ?_
      refine VS_seq ?_
      refine VS_r0 rfl ?_
      refine q_mv rfl ?_
      refine q_mv rfl ?_
      refine q_callp ((c_spec_JoinRows (xs) (ys) (by omega) (by omega)).to (y := .tup [prs (xs ++ ys), .bool true]) (joinR_t hg)) rfl trivial ?_
      refine q_mv rfl ?_
      refine q_ext rfl rfl ?_
      refine q_ext rfl rfl ?_
      refine q_mv rfl ?_
      refine q_mv rfl ?_
      refine rg_nil ?_
      refine VS_seq ?_
      refine VS_seq ?_
      refine VS_r0 rfl ?_
      refine q_mv rfl ?_
      refine q_mv rfl ?_
      refine q_callp (x := .bool true) ((c_laws_equalPairs _ _ (by first | omega | (simp; done) | (simp; omega)) (by first | omega | (simp; done) | (simp; omega))).eqT (by first | rfl | (simp; done))) rfl trivial ?_
      refine q_not rfl ?_
      refine q_mv rfl ?_
      refine q_t rfl ?_
      refine q_mv rfl ?_
      refine q_t rfl ?_
      refine q_mv rfl ?_
      refine q_t rfl ?_
      refine q_beq_v false rfl rfl (rfl) ?_
      refine q_pick_f rfl rfl ?_
      refine q_mv rfl ?_
      refine q_t rfl ?_
      refine q_mv rfl ?_
      refine q_t rfl ?_
      refine q_not rfl ?_
      refine q_pick_f rfl rfl ?_
      refine rg_nil ?_
      refine VS_cond rfl (fun e => by cases e) (fun _ => ?_)
      refine VS_skip ?_
      refine VS_seq ?_
      refine VS_seq ?_
      refine VS_r0 rfl ?_
      refine q_mv rfl ?_
      refine rg_nil ?_
      refine VS_block ?_
      refine VS_bd (Bd.keepL [(2, .pv (.bool false)), (3, .pv (prs xs)), (4, .pv (prs ys)), (5, .pv (prs (xs ++ ys))), (9, .pv (i64 0))] ⟨rfl, rfl, rfl, rfl, rfl, trivial⟩ ?_)
      refine VS_loop (fun mz E S => ∃ i : Nat, mz = xs.length + ys.length - i ∧ (i ≤ xs.length + ys.length) ∧ E = env [(2, .pv (.bool false)), (3, .pv (prs xs)), (4, .pv (prs ys)), (5, .pv (prs (xs ++ ys))), (9, .pv (i64 i))] ∧ S = []) ⟨_, 0, rfl, (by first | omega | (intros; omega) | simp), rfl, rfl⟩ ?_
      rintro mz _ _ ⟨i, hmeas, g0, rfl, rfl⟩
      refine VS_seq ?_
      refine VS_seq ?_
      refine VS_r0 rfl ?_
      refine q_mv rfl ?_
      refine q_mv rfl ?_
      first | refine q_len_m rfl ?_ | refine q_len_s rfl ?_ | refine q_len_o rfl ?_ | refine q_len_n rfl ?_ | refine q_len_x rfl ?_
      refine q_lss rfl rfl ?_
      refine rg_nil ?_
      refine VS_cond rfl (fun c2 => ?_) (fun c2 => ?_)
      · try simp at c2
        refine VS_skip ?_
        refine VS_seq ?_
        refine VS_block ?_
        refine VS_seq ?_
        refine Or.elim (Nat.lt_or_ge i xs.length) (fun h3 => ?_) (fun h3 => ?_)
        · skip
          have hv := vj_left hg (i := i) h3
          refine VS_r0 rfl ?_
          refine q_mv rfl ?_
          refine q_mv rfl ?_
          refine q_mv rfl ?_
          refine q_idx_m (f := pairP) (xs := xs ++ ys) (n := (i : Int)) rfl rfl (by omega) (by simp; omega) (fun _ => rfl) ?_
          first | refine q_fld_r rfl ?_ | refine q_fld_c rfl rfl ?_
          first | refine q_load_c rfl rfl rfl ?_ | refine q_load_r rfl rfl rfl rfl rfl rfl rfl ?_ | refine q_load_o rfl rfl rfl rfl rfl ?_
          refine q_callp ((c_impl_ValueIn (xs ++ ys) (nth (xs ++ ys) i).1 (by first | omega | (simp; done) | (simp; omega))).to (y := .tup [i64 (nth (xs ++ ys) i).2, .bool true]) (val_each (joinOK_iff.1 hg) (by simp; omega))) rfl trivial ?_
          refine q_mv rfl ?_
          refine q_ext rfl rfl ?_
          refine q_ext rfl rfl ?_
          refine q_mv rfl ?_
          refine q_mv rfl ?_
          refine rg_nil ?_
          refine VS_seq ?_
          refine VS_r0 rfl ?_
          refine q_mv rfl ?_
          refine q_mv rfl ?_
          refine q_mv rfl ?_
          refine q_idx_m (f := pairP) (xs := xs ++ ys) (n := (i : Int)) rfl rfl (by omega) (by simp; omega) (fun _ => rfl) ?_
          first | refine q_fld_r rfl ?_ | refine q_fld_c rfl rfl ?_
          first | refine q_load_c rfl rfl rfl ?_ | refine q_load_r rfl rfl rfl rfl rfl rfl rfl ?_ | refine q_load_o rfl rfl rfl rfl rfl ?_
          refine q_callp ((c_impl_ValueIn (xs) (nth (xs ++ ys) i).1 (by first | omega | (simp; done) | (simp; omega))).to (y := .tup [i64 (nth (xs ++ ys) i).2, .bool true]) (hv.1)) rfl trivial ?_
          refine q_mv rfl ?_
          refine q_ext rfl rfl ?_
          refine q_ext rfl rfl ?_
          refine q_mv rfl ?_
          refine q_mv rfl ?_
          refine rg_nil ?_
          refine VS_seq ?_
          refine VS_r0 rfl ?_
          refine q_mv rfl ?_
          refine q_mv rfl ?_
          refine q_mv rfl ?_
          refine q_idx_m (f := pairP) (xs := xs ++ ys) (n := (i : Int)) rfl rfl (by omega) (by simp; omega) (fun _ => rfl) ?_
          first | refine q_fld_r rfl ?_ | refine q_fld_c rfl rfl ?_
          first | refine q_load_c rfl rfl rfl ?_ | refine q_load_r rfl rfl rfl rfl rfl rfl rfl ?_ | refine q_load_o rfl rfl rfl rfl rfl ?_
          refine q_callp ((c_impl_ValueIn (ys) (nth (xs ++ ys) i).1 (by first | omega | (simp; done) | (simp; omega))).to (y := .tup [i64 0, .bool false]) (hv.2)) rfl trivial ?_
          refine q_mv rfl ?_
          refine q_ext rfl rfl ?_
          refine q_ext rfl rfl ?_
          refine q_mv rfl ?_
          refine q_mv rfl ?_
          refine rg_nil ?_
          refine VS_seq ?_
          refine VS_r0 rfl ?_
          refine q_mv rfl ?_
          refine q_not rfl ?_
          refine q_mv rfl ?_
          refine q_t rfl ?_
          refine q_mv rfl ?_
          refine q_t rfl ?_
          refine q_mv rfl ?_
          refine q_t rfl ?_
          refine q_beq_v false rfl rfl (rfl) ?_
          refine q_pick_f rfl rfl ?_
          refine q_mv rfl ?_
          refine q_t rfl ?_
          refine q_mv rfl ?_
          refine q_t rfl ?_
          refine q_mv rfl ?_
          refine q_t rfl ?_
          refine q_mv rfl ?_
          refine q_t rfl ?_
          refine q_mv rfl ?_
          refine q_t rfl ?_
          refine q_neq_v false rfl rfl (by simp) ?_
          refine q_t rfl ?_
          refine q_pick_t rfl rfl ?_
          refine q_pick_f rfl rfl ?_
          refine q_mv rfl ?_
          refine q_t rfl ?_
          refine q_mv rfl ?_
          refine q_t rfl ?_
          refine q_mv rfl ?_
          refine q_f rfl ?_
          refine q_f rfl ?_
          refine q_f rfl ?_
          refine q_t rfl ?_
          refine q_pick_f rfl rfl ?_
          refine q_pick_f rfl rfl ?_
          refine rg_nil ?_
          refine VS_cond rfl (fun e => by cases e) (fun _ => ?_)
          refine VS_skip ?_
          refine VS_r0 rfl ?_
          refine q_mv rfl ?_
          refine q_add rfl rfl (inR64 (by omega)) ?_
          refine q_mv rfl ?_
          refine rg_nil ?_
          refine Bd.keepL [(2, .pv (.bool false)), (3, .pv (prs xs)), (4, .pv (prs ys)), (5, .pv (prs (xs ++ ys))), (9, .pv (i64 (i + 1)))] ⟨rfl, rfl, rfl, rfl, rfl, trivial⟩ ⟨_, ?_, i + 1, rfl, ?_, rfl, rfl⟩
          · first | omega | assumption | rfl | (simp; omega)
          · first | omega | assumption | rfl | (simp; omega)
        · skip
          have hv := vj_right hg (i := i) h3 (by omega)
          refine VS_r0 rfl ?_
          refine q_mv rfl ?_
          refine q_mv rfl ?_
          refine q_mv rfl ?_
          refine q_idx_m (f := pairP) (xs := xs ++ ys) (n := (i : Int)) rfl rfl (by omega) (by simp; omega) (fun _ => rfl) ?_
          first | refine q_fld_r rfl ?_ | refine q_fld_c rfl rfl ?_
          first | refine q_load_c rfl rfl rfl ?_ | refine q_load_r rfl rfl rfl rfl rfl rfl rfl ?_ | refine q_load_o rfl rfl rfl rfl rfl ?_
          refine q_callp ((c_impl_ValueIn (xs ++ ys) (nth (xs ++ ys) i).1 (by first | omega | (simp; done) | (simp; omega))).to (y := .tup [i64 (nth (xs ++ ys) i).2, .bool true]) (val_each (joinOK_iff.1 hg) (by simp; omega))) rfl trivial ?_
          refine q_mv rfl ?_
          refine q_ext rfl rfl ?_
          refine q_ext rfl rfl ?_
          refine q_mv rfl ?_
          refine q_mv rfl ?_
          refine rg_nil ?_
          refine VS_seq ?_
          refine VS_r0 rfl ?_
          refine q_mv rfl ?_
          refine q_mv rfl ?_
          refine q_mv rfl ?_
          refine q_idx_m (f := pairP) (xs := xs ++ ys) (n := (i : Int)) rfl rfl (by omega) (by simp; omega) (fun _ => rfl) ?_
          first | refine q_fld_r rfl ?_ | refine q_fld_c rfl rfl ?_
          first | refine q_load_c rfl rfl rfl ?_ | refine q_load_r rfl rfl rfl rfl rfl rfl rfl ?_ | refine q_load_o rfl rfl rfl rfl rfl ?_
          refine q_callp ((c_impl_ValueIn (xs) (nth (xs ++ ys) i).1 (by first | omega | (simp; done) | (simp; omega))).to (y := .tup [i64 0, .bool false]) (hv.1)) rfl trivial ?_
          refine q_mv rfl ?_
          refine q_ext rfl rfl ?_
          refine q_ext rfl rfl ?_
          refine q_mv rfl ?_
          refine q_mv rfl ?_
          refine rg_nil ?_
          refine VS_seq ?_
          refine VS_r0 rfl ?_
          refine q_mv rfl ?_
          refine q_mv rfl ?_
          refine q_mv rfl ?_
          refine q_idx_m (f := pairP) (xs := xs ++ ys) (n := (i : Int)) rfl rfl (by omega) (by simp; omega) (fun _ => rfl) ?_
          first | refine q_fld_r rfl ?_ | refine q_fld_c rfl rfl ?_
          first | refine q_load_c rfl rfl rfl ?_ | refine q_load_r rfl rfl rfl rfl rfl rfl rfl ?_ | refine q_load_o rfl rfl rfl rfl rfl ?_
          refine q_callp ((c_impl_ValueIn (ys) (nth (xs ++ ys) i).1 (by first | omega | (simp; done) | (simp; omega))).to (y := .tup [i64 (nth (xs ++ ys) i).2, .bool true]) (hv.2)) rfl trivial ?_
          refine q_mv rfl ?_
          refine q_ext rfl rfl ?_
          refine q_ext rfl rfl ?_
          refine q_mv rfl ?_
          refine q_mv rfl ?_
          refine rg_nil ?_
          refine VS_seq ?_
          refine VS_r0 rfl ?_
          refine q_mv rfl ?_
          refine q_not rfl ?_
          refine q_mv rfl ?_
          refine q_t rfl ?_
          refine q_mv rfl ?_
          refine q_t rfl ?_
          refine q_mv rfl ?_
          refine q_t rfl ?_
          refine q_beq_v false rfl rfl (rfl) ?_
          refine q_pick_f rfl rfl ?_
          refine q_mv rfl ?_
          refine q_t rfl ?_
          refine q_mv rfl ?_
          refine q_t rfl ?_
          refine q_mv rfl ?_
          refine q_f rfl ?_
          refine q_f rfl ?_
          refine q_f rfl ?_
          refine q_t rfl ?_
          refine q_pick_f rfl rfl ?_
          refine q_pick_f rfl rfl ?_
          refine q_mv rfl ?_
          refine q_t rfl ?_
          refine q_mv rfl ?_
          refine q_t rfl ?_
          refine q_mv rfl ?_
          refine q_t rfl ?_
          refine q_mv rfl ?_
          refine q_t rfl ?_
          refine q_mv rfl ?_
          refine q_t rfl ?_
          refine q_neq_v false rfl rfl (by simp) ?_
          refine q_t rfl ?_
          refine q_pick_t rfl rfl ?_
          refine q_pick_f rfl rfl ?_
          refine rg_nil ?_
          refine VS_cond rfl (fun e => by cases e) (fun _ => ?_)
          refine VS_skip ?_
          refine VS_r0 rfl ?_
          refine q_mv rfl ?_
          refine q_add rfl rfl (inR64 (by omega)) ?_
          refine q_mv rfl ?_
          refine rg_nil ?_
          refine Bd.keepL [(2, .pv (.bool false)), (3, .pv (prs xs)), (4, .pv (prs ys)), (5, .pv (prs (xs ++ ys))), (9, .pv (i64 (i + 1)))] ⟨rfl, rfl, rfl, rfl, rfl, trivial⟩ ⟨_, ?_, i + 1, rfl, ?_, rfl, rfl⟩
          · first | omega | assumption | rfl | (simp; omega)
          · first | omega | assumption | rfl | (simp; omega)
      · try simp at c2
        refine VS_exit ?_
        refine VS_seq ?_
        refine VS_r0 rfl ?_
        refine q_mv rfl ?_
        first | refine q_len_m rfl ?_ | refine q_len_s rfl ?_ | refine q_len_o rfl ?_ | refine q_len_n rfl ?_ | refine q_len_x rfl ?_
        refine q_mv rfl ?_
        first | refine q_len_m rfl ?_ | refine q_len_s rfl ?_ | refine q_len_o rfl ?_ | refine q_len_n rfl ?_ | refine q_len_x rfl ?_
        refine q_mv rfl ?_
        first | refine q_len_m rfl ?_ | refine q_len_s rfl ?_ | refine q_len_o rfl ?_ | refine q_len_n rfl ?_ | refine q_len_x rfl ?_
        refine q_add rfl rfl (inR64 (by omega)) ?_
        refine q_eql_v true rfl rfl (by simp) ?_
        refine q_mv rfl ?_
        refine rg_nil ?_
        refine VS_ret ?_
        exact Bd.now ⟨_, rfl, rfl⟩
theorem c_laws_FnSplitInner (bs : List Int) (hb : isU8 bs) : PCon prog 3 [u8s bs] (fun p => p = .bool true) := by
  refine con_of_VS sl_laws_FnSplitInner (by simp) ?_
  refine VS_seq ?_
  refine VS_r0 rfl ?_
  refine q_mv rfl ?_
  refine rg_nil ?_
  refine VS_seq ?_
  refine VS_seq ?_
  refine VS_r0 rfl ?_
  refine q_mv rfl ?_
  first | refine q_len_m rfl ?_ | refine q_len_s rfl ?_ | refine q_len_o rfl ?_ | refine q_len_n rfl ?_ | refine q_len_x rfl ?_
  refine q_gtr rfl rfl ?_
  refine rg_nil ?_
  refine VS_cond rfl (fun c0 => ?_) (fun c0 => ?_)
  · try simp at c0
    refine VS_seq ?_
    refine VS_r0 rfl ?_
    refine q_mv rfl ?_
    refine rg_nil ?_
    refine VS_ret ?_
    exact Bd.now ⟨_, rfl, rfl⟩
  · try simp at c0
    refine VS_skip ?_
    refine VS_seq ?_
    refine VS_r0 rfl ?_
    refine q_mv rfl ?_
    refine q_calle rfl (c_spec_DrawSplitInner bs hb (by omega)) rfl trivial ?_
    rintro _ ⟨ks, cs, rfl, hx1, hx2⟩
    refine q_alloc trivial ?_
    first | refine q_store rfl rfl rfl rfl rfl rfl ⟨rfl, rfl, by simp, rfl, by simp [isOne]⟩ rfl trivial ?_ | refine q_storeF rfl rfl rfl rfl rfl (by simp) trivial ?_ | refine q_store rfl rfl rfl rfl rfl rfl ⟨rfl, rfl, by simp, by simp [setAt, isCell_own, isCell_sl, isCell_int, isCell_nils], by simp [isOne]⟩ rfl trivial ?_
    refine rg_nil ?_
    refine VS_seq ?_
    cases hg : okSI ks cs
    · skip
      refine VS_r0 rfl ?_
      first | refine q_load_c rfl rfl rfl ?_ | refine q_load_ra rfl rfl rfl rfl rfl (by first | (simp; done) | (simp [setAt]; done)) rfl ?_
      refine q_callp ((c_impl_SplitInner ks cs (by omega) (by omega)).to (y := .tup [innP [] [], i64 0, innP [] [], .bool false]) (splI_f hg)) rfl trivial ?_
      refine q_mv rfl ?_
      refine q_ext rfl rfl ?_
      refine q_ext rfl rfl ?_
      refine q_ext rfl rfl ?_
      refine q_ext rfl rfl ?_
      refine q_alloc trivial ?_
      refine q_alloc trivial ?_
      first | refine q_store rfl rfl rfl rfl rfl rfl ⟨rfl, rfl, by simp, rfl, by simp [isOne]⟩ rfl trivial ?_ | refine q_storeF rfl rfl rfl rfl rfl (by simp) trivial ?_ | refine q_store rfl rfl rfl rfl rfl rfl ⟨rfl, rfl, by simp, by simp [setAt, isCell_own, isCell_sl, isCell_int, isCell_nils], by simp [isOne]⟩ rfl trivial ?_
      refine q_mv rfl ?_
      first | refine q_store rfl rfl rfl rfl rfl rfl ⟨rfl, rfl, by simp, rfl, by simp [isOne]⟩ rfl trivial ?_ | refine q_storeF rfl rfl rfl rfl rfl (by simp) trivial ?_ | refine q_store rfl rfl rfl rfl rfl rfl ⟨rfl, rfl, by simp, by simp [setAt, isCell_own, isCell_sl, isCell_int, isCell_nils], by simp [isOne]⟩ rfl trivial ?_
      refine q_mv rfl ?_
      refine rg_nil ?_
      refine VS_seq ?_
      refine VS_r0 rfl ?_
      first | refine q_load_c rfl rfl rfl ?_ | refine q_load_ra rfl rfl rfl rfl rfl (by first | (simp; done) | (simp [setAt]; done)) rfl ?_
      refine q_callp ((c_spec_SplitInner ks cs (by omega) (by omega)).to (y := .tup [innP [] [], i64 0, innP [] [], .bool false]) (splI_f hg)) rfl trivial ?_
      refine q_mv rfl ?_
      refine q_ext rfl rfl ?_
      refine q_ext rfl rfl ?_
      refine q_ext rfl rfl ?_
      refine q_ext rfl rfl ?_
      refine q_alloc trivial ?_
      refine q_alloc trivial ?_
      first | refine q_store rfl rfl rfl rfl rfl rfl ⟨rfl, rfl, by simp, rfl, by simp [isOne]⟩ rfl trivial ?_ | refine q_storeF rfl rfl rfl rfl rfl (by simp) trivial ?_ | refine q_store rfl rfl rfl rfl rfl rfl ⟨rfl, rfl, by simp, by simp [setAt, isCell_own, isCell_sl, isCell_int, isCell_nils], by simp [isOne]⟩ rfl trivial ?_
      refine q_mv rfl ?_
      first | refine q_store rfl rfl rfl rfl rfl rfl ⟨rfl, rfl, by simp, rfl, by simp [isOne]⟩ rfl trivial ?_ | refine q_storeF rfl rfl rfl rfl rfl (by simp) trivial ?_ | refine q_store rfl rfl rfl rfl rfl rfl ⟨rfl, rfl, by simp, by simp [setAt, isCell_own, isCell_sl, isCell_int, isCell_nils], by simp [isOne]⟩ rfl trivial ?_
      refine q_mv rfl ?_
      refine rg_nil ?_
      refine VS_seq ?_
      refine VS_seq ?_
      refine VS_r0 rfl ?_
      first | refine q_load_c rfl rfl rfl ?_ | refine q_load_ra rfl rfl rfl rfl rfl (by first | (simp; done) | (simp [setAt]; done)) rfl ?_
      first | refine q_load_c rfl rfl rfl ?_ | refine q_load_ra rfl rfl rfl rfl rfl (by first | (simp; done) | (simp [setAt]; done)) rfl ?_
      refine q_callp (x := .bool true) ((c_laws_equalInner _ _ _ _ (by first | omega | (simp; done) | (simp; omega)) (by first | omega | (simp; done) | (simp; omega)) (by first | omega | (simp; done) | (simp; omega)) (by first | omega | (simp; done) | (simp; omega))).eqT rfl) rfl trivial ?_
      refine q_not rfl ?_
      refine q_mv rfl ?_
      refine q_t rfl ?_
      refine q_mv rfl ?_
      refine q_t rfl ?_
      refine q_mv rfl ?_
      refine q_t rfl ?_
      refine q_neq_v false rfl rfl (by simp) ?_
      refine q_pick_f rfl rfl ?_
      refine q_mv rfl ?_
      refine q_t rfl ?_
      first | refine q_load_c rfl rfl rfl ?_ | refine q_load_ra rfl rfl rfl rfl rfl (by first | (simp; done) | (simp [setAt]; done)) rfl ?_
      refine q_t rfl ?_
      first | refine q_load_c rfl rfl rfl ?_ | refine q_load_ra rfl rfl rfl rfl rfl (by first | (simp; done) | (simp [setAt]; done)) rfl ?_
      refine q_t rfl ?_
      refine q_callp (x := .bool true) ((c_laws_equalInner _ _ _ _ (by first | omega | (simp; done) | (simp; omega)) (by first | omega | (simp; done) | (simp; omega)) (by first | omega | (simp; done) | (simp; omega)) (by first | omega | (simp; done) | (simp; omega))).eqT rfl) rfl trivial ?_
      refine q_t rfl ?_
      refine q_not rfl ?_
      refine q_pick_f rfl rfl ?_
      refine q_mv rfl ?_
      refine q_t rfl ?_
      refine q_mv rfl ?_
      refine q_t rfl ?_
      refine q_mv rfl ?_
      refine q_t rfl ?_
      refine q_beq_v false rfl rfl (rfl) ?_
      refine q_pick_f rfl rfl ?_
      refine q_mv rfl ?_
      refine q_t rfl ?_
      refine q_mv rfl ?_
      refine q_t rfl ?_
      refine q_not rfl ?_
      refine q_pick_f rfl rfl ?_
      refine rg_nil ?_
      refine VS_cond rfl (fun _ => ?_) (fun e => by cases e)
      refine VS_seq ?_
      refine VS_r0 rfl ?_
      first | refine q_load_c rfl rfl rfl ?_ | refine q_load_ra rfl rfl rfl rfl rfl (by first | (simp; done) | (simp [setAt]; done)) rfl ?_
      first | refine q_load_c rfl rfl rfl ?_ | refine q_load_ra rfl rfl rfl rfl rfl (by first | (simp; done) | (simp [setAt]; done)) rfl ?_
      refine q_callp (x := .bool true) ((c_laws_equalInner _ _ _ _ (by first | omega | (simp; done) | (simp; omega)) (by first | omega | (simp; done) | (simp; omega)) (by first | omega | (simp; done) | (simp; omega)) (by first | omega | (simp; done) | (simp; omega))).eqT rfl) rfl trivial ?_
      refine q_mv rfl ?_
      refine q_t rfl ?_
      refine q_mv rfl ?_
      refine q_t rfl ?_
      refine q_mv rfl ?_
      refine q_t rfl ?_
      refine q_eql_v true rfl rfl (by simp) ?_
      refine q_pick_t rfl rfl ?_
      refine q_mv rfl ?_
      refine q_t rfl ?_
      first | refine q_load_c rfl rfl rfl ?_ | refine q_load_ra rfl rfl rfl rfl rfl (by first | (simp; done) | (simp [setAt]; done)) rfl ?_
      refine q_t rfl ?_
      first | refine q_load_c rfl rfl rfl ?_ | refine q_load_ra rfl rfl rfl rfl rfl (by first | (simp; done) | (simp [setAt]; done)) rfl ?_
      refine q_t rfl ?_
      refine q_callp (x := .bool true) ((c_laws_equalInner _ _ _ _ (by first | omega | (simp; done) | (simp; omega)) (by first | omega | (simp; done) | (simp; omega)) (by first | omega | (simp; done) | (simp; omega)) (by first | omega | (simp; done) | (simp; omega))).eqT rfl) rfl trivial ?_
      refine q_pick_t rfl rfl ?_
      refine q_mv rfl ?_
      refine q_t rfl ?_
      refine q_mv rfl ?_
      refine q_t rfl ?_
      refine q_mv rfl ?_
      refine q_t rfl ?_
      refine q_beq_v true rfl rfl (rfl) ?_
      refine q_pick_t rfl rfl ?_
      refine q_mv rfl ?_
      refine rg_nil ?_
      refine VS_ret ?_
      exact Bd.now ⟨_, rfl, rfl⟩
    · skip
      have hsl := si_len hg
      have hgg := si_good hg
      have hgx := (okSI_iff.1 hg).1
      have hhl : halfI ks = ks.length / 2 := rfl
      have hsj := si_join hg
      have hsb := si_both hsl.1
      have t1 : (ks.take (halfI ks)).length = halfI ks := by rw [List.length_take]; omega
      have t2 : (ks.drop (halfI ks + 1)).length = ks.length - (halfI ks + 1) := List.length_drop
      refine VS_r0 rfl ?_
      first | refine q_load_c rfl rfl rfl ?_ | refine q_load_ra rfl rfl rfl rfl rfl (by first | (simp; done) | (simp [setAt]; done)) rfl ?_
      refine q_callp ((c_impl_SplitInner ks cs (by omega) (by omega)).to (y := .tup [innP (ks.take (halfI ks)) (cs.take (halfI ks + 1)), i64 (nth ks (halfI ks)), innP (ks.drop (halfI ks + 1)) (cs.drop (halfI ks + 1)), .bool true]) (splI_t hg)) rfl trivial ?_
      refine q_mv rfl ?_
      refine q_ext rfl rfl ?_
      refine q_ext rfl rfl ?_
      refine q_ext rfl rfl ?_
      refine q_ext rfl rfl ?_
      refine q_alloc trivial ?_
      refine q_alloc trivial ?_
      first | refine q_store rfl rfl rfl rfl rfl rfl ⟨rfl, rfl, by simp, rfl, by simp [isOne]⟩ rfl trivial ?_ | refine q_storeF rfl rfl rfl rfl rfl (by simp) trivial ?_ | refine q_store rfl rfl rfl rfl rfl rfl ⟨rfl, rfl, by simp, by simp [setAt, isCell_own, isCell_sl, isCell_int, isCell_nils], by simp [isOne]⟩ rfl trivial ?_
      refine q_mv rfl ?_
      first | refine q_store rfl rfl rfl rfl rfl rfl ⟨rfl, rfl, by simp, rfl, by simp [isOne]⟩ rfl trivial ?_ | refine q_storeF rfl rfl rfl rfl rfl (by simp) trivial ?_ | refine q_store rfl rfl rfl rfl rfl rfl ⟨rfl, rfl, by simp, by simp [setAt, isCell_own, isCell_sl, isCell_int, isCell_nils], by simp [isOne]⟩ rfl trivial ?_
      refine q_mv rfl ?_
      refine rg_nil ?_
      refine VS_seq ?_
      refine VS_r0 rfl ?_
      first | refine q_load_c rfl rfl rfl ?_ | refine q_load_ra rfl rfl rfl rfl rfl (by first | (simp; done) | (simp [setAt]; done)) rfl ?_
      refine q_callp ((c_spec_SplitInner ks cs (by omega) (by omega)).to (y := .tup [innP (ks.take (halfI ks)) (cs.take (halfI ks + 1)), i64 (nth ks (halfI ks)), innP (ks.drop (halfI ks + 1)) (cs.drop (halfI ks + 1)), .bool true]) (splI_t hg)) rfl trivial ?_
      refine q_mv rfl ?_
      refine q_ext rfl rfl ?_
      refine q_ext rfl rfl ?_
      refine q_ext rfl rfl ?_
      refine q_ext rfl rfl ?_
      refine q_alloc trivial ?_
      refine q_alloc trivial ?_
      first | refine q_store rfl rfl rfl rfl rfl rfl ⟨rfl, rfl, by simp, rfl, by simp [isOne]⟩ rfl trivial ?_ | refine q_storeF rfl rfl rfl rfl rfl (by simp) trivial ?_ | refine q_store rfl rfl rfl rfl rfl rfl ⟨rfl, rfl, by simp, by simp [setAt, isCell_own, isCell_sl, isCell_int, isCell_nils], by simp [isOne]⟩ rfl trivial ?_
      refine q_mv rfl ?_
      first | refine q_store rfl rfl rfl rfl rfl rfl ⟨rfl, rfl, by simp, rfl, by simp [isOne]⟩ rfl trivial ?_ | refine q_storeF rfl rfl rfl rfl rfl (by simp) trivial ?_ | refine q_store rfl rfl rfl rfl rfl rfl ⟨rfl, rfl, by simp, by simp [setAt, isCell_own, isCell_sl, isCell_int, isCell_nils], by simp [isOne]⟩ rfl trivial ?_
      refine q_mv rfl ?_
      refine rg_nil ?_
      refine VS_seq ?_
      refine VS_seq ?_
      refine VS_r0 rfl ?_
      first | refine q_load_c rfl rfl rfl ?_ | refine q_load_ra rfl rfl rfl rfl rfl (by first | (simp; done) | (simp [setAt]; done)) rfl ?_
      first | refine q_load_c rfl rfl rfl ?_ | refine q_load_ra rfl rfl rfl rfl rfl (by first | (simp; done) | (simp [setAt]; done)) rfl ?_
      refine q_callp (x := .bool true) ((c_laws_equalInner _ _ _ _ (by first | omega | (simp; done) | (simp; omega)) (by first | omega | (simp; done) | (simp; omega)) (by first | omega | (simp; done) | (simp; omega)) (by first | omega | (simp; done) | (simp; omega))).eqT rfl) rfl trivial ?_
      refine q_not rfl ?_
      refine q_mv rfl ?_
      refine q_t rfl ?_
      refine q_mv rfl ?_
      refine q_t rfl ?_
      refine q_mv rfl ?_
      refine q_t rfl ?_
      refine q_neq_v false rfl rfl (by simp) ?_
      refine q_pick_f rfl rfl ?_
      refine q_mv rfl ?_
      refine q_t rfl ?_
      first | refine q_load_c rfl rfl rfl ?_ | refine q_load_ra rfl rfl rfl rfl rfl (by first | (simp; done) | (simp [setAt]; done)) rfl ?_
      refine q_t rfl ?_
      first | refine q_load_c rfl rfl rfl ?_ | refine q_load_ra rfl rfl rfl rfl rfl (by first | (simp; done) | (simp [setAt]; done)) rfl ?_
      refine q_t rfl ?_
      refine q_callp (x := .bool true) ((c_laws_equalInner _ _ _ _ (by first | omega | (simp; done) | (simp; omega)) (by first | omega | (simp; done) | (simp; omega)) (by first | omega | (simp; done) | (simp; omega)) (by first | omega | (simp; done) | (simp; omega))).eqT rfl) rfl trivial ?_
      refine q_t rfl ?_
      refine q_not rfl ?_
      refine q_pick_f rfl rfl ?_
      refine q_mv rfl ?_
      refine q_t rfl ?_
      refine q_mv rfl ?_
      refine q_t rfl ?_
      refine q_mv rfl ?_
      refine q_t rfl ?_
      refine q_beq_v false rfl rfl (rfl) ?_
      refine q_pick_f rfl rfl ?_
      refine q_mv rfl ?_
      refine q_t rfl ?_
      refine q_mv rfl ?_
      refine q_t rfl ?_
      refine q_not rfl ?_
      refine q_pick_f rfl rfl ?_
      refine rg_nil ?_
      refine VS_cond rfl (fun e => by cases e) (fun _ => ?_)
      refine VS_skip ?_
      refine VS_seq ?_
      refine VS_r0 rfl ?_
      first | refine q_load_c rfl rfl rfl ?_ | refine q_load_ra rfl rfl rfl rfl rfl (by first | (simp; done) | (simp [setAt]; done)) rfl ?_
      refine q_mv rfl ?_
      first | refine q_load_c rfl rfl rfl ?_ | refine q_load_ra rfl rfl rfl rfl rfl (by first | (simp; done) | (simp [setAt]; done)) rfl ?_
      refine q_callp ((c_impl_JoinInner (ks.take (halfI ks)) (cs.take (halfI ks + 1)) (nth ks (halfI ks)) (ks.drop (halfI ks + 1)) (cs.drop (halfI ks + 1)) (by omega) (by simp; omega) (by omega) (by simp; omega)).to (y := .tup [innP ks cs, .bool true]) (by rw [joinI_t hsj, hsb, List.take_append_drop])) rfl trivial ?_
      refine q_mv rfl ?_
      refine q_ext rfl rfl ?_
      refine q_ext rfl rfl ?_
      refine q_alloc trivial ?_
      first | refine q_store rfl rfl rfl rfl rfl rfl ⟨rfl, rfl, by simp, rfl, by simp [isOne]⟩ rfl trivial ?_ | refine q_storeF rfl rfl rfl rfl rfl (by simp) trivial ?_ | refine q_store rfl rfl rfl rfl rfl rfl ⟨rfl, rfl, by simp, by simp [setAt, isCell_own, isCell_sl, isCell_int, isCell_nils], by simp [isOne]⟩ rfl trivial ?_
      refine q_mv rfl ?_
      refine rg_nil ?_
      refine VS_seq ?_
      refine VS_r0 rfl ?_
      first | refine q_fld_r rfl ?_ | refine q_fld_c rfl rfl ?_
      first | refine q_load_c rfl rfl rfl ?_ | refine q_load_r rfl rfl rfl rfl rfl rfl rfl ?_ | refine q_load_o rfl rfl rfl rfl rfl ?_
      first | refine q_len_m rfl ?_ | refine q_len_s rfl ?_ | refine q_len_o rfl ?_ | refine q_len_n rfl ?_ | refine q_len_x rfl ?_
      first | refine q_fld_r rfl ?_ | refine q_fld_c rfl rfl ?_
      first | refine q_load_c rfl rfl rfl ?_ | refine q_load_r rfl rfl rfl rfl rfl rfl rfl ?_ | refine q_load_o rfl rfl rfl rfl rfl ?_
      first | refine q_len_m rfl ?_ | refine q_len_s rfl ?_ | refine q_len_o rfl ?_ | refine q_len_n rfl ?_ | refine q_len_x rfl ?_
      refine q_sub rfl rfl (inR64 (by omega)) ?_
      refine q_mv rfl ?_
      refine rg_nil ?_
      refine VS_seq ?_
      refine VS_r0 rfl ?_
      refine q_mv rfl ?_
      refine q_mv rfl ?_
      refine q_t rfl ?_
      first | refine q_load_c rfl rfl rfl ?_ | refine q_load_ra rfl rfl rfl rfl rfl (by first | (simp; done) | (simp [setAt]; done)) rfl ?_
      refine q_t rfl ?_
      first | refine q_load_c rfl rfl rfl ?_ | refine q_load_ra rfl rfl rfl rfl rfl (by first | (simp; done) | (simp [setAt]; done)) rfl ?_
      refine q_t rfl ?_
      refine q_callp (x := .bool true) ((c_laws_equalInner _ _ _ _ (by first | omega | (simp; done) | (simp; omega)) (by first | omega | (simp; done) | (simp; omega)) (by first | omega | (simp; done) | (simp; omega)) (by first | omega | (simp; done) | (simp; omega))).eqT rfl) rfl trivial ?_
      refine q_pick_t rfl rfl ?_
      refine q_mv rfl ?_
      refine q_t rfl ?_
      refine q_mv rfl ?_
      refine q_t rfl ?_
      refine q_eql rfl rfl ?_
      refine q_t rfl ?_
      refine q_mv rfl ?_
      refine q_b rfl (fun g99 => ?_) (fun g99 => ?_)
      · try simp only [decide_eq_true_eq, decide_eq_false_iff_not] at g99
        have hd1 : (((ks.take (halfI ks)).length : Int) - (ks.drop (halfI ks + 1)).length) = 1 := by omega
        refine q_t rfl ?_
        refine q_mv rfl ?_
        refine q_t rfl ?_
        refine q_eql_v true rfl rfl (decide_eq_true (by omega)) ?_
        refine q_t rfl ?_
        refine q_pick_f rfl rfl ?_
        refine q_pick_t rfl rfl ?_
        refine q_mv rfl ?_
        refine q_t rfl ?_
        first | refine q_load_c rfl rfl rfl ?_ | refine q_load_ra rfl rfl rfl rfl rfl (by first | (simp; done) | (simp [setAt]; done)) rfl ?_
        refine q_t rfl ?_
        refine q_callp (x := .bool true) ((c_impl_ValidInner (ks.take (halfI ks)) (cs.take (halfI ks + 1)) (by omega) (by simp; omega)).to (y := .bool true) (by rw [hgg.1])) rfl trivial ?_
        refine q_pick_t rfl rfl ?_
        refine q_mv rfl ?_
        refine q_t rfl ?_
        first | refine q_load_c rfl rfl rfl ?_ | refine q_load_ra rfl rfl rfl rfl rfl (by first | (simp; done) | (simp [setAt]; done)) rfl ?_
        refine q_t rfl ?_
        refine q_callp (x := .bool true) ((c_impl_ValidInner (ks.drop (halfI ks + 1)) (cs.drop (halfI ks + 1)) (by omega) (by simp; omega)).to (y := .bool true) (by rw [hgg.2])) rfl trivial ?_
        refine q_pick_t rfl rfl ?_
        refine q_mv rfl ?_
        refine rg_nil ?_
        refine VS_ret ?_
        exact Bd.now ⟨_, rfl, rfl⟩
      · try simp only [decide_eq_true_eq, decide_eq_false_iff_not] at g99
        refine q_f rfl ?_
        refine q_f rfl ?_
        refine q_t rfl ?_
        refine q_pick_t rfl rfl ?_
        refine q_pick_t rfl rfl ?_
        refine q_mv rfl ?_
        refine q_t rfl ?_
        first | refine q_load_c rfl rfl rfl ?_ | refine q_load_ra rfl rfl rfl rfl rfl (by first | (simp; done) | (simp [setAt]; done)) rfl ?_
        refine q_t rfl ?_
        refine q_callp (x := .bool true) ((c_impl_ValidInner (ks.take (halfI ks)) (cs.take (halfI ks + 1)) (by omega) (by simp; omega)).to (y := .bool true) (by rw [hgg.1])) rfl trivial ?_
        refine q_pick_t rfl rfl ?_
        refine q_mv rfl ?_
        refine q_t rfl ?_
        first | refine q_load_c rfl rfl rfl ?_ | refine q_load_ra rfl rfl rfl rfl rfl (by first | (simp; done) | (simp [setAt]; done)) rfl ?_
        refine q_t rfl ?_
        refine q_callp (x := .bool true) ((c_impl_ValidInner (ks.drop (halfI ks + 1)) (cs.drop (halfI ks + 1)) (by omega) (by simp; omega)).to (y := .bool true) (by rw [hgg.2])) rfl trivial ?_
        refine q_pick_t rfl rfl ?_
        refine q_mv rfl ?_
        refine rg_nil ?_
        refine VS_ret ?_
        exact Bd.now ⟨_, rfl, rfl⟩
theorem c_laws_FnJoinInnerSplit (bs : List Int) (hb : isU8 bs) : PCon prog 5 [u8s bs] (fun p => p = .bool true) := by
  refine con_of_VS sl_laws_FnJoinInnerSplit (by simp) ?_
  refine VS_seq ?_
  refine VS_r0 rfl ?_
  refine q_mv rfl ?_
  refine rg_nil ?_
  refine VS_seq ?_
  refine VS_seq ?_
  refine VS_r0 rfl ?_
  refine q_mv rfl ?_
  first | refine q_len_m rfl ?_ | refine q_len_s rfl ?_ | refine q_len_o rfl ?_ | refine q_len_n rfl ?_ | refine q_len_x rfl ?_
  refine q_gtr rfl rfl ?_
  refine rg_nil ?_
  refine VS_cond rfl (fun c0 => ?_) (fun c0 => ?_)
  · try simp at c0
    refine VS_seq ?_
    refine VS_r0 rfl ?_
    refine q_mv rfl ?_
    refine rg_nil ?_
    refine VS_ret ?_
    exact Bd.now ⟨_, rfl, rfl⟩
  · try simp at c0
    refine VS_skip ?_
    refine VS_seq ?_
    refine VS_r0 rfl ?_
    refine q_mv rfl ?_
    refine q_calle rfl (c_spec_DrawJoinInner bs hb (by omega)) rfl trivial ?_
    rintro _ ⟨a, c, k, b, d, rfl, ⟨ha, hc, hb2, hd⟩, hk1, hk2⟩
    refine q_mv rfl ?_
    refine q_ext rfl rfl ?_
    refine q_ext rfl rfl ?_
    refine q_ext rfl rfl ?_
    refine q_alloc trivial ?_
    refine q_alloc trivial ?_
    first | refine q_store rfl rfl rfl rfl rfl rfl ⟨rfl, rfl, by simp, rfl, by simp [isOne]⟩ rfl trivial ?_ | refine q_storeF rfl rfl rfl rfl rfl (by simp) trivial ?_ | refine q_store rfl rfl rfl rfl rfl rfl ⟨rfl, rfl, by simp, by simp [setAt, isCell_own, isCell_sl, isCell_int, isCell_nils], by simp [isOne]⟩ rfl trivial ?_
    refine q_mv rfl ?_
    first | refine q_store rfl rfl rfl rfl rfl rfl ⟨rfl, rfl, by simp, rfl, by simp [isOne]⟩ rfl trivial ?_ | refine q_storeF rfl rfl rfl rfl rfl (by simp) trivial ?_ | refine q_store rfl rfl rfl rfl rfl rfl ⟨rfl, rfl, by simp, by simp [setAt, isCell_own, isCell_sl, isCell_int, isCell_nils], by simp [isOne]⟩ rfl trivial ?_
    refine rg_nil ?_
    refine VS_seq ?_
    cases hg : okJI a c k b d
    · skip
      refine VS_r0 rfl ?_
      first | refine q_load_c rfl rfl rfl ?_ | refine q_load_ra rfl rfl rfl rfl rfl (by first | (simp; done) | (simp [setAt]; done)) rfl ?_
      refine q_mv rfl ?_
      first | refine q_load_c rfl rfl rfl ?_ | refine q_load_ra rfl rfl rfl rfl rfl (by first | (simp; done) | (simp [setAt]; done)) rfl ?_
      refine q_callp ((c_impl_JoinInner a c k b d (by omega) (by omega) (by omega) (by omega)).to (y := .tup [innP [] [], .bool false]) (joinI_f hg)) rfl trivial ?_
      refine q_mv rfl ?_
      refine q_ext rfl rfl ?_
      refine q_ext rfl rfl ?_
      refine q_alloc trivial ?_
      first | refine q_store rfl rfl rfl rfl rfl rfl ⟨rfl, rfl, by simp, rfl, by simp [isOne]⟩ rfl trivial ?_ | refine q_storeF rfl rfl rfl rfl rfl (by simp) trivial ?_ | refine q_store rfl rfl rfl rfl rfl rfl ⟨rfl, rfl, by simp, by simp [setAt, isCell_own, isCell_sl, isCell_int, isCell_nils], by simp [isOne]⟩ rfl trivial ?_
      refine q_mv rfl ?_
      refine rg_nil ?_
      refine VS_seq ?_
      refine VS_r0 rfl ?_
      first | refine q_load_c rfl rfl rfl ?_ | refine q_load_ra rfl rfl rfl rfl rfl (by first | (simp; done) | (simp [setAt]; done)) rfl ?_
      refine q_mv rfl ?_
      first | refine q_load_c rfl rfl rfl ?_ | refine q_load_ra rfl rfl rfl rfl rfl (by first | (simp; done) | (simp [setAt]; done)) rfl ?_
      refine q_callp ((c_spec_JoinInner a c k b d (by omega) (by omega) (by omega) (by omega)).to (y := .tup [innP [] [], .bool false]) (joinI_f hg)) rfl trivial ?_
      refine q_mv rfl ?_
      refine q_ext rfl rfl ?_
      refine q_ext rfl rfl ?_
      refine q_alloc trivial ?_
      first | refine q_store rfl rfl rfl rfl rfl rfl ⟨rfl, rfl, by simp, rfl, by simp [isOne]⟩ rfl trivial ?_ | refine q_storeF rfl rfl rfl rfl rfl (by simp) trivial ?_ | refine q_store rfl rfl rfl rfl rfl rfl ⟨rfl, rfl, by simp, by simp [setAt, isCell_own, isCell_sl, isCell_int, isCell_nils], by simp [isOne]⟩ rfl trivial ?_
      refine q_mv rfl ?_
      refine rg_nil ?_
      refine VS_seq ?_
      refine VS_seq ?_
      refine VS_r0 rfl ?_
      first | refine q_load_c rfl rfl rfl ?_ | refine q_load_ra rfl rfl rfl rfl rfl (by first | (simp; done) | (simp [setAt]; done)) rfl ?_
      first | refine q_load_c rfl rfl rfl ?_ | refine q_load_ra rfl rfl rfl rfl rfl (by first | (simp; done) | (simp [setAt]; done)) rfl ?_
      refine q_callp (x := .bool true) ((c_laws_equalInner _ _ _ _ (by first | omega | (simp; done) | (simp; omega)) (by first | omega | (simp; done) | (simp; omega)) (by first | omega | (simp; done) | (simp; omega)) (by first | omega | (simp; done) | (simp; omega))).eqT rfl) rfl trivial ?_
      refine q_not rfl ?_
      refine q_mv rfl ?_
      refine q_t rfl ?_
      refine q_mv rfl ?_
      refine q_t rfl ?_
      refine q_mv rfl ?_
      refine q_t rfl ?_
      refine q_beq_v false rfl rfl (rfl) ?_
      refine q_pick_f rfl rfl ?_
      refine q_mv rfl ?_
      refine q_t rfl ?_
      refine q_mv rfl ?_
      refine q_t rfl ?_
      refine q_not rfl ?_
      refine q_pick_f rfl rfl ?_
      refine rg_nil ?_
      refine VS_cond rfl (fun _ => ?_) (fun e => by cases e)
      refine VS_seq ?_
      refine VS_r0 rfl ?_
      first | refine q_load_c rfl rfl rfl ?_ | refine q_load_ra rfl rfl rfl rfl rfl (by first | (simp; done) | (simp [setAt]; done)) rfl ?_
      first | refine q_load_c rfl rfl rfl ?_ | refine q_load_ra rfl rfl rfl rfl rfl (by first | (simp; done) | (simp [setAt]; done)) rfl ?_
      refine q_callp (x := .bool true) ((c_laws_equalInner _ _ _ _ (by first | omega | (simp; done) | (simp; omega)) (by first | omega | (simp; done) | (simp; omega)) (by first | omega | (simp; done) | (simp; omega)) (by first | omega | (simp; done) | (simp; omega))).eqT rfl) rfl trivial ?_
      refine q_mv rfl ?_
      refine q_t rfl ?_
      refine q_mv rfl ?_
      refine q_t rfl ?_
      refine q_mv rfl ?_
      refine q_t rfl ?_
      refine q_beq_v true rfl rfl (rfl) ?_
      refine q_pick_t rfl rfl ?_
      refine q_mv rfl ?_
      refine rg_nil ?_
      refine VS_ret ?_
      exact Bd.now ⟨_, rfl, rfl⟩
    · skip
      have hjl := ji_len hg
      have hjs := ji_split hg
      have hjl2 : (bothA a k b).length = a.length + 1 + b.length := by simp; omega
      have hjl3 : (c ++ d).length = c.length + d.length := by simp
      have hhl : halfI (bothA a k b) = (bothA a k b).length / 2 := rfl
      have t1 : ((bothA a k b).take (halfI (bothA a k b))).length = halfI (bothA a k b) := by rw [List.length_take]; omega
      have t2 : ((bothA a k b).drop (halfI (bothA a k b) + 1)).length = (bothA a k b).length - (halfI (bothA a k b) + 1) := List.length_drop
      have hsl := si_len hjs
      refine VS_r0 rfl ?_
      first | refine q_load_c rfl rfl rfl ?_ | refine q_load_ra rfl rfl rfl rfl rfl (by first | (simp; done) | (simp [setAt]; done)) rfl ?_
      refine q_mv rfl ?_
      first | refine q_load_c rfl rfl rfl ?_ | refine q_load_ra rfl rfl rfl rfl rfl (by first | (simp; done) | (simp [setAt]; done)) rfl ?_
      refine q_callp ((c_impl_JoinInner a c k b d (by omega) (by omega) (by omega) (by omega)).to (y := .tup [innP (bothA a k b) (c ++ d), .bool true]) (joinI_t hg)) rfl trivial ?_
      refine q_mv rfl ?_
      refine q_ext rfl rfl ?_
      refine q_ext rfl rfl ?_
      refine q_alloc trivial ?_
      first | refine q_store rfl rfl rfl rfl rfl rfl ⟨rfl, rfl, by simp, rfl, by simp [isOne]⟩ rfl trivial ?_ | refine q_storeF rfl rfl rfl rfl rfl (by simp) trivial ?_ | refine q_store rfl rfl rfl rfl rfl rfl ⟨rfl, rfl, by simp, by simp [setAt, isCell_own, isCell_sl, isCell_int, isCell_nils], by simp [isOne]⟩ rfl trivial ?_
      refine q_mv rfl ?_
      refine rg_nil ?_
      refine VS_seq ?_
      refine VS_r0 rfl ?_
      first | refine q_load_c rfl rfl rfl ?_ | refine q_load_ra rfl rfl rfl rfl rfl (by first | (simp; done) | (simp [setAt]; done)) rfl ?_
      refine q_mv rfl ?_
      first | refine q_load_c rfl rfl rfl ?_ | refine q_load_ra rfl rfl rfl rfl rfl (by first | (simp; done) | (simp [setAt]; done)) rfl ?_
      refine q_callp ((c_spec_JoinInner a c k b d (by omega) (by omega) (by omega) (by omega)).to (y := .tup [innP (bothA a k b) (c ++ d), .bool true]) (joinI_t hg)) rfl trivial ?_
      refine q_mv rfl ?_
      refine q_ext rfl rfl ?_
      refine q_ext rfl rfl ?_
      refine q_alloc trivial ?_
      first | refine q_store rfl rfl rfl rfl rfl rfl ⟨rfl, rfl, by simp, rfl, by simp [isOne]⟩ rfl trivial ?_ | refine q_storeF rfl rfl rfl rfl rfl (by simp) trivial ?_ | refine q_store rfl rfl rfl rfl rfl rfl ⟨rfl, rfl, by simp, by simp [setAt, isCell_own, isCell_sl, isCell_int, isCell_nils], by simp [isOne]⟩ rfl trivial ?_
      refine q_mv rfl ?_
      refine rg_nil ?_
      refine VS_seq ?_
      refine VS_seq ?_
      refine VS_r0 rfl ?_
      first | refine q_load_c rfl rfl rfl ?_ | refine q_load_ra rfl rfl rfl rfl rfl (by first | (simp; done) | (simp [setAt]; done)) rfl ?_
      first | refine q_load_c rfl rfl rfl ?_ | refine q_load_ra rfl rfl rfl rfl rfl (by first | (simp; done) | (simp [setAt]; done)) rfl ?_
      refine q_callp (x := .bool true) ((c_laws_equalInner _ _ _ _ (by first | omega | (simp; done) | (simp; omega)) (by first | omega | (simp; done) | (simp; omega)) (by first | omega | (simp; done) | (simp; omega)) (by first | omega | (simp; done) | (simp; omega))).eqT rfl) rfl trivial ?_
      refine q_not rfl ?_
      refine q_mv rfl ?_
      refine q_t rfl ?_
      refine q_mv rfl ?_
      refine q_t rfl ?_
      refine q_mv rfl ?_
      refine q_t rfl ?_
      refine q_beq_v false rfl rfl (rfl) ?_
      refine q_pick_f rfl rfl ?_
      refine q_mv rfl ?_
      refine q_t rfl ?_
      refine q_mv rfl ?_
      refine q_t rfl ?_
      refine q_not rfl ?_
      refine q_pick_f rfl rfl ?_
      refine rg_nil ?_
      refine VS_cond rfl (fun e => by cases e) (fun _ => ?_)
      refine VS_skip ?_
      refine VS_seq ?_
      refine VS_r0 rfl ?_
      first | refine q_load_c rfl rfl rfl ?_ | refine q_load_ra rfl rfl rfl rfl rfl (by first | (simp; done) | (simp [setAt]; done)) rfl ?_
      refine q_callp ((c_impl_SplitInner (bothA a k b) (c ++ d) (by omega) (by omega)).to (y := .tup [innP ((bothA a k b).take (halfI (bothA a k b))) ((c ++ d).take (halfI (bothA a k b) + 1)), i64 (nth (bothA a k b) (halfI (bothA a k b))), innP ((bothA a k b).drop (halfI (bothA a k b) + 1)) ((c ++ d).drop (halfI (bothA a k b) + 1)), .bool true]) (splI_t hjs)) rfl trivial ?_
      refine q_mv rfl ?_
      refine q_ext rfl rfl ?_
      refine q_ext rfl rfl ?_
      refine q_ext rfl rfl ?_
      refine q_ext rfl rfl ?_
      refine q_alloc trivial ?_
      refine q_alloc trivial ?_
      first | refine q_store rfl rfl rfl rfl rfl rfl ⟨rfl, rfl, by simp, rfl, by simp [isOne]⟩ rfl trivial ?_ | refine q_storeF rfl rfl rfl rfl rfl (by simp) trivial ?_ | refine q_store rfl rfl rfl rfl rfl rfl ⟨rfl, rfl, by simp, by simp [setAt, isCell_own, isCell_sl, isCell_int, isCell_nils], by simp [isOne]⟩ rfl trivial ?_
      refine q_mv rfl ?_
      first | refine q_store rfl rfl rfl rfl rfl rfl ⟨rfl, rfl, by simp, rfl, by simp [isOne]⟩ rfl trivial ?_ | refine q_storeF rfl rfl rfl rfl rfl (by simp) trivial ?_ | refine q_store rfl rfl rfl rfl rfl rfl ⟨rfl, rfl, by simp, by simp [setAt, isCell_own, isCell_sl, isCell_int, isCell_nils], by simp [isOne]⟩ rfl trivial ?_
      refine q_mv rfl ?_
      refine rg_nil ?_
      refine VS_seq ?_
      refine VS_r0 rfl ?_
      first | refine q_fld_r rfl ?_ | refine q_fld_c rfl rfl ?_
      first | refine q_load_c rfl rfl rfl ?_ | refine q_load_r rfl rfl rfl rfl rfl rfl rfl ?_ | refine q_load_o rfl rfl rfl rfl rfl ?_
      first | refine q_len_m rfl ?_ | refine q_len_s rfl ?_ | refine q_len_o rfl ?_ | refine q_len_n rfl ?_ | refine q_len_x rfl ?_
      first | refine q_fld_r rfl ?_ | refine q_fld_c rfl rfl ?_
      first | refine q_load_c rfl rfl rfl ?_ | refine q_load_r rfl rfl rfl rfl rfl rfl rfl ?_ | refine q_load_o rfl rfl rfl rfl rfl ?_
      first | refine q_len_m rfl ?_ | refine q_len_s rfl ?_ | refine q_len_o rfl ?_ | refine q_len_n rfl ?_ | refine q_len_x rfl ?_
      refine q_sub rfl rfl (inR64 (by omega)) ?_
      refine q_mv rfl ?_
      refine rg_nil ?_
      refine VS_seq ?_
      refine VS_r0 rfl ?_
      refine q_mv rfl ?_
      refine q_mv rfl ?_
      refine q_t rfl ?_
      refine q_mv rfl ?_
      refine q_t rfl ?_
      refine q_eql rfl rfl ?_
      refine q_t rfl ?_
      refine q_mv rfl ?_
      refine q_b rfl (fun g77 => ?_) (fun g77 => ?_)
      · try simp only [decide_eq_true_eq, decide_eq_false_iff_not] at g77
        have hd1 : ((((bothA a k b).take (halfI (bothA a k b))).length : Int) - ((bothA a k b).drop (halfI (bothA a k b) + 1)).length) = 1 := by omega
        refine q_t rfl ?_
        refine q_mv rfl ?_
        refine q_t rfl ?_
        refine q_eql_v true rfl rfl (decide_eq_true (by omega)) ?_
        refine q_t rfl ?_
        refine q_pick_f rfl rfl ?_
        refine q_pick_t rfl rfl ?_
        refine q_mv rfl ?_
        refine q_t rfl ?_
        first | refine q_load_c rfl rfl rfl ?_ | refine q_load_ra rfl rfl rfl rfl rfl (by first | (simp; done) | (simp [setAt]; done)) rfl ?_
        refine q_t rfl ?_
        refine q_callp (x := .bool true) ((c_impl_ValidInner (bothA a k b) (c ++ d) (by omega) (by omega)).to (y := .bool true) (by rw [(okJI_iff.1 hg).2.2])) rfl trivial ?_
        refine q_pick_t rfl rfl ?_
        refine q_mv rfl ?_
        refine rg_nil ?_
        refine VS_ret ?_
        exact Bd.now ⟨_, rfl, rfl⟩
      · try simp only [decide_eq_true_eq, decide_eq_false_iff_not] at g77
        refine q_f rfl ?_
        refine q_f rfl ?_
        refine q_t rfl ?_
        refine q_pick_t rfl rfl ?_
        refine q_pick_t rfl rfl ?_
        refine q_mv rfl ?_
        refine q_t rfl ?_
        first | refine q_load_c rfl rfl rfl ?_ | refine q_load_ra rfl rfl rfl rfl rfl (by first | (simp; done) | (simp [setAt]; done)) rfl ?_
        refine q_t rfl ?_
        refine q_callp (x := .bool true) ((c_impl_ValidInner (bothA a k b) (c ++ d) (by omega) (by omega)).to (y := .bool true) (by rw [(okJI_iff.1 hg).2.2])) rfl trivial ?_
        refine q_pick_t rfl rfl ?_
        refine q_mv rfl ?_
        refine rg_nil ?_
        refine VS_ret ?_
        exact Bd.now ⟨_, rfl, rfl⟩
theorem c_laws_FnAddKidCount (bs : List Int) (hb : isU8 bs) : PCon prog 9 [u8s bs] (fun p => p = .bool true) := by
  refine con_of_VS sl_laws_FnAddKidCount (by simp) ?_
  refine VS_seq ?_
  refine VS_r0 rfl ?_
  refine q_mv rfl ?_
  refine rg_nil ?_
  refine VS_seq ?_
  refine VS_seq ?_
  refine VS_r0 rfl ?_
  refine q_mv rfl ?_
  first | refine q_len_m rfl ?_ | refine q_len_s rfl ?_ | refine q_len_o rfl ?_ | refine q_len_n rfl ?_ | refine q_len_x rfl ?_
  refine q_gtr rfl rfl ?_
  refine rg_nil ?_
  refine VS_cond rfl (fun c0 => ?_) (fun c0 => ?_)
  · try simp at c0
    refine VS_seq ?_
    refine VS_r0 rfl ?_
    refine q_mv rfl ?_
    refine rg_nil ?_
    refine VS_ret ?_
    exact Bd.now ⟨_, rfl, rfl⟩
  · try simp at c0
    refine VS_skip ?_
    refine VS_seq ?_
    refine VS_r0 rfl ?_
    refine q_mv rfl ?_
    refine q_calle rfl (c_spec_DrawAddKid bs hb (by omega)) rfl trivial ?_
    rintro _ ⟨ks, cs, m, k, c, rfl, ⟨⟨hx1, hx2⟩, hx3, hx4⟩, hm, hk1, hk2⟩
    refine q_mv rfl ?_
    refine q_ext rfl rfl ?_
    refine q_ext rfl rfl ?_
    refine q_ext rfl rfl ?_
    refine q_ext rfl rfl ?_
    refine q_alloc trivial ?_
    first | refine q_store rfl rfl rfl rfl rfl rfl ⟨rfl, rfl, by simp, rfl, by simp [isOne]⟩ rfl trivial ?_ | refine q_storeF rfl rfl rfl rfl rfl (by simp) trivial ?_ | refine q_store rfl rfl rfl rfl rfl rfl ⟨rfl, rfl, by simp, by simp [setAt, isCell_own, isCell_sl, isCell_int, isCell_nils], by simp [isOne]⟩ rfl trivial ?_
    refine q_mv rfl ?_
    refine q_mv rfl ?_
    refine q_mv rfl ?_
    refine rg_nil ?_
    refine VS_seq ?_
    cases hg : okAdd ks cs m k c
    · skip
      refine VS_r0 rfl ?_
      first | refine q_load_c rfl rfl rfl ?_ | refine q_load_ra rfl rfl rfl rfl rfl (by first | (simp; done) | (simp [setAt]; done)) rfl ?_
      refine q_mv rfl ?_
      refine q_mv rfl ?_
      refine q_mv rfl ?_
      refine q_callp ((c_impl_AddKid ks cs m k c (by omega) (by omega) (by omega)).to (y := .tup [innP [] [], .bool false]) (addR_f hg)) rfl trivial ?_
      refine q_mv rfl ?_
      refine q_ext rfl rfl ?_
      refine q_ext rfl rfl ?_
      refine q_alloc trivial ?_
      first | refine q_store rfl rfl rfl rfl rfl rfl ⟨rfl, rfl, by simp, rfl, by simp [isOne]⟩ rfl trivial ?_ | refine q_storeF rfl rfl rfl rfl rfl (by simp) trivial ?_ | refine q_store rfl rfl rfl rfl rfl rfl ⟨rfl, rfl, by simp, by simp [setAt, isCell_own, isCell_sl, isCell_int, isCell_nils], by simp [isOne]⟩ rfl trivial ?_
      refine q_mv rfl ?_
      refine rg_nil ?_
      refine VS_seq ?_
      refine VS_r0 rfl ?_
      first | refine q_load_c rfl rfl rfl ?_ | refine q_load_ra rfl rfl rfl rfl rfl (by first | (simp; done) | (simp [setAt]; done)) rfl ?_
      refine q_mv rfl ?_
      refine q_mv rfl ?_
      refine q_mv rfl ?_
      refine q_callp ((c_spec_AddKid ks cs m k c (by omega) (by omega) (by omega)).to (y := .tup [innP [] [], .bool false]) (addR_f hg)) rfl trivial ?_
      refine q_mv rfl ?_
      refine q_ext rfl rfl ?_
      refine q_ext rfl rfl ?_
      refine q_alloc trivial ?_
      first | refine q_store rfl rfl rfl rfl rfl rfl ⟨rfl, rfl, by simp, rfl, by simp [isOne]⟩ rfl trivial ?_ | refine q_storeF rfl rfl rfl rfl rfl (by simp) trivial ?_ | refine q_store rfl rfl rfl rfl rfl rfl ⟨rfl, rfl, by simp, by simp [setAt, isCell_own, isCell_sl, isCell_int, isCell_nils], by simp [isOne]⟩ rfl trivial ?_
      refine q_mv rfl ?_
      refine rg_nil ?_
      refine VS_seq ?_
      refine VS_seq ?_
      refine VS_r0 rfl ?_
      first | refine q_load_c rfl rfl rfl ?_ | refine q_load_ra rfl rfl rfl rfl rfl (by first | (simp; done) | (simp [setAt]; done)) rfl ?_
      first | refine q_load_c rfl rfl rfl ?_ | refine q_load_ra rfl rfl rfl rfl rfl (by first | (simp; done) | (simp [setAt]; done)) rfl ?_
      refine q_callp (x := .bool true) ((c_laws_equalInner _ _ _ _ (by first | omega | (simp; done) | (simp; omega)) (by first | omega | (simp; done) | (simp; omega)) (by first | omega | (simp; done) | (simp; omega)) (by first | omega | (simp; done) | (simp; omega))).eqT rfl) rfl trivial ?_
      refine q_not rfl ?_
      refine q_mv rfl ?_
      refine q_t rfl ?_
      refine q_mv rfl ?_
      refine q_t rfl ?_
      refine q_mv rfl ?_
      refine q_t rfl ?_
      refine q_beq_v false rfl rfl (rfl) ?_
      refine q_pick_f rfl rfl ?_
      refine q_mv rfl ?_
      refine q_t rfl ?_
      refine q_mv rfl ?_
      refine q_t rfl ?_
      refine q_not rfl ?_
      refine q_pick_f rfl rfl ?_
      refine rg_nil ?_
      refine VS_cond rfl (fun _ => ?_) (fun e => by cases e)
      refine VS_seq ?_
      refine VS_r0 rfl ?_
      first | refine q_load_c rfl rfl rfl ?_ | refine q_load_ra rfl rfl rfl rfl rfl (by first | (simp; done) | (simp [setAt]; done)) rfl ?_
      first | refine q_load_c rfl rfl rfl ?_ | refine q_load_ra rfl rfl rfl rfl rfl (by first | (simp; done) | (simp [setAt]; done)) rfl ?_
      refine q_callp (x := .bool true) ((c_laws_equalInner _ _ _ _ (by first | omega | (simp; done) | (simp; omega)) (by first | omega | (simp; done) | (simp; omega)) (by first | omega | (simp; done) | (simp; omega)) (by first | omega | (simp; done) | (simp; omega))).eqT rfl) rfl trivial ?_
      refine q_mv rfl ?_
      refine q_t rfl ?_
      refine q_mv rfl ?_
      refine q_t rfl ?_
      refine q_mv rfl ?_
      refine q_t rfl ?_
      refine q_beq_v true rfl rfl (rfl) ?_
      refine q_pick_t rfl rfl ?_
      refine q_mv rfl ?_
      refine rg_nil ?_
      refine VS_ret ?_
      exact Bd.now ⟨_, rfl, rfl⟩
    · skip
      have hal := add_len hg
      refine VS_r0 rfl ?_
      first | refine q_load_c rfl rfl rfl ?_ | refine q_load_ra rfl rfl rfl rfl rfl (by first | (simp; done) | (simp [setAt]; done)) rfl ?_
      refine q_mv rfl ?_
      refine q_mv rfl ?_
      refine q_mv rfl ?_
      refine q_callp ((c_impl_AddKid ks cs m k c (by omega) (by omega) (by omega)).to (y := .tup [innP (addA ks m k) (addB cs m c), .bool true]) (addR_t hg)) rfl trivial ?_
      refine q_mv rfl ?_
      refine q_ext rfl rfl ?_
      refine q_ext rfl rfl ?_
      refine q_alloc trivial ?_
      first | refine q_store rfl rfl rfl rfl rfl rfl ⟨rfl, rfl, by simp, rfl, by simp [isOne]⟩ rfl trivial ?_ | refine q_storeF rfl rfl rfl rfl rfl (by simp) trivial ?_ | refine q_store rfl rfl rfl rfl rfl rfl ⟨rfl, rfl, by simp, by simp [setAt, isCell_own, isCell_sl, isCell_int, isCell_nils], by simp [isOne]⟩ rfl trivial ?_
      refine q_mv rfl ?_
      refine rg_nil ?_
      refine VS_seq ?_
      refine VS_r0 rfl ?_
      first | refine q_load_c rfl rfl rfl ?_ | refine q_load_ra rfl rfl rfl rfl rfl (by first | (simp; done) | (simp [setAt]; done)) rfl ?_
      refine q_mv rfl ?_
      refine q_mv rfl ?_
      refine q_mv rfl ?_
      refine q_callp ((c_spec_AddKid ks cs m k c (by omega) (by omega) (by omega)).to (y := .tup [innP (addA ks m k) (addB cs m c), .bool true]) (addR_t hg)) rfl trivial ?_
      refine q_mv rfl ?_
      refine q_ext rfl rfl ?_
      refine q_ext rfl rfl ?_
      refine q_alloc trivial ?_
      first | refine q_store rfl rfl rfl rfl rfl rfl ⟨rfl, rfl, by simp, rfl, by simp [isOne]⟩ rfl trivial ?_ | refine q_storeF rfl rfl rfl rfl rfl (by simp) trivial ?_ | refine q_store rfl rfl rfl rfl rfl rfl ⟨rfl, rfl, by simp, by simp [setAt, isCell_own, isCell_sl, isCell_int, isCell_nils], by simp [isOne]⟩ rfl trivial ?_
      refine q_mv rfl ?_
      refine rg_nil ?_
      refine VS_seq ?_
      refine VS_seq ?_
      refine VS_r0 rfl ?_
      first | refine q_load_c rfl rfl rfl ?_ | refine q_load_ra rfl rfl rfl rfl rfl (by first | (simp; done) | (simp [setAt]; done)) rfl ?_
      first | refine q_load_c rfl rfl rfl ?_ | refine q_load_ra rfl rfl rfl rfl rfl (by first | (simp; done) | (simp [setAt]; done)) rfl ?_
      refine q_callp (x := .bool true) ((c_laws_equalInner _ _ _ _ (by first | omega | (simp; done) | (simp; omega)) (by first | omega | (simp; done) | (simp; omega)) (by first | omega | (simp; done) | (simp; omega)) (by first | omega | (simp; done) | (simp; omega))).eqT rfl) rfl trivial ?_
      refine q_not rfl ?_
      refine q_mv rfl ?_
      refine q_t rfl ?_
      refine q_mv rfl ?_
      refine q_t rfl ?_
      refine q_mv rfl ?_
      refine q_t rfl ?_
      refine q_beq_v false rfl rfl (rfl) ?_
      refine q_pick_f rfl rfl ?_
      refine q_mv rfl ?_
      refine q_t rfl ?_
      refine q_mv rfl ?_
      refine q_t rfl ?_
      refine q_not rfl ?_
      refine q_pick_f rfl rfl ?_
      refine rg_nil ?_
      refine VS_cond rfl (fun e => by cases e) (fun _ => ?_)
      refine VS_skip ?_
      refine VS_seq ?_
      refine VS_r1 hmix rfl ?_
      first | refine q_fld_r rfl ?_ | refine q_fld_c rfl rfl ?_
      first | refine q_load_c rfl rfl rfl ?_ | refine q_load_r rfl rfl rfl rfl rfl rfl rfl ?_ | refine q_load_o rfl rfl rfl rfl rfl ?_
      first | refine q_len_m rfl ?_ | refine q_len_s rfl ?_ | refine q_len_o rfl ?_ | refine q_len_n rfl ?_ | refine q_len_x rfl ?_
      first | refine q_fld_r rfl ?_ | refine q_fld_c rfl rfl ?_
      first | refine q_load_c rfl rfl rfl ?_ | refine q_load_r rfl rfl rfl rfl rfl rfl rfl ?_ | refine q_load_o rfl rfl rfl rfl rfl ?_
      first | refine q_len_m rfl ?_ | refine q_len_s rfl ?_ | refine q_len_o rfl ?_ | refine q_len_n rfl ?_ | refine q_len_x rfl ?_
      refine q_add rfl rfl (inR64 (by omega)) ?_
      refine q_eql_v true rfl rfl (decide_eq_true (by omega)) ?_
      refine q_mv rfl ?_
      refine q_t rfl ?_
      first | refine q_fld_r rfl ?_ | refine q_fld_c rfl rfl ?_
      refine q_t rfl ?_
      first | refine q_load_c rfl rfl rfl ?_ | refine q_load_r rfl rfl rfl rfl rfl rfl rfl ?_ | refine q_load_o rfl rfl rfl rfl rfl ?_
      refine q_t rfl ?_
      first | refine q_len_m rfl ?_ | refine q_len_s rfl ?_ | refine q_len_o rfl ?_ | refine q_len_n rfl ?_ | refine q_len_x rfl ?_
      refine q_t rfl ?_
      first | refine q_fld_r rfl ?_ | refine q_fld_c rfl rfl ?_
      refine q_t rfl ?_
      first | refine q_load_c rfl rfl rfl ?_ | refine q_load_r rfl rfl rfl rfl rfl rfl rfl ?_ | refine q_load_o rfl rfl rfl rfl rfl ?_
      refine q_t rfl ?_
      first | refine q_len_m rfl ?_ | refine q_len_s rfl ?_ | refine q_len_o rfl ?_ | refine q_len_n rfl ?_ | refine q_len_x rfl ?_
      refine q_t rfl ?_
      refine q_add rfl rfl (inR64 (by omega)) ?_
      refine q_t rfl ?_
      refine q_eql_v true rfl rfl (decide_eq_true (by omega)) ?_
      refine q_pick_t rfl rfl ?_
      refine q_mv rfl ?_
      refine q_t rfl ?_
      first | refine q_fld_r rfl ?_ | refine q_fld_c rfl rfl ?_
      refine q_t rfl ?_
      first | refine q_load_c rfl rfl rfl ?_ | refine q_load_r rfl rfl rfl rfl rfl rfl rfl ?_ | refine q_load_o rfl rfl rfl rfl rfl ?_
      refine q_t rfl ?_
      refine q_mv rfl ?_
      refine q_t rfl ?_
      refine q_idx_m (f := fun k => i64 k) (xs := addB cs m c) (n := (m : Int)) rfl rfl (by omega) (by omega) (fun _ => rfl) ?_
      refine q_t rfl ?_
      first | refine q_load_c rfl rfl rfl ?_ | refine q_load_r rfl rfl rfl rfl rfl rfl rfl ?_ | refine q_load_o rfl rfl rfl rfl rfl ?_
      refine q_t rfl ?_
      first | refine q_fld_r rfl ?_ | refine q_fld_c rfl rfl ?_
      refine q_t rfl ?_
      first | refine q_load_c rfl rfl rfl ?_ | refine q_load_r rfl rfl rfl rfl rfl rfl rfl ?_ | refine q_load_o rfl rfl rfl rfl rfl ?_
      refine q_t rfl ?_
      refine q_mv rfl ?_
      refine q_t rfl ?_
      refine q_idx_m (f := fun k => i64 k) (xs := cs) (n := (m : Int)) rfl rfl (by omega) (by omega) (fun _ => rfl) ?_
      refine q_t rfl ?_
      first | refine q_load_c rfl rfl rfl ?_ | refine q_load_r rfl rfl rfl rfl rfl rfl rfl ?_ | refine q_load_o rfl rfl rfl rfl rfl ?_
      refine q_t rfl ?_
      refine q_eql_v true rfl rfl (decide_eq_true (by rw [Int.toNat_natCast, addB_at (by omega) (by omega), if_pos (by omega)])) ?_
      refine q_pick_t rfl rfl ?_
      refine q_mv rfl ?_
      refine q_t rfl ?_
      first | refine q_fld_r rfl ?_ | refine q_fld_c rfl rfl ?_
      refine q_t rfl ?_
      first | refine q_load_c rfl rfl rfl ?_ | refine q_load_r rfl rfl rfl rfl rfl rfl rfl ?_ | refine q_load_o rfl rfl rfl rfl rfl ?_
      refine q_t rfl ?_
      refine q_mv rfl ?_
      refine q_t rfl ?_
      refine q_add rfl rfl (inR64 (by omega)) ?_
      refine q_t rfl ?_
      refine q_idx_m (f := fun k => i64 k) (xs := addB cs m c) (n := (m : Int) + 1) rfl rfl (by omega) (by omega) (fun _ => rfl) ?_
      refine q_t rfl ?_
      first | refine q_load_c rfl rfl rfl ?_ | refine q_load_r rfl rfl rfl rfl rfl rfl rfl ?_ | refine q_load_o rfl rfl rfl rfl rfl ?_
      refine q_t rfl ?_
      refine q_mv rfl ?_
      refine q_t rfl ?_
      refine q_eql_v true rfl rfl (decide_eq_true (by rw [nat_i1, addB_at (by omega) (by omega), if_neg (by omega), if_pos rfl])) ?_
      refine q_pick_t rfl rfl ?_
      refine q_mv rfl ?_
      refine q_t rfl ?_
      first | refine q_fld_r rfl ?_ | refine q_fld_c rfl rfl ?_
      refine q_t rfl ?_
      first | refine q_load_c rfl rfl rfl ?_ | refine q_load_r rfl rfl rfl rfl rfl rfl rfl ?_ | refine q_load_o rfl rfl rfl rfl rfl ?_
      refine q_t rfl ?_
      refine q_mv rfl ?_
      refine q_t rfl ?_
      refine q_idx_m (f := fun k => i64 k) (xs := addA ks m k) (n := (m : Int)) rfl rfl (by omega) (by omega) (fun _ => rfl) ?_
      refine q_t rfl ?_
      first | refine q_load_c rfl rfl rfl ?_ | refine q_load_r rfl rfl rfl rfl rfl rfl rfl ?_ | refine q_load_o rfl rfl rfl rfl rfl ?_
      refine q_t rfl ?_
      refine q_mv rfl ?_
      refine q_t rfl ?_
      refine q_eql_v true rfl rfl (decide_eq_true (by rw [Int.toNat_natCast, addA_at (by omega) (by omega), if_neg (by omega), if_pos rfl])) ?_
      refine q_pick_t rfl rfl ?_
      refine q_mv rfl ?_
      refine rg_nil ?_
      refine VS_ret ?_
      exact Bd.now ⟨_, rfl, rfl⟩
theorem c_laws_FnAddKidRoute (bs : List Int) (hb : isU8 bs) : PCon prog 13 [u8s bs] (fun p => p = .bool true) := by
  refine con_of_VS sl_laws_FnAddKidRoute (by simp) ?_
  refine VS_seq ?_
  refine VS_r0 rfl ?_
  refine q_mv rfl ?_
  refine rg_nil ?_
  refine VS_seq ?_
  refine VS_seq ?_
  refine VS_r0 rfl ?_
  refine q_mv rfl ?_
  first | refine q_len_m rfl ?_ | refine q_len_s rfl ?_ | refine q_len_o rfl ?_ | refine q_len_n rfl ?_ | refine q_len_x rfl ?_
  refine q_gtr rfl rfl ?_
  refine rg_nil ?_
  refine VS_cond rfl (fun c0 => ?_) (fun c0 => ?_)
  · try simp at c0
    refine VS_seq ?_
    refine VS_r0 rfl ?_
    refine q_mv rfl ?_
    refine rg_nil ?_
    refine VS_ret ?_
    exact Bd.now ⟨_, rfl, rfl⟩
  · try simp at c0
    refine VS_skip ?_
    refine VS_seq ?_
    refine VS_r0 rfl ?_
    refine q_mv rfl ?_
    refine q_calle rfl (c_spec_DrawAddKid bs hb (by omega)) rfl trivial ?_
    rintro _ ⟨ks, cs, m, k, c, rfl, ⟨⟨hx1, hx2⟩, hx3, hx4⟩, hm, hk1, hk2⟩
    refine q_mv rfl ?_
    refine q_ext rfl rfl ?_
    refine q_ext rfl rfl ?_
    refine q_ext rfl rfl ?_
    refine q_ext rfl rfl ?_
    refine q_alloc trivial ?_
    first | refine q_store rfl rfl rfl rfl rfl rfl ⟨rfl, rfl, by simp, rfl, by simp [isOne]⟩ rfl trivial ?_ | refine q_storeF rfl rfl rfl rfl rfl (by simp) trivial ?_ | refine q_store rfl rfl rfl rfl rfl rfl ⟨rfl, rfl, by simp, by simp [setAt, isCell_own, isCell_sl, isCell_int, isCell_nils], by simp [isOne]⟩ rfl trivial ?_
    refine q_mv rfl ?_
    refine q_mv rfl ?_
    refine q_mv rfl ?_
    refine rg_nil ?_
    refine VS_seq ?_
    cases hg : okAdd ks cs m k c
    · skip
      refine VS_r0 rfl ?_
      first | refine q_load_c rfl rfl rfl ?_ | refine q_load_ra rfl rfl rfl rfl rfl (by first | (simp; done) | (simp [setAt]; done)) rfl ?_
      refine q_mv rfl ?_
      refine q_mv rfl ?_
      refine q_mv rfl ?_
      refine q_callp ((c_impl_AddKid ks cs m k c (by omega) (by omega) (by omega)).to (y := .tup [innP [] [], .bool false]) (addR_f hg)) rfl trivial ?_
      refine q_mv rfl ?_
      refine q_ext rfl rfl ?_
      refine q_ext rfl rfl ?_
      refine q_alloc trivial ?_
      first | refine q_store rfl rfl rfl rfl rfl rfl ⟨rfl, rfl, by simp, rfl, by simp [isOne]⟩ rfl trivial ?_ | refine q_storeF rfl rfl rfl rfl rfl (by simp) trivial ?_ | refine q_store rfl rfl rfl rfl rfl rfl ⟨rfl, rfl, by simp, by simp [setAt, isCell_own, isCell_sl, isCell_int, isCell_nils], by simp [isOne]⟩ rfl trivial ?_
      refine q_mv rfl ?_
      refine rg_nil ?_
      refine VS_seq ?_
      refine VS_r0 rfl ?_
      first | refine q_load_c rfl rfl rfl ?_ | refine q_load_ra rfl rfl rfl rfl rfl (by first | (simp; done) | (simp [setAt]; done)) rfl ?_
      refine q_mv rfl ?_
      refine q_mv rfl ?_
      refine q_mv rfl ?_
      refine q_callp ((c_spec_AddKid ks cs m k c (by omega) (by omega) (by omega)).to (y := .tup [innP [] [], .bool false]) (addR_f hg)) rfl trivial ?_
      refine q_mv rfl ?_
      refine q_ext rfl rfl ?_
      refine q_ext rfl rfl ?_
      refine q_alloc trivial ?_
      first | refine q_store rfl rfl rfl rfl rfl rfl ⟨rfl, rfl, by simp, rfl, by simp [isOne]⟩ rfl trivial ?_ | refine q_storeF rfl rfl rfl rfl rfl (by simp) trivial ?_ | refine q_store rfl rfl rfl rfl rfl rfl ⟨rfl, rfl, by simp, by simp [setAt, isCell_own, isCell_sl, isCell_int, isCell_nils], by simp [isOne]⟩ rfl trivial ?_
      refine q_mv rfl ?_
      refine rg_nil ?_
      refine VS_seq ?_
      refine VS_seq ?_
      refine VS_r0 rfl ?_
      first | refine q_load_c rfl rfl rfl ?_ | refine q_load_ra rfl rfl rfl rfl rfl (by first | (simp; done) | (simp [setAt]; done)) rfl ?_
      first | refine q_load_c rfl rfl rfl ?_ | refine q_load_ra rfl rfl rfl rfl rfl (by first | (simp; done) | (simp [setAt]; done)) rfl ?_
      refine q_callp (x := .bool true) ((c_laws_equalInner _ _ _ _ (by first | omega | (simp; done) | (simp; omega)) (by first | omega | (simp; done) | (simp; omega)) (by first | omega | (simp; done) | (simp; omega)) (by first | omega | (simp; done) | (simp; omega))).eqT rfl) rfl trivial ?_
      refine q_not rfl ?_
      refine q_mv rfl ?_
      refine q_t rfl ?_
      refine q_mv rfl ?_
      refine q_t rfl ?_
      refine q_mv rfl ?_
      refine q_t rfl ?_
      refine q_beq_v false rfl rfl (rfl) ?_
      refine q_pick_f rfl rfl ?_
      refine q_mv rfl ?_
      refine q_t rfl ?_
      refine q_mv rfl ?_
      refine q_t rfl ?_
      refine q_not rfl ?_
      refine q_pick_f rfl rfl ?_
      refine rg_nil ?_
      refine VS_cond rfl (fun _ => ?_) (fun e => by cases e)
      refine VS_seq ?_
      refine VS_r0 rfl ?_
      first | refine q_load_c rfl rfl rfl ?_ | refine q_load_ra rfl rfl rfl rfl rfl (by first | (simp; done) | (simp [setAt]; done)) rfl ?_
      first | refine q_load_c rfl rfl rfl ?_ | refine q_load_ra rfl rfl rfl rfl rfl (by first | (simp; done) | (simp [setAt]; done)) rfl ?_
      refine q_callp (x := .bool true) ((c_laws_equalInner _ _ _ _ (by first | omega | (simp; done) | (simp; omega)) (by first | omega | (simp; done) | (simp; omega)) (by first | omega | (simp; done) | (simp; omega)) (by first | omega | (simp; done) | (simp; omega))).eqT rfl) rfl trivial ?_
      refine q_mv rfl ?_
      refine q_t rfl ?_
      refine q_mv rfl ?_
      refine q_t rfl ?_
      refine q_mv rfl ?_
      refine q_t rfl ?_
      refine q_beq_v true rfl rfl (rfl) ?_
      refine q_pick_t rfl rfl ?_
      refine q_mv rfl ?_
      refine rg_nil ?_
      refine VS_ret ?_
      exact Bd.now ⟨_, rfl, rfl⟩
    · skip
      have hal := add_len hg
      have hgi := (okAdd_iff.1 hg).1
      have hgo := (okAdd_iff.1 hg).2.2
      refine VS_r0 rfl ?_
      first | refine q_load_c rfl rfl rfl ?_ | refine q_load_ra rfl rfl rfl rfl rfl (by first | (simp; done) | (simp [setAt]; done)) rfl ?_
      refine q_mv rfl ?_
      refine q_mv rfl ?_
      refine q_mv rfl ?_
      refine q_callp ((c_impl_AddKid ks cs m k c (by omega) (by omega) (by omega)).to (y := .tup [innP (addA ks m k) (addB cs m c), .bool true]) (addR_t hg)) rfl trivial ?_
      refine q_mv rfl ?_
      refine q_ext rfl rfl ?_
      refine q_ext rfl rfl ?_
      refine q_alloc trivial ?_
      first | refine q_store rfl rfl rfl rfl rfl rfl ⟨rfl, rfl, by simp, rfl, by simp [isOne]⟩ rfl trivial ?_ | refine q_storeF rfl rfl rfl rfl rfl (by simp) trivial ?_ | refine q_store rfl rfl rfl rfl rfl rfl ⟨rfl, rfl, by simp, by simp [setAt, isCell_own, isCell_sl, isCell_int, isCell_nils], by simp [isOne]⟩ rfl trivial ?_
      refine q_mv rfl ?_
      refine rg_nil ?_
      refine VS_seq ?_
      refine VS_r0 rfl ?_
      first | refine q_load_c rfl rfl rfl ?_ | refine q_load_ra rfl rfl rfl rfl rfl (by first | (simp; done) | (simp [setAt]; done)) rfl ?_
      refine q_mv rfl ?_
      refine q_mv rfl ?_
      refine q_mv rfl ?_
      refine q_callp ((c_spec_AddKid ks cs m k c (by omega) (by omega) (by omega)).to (y := .tup [innP (addA ks m k) (addB cs m c), .bool true]) (addR_t hg)) rfl trivial ?_
      refine q_mv rfl ?_
      refine q_ext rfl rfl ?_
      refine q_ext rfl rfl ?_
      refine q_alloc trivial ?_
      first | refine q_store rfl rfl rfl rfl rfl rfl ⟨rfl, rfl, by simp, rfl, by simp [isOne]⟩ rfl trivial ?_ | refine q_storeF rfl rfl rfl rfl rfl (by simp) trivial ?_ | refine q_store rfl rfl rfl rfl rfl rfl ⟨rfl, rfl, by simp, by simp [setAt, isCell_own, isCell_sl, isCell_int, isCell_nils], by simp [isOne]⟩ rfl trivial ?_
      refine q_mv rfl ?_
      refine rg_nil ?_
      refine VS_seq ?_
      refine VS_seq ?_
      refine VS_r0 rfl ?_
      first | refine q_load_c rfl rfl rfl ?_ | refine q_load_ra rfl rfl rfl rfl rfl (by first | (simp; done) | (simp [setAt]; done)) rfl ?_
      first | refine q_load_c rfl rfl rfl ?_ | refine q_load_ra rfl rfl rfl rfl rfl (by first | (simp; done) | (simp [setAt]; done)) rfl ?_
      refine q_callp (x := .bool true) ((c_laws_equalInner _ _ _ _ (by first | omega | (simp; done) | (simp; omega)) (by first | omega | (simp; done) | (simp; omega)) (by first | omega | (simp; done) | (simp; omega)) (by first | omega | (simp; done) | (simp; omega))).eqT rfl) rfl trivial ?_
      refine q_not rfl ?_
      refine q_mv rfl ?_
      refine q_t rfl ?_
      refine q_mv rfl ?_
      refine q_t rfl ?_
      refine q_mv rfl ?_
      refine q_t rfl ?_
      refine q_beq_v false rfl rfl (rfl) ?_
      refine q_pick_f rfl rfl ?_
      refine q_mv rfl ?_
      refine q_t rfl ?_
      refine q_mv rfl ?_
      refine q_t rfl ?_
      refine q_not rfl ?_
      refine q_pick_f rfl rfl ?_
      refine rg_nil ?_
      refine VS_cond rfl (fun e => by cases e) (fun _ => ?_)
      refine VS_skip ?_
      refine VS_seq ?_
      refine VS_seq ?_
      refine VS_r0 rfl ?_
      refine q_mv rfl ?_
      refine rg_nil ?_
      refine VS_block ?_
      refine VS_bd (Bd.renL [0, 1] (fun i hi => by first | (exact absurd hi (Nat.not_lt_zero i)) | (have e : i = 0 := (by simp at hi; omega); subst e; rfl) | (have e : i = 0 ∨ i = 1 := (by simp at hi; omega); rcases e with rfl | rfl <;> rfl)) (by simp) [(2, .pv (.bool false)), (3, .ptr 0 0 0), (5, .pv (i64 k)), (7, .ptr 1 0 0), (11, .pv (i64 0))] ⟨rfl, rfl, rfl, rfl, rfl, trivial⟩ rfl ?_)
      refine VS_bd (Bd.keepL [(2, .pv (.bool false)), (3, .ptr 0 0 0), (5, .pv (i64 k)), (7, .ptr 1 0 0), (11, .pv (i64 0))] ⟨rfl, rfl, rfl, rfl, rfl, trivial⟩ ?_)
      refine VS_loop (fun mz E S => ∃ i : Nat, mz = ks.length - i ∧ (i ≤ ks.length) ∧ E = env [(2, .pv (.bool false)), (3, .ptr 0 0 0), (5, .pv (i64 k)), (7, .ptr 1 0 0), (11, .pv (i64 i))] ∧ S = [some ⟨25, 2, [.agg [.pv (ints (ks)), .pv (ints (cs))]]⟩, some ⟨25, 2, [.agg [.pv (ints (addA ks m k)), .pv (ints (addB cs m c))]]⟩]) ⟨_, 0, rfl, (by first | omega | (intros; omega) | simp), rfl, rfl⟩ ?_
      rintro mz _ _ ⟨i, hmeas, g0, rfl, rfl⟩
      refine VS_seq ?_
      refine VS_seq ?_
      refine VS_r0 rfl ?_
      refine q_mv rfl ?_
      first | refine q_fld_r rfl ?_ | refine q_fld_c rfl rfl ?_
      first | refine q_load_c rfl rfl rfl ?_ | refine q_load_r rfl rfl rfl rfl rfl rfl rfl ?_ | refine q_load_o rfl rfl rfl rfl rfl ?_
      first | refine q_len_m rfl ?_ | refine q_len_s rfl ?_ | refine q_len_o rfl ?_ | refine q_len_n rfl ?_ | refine q_len_x rfl ?_
      refine q_lss rfl rfl ?_
      refine rg_nil ?_
      refine VS_cond rfl (fun c2 => ?_) (fun c2 => ?_)
      · try simp at c2
        refine VS_skip ?_
        refine VS_seq ?_
        refine VS_block ?_
        refine VS_seq ?_
        refine VS_r2 _ hmix (Sub.refl _) ?_
        first | refine q_fld_r rfl ?_ | refine q_fld_c rfl rfl ?_
        first | refine q_load_c rfl rfl rfl ?_ | refine q_load_r rfl rfl rfl rfl rfl rfl rfl ?_ | refine q_load_o rfl rfl rfl rfl rfl ?_
        refine q_mv rfl ?_
        refine q_idx_m (f := fun k => i64 k) (xs := ks) (n := (i : Int)) rfl rfl (by omega) (by omega) (fun _ => rfl) ?_
        first | refine q_load_c rfl rfl rfl ?_ | refine q_load_r rfl rfl rfl rfl rfl rfl rfl ?_ | refine q_load_o rfl rfl rfl rfl rfl ?_
        refine q_mv rfl ?_
        refine q_lss rfl rfl ?_
        refine q_mv rfl ?_
        refine q_b rfl (fun g73 => ?_) (fun g73 => ?_)
        · try simp at g73
          refine q_t rfl ?_
          first | refine q_load_c rfl rfl rfl ?_ | refine q_load_ra rfl rfl rfl rfl rfl (by first | (simp; done) | (simp [setAt]; done)) rfl ?_
          refine q_t rfl ?_
          first | refine q_fld_r rfl ?_ | refine q_fld_c rfl rfl ?_
          refine q_t rfl ?_
          first | refine q_load_c rfl rfl rfl ?_ | refine q_load_r rfl rfl rfl rfl rfl rfl rfl ?_ | refine q_load_o rfl rfl rfl rfl rfl ?_
          refine q_t rfl ?_
          refine q_mv rfl ?_
          refine q_t rfl ?_
          refine q_idx_m (f := fun k => i64 k) (xs := ks) (n := (i : Int)) rfl rfl (by omega) (by omega) (fun _ => rfl) ?_
          refine q_t rfl ?_
          first | refine q_load_c rfl rfl rfl ?_ | refine q_load_r rfl rfl rfl rfl rfl rfl rfl ?_ | refine q_load_o rfl rfl rfl rfl rfl ?_
          refine q_t rfl ?_
          first | refine q_load_c rfl rfl rfl ?_ | refine q_load_ra rfl rfl rfl rfl rfl (by first | (simp; done) | (simp [setAt]; done)) rfl ?_
          refine q_t rfl ?_
          first | refine q_fld_r rfl ?_ | refine q_fld_c rfl rfl ?_
          refine q_t rfl ?_
          first | refine q_load_c rfl rfl rfl ?_ | refine q_load_r rfl rfl rfl rfl rfl rfl rfl ?_ | refine q_load_o rfl rfl rfl rfl rfl ?_
          refine q_t rfl ?_
          refine q_mv rfl ?_
          refine q_t rfl ?_
          refine q_idx_m (f := fun k => i64 k) (xs := ks) (n := (i : Int)) rfl rfl (by omega) (by omega) (fun _ => rfl) ?_
          refine q_t rfl ?_
          first | refine q_load_c rfl rfl rfl ?_ | refine q_load_r rfl rfl rfl rfl rfl rfl rfl ?_ | refine q_load_o rfl rfl rfl rfl rfl ?_
          refine q_t rfl ?_
          refine q_callp ((c_impl_RouteKey (addA ks m k) (addB cs m c) (nth ks i) (by omega) (by omega)).to (y := i64 (nth cs (upTo ks (nth ks i)))) (by rw [if_pos hgo, add_route hg (nth ks i) (by omega)])) rfl (by first | exact trivial | exact Sub.nil | exact Sub.refl _ | exact Sub.app _ _ | exact SubL.sub (by repeat (first | exact SubL.nil | apply SubL.none | apply SubL.some | apply SubL.sh | apply SubL.eq)) | (refine Sub.of_eq ?_; intro o ob h; rcases o with _ | _ | _ | _ | _ | o <;> simp_all)) ?_
          refine q_t rfl ?_
          refine q_callp ((c_impl_RouteKey (ks) (cs) (nth ks i) (by omega) (by omega)).to (y := i64 (nth cs (upTo ks (nth ks i)))) (by rw [if_pos hgi])) rfl (by first | exact trivial | exact Sub.nil | exact Sub.refl _ | exact Sub.app _ _ | exact SubL.sub (by repeat (first | exact SubL.nil | apply SubL.none | apply SubL.some | apply SubL.sh | apply SubL.eq)) | (refine Sub.of_eq ?_; intro o ob h; rcases o with _ | _ | _ | _ | _ | o <;> simp_all)) ?_
          refine q_t rfl ?_
          refine q_neq_v false rfl rfl (by simp) ?_
          refine q_pick_t rfl rfl ?_
          refine rg_nil ?_
          refine VS_cond rfl (fun e => by cases e) (fun _ => ?_)
          refine VS_skip ?_
          refine VS_r0 rfl ?_
          refine q_mv rfl ?_
          refine q_add rfl rfl (inR64 (by omega)) ?_
          refine q_mv rfl ?_
          refine rg_nil ?_
          refine Bd.keepL [(2, .pv (.bool false)), (3, .ptr 0 0 0), (5, .pv (i64 k)), (7, .ptr 1 0 0), (11, .pv (i64 (i + 1)))] ⟨rfl, rfl, rfl, rfl, rfl, trivial⟩ ⟨_, ?_, i + 1, rfl, ?_, rfl, rfl⟩
          · first | omega | assumption | rfl | (simp; omega)
          · first | omega | assumption | rfl | (simp; omega)
        · try simp at g73
          refine q_f rfl ?_
          refine q_f rfl ?_
          refine q_f rfl ?_
          refine q_f rfl ?_
          refine q_f rfl ?_
          refine q_f rfl ?_
          refine q_f rfl ?_
          refine q_f rfl ?_
          refine q_f rfl ?_
          refine q_f rfl ?_
          refine q_f rfl ?_
          refine q_f rfl ?_
          refine q_f rfl ?_
          refine q_f rfl ?_
          refine q_f rfl ?_
          refine q_pick_f rfl rfl ?_
          refine rg_nil ?_
          refine VS_cond rfl (fun e => by cases e) (fun _ => ?_)
          refine VS_skip ?_
          refine VS_r0 rfl ?_
          refine q_mv rfl ?_
          refine q_add rfl rfl (inR64 (by omega)) ?_
          refine q_mv rfl ?_
          refine rg_nil ?_
          refine Bd.keepL [(2, .pv (.bool false)), (3, .ptr 0 0 0), (5, .pv (i64 k)), (7, .ptr 1 0 0), (11, .pv (i64 (i + 1)))] ⟨rfl, rfl, rfl, rfl, rfl, trivial⟩ ⟨_, ?_, i + 1, rfl, ?_, rfl, rfl⟩
          · first | omega | assumption | rfl | (simp; omega)
          · first | omega | assumption | rfl | (simp; omega)
      · try simp at c2
        refine VS_exit ?_
        refine VS_seq ?_
        refine VS_r2 _ hmix (Sub.refl _) ?_
        first | refine q_load_c rfl rfl rfl ?_ | refine q_load_ra rfl rfl rfl rfl rfl (by first | (simp; done) | (simp [setAt]; done)) rfl ?_
        refine q_mv rfl ?_
        refine q_sub rfl rfl (inR64 (by omega)) ?_
        first | refine q_load_c rfl rfl rfl ?_ | refine q_load_ra rfl rfl rfl rfl rfl (by first | (simp; done) | (simp [setAt]; done)) rfl ?_
        refine q_mv rfl ?_
        refine q_sub rfl rfl (inR64 (by omega)) ?_
        refine q_callp ((c_impl_RouteKey (addA ks m k) (addB cs m c) (k - 1) (by omega) (by omega)).to (y := i64 (nth cs (upTo ks (k - 1)))) (by rw [if_pos hgo, add_route hg (k - 1) (by omega)])) rfl (by first | exact trivial | exact Sub.nil | exact Sub.refl _ | exact Sub.app _ _ | exact SubL.sub (by repeat (first | exact SubL.nil | apply SubL.none | apply SubL.some | apply SubL.sh | apply SubL.eq)) | (refine Sub.of_eq ?_; intro o ob h; rcases o with _ | _ | _ | _ | _ | o <;> simp_all)) ?_
        refine q_callp ((c_impl_RouteKey (ks) (cs) (k - 1) (by omega) (by omega)).to (y := i64 (nth cs (upTo ks (k - 1)))) (by rw [if_pos hgi])) rfl (by first | exact trivial | exact Sub.nil | exact Sub.refl _ | exact Sub.app _ _ | exact SubL.sub (by repeat (first | exact SubL.nil | apply SubL.none | apply SubL.some | apply SubL.sh | apply SubL.eq)) | (refine Sub.of_eq ?_; intro o ob h; rcases o with _ | _ | _ | _ | _ | o <;> simp_all)) ?_
        refine q_eql_v true rfl rfl (by simp) ?_
        refine q_mv rfl ?_
        refine rg_nil ?_
        refine VS_ret ?_
        exact Bd.now ⟨_, rfl, rfl⟩
end Go.V

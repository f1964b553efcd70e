/- A part of the proofs about laws of the page tree (see the text that bears the law): a small language of steps, its rules, and what the functions of the program return. -/
import Derived.Test.YtjbihdcdamchnaaWB
import Derived.Test.YtjbihdcdamchnaaLD
set_option linter.all false
set_option linter.unusedVariables false
set_option linter.unusedSimpArgs false
set_option maxHeartbeats 4000000
namespace Go.V
open Go.Proofs.Try (prog)
theorem c_spec_DrawDropPair (bs : List Int) (hb : isU8 bs) (hl : bs.length ≤ 1048576) : PCon prog 28 [u8s bs] (fun p => ∃ (xs : List (Int × Int)) (k : Int), p = .tup [prs xs, i64 k] ∧ (xs.length ≤ 25 ∧ bdP 2000 xs) ∧ -1000000001 ≤ k ∧ k ≤ 1000000001) := by
  refine con_of_VS sl_spec_DrawDropPair (by simp) ?_
  refine VS_seq ?_
  refine VS_r0 rfl ?_
  refine q_mv rfl ?_
  refine q_mv rfl ?_
  refine rg_nil ?_
  refine VS_seq ?_
  refine VS_r0 rfl ?_
  refine q_mv rfl ?_
  refine q_newRd rfl (c_spec_newReader _ hb hl) rfl (fun _ => trivial) ?_
  rintro bs ⟨hb, hbl⟩
  refine q_mv rfl ?_
  refine rg_nil ?_
  refine VS_seq ?_
  refine VS_r0 rfl ?_
  refine q_mv rfl ?_
  refine q_rdn rfl (c_spec_anyRow bs hb hbl _ (by omega) (by omega)) (fun _ _ => rfl) rfl rfl (fun _ _ => trivial) ?_
  rintro xs q9 ⟨⟨hx1, hx2⟩, hq1, hq2⟩
  refine q_mv rfl ?_
  refine rg_nil ?_
  refine VS_bd (Bd.pure 5 1 43 2 (xs := dP xs) rfl rfl (toPVs_dP _) ?_)
  refine VS_seq ?_
  refine VS_r0 rfl ?_
  refine q_mv rfl ?_
  refine q_mv rfl ?_
  refine q_mv rfl ?_
  refine q_callp (c_spec_keysOf xs (by omega)) rfl trivial ?_
  refine q_rd rfl (c_spec_keyNear bs hb hbl _ (by omega) (keysR xs) (by simp; omega) (hx2.keys.le (by omega)) (by omega)) rfl rfl (fun _ => trivial) ?_
  rintro _ q14 ⟨k, rfl, q_k, ⟨hq3, hq4⟩⟩
  refine q_mv rfl ?_
  refine q_mv rfl ?_
  refine rg_nil ?_
  refine VS_ret ?_
  exact Bd.now ⟨_, rfl, xs, k, rfl, ⟨hx1, hx2⟩, q_k⟩
end Go.V

set_option maxHeartbeats 4000000
namespace Go.V
open Go.Proofs.Try (prog)
theorem c_laws_equalPairs (xs ys : List (Int × Int)) (hx : xs.length ≤ 1000000000) (hy : ys.length ≤ 1000000000) : PCon prog 24 [prs xs, prs ys] (fun p => p = .bool (decide (xs = ys))) := by
  refine con_of_VS sl_laws_equalPairs (by simp) ?_
  refine VS_seq ?_
  refine VS_r0 rfl ?_
  refine q_mv rfl ?_
  refine rg_nil ?_
  refine VS_seq ?_
  refine VS_seq ?_
  refine VS_r0 rfl ?_
  refine q_mv rfl ?_
  first | refine q_len_m rfl ?_ | refine q_len_s rfl ?_ | refine q_len_o rfl ?_ | refine q_len_n rfl ?_ | refine q_len_x rfl ?_
  refine q_mv rfl ?_
  first | refine q_len_m rfl ?_ | refine q_len_s rfl ?_ | refine q_len_o rfl ?_ | refine q_len_n rfl ?_ | refine q_len_x rfl ?_
  refine q_neq rfl rfl ?_
  refine rg_nil ?_
  refine VS_cond rfl (fun c0 => ?_) (fun c0 => ?_)
  · try simp at c0
    refine VS_seq ?_
    refine VS_r0 rfl ?_
    refine q_mv rfl ?_
    refine rg_nil ?_
    refine VS_ret ?_
    refine Bd.now ⟨_, rfl, congrArg PV.bool (decide_eq_false fun e => ?_).symm⟩
    subst e; omega
  · try simp at c0
    refine VS_skip ?_
    refine VS_seq ?_
    refine VS_seq ?_
    refine VS_r0 rfl ?_
    refine q_mv rfl ?_
    refine rg_nil ?_
    refine VS_block ?_
    refine VS_bd (Bd.keepL [(0, .pv (prs xs)), (1, .pv (prs ys)), (4, .pv (.bool false)), (5, .pv (i64 0))] ⟨rfl, rfl, rfl, rfl, trivial⟩ ?_)
    refine VS_loop (fun mz E S => ∃ i : Nat, mz = xs.length - i ∧ (i ≤ xs.length) ∧ (∀ j, j < i → nth xs j = nth ys j) ∧ E = env [(0, .pv (prs xs)), (1, .pv (prs ys)), (4, .pv (.bool false)), (5, .pv (i64 i))] ∧ S = []) ⟨_, 0, rfl, (by first | omega | (intros; omega) | simp), (by first | omega | (intros; omega) | simp), rfl, rfl⟩ ?_
    rintro mz _ _ ⟨i, hmeas, g0, g1, rfl, rfl⟩
    refine VS_seq ?_
    refine VS_seq ?_
    refine VS_r0 rfl ?_
    refine q_mv rfl ?_
    refine q_mv rfl ?_
    first | refine q_len_m rfl ?_ | refine q_len_s rfl ?_ | refine q_len_o rfl ?_ | refine q_len_n rfl ?_ | refine q_len_x rfl ?_
    refine q_lss rfl rfl ?_
    refine rg_nil ?_
    refine VS_cond rfl (fun c1 => ?_) (fun c1 => ?_)
    · try simp at c1
      refine VS_skip ?_
      refine VS_seq ?_
      refine VS_block ?_
      refine VS_seq ?_
      refine VS_r1 hmix rfl ?_
      refine q_mv rfl ?_
      refine q_mv rfl ?_
      first | refine q_idx_c _ rfl rfl (by omega) (fun _ => rfl) ?_ | refine q_idx_m rfl rfl (by omega) (by omega) (fun _ => rfl) ?_ | refine q_idx_om rfl rfl (by omega) (by omega) rfl rfl ?_
      first | refine q_load_c rfl rfl rfl ?_ | refine q_load_ra rfl rfl rfl rfl rfl (by first | (simp; done) | (simp [setAt]; done)) rfl ?_
      refine q_mv rfl ?_
      refine q_mv rfl ?_
      first | refine q_idx_c _ rfl rfl (by omega) (fun _ => rfl) ?_ | refine q_idx_m rfl rfl (by omega) (by omega) (fun _ => rfl) ?_ | refine q_idx_om rfl rfl (by omega) (by omega) rfl rfl ?_
      first | refine q_load_c rfl rfl rfl ?_ | refine q_load_ra rfl rfl rfl rfl rfl (by first | (simp; done) | (simp [setAt]; done)) rfl ?_
      refine q_peq (k := .i64) (l := .i64) (k' := .i64) (l' := .i64) (a := (nth xs i).1) (b := (nth xs i).2) (a' := (nth ys i).1) (b' := (nth ys i).2) rfl rfl ⟨rfl, rfl⟩ ?_
      refine rg_nil ?_
      refine VS_cond rfl (fun c2 => ?_) (fun c2 => ?_)
      · try simp at c2
        refine VS_seq ?_
        refine VS_r0 rfl ?_
        refine q_mv rfl ?_
        refine rg_nil ?_
        refine VS_ret ?_
        refine Bd.now ⟨_, rfl, congrArg PV.bool (decide_eq_false fun e => ?_).symm⟩
        subst e; simp_all
      · try simp at c2
        refine VS_skip ?_
        refine VS_r0 rfl ?_
        refine q_mv rfl ?_
        refine q_add rfl rfl (inR64 (by omega)) ?_
        refine q_mv rfl ?_
        refine rg_nil ?_
        refine Bd.keepL [(0, .pv (prs xs)), (1, .pv (prs ys)), (4, .pv (.bool false)), (5, .pv (i64 (i + 1)))] ⟨rfl, rfl, rfl, rfl, trivial⟩ ⟨_, ?_, i + 1, rfl, ?_, ?_, rfl, rfl⟩
        · first | omega | assumption | rfl | (simp; omega)
        · first | omega | assumption | rfl | (simp; omega)
        · intro j hj
          by_cases e : j = i
          · subst e; exact Prod.ext (by simp_all) (by simp_all)
          · exact g1 j (by omega)
    · try simp at c1
      refine VS_exit ?_
      refine VS_seq ?_
      refine VS_r0 rfl ?_
      refine q_mv rfl ?_
      refine rg_nil ?_
      refine VS_ret ?_
      exact Bd.now ⟨_, rfl, congrArg PV.bool (decide_eq_true (list_ext_nth (by omega) fun j hj => g1 j (by omega))).symm⟩
end Go.V

set_option maxHeartbeats 4000000
namespace Go.V
open Go.Proofs.Try (prog)
theorem c_slices_Grow_int (n : Nat) (hn : n ≤ 1000000000) : GrowS prog 97 3 1 n := by
  refine callS_of_VS sl_slices_Grow_int (by simp) ?_
  refine VS_seq ?_
  refine VS_r0 rfl ?_
  refine q_mv rfl ?_
  refine rg_nil ?_
  refine VS_seq ?_
  refine VS_seq ?_
  refine VS_r0 rfl ?_
  refine q_mv rfl ?_
  refine q_lss_v false rfl rfl (decide_eq_false (by omega)) ?_
  refine rg_nil ?_
  refine VS_cond rfl (fun e => by cases e) (fun _ => ?_)
  refine VS_skip ?_
  refine VS_seq ?_
  refine VS_seq ?_
  refine VS_r0 rfl ?_
  refine q_mv rfl ?_
  refine q_mv rfl ?_
  first | refine q_cap rfl ?_ | refine q_cap_n rfl ?_
  refine q_mv rfl ?_
  first | refine q_len_m rfl ?_ | refine q_len_s rfl ?_ | refine q_len_o rfl ?_ | refine q_len_n rfl ?_ | refine q_len_x rfl ?_
  refine q_sub rfl rfl (inR64 (by omega)) ?_
  refine q_sub_to (n : Int) rfl rfl (by omega) (inR64 (by omega)) ?_
  refine q_mv rfl ?_
  refine rg_nil ?_
  refine VS_seq ?_
  refine VS_r0 rfl ?_
  refine q_mv rfl ?_
  refine q_gtr rfl rfl ?_
  refine rg_nil ?_
  refine VS_cond rfl (fun c1 => ?_) (fun c1 => ?_)
  · try simp at c1
    refine VS_r0 rfl ?_
    refine q_mv rfl ?_
    refine q_mv rfl ?_
    first | refine q_cap rfl ?_ | refine q_cap_n rfl ?_
    refine q_slc_nil rfl rfl rfl ?_
    refine q_mv rfl ?_
    refine q_appz_n (m := n) rfl rfl ⟨by omega, by omega, by unfold maxLen; omega⟩ ⟨trivial, ?_⟩
    refine q_mv rfl ?_
    first | refine q_len_m rfl ?_ | refine q_len_s rfl ?_ | refine q_len_o rfl ?_ | refine q_len_n rfl ?_ | refine q_len_x rfl ?_
    refine q_slc_o (m := 0) rfl rfl rfl ⟨rfl, by omega⟩ ?_
    refine q_mv rfl ?_
    refine rg_nil ?_
    refine VS_seq ?_
    refine VS_r0 rfl ?_
    refine q_mv rfl ?_
    refine q_mv rfl ?_
    refine rg_nil ?_
    refine VS_ret ?_
    first | exact Bd.cut 0 0 rfl ⟨_, rfl, .inr ⟨by omega, rfl, rfl⟩⟩ | exact Bd.now ⟨_, rfl, .inl ⟨by omega, rfl, rfl⟩⟩
  · try simp at c1
    refine VS_skip ?_
    refine VS_seq ?_
    refine VS_r0 rfl ?_
    refine q_mv rfl ?_
    refine q_mv rfl ?_
    refine rg_nil ?_
    refine VS_ret ?_
    first | exact Bd.cut 0 0 rfl ⟨_, rfl, .inr ⟨by omega, rfl, rfl⟩⟩ | exact Bd.now ⟨_, rfl, .inl ⟨by omega, rfl, rfl⟩⟩
theorem c_slices_Grow_Pair (n : Nat) (hn : n ≤ 1000000000) : GrowS prog 89 43 2 n := by
  refine callS_of_VS sl_slices_Grow_Pair (by simp) ?_
  refine VS_seq ?_
  refine VS_r0 rfl ?_
  refine q_mv rfl ?_
  refine rg_nil ?_
  refine VS_seq ?_
  refine VS_seq ?_
  refine VS_r0 rfl ?_
  refine q_mv rfl ?_
  refine q_lss_v false rfl rfl (decide_eq_false (by omega)) ?_
  refine rg_nil ?_
  refine VS_cond rfl (fun e => by cases e) (fun _ => ?_)
  refine VS_skip ?_
  refine VS_seq ?_
  refine VS_seq ?_
  refine VS_r0 rfl ?_
  refine q_mv rfl ?_
  refine q_mv rfl ?_
  first | refine q_cap rfl ?_ | refine q_cap_n rfl ?_
  refine q_mv rfl ?_
  first | refine q_len_m rfl ?_ | refine q_len_s rfl ?_ | refine q_len_o rfl ?_ | refine q_len_n rfl ?_ | refine q_len_x rfl ?_
  refine q_sub rfl rfl (inR64 (by omega)) ?_
  refine q_sub_to (n : Int) rfl rfl (by omega) (inR64 (by omega)) ?_
  refine q_mv rfl ?_
  refine rg_nil ?_
  refine VS_seq ?_
  refine VS_r0 rfl ?_
  refine q_mv rfl ?_
  refine q_gtr rfl rfl ?_
  refine rg_nil ?_
  refine VS_cond rfl (fun c1 => ?_) (fun c1 => ?_)
  · try simp at c1
    refine VS_r0 rfl ?_
    refine q_mv rfl ?_
    refine q_mv rfl ?_
    first | refine q_cap rfl ?_ | refine q_cap_n rfl ?_
    refine q_slc_nil rfl rfl rfl ?_
    refine q_mv rfl ?_
    refine q_appz_n (m := n) rfl rfl ⟨by omega, by omega, by unfold maxLen; omega⟩ ⟨trivial, ?_⟩
    refine q_mv rfl ?_
    first | refine q_len_m rfl ?_ | refine q_len_s rfl ?_ | refine q_len_o rfl ?_ | refine q_len_n rfl ?_ | refine q_len_x rfl ?_
    refine q_slc_o (m := 0) rfl rfl rfl ⟨rfl, by omega⟩ ?_
    refine q_mv rfl ?_
    refine rg_nil ?_
    refine VS_seq ?_
    refine VS_r0 rfl ?_
    refine q_mv rfl ?_
    refine q_mv rfl ?_
    refine rg_nil ?_
    refine VS_ret ?_
    first | exact Bd.cut 0 0 rfl ⟨_, rfl, .inr ⟨by omega, rfl, rfl⟩⟩ | exact Bd.now ⟨_, rfl, .inl ⟨by omega, rfl, rfl⟩⟩
  · try simp at c1
    refine VS_skip ?_
    refine VS_seq ?_
    refine VS_r0 rfl ?_
    refine q_mv rfl ?_
    refine q_mv rfl ?_
    refine rg_nil ?_
    refine VS_ret ?_
    first | exact Bd.cut 0 0 rfl ⟨_, rfl, .inr ⟨by omega, rfl, rfl⟩⟩ | exact Bd.now ⟨_, rfl, .inl ⟨by omega, rfl, rfl⟩⟩
theorem c_slices_Concat_int (xss : List (List Int)) (hn : xss.length ≤ 1000000) (hl : xss.flatten.length ≤ 100000000) : PCon prog 87 [.sl (xss.map fun xs => ints xs)] (fun p => p = ints xss.flatten) := by
  refine con_of_VS sl_slices_Concat_int (by simp) ?_
  refine VS_seq ?_
  refine VS_r0 rfl ?_
  refine q_mv rfl ?_
  refine rg_nil ?_
  refine VS_seq ?_
  refine VS_r0 rfl ?_
  refine q_mv rfl ?_
  refine rg_nil ?_
  refine VS_seq ?_
  refine VS_seq ?_
  refine VS_r0 rfl ?_
  refine q_mv rfl ?_
  first | refine q_len_m rfl ?_ | refine q_len_s rfl ?_ | refine q_len_o rfl ?_ | refine q_len_n rfl ?_ | refine q_len_x rfl ?_
  refine q_mv rfl ?_
  refine rg_nil ?_
  refine VS_block ?_
  refine VS_bd (Bd.keepL [(0, .pv (.sl (xss.map fun xs => ints xs))), (3, .pv (i64 ((xss.take 0).flatten.length : Nat))), (9, .pv (.sl (xss.map fun xs => ints xs))), (10, .pv (i64 xss.length)), (11, .pv (i64 0))] ⟨rfl, rfl, rfl, rfl, rfl, trivial⟩ ?_)
  refine VS_loop (fun mz E S => ∃ i : Nat, mz = xss.length - i ∧ (i ≤ xss.length) ∧ E = env [(0, .pv (.sl (xss.map fun xs => ints xs))), (3, .pv (i64 ((xss.take i).flatten.length : Nat))), (9, .pv (.sl (xss.map fun xs => ints xs))), (10, .pv (i64 xss.length)), (11, .pv (i64 i))] ∧ S = []) ⟨_, 0, rfl, (by first | omega | (intros; omega) | simp), rfl, rfl⟩ ?_
  rintro mz _ _ ⟨i, hmeas, g0, rfl, rfl⟩
  refine VS_seq ?_
  refine VS_r0 rfl ?_
  refine q_lss rfl rfl ?_
  refine rg_nil ?_
  refine VS_seq ?_
  refine VS_cond rfl (fun c0 => ?_) (fun c0 => ?_)
  · try simp at c0
    have hf := flat_step (xss := xss) (i := i) (by omega)
    have hf1 : (xss.take (i + 1)).flatten.length = (xss.take i).flatten.length + (nth xss i).length := by rw [hf, List.length_append]
    have hf2 := flat_le xss (i + 1)
    refine VS_skip ?_
    refine VS_seq ?_
    refine VS_block ?_
    refine VS_seq ?_
    refine VS_r0 rfl ?_
    first | refine q_idx_c _ rfl rfl (by omega) (fun _ => rfl) ?_ | refine q_idx_m rfl rfl (by omega) (by omega) (fun _ => rfl) ?_ | refine q_idx_om rfl rfl (by omega) (by omega) rfl rfl ?_
    first | refine q_load_c rfl rfl rfl ?_ | refine q_load_r rfl rfl rfl rfl rfl rfl rfl ?_ | refine q_load_o rfl rfl rfl rfl rfl ?_
    refine q_mv rfl ?_
    refine rg_nil ?_
    refine VS_seq ?_
    refine VS_r0 rfl ?_
    refine q_mv rfl ?_
    refine q_mv rfl ?_
    first | refine q_len_m rfl ?_ | refine q_len_s rfl ?_ | refine q_len_o rfl ?_ | refine q_len_n rfl ?_ | refine q_len_x rfl ?_
    refine q_add_to (((xss.take (i + 1)).flatten.length : Nat) : Int) rfl rfl (by omega) (inR64 (by omega)) ?_
    refine q_mv rfl ?_
    refine rg_nil ?_
    refine VS_seq ?_
    refine VS_r0 rfl ?_
    refine q_mv rfl ?_
    refine q_lss_v false rfl rfl (decide_eq_false (by omega)) ?_
    refine rg_nil ?_
    refine VS_cond rfl (fun e => by cases e) (fun _ => ?_)
    refine VS_skip ?_
    refine VS_r0 rfl ?_
    refine q_add rfl rfl (inR64 (by omega)) ?_
    refine q_mv rfl ?_
    refine rg_nil ?_
    refine Bd.keepL [(0, .pv (.sl (xss.map fun xs => ints xs))), (3, .pv (i64 ((xss.take (i + 1)).flatten.length : Nat))), (9, .pv (.sl (xss.map fun xs => ints xs))), (10, .pv (i64 xss.length)), (11, .pv (i64 (i + 1)))] ⟨rfl, rfl, rfl, rfl, rfl, trivial⟩ ⟨_, ?_, i + 1, rfl, ?_, rfl, rfl⟩
    · first | omega | assumption | rfl | (simp; omega)
    · first | omega | assumption | rfl | (simp; omega)
  · try simp at c0
    refine VS_exit ?_
    refine VS_seq ?_
    obtain rfl : i = xss.length := by omega
    rw [List.take_length]
    by_cases hz : xss.flatten.length = 0
    · skip
      refine VS_r0 rfl ?_
      refine q_mv rfl ?_
      refine q_grow rfl (c_slices_Grow_int xss.flatten.length (by omega)) rfl trivial trivial (fun _ => ?_) (fun h => absurd h (by omega))
      refine q_mv rfl ?_
      refine rg_nil ?_
      refine VS_seq ?_
      refine VS_seq ?_
      refine VS_r0 rfl ?_
      refine q_mv rfl ?_
      first | refine q_len_m rfl ?_ | refine q_len_s rfl ?_ | refine q_len_o rfl ?_ | refine q_len_n rfl ?_ | refine q_len_x rfl ?_
      refine q_mv rfl ?_
      refine rg_nil ?_
      refine VS_block ?_
      refine VS_bd (Bd.keepL [(6, .nils), (25, .pv (.sl (xss.map fun xs => ints xs))), (26, .pv (i64 xss.length)), (27, .pv (i64 0))] ⟨rfl, rfl, rfl, rfl, trivial⟩ ?_)
      refine VS_loop (fun mz E S => ∃ i : Nat, mz = xss.length - i ∧ (i ≤ xss.length) ∧ E = env [(6, .nils), (25, .pv (.sl (xss.map fun xs => ints xs))), (26, .pv (i64 xss.length)), (27, .pv (i64 i))] ∧ S = []) ⟨_, 0, rfl, (by first | omega | (intros; omega) | simp), rfl, rfl⟩ ?_
      rintro mz _ _ ⟨i, hmeas, g0, rfl, rfl⟩
      refine VS_seq ?_
      refine VS_r0 rfl ?_
      refine q_lss rfl rfl ?_
      refine rg_nil ?_
      refine VS_seq ?_
      refine VS_cond rfl (fun c2 => ?_) (fun c2 => ?_)
      · try simp at c2
        have hf := flat_step (xss := xss) (i := i) (by omega)
        have hf1 : (xss.take (i + 1)).flatten.length = (xss.take i).flatten.length + (nth xss i).length := by rw [hf, List.length_append]
        have hf2 := flat_le xss (i + 1)
        refine VS_skip ?_
        refine VS_seq ?_
        refine VS_block ?_
        refine VS_seq ?_
        refine VS_r0 rfl ?_
        first | refine q_idx_c _ rfl rfl (by omega) (fun _ => rfl) ?_ | refine q_idx_m rfl rfl (by omega) (by omega) (fun _ => rfl) ?_ | refine q_idx_om rfl rfl (by omega) (by omega) rfl rfl ?_
        first | refine q_load_c rfl rfl rfl ?_ | refine q_load_r rfl rfl rfl rfl rfl rfl rfl ?_ | refine q_load_o rfl rfl rfl rfl rfl ?_
        refine q_mv rfl ?_
        refine rg_nil ?_
        refine VS_r0 rfl ?_
        refine q_mv rfl ?_
        refine q_mv rfl ?_
        refine q_app_n (ys := dI (nth xss i)) rfl (elems_I _) (cell_I _) (fun _ => ⟨trivial, ?_⟩) (fun h => absurd (by have : nth xss i = [] := List.length_eq_zero_iff.1 (by omega); rw [this]; rfl) h)
        refine q_mv rfl ?_
        refine rg_nil ?_
        refine VS_r0 rfl ?_
        refine q_add rfl rfl (inR64 (by omega)) ?_
        refine q_mv rfl ?_
        refine rg_nil ?_
        refine Bd.keepL [(6, .nils), (25, .pv (.sl (xss.map fun xs => ints xs))), (26, .pv (i64 xss.length)), (27, .pv (i64 (i + 1)))] ⟨rfl, rfl, rfl, rfl, trivial⟩ ⟨_, ?_, i + 1, rfl, ?_, rfl, rfl⟩
        · first | omega | assumption | rfl | (simp; omega)
        · first | omega | assumption | rfl | (simp; omega)
      · try simp at c2
        refine VS_exit ?_
        refine VS_seq ?_
        refine VS_r0 rfl ?_
        refine q_mv rfl ?_
        refine q_mv rfl ?_
        refine rg_nil ?_
        refine VS_ret ?_
        have hfl : xss.flatten = [] := List.length_eq_zero_iff.1 hz
        exact Bd.now ⟨_, rfl, by rw [hfl]; rfl⟩
    · skip
      refine VS_r0 rfl ?_
      refine q_mv rfl ?_
      refine q_grow rfl (c_slices_Grow_int xss.flatten.length (by omega)) rfl trivial trivial (fun h => absurd h hz) (fun _ => ?_)
      refine q_mv rfl ?_
      refine rg_nil ?_
      refine VS_seq ?_
      refine VS_seq ?_
      refine VS_r0 rfl ?_
      refine q_mv rfl ?_
      first | refine q_len_m rfl ?_ | refine q_len_s rfl ?_ | refine q_len_o rfl ?_ | refine q_len_n rfl ?_ | refine q_len_x rfl ?_
      refine q_mv rfl ?_
      refine rg_nil ?_
      refine VS_block ?_
      refine VS_bd (Bd.keepL [(6, .own 0 ((([] : List Int))).length), (25, .pv (.sl (xss.map fun xs => ints xs))), (26, .pv (i64 xss.length)), (27, .pv (i64 0))] ⟨rfl, rfl, rfl, rfl, trivial⟩ ?_)
      refine VS_loop (fun mz E S => ∃ i : Nat, ∃ acc : List Int, mz = xss.length - i ∧ (i ≤ xss.length) ∧ (acc = (xss.take i).flatten) ∧ (acc.length = (xss.take i).flatten.length) ∧ E = env [(6, .own 0 (acc).length), (25, .pv (.sl (xss.map fun xs => ints xs))), (26, .pv (i64 xss.length)), (27, .pv (i64 i))] ∧ S = [some ⟨3, 1, dI acc⟩]) ⟨_, 0, ([] : List Int), rfl, (by first | omega | (intros; omega) | simp), rfl, rfl, rfl, rfl⟩ ?_
      rintro mz _ _ ⟨i, acc, hmeas, g0, g1, g2, rfl, rfl⟩
      refine VS_seq ?_
      refine VS_r0 rfl ?_
      refine q_lss rfl rfl ?_
      refine rg_nil ?_
      refine VS_seq ?_
      refine VS_cond rfl (fun c2 => ?_) (fun c2 => ?_)
      · try simp at c2
        have hf := flat_step (xss := xss) (i := i) (by omega)
        have hf1 : (xss.take (i + 1)).flatten.length = (xss.take i).flatten.length + (nth xss i).length := by rw [hf, List.length_append]
        have hf2 := flat_le xss (i + 1)
        refine VS_skip ?_
        refine VS_seq ?_
        refine VS_block ?_
        refine VS_seq ?_
        refine VS_r0 rfl ?_
        first | refine q_idx_c _ rfl rfl (by omega) (fun _ => rfl) ?_ | refine q_idx_m rfl rfl (by omega) (by omega) (fun _ => rfl) ?_ | refine q_idx_om rfl rfl (by omega) (by omega) rfl rfl ?_
        first | refine q_load_c rfl rfl rfl ?_ | refine q_load_r rfl rfl rfl rfl rfl rfl rfl ?_ | refine q_load_o rfl rfl rfl rfl rfl ?_
        refine q_mv rfl ?_
        refine rg_nil ?_
        refine VS_r0 rfl ?_
        refine q_mv rfl ?_
        refine q_mv rfl ?_
        refine q_app_om (xs := acc) (ys := nth xss i) (g := fun k => .pv (i64 k)) rfl (elems_I _) (cell_I _) rfl ⟨by omega, by unfold maxLen; omega⟩ trivial trivial ?_ ?_
        · intro hys
          refine q_mv rfl ?_
          refine rg_nil ?_
          refine VS_r0 rfl ?_
          refine q_add rfl rfl (inR64 (by omega)) ?_
          refine q_mv rfl ?_
          refine rg_nil ?_
          refine Bd.renL [0] (fun i hi => by first | (exact absurd hi (Nat.not_lt_zero i)) | (have e : i = 0 := (by simp at hi; omega); subst e; rfl) | (have e : i = 0 ∨ i = 1 := (by simp at hi; omega); rcases e with rfl | rfl <;> rfl)) (by simp) [(6, .own 0 (acc).length), (25, .pv (.sl (xss.map fun xs => ints xs))), (26, .pv (i64 xss.length)), (27, .pv (i64 (i + 1)))] ⟨rfl, rfl, rfl, rfl, trivial⟩ (l1 (mpO_I _)) ⟨_, ?_, i + 1, acc, rfl, ?_, ?_, ?_, rfl, rfl⟩
          · first | omega | assumption | rfl | (simp; omega)
          · first | omega | assumption | rfl | (simp; omega)
          · rw [hf, hys, List.append_nil]; exact g1
          · rw [hf1, hys]; simpa using g2
        · intro hys
          refine q_mv rfl ?_
          refine rg_nil ?_
          refine VS_r0 rfl ?_
          refine q_add rfl rfl (inR64 (by omega)) ?_
          refine q_mv rfl ?_
          refine rg_nil ?_
          refine Bd.renL [1] (fun i hi => by first | (exact absurd hi (Nat.not_lt_zero i)) | (have e : i = 0 := (by simp at hi; omega); subst e; rfl) | (have e : i = 0 ∨ i = 1 := (by simp at hi; omega); rcases e with rfl | rfl <;> rfl)) (by simp) [(6, .own 0 ((acc ++ nth xss i)).length), (25, .pv (.sl (xss.map fun xs => ints xs))), (26, .pv (i64 xss.length)), (27, .pv (i64 (i + 1)))] ⟨rfl, rfl, rfl, rfl, trivial⟩ (l1 (mpO_I _)) ⟨_, ?_, i + 1, acc ++ nth xss i, rfl, ?_, ?_, ?_, rfl, rfl⟩
          · first | omega | assumption | rfl | (simp; omega)
          · first | omega | assumption | rfl | (simp; omega)
          · rw [hf, g1]
          · rw [hf1, List.length_append]; omega
      · try simp at c2
        refine VS_exit ?_
        refine VS_seq ?_
        refine VS_r0 rfl ?_
        refine q_mv rfl ?_
        refine q_mv rfl ?_
        refine rg_nil ?_
        refine VS_ret ?_
        have e : i = xss.length := by omega
        subst e
        rw [List.take_length] at g1
        subst g1
        refine Bd.pureOB 2 0 rfl rfl (List.length_map ..) (toPVs_dI _) ?_
        exact Bd.now ⟨_, rfl, rfl⟩
theorem c_slices_Concat_Pair (xss : List (List (Int × Int))) (hn : xss.length ≤ 1000000) (hl : xss.flatten.length ≤ 100000000) : PCon prog 58 [.sl (xss.map fun xs => prs xs)] (fun p => p = prs xss.flatten) := by
  refine con_of_VS sl_slices_Concat_Pair (by simp) ?_
  refine VS_seq ?_
  refine VS_r0 rfl ?_
  refine q_mv rfl ?_
  refine rg_nil ?_
  refine VS_seq ?_
  refine VS_r0 rfl ?_
  refine q_mv rfl ?_
  refine rg_nil ?_
  refine VS_seq ?_
  refine VS_seq ?_
  refine VS_r0 rfl ?_
  refine q_mv rfl ?_
  first | refine q_len_m rfl ?_ | refine q_len_s rfl ?_ | refine q_len_o rfl ?_ | refine q_len_n rfl ?_ | refine q_len_x rfl ?_
  refine q_mv rfl ?_
  refine rg_nil ?_
  refine VS_block ?_
  refine VS_bd (Bd.keepL [(0, .pv (.sl (xss.map fun xs => prs xs))), (3, .pv (i64 ((xss.take 0).flatten.length : Nat))), (9, .pv (.sl (xss.map fun xs => prs xs))), (10, .pv (i64 xss.length)), (11, .pv (i64 0))] ⟨rfl, rfl, rfl, rfl, rfl, trivial⟩ ?_)
  refine VS_loop (fun mz E S => ∃ i : Nat, mz = xss.length - i ∧ (i ≤ xss.length) ∧ E = env [(0, .pv (.sl (xss.map fun xs => prs xs))), (3, .pv (i64 ((xss.take i).flatten.length : Nat))), (9, .pv (.sl (xss.map fun xs => prs xs))), (10, .pv (i64 xss.length)), (11, .pv (i64 i))] ∧ S = []) ⟨_, 0, rfl, (by first | omega | (intros; omega) | simp), rfl, rfl⟩ ?_
  rintro mz _ _ ⟨i, hmeas, g0, rfl, rfl⟩
  refine VS_seq ?_
  refine VS_r0 rfl ?_
  refine q_lss rfl rfl ?_
  refine rg_nil ?_
  refine VS_seq ?_
  refine VS_cond rfl (fun c0 => ?_) (fun c0 => ?_)
  · try simp at c0
    have hf := flat_step (xss := xss) (i := i) (by omega)
    have hf1 : (xss.take (i + 1)).flatten.length = (xss.take i).flatten.length + (nth xss i).length := by rw [hf, List.length_append]
    have hf2 := flat_le xss (i + 1)
    refine VS_skip ?_
    refine VS_seq ?_
    refine VS_block ?_
    refine VS_seq ?_
    refine VS_r0 rfl ?_
    first | refine q_idx_c _ rfl rfl (by omega) (fun _ => rfl) ?_ | refine q_idx_m rfl rfl (by omega) (by omega) (fun _ => rfl) ?_ | refine q_idx_om rfl rfl (by omega) (by omega) rfl rfl ?_
    first | refine q_load_c rfl rfl rfl ?_ | refine q_load_r rfl rfl rfl rfl rfl rfl rfl ?_ | refine q_load_o rfl rfl rfl rfl rfl ?_
    refine q_mv rfl ?_
    refine rg_nil ?_
    refine VS_seq ?_
    refine VS_r0 rfl ?_
    refine q_mv rfl ?_
    refine q_mv rfl ?_
    first | refine q_len_m rfl ?_ | refine q_len_s rfl ?_ | refine q_len_o rfl ?_ | refine q_len_n rfl ?_ | refine q_len_x rfl ?_
    refine q_add_to (((xss.take (i + 1)).flatten.length : Nat) : Int) rfl rfl (by omega) (inR64 (by omega)) ?_
    refine q_mv rfl ?_
    refine rg_nil ?_
    refine VS_seq ?_
    refine VS_r0 rfl ?_
    refine q_mv rfl ?_
    refine q_lss_v false rfl rfl (decide_eq_false (by omega)) ?_
    refine rg_nil ?_
    refine VS_cond rfl (fun e => by cases e) (fun _ => ?_)
    refine VS_skip ?_
    refine VS_r0 rfl ?_
    refine q_add rfl rfl (inR64 (by omega)) ?_
    refine q_mv rfl ?_
    refine rg_nil ?_
    refine Bd.keepL [(0, .pv (.sl (xss.map fun xs => prs xs))), (3, .pv (i64 ((xss.take (i + 1)).flatten.length : Nat))), (9, .pv (.sl (xss.map fun xs => prs xs))), (10, .pv (i64 xss.length)), (11, .pv (i64 (i + 1)))] ⟨rfl, rfl, rfl, rfl, rfl, trivial⟩ ⟨_, ?_, i + 1, rfl, ?_, rfl, rfl⟩
    · first | omega | assumption | rfl | (simp; omega)
    · first | omega | assumption | rfl | (simp; omega)
  · try simp at c0
    refine VS_exit ?_
    refine VS_seq ?_
    obtain rfl : i = xss.length := by omega
    rw [List.take_length]
    by_cases hz : xss.flatten.length = 0
    · skip
      refine VS_r0 rfl ?_
      refine q_mv rfl ?_
      refine q_grow rfl (c_slices_Grow_Pair xss.flatten.length (by omega)) rfl trivial trivial (fun _ => ?_) (fun h => absurd h (by omega))
      refine q_mv rfl ?_
      refine rg_nil ?_
      refine VS_seq ?_
      refine VS_seq ?_
      refine VS_r0 rfl ?_
      refine q_mv rfl ?_
      first | refine q_len_m rfl ?_ | refine q_len_s rfl ?_ | refine q_len_o rfl ?_ | refine q_len_n rfl ?_ | refine q_len_x rfl ?_
      refine q_mv rfl ?_
      refine rg_nil ?_
      refine VS_block ?_
      refine VS_bd (Bd.keepL [(6, .nils), (25, .pv (.sl (xss.map fun xs => prs xs))), (26, .pv (i64 xss.length)), (27, .pv (i64 0))] ⟨rfl, rfl, rfl, rfl, trivial⟩ ?_)
      refine VS_loop (fun mz E S => ∃ i : Nat, mz = xss.length - i ∧ (i ≤ xss.length) ∧ E = env [(6, .nils), (25, .pv (.sl (xss.map fun xs => prs xs))), (26, .pv (i64 xss.length)), (27, .pv (i64 i))] ∧ S = []) ⟨_, 0, rfl, (by first | omega | (intros; omega) | simp), rfl, rfl⟩ ?_
      rintro mz _ _ ⟨i, hmeas, g0, rfl, rfl⟩
      refine VS_seq ?_
      refine VS_r0 rfl ?_
      refine q_lss rfl rfl ?_
      refine rg_nil ?_
      refine VS_seq ?_
      refine VS_cond rfl (fun c2 => ?_) (fun c2 => ?_)
      · try simp at c2
        have hf := flat_step (xss := xss) (i := i) (by omega)
        have hf1 : (xss.take (i + 1)).flatten.length = (xss.take i).flatten.length + (nth xss i).length := by rw [hf, List.length_append]
        have hf2 := flat_le xss (i + 1)
        refine VS_skip ?_
        refine VS_seq ?_
        refine VS_block ?_
        refine VS_seq ?_
        refine VS_r0 rfl ?_
        first | refine q_idx_c _ rfl rfl (by omega) (fun _ => rfl) ?_ | refine q_idx_m rfl rfl (by omega) (by omega) (fun _ => rfl) ?_ | refine q_idx_om rfl rfl (by omega) (by omega) rfl rfl ?_
        first | refine q_load_c rfl rfl rfl ?_ | refine q_load_r rfl rfl rfl rfl rfl rfl rfl ?_ | refine q_load_o rfl rfl rfl rfl rfl ?_
        refine q_mv rfl ?_
        refine rg_nil ?_
        refine VS_r0 rfl ?_
        refine q_mv rfl ?_
        refine q_mv rfl ?_
        refine q_app_n (ys := dP (nth xss i)) rfl (elems_P _) (cell_P _) (fun _ => ⟨trivial, ?_⟩) (fun h => absurd (by have : nth xss i = [] := List.length_eq_zero_iff.1 (by omega); rw [this]; rfl) h)
        refine q_mv rfl ?_
        refine rg_nil ?_
        refine VS_r0 rfl ?_
        refine q_add rfl rfl (inR64 (by omega)) ?_
        refine q_mv rfl ?_
        refine rg_nil ?_
        refine Bd.keepL [(6, .nils), (25, .pv (.sl (xss.map fun xs => prs xs))), (26, .pv (i64 xss.length)), (27, .pv (i64 (i + 1)))] ⟨rfl, rfl, rfl, rfl, trivial⟩ ⟨_, ?_, i + 1, rfl, ?_, rfl, rfl⟩
        · first | omega | assumption | rfl | (simp; omega)
        · first | omega | assumption | rfl | (simp; omega)
      · try simp at c2
        refine VS_exit ?_
        refine VS_seq ?_
        refine VS_r0 rfl ?_
        refine q_mv rfl ?_
        refine q_mv rfl ?_
        refine rg_nil ?_
        refine VS_ret ?_
        have hfl : xss.flatten = [] := List.length_eq_zero_iff.1 hz
        exact Bd.now ⟨_, rfl, by rw [hfl]; rfl⟩
    · skip
      refine VS_r0 rfl ?_
      refine q_mv rfl ?_
      refine q_grow rfl (c_slices_Grow_Pair xss.flatten.length (by omega)) rfl trivial trivial (fun h => absurd h hz) (fun _ => ?_)
      refine q_mv rfl ?_
      refine rg_nil ?_
      refine VS_seq ?_
      refine VS_seq ?_
      refine VS_r0 rfl ?_
      refine q_mv rfl ?_
      first | refine q_len_m rfl ?_ | refine q_len_s rfl ?_ | refine q_len_o rfl ?_ | refine q_len_n rfl ?_ | refine q_len_x rfl ?_
      refine q_mv rfl ?_
      refine rg_nil ?_
      refine VS_block ?_
      refine VS_bd (Bd.keepL [(6, .own 0 ((([] : List (Int × Int)))).length), (25, .pv (.sl (xss.map fun xs => prs xs))), (26, .pv (i64 xss.length)), (27, .pv (i64 0))] ⟨rfl, rfl, rfl, rfl, trivial⟩ ?_)
      refine VS_loop (fun mz E S => ∃ i : Nat, ∃ acc : List (Int × Int), mz = xss.length - i ∧ (i ≤ xss.length) ∧ (acc = (xss.take i).flatten) ∧ (acc.length = (xss.take i).flatten.length) ∧ E = env [(6, .own 0 (acc).length), (25, .pv (.sl (xss.map fun xs => prs xs))), (26, .pv (i64 xss.length)), (27, .pv (i64 i))] ∧ S = [some ⟨43, 2, dP acc⟩]) ⟨_, 0, ([] : List (Int × Int)), rfl, (by first | omega | (intros; omega) | simp), rfl, rfl, rfl, rfl⟩ ?_
      rintro mz _ _ ⟨i, acc, hmeas, g0, g1, g2, rfl, rfl⟩
      refine VS_seq ?_
      refine VS_r0 rfl ?_
      refine q_lss rfl rfl ?_
      refine rg_nil ?_
      refine VS_seq ?_
      refine VS_cond rfl (fun c2 => ?_) (fun c2 => ?_)
      · try simp at c2
        have hf := flat_step (xss := xss) (i := i) (by omega)
        have hf1 : (xss.take (i + 1)).flatten.length = (xss.take i).flatten.length + (nth xss i).length := by rw [hf, List.length_append]
        have hf2 := flat_le xss (i + 1)
        refine VS_skip ?_
        refine VS_seq ?_
        refine VS_block ?_
        refine VS_seq ?_
        refine VS_r0 rfl ?_
        first | refine q_idx_c _ rfl rfl (by omega) (fun _ => rfl) ?_ | refine q_idx_m rfl rfl (by omega) (by omega) (fun _ => rfl) ?_ | refine q_idx_om rfl rfl (by omega) (by omega) rfl rfl ?_
        first | refine q_load_c rfl rfl rfl ?_ | refine q_load_r rfl rfl rfl rfl rfl rfl rfl ?_ | refine q_load_o rfl rfl rfl rfl rfl ?_
        refine q_mv rfl ?_
        refine rg_nil ?_
        refine VS_r0 rfl ?_
        refine q_mv rfl ?_
        refine q_mv rfl ?_
        refine q_app_om (xs := acc) (ys := nth xss i) (g := fun k => .pv (pairP k)) rfl (elems_P _) (cell_P _) rfl ⟨by omega, by unfold maxLen; omega⟩ trivial trivial ?_ ?_
        · intro hys
          refine q_mv rfl ?_
          refine rg_nil ?_
          refine VS_r0 rfl ?_
          refine q_add rfl rfl (inR64 (by omega)) ?_
          refine q_mv rfl ?_
          refine rg_nil ?_
          refine Bd.renL [0] (fun i hi => by first | (exact absurd hi (Nat.not_lt_zero i)) | (have e : i = 0 := (by simp at hi; omega); subst e; rfl) | (have e : i = 0 ∨ i = 1 := (by simp at hi; omega); rcases e with rfl | rfl <;> rfl)) (by simp) [(6, .own 0 (acc).length), (25, .pv (.sl (xss.map fun xs => prs xs))), (26, .pv (i64 xss.length)), (27, .pv (i64 (i + 1)))] ⟨rfl, rfl, rfl, rfl, trivial⟩ (l1 (mpO_P _)) ⟨_, ?_, i + 1, acc, rfl, ?_, ?_, ?_, rfl, rfl⟩
          · first | omega | assumption | rfl | (simp; omega)
          · first | omega | assumption | rfl | (simp; omega)
          · rw [hf, hys, List.append_nil]; exact g1
          · rw [hf1, hys]; simpa using g2
        · intro hys
          refine q_mv rfl ?_
          refine rg_nil ?_
          refine VS_r0 rfl ?_
          refine q_add rfl rfl (inR64 (by omega)) ?_
          refine q_mv rfl ?_
          refine rg_nil ?_
          refine Bd.renL [1] (fun i hi => by first | (exact absurd hi (Nat.not_lt_zero i)) | (have e : i = 0 := (by simp at hi; omega); subst e; rfl) | (have e : i = 0 ∨ i = 1 := (by simp at hi; omega); rcases e with rfl | rfl <;> rfl)) (by simp) [(6, .own 0 ((acc ++ nth xss i)).length), (25, .pv (.sl (xss.map fun xs => prs xs))), (26, .pv (i64 xss.length)), (27, .pv (i64 (i + 1)))] ⟨rfl, rfl, rfl, rfl, trivial⟩ (l1 (mpO_P _)) ⟨_, ?_, i + 1, acc ++ nth xss i, rfl, ?_, ?_, ?_, rfl, rfl⟩
          · first | omega | assumption | rfl | (simp; omega)
          · first | omega | assumption | rfl | (simp; omega)
          · rw [hf, g1]
          · rw [hf1, List.length_append]; omega
      · try simp at c2
        refine VS_exit ?_
        refine VS_seq ?_
        refine VS_r0 rfl ?_
        refine q_mv rfl ?_
        refine q_mv rfl ?_
        refine rg_nil ?_
        refine VS_ret ?_
        have e : i = xss.length := by omega
        subst e
        rw [List.take_length] at g1
        subst g1
        refine Bd.pureOB 2 0 rfl rfl (List.length_map ..) (toPVs_dP _) ?_
        exact Bd.now ⟨_, rfl, rfl⟩
end Go.V

set_option maxHeartbeats 4000000
namespace Go.V
open Go.Proofs.Try (prog)
theorem c_impl_JoinRows (xs ys : List (Int × Int)) (hx : xs.length ≤ 1000000) (hy : ys.length ≤ 1000000) : PCon prog 22 [prs xs, prs ys] (fun p => p = joinR xs ys) := by
  refine con_of_VS sl_impl_JoinRows (by simp) ?_
  refine VS_seq ?_
  refine VS_r0 rfl ?_
  refine q_mv rfl ?_
  refine q_mv rfl ?_
  refine rg_nil ?_
  refine VS_seq ?_
  refine VS_seq ?_
  refine VS_r0 rfl ?_
  refine q_mv rfl ?_
  refine q_callp (c_impl_ValidRow xs (by omega)) rfl trivial ?_
  refine q_not rfl ?_
  refine q_mv rfl ?_
  refine q_b rfl (fun g10 => ?_) (fun g10 => ?_)
  · try simp at g10
    refine q_t rfl ?_
    refine q_mv rfl ?_
    refine q_t rfl ?_
    refine q_callp (c_impl_ValidRow ys (by omega)) rfl trivial ?_
    refine q_t rfl ?_
    refine q_not rfl ?_
    refine q_pick_f rfl rfl ?_
    refine rg_nil ?_
    refine VS_cond rfl (fun c0 => ?_) (fun c0 => ?_)
    · try simp at c0
      refine VS_seq ?_
      refine VS_r0 rfl ?_
      refine q_mv rfl ?_
      refine q_mv rfl ?_
      refine rg_nil ?_
      refine VS_ret ?_
      have hj : joinOK xs ys = false := by simp_all [joinOK]
      exact Bd.now ⟨_, rfl, by rw [joinR_f hj]; rfl⟩
    · try simp at c0
      refine VS_skip ?_
      refine VS_seq ?_
      refine VS_r0 rfl ?_
      refine q_mv rfl ?_
      refine q_mv rfl ?_
      refine q_lit rfl rfl rfl rfl ?_
      refine q_callp ((c_slices_Concat_Pair [xs, ys] (by simp) (by simp; omega)).to (y := prs (xs ++ ys)) (by simp)) rfl trivial ?_
      refine q_mv rfl ?_
      refine rg_nil ?_
      refine VS_seq ?_
      refine VS_seq ?_
      refine VS_r0 rfl ?_
      refine q_mv rfl ?_
      refine q_callp (c_impl_ValidRow (xs ++ ys) (by simp; omega)) rfl trivial ?_
      refine q_not rfl ?_
      refine rg_nil ?_
      refine VS_cond rfl (fun c1 => ?_) (fun c1 => ?_)
      · try simp at c1
        refine VS_seq ?_
        refine VS_r0 rfl ?_
        refine q_mv rfl ?_
        refine q_mv rfl ?_
        refine rg_nil ?_
        refine VS_ret ?_
        have hj : joinOK xs ys = false := by simp_all [joinOK]
        exact Bd.now ⟨_, rfl, by rw [joinR_f hj]; rfl⟩
      · try simp at c1
        refine VS_skip ?_
        refine VS_seq ?_
        refine VS_r0 rfl ?_
        refine q_mv rfl ?_
        refine q_mv rfl ?_
        refine q_mv rfl ?_
        refine rg_nil ?_
        refine VS_ret ?_
        have hj : joinOK xs ys = true := by simp_all [joinOK]
        exact Bd.now ⟨_, rfl, by rw [joinR_t hj]⟩
  · try simp at g10
    refine q_f rfl ?_
    refine q_f rfl ?_
    refine q_f rfl ?_
    refine q_pick_t rfl rfl ?_
    refine rg_nil ?_
    refine VS_cond rfl (fun _ => ?_) (fun e => by cases e)
    refine VS_seq ?_
    refine VS_r0 rfl ?_
    refine q_mv rfl ?_
    refine q_mv rfl ?_
    refine rg_nil ?_
    refine VS_ret ?_
    have hj : joinOK xs ys = false := by simp_all [joinOK]
    exact Bd.now ⟨_, rfl, by rw [joinR_f hj]; rfl⟩
theorem c_spec_JoinRows (xs ys : List (Int × Int)) (hx : xs.length ≤ 1000000) (hy : ys.length ≤ 1000000) : PCon prog 23 [prs xs, prs ys] (fun p => p = joinR xs ys) := by
  refine con_of_VS sl_spec_JoinRows (by simp) ?_
  refine VS_seq ?_
  refine VS_r0 rfl ?_
  refine q_mv rfl ?_
  refine q_mv rfl ?_
  refine rg_nil ?_
  refine VS_seq ?_
  refine VS_r0 rfl ?_
  refine q_mv rfl ?_
  refine q_new rfl (c_spec_copyRow xs (by omega)) (flat_P _) (by first | rfl | (repeat' (first | exact toRs_nil | refine toRs_cons ?_ ?_ | rfl | exact toR_I rfl | exact toR_P rfl | refine toR_agg2 ?_ ?_ | refine toR_agg3 ?_ ?_ ?_))) trivial ?_
  refine q_mv rfl ?_
  refine q_app_dm (xs := xs) (ys := ys) (f := fun k => .pv (pairP k)) rfl (elems_P _) (cell_P _) rfl ⟨by omega, by omega⟩ trivial ?_
  refine q_mv rfl ?_
  refine rg_nil ?_
  refine VS_bd (Bd.pure 6 1 43 2 (xs := dP (xs ++ ys)) rfl rfl (toPVs_dP _) ?_)
  refine VS_seq ?_
  refine VS_seq ?_
  refine VS_r0 rfl ?_
  refine q_mv rfl ?_
  refine q_callp (c_spec_validRow xs (by omega)) rfl trivial ?_
  refine q_not rfl ?_
  refine q_mv rfl ?_
  refine q_b rfl (fun g14 => ?_) (fun g14 => ?_)
  · try simp at g14
    refine q_t rfl ?_
    refine q_mv rfl ?_
    refine q_t rfl ?_
    refine q_callp (c_spec_validRow ys (by omega)) rfl trivial ?_
    refine q_t rfl ?_
    refine q_not rfl ?_
    refine q_pick_f rfl rfl ?_
    refine q_mv rfl ?_
    refine q_b rfl (fun g19 => ?_) (fun g19 => ?_)
    · try simp at g19
      refine q_t rfl ?_
      refine q_mv rfl ?_
      refine q_t rfl ?_
      refine q_callp (c_spec_validRow (xs ++ ys) (by simp; omega)) rfl trivial ?_
      refine q_t rfl ?_
      refine q_not rfl ?_
      refine q_pick_f rfl rfl ?_
      refine rg_nil ?_
      refine VS_cond rfl (fun c0 => ?_) (fun c0 => ?_)
      · try simp at c0
        refine VS_seq ?_
        refine VS_r0 rfl ?_
        refine q_mv rfl ?_
        refine q_mv rfl ?_
        refine rg_nil ?_
        refine VS_ret ?_
        have hj : joinOK xs ys = false := by simp_all [joinOK]
        exact Bd.now ⟨_, rfl, by rw [joinR_f hj]; rfl⟩
      · try simp at c0
        refine VS_skip ?_
        refine VS_seq ?_
        refine VS_r0 rfl ?_
        refine q_mv rfl ?_
        refine q_mv rfl ?_
        refine q_mv rfl ?_
        refine rg_nil ?_
        refine VS_ret ?_
        have hj : joinOK xs ys = true := by simp_all [joinOK]
        exact Bd.now ⟨_, rfl, by rw [joinR_t hj]⟩
    · try simp at g19
      refine q_f rfl ?_
      refine q_f rfl ?_
      refine q_f rfl ?_
      refine q_pick_t rfl rfl ?_
      refine rg_nil ?_
      refine VS_cond rfl (fun _ => ?_) (fun e => by cases e)
      refine VS_seq ?_
      refine VS_r0 rfl ?_
      refine q_mv rfl ?_
      refine q_mv rfl ?_
      refine rg_nil ?_
      refine VS_ret ?_
      have hj : joinOK xs ys = false := by simp_all [joinOK]
      exact Bd.now ⟨_, rfl, by rw [joinR_f hj]; rfl⟩
  · try simp at g14
    refine q_f rfl ?_
    refine q_f rfl ?_
    refine q_f rfl ?_
    refine q_pick_t rfl rfl ?_
    refine q_mv rfl ?_
    refine q_f rfl ?_
    refine q_f rfl ?_
    refine q_f rfl ?_
    refine q_pick_t rfl rfl ?_
    refine rg_nil ?_
    refine VS_cond rfl (fun _ => ?_) (fun e => by cases e)
    refine VS_seq ?_
    refine VS_r0 rfl ?_
    refine q_mv rfl ?_
    refine q_mv rfl ?_
    refine rg_nil ?_
    refine VS_ret ?_
    have hj : joinOK xs ys = false := by simp_all [joinOK]
    exact Bd.now ⟨_, rfl, by rw [joinR_f hj]; rfl⟩
end Go.V

set_option maxHeartbeats 4000000
namespace Go.V
open Go.Proofs.Try (prog)
theorem c_spec_DrawJoinRows (bs : List Int) (hb : isU8 bs) (hl : bs.length ≤ 1048576) : PCon prog 21 [u8s bs] (fun p => ∃ (xs ys : List (Int × Int)), p = .tup [prs xs, prs ys] ∧ xs.length ≤ 25 ∧ ys.length ≤ 25) := by
  refine con_of_VS sl_spec_DrawJoinRows (by simp) ?_
  refine VS_seq ?_
  refine VS_r0 rfl ?_
  refine q_mv rfl ?_
  refine q_mv rfl ?_
  refine rg_nil ?_
  refine VS_seq ?_
  refine VS_r0 rfl ?_
  refine q_mv rfl ?_
  refine q_newRd rfl (c_spec_newReader _ hb hl) rfl (fun _ => trivial) ?_
  rintro bs ⟨hb, hbl⟩
  refine q_mv rfl ?_
  refine rg_nil ?_
  refine VS_seq ?_
  refine VS_r0 rfl ?_
  refine q_mv rfl ?_
  refine q_rdn rfl (c_spec_anyRow bs hb hbl _ (by omega) (by omega)) (fun _ _ => rfl) rfl rfl (fun _ _ => trivial) ?_
  rintro xs q10 ⟨⟨hx1, hx2⟩, hq1, hq2⟩
  refine q_mv rfl ?_
  refine rg_nil ?_
  refine VS_bd (Bd.pure 5 1 43 2 (xs := dP xs) rfl rfl (toPVs_dP _) ?_)
  refine VS_seq ?_
  refine VS_r0 rfl ?_
  refine q_mv rfl ?_
  refine q_mv rfl ?_
  first | refine q_len_m rfl ?_ | refine q_len_s rfl ?_ | refine q_len_o rfl ?_ | refine q_len_n rfl ?_ | refine q_len_x rfl ?_
  refine q_add rfl rfl (inR64 (by omega)) ?_
  refine q_rd rfl (c_spec_reader_pick bs hb hbl _ (by omega) (xs.length + 1) (by omega) (by omega)) rfl rfl (fun _ => trivial) ?_
  rintro _ q15 ⟨v, rfl, q_v, rfl⟩
  refine q_mv rfl ?_
  refine rg_nil ?_
  refine VS_seq ?_
  refine VS_seq ?_
  refine VS_r0 rfl ?_
  refine q_mv rfl ?_
  refine q_rd rfl (c_spec_reader_pick bs hb hbl _ (by omega) 5 (by omega) (by omega)) rfl rfl (fun _ => trivial) ?_
  rintro _ q17 ⟨u, rfl, q_u, rfl⟩
  refine q_eql rfl rfl ?_
  refine rg_nil ?_
  refine VS_cond rfl (fun c0 => ?_) (fun c0 => ?_)
  · try simp at c0
    refine VS_seq ?_
    refine VS_r0 rfl ?_
    refine q_mv rfl ?_
    refine q_mv rfl ?_
    refine q_rdn rfl (c_spec_anyRow bs hb hbl _ (by omega) (by omega)) (fun _ _ => rfl) rfl rfl (fun _ _ => trivial) ?_
    rintro ys q21 ⟨⟨hy1, hy2⟩, hq3, hq4⟩
    refine q_mv rfl ?_
    refine q_mv rfl ?_
    refine rg_nil ?_
    refine VS_ret ?_
    refine Bd.pureB 3 2 43 2 (xs := dP ys) rfl rfl (toPVs_dP _) ?_
    exact Bd.now ⟨_, rfl, xs, ys, rfl, hx1, hy1⟩
  · try simp at c0
    refine VS_skip ?_
    refine VS_seq ?_
    refine VS_r2 [] hmix Sub.nil ?_
    refine q_mv rfl ?_
    refine q_mv rfl ?_
    refine q_slc_m (xs := xs) (f := pairP) 0 v.toNat rfl rfl rfl ⟨rfl, by omega, by omega, by omega⟩ (fun _ => rfl) ?_
    refine q_mv rfl ?_
    refine q_mv rfl ?_
    refine q_slc_m (xs := xs) (f := pairP) v.toNat xs.length rfl rfl rfl ⟨by omega, by simp, by omega, by omega⟩ (fun _ => rfl) ?_
    refine q_new rfl (c_spec_copyRow ((xs.take v.toNat).drop 0) (by simp; omega)) (flat_P _) (by first | rfl | (repeat' (first | exact toRs_nil | refine toRs_cons ?_ ?_ | rfl | exact toR_I rfl | exact toR_P rfl | refine toR_agg2 ?_ ?_ | refine toR_agg3 ?_ ?_ ?_))) (by first | exact trivial | exact Sub.nil | exact Sub.refl _ | exact Sub.app _ _ | exact SubL.sub (by repeat (first | exact SubL.nil | apply SubL.none | apply SubL.some | apply SubL.sh | apply SubL.eq)) | (refine Sub.of_eq ?_; intro o ob h; rcases o with _ | _ | _ | _ | _ | o <;> simp_all)) ?_
    refine q_new rfl (c_spec_copyRow ((xs.take xs.length).drop v.toNat) (by simp; omega)) (flat_P _) (by first | rfl | (repeat' (first | exact toRs_nil | refine toRs_cons ?_ ?_ | rfl | exact toR_I rfl | exact toR_P rfl | refine toR_agg2 ?_ ?_ | refine toR_agg3 ?_ ?_ ?_))) (by first | exact trivial | exact Sub.nil | exact Sub.refl _ | exact Sub.app _ _ | exact SubL.sub (by repeat (first | exact SubL.nil | apply SubL.none | apply SubL.some | apply SubL.sh | apply SubL.eq)) | (refine Sub.of_eq ?_; intro o ob h; rcases o with _ | _ | _ | _ | _ | o <;> simp_all)) ?_
    refine q_mv rfl ?_
    refine q_mv rfl ?_
    refine rg_nil ?_
    refine VS_bd (Bd.pure 2 2 43 2 (xs := dP ((xs.take v.toNat).drop 0)) rfl rfl (toPVs_dP _) ?_)
    refine VS_bd (Bd.pure 3 3 43 2 (xs := dP ((xs.take xs.length).drop v.toNat)) rfl rfl (toPVs_dP _) ?_)
    refine VS_ret ?_
    exact Bd.now ⟨_, rfl, _, _, rfl, by simp; omega, by simp; omega⟩
end Go.V

/- A part of the proofs about laws of the page tree (see the text that bears the law): a small language of steps, its rules, and what the functions of the program return. -/
import Derived.Test.YtnnmedfjjkmbaaaWKaa
import Derived.Test.YtnnmedfjjkmbaaaLF
import Derived.Test.YtnnmedfjjkmbaaaWD
import Derived.Test.YtnnmedfjjkmbaaaLG
set_option linter.all false
set_option linter.unusedVariables false
set_option linter.unusedSimpArgs false
set_option maxHeartbeats 4000000
namespace Go.V
open Go.Proofs.Try (prog)
set_option maxRecDepth 100000
theorem sl_impl_pageCheck_filledRight : slimF prog 98 = some (81, (.seq (.reg 0 (.op ⟨some 4, none, .mv (.c (.pv (.bool false)))⟩ .nil)) (.seq (.reg 0 (.op ⟨some 8, none, .mv (.t 0)⟩ (.op ⟨some 9, none, .nilc (.t 8)⟩ (.op ⟨some 10, none, .fld 0 2 true (.t 9)⟩ (.op ⟨some 11, none, .fld 1 1 false (.t 10)⟩ (.op ⟨some 12, none, .load 1 false (.t 11)⟩ (.op ⟨some 13, none, .mv (.t 1)⟩ (.op ⟨some 14, none, .idx 3 (.t 12) (.t 13)⟩ (.op ⟨some 15, none, .load 3 true (.t 14)⟩ (.op ⟨some 5, none, .alloc 65 3 (.agg [.nils, .nils, .nils])⟩ (.op ⟨none, none, .store 3 (.t 5) (.t 15)⟩ .nil))))))))))) (.seq (.seq (.reg 0 (.op ⟨some 16, none, .fld 0 1 false (.t 5)⟩ (.op ⟨some 17, none, .load 1 false (.t 16)⟩ (.op ⟨some 18, none, .len (.t 17)⟩ (.op ⟨some 19, none, .bin .gtr (.t 18) (.c (.pv (.int .i64 4)))⟩ (.op ⟨some 20, none, .mv (.t 19)⟩ (.op ⟨some 21, some (20, false), .fld 0 1 false (.t 5)⟩ (.op ⟨some 22, some (20, false), .load 1 false (.t 21)⟩ (.op ⟨some 23, some (20, false), .call 52 [.t 22]⟩ (.op ⟨some 24, some (20, false), .not (.t 23)⟩ (.op ⟨some 25, none, .pick (.t 20) (.c (.pv (.bool true))) (.t 24)⟩ .nil))))))))))) (.cond (.t 25) (.seq (.reg 0 (.op ⟨some 4, none, .mv (.c (.pv (.bool false)))⟩ .nil)) .ret) .skip)) (.seq (.seq (.reg 0 (.op ⟨some 26, none, .mv (.t 1)⟩ (.op ⟨some 27, none, .mv (.t 0)⟩ (.op ⟨some 28, none, .nilc (.t 27)⟩ (.op ⟨some 29, none, .fld 0 2 true (.t 28)⟩ (.op ⟨some 30, none, .fld 0 1 false (.t 29)⟩ (.op ⟨some 31, none, .load 1 false (.t 30)⟩ (.op ⟨some 32, none, .bin .neq (.t 26) (.t 31)⟩ (.op ⟨some 33, none, .mv (.t 32)⟩ (.op ⟨some 34, some (33, true), .fld 0 1 false (.t 5)⟩ (.op ⟨some 35, some (33, true), .load 1 false (.t 34)⟩ (.op ⟨some 36, some (33, true), .len (.t 35)⟩ (.op ⟨some 37, some (33, true), .bin .lss (.t 36) (.c (.pv (.int .i64 2)))⟩ (.op ⟨some 38, none, .pick (.t 33) (.t 37) (.c (.pv (.bool false)))⟩ .nil)))))))))))))) (.cond (.t 38) (.seq (.reg 0 (.op ⟨some 4, none, .mv (.c (.pv (.bool false)))⟩ .nil)) .ret) .skip)) (.seq (.seq (.reg 0 (.op ⟨some 39, none, .fld 1 1 false (.t 5)⟩ (.op ⟨some 40, none, .load 1 false (.t 39)⟩ (.op ⟨some 41, none, .len (.t 40)⟩ (.op ⟨some 42, none, .bin .gtr (.t 41) (.c (.pv (.int .i64 0)))⟩ .nil))))) (.cond (.t 42) (.seq (.reg 0 (.op ⟨some 43, none, .fld 2 1 false (.t 5)⟩ (.op ⟨some 44, none, .load 1 false (.t 43)⟩ (.op ⟨some 45, none, .len (.t 44)⟩ (.op ⟨some 46, none, .bin .eql (.t 45) (.c (.pv (.int .i64 0)))⟩ (.op ⟨some 47, none, .mv (.t 46)⟩ (.op ⟨some 48, some (47, true), .fld 0 1 false (.t 5)⟩ (.op ⟨some 49, some (47, true), .load 1 false (.t 48)⟩ (.op ⟨some 50, some (47, true), .len (.t 49)⟩ (.op ⟨some 51, some (47, true), .bin .geq (.t 50) (.c (.pv (.int .i64 1)))⟩ (.op ⟨some 52, none, .pick (.t 47) (.t 51) (.c (.pv (.bool false)))⟩ (.op ⟨some 53, none, .mv (.t 52)⟩ (.op ⟨some 54, some (53, true), .fld 1 1 false (.t 5)⟩ (.op ⟨some 55, some (53, true), .load 1 false (.t 54)⟩ (.op ⟨some 56, some (53, true), .len (.t 55)⟩ (.op ⟨some 57, some (53, true), .fld 0 1 false (.t 5)⟩ (.op ⟨some 58, some (53, true), .load 1 false (.t 57)⟩ (.op ⟨some 59, some (53, true), .len (.t 58)⟩ (.op ⟨some 60, some (53, true), .bin .add (.t 59) (.c (.pv (.int .i64 1)))⟩ (.op ⟨some 61, some (53, true), .bin .eql (.t 56) (.t 60)⟩ (.op ⟨some 62, none, .pick (.t 53) (.t 61) (.c (.pv (.bool false)))⟩ (.op ⟨some 4, none, .mv (.t 62)⟩ .nil)))))))))))))))))))))) .ret) .skip)) (.seq (.seq (.reg 0 (.op ⟨some 63, none, .fld 2 1 false (.t 5)⟩ (.op ⟨some 64, none, .load 1 false (.t 63)⟩ (.op ⟨some 65, none, .len (.t 64)⟩ (.op ⟨some 66, none, .fld 0 1 false (.t 5)⟩ (.op ⟨some 67, none, .load 1 false (.t 66)⟩ (.op ⟨some 68, none, .len (.t 67)⟩ (.op ⟨some 69, none, .bin .neq (.t 65) (.t 68)⟩ .nil)))))))) (.cond (.t 69) (.seq (.reg 0 (.op ⟨some 4, none, .mv (.c (.pv (.bool false)))⟩ .nil)) .ret) .skip)) (.seq (.seq (.reg 0 (.op ⟨some 70, none, .fld 2 1 false (.t 5)⟩ (.op ⟨some 71, none, .load 1 false (.t 70)⟩ (.op ⟨some 72, none, .len (.t 71)⟩ (.op ⟨some 73, none, .mv (.c (.pv (.int .i64 0)))⟩ .nil))))) (.block 0 (.loop (.seq (.reg 0 (.op ⟨some 74, none, .bin .lss (.t 73) (.t 72)⟩ .nil)) (.seq (.cond (.t 74) .skip (.exit 0)) (.seq (.block 1 (.seq (.reg 0 (.op ⟨some 75, none, .idx 1 (.t 71) (.t 73)⟩ (.op ⟨some 76, none, .load 1 false (.t 75)⟩ (.op ⟨some 7, none, .mv (.t 76)⟩ .nil)))) (.seq (.reg 0 (.op ⟨some 77, none, .mv (.t 7)⟩ (.op ⟨some 78, none, .call 51 [.t 77]⟩ (.op ⟨some 79, none, .not (.t 78)⟩ .nil)))) (.cond (.t 79) (.seq (.reg 0 (.op ⟨some 4, none, .mv (.c (.pv (.bool false)))⟩ .nil)) .ret) .skip)))) (.reg 0 (.op ⟨some 80, none, .bin .add (.t 73) (.c (.pv (.int .i64 1)))⟩ (.op ⟨some 73, none, .mv (.t 80)⟩ .nil))))))))) (.seq (.reg 0 (.op ⟨some 4, none, .mv (.c (.pv (.bool true)))⟩ .nil)) .ret))))))), [.t 4])) := by kernel_rfl
theorem c_impl_pageCheck_filledRight (t : Pt) (hs : smallT t) (hn : t.ps.length ≤ 16) (i : Int) (seen : Nat → Bool) (ld : Int) (hi : inT t i = true) : RdO prog 98 (chk 97 t seen ld) [i64 i] (fun x ob => x = .bool (fillB t i) ∧ ob = chk 97 t seen ld) := by
  have hi2 := inT_iff.1 hi
  have hsz := hs.2 i hi2.1 hi2.2
  obtain ⟨p, hp⟩ : ∃ p, nth t.ps i.toNat = p := ⟨_, rfl⟩
  have hpp : pg t i = p := hp
  rw [hpp] at hsz
  have hf : fillB t i = fillP (decide (i = t.r)) p := by rw [fillB, hpp]
  rw [hf]
  clear hf hpp
  refine callS_of_VS sl_impl_pageCheck_filledRight (by simp) ?_
  refine VS_seq ?_
  refine VS_r0 rfl ?_
  refine q_mv rfl ?_
  refine rg_nil ?_
  refine VS_seq ?_
  refine VS_r0 rfl ?_
  refine q_mv rfl ?_
  first | refine q_nilc_r rfl ?_ | refine q_nilc_c rfl ?_
  first | refine q_fld_r rfl ?_ | refine q_fld_ca rfl (by simp) rfl ?_
  first | refine q_fld_r rfl ?_ | refine q_fld_c rfl rfl ?_
  first | refine q_load_c rfl rfl rfl ?_ | refine q_load_r rfl rfl rfl rfl rfl rfl rfl ?_ | refine q_load_o rfl rfl rfl rfl rfl ?_
  refine q_mv rfl ?_
  refine q_idx_m (f := pgP) (xs := t.ps) (n := i) rfl rfl (by omega) (by omega) (fun _ => rfl) ?_
  rw [hp]
  first | refine q_load_c rfl rfl rfl ?_ | refine q_load_ra rfl rfl rfl rfl rfl (by first | (simp; done) | (simp [setAt]; done)) rfl ?_
  refine q_alloc trivial ?_
  first | refine q_store rfl rfl rfl rfl rfl rfl ⟨rfl, rfl, by simp, rfl, by simp [isOne]⟩ rfl trivial ?_ | refine q_storeF rfl rfl rfl rfl rfl (by first | (simp; done) | (simp [setAt]; done)) trivial ?_ | refine q_store rfl rfl rfl rfl rfl rfl ⟨rfl, rfl, by simp, by simp [setAt, isCell_own, isCell_sl, isCell_int, isCell_nils], by simp [isOne]⟩ rfl trivial ?_
  refine rg_nil ?_
  refine VS_seq ?_
  refine VS_seq ?_
  refine VS_r0 rfl ?_
  first | refine q_fld_r rfl ?_ | refine q_fld_c rfl rfl ?_
  first | refine q_load_c rfl rfl rfl ?_ | refine q_load_r rfl rfl rfl rfl rfl rfl rfl ?_ | refine q_load_o rfl rfl rfl rfl rfl ?_
  first | refine q_len_m rfl ?_ | refine q_len_s rfl ?_ | refine q_len_o rfl ?_ | refine q_len_n rfl ?_ | refine q_len_x rfl ?_
  refine q_gtr rfl rfl ?_
  refine q_mv rfl ?_
  refine q_b rfl (fun g20 => ?_) (fun g20 => ?_)
  · try simp at g20
    refine q_t rfl ?_
    first | refine q_fld_r rfl ?_ | refine q_fld_c rfl rfl ?_
    refine q_t rfl ?_
    first | refine q_load_c rfl rfl rfl ?_ | refine q_load_r rfl rfl rfl rfl rfl rfl rfl ?_ | refine q_load_o rfl rfl rfl rfl rfl ?_
    refine q_t rfl ?_
    refine q_callp (c_impl_ValidKeys p.ks (by omega)) rfl trivial ?_
    refine q_t rfl ?_
    refine q_not rfl ?_
    refine q_pick_f rfl rfl ?_
    refine rg_nil ?_
    refine VS_cond rfl (fun c0 => ?_) (fun c0 => ?_)
    · try simp at c0
      refine VS_seq ?_
      refine VS_r0 rfl ?_
      refine q_mv rfl ?_
      refine rg_nil ?_
      refine VS_ret ?_
      refine Bd.now ⟨_, rfl, _, _, _, rfl, ⟨congrArg PV.bool ?_, rfl⟩, rfl⟩
      first | (simp [fillP, inB, lfB, *]; done) | (simp_all [fillP, inB, lfB]; done) | (simp_all [fillP, inB, lfB]; omega)
    · try simp at c0
      refine VS_skip ?_
      refine VS_seq ?_
      refine VS_seq ?_
      refine VS_r0 rfl ?_
      refine q_mv rfl ?_
      refine q_mv rfl ?_
      first | refine q_nilc_r rfl ?_ | refine q_nilc_c rfl ?_
      first | refine q_fld_r rfl ?_ | refine q_fld_ca rfl (by simp) rfl ?_
      first | refine q_fld_r rfl ?_ | refine q_fld_c rfl rfl ?_
      first | refine q_load_c rfl rfl rfl ?_ | refine q_load_r rfl rfl rfl rfl rfl rfl rfl ?_ | refine q_load_o rfl rfl rfl rfl rfl ?_
      refine q_neq rfl rfl ?_
      refine q_mv rfl ?_
      refine q_b rfl (fun g33 => ?_) (fun g33 => ?_)
      · try simp at g33
        refine q_t rfl ?_
        first | refine q_fld_r rfl ?_ | refine q_fld_c rfl rfl ?_
        refine q_t rfl ?_
        first | refine q_load_c rfl rfl rfl ?_ | refine q_load_r rfl rfl rfl rfl rfl rfl rfl ?_ | refine q_load_o rfl rfl rfl rfl rfl ?_
        refine q_t rfl ?_
        first | refine q_len_m rfl ?_ | refine q_len_s rfl ?_ | refine q_len_o rfl ?_ | refine q_len_n rfl ?_ | refine q_len_x rfl ?_
        refine q_t rfl ?_
        refine q_lss rfl rfl ?_
        refine q_pick_t rfl rfl ?_
        refine rg_nil ?_
        refine VS_cond rfl (fun c1 => ?_) (fun c1 => ?_)
        · try simp at c1
          refine VS_seq ?_
          refine VS_r0 rfl ?_
          refine q_mv rfl ?_
          refine rg_nil ?_
          refine VS_ret ?_
          refine Bd.now ⟨_, rfl, _, _, _, rfl, ⟨congrArg PV.bool ?_, rfl⟩, rfl⟩
          first | (simp [fillP, inB, lfB, *]; done) | (simp_all [fillP, inB, lfB]; done) | (simp_all [fillP, inB, lfB]; omega)
        · try simp at c1
          refine VS_skip ?_
          refine VS_seq ?_
          refine VS_seq ?_
          refine VS_r0 rfl ?_
          first | refine q_fld_r rfl ?_ | refine q_fld_c rfl rfl ?_
          first | refine q_load_c rfl rfl rfl ?_ | refine q_load_r rfl rfl rfl rfl rfl rfl rfl ?_ | refine q_load_o rfl rfl rfl rfl rfl ?_
          first | refine q_len_m rfl ?_ | refine q_len_s rfl ?_ | refine q_len_o rfl ?_ | refine q_len_n rfl ?_ | refine q_len_x rfl ?_
          refine q_gtr rfl rfl ?_
          refine rg_nil ?_
          refine VS_cond rfl (fun c2 => ?_) (fun c2 => ?_)
          · try simp at c2
            refine VS_seq ?_
            refine VS_r0 rfl ?_
            first | refine q_fld_r rfl ?_ | refine q_fld_c rfl rfl ?_
            first | refine q_load_c rfl rfl rfl ?_ | refine q_load_r rfl rfl rfl rfl rfl rfl rfl ?_ | refine q_load_o rfl rfl rfl rfl rfl ?_
            first | refine q_len_m rfl ?_ | refine q_len_s rfl ?_ | refine q_len_o rfl ?_ | refine q_len_n rfl ?_ | refine q_len_x rfl ?_
            refine q_eql rfl rfl ?_
            refine q_mv rfl ?_
            refine q_b rfl (fun g47 => ?_) (fun g47 => ?_)
            · try simp at g47
              refine q_t rfl ?_
              first | refine q_fld_r rfl ?_ | refine q_fld_c rfl rfl ?_
              refine q_t rfl ?_
              first | refine q_load_c rfl rfl rfl ?_ | refine q_load_r rfl rfl rfl rfl rfl rfl rfl ?_ | refine q_load_o rfl rfl rfl rfl rfl ?_
              refine q_t rfl ?_
              first | refine q_len_m rfl ?_ | refine q_len_s rfl ?_ | refine q_len_o rfl ?_ | refine q_len_n rfl ?_ | refine q_len_x rfl ?_
              refine q_t rfl ?_
              refine q_geq rfl rfl ?_
              refine q_pick_t rfl rfl ?_
              refine q_mv rfl ?_
              refine q_b rfl (fun g53 => ?_) (fun g53 => ?_)
              · try simp at g53
                refine q_t rfl ?_
                first | refine q_fld_r rfl ?_ | refine q_fld_c rfl rfl ?_
                refine q_t rfl ?_
                first | refine q_load_c rfl rfl rfl ?_ | refine q_load_r rfl rfl rfl rfl rfl rfl rfl ?_ | refine q_load_o rfl rfl rfl rfl rfl ?_
                refine q_t rfl ?_
                first | refine q_len_m rfl ?_ | refine q_len_s rfl ?_ | refine q_len_o rfl ?_ | refine q_len_n rfl ?_ | refine q_len_x rfl ?_
                refine q_t rfl ?_
                first | refine q_fld_r rfl ?_ | refine q_fld_c rfl rfl ?_
                refine q_t rfl ?_
                first | refine q_load_c rfl rfl rfl ?_ | refine q_load_r rfl rfl rfl rfl rfl rfl rfl ?_ | refine q_load_o rfl rfl rfl rfl rfl ?_
                refine q_t rfl ?_
                first | refine q_len_m rfl ?_ | refine q_len_s rfl ?_ | refine q_len_o rfl ?_ | refine q_len_n rfl ?_ | refine q_len_x rfl ?_
                refine q_t rfl ?_
                refine q_add rfl rfl (inR64 (by omega)) ?_
                refine q_t rfl ?_
                refine q_eql rfl rfl ?_
                refine q_pick_t rfl rfl ?_
                refine q_mv rfl ?_
                refine rg_nil ?_
                refine VS_ret ?_
                refine Bd.now ⟨_, rfl, _, _, _, rfl, ⟨congrArg PV.bool ?_, rfl⟩, rfl⟩
                have hne : ¬ p.cs.length = 0 := by first | omega | simp_all
                simp only [fillP, if_neg hne, inB]
                rw [Bool.eq_iff_iff]
                first | (simp [*]; done) | (simp [*]; omega) | (simp [*]; intros; omega)
              · try simp at g53
                refine q_f rfl ?_
                refine q_f rfl ?_
                refine q_f rfl ?_
                refine q_f rfl ?_
                refine q_f rfl ?_
                refine q_f rfl ?_
                refine q_f rfl ?_
                refine q_f rfl ?_
                refine q_pick_f rfl rfl ?_
                refine q_mv rfl ?_
                refine rg_nil ?_
                refine VS_ret ?_
                refine Bd.now ⟨_, rfl, _, _, _, rfl, ⟨congrArg PV.bool ?_, rfl⟩, rfl⟩
                have hne : ¬ p.cs.length = 0 := by first | omega | simp_all
                simp only [fillP, if_neg hne, inB]
                rw [Bool.eq_iff_iff]
                first | (simp [*]; done) | (simp [*]; omega) | (simp [*]; intros; omega)
            · try simp at g47
              refine q_f rfl ?_
              refine q_f rfl ?_
              refine q_f rfl ?_
              refine q_f rfl ?_
              refine q_pick_f rfl rfl ?_
              refine q_mv rfl ?_
              refine q_f rfl ?_
              refine q_f rfl ?_
              refine q_f rfl ?_
              refine q_f rfl ?_
              refine q_f rfl ?_
              refine q_f rfl ?_
              refine q_f rfl ?_
              refine q_f rfl ?_
              refine q_pick_f rfl rfl ?_
              refine q_mv rfl ?_
              refine rg_nil ?_
              refine VS_ret ?_
              refine Bd.now ⟨_, rfl, _, _, _, rfl, ⟨congrArg PV.bool ?_, rfl⟩, rfl⟩
              have hne : ¬ p.cs.length = 0 := by first | omega | simp_all
              simp only [fillP, if_neg hne, inB]
              rw [Bool.eq_iff_iff]
              first | (simp [*]; done) | (simp [*]; omega) | (simp [*]; intros; omega)
          · try simp at c2
            refine VS_skip ?_
            refine VS_seq ?_
            refine VS_seq ?_
            refine VS_r0 rfl ?_
            first | refine q_fld_r rfl ?_ | refine q_fld_c rfl rfl ?_
            first | refine q_load_c rfl rfl rfl ?_ | refine q_load_r rfl rfl rfl rfl rfl rfl rfl ?_ | refine q_load_o rfl rfl rfl rfl rfl ?_
            first | refine q_len_m rfl ?_ | refine q_len_s rfl ?_ | refine q_len_o rfl ?_ | refine q_len_n rfl ?_ | refine q_len_x rfl ?_
            first | refine q_fld_r rfl ?_ | refine q_fld_c rfl rfl ?_
            first | refine q_load_c rfl rfl rfl ?_ | refine q_load_r rfl rfl rfl rfl rfl rfl rfl ?_ | refine q_load_o rfl rfl rfl rfl rfl ?_
            first | refine q_len_m rfl ?_ | refine q_len_s rfl ?_ | refine q_len_o rfl ?_ | refine q_len_n rfl ?_ | refine q_len_x rfl ?_
            refine q_neq rfl rfl ?_
            refine rg_nil ?_
            refine VS_cond rfl (fun c3 => ?_) (fun c3 => ?_)
            · try simp at c3
              refine VS_seq ?_
              refine VS_r0 rfl ?_
              refine q_mv rfl ?_
              refine rg_nil ?_
              refine VS_ret ?_
              refine Bd.now ⟨_, rfl, _, _, _, rfl, ⟨congrArg PV.bool ?_, rfl⟩, rfl⟩
              first | (simp [fillP, inB, lfB, *]; done) | (simp_all [fillP, inB, lfB]; done) | (simp_all [fillP, inB, lfB]; omega)
            · try simp at c3
              refine VS_skip ?_
              refine VS_seq ?_
              refine VS_seq ?_
              refine VS_r0 rfl ?_
              first | refine q_fld_r rfl ?_ | refine q_fld_c rfl rfl ?_
              first | refine q_load_c rfl rfl rfl ?_ | refine q_load_r rfl rfl rfl rfl rfl rfl rfl ?_ | refine q_load_o rfl rfl rfl rfl rfl ?_
              first | refine q_len_m rfl ?_ | refine q_len_s rfl ?_ | refine q_len_o rfl ?_ | refine q_len_n rfl ?_ | refine q_len_x rfl ?_
              refine q_mv rfl ?_
              refine rg_nil ?_
              refine VS_block ?_
              refine VS_bd (Bd.keepL [(1, .pv (i64 i)), (4, .pv (.bool false)), (71, .pv (ints p.vs)), (72, .pv (i64 p.vs.length)), (73, .pv (i64 0))] ⟨rfl, rfl, rfl, rfl, rfl, trivial⟩ ?_)
              refine VS_loop (fun mz E S => ∃ j : Nat, mz = p.vs.length - j ∧ (j ≤ p.vs.length) ∧ (∀ m, m < j → (decide (-1000 ≤ nth p.vs m) && decide (nth p.vs m ≤ 1000)) = true) ∧ E = env [(1, .pv (i64 i)), (4, .pv (.bool false)), (71, .pv (ints p.vs)), (72, .pv (i64 p.vs.length)), (73, .pv (i64 j))] ∧ S = [some (chk 97 t seen ld), some ⟨65, 3, [.agg [.pv (ints p.ks), .pv (ints p.cs), .pv (ints p.vs)]]⟩]) ⟨_, 0, rfl, (by first | omega | (intros; omega) | simp), (by first | omega | (intros; omega) | simp), rfl, rfl⟩ ?_
              rintro mz _ _ ⟨j, hmeas, g0, g1, rfl, rfl⟩
              refine VS_seq ?_
              refine VS_r0 rfl ?_
              refine q_lss rfl rfl ?_
              refine rg_nil ?_
              refine VS_seq ?_
              refine VS_cond rfl (fun c4 => ?_) (fun c4 => ?_)
              · try simp at c4
                refine VS_skip ?_
                refine VS_seq ?_
                refine VS_block ?_
                refine VS_seq ?_
                refine VS_r0 rfl ?_
                first | refine q_idx_c _ rfl rfl (by omega) (fun _ => rfl) ?_ | refine q_idx_m rfl rfl (by omega) (by omega) (fun _ => rfl) ?_ | refine q_idx_om rfl rfl (by omega) (by omega) rfl rfl ?_
                first | refine q_load_c rfl rfl rfl ?_ | refine q_load_r rfl rfl rfl rfl rfl rfl rfl ?_ | refine q_load_o rfl rfl rfl rfl rfl ?_
                refine q_mv rfl ?_
                refine rg_nil ?_
                refine VS_seq ?_
                refine VS_r0 rfl ?_
                refine q_mv rfl ?_
                refine q_callp (c_impl_isValue _) rfl trivial ?_
                refine q_not rfl ?_
                refine rg_nil ?_
                refine VS_cond rfl (fun c5 => ?_) (fun c5 => ?_)
                · try simp at c5
                  refine VS_seq ?_
                  refine VS_r0 rfl ?_
                  refine q_mv rfl ?_
                  refine rg_nil ?_
                  refine VS_ret ?_
                  refine Bd.now ⟨_, rfl, _, _, _, rfl, ⟨congrArg PV.bool ?_, rfl⟩, rfl⟩
                  have hall : p.vs.all (fun v => decide (-1000 ≤ v) && decide (v ≤ 1000)) = false := all_false j (by omega) (by simp; omega)
                  simp [fillP, lfB, hall, *]
                · try simp at c5
                  refine VS_skip ?_
                  refine VS_r0 rfl ?_
                  refine q_add rfl rfl (inR64 (by omega)) ?_
                  refine q_mv rfl ?_
                  refine rg_nil ?_
                  refine Bd.keepL [(1, .pv (i64 i)), (4, .pv (.bool false)), (71, .pv (ints p.vs)), (72, .pv (i64 p.vs.length)), (73, .pv (i64 (j + 1)))] ⟨rfl, rfl, rfl, rfl, rfl, trivial⟩ ⟨_, ?_, j + 1, rfl, ?_, ?_, rfl, rfl⟩
                  · first | omega | assumption | rfl | (simp; omega)
                  · first | omega | assumption | rfl | (simp; omega)
                  · intro m hm
                    by_cases e : m = j
                    · subst e; simpa using c5
                    · exact g1 m (by omega)
              · try simp at c4
                refine VS_exit ?_
                refine VS_seq ?_
                refine VS_r0 rfl ?_
                refine q_mv rfl ?_
                refine rg_nil ?_
                refine VS_ret ?_
                refine Bd.now ⟨_, rfl, _, _, _, rfl, ⟨congrArg PV.bool ?_, rfl⟩, rfl⟩
                have hall : p.vs.all (fun v => decide (-1000 ≤ v) && decide (v ≤ 1000)) = true := all_true fun m hm => g1 m (by omega)
                first | (simp [fillP, lfB, hall, *]; done) | (simp [fillP, lfB, hall]; simp_all; try omega)
      · try simp at g33
        refine q_f rfl ?_
        refine q_f rfl ?_
        refine q_f rfl ?_
        refine q_f rfl ?_
        refine q_pick_f rfl rfl ?_
        refine rg_nil ?_
        refine VS_cond rfl (fun e => by cases e) (fun _ => ?_)
        refine VS_skip ?_
        refine VS_seq ?_
        refine VS_seq ?_
        refine VS_r0 rfl ?_
        first | refine q_fld_r rfl ?_ | refine q_fld_c rfl rfl ?_
        first | refine q_load_c rfl rfl rfl ?_ | refine q_load_r rfl rfl rfl rfl rfl rfl rfl ?_ | refine q_load_o rfl rfl rfl rfl rfl ?_
        first | refine q_len_m rfl ?_ | refine q_len_s rfl ?_ | refine q_len_o rfl ?_ | refine q_len_n rfl ?_ | refine q_len_x rfl ?_
        refine q_gtr rfl rfl ?_
        refine rg_nil ?_
        refine VS_cond rfl (fun c2 => ?_) (fun c2 => ?_)
        · try simp at c2
          refine VS_seq ?_
          refine VS_r0 rfl ?_
          first | refine q_fld_r rfl ?_ | refine q_fld_c rfl rfl ?_
          first | refine q_load_c rfl rfl rfl ?_ | refine q_load_r rfl rfl rfl rfl rfl rfl rfl ?_ | refine q_load_o rfl rfl rfl rfl rfl ?_
          first | refine q_len_m rfl ?_ | refine q_len_s rfl ?_ | refine q_len_o rfl ?_ | refine q_len_n rfl ?_ | refine q_len_x rfl ?_
          refine q_eql rfl rfl ?_
          refine q_mv rfl ?_
          refine q_b rfl (fun g47 => ?_) (fun g47 => ?_)
          · try simp at g47
            refine q_t rfl ?_
            first | refine q_fld_r rfl ?_ | refine q_fld_c rfl rfl ?_
            refine q_t rfl ?_
            first | refine q_load_c rfl rfl rfl ?_ | refine q_load_r rfl rfl rfl rfl rfl rfl rfl ?_ | refine q_load_o rfl rfl rfl rfl rfl ?_
            refine q_t rfl ?_
            first | refine q_len_m rfl ?_ | refine q_len_s rfl ?_ | refine q_len_o rfl ?_ | refine q_len_n rfl ?_ | refine q_len_x rfl ?_
            refine q_t rfl ?_
            refine q_geq rfl rfl ?_
            refine q_pick_t rfl rfl ?_
            refine q_mv rfl ?_
            refine q_b rfl (fun g53 => ?_) (fun g53 => ?_)
            · try simp at g53
              refine q_t rfl ?_
              first | refine q_fld_r rfl ?_ | refine q_fld_c rfl rfl ?_
              refine q_t rfl ?_
              first | refine q_load_c rfl rfl rfl ?_ | refine q_load_r rfl rfl rfl rfl rfl rfl rfl ?_ | refine q_load_o rfl rfl rfl rfl rfl ?_
              refine q_t rfl ?_
              first | refine q_len_m rfl ?_ | refine q_len_s rfl ?_ | refine q_len_o rfl ?_ | refine q_len_n rfl ?_ | refine q_len_x rfl ?_
              refine q_t rfl ?_
              first | refine q_fld_r rfl ?_ | refine q_fld_c rfl rfl ?_
              refine q_t rfl ?_
              first | refine q_load_c rfl rfl rfl ?_ | refine q_load_r rfl rfl rfl rfl rfl rfl rfl ?_ | refine q_load_o rfl rfl rfl rfl rfl ?_
              refine q_t rfl ?_
              first | refine q_len_m rfl ?_ | refine q_len_s rfl ?_ | refine q_len_o rfl ?_ | refine q_len_n rfl ?_ | refine q_len_x rfl ?_
              refine q_t rfl ?_
              refine q_add rfl rfl (inR64 (by omega)) ?_
              refine q_t rfl ?_
              refine q_eql rfl rfl ?_
              refine q_pick_t rfl rfl ?_
              refine q_mv rfl ?_
              refine rg_nil ?_
              refine VS_ret ?_
              refine Bd.now ⟨_, rfl, _, _, _, rfl, ⟨congrArg PV.bool ?_, rfl⟩, rfl⟩
              have hne : ¬ p.cs.length = 0 := by first | omega | simp_all
              simp only [fillP, if_neg hne, inB]
              rw [Bool.eq_iff_iff]
              first | (simp [*]; done) | (simp [*]; omega) | (simp [*]; intros; omega)
            · try simp at g53
              refine q_f rfl ?_
              refine q_f rfl ?_
              refine q_f rfl ?_
              refine q_f rfl ?_
              refine q_f rfl ?_
              refine q_f rfl ?_
              refine q_f rfl ?_
              refine q_f rfl ?_
              refine q_pick_f rfl rfl ?_
              refine q_mv rfl ?_
              refine rg_nil ?_
              refine VS_ret ?_
              refine Bd.now ⟨_, rfl, _, _, _, rfl, ⟨congrArg PV.bool ?_, rfl⟩, rfl⟩
              have hne : ¬ p.cs.length = 0 := by first | omega | simp_all
              simp only [fillP, if_neg hne, inB]
              rw [Bool.eq_iff_iff]
              first | (simp [*]; done) | (simp [*]; omega) | (simp [*]; intros; omega)
          · try simp at g47
            refine q_f rfl ?_
            refine q_f rfl ?_
            refine q_f rfl ?_
            refine q_f rfl ?_
            refine q_pick_f rfl rfl ?_
            refine q_mv rfl ?_
            refine q_f rfl ?_
            refine q_f rfl ?_
            refine q_f rfl ?_
            refine q_f rfl ?_
            refine q_f rfl ?_
            refine q_f rfl ?_
            refine q_f rfl ?_
            refine q_f rfl ?_
            refine q_pick_f rfl rfl ?_
            refine q_mv rfl ?_
            refine rg_nil ?_
            refine VS_ret ?_
            refine Bd.now ⟨_, rfl, _, _, _, rfl, ⟨congrArg PV.bool ?_, rfl⟩, rfl⟩
            have hne : ¬ p.cs.length = 0 := by first | omega | simp_all
            simp only [fillP, if_neg hne, inB]
            rw [Bool.eq_iff_iff]
            first | (simp [*]; done) | (simp [*]; omega) | (simp [*]; intros; omega)
        · try simp at c2
          refine VS_skip ?_
          refine VS_seq ?_
          refine VS_seq ?_
          refine VS_r0 rfl ?_
          first | refine q_fld_r rfl ?_ | refine q_fld_c rfl rfl ?_
          first | refine q_load_c rfl rfl rfl ?_ | refine q_load_r rfl rfl rfl rfl rfl rfl rfl ?_ | refine q_load_o rfl rfl rfl rfl rfl ?_
          first | refine q_len_m rfl ?_ | refine q_len_s rfl ?_ | refine q_len_o rfl ?_ | refine q_len_n rfl ?_ | refine q_len_x rfl ?_
          first | refine q_fld_r rfl ?_ | refine q_fld_c rfl rfl ?_
          first | refine q_load_c rfl rfl rfl ?_ | refine q_load_r rfl rfl rfl rfl rfl rfl rfl ?_ | refine q_load_o rfl rfl rfl rfl rfl ?_
          first | refine q_len_m rfl ?_ | refine q_len_s rfl ?_ | refine q_len_o rfl ?_ | refine q_len_n rfl ?_ | refine q_len_x rfl ?_
          refine q_neq rfl rfl ?_
          refine rg_nil ?_
          refine VS_cond rfl (fun c3 => ?_) (fun c3 => ?_)
          · try simp at c3
            refine VS_seq ?_
            refine VS_r0 rfl ?_
            refine q_mv rfl ?_
            refine rg_nil ?_
            refine VS_ret ?_
            refine Bd.now ⟨_, rfl, _, _, _, rfl, ⟨congrArg PV.bool ?_, rfl⟩, rfl⟩
            first | (simp [fillP, inB, lfB, *]; done) | (simp_all [fillP, inB, lfB]; done) | (simp_all [fillP, inB, lfB]; omega)
          · try simp at c3
            refine VS_skip ?_
            refine VS_seq ?_
            refine VS_seq ?_
            refine VS_r0 rfl ?_
            first | refine q_fld_r rfl ?_ | refine q_fld_c rfl rfl ?_
            first | refine q_load_c rfl rfl rfl ?_ | refine q_load_r rfl rfl rfl rfl rfl rfl rfl ?_ | refine q_load_o rfl rfl rfl rfl rfl ?_
            first | refine q_len_m rfl ?_ | refine q_len_s rfl ?_ | refine q_len_o rfl ?_ | refine q_len_n rfl ?_ | refine q_len_x rfl ?_
            refine q_mv rfl ?_
            refine rg_nil ?_
            refine VS_block ?_
            refine VS_bd (Bd.keepL [(1, .pv (i64 i)), (4, .pv (.bool false)), (71, .pv (ints p.vs)), (72, .pv (i64 p.vs.length)), (73, .pv (i64 0))] ⟨rfl, rfl, rfl, rfl, rfl, trivial⟩ ?_)
            refine VS_loop (fun mz E S => ∃ j : Nat, mz = p.vs.length - j ∧ (j ≤ p.vs.length) ∧ (∀ m, m < j → (decide (-1000 ≤ nth p.vs m) && decide (nth p.vs m ≤ 1000)) = true) ∧ E = env [(1, .pv (i64 i)), (4, .pv (.bool false)), (71, .pv (ints p.vs)), (72, .pv (i64 p.vs.length)), (73, .pv (i64 j))] ∧ S = [some (chk 97 t seen ld), some ⟨65, 3, [.agg [.pv (ints p.ks), .pv (ints p.cs), .pv (ints p.vs)]]⟩]) ⟨_, 0, rfl, (by first | omega | (intros; omega) | simp), (by first | omega | (intros; omega) | simp), rfl, rfl⟩ ?_
            rintro mz _ _ ⟨j, hmeas, g0, g1, rfl, rfl⟩
            refine VS_seq ?_
            refine VS_r0 rfl ?_
            refine q_lss rfl rfl ?_
            refine rg_nil ?_
            refine VS_seq ?_
            refine VS_cond rfl (fun c4 => ?_) (fun c4 => ?_)
            · try simp at c4
              refine VS_skip ?_
              refine VS_seq ?_
              refine VS_block ?_
              refine VS_seq ?_
              refine VS_r0 rfl ?_
              first | refine q_idx_c _ rfl rfl (by omega) (fun _ => rfl) ?_ | refine q_idx_m rfl rfl (by omega) (by omega) (fun _ => rfl) ?_ | refine q_idx_om rfl rfl (by omega) (by omega) rfl rfl ?_
              first | refine q_load_c rfl rfl rfl ?_ | refine q_load_r rfl rfl rfl rfl rfl rfl rfl ?_ | refine q_load_o rfl rfl rfl rfl rfl ?_
              refine q_mv rfl ?_
              refine rg_nil ?_
              refine VS_seq ?_
              refine VS_r0 rfl ?_
              refine q_mv rfl ?_
              refine q_callp (c_impl_isValue _) rfl trivial ?_
              refine q_not rfl ?_
              refine rg_nil ?_
              refine VS_cond rfl (fun c5 => ?_) (fun c5 => ?_)
              · try simp at c5
                refine VS_seq ?_
                refine VS_r0 rfl ?_
                refine q_mv rfl ?_
                refine rg_nil ?_
                refine VS_ret ?_
                refine Bd.now ⟨_, rfl, _, _, _, rfl, ⟨congrArg PV.bool ?_, rfl⟩, rfl⟩
                have hall : p.vs.all (fun v => decide (-1000 ≤ v) && decide (v ≤ 1000)) = false := all_false j (by omega) (by simp; omega)
                simp [fillP, lfB, hall, *]
              · try simp at c5
                refine VS_skip ?_
                refine VS_r0 rfl ?_
                refine q_add rfl rfl (inR64 (by omega)) ?_
                refine q_mv rfl ?_
                refine rg_nil ?_
                refine Bd.keepL [(1, .pv (i64 i)), (4, .pv (.bool false)), (71, .pv (ints p.vs)), (72, .pv (i64 p.vs.length)), (73, .pv (i64 (j + 1)))] ⟨rfl, rfl, rfl, rfl, rfl, trivial⟩ ⟨_, ?_, j + 1, rfl, ?_, ?_, rfl, rfl⟩
                · first | omega | assumption | rfl | (simp; omega)
                · first | omega | assumption | rfl | (simp; omega)
                · intro m hm
                  by_cases e : m = j
                  · subst e; simpa using c5
                  · exact g1 m (by omega)
            · try simp at c4
              refine VS_exit ?_
              refine VS_seq ?_
              refine VS_r0 rfl ?_
              refine q_mv rfl ?_
              refine rg_nil ?_
              refine VS_ret ?_
              refine Bd.now ⟨_, rfl, _, _, _, rfl, ⟨congrArg PV.bool ?_, rfl⟩, rfl⟩
              have hall : p.vs.all (fun v => decide (-1000 ≤ v) && decide (v ≤ 1000)) = true := all_true fun m hm => g1 m (by omega)
              first | (simp [fillP, lfB, hall, *]; done) | (simp [fillP, lfB, hall]; simp_all; try omega)
  · try simp at g20
    refine q_f rfl ?_
    refine q_f rfl ?_
    refine q_f rfl ?_
    refine q_f rfl ?_
    refine q_pick_t rfl rfl ?_
    refine rg_nil ?_
    refine VS_cond rfl (fun _ => ?_) (fun e => by cases e)
    refine VS_seq ?_
    refine VS_r0 rfl ?_
    refine q_mv rfl ?_
    refine rg_nil ?_
    refine VS_ret ?_
    refine Bd.now ⟨_, rfl, _, _, _, rfl, ⟨congrArg PV.bool ?_, rfl⟩, rfl⟩
    first | (simp [fillP, inB, lfB, *]; done) | (simp_all [fillP, inB, lfB]; done) | (simp_all [fillP, inB, lfB]; omega)
theorem sl_impl_pageCheck_visit : slimF prog 76 = some (131, (.seq (.reg 0 (.op ⟨some 10, none, .mv (.c (.pv (.bool false)))⟩ .nil)) (.seq (.seq (.reg 0 (.op ⟨some 18, none, .mv (.t 1)⟩ (.op ⟨some 19, none, .bin .lss (.t 18) (.c (.pv (.int .i64 0)))⟩ (.op ⟨some 20, none, .mv (.t 19)⟩ (.op ⟨some 21, some (20, false), .mv (.t 1)⟩ (.op ⟨some 22, some (20, false), .mv (.t 0)⟩ (.op ⟨some 23, some (20, false), .nilc (.t 22)⟩ (.op ⟨some 24, some (20, false), .fld 0 2 true (.t 23)⟩ (.op ⟨some 25, some (20, false), .fld 1 1 false (.t 24)⟩ (.op ⟨some 26, some (20, false), .load 1 false (.t 25)⟩ (.op ⟨some 27, some (20, false), .len (.t 26)⟩ (.op ⟨some 28, some (20, false), .bin .geq (.t 21) (.t 27)⟩ (.op ⟨some 29, none, .pick (.t 20) (.c (.pv (.bool true))) (.t 28)⟩ (.op ⟨some 30, none, .mv (.t 29)⟩ (.op ⟨some 31, some (30, false), .mv (.t 2)⟩ (.op ⟨some 32, some (30, false), .bin .geq (.t 31) (.c (.pv (.int .i64 3)))⟩ (.op ⟨some 33, none, .pick (.t 30) (.c (.pv (.bool true))) (.t 32)⟩ (.op ⟨some 34, none, .mv (.t 33)⟩ (.op ⟨some 35, some (34, false), .mv (.t 0)⟩ (.op ⟨some 36, some (34, false), .mv (.t 1)⟩ (.op ⟨some 37, some (34, false), .nilc (.t 35)⟩ (.op ⟨some 38, some (34, false), .fld 2 16 true (.t 37)⟩ (.op ⟨some 39, some (34, false), .aidx 16 1 (.t 38) (.t 36)⟩ (.op ⟨some 40, some (34, false), .load 1 false (.t 39)⟩ (.op ⟨some 41, none, .pick (.t 34) (.c (.pv (.bool true))) (.t 40)⟩ .nil))))))))))))))))))))))))) (.cond (.t 41) (.seq (.reg 0 (.op ⟨some 10, none, .mv (.c (.pv (.bool false)))⟩ .nil)) .ret) .skip)) (.seq (.reg 0 (.op ⟨some 42, none, .mv (.t 0)⟩ (.op ⟨some 43, none, .mv (.t 1)⟩ (.op ⟨some 44, none, .nilc (.t 42)⟩ (.op ⟨some 45, none, .fld 2 16 true (.t 44)⟩ (.op ⟨some 46, none, .aidx 16 1 (.t 45) (.t 43)⟩ (.op ⟨none, none, .store 1 (.t 46) (.c (.pv (.bool true)))⟩ .nil))))))) (.seq (.seq (.reg 0 (.op ⟨some 47, none, .mv (.t 0)⟩ (.op ⟨some 48, none, .mv (.t 1)⟩ (.op ⟨some 49, none, .call 98 [.t 47, .t 48]⟩ (.op ⟨some 50, none, .not (.t 49)⟩ .nil))))) (.cond (.t 50) (.seq (.reg 0 (.op ⟨some 10, none, .mv (.c (.pv (.bool false)))⟩ .nil)) .ret) .skip)) (.seq (.reg 0 (.op ⟨some 51, none, .mv (.t 0)⟩ (.op ⟨some 52, none, .nilc (.t 51)⟩ (.op ⟨some 53, none, .fld 0 2 true (.t 52)⟩ (.op ⟨some 54, none, .fld 1 1 false (.t 53)⟩ (.op ⟨some 55, none, .load 1 false (.t 54)⟩ (.op ⟨some 56, none, .mv (.t 1)⟩ (.op ⟨some 57, none, .idx 3 (.t 55) (.t 56)⟩ (.op ⟨some 58, none, .load 3 true (.t 57)⟩ (.op ⟨some 11, none, .alloc 65 3 (.agg [.nils, .nils, .nils])⟩ (.op ⟨none, none, .store 3 (.t 11) (.t 58)⟩ .nil))))))))))) (.seq (.seq (.reg 0 (.op ⟨some 59, none, .fld 0 1 false (.t 11)⟩ (.op ⟨some 60, none, .load 1 false (.t 59)⟩ (.op ⟨some 61, none, .len (.t 60)⟩ (.op ⟨some 62, none, .mv (.c (.pv (.int .i64 0)))⟩ .nil))))) (.block 0 (.loop (.seq (.reg 0 (.op ⟨some 63, none, .bin .lss (.t 62) (.t 61)⟩ .nil)) (.seq (.cond (.t 63) .skip (.exit 0)) (.seq (.block 1 (.seq (.reg 0 (.op ⟨some 64, none, .idx 1 (.t 60) (.t 62)⟩ (.op ⟨some 65, none, .load 1 false (.t 64)⟩ (.op ⟨some 13, none, .mv (.t 65)⟩ .nil)))) (.seq (.reg 0 (.op ⟨some 66, none, .mv (.t 13)⟩ (.op ⟨some 67, none, .mv (.t 3)⟩ (.op ⟨some 68, none, .bin .lss (.t 66) (.t 67)⟩ (.op ⟨some 69, none, .mv (.t 68)⟩ (.op ⟨some 70, some (69, false), .mv (.t 13)⟩ (.op ⟨some 71, some (69, false), .mv (.t 4)⟩ (.op ⟨some 72, some (69, false), .bin .geq (.t 70) (.t 71)⟩ (.op ⟨some 73, none, .pick (.t 69) (.c (.pv (.bool true))) (.t 72)⟩ .nil))))))))) (.cond (.t 73) (.seq (.reg 0 (.op ⟨some 10, none, .mv (.c (.pv (.bool false)))⟩ .nil)) .ret) .skip)))) (.reg 0 (.op ⟨some 74, none, .bin .add (.t 62) (.c (.pv (.int .i64 1)))⟩ (.op ⟨some 62, none, .mv (.t 74)⟩ .nil))))))))) (.seq (.seq (.reg 0 (.op ⟨some 75, none, .fld 1 1 false (.t 11)⟩ (.op ⟨some 76, none, .load 1 false (.t 75)⟩ (.op ⟨some 77, none, .len (.t 76)⟩ (.op ⟨some 78, none, .bin .eql (.t 77) (.c (.pv (.int .i64 0)))⟩ .nil))))) (.cond (.t 78) (.seq (.seq (.reg 0 (.op ⟨some 79, none, .mv (.t 0)⟩ (.op ⟨some 80, none, .nilc (.t 79)⟩ (.op ⟨some 81, none, .fld 18 1 false (.t 80)⟩ (.op ⟨some 82, none, .load 1 false (.t 81)⟩ (.op ⟨some 83, none, .bin .lss (.t 82) (.c (.pv (.int .i64 0)))⟩ .nil)))))) (.cond (.t 83) (.reg 0 (.op ⟨some 84, none, .mv (.t 0)⟩ (.op ⟨some 85, none, .mv (.t 2)⟩ (.op ⟨some 86, none, .nilc (.t 84)⟩ (.op ⟨some 87, none, .fld 18 1 false (.t 86)⟩ (.op ⟨none, none, .store 1 (.t 87) (.t 85)⟩ .nil)))))) .skip)) (.seq (.reg 0 (.op ⟨some 88, none, .mv (.t 0)⟩ (.op ⟨some 89, none, .nilc (.t 88)⟩ (.op ⟨some 90, none, .fld 18 1 false (.t 89)⟩ (.op ⟨some 91, none, .load 1 false (.t 90)⟩ (.op ⟨some 92, none, .mv (.t 2)⟩ (.op ⟨some 93, none, .bin .eql (.t 91) (.t 92)⟩ (.op ⟨some 10, none, .mv (.t 93)⟩ .nil)))))))) .ret)) .skip)) (.seq (.seq (.reg 0 (.op ⟨some 94, none, .fld 1 1 false (.t 11)⟩ (.op ⟨some 95, none, .load 1 false (.t 94)⟩ (.op ⟨some 96, none, .len (.t 95)⟩ (.op ⟨some 97, none, .mv (.c (.pv (.int .i64 0)))⟩ .nil))))) (.block 2 (.loop (.seq (.reg 0 (.op ⟨some 98, none, .bin .lss (.t 97) (.t 96)⟩ .nil)) (.seq (.cond (.t 98) .skip (.exit 2)) (.seq (.block 3 (.seq (.reg 0 (.op ⟨some 99, none, .mv (.t 97)⟩ (.op ⟨some 100, none, .idx 1 (.t 95) (.t 97)⟩ (.op ⟨some 101, none, .load 1 false (.t 100)⟩ (.op ⟨some 14, none, .mv (.t 99)⟩ (.op ⟨some 15, none, .mv (.t 101)⟩ .nil)))))) (.seq (.reg 0 (.op ⟨some 102, none, .mv (.t 3)⟩ (.op ⟨some 103, none, .mv (.t 4)⟩ (.op ⟨some 16, none, .mv (.t 102)⟩ (.op ⟨some 17, none, .mv (.t 103)⟩ .nil))))) (.seq (.seq (.reg 0 (.op ⟨some 104, none, .mv (.t 14)⟩ (.op ⟨some 105, none, .bin .gtr (.t 104) (.c (.pv (.int .i64 0)))⟩ .nil))) (.cond (.t 105) (.reg 0 (.op ⟨some 106, none, .fld 0 1 false (.t 11)⟩ (.op ⟨some 107, none, .load 1 false (.t 106)⟩ (.op ⟨some 108, none, .mv (.t 14)⟩ (.op ⟨some 109, none, .bin .sub (.t 108) (.c (.pv (.int .i64 1)))⟩ (.op ⟨some 110, none, .idx 1 (.t 107) (.t 109)⟩ (.op ⟨some 111, none, .load 1 false (.t 110)⟩ (.op ⟨some 16, none, .mv (.t 111)⟩ .nil)))))))) .skip)) (.seq (.seq (.reg 0 (.op ⟨some 112, none, .mv (.t 14)⟩ (.op ⟨some 113, none, .fld 0 1 false (.t 11)⟩ (.op ⟨some 114, none, .load 1 false (.t 113)⟩ (.op ⟨some 115, none, .len (.t 114)⟩ (.op ⟨some 116, none, .bin .lss (.t 112) (.t 115)⟩ .nil)))))) (.cond (.t 116) (.reg 0 (.op ⟨some 117, none, .fld 0 1 false (.t 11)⟩ (.op ⟨some 118, none, .load 1 false (.t 117)⟩ (.op ⟨some 119, none, .mv (.t 14)⟩ (.op ⟨some 120, none, .idx 1 (.t 118) (.t 119)⟩ (.op ⟨some 121, none, .load 1 false (.t 120)⟩ (.op ⟨some 17, none, .mv (.t 121)⟩ .nil))))))) .skip)) (.seq (.reg 0 (.op ⟨some 122, none, .mv (.t 0)⟩ (.op ⟨some 123, none, .mv (.t 15)⟩ (.op ⟨some 124, none, .mv (.t 2)⟩ (.op ⟨some 125, none, .bin .add (.t 124) (.c (.pv (.int .i64 1)))⟩ (.op ⟨some 126, none, .mv (.t 16)⟩ (.op ⟨some 127, none, .mv (.t 17)⟩ (.op ⟨some 128, none, .call 76 [.t 122, .t 123, .t 125, .t 126, .t 127]⟩ (.op ⟨some 129, none, .not (.t 128)⟩ .nil))))))))) (.cond (.t 129) (.seq (.reg 0 (.op ⟨some 10, none, .mv (.c (.pv (.bool false)))⟩ .nil)) .ret) .skip))))))) (.reg 0 (.op ⟨some 130, none, .bin .add (.t 97) (.c (.pv (.int .i64 1)))⟩ (.op ⟨some 97, none, .mv (.t 130)⟩ .nil))))))))) (.seq (.reg 0 (.op ⟨some 10, none, .mv (.c (.pv (.bool true)))⟩ .nil)) .ret)))))))), [.t 10])) := by kernel_rfl
theorem c_impl_pageCheck_visit_step (t : Pt) (hs : smallT t) (hn : t.ps.length ≤ 16) (i : Int) (d : Nat) (lo hi : Int) (seen : Nat → Bool) (ld : Int) (hd : d ≤ 3) (hld : -1 ≤ ld) (ih : d < 3 → ∀ (i lo hi : Int) (seen : Nat → Bool) (ld : Int), -1 ≤ ld → RdO prog 76 (chk 97 t seen ld) [i64 i, i64 ((d + 1 : Nat) : Int), i64 lo, i64 hi] (fun x ob => ∃ b s l, x = .bool b ∧ ob = chk 97 t s l ∧ (b = true → ∃ h, VisOK t i (d + 1) lo hi seen ld h ∧ s = visSeen t i seen h ∧ l = (d + 1 : Nat) + h - 1) ∧ (b = false → ∀ h, ¬ VisOK t i (d + 1) lo hi seen ld h))) : RdO prog 76 (chk 97 t seen ld) [i64 i, i64 d, i64 lo, i64 hi] (fun x ob => ∃ b s l, x = .bool b ∧ ob = chk 97 t s l ∧ (b = true → ∃ h, VisOK t i d lo hi seen ld h ∧ s = visSeen t i seen h ∧ l = d + h - 1) ∧ (b = false → ∀ h, ¬ VisOK t i d lo hi seen ld h)) := by
  obtain ⟨p, hp⟩ : ∃ p, nth t.ps i.toNat = p := ⟨_, rfl⟩
  have hpp : pg t i = p := hp
  refine callS_of_VS sl_impl_pageCheck_visit (by simp) ?_
  refine VS_seq ?_
  refine VS_r0 rfl ?_
  refine q_mv rfl ?_
  refine rg_nil ?_
  refine VS_seq ?_
  refine VS_seq ?_
  refine VS_r0 rfl ?_
  refine q_mv rfl ?_
  refine q_lss rfl rfl ?_
  refine q_mv rfl ?_
  refine q_b rfl (fun g20 => ?_) (fun g20 => ?_)
  · try simp at g20
    refine q_t rfl ?_
    refine q_mv rfl ?_
    refine q_t rfl ?_
    refine q_mv rfl ?_
    refine q_t rfl ?_
    first | refine q_nilc_r rfl ?_ | refine q_nilc_c rfl ?_
    refine q_t rfl ?_
    first | refine q_fld_r rfl ?_ | refine q_fld_ca rfl (by simp) rfl ?_
    refine q_t rfl ?_
    first | refine q_fld_r rfl ?_ | refine q_fld_c rfl rfl ?_
    refine q_t rfl ?_
    first | refine q_load_c rfl rfl rfl ?_ | refine q_load_r rfl rfl rfl rfl rfl rfl rfl ?_ | refine q_load_o rfl rfl rfl rfl rfl ?_
    refine q_t rfl ?_
    first | refine q_len_m rfl ?_ | refine q_len_s rfl ?_ | refine q_len_o rfl ?_ | refine q_len_n rfl ?_ | refine q_len_x rfl ?_
    refine q_t rfl ?_
    refine q_geq rfl rfl ?_
    refine q_pick_f rfl rfl ?_
    refine q_mv rfl ?_
    refine q_b rfl (fun g30 => ?_) (fun g30 => ?_)
    · try simp at g30
      refine q_t rfl ?_
      refine q_mv rfl ?_
      refine q_t rfl ?_
      refine q_geq rfl rfl ?_
      refine q_pick_f rfl rfl ?_
      refine q_mv rfl ?_
      refine q_b rfl (fun g34 => ?_) (fun g34 => ?_)
      · try simp at g34
        refine q_t rfl ?_
        refine q_mv rfl ?_
        refine q_t rfl ?_
        refine q_mv rfl ?_
        refine q_t rfl ?_
        first | refine q_nilc_r rfl ?_ | refine q_nilc_c rfl ?_
        refine q_t rfl ?_
        first | refine q_fld_r rfl ?_ | refine q_fld_ca rfl (by simp) rfl ?_
        refine q_t rfl ?_
        first | refine q_aidx_r rfl rfl ⟨by omega, by omega⟩ ?_ | refine q_aidx_c rfl rfl ⟨by omega, by omega, rfl⟩ ?_ ?_
        refine q_t rfl ?_
        refine q_load_r (d := .pv (.bool (seen i.toNat))) rfl rfl rfl rfl rfl ?_ rfl ?_
        · rw [show 0 + 2 + i.toNat * 1 = 2 + i.toNat by omega]; exact chk_get (by omega)
        refine q_pick_f rfl rfl ?_
        refine rg_nil ?_
        refine VS_cond rfl (fun c0 => ?_) (fun c0 => ?_)
        · try simp at c0
          refine VS_seq ?_
          refine VS_r0 rfl ?_
          refine q_mv rfl ?_
          refine rg_nil ?_
          refine VS_ret ?_
          exact Bd.now ⟨_, rfl, _, _, _, rfl, ⟨false, _, _, rfl, rfl, (fun e => by cases e), (fun _ h hv => by exact absurd hv (by intro hv; have h1 := vis_no hv; first | omega | (have h2 := h1.2.2.1; simp_all)))⟩, rfl⟩
        · try simp at c0
          have hin : inT t i = true := inT_iff.2 ⟨by omega, by omega⟩
          have hsz := hs.2 i (by omega) (by omega)
          rw [hpp] at hsz
          refine VS_skip ?_
          refine VS_seq ?_
          refine VS_r0 rfl ?_
          refine q_mv rfl ?_
          refine q_mv rfl ?_
          first | refine q_nilc_r rfl ?_ | refine q_nilc_c rfl ?_
          first | refine q_fld_r rfl ?_ | refine q_fld_ca rfl (by simp) rfl ?_
          first | refine q_aidx_r rfl rfl ⟨by omega, by omega⟩ ?_ | refine q_aidx_c rfl rfl ⟨by omega, by omega, rfl⟩ ?_ ?_
          refine q_store (z := .agg (chkC t (fun w => if w = i.toNat then true else seen w) ld)) rfl rfl rfl rfl rfl rfl ⟨rfl, rfl, ?_, rfl, ?_⟩ ?_ trivial ?_
          · show _ ≤ 19
            omega
          · intro h; cases h
          · rw [show 0 + 2 + i.toNat * 1 = 2 + i.toNat by omega]
            exact congrArg D.agg (chk_set (by omega))
          refine rg_nil ?_
          refine VS_seq ?_
          refine VS_seq ?_
          refine VS_r0 rfl ?_
          refine q_mv rfl ?_
          refine q_mv rfl ?_
          refine q_rdo rfl (c_impl_pageCheck_filledRight t hs hn i _ ld hin) chk_still (fun _ _ h => by rw [h.2]; exact chk_still) rfl rfl (fun _ => trivial) ?_
          rintro _ _ ⟨rfl, rfl⟩
          refine q_not rfl ?_
          refine rg_nil ?_
          refine VS_cond rfl (fun c1 => ?_) (fun c1 => ?_)
          · try simp at c1
            refine VS_seq ?_
            refine VS_r0 rfl ?_
            refine q_mv rfl ?_
            refine rg_nil ?_
            refine VS_ret ?_
            exact Bd.now ⟨_, rfl, _, _, _, rfl, ⟨false, _, _, rfl, rfl, (fun e => by cases e), (fun _ h hv => by exact absurd hv (by intro hv; have h1 := (vis_no hv).2.2.2.1; simp_all))⟩, rfl⟩
          · try simp at c1
            refine VS_skip ?_
            refine VS_seq ?_
            refine VS_r0 rfl ?_
            refine q_mv rfl ?_
            first | refine q_nilc_r rfl ?_ | refine q_nilc_c rfl ?_
            first | refine q_fld_r rfl ?_ | refine q_fld_ca rfl (by simp) rfl ?_
            first | refine q_fld_r rfl ?_ | refine q_fld_c rfl rfl ?_
            first | refine q_load_c rfl rfl rfl ?_ | refine q_load_r rfl rfl rfl rfl rfl rfl rfl ?_ | refine q_load_o rfl rfl rfl rfl rfl ?_
            refine q_mv rfl ?_
            refine q_idx_m (f := pgP) (xs := t.ps) (n := i) rfl rfl (by omega) (by omega) (fun _ => rfl) ?_
            rw [hp]
            first | refine q_load_c rfl rfl rfl ?_ | refine q_load_ra rfl rfl rfl rfl rfl (by first | (simp; done) | (simp [setAt]; done)) rfl ?_
            refine q_alloc trivial ?_
            first | refine q_store rfl rfl rfl rfl rfl rfl ⟨rfl, rfl, by simp, rfl, by simp [isOne]⟩ rfl trivial ?_ | refine q_storeF rfl rfl rfl rfl rfl (by first | (simp; done) | (simp [setAt]; done)) trivial ?_ | refine q_store rfl rfl rfl rfl rfl rfl ⟨rfl, rfl, by simp, by simp [setAt, isCell_own, isCell_sl, isCell_int, isCell_nils], by simp [isOne]⟩ rfl trivial ?_
            refine rg_nil ?_
            refine VS_seq ?_
            refine VS_seq ?_
            refine VS_r0 rfl ?_
            first | refine q_fld_r rfl ?_ | refine q_fld_c rfl rfl ?_
            first | refine q_load_c rfl rfl rfl ?_ | refine q_load_r rfl rfl rfl rfl rfl rfl rfl ?_ | refine q_load_o rfl rfl rfl rfl rfl ?_
            first | refine q_len_m rfl ?_ | refine q_len_s rfl ?_ | refine q_len_o rfl ?_ | refine q_len_n rfl ?_ | refine q_len_x rfl ?_
            refine q_mv rfl ?_
            refine rg_nil ?_
            refine VS_block ?_
            refine VS_bd (Bd.keepL [(0, .ptr 0 0 0), (1, .pv (i64 i)), (2, .pv (i64 d)), (3, .pv (i64 lo)), (4, .pv (i64 hi)), (10, .pv (.bool false)), (11, .ptr 1 0 0), (60, .pv (ints p.ks)), (61, .pv (i64 p.ks.length)), (62, .pv (i64 0))] ⟨rfl, rfl, rfl, rfl, rfl, rfl, rfl, rfl, rfl, rfl, trivial⟩ ?_)
            refine VS_loop (fun mz E S => ∃ m : Nat, mz = p.ks.length - m ∧ (m ≤ p.ks.length) ∧ (∀ q, q < m → lo ≤ nth p.ks q ∧ nth p.ks q < hi) ∧ E = env [(0, .ptr 0 0 0), (1, .pv (i64 i)), (2, .pv (i64 d)), (3, .pv (i64 lo)), (4, .pv (i64 hi)), (10, .pv (.bool false)), (11, .ptr 1 0 0), (60, .pv (ints p.ks)), (61, .pv (i64 p.ks.length)), (62, .pv (i64 m))] ∧ S = [some (chk 97 t (fun w => if w = i.toNat then true else seen w) ld), some ⟨65, 3, [.agg [.pv (ints p.ks), .pv (ints p.cs), .pv (ints p.vs)]]⟩]) ⟨_, 0, rfl, (by first | omega | (intros; omega) | simp), (by first | omega | (intros; omega) | simp), rfl, rfl⟩ ?_
            rintro mz _ _ ⟨m, hmeas, g0, g1, rfl, rfl⟩
            refine VS_seq ?_
            refine VS_r0 rfl ?_
            refine q_lss rfl rfl ?_
            refine rg_nil ?_
            refine VS_seq ?_
            refine VS_cond rfl (fun c2 => ?_) (fun c2 => ?_)
            · try simp at c2
              refine VS_skip ?_
              refine VS_seq ?_
              refine VS_block ?_
              refine VS_seq ?_
              refine VS_r0 rfl ?_
              refine q_idx_m (f := fun k => i64 k) (xs := p.ks) (n := (m : Int)) rfl rfl (by omega) (by omega) (fun _ => rfl) ?_
              first | refine q_load_c rfl rfl rfl ?_ | refine q_load_r rfl rfl rfl rfl rfl rfl rfl ?_ | refine q_load_o rfl rfl rfl rfl rfl ?_
              refine q_mv rfl ?_
              refine rg_nil ?_
              refine VS_seq ?_
              refine VS_r0 rfl ?_
              refine q_mv rfl ?_
              refine q_mv rfl ?_
              refine q_lss rfl rfl ?_
              refine q_mv rfl ?_
              refine q_b rfl (fun g69 => ?_) (fun g69 => ?_)
              · try simp at g69
                refine q_t rfl ?_
                refine q_mv rfl ?_
                refine q_t rfl ?_
                refine q_mv rfl ?_
                refine q_t rfl ?_
                refine q_geq rfl rfl ?_
                refine q_pick_f rfl rfl ?_
                refine rg_nil ?_
                refine VS_cond rfl (fun c3 => ?_) (fun c3 => ?_)
                · try simp at c3
                  refine VS_seq ?_
                  refine VS_r0 rfl ?_
                  refine q_mv rfl ?_
                  refine rg_nil ?_
                  refine VS_ret ?_
                  exact Bd.now ⟨_, rfl, _, _, _, rfl, ⟨false, _, _, rfl, rfl, (fun e => by cases e), (fun _ h hv => by exact absurd hv (by intro hv; have h1 := (vis_no hv).2.2.2.2.1; have h2 : keysIn (pg t i).ks lo hi = false := (by rw [hpp]; exact keysIn_false m (by omega) (by omega)); rw [h1] at h2; cases h2))⟩, rfl⟩
                · try simp at c3
                  refine VS_skip ?_
                  refine VS_r0 rfl ?_
                  refine q_add rfl rfl (inR64 (by omega)) ?_
                  refine q_mv rfl ?_
                  refine rg_nil ?_
                  refine Bd.keepL [(0, .ptr 0 0 0), (1, .pv (i64 i)), (2, .pv (i64 d)), (3, .pv (i64 lo)), (4, .pv (i64 hi)), (10, .pv (.bool false)), (11, .ptr 1 0 0), (60, .pv (ints p.ks)), (61, .pv (i64 p.ks.length)), (62, .pv (i64 (m + 1)))] ⟨rfl, rfl, rfl, rfl, rfl, rfl, rfl, rfl, rfl, rfl, trivial⟩ ⟨_, ?_, m + 1, rfl, ?_, ?_, rfl, rfl⟩
                  · first | omega | assumption | rfl | (simp; omega)
                  · first | omega | assumption | rfl | (simp; omega)
                  · intro q hq
                    by_cases e : q = m
                    · subst e; first | omega | (constructor <;> omega) | simp_all
                    · exact g1 q (by omega)
              · try simp at g69
                refine q_f rfl ?_
                refine q_f rfl ?_
                refine q_f rfl ?_
                refine q_pick_t rfl rfl ?_
                refine rg_nil ?_
                refine VS_cond rfl (fun _ => ?_) (fun e => by cases e)
                refine VS_seq ?_
                refine VS_r0 rfl ?_
                refine q_mv rfl ?_
                refine rg_nil ?_
                refine VS_ret ?_
                exact Bd.now ⟨_, rfl, _, _, _, rfl, ⟨false, _, _, rfl, rfl, (fun e => by cases e), (fun _ h hv => by exact absurd hv (by intro hv; have h1 := (vis_no hv).2.2.2.2.1; have h2 : keysIn (pg t i).ks lo hi = false := (by rw [hpp]; exact keysIn_false m (by omega) (by omega)); rw [h1] at h2; cases h2))⟩, rfl⟩
            · try simp at c2
              refine VS_exit ?_
              refine VS_seq ?_
              refine VS_seq ?_
              refine VS_r0 rfl ?_
              first | refine q_fld_r rfl ?_ | refine q_fld_c rfl rfl ?_
              first | refine q_load_c rfl rfl rfl ?_ | refine q_load_r rfl rfl rfl rfl rfl rfl rfl ?_ | refine q_load_o rfl rfl rfl rfl rfl ?_
              first | refine q_len_m rfl ?_ | refine q_len_s rfl ?_ | refine q_len_o rfl ?_ | refine q_len_n rfl ?_ | refine q_len_x rfl ?_
              refine q_eql rfl rfl ?_
              refine rg_nil ?_
              refine VS_cond rfl (fun c4 => ?_) (fun c4 => ?_)
              · try simp at c4
                have hki : keysIn p.ks lo hi = true := keysIn_true fun q hq => g1 q (by omega)
                refine VS_seq ?_
                refine VS_seq ?_
                refine VS_r0 rfl ?_
                refine q_mv rfl ?_
                first | refine q_nilc_r rfl ?_ | refine q_nilc_c rfl ?_
                first | refine q_fld_r rfl ?_ | refine q_fld_c rfl rfl ?_
                first | refine q_load_c rfl rfl rfl ?_ | refine q_load_r rfl rfl rfl rfl rfl rfl rfl ?_ | refine q_load_o rfl rfl rfl rfl rfl ?_
                refine q_lss rfl rfl ?_
                refine rg_nil ?_
                refine VS_cond rfl (fun c5 => ?_) (fun c5 => ?_)
                · try simp at c5
                  refine VS_r0 rfl ?_
                  refine q_mv rfl ?_
                  refine q_mv rfl ?_
                  first | refine q_nilc_r rfl ?_ | refine q_nilc_c rfl ?_
                  first | refine q_fld_r rfl ?_ | refine q_fld_c rfl rfl ?_
                  first | refine q_store rfl rfl rfl rfl rfl rfl ⟨rfl, rfl, by simp, rfl, by simp [isOne]⟩ rfl trivial ?_ | refine q_storeF rfl rfl rfl rfl rfl (by first | (simp; done) | (simp [setAt]; done)) trivial ?_ | refine q_store rfl rfl rfl rfl rfl rfl ⟨rfl, rfl, by simp, by simp [setAt, isCell_own, isCell_sl, isCell_int, isCell_nils], by simp [isOne]⟩ rfl trivial ?_
                  refine rg_nil ?_
                  refine VS_seq ?_
                  refine VS_r0 rfl ?_
                  refine q_mv rfl ?_
                  first | refine q_nilc_r rfl ?_ | refine q_nilc_c rfl ?_
                  first | refine q_fld_r rfl ?_ | refine q_fld_c rfl rfl ?_
                  first | refine q_load_c rfl rfl rfl ?_ | refine q_load_r rfl rfl rfl rfl rfl rfl rfl ?_ | refine q_load_o rfl rfl rfl rfl rfl ?_
                  refine q_mv rfl ?_
                  refine q_eql rfl rfl ?_
                  refine q_mv rfl ?_
                  refine rg_nil ?_
                  refine VS_ret ?_
                  have h5 : (pg t i).cs.length = 0 := by rw [hpp, c4]; rfl
                  first
                    | exact Bd.now ⟨_, rfl, _, _, _, rfl, ⟨_, (fun w => if w = i.toNat then true else seen w), (d : Int), rfl, rfl, (fun hb => ⟨1, vis_leaf hin c1 (by rw [hpp]; exact hki) c0 h5 (by omega) (.inl c5), seen_leaf g20 h5, by omega⟩), (fun hb => by simp at hb)⟩, rfl⟩
                    | exact Bd.now ⟨_, rfl, _, _, _, rfl, ⟨_, (fun w => if w = i.toNat then true else seen w), ld, rfl, rfl, (fun hb => ⟨1, vis_leaf hin c1 (by rw [hpp]; exact hki) c0 h5 (by omega) (.inr (by simpa using hb)), seen_leaf g20 h5, by simp at hb; omega⟩), (fun hb h hv => by have h7 := ((vis_no hv).2.2.2.2.2 h5).2; simp at hb; omega)⟩, rfl⟩
                · try simp at c5
                  refine VS_skip ?_
                  refine VS_seq ?_
                  refine VS_r0 rfl ?_
                  refine q_mv rfl ?_
                  first | refine q_nilc_r rfl ?_ | refine q_nilc_c rfl ?_
                  first | refine q_fld_r rfl ?_ | refine q_fld_c rfl rfl ?_
                  first | refine q_load_c rfl rfl rfl ?_ | refine q_load_r rfl rfl rfl rfl rfl rfl rfl ?_ | refine q_load_o rfl rfl rfl rfl rfl ?_
                  refine q_mv rfl ?_
                  refine q_eql rfl rfl ?_
                  refine q_mv rfl ?_
                  refine rg_nil ?_
                  refine VS_ret ?_
                  have h5 : (pg t i).cs.length = 0 := by rw [hpp, c4]; rfl
                  first
                    | exact Bd.now ⟨_, rfl, _, _, _, rfl, ⟨_, (fun w => if w = i.toNat then true else seen w), (d : Int), rfl, rfl, (fun hb => ⟨1, vis_leaf hin c1 (by rw [hpp]; exact hki) c0 h5 (by omega) (.inl c5), seen_leaf g20 h5, by omega⟩), (fun hb => by simp at hb)⟩, rfl⟩
                    | exact Bd.now ⟨_, rfl, _, _, _, rfl, ⟨_, (fun w => if w = i.toNat then true else seen w), ld, rfl, rfl, (fun hb => ⟨1, vis_leaf hin c1 (by rw [hpp]; exact hki) c0 h5 (by omega) (.inr (by simpa using hb)), seen_leaf g20 h5, by simp at hb; omega⟩), (fun hb h hv => by have h7 := ((vis_no hv).2.2.2.2.2 h5).2; simp at hb; omega)⟩, rfl⟩
              · try simp at c4
                have hki : keysIn p.ks lo hi = true := keysIn_true fun q hq => g1 q (by omega)
                have hcl := fill_inner (by rw [fillB, hpp] at c1; exact c1) (by first | omega | simpa using c4)
                have hcp : 0 < p.cs.length := by omega
                refine VS_skip ?_
                refine VS_seq ?_
                refine VS_seq ?_
                refine VS_r0 rfl ?_
                first | refine q_fld_r rfl ?_ | refine q_fld_c rfl rfl ?_
                first | refine q_load_c rfl rfl rfl ?_ | refine q_load_r rfl rfl rfl rfl rfl rfl rfl ?_ | refine q_load_o rfl rfl rfl rfl rfl ?_
                first | refine q_len_m rfl ?_ | refine q_len_s rfl ?_ | refine q_len_o rfl ?_ | refine q_len_n rfl ?_ | refine q_len_x rfl ?_
                refine q_mv rfl ?_
                refine rg_nil ?_
                refine VS_block ?_
                refine VS_bd (Bd.keepL [(0, .ptr 0 0 0), (2, .pv (i64 d)), (3, .pv (i64 lo)), (4, .pv (i64 hi)), (11, .ptr 1 0 0), (95, .pv (ints p.cs)), (96, .pv (i64 p.cs.length)), (97, .pv (i64 0))] ⟨rfl, rfl, rfl, rfl, rfl, rfl, rfl, rfl, trivial⟩ ?_)
                refine VS_loop (fun mz E S => ∃ j : Nat, ∃ si : Nat → Bool, ∃ li : Int, ∃ h : Nat, mz = p.cs.length - j ∧ (j ≤ p.cs.length) ∧ (KidsOK t p d lo hi (fun w => if w = i.toNat then true else seen w) ld j h si li) ∧ (-1 ≤ li) ∧ E = env [(0, .ptr 0 0 0), (2, .pv (i64 d)), (3, .pv (i64 lo)), (4, .pv (i64 hi)), (11, .ptr 1 0 0), (95, .pv (ints p.cs)), (96, .pv (i64 p.cs.length)), (97, .pv (i64 j))] ∧ S = [some (chk 97 t si li), some ⟨65, 3, [.agg [.pv (ints p.ks), .pv (ints p.cs), .pv (ints p.vs)]]⟩]) ⟨_, 0, (fun w => if w = i.toNat then true else seen w), ld, 1, rfl, (by first | omega | (intros; omega) | simp), kids_zero, hld, rfl, rfl⟩ ?_
                rintro mz _ _ ⟨j, si, li, h, hmeas, g0, gk, gl, rfl, rfl⟩
                refine VS_seq ?_
                refine VS_r0 rfl ?_
                refine q_lss rfl rfl ?_
                refine rg_nil ?_
                refine VS_seq ?_
                refine VS_cond rfl (fun c6 => ?_) (fun c6 => ?_)
                · try simp at c6
                  refine VS_skip ?_
                  refine VS_seq ?_
                  refine VS_block ?_
                  refine VS_seq ?_
                  refine VS_r0 rfl ?_
                  refine q_mv rfl ?_
                  refine q_idx_m (f := fun k => i64 k) (xs := p.cs) (n := (j : Int)) rfl rfl (by omega) (by omega) (fun _ => rfl) ?_
                  first | refine q_load_c rfl rfl rfl ?_ | refine q_load_r rfl rfl rfl rfl rfl rfl rfl ?_ | refine q_load_o rfl rfl rfl rfl rfl ?_
                  refine q_mv rfl ?_
                  refine q_mv rfl ?_
                  refine rg_nil ?_
                  refine VS_seq ?_
                  refine VS_r0 rfl ?_
                  refine q_mv rfl ?_
                  refine q_mv rfl ?_
                  refine q_mv rfl ?_
                  refine q_mv rfl ?_
                  refine rg_nil ?_
                  refine VS_seq ?_
                  refine VS_seq ?_
                  refine VS_r0 rfl ?_
                  refine q_mv rfl ?_
                  refine q_gtr rfl rfl ?_
                  refine rg_nil ?_
                  refine VS_cond rfl (fun c7 => ?_) (fun c7 => ?_)
                  · try simp at c7
                    refine VS_r0 rfl ?_
                    first | refine q_fld_r rfl ?_ | refine q_fld_c rfl rfl ?_
                    first | refine q_load_c rfl rfl rfl ?_ | refine q_load_r rfl rfl rfl rfl rfl rfl rfl ?_ | refine q_load_o rfl rfl rfl rfl rfl ?_
                    refine q_mv rfl ?_
                    refine q_sub_to ((j - 1 : Nat) : Int) rfl rfl (by omega) (inR64 (by omega)) ?_
                    refine q_idx_m (f := fun k => i64 k) (xs := p.ks) (n := ((j - 1 : Nat) : Int)) rfl rfl (by omega) (by omega) (fun _ => rfl) ?_
                    first | refine q_load_c rfl rfl rfl ?_ | refine q_load_r rfl rfl rfl rfl rfl rfl rfl ?_ | refine q_load_o rfl rfl rfl rfl rfl ?_
                    refine q_mv rfl ?_
                    refine rg_nil ?_
                    refine VS_join (fun E S => ∃ a b, a = frK p lo j ∧ b = toK p hi j ∧ E = env [(0, .ptr 0 0 0), (2, .pv (i64 d)), (3, .pv (i64 lo)), (4, .pv (i64 hi)), (11, .ptr 1 0 0), (95, .pv (ints p.cs)), (96, .pv (i64 p.cs.length)), (97, .pv (i64 j)), (15, .pv (i64 (nth p.cs j))), (16, .pv (i64 a)), (17, .pv (i64 b))] ∧ S = [some (chk 97 t si li), some ⟨65, 3, [.agg [.pv (ints p.ks), .pv (ints p.cs), .pv (ints p.vs)]]⟩]) ?_ ?_
                    · skip
                      refine VS_seq ?_
                      refine VS_r0 rfl ?_
                      refine q_mv rfl ?_
                      first | refine q_fld_r rfl ?_ | refine q_fld_c rfl rfl ?_
                      first | refine q_load_c rfl rfl rfl ?_ | refine q_load_r rfl rfl rfl rfl rfl rfl rfl ?_ | refine q_load_o rfl rfl rfl rfl rfl ?_
                      first | refine q_len_m rfl ?_ | refine q_len_s rfl ?_ | refine q_len_o rfl ?_ | refine q_len_n rfl ?_ | refine q_len_x rfl ?_
                      refine q_lss rfl rfl ?_
                      refine rg_nil ?_
                      refine VS_cond rfl (fun c8 => ?_) (fun c8 => ?_)
                      · try simp at c8
                        refine VS_r0 rfl ?_
                        first | refine q_fld_r rfl ?_ | refine q_fld_c rfl rfl ?_
                        first | refine q_load_c rfl rfl rfl ?_ | refine q_load_r rfl rfl rfl rfl rfl rfl rfl ?_ | refine q_load_o rfl rfl rfl rfl rfl ?_
                        refine q_mv rfl ?_
                        refine q_idx_m (f := fun k => i64 k) (xs := p.ks) (n := (j : Int)) rfl rfl (by omega) (by omega) (fun _ => rfl) ?_
                        first | refine q_load_c rfl rfl rfl ?_ | refine q_load_r rfl rfl rfl rfl rfl rfl rfl ?_ | refine q_load_o rfl rfl rfl rfl rfl ?_
                        refine q_mv rfl ?_
                        refine rg_nil ?_
                        first
                          | exact Bd.keepL [(0, .ptr 0 0 0), (2, .pv (i64 d)), (3, .pv (i64 lo)), (4, .pv (i64 hi)), (11, .ptr 1 0 0), (95, .pv (ints p.cs)), (96, .pv (i64 p.cs.length)), (97, .pv (i64 j)), (15, .pv (i64 (nth p.cs j))), (16, .pv (i64 lo)), (17, .pv (i64 hi))] ⟨rfl, rfl, rfl, rfl, rfl, rfl, rfl, rfl, rfl, rfl, rfl, trivial⟩ ⟨_, _, (by rw [frK, if_pos (by omega)]), (by rw [toK, if_neg (by omega)]), rfl, rfl⟩
                          | exact Bd.keepL [(0, .ptr 0 0 0), (2, .pv (i64 d)), (3, .pv (i64 lo)), (4, .pv (i64 hi)), (11, .ptr 1 0 0), (95, .pv (ints p.cs)), (96, .pv (i64 p.cs.length)), (97, .pv (i64 j)), (15, .pv (i64 (nth p.cs j))), (16, .pv (i64 lo)), (17, .pv (i64 (nth p.ks j)))] ⟨rfl, rfl, rfl, rfl, rfl, rfl, rfl, rfl, rfl, rfl, rfl, trivial⟩ ⟨_, _, (by rw [frK, if_pos (by omega)]), (by rw [toK, if_pos (by omega)]), rfl, rfl⟩
                          | exact Bd.keepL [(0, .ptr 0 0 0), (2, .pv (i64 d)), (3, .pv (i64 lo)), (4, .pv (i64 hi)), (11, .ptr 1 0 0), (95, .pv (ints p.cs)), (96, .pv (i64 p.cs.length)), (97, .pv (i64 j)), (15, .pv (i64 (nth p.cs j))), (16, .pv (i64 (nth p.ks (j - 1)))), (17, .pv (i64 hi))] ⟨rfl, rfl, rfl, rfl, rfl, rfl, rfl, rfl, rfl, rfl, rfl, trivial⟩ ⟨_, _, (by rw [frK, if_neg (by omega)]), (by rw [toK, if_neg (by omega)]), rfl, rfl⟩
                          | exact Bd.keepL [(0, .ptr 0 0 0), (2, .pv (i64 d)), (3, .pv (i64 lo)), (4, .pv (i64 hi)), (11, .ptr 1 0 0), (95, .pv (ints p.cs)), (96, .pv (i64 p.cs.length)), (97, .pv (i64 j)), (15, .pv (i64 (nth p.cs j))), (16, .pv (i64 (nth p.ks (j - 1)))), (17, .pv (i64 (nth p.ks j)))] ⟨rfl, rfl, rfl, rfl, rfl, rfl, rfl, rfl, rfl, rfl, rfl, trivial⟩ ⟨_, _, (by rw [frK, if_neg (by omega)]), (by rw [toK, if_pos (by omega)]), rfl, rfl⟩
                      · try simp at c8
                        refine VS_skip ?_
                        first
                          | exact Bd.keepL [(0, .ptr 0 0 0), (2, .pv (i64 d)), (3, .pv (i64 lo)), (4, .pv (i64 hi)), (11, .ptr 1 0 0), (95, .pv (ints p.cs)), (96, .pv (i64 p.cs.length)), (97, .pv (i64 j)), (15, .pv (i64 (nth p.cs j))), (16, .pv (i64 lo)), (17, .pv (i64 hi))] ⟨rfl, rfl, rfl, rfl, rfl, rfl, rfl, rfl, rfl, rfl, rfl, trivial⟩ ⟨_, _, (by rw [frK, if_pos (by omega)]), (by rw [toK, if_neg (by omega)]), rfl, rfl⟩
                          | exact Bd.keepL [(0, .ptr 0 0 0), (2, .pv (i64 d)), (3, .pv (i64 lo)), (4, .pv (i64 hi)), (11, .ptr 1 0 0), (95, .pv (ints p.cs)), (96, .pv (i64 p.cs.length)), (97, .pv (i64 j)), (15, .pv (i64 (nth p.cs j))), (16, .pv (i64 lo)), (17, .pv (i64 (nth p.ks j)))] ⟨rfl, rfl, rfl, rfl, rfl, rfl, rfl, rfl, rfl, rfl, rfl, trivial⟩ ⟨_, _, (by rw [frK, if_pos (by omega)]), (by rw [toK, if_pos (by omega)]), rfl, rfl⟩
                          | exact Bd.keepL [(0, .ptr 0 0 0), (2, .pv (i64 d)), (3, .pv (i64 lo)), (4, .pv (i64 hi)), (11, .ptr 1 0 0), (95, .pv (ints p.cs)), (96, .pv (i64 p.cs.length)), (97, .pv (i64 j)), (15, .pv (i64 (nth p.cs j))), (16, .pv (i64 (nth p.ks (j - 1)))), (17, .pv (i64 hi))] ⟨rfl, rfl, rfl, rfl, rfl, rfl, rfl, rfl, rfl, rfl, rfl, trivial⟩ ⟨_, _, (by rw [frK, if_neg (by omega)]), (by rw [toK, if_neg (by omega)]), rfl, rfl⟩
                          | exact Bd.keepL [(0, .ptr 0 0 0), (2, .pv (i64 d)), (3, .pv (i64 lo)), (4, .pv (i64 hi)), (11, .ptr 1 0 0), (95, .pv (ints p.cs)), (96, .pv (i64 p.cs.length)), (97, .pv (i64 j)), (15, .pv (i64 (nth p.cs j))), (16, .pv (i64 (nth p.ks (j - 1)))), (17, .pv (i64 (nth p.ks j)))] ⟨rfl, rfl, rfl, rfl, rfl, rfl, rfl, rfl, rfl, rfl, rfl, trivial⟩ ⟨_, _, (by rw [frK, if_neg (by omega)]), (by rw [toK, if_pos (by omega)]), rfl, rfl⟩
                    · rintro _ _ ⟨a, b, ha, hb, rfl, rfl⟩
                      refine VS_seq ?_
                      refine VS_r0 rfl ?_
                      refine q_mv rfl ?_
                      refine q_mv rfl ?_
                      refine q_mv rfl ?_
                      refine q_add rfl rfl (inR64 (by omega)) ?_
                      refine q_mv rfl ?_
                      refine q_mv rfl ?_
                      refine q_rdo rfl (ih (by omega) (nth p.cs j) a b si li (by omega)) chk_still (fun _ ob2 h => by obtain ⟨_, _, _, _, h2, _⟩ := h; rw [h2]; exact chk_still) rfl rfl (fun _ => trivial) ?_
                      rintro _ _ ⟨b2, s2, l2, rfl, rfl, hvt, hvf⟩
                      refine q_not rfl ?_
                      refine rg_nil ?_
                      refine VS_cond rfl (fun c9 => ?_) (fun c9 => ?_)
                      · try simp at c9
                        refine VS_seq ?_
                        refine VS_r0 rfl ?_
                        refine q_mv rfl ?_
                        refine rg_nil ?_
                        refine VS_ret ?_
                        exact Bd.now ⟨_, rfl, _, _, _, rfl, ⟨false, _, _, rfl, rfl, (fun e => by cases e), (fun _ h hv => by exact absurd hv (by intro hv; exact kids_bad (by rw [hpp]; exact gk) (by rw [hpp]; omega) (by rw [hpp, ← ha, ← hb]; exact hvf (by simpa using c9)) _ hv))⟩, rfl⟩
                      · try simp at c9
                        refine VS_skip ?_
                        refine VS_r0 rfl ?_
                        refine q_add rfl rfl (inR64 (by omega)) ?_
                        refine q_mv rfl ?_
                        refine rg_nil ?_
                        refine Exists.elim (hvt (by simpa using c9)) (fun h2 hh => ?_)
                        refine Bd.keepL [(0, .ptr 0 0 0), (2, .pv (i64 d)), (3, .pv (i64 lo)), (4, .pv (i64 hi)), (11, .ptr 1 0 0), (95, .pv (ints p.cs)), (96, .pv (i64 p.cs.length)), (97, .pv (i64 (j + 1)))] ⟨rfl, rfl, rfl, rfl, rfl, rfl, rfl, rfl, trivial⟩ ⟨_, ?_, j + 1, s2, l2, h2, rfl, ?_, ?_, ?_, rfl, rfl⟩
                        · first | omega | assumption | rfl | (simp; omega)
                        · first | omega | assumption | rfl | (simp; omega)
                        · have hl2 : l2 = (d : Int) + h2 := by have := hh.2.2; omega
                          rw [hl2, hh.2.1]
                          exact kids_step gk (by omega) (by rw [← ha, ← hb]; exact hh.1)
                        · have := hh.2.2
                          omega
                  · try simp at c7
                    refine VS_skip ?_
                    refine VS_join (fun E S => ∃ a b, a = frK p lo j ∧ b = toK p hi j ∧ E = env [(0, .ptr 0 0 0), (2, .pv (i64 d)), (3, .pv (i64 lo)), (4, .pv (i64 hi)), (11, .ptr 1 0 0), (95, .pv (ints p.cs)), (96, .pv (i64 p.cs.length)), (97, .pv (i64 j)), (15, .pv (i64 (nth p.cs j))), (16, .pv (i64 a)), (17, .pv (i64 b))] ∧ S = [some (chk 97 t si li), some ⟨65, 3, [.agg [.pv (ints p.ks), .pv (ints p.cs), .pv (ints p.vs)]]⟩]) ?_ ?_
                    · skip
                      refine VS_seq ?_
                      refine VS_r0 rfl ?_
                      refine q_mv rfl ?_
                      first | refine q_fld_r rfl ?_ | refine q_fld_c rfl rfl ?_
                      first | refine q_load_c rfl rfl rfl ?_ | refine q_load_r rfl rfl rfl rfl rfl rfl rfl ?_ | refine q_load_o rfl rfl rfl rfl rfl ?_
                      first | refine q_len_m rfl ?_ | refine q_len_s rfl ?_ | refine q_len_o rfl ?_ | refine q_len_n rfl ?_ | refine q_len_x rfl ?_
                      refine q_lss rfl rfl ?_
                      refine rg_nil ?_
                      refine VS_cond rfl (fun c8 => ?_) (fun c8 => ?_)
                      · try simp at c8
                        refine VS_r0 rfl ?_
                        first | refine q_fld_r rfl ?_ | refine q_fld_c rfl rfl ?_
                        first | refine q_load_c rfl rfl rfl ?_ | refine q_load_r rfl rfl rfl rfl rfl rfl rfl ?_ | refine q_load_o rfl rfl rfl rfl rfl ?_
                        refine q_mv rfl ?_
                        refine q_idx_m (f := fun k => i64 k) (xs := p.ks) (n := (j : Int)) rfl rfl (by omega) (by omega) (fun _ => rfl) ?_
                        first | refine q_load_c rfl rfl rfl ?_ | refine q_load_r rfl rfl rfl rfl rfl rfl rfl ?_ | refine q_load_o rfl rfl rfl rfl rfl ?_
                        refine q_mv rfl ?_
                        refine rg_nil ?_
                        first
                          | exact Bd.keepL [(0, .ptr 0 0 0), (2, .pv (i64 d)), (3, .pv (i64 lo)), (4, .pv (i64 hi)), (11, .ptr 1 0 0), (95, .pv (ints p.cs)), (96, .pv (i64 p.cs.length)), (97, .pv (i64 j)), (15, .pv (i64 (nth p.cs j))), (16, .pv (i64 lo)), (17, .pv (i64 hi))] ⟨rfl, rfl, rfl, rfl, rfl, rfl, rfl, rfl, rfl, rfl, rfl, trivial⟩ ⟨_, _, (by rw [frK, if_pos (by omega)]), (by rw [toK, if_neg (by omega)]), rfl, rfl⟩
                          | exact Bd.keepL [(0, .ptr 0 0 0), (2, .pv (i64 d)), (3, .pv (i64 lo)), (4, .pv (i64 hi)), (11, .ptr 1 0 0), (95, .pv (ints p.cs)), (96, .pv (i64 p.cs.length)), (97, .pv (i64 j)), (15, .pv (i64 (nth p.cs j))), (16, .pv (i64 lo)), (17, .pv (i64 (nth p.ks j)))] ⟨rfl, rfl, rfl, rfl, rfl, rfl, rfl, rfl, rfl, rfl, rfl, trivial⟩ ⟨_, _, (by rw [frK, if_pos (by omega)]), (by rw [toK, if_pos (by omega)]), rfl, rfl⟩
                          | exact Bd.keepL [(0, .ptr 0 0 0), (2, .pv (i64 d)), (3, .pv (i64 lo)), (4, .pv (i64 hi)), (11, .ptr 1 0 0), (95, .pv (ints p.cs)), (96, .pv (i64 p.cs.length)), (97, .pv (i64 j)), (15, .pv (i64 (nth p.cs j))), (16, .pv (i64 (nth p.ks (j - 1)))), (17, .pv (i64 hi))] ⟨rfl, rfl, rfl, rfl, rfl, rfl, rfl, rfl, rfl, rfl, rfl, trivial⟩ ⟨_, _, (by rw [frK, if_neg (by omega)]), (by rw [toK, if_neg (by omega)]), rfl, rfl⟩
                          | exact Bd.keepL [(0, .ptr 0 0 0), (2, .pv (i64 d)), (3, .pv (i64 lo)), (4, .pv (i64 hi)), (11, .ptr 1 0 0), (95, .pv (ints p.cs)), (96, .pv (i64 p.cs.length)), (97, .pv (i64 j)), (15, .pv (i64 (nth p.cs j))), (16, .pv (i64 (nth p.ks (j - 1)))), (17, .pv (i64 (nth p.ks j)))] ⟨rfl, rfl, rfl, rfl, rfl, rfl, rfl, rfl, rfl, rfl, rfl, trivial⟩ ⟨_, _, (by rw [frK, if_neg (by omega)]), (by rw [toK, if_pos (by omega)]), rfl, rfl⟩
                      · try simp at c8
                        refine VS_skip ?_
                        first
                          | exact Bd.keepL [(0, .ptr 0 0 0), (2, .pv (i64 d)), (3, .pv (i64 lo)), (4, .pv (i64 hi)), (11, .ptr 1 0 0), (95, .pv (ints p.cs)), (96, .pv (i64 p.cs.length)), (97, .pv (i64 j)), (15, .pv (i64 (nth p.cs j))), (16, .pv (i64 lo)), (17, .pv (i64 hi))] ⟨rfl, rfl, rfl, rfl, rfl, rfl, rfl, rfl, rfl, rfl, rfl, trivial⟩ ⟨_, _, (by rw [frK, if_pos (by omega)]), (by rw [toK, if_neg (by omega)]), rfl, rfl⟩
                          | exact Bd.keepL [(0, .ptr 0 0 0), (2, .pv (i64 d)), (3, .pv (i64 lo)), (4, .pv (i64 hi)), (11, .ptr 1 0 0), (95, .pv (ints p.cs)), (96, .pv (i64 p.cs.length)), (97, .pv (i64 j)), (15, .pv (i64 (nth p.cs j))), (16, .pv (i64 lo)), (17, .pv (i64 (nth p.ks j)))] ⟨rfl, rfl, rfl, rfl, rfl, rfl, rfl, rfl, rfl, rfl, rfl, trivial⟩ ⟨_, _, (by rw [frK, if_pos (by omega)]), (by rw [toK, if_pos (by omega)]), rfl, rfl⟩
                          | exact Bd.keepL [(0, .ptr 0 0 0), (2, .pv (i64 d)), (3, .pv (i64 lo)), (4, .pv (i64 hi)), (11, .ptr 1 0 0), (95, .pv (ints p.cs)), (96, .pv (i64 p.cs.length)), (97, .pv (i64 j)), (15, .pv (i64 (nth p.cs j))), (16, .pv (i64 (nth p.ks (j - 1)))), (17, .pv (i64 hi))] ⟨rfl, rfl, rfl, rfl, rfl, rfl, rfl, rfl, rfl, rfl, rfl, trivial⟩ ⟨_, _, (by rw [frK, if_neg (by omega)]), (by rw [toK, if_neg (by omega)]), rfl, rfl⟩
                          | exact Bd.keepL [(0, .ptr 0 0 0), (2, .pv (i64 d)), (3, .pv (i64 lo)), (4, .pv (i64 hi)), (11, .ptr 1 0 0), (95, .pv (ints p.cs)), (96, .pv (i64 p.cs.length)), (97, .pv (i64 j)), (15, .pv (i64 (nth p.cs j))), (16, .pv (i64 (nth p.ks (j - 1)))), (17, .pv (i64 (nth p.ks j)))] ⟨rfl, rfl, rfl, rfl, rfl, rfl, rfl, rfl, rfl, rfl, rfl, trivial⟩ ⟨_, _, (by rw [frK, if_neg (by omega)]), (by rw [toK, if_pos (by omega)]), rfl, rfl⟩
                    · rintro _ _ ⟨a, b, ha, hb, rfl, rfl⟩
                      refine VS_seq ?_
                      refine VS_r0 rfl ?_
                      refine q_mv rfl ?_
                      refine q_mv rfl ?_
                      refine q_mv rfl ?_
                      refine q_add rfl rfl (inR64 (by omega)) ?_
                      refine q_mv rfl ?_
                      refine q_mv rfl ?_
                      refine q_rdo rfl (ih (by omega) (nth p.cs j) a b si li (by omega)) chk_still (fun _ ob2 h => by obtain ⟨_, _, _, _, h2, _⟩ := h; rw [h2]; exact chk_still) rfl rfl (fun _ => trivial) ?_
                      rintro _ _ ⟨b2, s2, l2, rfl, rfl, hvt, hvf⟩
                      refine q_not rfl ?_
                      refine rg_nil ?_
                      refine VS_cond rfl (fun c9 => ?_) (fun c9 => ?_)
                      · try simp at c9
                        refine VS_seq ?_
                        refine VS_r0 rfl ?_
                        refine q_mv rfl ?_
                        refine rg_nil ?_
                        refine VS_ret ?_
                        exact Bd.now ⟨_, rfl, _, _, _, rfl, ⟨false, _, _, rfl, rfl, (fun e => by cases e), (fun _ h hv => by exact absurd hv (by intro hv; exact kids_bad (by rw [hpp]; exact gk) (by rw [hpp]; omega) (by rw [hpp, ← ha, ← hb]; exact hvf (by simpa using c9)) _ hv))⟩, rfl⟩
                      · try simp at c9
                        refine VS_skip ?_
                        refine VS_r0 rfl ?_
                        refine q_add rfl rfl (inR64 (by omega)) ?_
                        refine q_mv rfl ?_
                        refine rg_nil ?_
                        refine Exists.elim (hvt (by simpa using c9)) (fun h2 hh => ?_)
                        refine Bd.keepL [(0, .ptr 0 0 0), (2, .pv (i64 d)), (3, .pv (i64 lo)), (4, .pv (i64 hi)), (11, .ptr 1 0 0), (95, .pv (ints p.cs)), (96, .pv (i64 p.cs.length)), (97, .pv (i64 (j + 1)))] ⟨rfl, rfl, rfl, rfl, rfl, rfl, rfl, rfl, trivial⟩ ⟨_, ?_, j + 1, s2, l2, h2, rfl, ?_, ?_, ?_, rfl, rfl⟩
                        · first | omega | assumption | rfl | (simp; omega)
                        · first | omega | assumption | rfl | (simp; omega)
                        · have hl2 : l2 = (d : Int) + h2 := by have := hh.2.2; omega
                          rw [hl2, hh.2.1]
                          exact kids_step gk (by omega) (by rw [← ha, ← hb]; exact hh.1)
                        · have := hh.2.2
                          omega
                · try simp at c6
                  refine VS_exit ?_
                  refine VS_seq ?_
                  refine VS_r0 rfl ?_
                  refine q_mv rfl ?_
                  refine rg_nil ?_
                  refine VS_ret ?_
                  have e : j = p.cs.length := by omega
                  rw [e] at gk
                  have he := kids_end (t := t) (i0 := i) (by rw [hpp]; exact gk) (by rw [hpp]; omega) hin c1 (by rw [hpp]; exact hki) c0
                  exact Bd.now ⟨_, rfl, _, _, _, rfl, ⟨true, si, li, rfl, rfl, (fun _ => ⟨h + 1, he.1, he.2.1, he.2.2⟩), (fun e => by cases e)⟩, rfl⟩
      · try simp at g34
        refine q_f rfl ?_
        refine q_f rfl ?_
        refine q_f rfl ?_
        refine q_f rfl ?_
        refine q_f rfl ?_
        refine q_f rfl ?_
        refine q_pick_t rfl rfl ?_
        refine rg_nil ?_
        refine VS_cond rfl (fun _ => ?_) (fun e => by cases e)
        refine VS_seq ?_
        refine VS_r0 rfl ?_
        refine q_mv rfl ?_
        refine rg_nil ?_
        refine VS_ret ?_
        exact Bd.now ⟨_, rfl, _, _, _, rfl, ⟨false, _, _, rfl, rfl, (fun e => by cases e), (fun _ h hv => by exact absurd hv (by intro hv; have h1 := vis_no hv; first | omega | (have h2 := h1.2.2.1; simp_all)))⟩, rfl⟩
    · try simp at g30
      refine q_f rfl ?_
      refine q_f rfl ?_
      refine q_pick_t rfl rfl ?_
      refine q_mv rfl ?_
      refine q_f rfl ?_
      refine q_f rfl ?_
      refine q_f rfl ?_
      refine q_f rfl ?_
      refine q_f rfl ?_
      refine q_f rfl ?_
      refine q_pick_t rfl rfl ?_
      refine rg_nil ?_
      refine VS_cond rfl (fun _ => ?_) (fun e => by cases e)
      refine VS_seq ?_
      refine VS_r0 rfl ?_
      refine q_mv rfl ?_
      refine rg_nil ?_
      refine VS_ret ?_
      exact Bd.now ⟨_, rfl, _, _, _, rfl, ⟨false, _, _, rfl, rfl, (fun e => by cases e), (fun _ h hv => by exact absurd hv (by intro hv; have h1 := vis_no hv; first | omega | (have h2 := h1.2.2.1; simp_all)))⟩, rfl⟩
  · try simp at g20
    refine q_f rfl ?_
    refine q_f rfl ?_
    refine q_f rfl ?_
    refine q_f rfl ?_
    refine q_f rfl ?_
    refine q_f rfl ?_
    refine q_f rfl ?_
    refine q_f rfl ?_
    refine q_pick_t rfl rfl ?_
    refine q_mv rfl ?_
    refine q_f rfl ?_
    refine q_f rfl ?_
    refine q_pick_t rfl rfl ?_
    refine q_mv rfl ?_
    refine q_f rfl ?_
    refine q_f rfl ?_
    refine q_f rfl ?_
    refine q_f rfl ?_
    refine q_f rfl ?_
    refine q_f rfl ?_
    refine q_pick_t rfl rfl ?_
    refine rg_nil ?_
    refine VS_cond rfl (fun _ => ?_) (fun e => by cases e)
    refine VS_seq ?_
    refine VS_r0 rfl ?_
    refine q_mv rfl ?_
    refine rg_nil ?_
    refine VS_ret ?_
    exact Bd.now ⟨_, rfl, _, _, _, rfl, ⟨false, _, _, rfl, rfl, (fun e => by cases e), (fun _ h hv => by exact absurd hv (by intro hv; have h1 := vis_no hv; first | omega | (have h2 := h1.2.2.1; simp_all)))⟩, rfl⟩
theorem c_impl_pageCheck_visit (t : Pt) (hs : smallT t) (hn : t.ps.length ≤ 16) : ∀ (n d : Nat), d ≤ 3 → 3 ≤ d + n → ∀ (i lo hi : Int) (seen : Nat → Bool) (ld : Int), -1 ≤ ld → RdO prog 76 (chk 97 t seen ld) [i64 i, i64 d, i64 lo, i64 hi] (fun x ob => ∃ b s l, x = .bool b ∧ ob = chk 97 t s l ∧ (b = true → ∃ h, VisOK t i d lo hi seen ld h ∧ s = visSeen t i seen h ∧ l = d + h - 1) ∧ (b = false → ∀ h, ¬ VisOK t i d lo hi seen ld h)) := by
  intro n
  induction n with
  | zero => intro d hd h3 i lo hi seen ld hld; exact c_impl_pageCheck_visit_step t hs hn i d lo hi seen ld hd hld (fun h => absurd h (by omega))
  | succ n ih => intro d hd h3 i lo hi seen ld hld; exact c_impl_pageCheck_visit_step t hs hn i d lo hi seen ld hd hld (fun h i lo hi seen ld hld => ih (d + 1) (by omega) (by omega) i lo hi seen ld hld)
theorem sl_impl_ValidTree : slimF prog 37 = some (33, (.seq (.reg 0 (.op ⟨some 1, none, .box 53 2 (.t 0)⟩ (.op ⟨some 2, none, .mv (.c (.pv (.bool false)))⟩ .nil))) (.seq (.seq (.reg 0 (.op ⟨some 5, none, .fld 1 1 false (.t 1)⟩ (.op ⟨some 6, none, .load 1 false (.t 5)⟩ (.op ⟨some 7, none, .len (.t 6)⟩ (.op ⟨some 8, none, .bin .lss (.t 7) (.c (.pv (.int .i64 1)))⟩ (.op ⟨some 9, none, .mv (.t 8)⟩ (.op ⟨some 10, some (9, false), .fld 1 1 false (.t 1)⟩ (.op ⟨some 11, some (9, false), .load 1 false (.t 10)⟩ (.op ⟨some 12, some (9, false), .len (.t 11)⟩ (.op ⟨some 13, some (9, false), .bin .gtr (.t 12) (.c (.pv (.int .i64 16)))⟩ (.op ⟨some 14, none, .pick (.t 9) (.c (.pv (.bool true))) (.t 13)⟩ .nil))))))))))) (.cond (.t 14) (.seq (.reg 0 (.op ⟨some 2, none, .mv (.c (.pv (.bool false)))⟩ .nil)) .ret) .skip)) (.seq (.reg 0 (.op ⟨some 15, none, .load 2 true (.t 1)⟩ (.op ⟨some 16, none, .build [.pv (.int .i64 0), .nils, .pv (.bool false), .pv (.bool false), .pv (.bool false), .pv (.bool false), .pv (.bool false), .pv (.bool false), .pv (.bool false), .pv (.bool false), .pv (.bool false), .pv (.bool false), .pv (.bool false), .pv (.bool false), .pv (.bool false), .pv (.bool false), .pv (.bool false), .pv (.bool false), .pv (.int .i64 0)] [(0, (2, .t 15)), (18, (1, .c (.pv (.int .i64 (-1)))))]⟩ (.op ⟨some 3, none, .alloc 97 19 (.agg [.pv (.int .i64 0), .nils, .pv (.bool false), .pv (.bool false), .pv (.bool false), .pv (.bool false), .pv (.bool false), .pv (.bool false), .pv (.bool false), .pv (.bool false), .pv (.bool false), .pv (.bool false), .pv (.bool false), .pv (.bool false), .pv (.bool false), .pv (.bool false), .pv (.bool false), .pv (.bool false), .pv (.int .i64 0)])⟩ (.op ⟨none, none, .store 19 (.t 3) (.t 16)⟩ .nil))))) (.seq (.seq (.reg 0 (.op ⟨some 17, none, .fld 0 1 false (.t 1)⟩ (.op ⟨some 18, none, .load 1 false (.t 17)⟩ (.op ⟨some 19, none, .call 76 [.t 3, .t 18, .c (.pv (.int .i64 0)), .c (.pv (.int .i64 0)), .c (.pv (.int .i64 100))]⟩ (.op ⟨some 20, none, .not (.t 19)⟩ .nil))))) (.cond (.t 20) (.seq (.reg 0 (.op ⟨some 2, none, .mv (.c (.pv (.bool false)))⟩ .nil)) .ret) .skip)) (.seq (.seq (.reg 0 (.op ⟨some 21, none, .fld 1 1 false (.t 1)⟩ (.op ⟨some 22, none, .load 1 false (.t 21)⟩ (.op ⟨some 23, none, .len (.t 22)⟩ (.op ⟨some 24, none, .mv (.c (.pv (.int .i64 0)))⟩ .nil))))) (.block 0 (.loop (.seq (.reg 0 (.op ⟨some 25, none, .bin .lss (.t 24) (.t 23)⟩ .nil)) (.seq (.cond (.t 25) .skip (.exit 0)) (.seq (.block 1 (.seq (.reg 0 (.op ⟨some 26, none, .mv (.t 24)⟩ (.op ⟨some 4, none, .mv (.t 26)⟩ .nil))) (.seq (.reg 0 (.op ⟨some 27, none, .mv (.t 4)⟩ (.op ⟨some 28, none, .fld 2 16 true (.t 3)⟩ (.op ⟨some 29, none, .aidx 16 1 (.t 28) (.t 27)⟩ (.op ⟨some 30, none, .load 1 false (.t 29)⟩ (.op ⟨some 31, none, .not (.t 30)⟩ .nil)))))) (.cond (.t 31) (.seq (.reg 0 (.op ⟨some 2, none, .mv (.c (.pv (.bool false)))⟩ .nil)) .ret) .skip)))) (.reg 0 (.op ⟨some 32, none, .bin .add (.t 24) (.c (.pv (.int .i64 1)))⟩ (.op ⟨some 24, none, .mv (.t 32)⟩ .nil))))))))) (.seq (.reg 0 (.op ⟨some 2, none, .mv (.c (.pv (.bool true)))⟩ .nil)) .ret))))), [.t 2])) := by kernel_rfl
theorem c_impl_ValidTree (t : Pt) (hs : smallT t) : PCon prog 37 [ptP t] (fun p => p = .bool (validT t)) := by
  refine con_of_VS sl_impl_ValidTree (by simp) ?_
  refine VS_seq ?_
  refine VS_r0 rfl ?_
  refine q_box rfl rfl rfl trivial ?_
  refine q_mv rfl ?_
  refine rg_nil ?_
  refine VS_seq ?_
  refine VS_seq ?_
  refine VS_r0 rfl ?_
  first | refine q_fld_r rfl ?_ | refine q_fld_c rfl rfl ?_
  first | refine q_load_c rfl rfl rfl ?_ | refine q_load_r rfl rfl rfl rfl rfl rfl rfl ?_ | refine q_load_o rfl rfl rfl rfl rfl ?_
  first | refine q_len_m rfl ?_ | refine q_len_s rfl ?_ | refine q_len_o rfl ?_ | refine q_len_n rfl ?_ | refine q_len_x rfl ?_
  refine q_lss rfl rfl ?_
  refine q_mv rfl ?_
  refine q_b rfl (fun g9 => ?_) (fun g9 => ?_)
  · try simp at g9
    refine q_t rfl ?_
    first | refine q_fld_r rfl ?_ | refine q_fld_c rfl rfl ?_
    refine q_t rfl ?_
    first | refine q_load_c rfl rfl rfl ?_ | refine q_load_r rfl rfl rfl rfl rfl rfl rfl ?_ | refine q_load_o rfl rfl rfl rfl rfl ?_
    refine q_t rfl ?_
    first | refine q_len_m rfl ?_ | refine q_len_s rfl ?_ | refine q_len_o rfl ?_ | refine q_len_n rfl ?_ | refine q_len_x rfl ?_
    refine q_t rfl ?_
    refine q_gtr rfl rfl ?_
    refine q_pick_f rfl rfl ?_
    refine rg_nil ?_
    refine VS_cond rfl (fun c0 => ?_) (fun c0 => ?_)
    · try simp at c0
      refine VS_seq ?_
      refine VS_r0 rfl ?_
      refine q_mv rfl ?_
      refine rg_nil ?_
      refine VS_ret ?_
      refine Bd.now ⟨_, rfl, congrArg PV.bool ?_⟩
      exact (Bool.eq_false_iff.2 fun hc => by have := (valid_iff.1 hc).1; omega).symm
    · try simp at c0
      have hn : 1 ≤ t.ps.length ∧ t.ps.length ≤ 16 := by omega
      refine VS_skip ?_
      refine VS_seq ?_
      refine VS_r0 rfl ?_
      first | refine q_load_c rfl rfl rfl ?_ | refine q_load_ra rfl rfl rfl rfl rfl (by first | (simp; done) | (simp [setAt]; done)) rfl ?_
      refine q_build rfl ?_
      refine q_alloc trivial ?_
      first | refine q_store rfl rfl rfl rfl rfl rfl ⟨rfl, rfl, by simp, rfl, by simp [isOne]⟩ rfl trivial ?_ | refine q_storeF rfl rfl rfl rfl rfl (by first | (simp; done) | (simp [setAt]; done)) trivial ?_ | refine q_store rfl rfl rfl rfl rfl rfl ⟨rfl, rfl, by simp, by simp [setAt, isCell_own, isCell_sl, isCell_int, isCell_nils], by simp [isOne]⟩ rfl trivial ?_
      refine rg_nil ?_
      refine VS_seq ?_
      refine VS_seq ?_
      refine VS_st [some ⟨53, 2, [.pv (ptP t)]⟩, some (chk 97 t (fun _ => false) (-1))] rfl ?_
      refine VS_r0 rfl ?_
      first | refine q_fld_r rfl ?_ | refine q_fld_c rfl rfl ?_
      first | refine q_load_c rfl rfl rfl ?_ | refine q_load_r rfl rfl rfl rfl rfl rfl rfl ?_ | refine q_load_o rfl rfl rfl rfl rfl ?_
      refine q_rdo rfl (c_impl_pageCheck_visit t hs hn.2 3 0 (by omega) (by omega) t.r 0 100 (fun _ => false) (-1) (by omega)) chk_still (fun _ _ h => by obtain ⟨_, _, _, _, h2, _⟩ := h; rw [h2]; exact chk_still) rfl rfl (fun _ => trivial) ?_
      rintro _ _ ⟨b2, s2, l2, rfl, rfl, hvt, hvf⟩
      refine q_not rfl ?_
      refine rg_nil ?_
      refine VS_cond rfl (fun c1 => ?_) (fun c1 => ?_)
      · try simp at c1
        refine VS_seq ?_
        refine VS_r0 rfl ?_
        refine q_mv rfl ?_
        refine rg_nil ?_
        refine VS_ret ?_
        refine Bd.now ⟨_, rfl, congrArg PV.bool ?_⟩
        exact (valid_no (hvf (by simpa using c1))).symm
      · try simp at c1
        refine VS_skip ?_
        refine VS_seq ?_
        refine VS_seq ?_
        refine VS_r0 rfl ?_
        first | refine q_fld_r rfl ?_ | refine q_fld_c rfl rfl ?_
        first | refine q_load_c rfl rfl rfl ?_ | refine q_load_r rfl rfl rfl rfl rfl rfl rfl ?_ | refine q_load_o rfl rfl rfl rfl rfl ?_
        first | refine q_len_m rfl ?_ | refine q_len_s rfl ?_ | refine q_len_o rfl ?_ | refine q_len_n rfl ?_ | refine q_len_x rfl ?_
        refine q_mv rfl ?_
        refine rg_nil ?_
        refine VS_block ?_
        refine VS_bd (Bd.keepL [(3, .ptr 1 0 0), (2, .pv (.bool false)), (23, .pv (i64 t.ps.length)), (24, .pv (i64 0))] ⟨rfl, rfl, rfl, rfl, trivial⟩ ?_)
        refine VS_loop (fun mz E S => ∃ m : Nat, mz = t.ps.length - m ∧ (m ≤ t.ps.length) ∧ (∀ q, q < m → s2 q = true) ∧ E = env [(3, .ptr 1 0 0), (2, .pv (.bool false)), (23, .pv (i64 t.ps.length)), (24, .pv (i64 m))] ∧ S = [some ⟨53, 2, [.pv (ptP t)]⟩, some (chk 97 t s2 l2)]) ⟨_, 0, rfl, (by first | omega | (intros; omega) | simp), (by first | omega | (intros; omega) | simp), rfl, rfl⟩ ?_
        rintro mz _ _ ⟨m, hmeas, g0, g1, rfl, rfl⟩
        refine VS_seq ?_
        refine VS_r0 rfl ?_
        refine q_lss rfl rfl ?_
        refine rg_nil ?_
        refine VS_seq ?_
        refine VS_cond rfl (fun c2 => ?_) (fun c2 => ?_)
        · try simp at c2
          refine VS_skip ?_
          refine VS_seq ?_
          refine VS_block ?_
          refine VS_seq ?_
          refine VS_r0 rfl ?_
          refine q_mv rfl ?_
          refine q_mv rfl ?_
          refine rg_nil ?_
          refine VS_seq ?_
          refine VS_r0 rfl ?_
          refine q_mv rfl ?_
          first | refine q_fld_r rfl ?_ | refine q_fld_ca rfl (by simp) rfl ?_
          refine q_aidx_r rfl rfl ⟨by omega, by omega⟩ ?_
          refine q_load_r (d := .pv (.bool (s2 m))) rfl rfl rfl rfl rfl ?_ rfl ?_
          · rw [show 0 + 2 + (m : Int).toNat * 1 = 2 + m by omega]; exact chk_get (by omega)
          refine q_not rfl ?_
          refine rg_nil ?_
          refine VS_cond rfl (fun c3 => ?_) (fun c3 => ?_)
          · try simp at c3
            refine VS_seq ?_
            refine VS_r0 rfl ?_
            refine q_mv rfl ?_
            refine rg_nil ?_
            refine VS_ret ?_
            have hv := Classical.choose_spec (hvt (by simpa using c1))
            refine Bd.now ⟨_, rfl, congrArg PV.bool ?_⟩
            exact (Bool.eq_false_iff.2 fun hc => by have := (valid_vis hn hv.1).1 hc m (by omega); rw [← hv.2.1] at this; rw [this] at c3; cases c3).symm
          · try simp at c3
            refine VS_skip ?_
            refine VS_r0 rfl ?_
            refine q_add rfl rfl (inR64 (by omega)) ?_
            refine q_mv rfl ?_
            refine rg_nil ?_
            refine Bd.keepL [(3, .ptr 1 0 0), (2, .pv (.bool false)), (23, .pv (i64 t.ps.length)), (24, .pv (i64 (m + 1)))] ⟨rfl, rfl, rfl, rfl, trivial⟩ ⟨_, ?_, m + 1, rfl, ?_, ?_, rfl, rfl⟩
            · first | omega | assumption | rfl | (simp; omega)
            · first | omega | assumption | rfl | (simp; omega)
            · intro q hq
              by_cases e : q = m
              · subst e; simpa using c3
              · exact g1 q (by omega)
        · try simp at c2
          refine VS_exit ?_
          refine VS_seq ?_
          refine VS_r0 rfl ?_
          refine q_mv rfl ?_
          refine rg_nil ?_
          refine VS_ret ?_
          have hv := Classical.choose_spec (hvt (by simpa using c1))
          refine Bd.now ⟨_, rfl, congrArg PV.bool ?_⟩
          exact ((valid_vis hn hv.1).2 fun q hq => by rw [← hv.2.1]; exact g1 q (by omega)).symm
  · try simp at g9
    refine q_f rfl ?_
    refine q_f rfl ?_
    refine q_f rfl ?_
    refine q_f rfl ?_
    refine q_pick_t rfl rfl ?_
    refine rg_nil ?_
    refine VS_cond rfl (fun _ => ?_) (fun e => by cases e)
    refine VS_seq ?_
    refine VS_r0 rfl ?_
    refine q_mv rfl ?_
    refine rg_nil ?_
    refine VS_ret ?_
    refine Bd.now ⟨_, rfl, congrArg PV.bool ?_⟩
    exact (Bool.eq_false_iff.2 fun hc => by have := (valid_iff.1 hc).1; omega).symm
end Go.V

set_option maxHeartbeats 4000000
namespace Go.V
open Go.Proofs.Try (prog)
set_option maxRecDepth 100000
end Go.V

set_option maxHeartbeats 4000000
namespace Go.V
open Go.Proofs.Try (prog)
set_option maxRecDepth 100000
theorem sl_spec_share : slimF prog 95 = some (19, (.seq (.reg 0 (.op ⟨some 6, none, .mv (.c (.pv (.int .i64 0)))⟩ .nil)) (.seq (.reg 1 (.op ⟨some 7, none, .mv (.t 0)⟩ (.op ⟨some 8, none, .mv (.t 2)⟩ (.op ⟨some 9, none, .bin .add (.t 8) (.c (.pv (.int .i64 1)))⟩ (.op ⟨some 10, none, .bin .mul (.t 7) (.t 9)⟩ (.op ⟨some 11, none, .mv (.t 1)⟩ (.op ⟨some 12, none, .bin .quo (.t 10) (.t 11)⟩ (.op ⟨some 13, none, .mv (.t 0)⟩ (.op ⟨some 14, none, .mv (.t 2)⟩ (.op ⟨some 15, none, .bin .mul (.t 13) (.t 14)⟩ (.op ⟨some 16, none, .mv (.t 1)⟩ (.op ⟨some 17, none, .bin .quo (.t 15) (.t 16)⟩ (.op ⟨some 18, none, .bin .sub (.t 12) (.t 17)⟩ (.op ⟨some 6, none, .mv (.t 18)⟩ .nil)))))))))))))) .ret), [.t 6])) := by kernel_rfl
theorem c_spec_share (m n i : Nat) (hm : m ≤ 24) (hn : 1 ≤ n) (hi : i < 7) : PCon prog 95 [i64 m, i64 n, i64 i] (fun p => p = i64 ((cutAt m n (i + 1) : Int) - (cutAt m n i : Int))) := by
  have hb1 := mul_le24 (i := i + 1) hm (by omega)
  have hb2 := mul_le24 (i := i) hm (by omega)
  have hc1 : cutAt m n (i + 1) ≤ m * (i + 1) := Nat.div_le_self _ _
  have hc2 : cutAt m n i ≤ m * i := Nat.div_le_self _ _
  refine con_of_VS sl_spec_share (by simp) ?_
  refine VS_seq ?_
  refine VS_r0 rfl ?_
  refine q_mv rfl ?_
  refine rg_nil ?_
  refine VS_seq ?_
  refine VS_r1 hmix rfl ?_
  refine q_mv rfl ?_
  refine q_mv rfl ?_
  refine q_add rfl rfl (inR64 (by omega)) ?_
  refine q_mul_to ((m * (i + 1) : Nat) : Int) rfl rfl (by simp) (inR64 (by omega)) ?_
  refine q_mv rfl ?_
  refine q_quo_to ((cutAt m n (i + 1) : Nat) : Int) rfl rfl ⟨by omega, by omega⟩ rfl (inR64 (by omega)) ?_
  refine q_mv rfl ?_
  refine q_mv rfl ?_
  refine q_mul_to ((m * i : Nat) : Int) rfl rfl (by simp) (inR64 (by omega)) ?_
  refine q_mv rfl ?_
  refine q_quo_to ((cutAt m n i : Nat) : Int) rfl rfl ⟨by omega, by omega⟩ rfl (inR64 (by omega)) ?_
  refine q_sub rfl rfl (inR64 (by omega)) ?_
  refine q_mv rfl ?_
  refine rg_nil ?_
  refine VS_ret ?_
  exact Bd.now ⟨_, rfl, (by first | rfl | (simp [*]; done) | (simp; omega) | (simp_all; done) | (simp_all; omega))⟩
theorem sl_spec_leafOf : slimF prog 96 = some (27, (.seq (.reg 0 (.op ⟨some 2, none, .alloc 65 3 (.agg [.nils, .nils, .nils])⟩ .nil)) (.seq (.reg 0 (.op ⟨some 5, none, .mv (.t 0)⟩ (.op ⟨some 6, none, .call 44 [.t 5]⟩ (.op ⟨some 7, none, .lit 3 1 0 [.pv (.int .i64 0)] []⟩ (.op ⟨some 8, none, .lit 3 1 0 [.pv (.int .i64 0)] []⟩ (.op ⟨some 9, none, .build [.nils, .nils, .nils] [(0, (1, .t 6)), (1, (1, .t 7)), (2, (1, .t 8))]⟩ (.op ⟨some 3, none, .alloc 65 3 (.agg [.nils, .nils, .nils])⟩ (.op ⟨none, none, .store 3 (.t 3) (.t 9)⟩ .nil)))))))) (.seq (.seq (.reg 0 (.op ⟨some 4, none, .mv (.c (.pv (.int .i64 0)))⟩ .nil)) (.block 0 (.loop (.seq (.seq (.reg 0 (.op ⟨some 10, none, .mv (.t 4)⟩ (.op ⟨some 11, none, .mv (.t 0)⟩ (.op ⟨some 12, none, .len (.t 11)⟩ (.op ⟨some 13, none, .bin .lss (.t 10) (.t 12)⟩ .nil))))) (.cond (.t 13) .skip (.exit 0))) (.seq (.block 1 (.reg 2 (.op ⟨some 16, none, .fld 2 1 false (.t 3)⟩ (.op ⟨some 17, none, .load 1 false (.t 16)⟩ (.op ⟨some 18, none, .mv (.t 0)⟩ (.op ⟨some 19, none, .mv (.t 4)⟩ (.op ⟨some 20, none, .idx 2 (.t 18) (.t 19)⟩ (.op ⟨some 21, none, .fld 1 1 false (.t 20)⟩ (.op ⟨some 22, none, .load 1 false (.t 21)⟩ (.op ⟨some 23, none, .lit 3 1 1 [.pv (.int .i64 0)] [(0, .t 22)]⟩ (.op ⟨some 24, none, .app 3 1 8 (.t 17) (.t 23)⟩ (.op ⟨some 25, none, .fld 2 1 false (.t 3)⟩ (.last ⟨none, none, .store 1 (.t 25) (.t 24)⟩))))))))))))) (.reg 0 (.op ⟨some 14, none, .mv (.t 4)⟩ (.op ⟨some 15, none, .bin .add (.t 14) (.c (.pv (.int .i64 1)))⟩ (.op ⟨some 4, none, .mv (.t 15)⟩ .nil))))))))) (.seq (.reg 0 (.op ⟨some 26, none, .load 3 true (.t 3)⟩ (.op ⟨none, none, .store 3 (.t 2) (.t 26)⟩ .nil))) .ret))), [.c 2 3])) := by kernel_rfl
theorem c_spec_leafOf (xs : List (Int × Int)) (hl : xs.length ≤ 1000000) : PCon prog 96 [prs xs] (fun p => p = pgP (leafG xs)) := by
  refine con_of_VS sl_spec_leafOf (by simp) ?_
  refine VS_seq ?_
  refine VS_r0 rfl ?_
  refine q_alloc trivial ?_
  refine rg_nil ?_
  refine VS_seq ?_
  refine VS_r0 rfl ?_
  refine q_mv rfl ?_
  refine q_callp (c_spec_keysOf xs (by omega)) rfl trivial ?_
  refine q_lit0 ?_
  refine q_lit0 ?_
  refine q_build rfl ?_
  refine q_alloc trivial ?_
  first | refine q_store rfl rfl rfl rfl rfl rfl ⟨rfl, rfl, by simp, rfl, by simp [isOne]⟩ rfl trivial ?_ | refine q_storeF rfl rfl rfl rfl rfl (by first | (simp; done) | (simp [setAt]; done)) trivial ?_ | refine q_store rfl rfl rfl rfl rfl rfl ⟨rfl, rfl, by simp, by simp [setAt, isCell_own, isCell_sl, isCell_int, isCell_nils], by simp [isOne]⟩ rfl trivial ?_
  refine rg_nil ?_
  refine VS_seq ?_
  refine VS_seq ?_
  refine VS_r0 rfl ?_
  refine q_mv rfl ?_
  refine rg_nil ?_
  refine VS_block ?_
  refine VS_bd (Bd.pad ?_)
  refine VS_bd (Bd.keepL [(0, .pv (prs xs)), (2, .ptr 0 0 0), (3, .ptr 1 0 0), (4, .pv (i64 0))] ⟨rfl, rfl, rfl, rfl, trivial⟩ ?_)
  refine VS_loop (fun mz E S => ∃ i : Nat, ∃ ys : List Int, mz = xs.length - i ∧ (i ≤ xs.length) ∧ (ys = (xs.take i).map Prod.snd) ∧ (ys.length = i) ∧ E = env [(0, .pv (prs xs)), (2, .ptr 0 0 0), (3, .ptr 1 0 0), (4, .pv (i64 i))] ∧ S = [some ⟨65, 3, [.agg [.nils, .nils, .nils]]⟩, some ⟨65, 3, [.agg [.pv (ints (keysR xs)), .nils, ownD 2 (dI ys)]]⟩, obD 3 1 (dI ys)]) ⟨_, 0, [], rfl, (by first | omega | (intros; omega) | simp), rfl, rfl, rfl, rfl⟩ ?_
  rintro mz _ _ ⟨i, ys, hmeas, g0, g1, g2, rfl, rfl⟩
  refine VS_seq ?_
  refine VS_seq ?_
  refine VS_r0 rfl ?_
  refine q_mv rfl ?_
  refine q_mv rfl ?_
  first | refine q_len_m rfl ?_ | refine q_len_s rfl ?_ | refine q_len_o rfl ?_ | refine q_len_n rfl ?_ | refine q_len_x rfl ?_
  refine q_lss rfl rfl ?_
  refine rg_nil ?_
  refine VS_cond rfl (fun c0 => ?_) (fun c0 => ?_)
  · try simp at c0
    refine VS_skip ?_
    refine VS_seq ?_
    refine VS_block ?_
    refine VS_r2 [none, some ⟨65, 3, [.agg [.pv (ints (keysR xs)), .nils, ownD 2 (dI ys)]]⟩] hmix (SubL.sub (by repeat (first | exact SubL.nil | apply SubL.none | apply SubL.some | apply SubL.sh | apply SubL.eq))) ?_
    first | refine q_fld_r rfl ?_ | refine q_fld_c rfl rfl ?_
    first | refine q_load_c rfl rfl rfl ?_ | refine q_load_r rfl rfl rfl rfl rfl rfl rfl ?_ | refine q_load_o rfl rfl rfl rfl rfl ?_
    refine q_mv rfl ?_
    refine q_mv rfl ?_
    refine q_idx_m (f := pairP) (xs := xs) (n := (i : Int)) rfl rfl (by omega) (by omega) (fun _ => rfl) ?_
    first | refine q_fld_r rfl ?_ | refine q_fld_c rfl rfl ?_
    first | refine q_load_c rfl rfl rfl ?_ | refine q_load_r rfl rfl rfl rfl rfl rfl rfl ?_ | refine q_load_o rfl rfl rfl rfl rfl ?_
    refine q_lit (xs := [i64 (nth xs i).2]) rfl rfl rfl rfl ?_
    refine q_app_dm (xs := ys) (ys := [(nth xs i).2]) (f := fun k => .pv (i64 k)) rfl rfl rfl rfl ⟨by simp; omega, by simp; omega⟩ (by first | exact trivial | exact Sub.nil | exact Sub.refl _ | exact Sub.app _ _ | exact SubL.sub (by repeat (first | exact SubL.nil | apply SubL.none | apply SubL.some | apply SubL.sh | apply SubL.eq)) | (refine Sub.of_eq ?_; intro o ob h; rcases o with _ | _ | _ | _ | _ | o <;> simp_all)) ?_
    first | refine q_fld_r rfl ?_ | refine q_fld_c rfl rfl ?_
    refine q_last ?_
    first | refine q_store rfl rfl rfl rfl rfl rfl ⟨rfl, rfl, by simp, rfl, by simp [isOne]⟩ rfl (by first | exact trivial | exact Sub.nil | exact Sub.refl _ | exact Sub.app _ _ | exact SubL.sub (by repeat (first | exact SubL.nil | apply SubL.none | apply SubL.some | apply SubL.sh | apply SubL.eq)) | (refine Sub.of_eq ?_; intro o ob h; rcases o with _ | _ | _ | _ | _ | o <;> simp_all)) ?_ | refine q_storeF rfl rfl rfl rfl rfl (by first | (simp; done) | (simp [setAt]; done)) (by first | exact trivial | exact Sub.nil | exact Sub.refl _ | exact Sub.app _ _ | exact SubL.sub (by repeat (first | exact SubL.nil | apply SubL.none | apply SubL.some | apply SubL.sh | apply SubL.eq)) | (refine Sub.of_eq ?_; intro o ob h; rcases o with _ | _ | _ | _ | _ | o <;> simp_all)) ?_ | refine q_store rfl rfl rfl rfl rfl rfl ⟨rfl, rfl, by simp, by simp [setAt, isCell_own, isCell_sl, isCell_int, isCell_nils], by simp [isOne]⟩ rfl (by first | exact trivial | exact Sub.nil | exact Sub.refl _ | exact Sub.app _ _ | exact SubL.sub (by repeat (first | exact SubL.nil | apply SubL.none | apply SubL.some | apply SubL.sh | apply SubL.eq)) | (refine Sub.of_eq ?_; intro o ob h; rcases o with _ | _ | _ | _ | _ | o <;> simp_all)) ?_
    refine rg_nil ?_
    refine VS_r0 rfl ?_
    refine q_mv rfl ?_
    refine q_add rfl rfl (inR64 (by omega)) ?_
    refine q_mv rfl ?_
    refine rg_nil ?_
    refine Bd.renL [0, 1, 3] (fun i hi => by first | (exact absurd hi (Nat.not_lt_zero i)) | (have e : i = 0 := (by simp at hi; omega); subst e; rfl) | (have e : i = 0 ∨ i = 1 := (by simp at hi; omega); rcases e with rfl | rfl <;> rfl)) (by simp) [(0, .pv (prs xs)), (2, .ptr 0 0 0), (3, .ptr 1 0 0), (4, .pv (i64 (i + 1)))] ⟨rfl, rfl, rfl, rfl, trivial⟩ (l3 rfl (congrArg (fun z => some (⟨65, 3, [.agg [.pv (ints (keysR xs)), .nils, z]]⟩ : Ob)) (mp1_own rfl)) (obD_mI _)) ⟨_, ?_, i + 1, ys ++ [(nth xs i).2], rfl, ?_, ?_, ?_, rfl, rfl⟩
    · first | omega | assumption | rfl | (simp; omega)
    · first | omega | assumption | rfl | (simp; omega)
    · rw [g1, take_succ_nth (by omega)]; simp
    · simp; omega
  · try simp at c0
    refine VS_exit ?_
    refine VS_seq ?_
    refine VS_bd (Bd.frzF 2 1 0 2 3 1 (xs := dI ys) (by decide) rfl (toPVs_dI _) rfl rfl rfl ?_)
    refine VS_r0 rfl ?_
    first | refine q_load_c rfl rfl rfl ?_ | refine q_load_ra rfl rfl rfl rfl rfl (by first | (simp; done) | (simp [setAt]; done)) rfl ?_
    first | refine q_store rfl rfl rfl rfl rfl rfl ⟨rfl, rfl, by simp, rfl, by simp [isOne]⟩ rfl trivial ?_ | refine q_storeF rfl rfl rfl rfl rfl (by first | (simp; done) | (simp [setAt]; done)) trivial ?_ | refine q_store rfl rfl rfl rfl rfl rfl ⟨rfl, rfl, by simp, by simp [setAt, isCell_own, isCell_sl, isCell_int, isCell_nils], by simp [isOne]⟩ rfl trivial ?_
    refine rg_nil ?_
    refine VS_ret ?_
    have e : i = xs.length := by omega
    rw [e, List.take_length] at g1
    exact Bd.now ⟨_, rfl, by rw [leafG, g1]; rfl⟩
theorem sl_spec_innerOf : slimF prog 97 = some (9, (.seq (.reg 0 (.op ⟨some 1, none, .box 38 2 (.t 0)⟩ (.op ⟨some 2, none, .alloc 65 3 (.agg [.nils, .nils, .nils])⟩ .nil))) (.seq (.reg 0 (.op ⟨some 3, none, .fld 0 1 false (.t 1)⟩ (.op ⟨some 4, none, .load 1 false (.t 3)⟩ (.op ⟨some 5, none, .fld 1 1 false (.t 1)⟩ (.op ⟨some 6, none, .load 1 false (.t 5)⟩ (.op ⟨some 7, none, .lit 3 1 0 [.pv (.int .i64 0)] []⟩ (.op ⟨some 8, none, .build [.nils, .nils, .nils] [(0, (1, .t 4)), (1, (1, .t 6)), (2, (1, .t 7))]⟩ (.op ⟨none, none, .store 3 (.t 2) (.t 8)⟩ .nil)))))))) .ret), [.c 2 3])) := by kernel_rfl
theorem c_spec_innerOf (ks cs : List Int) : PCon prog 97 [innP ks cs] (fun p => p = pgP ⟨ks, cs, []⟩) := by
  refine con_of_VS sl_spec_innerOf (by simp) ?_
  refine VS_seq ?_
  refine VS_r0 rfl ?_
  refine q_box rfl rfl rfl trivial ?_
  refine q_alloc trivial ?_
  refine rg_nil ?_
  refine VS_seq ?_
  refine VS_r0 rfl ?_
  first | refine q_fld_r rfl ?_ | refine q_fld_c rfl rfl ?_
  first | refine q_load_c rfl rfl rfl ?_ | refine q_load_r rfl rfl rfl rfl rfl rfl rfl ?_ | refine q_load_o rfl rfl rfl rfl rfl ?_
  first | refine q_fld_r rfl ?_ | refine q_fld_c rfl rfl ?_
  first | refine q_load_c rfl rfl rfl ?_ | refine q_load_r rfl rfl rfl rfl rfl rfl rfl ?_ | refine q_load_o rfl rfl rfl rfl rfl ?_
  refine q_lit0 ?_
  refine q_build rfl ?_
  first | refine q_store rfl rfl rfl rfl rfl rfl ⟨rfl, rfl, by simp, rfl, by simp [isOne]⟩ rfl trivial ?_ | refine q_storeF rfl rfl rfl rfl rfl (by first | (simp; done) | (simp [setAt]; done)) trivial ?_ | refine q_store rfl rfl rfl rfl rfl rfl ⟨rfl, rfl, by simp, by simp [setAt, isCell_own, isCell_sl, isCell_int, isCell_nils], by simp [isOne]⟩ rfl trivial ?_
  refine rg_nil ?_
  refine VS_ret ?_
  exact Bd.now ⟨_, rfl, rfl⟩
theorem sl_spec_load : slimF prog 72 [(35, 6)] = some (184, (.seq (.reg 0 (.op ⟨some 2, none, .alloc 53 2 (.agg [.pv (.int .i64 0), .nils])⟩ .nil)) (.seq (.reg 0 (.op ⟨some 16, none, .mv (.t 0)⟩ (.op ⟨some 17, none, .len (.t 16)⟩ (.op ⟨some 18, none, .bin .add (.t 17) (.c (.pv (.int .i64 4)))⟩ (.op ⟨some 19, none, .bin .sub (.t 18) (.c (.pv (.int .i64 1)))⟩ (.op ⟨some 20, none, .bin .quo (.t 19) (.c (.pv (.int .i64 4)))⟩ (.op ⟨some 21, none, .mx (.c (.pv (.int .i64 1))) (.t 20)⟩ (.op ⟨some 3, none, .mv (.t 21)⟩ .nil)))))))) (.seq (.reg 0 (.op ⟨some 22, none, .lit 65 3 0 [.nils, .nils, .nils] []⟩ (.op ⟨some 4, none, .mv (.t 22)⟩ .nil))) (.seq (.reg 0 (.op ⟨some 5, none, .mv (.c (.pv (.int .i64 0)))⟩ .nil)) (.seq (.seq (.reg 0 (.op ⟨some 6, none, .mv (.c (.pv (.int .i64 0)))⟩ .nil)) (.block 0 (.loop (.seq (.seq (.reg 0 (.op ⟨some 23, none, .mv (.t 6)⟩ (.op ⟨some 24, none, .mv (.t 3)⟩ (.op ⟨some 25, none, .bin .lss (.t 23) (.t 24)⟩ .nil)))) (.cond (.t 25) .skip (.exit 0))) (.seq (.block 1 (.seq (.reg 0 (.op ⟨some 28, none, .mv (.t 0)⟩ (.op ⟨some 29, none, .len (.t 28)⟩ (.op ⟨some 30, none, .mv (.t 3)⟩ (.op ⟨some 31, none, .mv (.t 6)⟩ (.op ⟨some 32, none, .call 95 [.t 29, .t 30, .t 31]⟩ (.op ⟨some 7, none, .mv (.t 32)⟩ .nil))))))) (.seq (.reg 0 (.op ⟨some 33, none, .mv (.t 4)⟩ (.op ⟨some 34, none, .mv (.t 0)⟩ (.op ⟨some 35, none, .mv (.t 5)⟩ (.op ⟨some 36, none, .mv (.t 5)⟩ (.op ⟨some 37, none, .mv (.t 7)⟩ (.op ⟨some 38, none, .bin .add (.t 36) (.t 37)⟩ (.op ⟨some 39, none, .slc 2 (.t 34) (some (.t 35)) (some (.t 38))⟩ (.op ⟨some 40, none, .call 96 [.t 39]⟩ (.op ⟨some 41, none, .lit 65 3 1 [.nils, .nils, .nils] [(0, .t 40)]⟩ (.op ⟨some 42, none, .app 65 3 72 (.t 33) (.t 41)⟩ (.op ⟨some 4, none, .mv (.t 42)⟩ .nil)))))))))))) (.reg 0 (.op ⟨some 43, none, .mv (.t 5)⟩ (.op ⟨some 44, none, .mv (.t 7)⟩ (.op ⟨some 45, none, .bin .add (.t 43) (.t 44)⟩ (.op ⟨some 5, none, .mv (.t 45)⟩ .nil)))))))) (.reg 0 (.op ⟨some 26, none, .mv (.t 6)⟩ (.op ⟨some 27, none, .bin .add (.t 26) (.c (.pv (.int .i64 1)))⟩ (.op ⟨some 6, none, .mv (.t 27)⟩ .nil))))))))) (.seq (.seq (.reg 0 (.op ⟨some 46, none, .mv (.t 3)⟩ (.op ⟨some 47, none, .bin .eql (.t 46) (.c (.pv (.int .i64 1)))⟩ .nil))) (.cond (.t 47) (.seq (.reg 0 (.op ⟨some 48, none, .mv (.t 4)⟩ (.op ⟨some 49, none, .build [.pv (.int .i64 0), .nils] [(1, (1, .t 48))]⟩ (.op ⟨none, none, .store 2 (.t 2) (.t 49)⟩ .nil)))) .ret) .skip)) (.seq (.seq (.reg 0 (.op ⟨some 50, none, .mv (.t 3)⟩ (.op ⟨some 51, none, .bin .leq (.t 50) (.c (.pv (.int .i64 5)))⟩ .nil))) (.cond (.t 51) (.seq (.reg 0 (.op ⟨some 52, none, .lit 3 1 0 [.pv (.int .i64 0)] []⟩ (.op ⟨some 53, none, .lit 3 1 0 [.pv (.int .i64 0)] []⟩ (.op ⟨some 54, none, .build [.nils, .nils] [(0, (1, .t 52)), (1, (1, .t 53))]⟩ (.op ⟨some 8, none, .alloc 38 2 (.agg [.nils, .nils])⟩ (.op ⟨none, none, .store 2 (.t 8) (.t 54)⟩ .nil)))))) (.seq (.seq (.reg 0 (.op ⟨some 9, none, .mv (.c (.pv (.int .i64 0)))⟩ .nil)) (.block 2 (.loop (.seq (.seq (.reg 0 (.op ⟨some 55, none, .mv (.t 9)⟩ (.op ⟨some 56, none, .mv (.t 3)⟩ (.op ⟨some 57, none, .bin .lss (.t 55) (.t 56)⟩ .nil)))) (.cond (.t 57) .skip (.exit 2))) (.seq (.block 3 (.seq (.seq (.reg 0 (.op ⟨some 60, none, .mv (.t 9)⟩ (.op ⟨some 61, none, .bin .gtr (.t 60) (.c (.pv (.int .i64 0)))⟩ .nil))) (.cond (.t 61) (.reg 2 (.op ⟨some 62, none, .fld 0 1 false (.t 8)⟩ (.op ⟨some 63, none, .load 1 false (.t 62)⟩ (.op ⟨some 64, none, .mv (.t 4)⟩ (.op ⟨some 65, none, .mv (.t 9)⟩ (.op ⟨some 66, none, .idx 3 (.t 64) (.t 65)⟩ (.op ⟨some 67, none, .fld 0 1 false (.t 66)⟩ (.op ⟨some 68, none, .load 1 false (.t 67)⟩ (.op ⟨some 69, none, .idx 1 (.t 68) (.c (.pv (.int .i64 0)))⟩ (.op ⟨some 70, none, .load 1 false (.t 69)⟩ (.op ⟨some 71, none, .lit 3 1 1 [.pv (.int .i64 0)] [(0, .t 70)]⟩ (.op ⟨some 72, none, .app 3 1 8 (.t 63) (.t 71)⟩ (.op ⟨some 73, none, .fld 0 1 false (.t 8)⟩ (.last ⟨none, none, .store 1 (.t 73) (.t 72)⟩)))))))))))))) .skip)) (.reg 0 (.op ⟨some 74, none, .fld 1 1 false (.t 8)⟩ (.op ⟨some 75, none, .load 1 false (.t 74)⟩ (.op ⟨some 76, none, .mv (.t 9)⟩ (.op ⟨some 77, none, .bin .add (.t 76) (.c (.pv (.int .i64 1)))⟩ (.op ⟨some 78, none, .lit 3 1 1 [.pv (.int .i64 0)] [(0, .t 77)]⟩ (.op ⟨some 79, none, .app 3 1 8 (.t 75) (.t 78)⟩ (.op ⟨some 80, none, .fld 1 1 false (.t 8)⟩ (.op ⟨none, none, .store 1 (.t 80) (.t 79)⟩ .nil))))))))))) (.reg 0 (.op ⟨some 58, none, .mv (.t 9)⟩ (.op ⟨some 59, none, .bin .add (.t 58) (.c (.pv (.int .i64 1)))⟩ (.op ⟨some 9, none, .mv (.t 59)⟩ .nil))))))))) (.seq (.reg 0 (.op ⟨some 81, none, .load 2 true (.t 8)⟩ (.op ⟨some 82, none, .call 97 [.t 81]⟩ (.op ⟨some 83, none, .lit 65 3 1 [.nils, .nils, .nils] [(0, .t 82)]⟩ (.op ⟨some 84, none, .mv (.t 4)⟩ (.op ⟨some 85, none, .app 65 3 72 (.t 83) (.t 84)⟩ (.op ⟨some 86, none, .build [.pv (.int .i64 0), .nils] [(1, (1, .t 85))]⟩ (.op ⟨none, none, .store 2 (.t 2) (.t 86)⟩ .nil)))))))) .ret))) .skip)) (.seq (.reg 0 (.op ⟨some 87, none, .mv (.t 3)⟩ (.op ⟨some 88, none, .bin .quo (.t 87) (.c (.pv (.int .i64 2)))⟩ (.op ⟨some 10, none, .mv (.t 88)⟩ .nil)))) (.seq (.reg 0 (.op ⟨some 89, none, .lit 3 1 0 [.pv (.int .i64 0)] []⟩ (.op ⟨some 90, none, .lit 3 1 0 [.pv (.int .i64 0)] []⟩ (.op ⟨some 91, none, .build [.nils, .nils] [(0, (1, .t 89)), (1, (1, .t 90))]⟩ (.op ⟨some 11, none, .alloc 38 2 (.agg [.nils, .nils])⟩ (.op ⟨none, none, .store 2 (.t 11) (.t 91)⟩ .nil)))))) (.seq (.reg 0 (.op ⟨some 92, none, .lit 3 1 0 [.pv (.int .i64 0)] []⟩ (.op ⟨some 93, none, .lit 3 1 0 [.pv (.int .i64 0)] []⟩ (.op ⟨some 94, none, .build [.nils, .nils] [(0, (1, .t 92)), (1, (1, .t 93))]⟩ (.op ⟨some 12, none, .alloc 38 2 (.agg [.nils, .nils])⟩ (.op ⟨none, none, .store 2 (.t 12) (.t 94)⟩ .nil)))))) (.seq (.seq (.reg 0 (.op ⟨some 13, none, .mv (.c (.pv (.int .i64 0)))⟩ .nil)) (.block 4 (.loop (.seq (.seq (.reg 0 (.op ⟨some 95, none, .mv (.t 13)⟩ (.op ⟨some 96, none, .mv (.t 3)⟩ (.op ⟨some 97, none, .bin .lss (.t 95) (.t 96)⟩ .nil)))) (.cond (.t 97) .skip (.exit 4))) (.seq (.block 5 (.seq (.seq (.reg 0 (.op ⟨some 100, none, .mv (.t 13)⟩ (.op ⟨some 101, none, .mv (.t 10)⟩ (.op ⟨some 102, none, .bin .lss (.t 100) (.t 101)⟩ .nil)))) (.cond (.t 102) (.reg 0 (.op ⟨some 103, none, .fld 1 1 false (.t 11)⟩ (.op ⟨some 104, none, .load 1 false (.t 103)⟩ (.op ⟨some 105, none, .mv (.t 13)⟩ (.op ⟨some 106, none, .bin .add (.c (.pv (.int .i64 2))) (.t 105)⟩ (.op ⟨some 107, none, .lit 3 1 1 [.pv (.int .i64 0)] [(0, .t 106)]⟩ (.op ⟨some 108, none, .app 3 1 8 (.t 104) (.t 107)⟩ (.op ⟨some 109, none, .fld 1 1 false (.t 11)⟩ (.op ⟨none, none, .store 1 (.t 109) (.t 108)⟩ .nil))))))))) (.reg 0 (.op ⟨some 110, none, .fld 1 1 false (.t 12)⟩ (.op ⟨some 111, none, .load 1 false (.t 110)⟩ (.op ⟨some 112, none, .mv (.t 13)⟩ (.op ⟨some 113, none, .bin .add (.c (.pv (.int .i64 3))) (.t 112)⟩ (.op ⟨some 114, none, .lit 3 1 1 [.pv (.int .i64 0)] [(0, .t 113)]⟩ (.op ⟨some 115, none, .app 3 1 8 (.t 111) (.t 114)⟩ (.op ⟨some 116, none, .fld 1 1 false (.t 12)⟩ (.op ⟨none, none, .store 1 (.t 116) (.t 115)⟩ .nil))))))))))) (.seq (.seq (.reg 0 (.op ⟨some 117, none, .mv (.t 13)⟩ (.op ⟨some 118, none, .bin .gtr (.t 117) (.c (.pv (.int .i64 0)))⟩ (.op ⟨some 119, none, .mv (.t 118)⟩ (.op ⟨some 120, some (119, true), .mv (.t 13)⟩ (.op ⟨some 121, some (119, true), .mv (.t 10)⟩ (.op ⟨some 122, some (119, true), .bin .lss (.t 120) (.t 121)⟩ (.op ⟨some 123, none, .pick (.t 119) (.t 122) (.c (.pv (.bool false)))⟩ .nil)))))))) (.cond (.t 123) (.reg 2 (.op ⟨some 124, none, .fld 0 1 false (.t 11)⟩ (.op ⟨some 125, none, .load 1 false (.t 124)⟩ (.op ⟨some 126, none, .mv (.t 4)⟩ (.op ⟨some 127, none, .mv (.t 13)⟩ (.op ⟨some 128, none, .idx 3 (.t 126) (.t 127)⟩ (.op ⟨some 129, none, .fld 0 1 false (.t 128)⟩ (.op ⟨some 130, none, .load 1 false (.t 129)⟩ (.op ⟨some 131, none, .idx 1 (.t 130) (.c (.pv (.int .i64 0)))⟩ (.op ⟨some 132, none, .load 1 false (.t 131)⟩ (.op ⟨some 133, none, .lit 3 1 1 [.pv (.int .i64 0)] [(0, .t 132)]⟩ (.op ⟨some 134, none, .app 3 1 8 (.t 125) (.t 133)⟩ (.op ⟨some 135, none, .fld 0 1 false (.t 11)⟩ (.last ⟨none, none, .store 1 (.t 135) (.t 134)⟩)))))))))))))) .skip)) (.seq (.reg 0 (.op ⟨some 136, none, .mv (.t 13)⟩ (.op ⟨some 137, none, .mv (.t 10)⟩ (.op ⟨some 138, none, .bin .gtr (.t 136) (.t 137)⟩ .nil)))) (.cond (.t 138) (.reg 2 (.op ⟨some 139, none, .fld 0 1 false (.t 12)⟩ (.op ⟨some 140, none, .load 1 false (.t 139)⟩ (.op ⟨some 141, none, .mv (.t 4)⟩ (.op ⟨some 142, none, .mv (.t 13)⟩ (.op ⟨some 143, none, .idx 3 (.t 141) (.t 142)⟩ (.op ⟨some 144, none, .fld 0 1 false (.t 143)⟩ (.op ⟨some 145, none, .load 1 false (.t 144)⟩ (.op ⟨some 146, none, .idx 1 (.t 145) (.c (.pv (.int .i64 0)))⟩ (.op ⟨some 147, none, .load 1 false (.t 146)⟩ (.op ⟨some 148, none, .lit 3 1 1 [.pv (.int .i64 0)] [(0, .t 147)]⟩ (.op ⟨some 149, none, .app 3 1 8 (.t 140) (.t 148)⟩ (.op ⟨some 150, none, .fld 0 1 false (.t 12)⟩ (.last ⟨none, none, .store 1 (.t 150) (.t 149)⟩)))))))))))))) .skip))))) (.reg 0 (.op ⟨some 98, none, .mv (.t 13)⟩ (.op ⟨some 99, none, .bin .add (.t 98) (.c (.pv (.int .i64 1)))⟩ (.op ⟨some 13, none, .mv (.t 99)⟩ .nil))))))))) (.seq (.reg 0 (.op ⟨some 151, none, .mv (.t 4)⟩ (.op ⟨some 152, none, .mv (.t 10)⟩ (.op ⟨some 153, none, .idx 3 (.t 151) (.t 152)⟩ (.op ⟨some 154, none, .fld 0 1 false (.t 153)⟩ (.op ⟨some 155, none, .load 1 false (.t 154)⟩ (.op ⟨some 156, none, .idx 1 (.t 155) (.c (.pv (.int .i64 0)))⟩ (.op ⟨some 157, none, .load 1 false (.t 156)⟩ (.op ⟨some 158, none, .lit 3 1 1 [.pv (.int .i64 0)] [(0, .t 157)]⟩ (.op ⟨some 159, none, .mv (.t 10)⟩ (.op ⟨some 160, none, .bin .add (.c (.pv (.int .i64 2))) (.t 159)⟩ (.op ⟨some 161, none, .lit 3 1 2 [.pv (.int .i64 0)] [(0, .c (.pv (.int .i64 1))), (1, .t 160)]⟩ (.op ⟨some 162, none, .build [.nils, .nils] [(0, (1, .t 158)), (1, (1, .t 161))]⟩ (.op ⟨some 14, none, .alloc 38 2 (.agg [.nils, .nils])⟩ (.op ⟨none, none, .store 2 (.t 14) (.t 162)⟩ .nil))))))))))))))) (.seq (.reg 6 (.op ⟨some 163, none, .load 2 true (.t 14)⟩ (.op ⟨some 165, none, .load 2 true (.t 11)⟩ (.op ⟨some 164, none, .call 97 [.t 163]⟩ (.op ⟨some 166, none, .call 97 [.t 165]⟩ (.op ⟨some 167, none, .lit 65 3 2 [.nils, .nils, .nils] [(0, .t 164), (1, .t 166)]⟩ (.op ⟨some 15, none, .mv (.t 167)⟩ .nil))))))) (.seq (.reg 0 (.op ⟨some 168, none, .mv (.t 15)⟩ (.op ⟨some 169, none, .mv (.t 4)⟩ (.op ⟨some 170, none, .mv (.t 10)⟩ (.op ⟨some 171, none, .slc 3 (.t 169) none (some (.t 170))⟩ (.op ⟨some 172, none, .app 65 3 72 (.t 168) (.t 171)⟩ (.op ⟨some 15, none, .mv (.t 172)⟩ .nil))))))) (.seq (.reg 0 (.op ⟨some 173, none, .mv (.t 15)⟩ (.op ⟨some 174, none, .load 2 true (.t 12)⟩ (.op ⟨some 175, none, .call 97 [.t 174]⟩ (.op ⟨some 176, none, .lit 65 3 1 [.nils, .nils, .nils] [(0, .t 175)]⟩ (.op ⟨some 177, none, .app 65 3 72 (.t 173) (.t 176)⟩ (.op ⟨some 15, none, .mv (.t 177)⟩ .nil))))))) (.seq (.reg 0 (.op ⟨some 178, none, .mv (.t 15)⟩ (.op ⟨some 179, none, .mv (.t 4)⟩ (.op ⟨some 180, none, .mv (.t 10)⟩ (.op ⟨some 181, none, .slc 3 (.t 179) (some (.t 180)) none⟩ (.op ⟨some 182, none, .app 65 3 72 (.t 178) (.t 181)⟩ (.op ⟨some 183, none, .build [.pv (.int .i64 0), .nils] [(1, (1, .t 182))]⟩ (.op ⟨none, none, .store 2 (.t 2) (.t 183)⟩ .nil)))))))) .ret))))))))))))))), [.c 2 2])) := by kernel_rfl
theorem c_spec_load (xs : List (Int × Int)) (hx : xs.length ≤ 24) : CallS prog 72 [.pv (prs xs)] [] (fun d S => ∃ T, d = treeD 0 (loadT xs) ∧ S = obD 65 3 (dG (loadT xs).ps) :: T) := by
  have hn := nlv_le hx
  have hll := lvsP_len (xs := xs)
  refine callS_of_VS sl_spec_load (by simp) ?_
  refine VS_seq ?_
  refine VS_r0 rfl ?_
  refine q_alloc trivial ?_
  refine rg_nil ?_
  refine VS_seq ?_
  refine VS_r0 rfl ?_
  refine q_mv rfl ?_
  first | refine q_len_m rfl ?_ | refine q_len_s rfl ?_ | refine q_len_o rfl ?_ | refine q_len_n rfl ?_ | refine q_len_x rfl ?_
  refine q_add rfl rfl (inR64 (by omega)) ?_
  refine q_sub rfl rfl (inR64 (by omega)) ?_
  refine q_quo_to (((xs.length + 3) / 4 : Nat) : Int) rfl rfl ⟨by omega, by omega⟩ (by omega) (inR64 (by omega)) ?_
  refine q_mx_to ((nlv xs.length : Nat) : Int) rfl rfl (by simp only [nlv]; omega) ?_
  refine q_mv rfl ?_
  refine rg_nil ?_
  refine VS_seq ?_
  refine VS_r0 rfl ?_
  refine q_lit0 ?_
  refine q_mv rfl ?_
  refine rg_nil ?_
  refine VS_seq ?_
  refine VS_r0 rfl ?_
  refine q_mv rfl ?_
  refine rg_nil ?_
  refine VS_seq ?_
  refine VS_seq ?_
  refine VS_r0 rfl ?_
  refine q_mv rfl ?_
  refine rg_nil ?_
  refine VS_block ?_
  refine VS_bd (Bd.pad ?_)
  refine VS_bd (Bd.keepL [(0, .pv (prs xs)), (2, .ptr 0 0 0), (3, .pv (i64 (nlv xs.length))), (4, ownD 1 (dG ([]))), (5, .pv (i64 0)), (6, .pv (i64 0))] ⟨rfl, rfl, rfl, rfl, rfl, rfl, trivial⟩ ?_)
  refine VS_loop (fun mz E S => ∃ i : Nat, ∃ ps : List Pg, ∃ u : Nat, mz = nlv xs.length - i ∧ (i ≤ nlv xs.length) ∧ (ps = (lvsP xs).take i) ∧ (ps.length = i) ∧ (u = cutAt xs.length (nlv xs.length) i) ∧ E = env [(0, .pv (prs xs)), (2, .ptr 0 0 0), (3, .pv (i64 (nlv xs.length))), (4, ownD 1 (dG ps)), (5, .pv (i64 u)), (6, .pv (i64 i))] ∧ S = [some ⟨53, 2, [.agg [.pv (i64 0), .nils]]⟩, obD 65 3 (dG ps)]) ⟨_, 0, [], 0, rfl, (by first | omega | (intros; omega) | simp), rfl, rfl, cut_zero.symm, rfl, rfl⟩ ?_
  rintro mz _ _ ⟨i, ps, u, hmeas, g0, g1, g2, g3, rfl, rfl⟩
  refine VS_seq ?_
  refine VS_seq ?_
  refine VS_r0 rfl ?_
  refine q_mv rfl ?_
  refine q_mv rfl ?_
  refine q_lss rfl rfl ?_
  refine rg_nil ?_
  refine VS_cond rfl (fun c0 => ?_) (fun c0 => ?_)
  · try simp at c0
    subst g3
    have hc1 := cut_le (m := xs.length) (n := nlv xs.length) (i := i + 1) (by omega) (by omega)
    have hc2 := cut_mono (m := xs.length) (n := nlv xs.length) (i := i)
    refine VS_skip ?_
    refine VS_seq ?_
    refine VS_block ?_
    refine VS_seq ?_
    refine VS_r0 rfl ?_
    refine q_mv rfl ?_
    first | refine q_len_m rfl ?_ | refine q_len_s rfl ?_ | refine q_len_o rfl ?_ | refine q_len_n rfl ?_ | refine q_len_x rfl ?_
    refine q_mv rfl ?_
    refine q_mv rfl ?_
    refine q_callp (c_spec_share xs.length (nlv xs.length) i hx (by omega) (by omega)) rfl trivial ?_
    refine q_mv rfl ?_
    refine rg_nil ?_
    refine VS_seq ?_
    refine VS_r0 rfl ?_
    refine q_mv rfl ?_
    refine q_mv rfl ?_
    refine q_mv rfl ?_
    refine q_mv rfl ?_
    refine q_mv rfl ?_
    refine q_add_to ((cutAt xs.length (nlv xs.length) (i + 1) : Nat) : Int) rfl rfl (by omega) (inR64 (by omega)) ?_
    refine q_slc_m (xs := xs) (f := pairP) (cutAt xs.length (nlv xs.length) i) (cutAt xs.length (nlv xs.length) (i + 1)) rfl rfl rfl ⟨rfl, rfl, by omega, by omega⟩ (fun _ => rfl) ?_
    refine q_callp (c_spec_leafOf (cutP xs (nlv xs.length) i) (by rw [cutP_len (by omega)]; omega)) rfl trivial ?_
    refine q_lit (xs := [pgP (leafG (cutP xs (nlv xs.length) i))]) rfl rfl rfl rfl ?_
    refine q_app_dm (xs := ps) (ys := [leafG (cutP xs (nlv xs.length) i)]) (f := fun p => .pv (pgP p)) rfl rfl rfl rfl ⟨by simp; omega, by simp; omega⟩ trivial ?_
    refine q_mv rfl ?_
    refine rg_nil ?_
    refine VS_r0 rfl ?_
    refine q_mv rfl ?_
    refine q_mv rfl ?_
    refine q_add_to ((cutAt xs.length (nlv xs.length) (i + 1) : Nat) : Int) rfl rfl (by omega) (inR64 (by omega)) ?_
    refine q_mv rfl ?_
    refine rg_nil ?_
    refine VS_r0 rfl ?_
    refine q_mv rfl ?_
    refine q_add rfl rfl (inR64 (by omega)) ?_
    refine q_mv rfl ?_
    refine rg_nil ?_
    refine Bd.renL [0, 2] (fun i hi => by first | (exact absurd hi (Nat.not_lt_zero i)) | (have e : i = 0 := (by simp at hi; omega); subst e; rfl) | (have e : i = 0 ∨ i = 1 := (by simp at hi; omega); rcases e with rfl | rfl <;> rfl)) (by simp) [(0, .pv (prs xs)), (2, .ptr 0 0 0), (3, .pv (i64 (nlv xs.length))), (4, ownD 1 (dG (ps ++ [leafG (cutP xs (nlv xs.length) i)]))), (5, .pv (i64 (cutAt xs.length (nlv xs.length) (i + 1)))), (6, .pv (i64 (i + 1)))] ⟨rfl, rfl, rfl, inv_own rfl, rfl, rfl, trivial⟩ (l2 rfl (obD_mG _)) ⟨_, ?_, i + 1, ps ++ [leafG (cutP xs (nlv xs.length) i)], cutAt xs.length (nlv xs.length) (i + 1), rfl, ?_, ?_, ?_, ?_, rfl, rfl⟩
    · first | omega | assumption | rfl | (simp; omega)
    · first | omega | assumption | rfl | (simp; omega)
    · rw [lvs_step (by omega), g1]
    · simp; omega
    · rfl
  · try simp at c0
    refine VS_exit ?_
    refine VS_seq ?_
    refine VS_seq ?_
    refine VS_r0 rfl ?_
    refine q_mv rfl ?_
    refine q_eql rfl rfl ?_
    refine rg_nil ?_
    refine VS_cond rfl (fun c1 => ?_) (fun c1 => ?_)
    · try simp at c1
      have he : i = nlv xs.length := by omega
      have hps : ps = lvsP xs := by rw [g1, he, ← hll, List.take_length]
      refine VS_seq ?_
      refine VS_r0 rfl ?_
      refine q_mv rfl ?_
      refine q_build1 (d := ownD 1 (dG ps)) rfl cellsD_own ?_
      first | refine q_store rfl rfl rfl rfl rfl rfl ⟨rfl, rfl, by simp, rfl, by simp [isOne]⟩ rfl trivial ?_ | refine q_storeF rfl rfl rfl rfl rfl (by first | (simp; done) | (simp [setAt]; done)) trivial ?_ | refine q_store rfl rfl rfl rfl rfl rfl ⟨rfl, rfl, by simp, by simp [setAt, isCell_own, isCell_sl, isCell_int, isCell_nils], by simp [isOne]⟩ rfl trivial ?_
      refine rg_nil ?_
      refine VS_ret ?_
      refine Bd.renL [1, 0] (fun i hi => by first | (exact absurd hi (Nat.not_lt_zero i)) | (have e : i = 0 := (by simp at hi; omega); subst e; rfl) | (have e : i = 0 ∨ i = 1 := (by simp at hi; omega); rcases e with rfl | rfl <;> rfl)) (by simp) [(2, .ptr 1 0 0)] ⟨rfl, trivial⟩ (l2 (obD_mG (ty := 65) (sz := 3) (ps)) (congrArg (fun z => some (⟨53, 2, [.agg [.pv (i64 0), z]]⟩ : Ob)) (mp1_own rfl))) ?_
      have hload : loadP xs = ps := by rw [loadP, if_pos (by omega), hps]
      exact ⟨_, rfl, _, by show _ = D.agg [.pv (i64 0), ownD 0 (dG (loadP xs))]; rw [hload], by show _ = obD _ 3 (dG (loadP xs)) :: _; rw [hload]⟩
    · try simp at c1
      have he : i = nlv xs.length := by omega
      have hps : ps = lvsP xs := by rw [g1, he, ← hll, List.take_length]
      have hpl : ps.length = nlv xs.length := by rw [hps, hll]
      refine VS_bd (Bd.pure 4 1 65 3 (xs := dG ps) rfl rfl (toPVs_dG _) ?_)
      refine VS_bd (Bd.renL [0] (fun i hi => by first | (exact absurd hi (Nat.not_lt_zero i)) | (have e : i = 0 := (by simp at hi; omega); subst e; rfl) | (have e : i = 0 ∨ i = 1 := (by simp at hi; omega); rcases e with rfl | rfl <;> rfl)) (by simp) [(0, .pv (prs xs)), (2, .ptr 0 0 0), (3, .pv (i64 (nlv xs.length))), (4, .pv (pgsP ps))] ⟨rfl, rfl, rfl, rfl, trivial⟩ rfl ?_)
      refine VS_skip ?_
      refine VS_seq ?_
      refine VS_seq ?_
      refine VS_r0 rfl ?_
      refine q_mv rfl ?_
      refine q_leq rfl rfl ?_
      refine rg_nil ?_
      refine VS_cond rfl (fun c2 => ?_) (fun c2 => ?_)
      · try simp at c2
        refine VS_seq ?_
        refine VS_r0 rfl ?_
        refine q_lit0 ?_
        refine q_lit0 ?_
        refine q_build rfl ?_
        refine q_alloc trivial ?_
        first | refine q_store rfl rfl rfl rfl rfl rfl ⟨rfl, rfl, by simp, rfl, by simp [isOne]⟩ rfl trivial ?_ | refine q_storeF rfl rfl rfl rfl rfl (by first | (simp; done) | (simp [setAt]; done)) trivial ?_ | refine q_store rfl rfl rfl rfl rfl rfl ⟨rfl, rfl, by simp, by simp [setAt, isCell_own, isCell_sl, isCell_int, isCell_nils], by simp [isOne]⟩ rfl trivial ?_
        refine rg_nil ?_
        refine VS_seq ?_
        refine VS_seq ?_
        refine VS_r0 rfl ?_
        refine q_mv rfl ?_
        refine rg_nil ?_
        refine VS_block ?_
        refine VS_bd (Bd.pad ?_)
        refine VS_bd (Bd.pad ?_)
        refine VS_bd (Bd.keepL [(2, .ptr 0 0 0), (3, .pv (i64 (nlv xs.length))), (4, .pv (pgsP ps)), (8, .ptr 1 0 0), (9, .pv (i64 0))] ⟨rfl, rfl, rfl, rfl, rfl, trivial⟩ ?_)
        refine VS_loop (fun mz E S => ∃ i : Nat, ∃ ks : List Int, ∃ cs : List Int, mz = nlv xs.length - i ∧ (i ≤ nlv xs.length) ∧ (ks = (((lvsP xs).take i).drop 1).map fk) ∧ (cs = natI 1 i) ∧ (ks.length ≤ i) ∧ (cs.length = i) ∧ E = env [(2, .ptr 0 0 0), (3, .pv (i64 (nlv xs.length))), (4, .pv (pgsP ps)), (8, .ptr 1 0 0), (9, .pv (i64 i))] ∧ S = [some ⟨53, 2, [.agg [.pv (i64 0), .nils]]⟩, some ⟨38, 2, [.agg [ownD 2 (dI ks), ownD 3 (dI cs)]]⟩, obD 3 1 (dI ks), obD 3 1 (dI cs)]) ⟨_, 0, [], [], rfl, (by first | omega | (intros; omega) | simp), rfl, rfl, (Nat.le_refl _), rfl, rfl, rfl⟩ ?_
        rintro mz _ _ ⟨i, ks, cs, hmeas, k0, k1, k2, k3, k4, rfl, rfl⟩
        refine VS_seq ?_
        refine VS_seq ?_
        refine VS_r0 rfl ?_
        refine q_mv rfl ?_
        refine q_mv rfl ?_
        refine q_lss rfl rfl ?_
        refine rg_nil ?_
        refine VS_cond rfl (fun c3 => ?_) (fun c3 => ?_)
        · try simp at c3
          refine VS_skip ?_
          refine VS_seq ?_
          refine VS_block ?_
          refine VS_seq ?_
          refine VS_seq ?_
          refine VS_r0 rfl ?_
          refine q_mv rfl ?_
          refine q_gtr rfl rfl ?_
          refine rg_nil ?_
          refine VS_cond rfl (fun c4 => ?_) (fun c4 => ?_)
          · try simp at c4
            have hks0 : 0 < (nth ps i).ks.length := by rw [hps]; exact lvs_ks hx (by omega) (by omega)
            refine VS_r2 [none, some ⟨38, 2, [.agg [ownD 2 (dI ks), ownD 3 (dI cs)]]⟩] hmix (SubL.sub (by repeat (first | exact SubL.nil | apply SubL.none | apply SubL.some | apply SubL.sh | apply SubL.eq))) ?_
            first | refine q_fld_r rfl ?_ | refine q_fld_c rfl rfl ?_
            first | refine q_load_c rfl rfl rfl ?_ | refine q_load_r rfl rfl rfl rfl rfl rfl rfl ?_ | refine q_load_o rfl rfl rfl rfl rfl ?_
            refine q_mv rfl ?_
            refine q_mv rfl ?_
            refine q_idx_m (f := pgP) (xs := ps) (n := (i : Int)) rfl rfl (by omega) (by omega) (fun _ => rfl) ?_
            first | refine q_fld_r rfl ?_ | refine q_fld_c rfl rfl ?_
            first | refine q_load_c rfl rfl rfl ?_ | refine q_load_r rfl rfl rfl rfl rfl rfl rfl ?_ | refine q_load_o rfl rfl rfl rfl rfl ?_
            refine q_idx_m (f := fun k => i64 k) (xs := (nth ps i).ks) (n := 0) rfl rfl (by omega) (by omega) (fun _ => rfl) ?_
            first | refine q_load_c rfl rfl rfl ?_ | refine q_load_r rfl rfl rfl rfl rfl rfl rfl ?_ | refine q_load_o rfl rfl rfl rfl rfl ?_
            refine q_lit (xs := [i64 (fk (nth ps i))]) rfl rfl rfl rfl ?_
            refine q_app_dm (xs := ks) (ys := [fk (nth ps i)]) (f := fun k => .pv (i64 k)) rfl rfl rfl rfl ⟨by simp; omega, by simp; omega⟩ (by first | exact trivial | exact Sub.nil | exact Sub.refl _ | exact Sub.app _ _ | exact SubL.sub (by repeat (first | exact SubL.nil | apply SubL.none | apply SubL.some | apply SubL.sh | apply SubL.eq)) | (refine Sub.of_eq ?_; intro o ob h; rcases o with _ | _ | _ | _ | _ | o <;> simp_all)) ?_
            first | refine q_fld_r rfl ?_ | refine q_fld_c rfl rfl ?_
            refine q_last ?_
            first | refine q_store rfl rfl rfl rfl rfl rfl ⟨rfl, rfl, by simp, rfl, by simp [isOne]⟩ rfl (by first | exact trivial | exact Sub.nil | exact Sub.refl _ | exact Sub.app _ _ | exact SubL.sub (by repeat (first | exact SubL.nil | apply SubL.none | apply SubL.some | apply SubL.sh | apply SubL.eq)) | (refine Sub.of_eq ?_; intro o ob h; rcases o with _ | _ | _ | _ | _ | o <;> simp_all)) ?_ | refine q_storeF rfl rfl rfl rfl rfl (by first | (simp; done) | (simp [setAt]; done)) (by first | exact trivial | exact Sub.nil | exact Sub.refl _ | exact Sub.app _ _ | exact SubL.sub (by repeat (first | exact SubL.nil | apply SubL.none | apply SubL.some | apply SubL.sh | apply SubL.eq)) | (refine Sub.of_eq ?_; intro o ob h; rcases o with _ | _ | _ | _ | _ | o <;> simp_all)) ?_ | refine q_store rfl rfl rfl rfl rfl rfl ⟨rfl, rfl, by simp, by simp [setAt, isCell_own, isCell_sl, isCell_int, isCell_nils], by simp [isOne]⟩ rfl (by first | exact trivial | exact Sub.nil | exact Sub.refl _ | exact Sub.app _ _ | exact SubL.sub (by repeat (first | exact SubL.nil | apply SubL.none | apply SubL.some | apply SubL.sh | apply SubL.eq)) | (refine Sub.of_eq ?_; intro o ob h; rcases o with _ | _ | _ | _ | _ | o <;> simp_all)) ?_
            refine rg_nil ?_
            refine VS_r0 rfl ?_
            first | refine q_fld_r rfl ?_ | refine q_fld_c rfl rfl ?_
            first | refine q_load_c rfl rfl rfl ?_ | refine q_load_r rfl rfl rfl rfl rfl rfl rfl ?_ | refine q_load_o rfl rfl rfl rfl rfl ?_
            refine q_mv rfl ?_
            refine q_add rfl rfl (inR64 (by omega)) ?_
            refine q_lit (xs := [i64 ((i : Int) + 1)]) rfl rfl rfl rfl ?_
            refine q_app_dm (xs := cs) (ys := [(i : Int) + 1]) (f := fun k => .pv (i64 k)) rfl rfl rfl rfl ⟨by simp; omega, by simp; omega⟩ trivial ?_
            first | refine q_fld_r rfl ?_ | refine q_fld_c rfl rfl ?_
            first | refine q_store rfl rfl rfl rfl rfl rfl ⟨rfl, rfl, by simp, rfl, by simp [isOne]⟩ rfl trivial ?_ | refine q_storeF rfl rfl rfl rfl rfl (by first | (simp; done) | (simp [setAt]; done)) trivial ?_ | refine q_store rfl rfl rfl rfl rfl rfl ⟨rfl, rfl, by simp, by simp [setAt, isCell_own, isCell_sl, isCell_int, isCell_nils], by simp [isOne]⟩ rfl trivial ?_
            refine rg_nil ?_
            refine VS_r0 rfl ?_
            refine q_mv rfl ?_
            refine q_add rfl rfl (inR64 (by omega)) ?_
            refine q_mv rfl ?_
            refine rg_nil ?_
            refine Bd.renL [0, 1, 4, 5] (fun i hi => by first | (exact absurd hi (Nat.not_lt_zero i)) | (have e : i = 0 := (by simp at hi; omega); subst e; rfl) | (have e : i = 0 ∨ i = 1 := (by simp at hi; omega); rcases e with rfl | rfl <;> rfl)) (by simp) [(2, .ptr 0 0 0), (3, .pv (i64 (nlv xs.length))), (4, .pv (pgsP ps)), (8, .ptr 1 0 0), (9, .pv (i64 (i + 1)))] ⟨rfl, rfl, rfl, rfl, rfl, trivial⟩ (l4 rfl (in2 rfl rfl) (obD_mI _) (obD_mI _)) ⟨_, ?_, i + 1, ks ++ [fk (nth ps i)], cs ++ [(i : Int) + 1], rfl, ?_, ?_, ?_, ?_, ?_, rfl, rfl⟩
            · first | omega | assumption | rfl | (simp; omega)
            · first | omega | assumption | rfl | (simp; omega)
            · rw [lvs_keys (by omega) (by omega), k1, hps]
            · rw [natI_succ, k2]; congr 2; omega
            · simp; omega
            · simp; omega
          · try simp at c4
            refine VS_skip ?_
            refine VS_r0 rfl ?_
            first | refine q_fld_r rfl ?_ | refine q_fld_c rfl rfl ?_
            first | refine q_load_c rfl rfl rfl ?_ | refine q_load_r rfl rfl rfl rfl rfl rfl rfl ?_ | refine q_load_o rfl rfl rfl rfl rfl ?_
            refine q_mv rfl ?_
            refine q_add rfl rfl (inR64 (by omega)) ?_
            refine q_lit (xs := [i64 ((i : Int) + 1)]) rfl rfl rfl rfl ?_
            refine q_app_dm (xs := cs) (ys := [(i : Int) + 1]) (f := fun k => .pv (i64 k)) rfl rfl rfl rfl ⟨by simp; omega, by simp; omega⟩ trivial ?_
            first | refine q_fld_r rfl ?_ | refine q_fld_c rfl rfl ?_
            first | refine q_store rfl rfl rfl rfl rfl rfl ⟨rfl, rfl, by simp, rfl, by simp [isOne]⟩ rfl trivial ?_ | refine q_storeF rfl rfl rfl rfl rfl (by first | (simp; done) | (simp [setAt]; done)) trivial ?_ | refine q_store rfl rfl rfl rfl rfl rfl ⟨rfl, rfl, by simp, by simp [setAt, isCell_own, isCell_sl, isCell_int, isCell_nils], by simp [isOne]⟩ rfl trivial ?_
            refine rg_nil ?_
            refine VS_r0 rfl ?_
            refine q_mv rfl ?_
            refine q_add rfl rfl (inR64 (by omega)) ?_
            refine q_mv rfl ?_
            refine rg_nil ?_
            refine Bd.renL [0, 1, 2, 4] (fun i hi => by first | (exact absurd hi (Nat.not_lt_zero i)) | (have e : i = 0 := (by simp at hi; omega); subst e; rfl) | (have e : i = 0 ∨ i = 1 := (by simp at hi; omega); rcases e with rfl | rfl <;> rfl)) (by simp) [(2, .ptr 0 0 0), (3, .pv (i64 (nlv xs.length))), (4, .pv (pgsP ps)), (8, .ptr 1 0 0), (9, .pv (i64 (i + 1)))] ⟨rfl, rfl, rfl, rfl, rfl, trivial⟩ (l4 rfl (in2 rfl rfl) (obD_mI _) (obD_mI _)) ⟨_, ?_, i + 1, ks, cs ++ [(i : Int) + 1], rfl, ?_, ?_, ?_, ?_, ?_, rfl, rfl⟩
            · first | omega | assumption | rfl | (simp; omega)
            · first | omega | assumption | rfl | (simp; omega)
            · obtain rfl : i = 0 := by omega
              rw [k1]
              cases lvsP xs <;> rfl
            · rw [natI_succ, k2]; congr 2; omega
            · omega
            · simp; omega
        · try simp at c3
          refine VS_exit ?_
          refine VS_seq ?_
          refine VS_bd (Bd.frzF 2 1 0 0 3 1 (xs := dI ks) (by decide) rfl (toPVs_dI _) rfl rfl rfl ?_)
          refine VS_bd (Bd.frzF 3 1 0 1 3 1 (xs := dI cs) (by decide) rfl (toPVs_dI _) rfl rfl rfl ?_)
          refine VS_r0 rfl ?_
          first | refine q_load_c rfl rfl rfl ?_ | refine q_load_ra rfl rfl rfl rfl rfl (by first | (simp; done) | (simp [setAt]; done)) rfl ?_
          refine q_callp (c_spec_innerOf ks cs) rfl trivial ?_
          refine q_lito (xs := [pgP ⟨ks, cs, []⟩]) rfl rfl rfl rfl ?_
          refine q_mv rfl ?_
          refine q_app_dm (xs := [(⟨ks, cs, []⟩ : Pg)]) (ys := ps) (f := fun p => .pv (pgP p)) rfl (elems_G _) (cell_G _) rfl ⟨by simp; omega, by simp; omega⟩ trivial ?_
          refine q_build1 (d := ownD 5 (dG ([(⟨ks, cs, []⟩ : Pg)] ++ ps))) rfl cellsD_own ?_
          first | refine q_store rfl rfl rfl rfl rfl rfl ⟨rfl, rfl, by simp, rfl, by simp [isOne]⟩ rfl trivial ?_ | refine q_storeF rfl rfl rfl rfl rfl (by first | (simp; done) | (simp [setAt]; done)) trivial ?_ | refine q_store rfl rfl rfl rfl rfl rfl ⟨rfl, rfl, by simp, by simp [setAt, isCell_own, isCell_sl, isCell_int, isCell_nils], by simp [isOne]⟩ rfl trivial ?_
          refine rg_nil ?_
          refine VS_ret ?_
          have hi2 : i = nlv xs.length := by omega
          rw [hi2, ← hll, List.take_length] at k1
          rw [hi2] at k2
          refine Bd.renL [5, 0] (fun i hi => by first | (exact absurd hi (Nat.not_lt_zero i)) | (have e : i = 0 := (by simp at hi; omega); subst e; rfl) | (have e : i = 0 ∨ i = 1 := (by simp at hi; omega); rcases e with rfl | rfl <;> rfl)) (by simp) [(2, .ptr 1 0 0)] ⟨rfl, trivial⟩ (l2 (obD_mG (ty := 65) (sz := 3) ([(⟨ks, cs, []⟩ : Pg)] ++ ps)) (congrArg (fun z => some (⟨53, 2, [.agg [.pv (i64 0), z]]⟩ : Ob)) (mp1_own rfl))) ?_
          have hload : loadP xs = [(⟨ks, cs, []⟩ : Pg)] ++ ps := by rw [loadP, if_neg (by omega), if_pos (by omega), ← k1, ← k2, hps]; rfl
          exact ⟨_, rfl, _, by show _ = D.agg [.pv (i64 0), ownD 0 (dG (loadP xs))]; rw [hload], by show _ = obD _ 3 (dG (loadP xs)) :: _; rw [hload]⟩
      · try simp at c2
        have h6 : nlv xs.length = 6 := by omega
        have h3 : (nlv xs.length / 2) = 3 := by omega
        refine VS_skip ?_
        refine VS_seq ?_
        refine VS_r0 rfl ?_
        refine q_mv rfl ?_
        refine q_quo_to (((nlv xs.length / 2) : Nat) : Int) rfl rfl ⟨by omega, by omega⟩ (by omega) (inR64 (by omega)) ?_
        refine q_mv rfl ?_
        refine rg_nil ?_
        refine VS_seq ?_
        refine VS_r0 rfl ?_
        refine q_lit0 ?_
        refine q_lit0 ?_
        refine q_build rfl ?_
        refine q_alloc trivial ?_
        first | refine q_store rfl rfl rfl rfl rfl rfl ⟨rfl, rfl, by simp, rfl, by simp [isOne]⟩ rfl trivial ?_ | refine q_storeF rfl rfl rfl rfl rfl (by first | (simp; done) | (simp [setAt]; done)) trivial ?_ | refine q_store rfl rfl rfl rfl rfl rfl ⟨rfl, rfl, by simp, by simp [setAt, isCell_own, isCell_sl, isCell_int, isCell_nils], by simp [isOne]⟩ rfl trivial ?_
        refine rg_nil ?_
        refine VS_seq ?_
        refine VS_r0 rfl ?_
        refine q_lit0 ?_
        refine q_lit0 ?_
        refine q_build rfl ?_
        refine q_alloc trivial ?_
        first | refine q_store rfl rfl rfl rfl rfl rfl ⟨rfl, rfl, by simp, rfl, by simp [isOne]⟩ rfl trivial ?_ | refine q_storeF rfl rfl rfl rfl rfl (by first | (simp; done) | (simp [setAt]; done)) trivial ?_ | refine q_store rfl rfl rfl rfl rfl rfl ⟨rfl, rfl, by simp, by simp [setAt, isCell_own, isCell_sl, isCell_int, isCell_nils], by simp [isOne]⟩ rfl trivial ?_
        refine rg_nil ?_
        refine VS_seq ?_
        refine VS_seq ?_
        refine VS_r0 rfl ?_
        refine q_mv rfl ?_
        refine rg_nil ?_
        refine VS_block ?_
        refine VS_bd (Bd.pad ?_)
        refine VS_bd (Bd.pad ?_)
        refine VS_bd (Bd.pad ?_)
        refine VS_bd (Bd.pad ?_)
        refine VS_bd (Bd.keepL [(2, .ptr 0 0 0), (3, .pv (i64 (nlv xs.length))), (4, .pv (pgsP ps)), (10, .pv (i64 (nlv xs.length / 2))), (11, .ptr 1 0 0), (12, .ptr 2 0 0), (13, .pv (i64 0))] ⟨rfl, rfl, rfl, rfl, rfl, rfl, rfl, trivial⟩ ?_)
        refine VS_loop (fun mz E S => ∃ i : Nat, ∃ ka : List Int, ∃ ca : List Int, ∃ kb : List Int, ∃ cb : List Int, mz = nlv xs.length - i ∧ (i ≤ nlv xs.length) ∧ (ka = ((ps.take (min i 3)).drop 1).map fk) ∧ (ca = natI 2 (min i 3)) ∧ (kb = ((ps.take i).drop 4).map fk) ∧ (cb = natI 6 (i - 3)) ∧ (ka.length ≤ i ∧ ca.length ≤ i ∧ kb.length ≤ i ∧ cb.length ≤ i) ∧ E = env [(2, .ptr 0 0 0), (3, .pv (i64 (nlv xs.length))), (4, .pv (pgsP ps)), (10, .pv (i64 (nlv xs.length / 2))), (11, .ptr 1 0 0), (12, .ptr 2 0 0), (13, .pv (i64 i))] ∧ S = [some ⟨53, 2, [.agg [.pv (i64 0), .nils]]⟩, some ⟨38, 2, [.agg [ownD 3 (dI ka), ownD 4 (dI ca)]]⟩, some ⟨38, 2, [.agg [ownD 5 (dI kb), ownD 6 (dI cb)]]⟩, obD 3 1 (dI ka), obD 3 1 (dI ca), obD 3 1 (dI kb), obD 3 1 (dI cb)]) ⟨_, 0, [], [], [], [], rfl, (by first | omega | (intros; omega) | simp), (by simp), rfl, (by simp), rfl, ⟨Nat.le_refl _, Nat.le_refl _, Nat.le_refl _, Nat.le_refl _⟩, rfl, rfl⟩ ?_
        rintro mz _ _ ⟨i, ka, ca, kb, cb, hmeas, m0, m1, m2, m3, m4, m5, rfl, rfl⟩
        refine VS_seq ?_
        refine VS_seq ?_
        refine VS_r0 rfl ?_
        refine q_mv rfl ?_
        refine q_mv rfl ?_
        refine q_lss rfl rfl ?_
        refine rg_nil ?_
        refine VS_cond rfl (fun c5 => ?_) (fun c5 => ?_)
        · try simp at c5
          refine VS_skip ?_
          refine VS_seq ?_
          refine VS_block ?_
          refine VS_seq ?_
          refine VS_seq ?_
          refine VS_r0 rfl ?_
          refine q_mv rfl ?_
          refine q_mv rfl ?_
          refine q_lss rfl rfl ?_
          refine rg_nil ?_
          refine VS_cond rfl (fun c6 => ?_) (fun c6 => ?_)
          · try simp at c6
            refine VS_r0 rfl ?_
            first | refine q_fld_r rfl ?_ | refine q_fld_c rfl rfl ?_
            first | refine q_load_c rfl rfl rfl ?_ | refine q_load_r rfl rfl rfl rfl rfl rfl rfl ?_ | refine q_load_o rfl rfl rfl rfl rfl ?_
            refine q_mv rfl ?_
            refine q_add rfl rfl (inR64 (by omega)) ?_
            refine q_lit (xs := [i64 (2 + (i : Int))]) rfl rfl rfl rfl ?_
            refine q_app_dm (xs := ca) (ys := [2 + (i : Int)]) (f := fun k => .pv (i64 k)) rfl rfl rfl rfl ⟨by simp; omega, by simp; omega⟩ trivial ?_
            first | refine q_fld_r rfl ?_ | refine q_fld_c rfl rfl ?_
            first | refine q_store rfl rfl rfl rfl rfl rfl ⟨rfl, rfl, by simp, rfl, by simp [isOne]⟩ rfl trivial ?_ | refine q_storeF rfl rfl rfl rfl rfl (by first | (simp; done) | (simp [setAt]; done)) trivial ?_ | refine q_store rfl rfl rfl rfl rfl rfl ⟨rfl, rfl, by simp, by simp [setAt, isCell_own, isCell_sl, isCell_int, isCell_nils], by simp [isOne]⟩ rfl trivial ?_
            refine rg_nil ?_
            refine VS_seq ?_
            refine VS_seq ?_
            refine VS_r0 rfl ?_
            refine q_mv rfl ?_
            refine q_gtr rfl rfl ?_
            refine q_mv rfl ?_
            refine q_b rfl (fun g119 => ?_) (fun g119 => ?_)
            · try simp at g119
              refine q_t rfl ?_
              refine q_mv rfl ?_
              refine q_t rfl ?_
              refine q_mv rfl ?_
              refine q_t rfl ?_
              refine q_lss rfl rfl ?_
              refine q_pick_t rfl rfl ?_
              refine rg_nil ?_
              refine VS_cond rfl (fun c7 => ?_) (fun c7 => ?_)
              · try simp at c7
                have hks1 : 0 < (nth ps i).ks.length := by rw [hps]; exact lvs_ks hx (by omega) (by omega)
                refine VS_r2 [none, some ⟨38, 2, [.agg [ownD 3 (dI ka), ownD 7 (dI (ca ++ [2 + (i : Int)]))]]⟩] hmix (SubL.sub (by repeat (first | exact SubL.nil | apply SubL.none | apply SubL.some | apply SubL.sh | apply SubL.eq))) ?_
                first | refine q_fld_r rfl ?_ | refine q_fld_c rfl rfl ?_
                first | refine q_load_c rfl rfl rfl ?_ | refine q_load_r rfl rfl rfl rfl rfl rfl rfl ?_ | refine q_load_o rfl rfl rfl rfl rfl ?_
                refine q_mv rfl ?_
                refine q_mv rfl ?_
                refine q_idx_m (f := pgP) (xs := ps) (n := (i : Int)) rfl rfl (by omega) (by omega) (fun _ => rfl) ?_
                first | refine q_fld_r rfl ?_ | refine q_fld_c rfl rfl ?_
                first | refine q_load_c rfl rfl rfl ?_ | refine q_load_r rfl rfl rfl rfl rfl rfl rfl ?_ | refine q_load_o rfl rfl rfl rfl rfl ?_
                refine q_idx_m (f := fun k => i64 k) (xs := (nth ps i).ks) (n := 0) rfl rfl (by omega) (by omega) (fun _ => rfl) ?_
                first | refine q_load_c rfl rfl rfl ?_ | refine q_load_r rfl rfl rfl rfl rfl rfl rfl ?_ | refine q_load_o rfl rfl rfl rfl rfl ?_
                refine q_lit (xs := [i64 (fk (nth ps i))]) rfl rfl rfl rfl ?_
                refine q_app_dm (xs := ka) (ys := [fk (nth ps i)]) (f := fun k => .pv (i64 k)) rfl rfl rfl rfl ⟨by simp; omega, by simp; omega⟩ (by first | exact trivial | exact Sub.nil | exact Sub.refl _ | exact Sub.app _ _ | exact SubL.sub (by repeat (first | exact SubL.nil | apply SubL.none | apply SubL.some | apply SubL.sh | apply SubL.eq)) | (refine Sub.of_eq ?_; intro o ob h; rcases o with _ | _ | _ | _ | _ | o <;> simp_all)) ?_
                first | refine q_fld_r rfl ?_ | refine q_fld_c rfl rfl ?_
                refine q_last ?_
                first | refine q_store rfl rfl rfl rfl rfl rfl ⟨rfl, rfl, by simp, rfl, by simp [isOne]⟩ rfl (by first | exact trivial | exact Sub.nil | exact Sub.refl _ | exact Sub.app _ _ | exact SubL.sub (by repeat (first | exact SubL.nil | apply SubL.none | apply SubL.some | apply SubL.sh | apply SubL.eq)) | (refine Sub.of_eq ?_; intro o ob h; rcases o with _ | _ | _ | _ | _ | o <;> simp_all)) ?_ | refine q_storeF rfl rfl rfl rfl rfl (by first | (simp; done) | (simp [setAt]; done)) (by first | exact trivial | exact Sub.nil | exact Sub.refl _ | exact Sub.app _ _ | exact SubL.sub (by repeat (first | exact SubL.nil | apply SubL.none | apply SubL.some | apply SubL.sh | apply SubL.eq)) | (refine Sub.of_eq ?_; intro o ob h; rcases o with _ | _ | _ | _ | _ | o <;> simp_all)) ?_ | refine q_store rfl rfl rfl rfl rfl rfl ⟨rfl, rfl, by simp, by simp [setAt, isCell_own, isCell_sl, isCell_int, isCell_nils], by simp [isOne]⟩ rfl (by first | exact trivial | exact Sub.nil | exact Sub.refl _ | exact Sub.app _ _ | exact SubL.sub (by repeat (first | exact SubL.nil | apply SubL.none | apply SubL.some | apply SubL.sh | apply SubL.eq)) | (refine Sub.of_eq ?_; intro o ob h; rcases o with _ | _ | _ | _ | _ | o <;> simp_all)) ?_
                refine rg_nil ?_
                refine VS_seq ?_
                refine VS_r0 rfl ?_
                refine q_mv rfl ?_
                refine q_mv rfl ?_
                refine q_gtr rfl rfl ?_
                refine rg_nil ?_
                refine VS_cond rfl (fun c8 => ?_) (fun c8 => ?_)
                · exfalso; simp at c8; omega
                · try simp at c8
                  refine VS_skip ?_
                  refine VS_r0 rfl ?_
                  refine q_mv rfl ?_
                  refine q_add rfl rfl (inR64 (by omega)) ?_
                  refine q_mv rfl ?_
                  refine rg_nil ?_
                  refine Bd.renL [0, 1, 2, 8, 7, 5, 6] (fun i hi => by first | (exact absurd hi (Nat.not_lt_zero i)) | (have e : i = 0 := (by simp at hi; omega); subst e; rfl) | (have e : i = 0 ∨ i = 1 := (by simp at hi; omega); rcases e with rfl | rfl <;> rfl)) (by simp) [(2, .ptr 0 0 0), (3, .pv (i64 (nlv xs.length))), (4, .pv (pgsP ps)), (10, .pv (i64 (nlv xs.length / 2))), (11, .ptr 1 0 0), (12, .ptr 2 0 0), (13, .pv (i64 (i + 1)))] ⟨rfl, rfl, rfl, rfl, rfl, rfl, rfl, trivial⟩ (l7 rfl (in2 rfl rfl) (in2 rfl rfl) (obD_mI _) (obD_mI _) (obD_mI _) (obD_mI _)) ⟨_, ?_, i + 1, ka ++ [fk (nth ps i)], ca ++ [2 + (i : Int)], kb, cb, rfl, ?_, ?_, ?_, ?_, ?_, ?_, rfl, rfl⟩
                  · first | omega | assumption | rfl | (simp; omega)
                  · first | omega | assumption | rfl | (simp; omega)
                  · rw [m1, show min (i + 1) 3 = i + 1 by omega, show min i 3 = i by omega, keys_drop (by omega) (by omega)]
                  · rw [m2, show min (i + 1) 3 = i + 1 by omega, show min i 3 = i by omega, natI_succ]; rfl
                  · rw [m3, List.drop_of_length_le (by simp; omega), List.drop_of_length_le (by simp; omega)]
                  · rw [m4, show i + 1 - 3 = i - 3 by omega]
                  · simp; omega
              · try simp at c7
                refine VS_skip ?_
                refine VS_seq ?_
                refine VS_r0 rfl ?_
                refine q_mv rfl ?_
                refine q_mv rfl ?_
                refine q_gtr rfl rfl ?_
                refine rg_nil ?_
                refine VS_cond rfl (fun c8 => ?_) (fun c8 => ?_)
                · exfalso; simp at c8; omega
                · try simp at c8
                  refine VS_skip ?_
                  refine VS_r0 rfl ?_
                  refine q_mv rfl ?_
                  refine q_add rfl rfl (inR64 (by omega)) ?_
                  refine q_mv rfl ?_
                  refine rg_nil ?_
                  refine Bd.renL [0, 1, 2, 3, 7, 5, 6] (fun i hi => by first | (exact absurd hi (Nat.not_lt_zero i)) | (have e : i = 0 := (by simp at hi; omega); subst e; rfl) | (have e : i = 0 ∨ i = 1 := (by simp at hi; omega); rcases e with rfl | rfl <;> rfl)) (by simp) [(2, .ptr 0 0 0), (3, .pv (i64 (nlv xs.length))), (4, .pv (pgsP ps)), (10, .pv (i64 (nlv xs.length / 2))), (11, .ptr 1 0 0), (12, .ptr 2 0 0), (13, .pv (i64 (i + 1)))] ⟨rfl, rfl, rfl, rfl, rfl, rfl, rfl, trivial⟩ (l7 rfl (in2 rfl rfl) (in2 rfl rfl) (obD_mI _) (obD_mI _) (obD_mI _) (obD_mI _)) ⟨_, ?_, i + 1, ka, ca ++ [2 + (i : Int)], kb, cb, rfl, ?_, ?_, ?_, ?_, ?_, ?_, rfl, rfl⟩
                  · first | omega | assumption | rfl | (simp; omega)
                  · first | omega | assumption | rfl | (simp; omega)
                  · obtain rfl : i = 0 := by omega
                    rw [m1]
                    cases ps <;> rfl
                  · rw [m2, show min (i + 1) 3 = i + 1 by omega, show min i 3 = i by omega, natI_succ]; rfl
                  · rw [m3, List.drop_of_length_le (by simp; omega), List.drop_of_length_le (by simp; omega)]
                  · rw [m4, show i + 1 - 3 = i - 3 by omega]
                  · simp; omega
            · try simp at g119
              refine q_f rfl ?_
              refine q_f rfl ?_
              refine q_f rfl ?_
              refine q_pick_f rfl rfl ?_
              refine rg_nil ?_
              refine VS_cond rfl (fun e => by cases e) (fun _ => ?_)
              refine VS_skip ?_
              refine VS_seq ?_
              refine VS_r0 rfl ?_
              refine q_mv rfl ?_
              refine q_mv rfl ?_
              refine q_gtr rfl rfl ?_
              refine rg_nil ?_
              refine VS_cond rfl (fun c8 => ?_) (fun c8 => ?_)
              · exfalso; simp at c8; omega
              · try simp at c8
                refine VS_skip ?_
                refine VS_r0 rfl ?_
                refine q_mv rfl ?_
                refine q_add rfl rfl (inR64 (by omega)) ?_
                refine q_mv rfl ?_
                refine rg_nil ?_
                refine Bd.renL [0, 1, 2, 3, 7, 5, 6] (fun i hi => by first | (exact absurd hi (Nat.not_lt_zero i)) | (have e : i = 0 := (by simp at hi; omega); subst e; rfl) | (have e : i = 0 ∨ i = 1 := (by simp at hi; omega); rcases e with rfl | rfl <;> rfl)) (by simp) [(2, .ptr 0 0 0), (3, .pv (i64 (nlv xs.length))), (4, .pv (pgsP ps)), (10, .pv (i64 (nlv xs.length / 2))), (11, .ptr 1 0 0), (12, .ptr 2 0 0), (13, .pv (i64 (i + 1)))] ⟨rfl, rfl, rfl, rfl, rfl, rfl, rfl, trivial⟩ (l7 rfl (in2 rfl rfl) (in2 rfl rfl) (obD_mI _) (obD_mI _) (obD_mI _) (obD_mI _)) ⟨_, ?_, i + 1, ka, ca ++ [2 + (i : Int)], kb, cb, rfl, ?_, ?_, ?_, ?_, ?_, ?_, rfl, rfl⟩
                · first | omega | assumption | rfl | (simp; omega)
                · first | omega | assumption | rfl | (simp; omega)
                · obtain rfl : i = 0 := by omega
                  rw [m1]
                  cases ps <;> rfl
                · rw [m2, show min (i + 1) 3 = i + 1 by omega, show min i 3 = i by omega, natI_succ]; rfl
                · rw [m3, List.drop_of_length_le (by simp; omega), List.drop_of_length_le (by simp; omega)]
                · rw [m4, show i + 1 - 3 = i - 3 by omega]
                · simp; omega
          · try simp at c6
            refine VS_r0 rfl ?_
            first | refine q_fld_r rfl ?_ | refine q_fld_c rfl rfl ?_
            first | refine q_load_c rfl rfl rfl ?_ | refine q_load_r rfl rfl rfl rfl rfl rfl rfl ?_ | refine q_load_o rfl rfl rfl rfl rfl ?_
            refine q_mv rfl ?_
            refine q_add rfl rfl (inR64 (by omega)) ?_
            refine q_lit (xs := [i64 (3 + (i : Int))]) rfl rfl rfl rfl ?_
            refine q_app_dm (xs := cb) (ys := [3 + (i : Int)]) (f := fun k => .pv (i64 k)) rfl rfl rfl rfl ⟨by simp; omega, by simp; omega⟩ trivial ?_
            first | refine q_fld_r rfl ?_ | refine q_fld_c rfl rfl ?_
            first | refine q_store rfl rfl rfl rfl rfl rfl ⟨rfl, rfl, by simp, rfl, by simp [isOne]⟩ rfl trivial ?_ | refine q_storeF rfl rfl rfl rfl rfl (by first | (simp; done) | (simp [setAt]; done)) trivial ?_ | refine q_store rfl rfl rfl rfl rfl rfl ⟨rfl, rfl, by simp, by simp [setAt, isCell_own, isCell_sl, isCell_int, isCell_nils], by simp [isOne]⟩ rfl trivial ?_
            refine rg_nil ?_
            refine VS_seq ?_
            refine VS_seq ?_
            refine VS_r0 rfl ?_
            refine q_mv rfl ?_
            refine q_gtr rfl rfl ?_
            refine q_mv rfl ?_
            refine q_b rfl (fun g119 => ?_) (fun g119 => ?_)
            · try simp at g119
              refine q_t rfl ?_
              refine q_mv rfl ?_
              refine q_t rfl ?_
              refine q_mv rfl ?_
              refine q_t rfl ?_
              refine q_lss rfl rfl ?_
              refine q_pick_t rfl rfl ?_
              refine rg_nil ?_
              refine VS_cond rfl (fun c7 => ?_) (fun c7 => ?_)
              · exfalso; simp at c7; omega
              · try simp at c7
                refine VS_skip ?_
                refine VS_seq ?_
                refine VS_r0 rfl ?_
                refine q_mv rfl ?_
                refine q_mv rfl ?_
                refine q_gtr rfl rfl ?_
                refine rg_nil ?_
                refine VS_cond rfl (fun c8 => ?_) (fun c8 => ?_)
                · try simp at c8
                  have hks2 : 0 < (nth ps i).ks.length := by rw [hps]; exact lvs_ks hx (by omega) (by omega)
                  refine VS_r2 [none, none, some ⟨38, 2, [.agg [ownD 5 (dI kb), ownD 7 (dI (cb ++ [3 + (i : Int)]))]]⟩] hmix (SubL.sub (by repeat (first | exact SubL.nil | apply SubL.none | apply SubL.some | apply SubL.sh | apply SubL.eq))) ?_
                  first | refine q_fld_r rfl ?_ | refine q_fld_c rfl rfl ?_
                  first | refine q_load_c rfl rfl rfl ?_ | refine q_load_r rfl rfl rfl rfl rfl rfl rfl ?_ | refine q_load_o rfl rfl rfl rfl rfl ?_
                  refine q_mv rfl ?_
                  refine q_mv rfl ?_
                  refine q_idx_m (f := pgP) (xs := ps) (n := (i : Int)) rfl rfl (by omega) (by omega) (fun _ => rfl) ?_
                  first | refine q_fld_r rfl ?_ | refine q_fld_c rfl rfl ?_
                  first | refine q_load_c rfl rfl rfl ?_ | refine q_load_r rfl rfl rfl rfl rfl rfl rfl ?_ | refine q_load_o rfl rfl rfl rfl rfl ?_
                  refine q_idx_m (f := fun k => i64 k) (xs := (nth ps i).ks) (n := 0) rfl rfl (by omega) (by omega) (fun _ => rfl) ?_
                  first | refine q_load_c rfl rfl rfl ?_ | refine q_load_r rfl rfl rfl rfl rfl rfl rfl ?_ | refine q_load_o rfl rfl rfl rfl rfl ?_
                  refine q_lit (xs := [i64 (fk (nth ps i))]) rfl rfl rfl rfl ?_
                  refine q_app_dm (xs := kb) (ys := [fk (nth ps i)]) (f := fun k => .pv (i64 k)) rfl rfl rfl rfl ⟨by simp; omega, by simp; omega⟩ (by first | exact trivial | exact Sub.nil | exact Sub.refl _ | exact Sub.app _ _ | exact SubL.sub (by repeat (first | exact SubL.nil | apply SubL.none | apply SubL.some | apply SubL.sh | apply SubL.eq)) | (refine Sub.of_eq ?_; intro o ob h; rcases o with _ | _ | _ | _ | _ | o <;> simp_all)) ?_
                  first | refine q_fld_r rfl ?_ | refine q_fld_c rfl rfl ?_
                  refine q_last ?_
                  first | refine q_store rfl rfl rfl rfl rfl rfl ⟨rfl, rfl, by simp, rfl, by simp [isOne]⟩ rfl (by first | exact trivial | exact Sub.nil | exact Sub.refl _ | exact Sub.app _ _ | exact SubL.sub (by repeat (first | exact SubL.nil | apply SubL.none | apply SubL.some | apply SubL.sh | apply SubL.eq)) | (refine Sub.of_eq ?_; intro o ob h; rcases o with _ | _ | _ | _ | _ | o <;> simp_all)) ?_ | refine q_storeF rfl rfl rfl rfl rfl (by first | (simp; done) | (simp [setAt]; done)) (by first | exact trivial | exact Sub.nil | exact Sub.refl _ | exact Sub.app _ _ | exact SubL.sub (by repeat (first | exact SubL.nil | apply SubL.none | apply SubL.some | apply SubL.sh | apply SubL.eq)) | (refine Sub.of_eq ?_; intro o ob h; rcases o with _ | _ | _ | _ | _ | o <;> simp_all)) ?_ | refine q_store rfl rfl rfl rfl rfl rfl ⟨rfl, rfl, by simp, by simp [setAt, isCell_own, isCell_sl, isCell_int, isCell_nils], by simp [isOne]⟩ rfl (by first | exact trivial | exact Sub.nil | exact Sub.refl _ | exact Sub.app _ _ | exact SubL.sub (by repeat (first | exact SubL.nil | apply SubL.none | apply SubL.some | apply SubL.sh | apply SubL.eq)) | (refine Sub.of_eq ?_; intro o ob h; rcases o with _ | _ | _ | _ | _ | o <;> simp_all)) ?_
                  refine rg_nil ?_
                  refine VS_r0 rfl ?_
                  refine q_mv rfl ?_
                  refine q_add rfl rfl (inR64 (by omega)) ?_
                  refine q_mv rfl ?_
                  refine rg_nil ?_
                  refine Bd.renL [0, 1, 2, 3, 4, 8, 7] (fun i hi => by first | (exact absurd hi (Nat.not_lt_zero i)) | (have e : i = 0 := (by simp at hi; omega); subst e; rfl) | (have e : i = 0 ∨ i = 1 := (by simp at hi; omega); rcases e with rfl | rfl <;> rfl)) (by simp) [(2, .ptr 0 0 0), (3, .pv (i64 (nlv xs.length))), (4, .pv (pgsP ps)), (10, .pv (i64 (nlv xs.length / 2))), (11, .ptr 1 0 0), (12, .ptr 2 0 0), (13, .pv (i64 (i + 1)))] ⟨rfl, rfl, rfl, rfl, rfl, rfl, rfl, trivial⟩ (l7 rfl (in2 rfl rfl) (in2 rfl rfl) (obD_mI _) (obD_mI _) (obD_mI _) (obD_mI _)) ⟨_, ?_, i + 1, ka, ca, kb ++ [fk (nth ps i)], cb ++ [3 + (i : Int)], rfl, ?_, ?_, ?_, ?_, ?_, ?_, rfl, rfl⟩
                  · first | omega | assumption | rfl | (simp; omega)
                  · first | omega | assumption | rfl | (simp; omega)
                  · rw [m1, show min (i + 1) 3 = min i 3 by omega]
                  · rw [m2, show min (i + 1) 3 = min i 3 by omega]
                  · rw [m3, keys_drop (by omega) (by omega)]
                  · rw [m4, show i + 1 - 3 = (i - 3) + 1 by omega, natI_succ]; congr 2; omega
                  · simp; omega
                · try simp at c8
                  refine VS_skip ?_
                  refine VS_r0 rfl ?_
                  refine q_mv rfl ?_
                  refine q_add rfl rfl (inR64 (by omega)) ?_
                  refine q_mv rfl ?_
                  refine rg_nil ?_
                  refine Bd.renL [0, 1, 2, 3, 4, 5, 7] (fun i hi => by first | (exact absurd hi (Nat.not_lt_zero i)) | (have e : i = 0 := (by simp at hi; omega); subst e; rfl) | (have e : i = 0 ∨ i = 1 := (by simp at hi; omega); rcases e with rfl | rfl <;> rfl)) (by simp) [(2, .ptr 0 0 0), (3, .pv (i64 (nlv xs.length))), (4, .pv (pgsP ps)), (10, .pv (i64 (nlv xs.length / 2))), (11, .ptr 1 0 0), (12, .ptr 2 0 0), (13, .pv (i64 (i + 1)))] ⟨rfl, rfl, rfl, rfl, rfl, rfl, rfl, trivial⟩ (l7 rfl (in2 rfl rfl) (in2 rfl rfl) (obD_mI _) (obD_mI _) (obD_mI _) (obD_mI _)) ⟨_, ?_, i + 1, ka, ca, kb, cb ++ [3 + (i : Int)], rfl, ?_, ?_, ?_, ?_, ?_, ?_, rfl, rfl⟩
                  · first | omega | assumption | rfl | (simp; omega)
                  · first | omega | assumption | rfl | (simp; omega)
                  · rw [m1, show min (i + 1) 3 = min i 3 by omega]
                  · rw [m2, show min (i + 1) 3 = min i 3 by omega]
                  · rw [m3, List.drop_of_length_le (by simp; omega), List.drop_of_length_le (by simp; omega)]
                  · rw [m4, show i + 1 - 3 = (i - 3) + 1 by omega, natI_succ]; congr 2; omega
                  · simp; omega
            · try simp at g119
              refine q_f rfl ?_
              refine q_f rfl ?_
              refine q_f rfl ?_
              refine q_pick_f rfl rfl ?_
              refine rg_nil ?_
              refine VS_cond rfl (fun e => by cases e) (fun _ => ?_)
              refine VS_skip ?_
              refine VS_seq ?_
              refine VS_r0 rfl ?_
              refine q_mv rfl ?_
              refine q_mv rfl ?_
              refine q_gtr rfl rfl ?_
              refine rg_nil ?_
              refine VS_cond rfl (fun c8 => ?_) (fun c8 => ?_)
              · try simp at c8
                have hks2 : 0 < (nth ps i).ks.length := by rw [hps]; exact lvs_ks hx (by omega) (by omega)
                refine VS_r2 [none, none, some ⟨38, 2, [.agg [ownD 5 (dI kb), ownD 7 (dI (cb ++ [3 + (i : Int)]))]]⟩] hmix (SubL.sub (by repeat (first | exact SubL.nil | apply SubL.none | apply SubL.some | apply SubL.sh | apply SubL.eq))) ?_
                first | refine q_fld_r rfl ?_ | refine q_fld_c rfl rfl ?_
                first | refine q_load_c rfl rfl rfl ?_ | refine q_load_r rfl rfl rfl rfl rfl rfl rfl ?_ | refine q_load_o rfl rfl rfl rfl rfl ?_
                refine q_mv rfl ?_
                refine q_mv rfl ?_
                refine q_idx_m (f := pgP) (xs := ps) (n := (i : Int)) rfl rfl (by omega) (by omega) (fun _ => rfl) ?_
                first | refine q_fld_r rfl ?_ | refine q_fld_c rfl rfl ?_
                first | refine q_load_c rfl rfl rfl ?_ | refine q_load_r rfl rfl rfl rfl rfl rfl rfl ?_ | refine q_load_o rfl rfl rfl rfl rfl ?_
                refine q_idx_m (f := fun k => i64 k) (xs := (nth ps i).ks) (n := 0) rfl rfl (by omega) (by omega) (fun _ => rfl) ?_
                first | refine q_load_c rfl rfl rfl ?_ | refine q_load_r rfl rfl rfl rfl rfl rfl rfl ?_ | refine q_load_o rfl rfl rfl rfl rfl ?_
                refine q_lit (xs := [i64 (fk (nth ps i))]) rfl rfl rfl rfl ?_
                refine q_app_dm (xs := kb) (ys := [fk (nth ps i)]) (f := fun k => .pv (i64 k)) rfl rfl rfl rfl ⟨by simp; omega, by simp; omega⟩ (by first | exact trivial | exact Sub.nil | exact Sub.refl _ | exact Sub.app _ _ | exact SubL.sub (by repeat (first | exact SubL.nil | apply SubL.none | apply SubL.some | apply SubL.sh | apply SubL.eq)) | (refine Sub.of_eq ?_; intro o ob h; rcases o with _ | _ | _ | _ | _ | o <;> simp_all)) ?_
                first | refine q_fld_r rfl ?_ | refine q_fld_c rfl rfl ?_
                refine q_last ?_
                first | refine q_store rfl rfl rfl rfl rfl rfl ⟨rfl, rfl, by simp, rfl, by simp [isOne]⟩ rfl (by first | exact trivial | exact Sub.nil | exact Sub.refl _ | exact Sub.app _ _ | exact SubL.sub (by repeat (first | exact SubL.nil | apply SubL.none | apply SubL.some | apply SubL.sh | apply SubL.eq)) | (refine Sub.of_eq ?_; intro o ob h; rcases o with _ | _ | _ | _ | _ | o <;> simp_all)) ?_ | refine q_storeF rfl rfl rfl rfl rfl (by first | (simp; done) | (simp [setAt]; done)) (by first | exact trivial | exact Sub.nil | exact Sub.refl _ | exact Sub.app _ _ | exact SubL.sub (by repeat (first | exact SubL.nil | apply SubL.none | apply SubL.some | apply SubL.sh | apply SubL.eq)) | (refine Sub.of_eq ?_; intro o ob h; rcases o with _ | _ | _ | _ | _ | o <;> simp_all)) ?_ | refine q_store rfl rfl rfl rfl rfl rfl ⟨rfl, rfl, by simp, by simp [setAt, isCell_own, isCell_sl, isCell_int, isCell_nils], by simp [isOne]⟩ rfl (by first | exact trivial | exact Sub.nil | exact Sub.refl _ | exact Sub.app _ _ | exact SubL.sub (by repeat (first | exact SubL.nil | apply SubL.none | apply SubL.some | apply SubL.sh | apply SubL.eq)) | (refine Sub.of_eq ?_; intro o ob h; rcases o with _ | _ | _ | _ | _ | o <;> simp_all)) ?_
                refine rg_nil ?_
                refine VS_r0 rfl ?_
                refine q_mv rfl ?_
                refine q_add rfl rfl (inR64 (by omega)) ?_
                refine q_mv rfl ?_
                refine rg_nil ?_
                refine Bd.renL [0, 1, 2, 3, 4, 8, 7] (fun i hi => by first | (exact absurd hi (Nat.not_lt_zero i)) | (have e : i = 0 := (by simp at hi; omega); subst e; rfl) | (have e : i = 0 ∨ i = 1 := (by simp at hi; omega); rcases e with rfl | rfl <;> rfl)) (by simp) [(2, .ptr 0 0 0), (3, .pv (i64 (nlv xs.length))), (4, .pv (pgsP ps)), (10, .pv (i64 (nlv xs.length / 2))), (11, .ptr 1 0 0), (12, .ptr 2 0 0), (13, .pv (i64 (i + 1)))] ⟨rfl, rfl, rfl, rfl, rfl, rfl, rfl, trivial⟩ (l7 rfl (in2 rfl rfl) (in2 rfl rfl) (obD_mI _) (obD_mI _) (obD_mI _) (obD_mI _)) ⟨_, ?_, i + 1, ka, ca, kb ++ [fk (nth ps i)], cb ++ [3 + (i : Int)], rfl, ?_, ?_, ?_, ?_, ?_, ?_, rfl, rfl⟩
                · first | omega | assumption | rfl | (simp; omega)
                · first | omega | assumption | rfl | (simp; omega)
                · rw [m1, show min (i + 1) 3 = min i 3 by omega]
                · rw [m2, show min (i + 1) 3 = min i 3 by omega]
                · rw [m3, keys_drop (by omega) (by omega)]
                · rw [m4, show i + 1 - 3 = (i - 3) + 1 by omega, natI_succ]; congr 2; omega
                · simp; omega
              · try simp at c8
                refine VS_skip ?_
                refine VS_r0 rfl ?_
                refine q_mv rfl ?_
                refine q_add rfl rfl (inR64 (by omega)) ?_
                refine q_mv rfl ?_
                refine rg_nil ?_
                refine Bd.renL [0, 1, 2, 3, 4, 5, 7] (fun i hi => by first | (exact absurd hi (Nat.not_lt_zero i)) | (have e : i = 0 := (by simp at hi; omega); subst e; rfl) | (have e : i = 0 ∨ i = 1 := (by simp at hi; omega); rcases e with rfl | rfl <;> rfl)) (by simp) [(2, .ptr 0 0 0), (3, .pv (i64 (nlv xs.length))), (4, .pv (pgsP ps)), (10, .pv (i64 (nlv xs.length / 2))), (11, .ptr 1 0 0), (12, .ptr 2 0 0), (13, .pv (i64 (i + 1)))] ⟨rfl, rfl, rfl, rfl, rfl, rfl, rfl, trivial⟩ (l7 rfl (in2 rfl rfl) (in2 rfl rfl) (obD_mI _) (obD_mI _) (obD_mI _) (obD_mI _)) ⟨_, ?_, i + 1, ka, ca, kb, cb ++ [3 + (i : Int)], rfl, ?_, ?_, ?_, ?_, ?_, ?_, rfl, rfl⟩
                · first | omega | assumption | rfl | (simp; omega)
                · first | omega | assumption | rfl | (simp; omega)
                · rw [m1, show min (i + 1) 3 = min i 3 by omega]
                · rw [m2, show min (i + 1) 3 = min i 3 by omega]
                · rw [m3, List.drop_of_length_le (by simp; omega), List.drop_of_length_le (by simp; omega)]
                · rw [m4, show i + 1 - 3 = (i - 3) + 1 by omega, natI_succ]; congr 2; omega
                · simp; omega
        · try simp at c5
          refine VS_exit ?_
          refine VS_seq ?_
          have hks3 : 0 < (nth ps (nlv xs.length / 2)).ks.length := by rw [hps]; exact lvs_ks hx (by omega) (by omega)
          refine VS_bd (Bd.frzF 3 1 0 0 3 1 (xs := dI ka) (by decide) rfl (toPVs_dI _) rfl rfl rfl ?_)
          refine VS_bd (Bd.frzF 4 1 0 1 3 1 (xs := dI ca) (by decide) rfl (toPVs_dI _) rfl rfl rfl ?_)
          refine VS_bd (Bd.frzF 5 2 0 0 3 1 (xs := dI kb) (by decide) rfl (toPVs_dI _) rfl rfl rfl ?_)
          refine VS_bd (Bd.frzF 6 2 0 1 3 1 (xs := dI cb) (by decide) rfl (toPVs_dI _) rfl rfl rfl ?_)
          refine VS_st [some ⟨53, 2, [.agg [.pv (i64 0), .nils]]⟩, some ⟨38, 2, [.agg [.pv (ints ka), .pv (ints ca)]]⟩, some ⟨38, 2, [.agg [.pv (ints kb), .pv (ints cb)]]⟩, none, none, none, none] rfl ?_
          refine VS_r0 rfl ?_
          refine q_mv rfl ?_
          refine q_mv rfl ?_
          refine q_idx_m (f := pgP) (xs := ps) (n := (((nlv xs.length / 2) : Nat) : Int)) rfl rfl (by omega) (by omega) (fun _ => rfl) ?_
          first | refine q_fld_r rfl ?_ | refine q_fld_c rfl rfl ?_
          first | refine q_load_c rfl rfl rfl ?_ | refine q_load_r rfl rfl rfl rfl rfl rfl rfl ?_ | refine q_load_o rfl rfl rfl rfl rfl ?_
          refine q_idx_m (f := fun k => i64 k) (xs := (nth ps (nlv xs.length / 2)).ks) (n := 0) rfl rfl (by omega) (by omega) (fun _ => rfl) ?_
          first | refine q_load_c rfl rfl rfl ?_ | refine q_load_r rfl rfl rfl rfl rfl rfl rfl ?_ | refine q_load_o rfl rfl rfl rfl rfl ?_
          refine q_lit (xs := [i64 (fk (nth ps (nlv xs.length / 2)))]) rfl rfl rfl rfl ?_
          refine q_mv rfl ?_
          refine q_add_to ((2 + (nlv xs.length / 2) : Nat) : Int) rfl rfl (by omega) (inR64 (by omega)) ?_
          refine q_lit (xs := [i64 1, i64 ((2 + (nlv xs.length / 2) : Nat) : Int)]) rfl rfl rfl rfl ?_
          refine q_build rfl ?_
          refine q_alloc trivial ?_
          first | refine q_store rfl rfl rfl rfl rfl rfl ⟨rfl, rfl, by simp, rfl, by simp [isOne]⟩ rfl trivial ?_ | refine q_storeF rfl rfl rfl rfl rfl (by first | (simp; done) | (simp [setAt]; done)) trivial ?_ | refine q_store rfl rfl rfl rfl rfl rfl ⟨rfl, rfl, by simp, by simp [setAt, isCell_own, isCell_sl, isCell_int, isCell_nils], by simp [isOne]⟩ rfl trivial ?_
          refine rg_nil ?_
          refine VS_seq ?_
          refine VS_r6 _ hmix (Sub.refl _) ?_
          first | refine q_load_c rfl rfl rfl ?_ | refine q_load_ra rfl rfl rfl rfl rfl (by first | (simp; done) | (simp [setAt]; done)) rfl ?_
          first | refine q_load_c rfl rfl rfl ?_ | refine q_load_ra rfl rfl rfl rfl rfl (by first | (simp; done) | (simp [setAt]; done)) rfl ?_
          refine q_callp (c_spec_innerOf [fk (nth ps (nlv xs.length / 2))] [1, ((2 + nlv xs.length / 2 : Nat) : Int)]) rfl (by first | exact trivial | exact Sub.nil | exact Sub.refl _ | exact Sub.app _ _ | exact SubL.sub (by repeat (first | exact SubL.nil | apply SubL.none | apply SubL.some | apply SubL.sh | apply SubL.eq)) | (refine Sub.of_eq ?_; intro o ob h; rcases o with _ | _ | _ | _ | _ | o <;> simp_all)) ?_
          refine q_callp (c_spec_innerOf ka ca) rfl (by first | exact trivial | exact Sub.nil | exact Sub.refl _ | exact Sub.app _ _ | exact SubL.sub (by repeat (first | exact SubL.nil | apply SubL.none | apply SubL.some | apply SubL.sh | apply SubL.eq)) | (refine Sub.of_eq ?_; intro o ob h; rcases o with _ | _ | _ | _ | _ | o <;> simp_all)) ?_
          refine q_litx (xs := [pgP (⟨[fk (nth ps (nlv xs.length / 2))], [1, ((2 + nlv xs.length / 2 : Nat) : Int)], []⟩ : Pg), pgP (⟨ka, ca, []⟩ : Pg)]) rfl rfl rfl rfl (by first | exact trivial | exact Sub.nil | exact Sub.refl _ | exact Sub.app _ _ | exact SubL.sub (by repeat (first | exact SubL.nil | apply SubL.none | apply SubL.some | apply SubL.sh | apply SubL.eq)) | (refine Sub.of_eq ?_; intro o ob h; rcases o with _ | _ | _ | _ | _ | o <;> simp_all)) ?_
          refine q_mv rfl ?_
          refine rg_nil ?_
          refine VS_seq ?_
          refine VS_r0 rfl ?_
          refine q_mv rfl ?_
          refine q_mv rfl ?_
          refine q_mv rfl ?_
          refine q_slc_m (xs := ps) (f := pgP) 0 (nlv xs.length / 2) rfl rfl rfl ⟨rfl, rfl, by omega, by omega⟩ (fun _ => rfl) ?_
          refine q_app_dm (xs := [(⟨[fk (nth ps (nlv xs.length / 2))], [1, ((2 + nlv xs.length / 2 : Nat) : Int)], []⟩ : Pg), (⟨ka, ca, []⟩ : Pg)]) (ys := (ps.take (nlv xs.length / 2)).drop 0) (f := fun p => .pv (pgP p)) rfl (elems_G _) (cell_G _) rfl ⟨by simp; omega, by simp; omega⟩ trivial ?_
          refine q_mv rfl ?_
          refine rg_nil ?_
          refine VS_seq ?_
          refine VS_r0 rfl ?_
          refine q_mv rfl ?_
          first | refine q_load_c rfl rfl rfl ?_ | refine q_load_ra rfl rfl rfl rfl rfl (by first | (simp; done) | (simp [setAt]; done)) rfl ?_
          refine q_callp (c_spec_innerOf kb cb) rfl trivial ?_
          refine q_lit (xs := [pgP (⟨kb, cb, []⟩ : Pg)]) rfl rfl rfl rfl ?_
          refine q_app_dm (xs := [(⟨[fk (nth ps (nlv xs.length / 2))], [1, ((2 + nlv xs.length / 2 : Nat) : Int)], []⟩ : Pg), (⟨ka, ca, []⟩ : Pg)] ++ (ps.take (nlv xs.length / 2)).drop 0) (ys := [(⟨kb, cb, []⟩ : Pg)]) (f := fun p => .pv (pgP p)) rfl rfl rfl rfl ⟨by simp; omega, by simp; omega⟩ trivial ?_
          refine q_mv rfl ?_
          refine rg_nil ?_
          refine VS_seq ?_
          refine VS_r0 rfl ?_
          refine q_mv rfl ?_
          refine q_mv rfl ?_
          refine q_mv rfl ?_
          refine q_slc_m (xs := ps) (f := pgP) (nlv xs.length / 2) ps.length rfl rfl rfl ⟨rfl, by simp, by omega, by omega⟩ (fun _ => rfl) ?_
          refine q_app_dm (xs := [(⟨[fk (nth ps (nlv xs.length / 2))], [1, ((2 + nlv xs.length / 2 : Nat) : Int)], []⟩ : Pg), (⟨ka, ca, []⟩ : Pg)] ++ (ps.take (nlv xs.length / 2)).drop 0 ++ [(⟨kb, cb, []⟩ : Pg)]) (ys := (ps.take ps.length).drop (nlv xs.length / 2)) (f := fun p => .pv (pgP p)) rfl (elems_G _) (cell_G _) rfl ⟨by simp; omega, by simp; omega⟩ trivial ?_
          refine q_build1 (d := ownD 11 (dG ([(⟨[fk (nth ps (nlv xs.length / 2))], [1, ((2 + nlv xs.length / 2 : Nat) : Int)], []⟩ : Pg), (⟨ka, ca, []⟩ : Pg)] ++ (ps.take (nlv xs.length / 2)).drop 0 ++ [(⟨kb, cb, []⟩ : Pg)] ++ (ps.take ps.length).drop (nlv xs.length / 2)))) rfl cellsD_own ?_
          first | refine q_store rfl rfl rfl rfl rfl rfl ⟨rfl, rfl, by simp, rfl, by simp [isOne]⟩ rfl trivial ?_ | refine q_storeF rfl rfl rfl rfl rfl (by first | (simp; done) | (simp [setAt]; done)) trivial ?_ | refine q_store rfl rfl rfl rfl rfl rfl ⟨rfl, rfl, by simp, by simp [setAt, isCell_own, isCell_sl, isCell_int, isCell_nils], by simp [isOne]⟩ rfl trivial ?_
          refine rg_nil ?_
          refine VS_ret ?_
          have hi6 : i = 6 := by omega
          refine Bd.renL [11, 0] (fun i hi => by first | (exact absurd hi (Nat.not_lt_zero i)) | (have e : i = 0 := (by simp at hi; omega); subst e; rfl) | (have e : i = 0 ∨ i = 1 := (by simp at hi; omega); rcases e with rfl | rfl <;> rfl)) (by simp) [(2, .ptr 1 0 0)] ⟨rfl, trivial⟩ (l2 (obD_mG (ty := 65) (sz := 3) ([(⟨[fk (nth ps (nlv xs.length / 2))], [1, ((2 + nlv xs.length / 2 : Nat) : Int)], []⟩ : Pg), (⟨ka, ca, []⟩ : Pg)] ++ (ps.take (nlv xs.length / 2)).drop 0 ++ [(⟨kb, cb, []⟩ : Pg)] ++ (ps.take ps.length).drop (nlv xs.length / 2))) (congrArg (fun z => some (⟨53, 2, [.agg [.pv (i64 0), z]]⟩ : Ob)) (mp1_own rfl))) ?_
          have hload : loadP xs = [(⟨[fk (nth ps (nlv xs.length / 2))], [1, ((2 + nlv xs.length / 2 : Nat) : Int)], []⟩ : Pg), (⟨ka, ca, []⟩ : Pg)] ++ (ps.take (nlv xs.length / 2)).drop 0 ++ [(⟨kb, cb, []⟩ : Pg)] ++ (ps.take ps.length).drop (nlv xs.length / 2) := by rw [loadP, if_neg (by omega), if_neg (by omega), m1, m2, m3, m4, hi6, hps, h3, h6, List.drop_zero, List.take_length]; simp [hll, h6]; rw [List.take_of_length_le (by simp; omega)]
          exact ⟨_, rfl, _, by show _ = D.agg [.pv (i64 0), ownD 0 (dG (loadP xs))]; rw [hload], by show _ = obD _ 3 (dG (loadP xs)) :: _; rw [hload]⟩
end Go.V

set_option maxHeartbeats 4000000
namespace Go.V
open Go.Proofs.Try (prog)
set_option maxRecDepth 100000
end Go.V

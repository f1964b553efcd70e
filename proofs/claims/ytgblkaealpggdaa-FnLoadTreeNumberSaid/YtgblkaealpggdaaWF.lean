/- A part of the proofs about laws of the page tree (see the text that bears the law): a small language of steps, its rules, and what the functions of the program return. -/
import Derived.Test.YtgblkaealpggdaaWKaa
import Derived.Test.YtgblkaealpggdaaLF
set_option linter.all false
set_option linter.unusedVariables false
set_option linter.unusedSimpArgs false
set_option maxHeartbeats 4000000
namespace Go.V
open Go.Proofs.Try (prog)
set_option maxRecDepth 100000
theorem sl_impl_pageCheck_filledRight : slimF prog 88 = some (81, (.seq (.reg 0 (.o 4 (.mv (.c (.pv (.bool false)))) .nil)) (.seq (.reg 0 (.o 8 (.mv (.t 0)) (.o 9 (.nilc (.t 8)) (.o 10 (.fld 0 2 true (.t 9)) (.o 11 (.fld 1 1 false (.t 10)) (.o 12 (.load 1 false (.t 11)) (.o 13 (.mv (.t 1)) (.o 14 (.idx 3 (.t 12) (.t 13)) (.o 15 (.load 3 true (.t 14)) (.o 5 (.alloc 25 3 (.agg [.nils, .nils, .nils])) (.op ⟨none, none, .store 3 (.t 5) (.t 15)⟩ .nil))))))))))) (.seq (.seq (.reg 0 (.o 16 (.fld 0 1 false (.t 5)) (.o 17 (.load 1 false (.t 16)) (.o 18 (.len (.t 17)) (.o 19 (.bin .gtr (.t 18) (.c (.pv (.int .i64 4)))) (.o 20 (.mv (.t 19)) (.g 21 20 false (.fld 0 1 false (.t 5)) (.g 22 20 false (.load 1 false (.t 21)) (.g 23 20 false (.call 65 [.t 22]) (.g 24 20 false (.not (.t 23)) (.o 25 (.pick (.t 20) (.c (.pv (.bool true))) (.t 24)) .nil))))))))))) (.cond (.t 25) (.seq (.reg 0 (.o 4 (.mv (.c (.pv (.bool false)))) .nil)) .ret) .skip)) (.seq (.seq (.reg 0 (.o 26 (.mv (.t 1)) (.o 27 (.mv (.t 0)) (.o 28 (.nilc (.t 27)) (.o 29 (.fld 0 2 true (.t 28)) (.o 30 (.fld 0 1 false (.t 29)) (.o 31 (.load 1 false (.t 30)) (.o 32 (.bin .neq (.t 26) (.t 31)) (.o 33 (.mv (.t 32)) (.g 34 33 true (.fld 0 1 false (.t 5)) (.g 35 33 true (.load 1 false (.t 34)) (.g 36 33 true (.len (.t 35)) (.g 37 33 true (.bin .lss (.t 36) (.c (.pv (.int .i64 2)))) (.o 38 (.pick (.t 33) (.t 37) (.c (.pv (.bool false)))) .nil)))))))))))))) (.cond (.t 38) (.seq (.reg 0 (.o 4 (.mv (.c (.pv (.bool false)))) .nil)) .ret) .skip)) (.seq (.seq (.reg 0 (.o 39 (.fld 1 1 false (.t 5)) (.o 40 (.load 1 false (.t 39)) (.o 41 (.len (.t 40)) (.o 42 (.bin .gtr (.t 41) (.c (.pv (.int .i64 0)))) .nil))))) (.cond (.t 42) (.seq (.reg 0 (.o 43 (.fld 2 1 false (.t 5)) (.o 44 (.load 1 false (.t 43)) (.o 45 (.len (.t 44)) (.o 46 (.bin .eql (.t 45) (.c (.pv (.int .i64 0)))) (.o 47 (.mv (.t 46)) (.g 48 47 true (.fld 0 1 false (.t 5)) (.g 49 47 true (.load 1 false (.t 48)) (.g 50 47 true (.len (.t 49)) (.g 51 47 true (.bin .geq (.t 50) (.c (.pv (.int .i64 1)))) (.o 52 (.pick (.t 47) (.t 51) (.c (.pv (.bool false)))) (.o 53 (.mv (.t 52)) (.g 54 53 true (.fld 1 1 false (.t 5)) (.g 55 53 true (.load 1 false (.t 54)) (.g 56 53 true (.len (.t 55)) (.g 57 53 true (.fld 0 1 false (.t 5)) (.g 58 53 true (.load 1 false (.t 57)) (.g 59 53 true (.len (.t 58)) (.g 60 53 true (.bin .add (.t 59) (.c (.pv (.int .i64 1)))) (.g 61 53 true (.bin .eql (.t 56) (.t 60)) (.o 62 (.pick (.t 53) (.t 61) (.c (.pv (.bool false)))) (.o 4 (.mv (.t 62)) .nil)))))))))))))))))))))) .ret) .skip)) (.seq (.seq (.reg 0 (.o 63 (.fld 2 1 false (.t 5)) (.o 64 (.load 1 false (.t 63)) (.o 65 (.len (.t 64)) (.o 66 (.fld 0 1 false (.t 5)) (.o 67 (.load 1 false (.t 66)) (.o 68 (.len (.t 67)) (.o 69 (.bin .neq (.t 65) (.t 68)) .nil)))))))) (.cond (.t 69) (.seq (.reg 0 (.o 4 (.mv (.c (.pv (.bool false)))) .nil)) .ret) .skip)) (.seq (.seq (.reg 0 (.o 70 (.fld 2 1 false (.t 5)) (.o 71 (.load 1 false (.t 70)) (.o 72 (.len (.t 71)) (.o 73 (.mv (.c (.pv (.int .i64 0)))) .nil))))) (.block 0 (.loop (.seq (.reg 0 (.o 74 (.bin .lss (.t 73) (.t 72)) .nil)) (.seq (.cond (.t 74) .skip (.exit 0)) (.seq (.block 1 (.seq (.reg 0 (.o 75 (.idx 1 (.t 71) (.t 73)) (.o 76 (.load 1 false (.t 75)) (.o 7 (.mv (.t 76)) .nil)))) (.seq (.reg 0 (.o 77 (.mv (.t 7)) (.o 78 (.call 44 [.t 77]) (.o 79 (.not (.t 78)) .nil)))) (.cond (.t 79) (.seq (.reg 0 (.o 4 (.mv (.c (.pv (.bool false)))) .nil)) .ret) .skip)))) (.reg 0 (.o 80 (.bin .add (.t 73) (.c (.pv (.int .i64 1)))) (.o 73 (.mv (.t 80)) .nil))))))))) (.seq (.reg 0 (.o 4 (.mv (.c (.pv (.bool true)))) .nil)) .ret))))))), [.t 4])) := by kernel_rfl
theorem c_impl_pageCheck_filledRight (t : Pt) (hs : smallT t) (hn : t.ps.length ≤ 16) (i : Int) (seen : Nat → Bool) (ld : Int) (hi : inT t i = true) : RdO prog 88 (chk 67 t seen ld) [i64 i] (fun x ob => x = .bool (fillB t i) ∧ ob = chk 67 t seen ld) := by
 have hi2 := inT_iff.1 hi
 have hsz := hs.2 i hi2.1 hi2.2
 obtain ⟨p, hp⟩ : ∃ p, nth t.ps i.toNat = p := ⟨_, rfl⟩
 have hpp : pg t i = p := hp
 rw [hpp] at hsz
 have hf : fillB t i = fillP (decide (i = t.r)) p := by rw [fillB, hpp]
 rw [hf]
 clear hf hpp
 refine callS_of_VS sl_impl_pageCheck_filledRight (by simp) (VS_seq (VS_r0 rfl (q_mv rfl (rg_nil (VS_seq (VS_r0 rfl (q_mv rfl (q_nilc_r rfl (q_fld_r rfl (q_fld_r rfl (q_load_r rfl rfl rfl rfl rfl rfl rfl (q_mv rfl (q_idx_m (f := pgP) (xs := t.ps) (n := i) rfl rfl (by omega) (by omega) (fun _ => rfl) ?_)))))))))))))
 rw [hp]
 refine q_load_c rfl rfl rfl (q_alloc trivial (q_store rfl rfl rfl rfl rfl rfl ⟨rfl, rfl, by simp, rfl, by simp [isOne]⟩ rfl trivial (rg_nil (VS_seq (VS_seq (VS_r0 rfl (q_fld_r rfl (q_load_r rfl rfl rfl rfl rfl rfl rfl (q_len_m rfl (q_gtr rfl rfl (q_mv rfl ?_)))))))))))
 refine q_b rfl (fun g20 => ?_) (fun g20 => ?_)
 ·try simp at g20
  refine q_t rfl (q_fld_r rfl (q_t rfl (q_load_r rfl rfl rfl rfl rfl rfl rfl (q_t rfl (q_callp (c_impl_ValidKeys p.ks (by omega)) rfl trivial (q_t rfl (q_not rfl (q_pick_f rfl rfl (rg_nil ?_)))))))))
  refine VS_cond rfl (fun c0 => ?_) (fun c0 => ?_)
  ·try simp at c0
   refine VS_seq (VS_r0 rfl (q_mv rfl (rg_nil (VS_ret ?_))))
   refine Bd.now ⟨_, rfl, _, _, _, rfl, ⟨congrArg PV.bool ?_, rfl⟩, rfl⟩
   (simp [fillP, inB, lfB, *]; done)
  ·try simp at c0
   refine VS_skip (VS_seq (VS_seq (VS_r0 rfl (q_mv rfl (q_mv rfl (q_nilc_r rfl (q_fld_r rfl (q_fld_r rfl (q_load_r rfl rfl rfl rfl rfl rfl rfl (q_neq rfl rfl (q_mv rfl ?_)))))))))))
   refine q_b rfl (fun g33 => ?_) (fun g33 => ?_)
   ·try simp at g33
    refine q_t rfl (q_fld_r rfl (q_t rfl (q_load_r rfl rfl rfl rfl rfl rfl rfl (q_t rfl (q_len_m rfl (q_t rfl (q_lss rfl rfl (q_pick_t rfl rfl (rg_nil ?_)))))))))
    refine VS_cond rfl (fun c1 => ?_) (fun c1 => ?_)
    ·try simp at c1
     refine VS_seq (VS_r0 rfl (q_mv rfl (rg_nil (VS_ret ?_))))
     refine Bd.now ⟨_, rfl, _, _, _, rfl, ⟨congrArg PV.bool ?_, rfl⟩, rfl⟩
     (simp_all [fillP, inB, lfB]; omega)
    ·try simp at c1
     refine VS_skip (VS_seq (VS_seq (VS_r0 rfl (q_fld_r rfl (q_load_r rfl rfl rfl rfl rfl rfl rfl (q_len_m rfl (q_gtr rfl rfl (rg_nil ?_))))))))
     refine VS_cond rfl (fun c2 => ?_) (fun c2 => ?_)
     ·try simp at c2
      refine VS_seq (VS_r0 rfl (q_fld_r rfl (q_load_r rfl rfl rfl rfl rfl rfl rfl (q_len_m rfl (q_eql rfl rfl (q_mv rfl ?_))))))
      refine q_b rfl (fun g47 => ?_) (fun g47 => ?_)
      ·try simp at g47
       refine q_t rfl (q_fld_r rfl (q_t rfl (q_load_r rfl rfl rfl rfl rfl rfl rfl (q_t rfl (q_len_m rfl (q_t rfl (q_geq rfl rfl (q_pick_t rfl rfl (q_mv rfl ?_)))))))))
       refine q_b rfl (fun g53 => ?_) (fun g53 => ?_)
       ·try simp at g53
        refine q_t rfl (q_fld_r rfl (q_t rfl (q_load_r rfl rfl rfl rfl rfl rfl rfl (q_t rfl (q_len_m rfl (q_t rfl (q_fld_r rfl (q_t rfl (q_load_r rfl rfl rfl rfl rfl rfl rfl (q_t rfl (q_len_m rfl (q_t rfl (q_add rfl rfl (inR64 (by omega)) (q_t rfl (q_eql rfl rfl ?_)))))))))))))))
        refine q_pick_t rfl rfl (q_mv rfl (rg_nil (VS_ret ?_)))
        refine Bd.now ⟨_, rfl, _, _, _, rfl, ⟨congrArg PV.bool ?_, rfl⟩, rfl⟩
        have hne : ¬ p.cs.length = 0 := by first | omega | simp_all
        simp only [fillP, if_neg hne, inB]
        rw [Bool.eq_iff_iff]
        (simp [*]; omega)
       ·try simp at g53
        refine q_f rfl (q_f rfl (q_f rfl (q_f rfl (q_f rfl (q_f rfl (q_f rfl (q_f rfl (q_pick_f rfl rfl (q_mv rfl (rg_nil (VS_ret ?_)))))))))))
        refine Bd.now ⟨_, rfl, _, _, _, rfl, ⟨congrArg PV.bool ?_, rfl⟩, rfl⟩
        have hne : ¬ p.cs.length = 0 := by first | omega | simp_all
        simp only [fillP, if_neg hne, inB]
        rw [Bool.eq_iff_iff]
        (simp [*]; omega)
      ·try simp at g47
       refine q_f rfl (q_f rfl (q_f rfl (q_f rfl (q_pick_f rfl rfl (q_mv rfl (q_f rfl (q_f rfl (q_f rfl (q_f rfl (q_f rfl (q_f rfl (q_f rfl (q_f rfl (q_pick_f rfl rfl (q_mv rfl ?_)))))))))))))))
       refine rg_nil (VS_ret ?_)
       refine Bd.now ⟨_, rfl, _, _, _, rfl, ⟨congrArg PV.bool ?_, rfl⟩, rfl⟩
       have hne : ¬ p.cs.length = 0 := by first | omega | simp_all
       simp only [fillP, if_neg hne, inB]
       rw [Bool.eq_iff_iff]
       (simp [*]; done)
     ·try simp at c2
      refine VS_skip (VS_seq (VS_seq (VS_r0 rfl (q_fld_r rfl (q_load_r rfl rfl rfl rfl rfl rfl rfl (q_len_m rfl (q_fld_r rfl (q_load_r rfl rfl rfl rfl rfl rfl rfl (q_len_m rfl (q_neq rfl rfl (rg_nil ?_)))))))))))
      refine VS_cond rfl (fun c3 => ?_) (fun c3 => ?_)
      ·try simp at c3
       refine VS_seq (VS_r0 rfl (q_mv rfl (rg_nil (VS_ret ?_))))
       refine Bd.now ⟨_, rfl, _, _, _, rfl, ⟨congrArg PV.bool ?_, rfl⟩, rfl⟩
       (simp_all [fillP, inB, lfB]; omega)
      ·try simp at c3
       refine VS_skip (VS_seq (VS_seq (VS_r0 rfl (q_fld_r rfl (q_load_r rfl rfl rfl rfl rfl rfl rfl (q_len_m rfl (q_mv rfl (rg_nil (VS_block ?_)))))))))
       refine VS_bd (Bd.keepL [(1, .pv (i64 i)), (4, .pv (.bool false)), (71, .pv (ints p.vs)), (72, .pv (i64 p.vs.length)), (73, .pv (i64 0))] ⟨rfl, rfl, rfl, rfl, rfl, trivial⟩ ?_)
       refine VS_loop (fun mz E S => ∃ j : Nat, mz = p.vs.length - j ∧ (j ≤ p.vs.length) ∧ (∀ m, m < j → (decide (-1000 ≤ nth p.vs m) && decide (nth p.vs m ≤ 1000)) = true) ∧ E = env [(1, .pv (i64 i)), (4, .pv (.bool false)), (71, .pv (ints p.vs)), (72, .pv (i64 p.vs.length)), (73, .pv (i64 j))] ∧ S = [some (chk 67 t seen ld), some ⟨25, 3, [.agg [.pv (ints p.ks), .pv (ints p.cs), .pv (ints p.vs)]]⟩]) ⟨_, 0, rfl, (by omega), (by omega), rfl, rfl⟩ ?_
       rintro mz _ _ ⟨j, hmeas, g0, g1, rfl, rfl⟩
       refine VS_seq (VS_r0 rfl (q_lss rfl rfl (rg_nil (VS_seq ?_))))
       refine VS_cond rfl (fun c4 => ?_) (fun c4 => ?_)
       ·try simp at c4
        refine VS_skip (VS_seq (VS_block (VS_seq (VS_r0 rfl (q_idx_c _ rfl rfl (by omega) (fun _ => rfl) (q_load_c rfl rfl rfl (q_mv rfl (rg_nil (VS_seq (VS_r0 rfl (q_mv rfl (q_callp (c_impl_isValue _) rfl trivial (q_not rfl (rg_nil ?_))))))))))))))
        refine VS_cond rfl (fun c5 => ?_) (fun c5 => ?_)
        ·try simp at c5
         refine VS_seq (VS_r0 rfl (q_mv rfl (rg_nil (VS_ret ?_))))
         refine Bd.now ⟨_, rfl, _, _, _, rfl, ⟨congrArg PV.bool ?_, rfl⟩, rfl⟩
         have hall : p.vs.all (fun v => decide (-1000 ≤ v) && decide (v ≤ 1000)) = false := all_false j (by omega) (by simp; omega)
         simp [fillP, lfB, hall, *]
        ·try simp at c5
         refine VS_skip (VS_r0 rfl (q_add rfl rfl (inR64 (by omega)) (q_mv rfl (rg_nil ?_))))
         refine Bd.keepL [(1, .pv (i64 i)), (4, .pv (.bool false)), (71, .pv (ints p.vs)), (72, .pv (i64 p.vs.length)), (73, .pv (i64 (j + 1)))] ⟨rfl, rfl, rfl, rfl, rfl, trivial⟩ ⟨_, ?_, j + 1, rfl, ?_, ?_, rfl, rfl⟩
         ·omega
         ·omega
         ·intro m hm
          by_cases e : m = j
          ·subst e; simpa using c5
          ·exact g1 m (by omega)
       ·try simp at c4
        refine VS_exit (VS_seq (VS_r0 rfl (q_mv rfl (rg_nil (VS_ret ?_)))))
        refine Bd.now ⟨_, rfl, _, _, _, rfl, ⟨congrArg PV.bool ?_, rfl⟩, rfl⟩
        have hall : p.vs.all (fun v => decide (-1000 ≤ v) && decide (v ≤ 1000)) = true := all_true fun m hm => g1 m (by omega)
        (simp [fillP, lfB, hall]; simp_all; try omega)
   ·try simp at g33
    refine q_f rfl (q_f rfl (q_f rfl (q_f rfl (q_pick_f rfl rfl (rg_nil ?_)))))
    refine VS_cond rfl (fun e => by cases e) (fun _ => ?_)
    refine VS_skip (VS_seq (VS_seq (VS_r0 rfl (q_fld_r rfl (q_load_r rfl rfl rfl rfl rfl rfl rfl (q_len_m rfl (q_gtr rfl rfl (rg_nil ?_))))))))
    refine VS_cond rfl (fun c2 => ?_) (fun c2 => ?_)
    ·try simp at c2
     refine VS_seq (VS_r0 rfl (q_fld_r rfl (q_load_r rfl rfl rfl rfl rfl rfl rfl (q_len_m rfl (q_eql rfl rfl (q_mv rfl ?_))))))
     refine q_b rfl (fun g47 => ?_) (fun g47 => ?_)
     ·try simp at g47
      refine q_t rfl (q_fld_r rfl (q_t rfl (q_load_r rfl rfl rfl rfl rfl rfl rfl (q_t rfl (q_len_m rfl (q_t rfl (q_geq rfl rfl (q_pick_t rfl rfl (q_mv rfl ?_)))))))))
      refine q_b rfl (fun g53 => ?_) (fun g53 => ?_)
      ·try simp at g53
       refine q_t rfl (q_fld_r rfl (q_t rfl (q_load_r rfl rfl rfl rfl rfl rfl rfl (q_t rfl (q_len_m rfl (q_t rfl (q_fld_r rfl (q_t rfl (q_load_r rfl rfl rfl rfl rfl rfl rfl (q_t rfl (q_len_m rfl (q_t rfl (q_add rfl rfl (inR64 (by omega)) (q_t rfl (q_eql rfl rfl ?_)))))))))))))))
       refine q_pick_t rfl rfl (q_mv rfl (rg_nil (VS_ret ?_)))
       refine Bd.now ⟨_, rfl, _, _, _, rfl, ⟨congrArg PV.bool ?_, rfl⟩, rfl⟩
       have hne : ¬ p.cs.length = 0 := by first | omega | simp_all
       simp only [fillP, if_neg hne, inB]
       rw [Bool.eq_iff_iff]
       (simp [*]; omega)
      ·try simp at g53
       refine q_f rfl (q_f rfl (q_f rfl (q_f rfl (q_f rfl (q_f rfl (q_f rfl (q_f rfl (q_pick_f rfl rfl (q_mv rfl (rg_nil (VS_ret ?_)))))))))))
       refine Bd.now ⟨_, rfl, _, _, _, rfl, ⟨congrArg PV.bool ?_, rfl⟩, rfl⟩
       have hne : ¬ p.cs.length = 0 := by first | omega | simp_all
       simp only [fillP, if_neg hne, inB]
       rw [Bool.eq_iff_iff]
       (simp [*]; omega)
     ·try simp at g47
      refine q_f rfl (q_f rfl (q_f rfl (q_f rfl (q_pick_f rfl rfl (q_mv rfl (q_f rfl (q_f rfl (q_f rfl (q_f rfl (q_f rfl (q_f rfl (q_f rfl (q_f rfl (q_pick_f rfl rfl (q_mv rfl ?_)))))))))))))))
      refine rg_nil (VS_ret ?_)
      refine Bd.now ⟨_, rfl, _, _, _, rfl, ⟨congrArg PV.bool ?_, rfl⟩, rfl⟩
      have hne : ¬ p.cs.length = 0 := by first | omega | simp_all
      simp only [fillP, if_neg hne, inB]
      rw [Bool.eq_iff_iff]
      (simp [*]; done)
    ·try simp at c2
     refine VS_skip (VS_seq (VS_seq (VS_r0 rfl (q_fld_r rfl (q_load_r rfl rfl rfl rfl rfl rfl rfl (q_len_m rfl (q_fld_r rfl (q_load_r rfl rfl rfl rfl rfl rfl rfl (q_len_m rfl (q_neq rfl rfl (rg_nil ?_)))))))))))
     refine VS_cond rfl (fun c3 => ?_) (fun c3 => ?_)
     ·try simp at c3
      refine VS_seq (VS_r0 rfl (q_mv rfl (rg_nil (VS_ret ?_))))
      refine Bd.now ⟨_, rfl, _, _, _, rfl, ⟨congrArg PV.bool ?_, rfl⟩, rfl⟩
      (simp_all [fillP, inB, lfB]; omega)
     ·try simp at c3
      refine VS_skip (VS_seq (VS_seq (VS_r0 rfl (q_fld_r rfl (q_load_r rfl rfl rfl rfl rfl rfl rfl (q_len_m rfl (q_mv rfl (rg_nil (VS_block ?_)))))))))
      refine VS_bd (Bd.keepL [(1, .pv (i64 i)), (4, .pv (.bool false)), (71, .pv (ints p.vs)), (72, .pv (i64 p.vs.length)), (73, .pv (i64 0))] ⟨rfl, rfl, rfl, rfl, rfl, trivial⟩ ?_)
      refine VS_loop (fun mz E S => ∃ j : Nat, mz = p.vs.length - j ∧ (j ≤ p.vs.length) ∧ (∀ m, m < j → (decide (-1000 ≤ nth p.vs m) && decide (nth p.vs m ≤ 1000)) = true) ∧ E = env [(1, .pv (i64 i)), (4, .pv (.bool false)), (71, .pv (ints p.vs)), (72, .pv (i64 p.vs.length)), (73, .pv (i64 j))] ∧ S = [some (chk 67 t seen ld), some ⟨25, 3, [.agg [.pv (ints p.ks), .pv (ints p.cs), .pv (ints p.vs)]]⟩]) ⟨_, 0, rfl, (by omega), (by omega), rfl, rfl⟩ ?_
      rintro mz _ _ ⟨j, hmeas, g0, g1, rfl, rfl⟩
      refine VS_seq (VS_r0 rfl (q_lss rfl rfl (rg_nil (VS_seq ?_))))
      refine VS_cond rfl (fun c4 => ?_) (fun c4 => ?_)
      ·try simp at c4
       refine VS_skip (VS_seq (VS_block (VS_seq (VS_r0 rfl (q_idx_c _ rfl rfl (by omega) (fun _ => rfl) (q_load_c rfl rfl rfl (q_mv rfl (rg_nil (VS_seq (VS_r0 rfl (q_mv rfl (q_callp (c_impl_isValue _) rfl trivial (q_not rfl (rg_nil ?_))))))))))))))
       refine VS_cond rfl (fun c5 => ?_) (fun c5 => ?_)
       ·try simp at c5
        refine VS_seq (VS_r0 rfl (q_mv rfl (rg_nil (VS_ret ?_))))
        refine Bd.now ⟨_, rfl, _, _, _, rfl, ⟨congrArg PV.bool ?_, rfl⟩, rfl⟩
        have hall : p.vs.all (fun v => decide (-1000 ≤ v) && decide (v ≤ 1000)) = false := all_false j (by omega) (by simp; omega)
        simp [fillP, lfB, hall, *]
       ·try simp at c5
        refine VS_skip (VS_r0 rfl (q_add rfl rfl (inR64 (by omega)) (q_mv rfl (rg_nil ?_))))
        refine Bd.keepL [(1, .pv (i64 i)), (4, .pv (.bool false)), (71, .pv (ints p.vs)), (72, .pv (i64 p.vs.length)), (73, .pv (i64 (j + 1)))] ⟨rfl, rfl, rfl, rfl, rfl, trivial⟩ ⟨_, ?_, j + 1, rfl, ?_, ?_, rfl, rfl⟩
        ·omega
        ·omega
        ·intro m hm
         by_cases e : m = j
         ·subst e; simpa using c5
         ·exact g1 m (by omega)
      ·try simp at c4
       refine VS_exit (VS_seq (VS_r0 rfl (q_mv rfl (rg_nil (VS_ret ?_)))))
       refine Bd.now ⟨_, rfl, _, _, _, rfl, ⟨congrArg PV.bool ?_, rfl⟩, rfl⟩
       have hall : p.vs.all (fun v => decide (-1000 ≤ v) && decide (v ≤ 1000)) = true := all_true fun m hm => g1 m (by omega)
       (simp [fillP, lfB, hall]; simp_all; try omega)
 ·try simp at g20
  refine q_f rfl (q_f rfl (q_f rfl (q_f rfl (q_pick_t rfl rfl (rg_nil ?_)))))
  refine VS_cond rfl (fun _ => ?_) (fun e => by cases e)
  refine VS_seq (VS_r0 rfl (q_mv rfl (rg_nil (VS_ret ?_))))
  refine Bd.now ⟨_, rfl, _, _, _, rfl, ⟨congrArg PV.bool ?_, rfl⟩, rfl⟩
  (simp_all [fillP, inB, lfB]; omega)
theorem sl_impl_pageCheck_visit : slimF prog 53 = some (131, (.seq (.reg 0 (.o 10 (.mv (.c (.pv (.bool false)))) .nil)) (.seq (.seq (.reg 0 (.o 18 (.mv (.t 1)) (.o 19 (.bin .lss (.t 18) (.c (.pv (.int .i64 0)))) (.o 20 (.mv (.t 19)) (.g 21 20 false (.mv (.t 1)) (.g 22 20 false (.mv (.t 0)) (.g 23 20 false (.nilc (.t 22)) (.g 24 20 false (.fld 0 2 true (.t 23)) (.g 25 20 false (.fld 1 1 false (.t 24)) (.g 26 20 false (.load 1 false (.t 25)) (.g 27 20 false (.len (.t 26)) (.g 28 20 false (.bin .geq (.t 21) (.t 27)) (.o 29 (.pick (.t 20) (.c (.pv (.bool true))) (.t 28)) (.o 30 (.mv (.t 29)) (.g 31 30 false (.mv (.t 2)) (.g 32 30 false (.bin .geq (.t 31) (.c (.pv (.int .i64 3)))) (.o 33 (.pick (.t 30) (.c (.pv (.bool true))) (.t 32)) (.o 34 (.mv (.t 33)) (.g 35 34 false (.mv (.t 0)) (.g 36 34 false (.mv (.t 1)) (.g 37 34 false (.nilc (.t 35)) (.g 38 34 false (.fld 2 16 true (.t 37)) (.g 39 34 false (.aidx 16 1 (.t 38) (.t 36)) (.g 40 34 false (.load 1 false (.t 39)) (.o 41 (.pick (.t 34) (.c (.pv (.bool true))) (.t 40)) .nil))))))))))))))))))))))))) (.cond (.t 41) (.seq (.reg 0 (.o 10 (.mv (.c (.pv (.bool false)))) .nil)) .ret) .skip)) (.seq (.reg 0 (.o 42 (.mv (.t 0)) (.o 43 (.mv (.t 1)) (.o 44 (.nilc (.t 42)) (.o 45 (.fld 2 16 true (.t 44)) (.o 46 (.aidx 16 1 (.t 45) (.t 43)) (.op ⟨none, none, .store 1 (.t 46) (.c (.pv (.bool true)))⟩ .nil))))))) (.seq (.seq (.reg 0 (.o 47 (.mv (.t 0)) (.o 48 (.mv (.t 1)) (.o 49 (.call 88 [.t 47, .t 48]) (.o 50 (.not (.t 49)) .nil))))) (.cond (.t 50) (.seq (.reg 0 (.o 10 (.mv (.c (.pv (.bool false)))) .nil)) .ret) .skip)) (.seq (.reg 0 (.o 51 (.mv (.t 0)) (.o 52 (.nilc (.t 51)) (.o 53 (.fld 0 2 true (.t 52)) (.o 54 (.fld 1 1 false (.t 53)) (.o 55 (.load 1 false (.t 54)) (.o 56 (.mv (.t 1)) (.o 57 (.idx 3 (.t 55) (.t 56)) (.o 58 (.load 3 true (.t 57)) (.o 11 (.alloc 25 3 (.agg [.nils, .nils, .nils])) (.op ⟨none, none, .store 3 (.t 11) (.t 58)⟩ .nil))))))))))) (.seq (.seq (.reg 0 (.o 59 (.fld 0 1 false (.t 11)) (.o 60 (.load 1 false (.t 59)) (.o 61 (.len (.t 60)) (.o 62 (.mv (.c (.pv (.int .i64 0)))) .nil))))) (.block 0 (.loop (.seq (.reg 0 (.o 63 (.bin .lss (.t 62) (.t 61)) .nil)) (.seq (.cond (.t 63) .skip (.exit 0)) (.seq (.block 1 (.seq (.reg 0 (.o 64 (.idx 1 (.t 60) (.t 62)) (.o 65 (.load 1 false (.t 64)) (.o 13 (.mv (.t 65)) .nil)))) (.seq (.reg 0 (.o 66 (.mv (.t 13)) (.o 67 (.mv (.t 3)) (.o 68 (.bin .lss (.t 66) (.t 67)) (.o 69 (.mv (.t 68)) (.g 70 69 false (.mv (.t 13)) (.g 71 69 false (.mv (.t 4)) (.g 72 69 false (.bin .geq (.t 70) (.t 71)) (.o 73 (.pick (.t 69) (.c (.pv (.bool true))) (.t 72)) .nil))))))))) (.cond (.t 73) (.seq (.reg 0 (.o 10 (.mv (.c (.pv (.bool false)))) .nil)) .ret) .skip)))) (.reg 0 (.o 74 (.bin .add (.t 62) (.c (.pv (.int .i64 1)))) (.o 62 (.mv (.t 74)) .nil))))))))) (.seq (.seq (.reg 0 (.o 75 (.fld 1 1 false (.t 11)) (.o 76 (.load 1 false (.t 75)) (.o 77 (.len (.t 76)) (.o 78 (.bin .eql (.t 77) (.c (.pv (.int .i64 0)))) .nil))))) (.cond (.t 78) (.seq (.seq (.reg 0 (.o 79 (.mv (.t 0)) (.o 80 (.nilc (.t 79)) (.o 81 (.fld 18 1 false (.t 80)) (.o 82 (.load 1 false (.t 81)) (.o 83 (.bin .lss (.t 82) (.c (.pv (.int .i64 0)))) .nil)))))) (.cond (.t 83) (.reg 0 (.o 84 (.mv (.t 0)) (.o 85 (.mv (.t 2)) (.o 86 (.nilc (.t 84)) (.o 87 (.fld 18 1 false (.t 86)) (.op ⟨none, none, .store 1 (.t 87) (.t 85)⟩ .nil)))))) .skip)) (.seq (.reg 0 (.o 88 (.mv (.t 0)) (.o 89 (.nilc (.t 88)) (.o 90 (.fld 18 1 false (.t 89)) (.o 91 (.load 1 false (.t 90)) (.o 92 (.mv (.t 2)) (.o 93 (.bin .eql (.t 91) (.t 92)) (.o 10 (.mv (.t 93)) .nil)))))))) .ret)) .skip)) (.seq (.seq (.reg 0 (.o 94 (.fld 1 1 false (.t 11)) (.o 95 (.load 1 false (.t 94)) (.o 96 (.len (.t 95)) (.o 97 (.mv (.c (.pv (.int .i64 0)))) .nil))))) (.block 2 (.loop (.seq (.reg 0 (.o 98 (.bin .lss (.t 97) (.t 96)) .nil)) (.seq (.cond (.t 98) .skip (.exit 2)) (.seq (.block 3 (.seq (.reg 0 (.o 99 (.mv (.t 97)) (.o 100 (.idx 1 (.t 95) (.t 97)) (.o 101 (.load 1 false (.t 100)) (.o 14 (.mv (.t 99)) (.o 15 (.mv (.t 101)) .nil)))))) (.seq (.reg 0 (.o 102 (.mv (.t 3)) (.o 103 (.mv (.t 4)) (.o 16 (.mv (.t 102)) (.o 17 (.mv (.t 103)) .nil))))) (.seq (.seq (.reg 0 (.o 104 (.mv (.t 14)) (.o 105 (.bin .gtr (.t 104) (.c (.pv (.int .i64 0)))) .nil))) (.cond (.t 105) (.reg 0 (.o 106 (.fld 0 1 false (.t 11)) (.o 107 (.load 1 false (.t 106)) (.o 108 (.mv (.t 14)) (.o 109 (.bin .sub (.t 108) (.c (.pv (.int .i64 1)))) (.o 110 (.idx 1 (.t 107) (.t 109)) (.o 111 (.load 1 false (.t 110)) (.o 16 (.mv (.t 111)) .nil)))))))) .skip)) (.seq (.seq (.reg 0 (.o 112 (.mv (.t 14)) (.o 113 (.fld 0 1 false (.t 11)) (.o 114 (.load 1 false (.t 113)) (.o 115 (.len (.t 114)) (.o 116 (.bin .lss (.t 112) (.t 115)) .nil)))))) (.cond (.t 116) (.reg 0 (.o 117 (.fld 0 1 false (.t 11)) (.o 118 (.load 1 false (.t 117)) (.o 119 (.mv (.t 14)) (.o 120 (.idx 1 (.t 118) (.t 119)) (.o 121 (.load 1 false (.t 120)) (.o 17 (.mv (.t 121)) .nil))))))) .skip)) (.seq (.reg 0 (.o 122 (.mv (.t 0)) (.o 123 (.mv (.t 15)) (.o 124 (.mv (.t 2)) (.o 125 (.bin .add (.t 124) (.c (.pv (.int .i64 1)))) (.o 126 (.mv (.t 16)) (.o 127 (.mv (.t 17)) (.o 128 (.call 53 [.t 122, .t 123, .t 125, .t 126, .t 127]) (.o 129 (.not (.t 128)) .nil))))))))) (.cond (.t 129) (.seq (.reg 0 (.o 10 (.mv (.c (.pv (.bool false)))) .nil)) .ret) .skip))))))) (.reg 0 (.o 130 (.bin .add (.t 97) (.c (.pv (.int .i64 1)))) (.o 97 (.mv (.t 130)) .nil))))))))) (.seq (.reg 0 (.o 10 (.mv (.c (.pv (.bool true)))) .nil)) .ret)))))))), [.t 10])) := by kernel_rfl
theorem c_impl_pageCheck_visit_step (t : Pt) (hs : smallT t) (hn : t.ps.length ≤ 16) (i : Int) (d : Nat) (lo hi : Int) (seen : Nat → Bool) (ld : Int) (hd : d ≤ 3) (hld : -1 ≤ ld) (ih : d < 3 → ∀ (i lo hi : Int) (seen : Nat → Bool) (ld : Int), -1 ≤ ld → RdO prog 53 (chk 67 t seen ld) [i64 i, i64 ((d + 1 : Nat) : Int), i64 lo, i64 hi] (fun x ob => ∃ b s l, x = .bool b ∧ ob = chk 67 t s l ∧ (b = true → ∃ h, VisOK t i (d + 1) lo hi seen ld h ∧ s = visSeen t i seen h ∧ l = (d + 1 : Nat) + h - 1) ∧ (b = false → ∀ h, ¬ VisOK t i (d + 1) lo hi seen ld h))) : RdO prog 53 (chk 67 t seen ld) [i64 i, i64 d, i64 lo, i64 hi] (fun x ob => ∃ b s l, x = .bool b ∧ ob = chk 67 t s l ∧ (b = true → ∃ h, VisOK t i d lo hi seen ld h ∧ s = visSeen t i seen h ∧ l = d + h - 1) ∧ (b = false → ∀ h, ¬ VisOK t i d lo hi seen ld h)) := by
 obtain ⟨p, hp⟩ : ∃ p, nth t.ps i.toNat = p := ⟨_, rfl⟩
 have hpp : pg t i = p := hp
 refine callS_of_VS sl_impl_pageCheck_visit (by simp) (VS_seq (VS_r0 rfl (q_mv rfl (rg_nil (VS_seq (VS_seq (VS_r0 rfl (q_mv rfl (q_lss rfl rfl (q_mv rfl ?_))))))))))
 refine q_b rfl (fun g20 => ?_) (fun g20 => ?_)
 ·try simp at g20
  refine q_t rfl (q_mv rfl (q_t rfl (q_mv rfl (q_t rfl (q_nilc_r rfl (q_t rfl (q_fld_r rfl (q_t rfl (q_fld_r rfl (q_t rfl (q_load_r rfl rfl rfl rfl rfl rfl rfl (q_t rfl (q_len_m rfl (q_t rfl (q_geq rfl rfl ?_)))))))))))))))
  refine q_pick_f rfl rfl (q_mv rfl ?_)
  refine q_b rfl (fun g30 => ?_) (fun g30 => ?_)
  ·try simp at g30
   refine q_t rfl (q_mv rfl (q_t rfl (q_geq rfl rfl (q_pick_f rfl rfl (q_mv rfl ?_)))))
   refine q_b rfl (fun g34 => ?_) (fun g34 => ?_)
   ·try simp at g34
    refine q_t rfl (q_mv rfl (q_t rfl (q_mv rfl (q_t rfl (q_nilc_r rfl (q_t rfl (q_fld_r rfl (q_t rfl (q_aidx_r rfl rfl ⟨by omega, by omega⟩ (q_t rfl ?_))))))))))
    refine q_load_r (d := .pv (.bool (seen i.toNat))) rfl rfl rfl rfl rfl ?_ rfl ?_
    ·rw [show 0 + 2 + i.toNat * 1 = 2 + i.toNat by omega]; exact chk_get (by omega)
    refine q_pick_f rfl rfl (rg_nil ?_)
    refine VS_cond rfl (fun c0 => ?_) (fun c0 => ?_)
    ·try simp at c0
     refine VS_seq (VS_r0 rfl (q_mv rfl (rg_nil (VS_ret ?_))))
     exact Bd.now ⟨_, rfl, _, _, _, rfl, ⟨false, _, _, rfl, rfl, (fun e => by cases e), (fun _ h hv => by exact absurd hv (by intro hv; have h1 := vis_no hv; first | omega | (have h2 := h1.2.2.1; simp_all)))⟩, rfl⟩
    ·try simp at c0
     have hin : inT t i = true := inT_iff.2 ⟨by omega, by omega⟩
     have hsz := hs.2 i (by omega) (by omega)
     rw [hpp] at hsz
     refine VS_skip (VS_seq (VS_r0 rfl (q_mv rfl (q_mv rfl (q_nilc_r rfl (q_fld_r rfl (q_aidx_r rfl rfl ⟨by omega, by omega⟩ ?_)))))))
     refine q_store (z := .agg (chkC t (fun w => if w = i.toNat then true else seen w) ld)) rfl rfl rfl rfl rfl rfl ⟨rfl, rfl, ?_, rfl, ?_⟩ ?_ trivial ?_
     ·show _ ≤ 19
      omega
     ·intro h; cases h
     ·rw [show 0 + 2 + i.toNat * 1 = 2 + i.toNat by omega]
      exact congrArg D.agg (chk_set (by omega))
     refine rg_nil (VS_seq (VS_seq (VS_r0 rfl (q_mv rfl (q_mv rfl ?_)))))
     refine q_rdo rfl (c_impl_pageCheck_filledRight t hs hn i _ ld hin) chk_still (fun _ _ h => by rw [h.2]; exact chk_still) rfl rfl (fun _ => trivial) ?_
     rintro _ _ ⟨rfl, rfl⟩
     refine q_not rfl (rg_nil ?_)
     refine VS_cond rfl (fun c1 => ?_) (fun c1 => ?_)
     ·try simp at c1
      refine VS_seq (VS_r0 rfl (q_mv rfl (rg_nil (VS_ret ?_))))
      exact Bd.now ⟨_, rfl, _, _, _, rfl, ⟨false, _, _, rfl, rfl, (fun e => by cases e), (fun _ h hv => by exact absurd hv (by intro hv; have h1 := (vis_no hv).2.2.2.1; simp_all))⟩, rfl⟩
     ·try simp at c1
      refine VS_skip (VS_seq (VS_r0 rfl (q_mv rfl (q_nilc_r rfl (q_fld_r rfl (q_fld_r rfl (q_load_r rfl rfl rfl rfl rfl rfl rfl (q_mv rfl (q_idx_m (f := pgP) (xs := t.ps) (n := i) rfl rfl (by omega) (by omega) (fun _ => rfl) ?_)))))))))
      rw [hp]
      refine q_load_c rfl rfl rfl (q_alloc trivial (q_store rfl rfl rfl rfl rfl rfl ⟨rfl, rfl, by simp, rfl, by simp [isOne]⟩ rfl trivial (rg_nil (VS_seq (VS_seq (VS_r0 rfl (q_fld_r rfl (q_load_r rfl rfl rfl rfl rfl rfl rfl (q_len_m rfl (q_mv rfl (rg_nil (VS_block ?_))))))))))))
      refine VS_bd (Bd.keepL [(0, .ptr 0 0 0), (1, .pv (i64 i)), (2, .pv (i64 d)), (3, .pv (i64 lo)), (4, .pv (i64 hi)), (10, .pv (.bool false)), (11, .ptr 1 0 0), (60, .pv (ints p.ks)), (61, .pv (i64 p.ks.length)), (62, .pv (i64 0))] ⟨rfl, rfl, rfl, rfl, rfl, rfl, rfl, rfl, rfl, rfl, trivial⟩ ?_)
      refine VS_loop (fun mz E S => ∃ m : Nat, mz = p.ks.length - m ∧ (m ≤ p.ks.length) ∧ (∀ q, q < m → lo ≤ nth p.ks q ∧ nth p.ks q < hi) ∧ E = env [(0, .ptr 0 0 0), (1, .pv (i64 i)), (2, .pv (i64 d)), (3, .pv (i64 lo)), (4, .pv (i64 hi)), (10, .pv (.bool false)), (11, .ptr 1 0 0), (60, .pv (ints p.ks)), (61, .pv (i64 p.ks.length)), (62, .pv (i64 m))] ∧ S = [some (chk 67 t (fun w => if w = i.toNat then true else seen w) ld), some ⟨25, 3, [.agg [.pv (ints p.ks), .pv (ints p.cs), .pv (ints p.vs)]]⟩]) ⟨_, 0, rfl, (by omega), (by omega), rfl, rfl⟩ ?_
      rintro mz _ _ ⟨m, hmeas, g0, g1, rfl, rfl⟩
      refine VS_seq (VS_r0 rfl (q_lss rfl rfl (rg_nil (VS_seq ?_))))
      refine VS_cond rfl (fun c2 => ?_) (fun c2 => ?_)
      ·try simp at c2
       refine VS_skip (VS_seq (VS_block (VS_seq (VS_r0 rfl (q_idx_m (f := fun k => i64 k) (xs := p.ks) (n := (m : Int)) rfl rfl (by omega) (by omega) (fun _ => rfl) (q_load_c rfl rfl rfl (q_mv rfl (rg_nil (VS_seq (VS_r0 rfl (q_mv rfl (q_mv rfl (q_lss rfl rfl (q_mv rfl ?_))))))))))))))
       refine q_b rfl (fun g69 => ?_) (fun g69 => ?_)
       ·try simp at g69
        refine q_t rfl (q_mv rfl (q_t rfl (q_mv rfl (q_t rfl (q_geq rfl rfl (q_pick_f rfl rfl (rg_nil ?_)))))))
        refine VS_cond rfl (fun c3 => ?_) (fun c3 => ?_)
        ·try simp at c3
         refine VS_seq (VS_r0 rfl (q_mv rfl (rg_nil (VS_ret ?_))))
         exact Bd.now ⟨_, rfl, _, _, _, rfl, ⟨false, _, _, rfl, rfl, (fun e => by cases e), (fun _ h hv => by exact absurd hv (by intro hv; have h1 := (vis_no hv).2.2.2.2.1; have h2 : keysIn (pg t i).ks lo hi = false := (by rw [hpp]; exact keysIn_false m (by omega) (by omega)); rw [h1] at h2; cases h2))⟩, rfl⟩
        ·try simp at c3
         refine VS_skip (VS_r0 rfl (q_add rfl rfl (inR64 (by omega)) (q_mv rfl (rg_nil ?_))))
         refine Bd.keepL [(0, .ptr 0 0 0), (1, .pv (i64 i)), (2, .pv (i64 d)), (3, .pv (i64 lo)), (4, .pv (i64 hi)), (10, .pv (.bool false)), (11, .ptr 1 0 0), (60, .pv (ints p.ks)), (61, .pv (i64 p.ks.length)), (62, .pv (i64 (m + 1)))] ⟨rfl, rfl, rfl, rfl, rfl, rfl, rfl, rfl, rfl, rfl, trivial⟩ ⟨_, ?_, m + 1, rfl, ?_, ?_, rfl, rfl⟩
         ·omega
         ·omega
         ·intro q hq
          by_cases e : q = m
          ·subst e; first | omega | (constructor <;> omega) | simp_all
          ·exact g1 q (by omega)
       ·try simp at g69
        refine q_f rfl (q_f rfl (q_f rfl (q_pick_t rfl rfl (rg_nil ?_))))
        refine VS_cond rfl (fun _ => ?_) (fun e => by cases e)
        refine VS_seq (VS_r0 rfl (q_mv rfl (rg_nil (VS_ret ?_))))
        exact Bd.now ⟨_, rfl, _, _, _, rfl, ⟨false, _, _, rfl, rfl, (fun e => by cases e), (fun _ h hv => by exact absurd hv (by intro hv; have h1 := (vis_no hv).2.2.2.2.1; have h2 : keysIn (pg t i).ks lo hi = false := (by rw [hpp]; exact keysIn_false m (by omega) (by omega)); rw [h1] at h2; cases h2))⟩, rfl⟩
      ·try simp at c2
       refine VS_exit (VS_seq (VS_seq (VS_r0 rfl (q_fld_r rfl (q_load_r rfl rfl rfl rfl rfl rfl rfl (q_len_m rfl (q_eql rfl rfl (rg_nil ?_))))))))
       refine VS_cond rfl (fun c4 => ?_) (fun c4 => ?_)
       ·try simp at c4
        have hki : keysIn p.ks lo hi = true := keysIn_true fun q hq => g1 q (by omega)
        refine VS_seq (VS_seq (VS_r0 rfl (q_mv rfl (q_nilc_r rfl (q_fld_r rfl (q_load_r rfl rfl rfl rfl rfl rfl rfl (q_lss rfl rfl (rg_nil ?_))))))))
        refine VS_cond rfl (fun c5 => ?_) (fun c5 => ?_)
        ·try simp at c5
         refine VS_r0 rfl (q_mv rfl (q_mv rfl (q_nilc_r rfl (q_fld_r rfl (q_store rfl rfl rfl rfl rfl rfl ⟨rfl, rfl, by simp, rfl, by simp [isOne]⟩ rfl trivial (rg_nil (VS_seq (VS_r0 rfl (q_mv rfl (q_nilc_r rfl (q_fld_r rfl (q_load_r rfl rfl rfl rfl rfl rfl rfl (q_mv rfl (q_eql rfl rfl (q_mv rfl ?_)))))))))))))))
         refine rg_nil (VS_ret ?_)
         have h5 : (pg t i).cs.length = 0 := by rw [hpp, c4]; rfl
         first
          | exact Bd.now ⟨_, rfl, _, _, _, rfl, ⟨_, (fun w => if w = i.toNat then true else seen w), (d : Int), rfl, rfl, (fun hb => ⟨1, vis_leaf hin c1 (by rw [hpp]; exact hki) c0 h5 (by omega) (.inl c5), seen_leaf g20 h5, by omega⟩), (fun hb => by simp at hb)⟩, rfl⟩
          | exact Bd.now ⟨_, rfl, _, _, _, rfl, ⟨_, (fun w => if w = i.toNat then true else seen w), ld, rfl, rfl, (fun hb => ⟨1, vis_leaf hin c1 (by rw [hpp]; exact hki) c0 h5 (by omega) (.inr (by simpa using hb)), seen_leaf g20 h5, by simp at hb; omega⟩), (fun hb h hv => by have h7 := ((vis_no hv).2.2.2.2.2 h5).2; simp at hb; omega)⟩, rfl⟩
        ·try simp at c5
         refine VS_skip (VS_seq (VS_r0 rfl (q_mv rfl (q_nilc_r rfl (q_fld_r rfl (q_load_r rfl rfl rfl rfl rfl rfl rfl (q_mv rfl (q_eql rfl rfl (q_mv rfl (rg_nil (VS_ret ?_)))))))))))
         have h5 : (pg t i).cs.length = 0 := by rw [hpp, c4]; rfl
         first
          | exact Bd.now ⟨_, rfl, _, _, _, rfl, ⟨_, (fun w => if w = i.toNat then true else seen w), (d : Int), rfl, rfl, (fun hb => ⟨1, vis_leaf hin c1 (by rw [hpp]; exact hki) c0 h5 (by omega) (.inl c5), seen_leaf g20 h5, by omega⟩), (fun hb => by simp at hb)⟩, rfl⟩
          | exact Bd.now ⟨_, rfl, _, _, _, rfl, ⟨_, (fun w => if w = i.toNat then true else seen w), ld, rfl, rfl, (fun hb => ⟨1, vis_leaf hin c1 (by rw [hpp]; exact hki) c0 h5 (by omega) (.inr (by simpa using hb)), seen_leaf g20 h5, by simp at hb; omega⟩), (fun hb h hv => by have h7 := ((vis_no hv).2.2.2.2.2 h5).2; simp at hb; omega)⟩, rfl⟩
       ·try simp at c4
        have hki : keysIn p.ks lo hi = true := keysIn_true fun q hq => g1 q (by omega)
        have hcl := fill_inner (by rw [fillB, hpp] at c1; exact c1) (by simpa using c4)
        have hcp : 0 < p.cs.length := by omega
        refine VS_skip (VS_seq (VS_seq (VS_r0 rfl (q_fld_r rfl (q_load_r rfl rfl rfl rfl rfl rfl rfl (q_len_m rfl (q_mv rfl (rg_nil (VS_block ?_)))))))))
        refine VS_bd (Bd.keepL [(0, .ptr 0 0 0), (2, .pv (i64 d)), (3, .pv (i64 lo)), (4, .pv (i64 hi)), (11, .ptr 1 0 0), (95, .pv (ints p.cs)), (96, .pv (i64 p.cs.length)), (97, .pv (i64 0))] ⟨rfl, rfl, rfl, rfl, rfl, rfl, rfl, rfl, trivial⟩ ?_)
        refine VS_loop (fun mz E S => ∃ j : Nat, ∃ si : Nat → Bool, ∃ li : Int, ∃ h : Nat, mz = p.cs.length - j ∧ (j ≤ p.cs.length) ∧ (KidsOK t p d lo hi (fun w => if w = i.toNat then true else seen w) ld j h si li) ∧ (-1 ≤ li) ∧ E = env [(0, .ptr 0 0 0), (2, .pv (i64 d)), (3, .pv (i64 lo)), (4, .pv (i64 hi)), (11, .ptr 1 0 0), (95, .pv (ints p.cs)), (96, .pv (i64 p.cs.length)), (97, .pv (i64 j))] ∧ S = [some (chk 67 t si li), some ⟨25, 3, [.agg [.pv (ints p.ks), .pv (ints p.cs), .pv (ints p.vs)]]⟩]) ⟨_, 0, (fun w => if w = i.toNat then true else seen w), ld, 1, rfl, (by omega), kids_zero, hld, rfl, rfl⟩ ?_
        rintro mz _ _ ⟨j, si, li, h, hmeas, g0, gk, gl, rfl, rfl⟩
        refine VS_seq (VS_r0 rfl (q_lss rfl rfl (rg_nil (VS_seq ?_))))
        refine VS_cond rfl (fun c6 => ?_) (fun c6 => ?_)
        ·try simp at c6
         refine VS_skip (VS_seq (VS_block (VS_seq (VS_r0 rfl (q_mv rfl (q_idx_m (f := fun k => i64 k) (xs := p.cs) (n := (j : Int)) rfl rfl (by omega) (by omega) (fun _ => rfl) (q_load_c rfl rfl rfl (q_mv rfl (q_mv rfl (rg_nil (VS_seq (VS_r0 rfl (q_mv rfl (q_mv rfl (q_mv rfl ?_)))))))))))))))
         refine q_mv rfl (rg_nil (VS_seq (VS_seq (VS_r0 rfl (q_mv rfl (q_gtr rfl rfl (rg_nil ?_)))))))
         refine VS_cond rfl (fun c7 => ?_) (fun c7 => ?_)
         ·try simp at c7
          refine VS_r0 rfl (q_fld_r rfl (q_load_r rfl rfl rfl rfl rfl rfl rfl (q_mv rfl (q_sub_to ((j - 1 : Nat) : Int) rfl rfl (by omega) (inR64 (by omega)) (q_idx_m (f := fun k => i64 k) (xs := p.ks) (n := ((j - 1 : Nat) : Int)) rfl rfl (by omega) (by omega) (fun _ => rfl) (q_load_c rfl rfl rfl (q_mv rfl (rg_nil ?_))))))))
          refine VS_join (fun E S => ∃ a b, a = frK p lo j ∧ b = toK p hi j ∧ E = env [(0, .ptr 0 0 0), (2, .pv (i64 d)), (3, .pv (i64 lo)), (4, .pv (i64 hi)), (11, .ptr 1 0 0), (95, .pv (ints p.cs)), (96, .pv (i64 p.cs.length)), (97, .pv (i64 j)), (15, .pv (i64 (nth p.cs j))), (16, .pv (i64 a)), (17, .pv (i64 b))] ∧ S = [some (chk 67 t si li), some ⟨25, 3, [.agg [.pv (ints p.ks), .pv (ints p.cs), .pv (ints p.vs)]]⟩]) ?_ ?_
          ·skip
           refine VS_seq (VS_r0 rfl (q_mv rfl (q_fld_r rfl (q_load_r rfl rfl rfl rfl rfl rfl rfl (q_len_m rfl (q_lss rfl rfl (rg_nil ?_)))))))
           refine VS_cond rfl (fun c8 => ?_) (fun c8 => ?_)
           ·try simp at c8
            refine VS_r0 rfl (q_fld_r rfl (q_load_r rfl rfl rfl rfl rfl rfl rfl (q_mv rfl (q_idx_m (f := fun k => i64 k) (xs := p.ks) (n := (j : Int)) rfl rfl (by omega) (by omega) (fun _ => rfl) (q_load_c rfl rfl rfl (q_mv rfl (rg_nil ?_)))))))
            first
             | exact Bd.keepL [(0, .ptr 0 0 0), (2, .pv (i64 d)), (3, .pv (i64 lo)), (4, .pv (i64 hi)), (11, .ptr 1 0 0), (95, .pv (ints p.cs)), (96, .pv (i64 p.cs.length)), (97, .pv (i64 j)), (15, .pv (i64 (nth p.cs j))), (16, .pv (i64 lo)), (17, .pv (i64 hi))] ⟨rfl, rfl, rfl, rfl, rfl, rfl, rfl, rfl, rfl, rfl, rfl, trivial⟩ ⟨_, _, (by rw [frK, if_pos (by omega)]), (by rw [toK, if_neg (by omega)]), rfl, rfl⟩
             | exact Bd.keepL [(0, .ptr 0 0 0), (2, .pv (i64 d)), (3, .pv (i64 lo)), (4, .pv (i64 hi)), (11, .ptr 1 0 0), (95, .pv (ints p.cs)), (96, .pv (i64 p.cs.length)), (97, .pv (i64 j)), (15, .pv (i64 (nth p.cs j))), (16, .pv (i64 lo)), (17, .pv (i64 (nth p.ks j)))] ⟨rfl, rfl, rfl, rfl, rfl, rfl, rfl, rfl, rfl, rfl, rfl, trivial⟩ ⟨_, _, (by rw [frK, if_pos (by omega)]), (by rw [toK, if_pos (by omega)]), rfl, rfl⟩
             | exact Bd.keepL [(0, .ptr 0 0 0), (2, .pv (i64 d)), (3, .pv (i64 lo)), (4, .pv (i64 hi)), (11, .ptr 1 0 0), (95, .pv (ints p.cs)), (96, .pv (i64 p.cs.length)), (97, .pv (i64 j)), (15, .pv (i64 (nth p.cs j))), (16, .pv (i64 (nth p.ks (j - 1)))), (17, .pv (i64 hi))] ⟨rfl, rfl, rfl, rfl, rfl, rfl, rfl, rfl, rfl, rfl, rfl, trivial⟩ ⟨_, _, (by rw [frK, if_neg (by omega)]), (by rw [toK, if_neg (by omega)]), rfl, rfl⟩
             | exact Bd.keepL [(0, .ptr 0 0 0), (2, .pv (i64 d)), (3, .pv (i64 lo)), (4, .pv (i64 hi)), (11, .ptr 1 0 0), (95, .pv (ints p.cs)), (96, .pv (i64 p.cs.length)), (97, .pv (i64 j)), (15, .pv (i64 (nth p.cs j))), (16, .pv (i64 (nth p.ks (j - 1)))), (17, .pv (i64 (nth p.ks j)))] ⟨rfl, rfl, rfl, rfl, rfl, rfl, rfl, rfl, rfl, rfl, rfl, trivial⟩ ⟨_, _, (by rw [frK, if_neg (by omega)]), (by rw [toK, if_pos (by omega)]), rfl, rfl⟩
           ·try simp at c8
            refine VS_skip ?_
            first
             | exact Bd.keepL [(0, .ptr 0 0 0), (2, .pv (i64 d)), (3, .pv (i64 lo)), (4, .pv (i64 hi)), (11, .ptr 1 0 0), (95, .pv (ints p.cs)), (96, .pv (i64 p.cs.length)), (97, .pv (i64 j)), (15, .pv (i64 (nth p.cs j))), (16, .pv (i64 lo)), (17, .pv (i64 hi))] ⟨rfl, rfl, rfl, rfl, rfl, rfl, rfl, rfl, rfl, rfl, rfl, trivial⟩ ⟨_, _, (by rw [frK, if_pos (by omega)]), (by rw [toK, if_neg (by omega)]), rfl, rfl⟩
             | exact Bd.keepL [(0, .ptr 0 0 0), (2, .pv (i64 d)), (3, .pv (i64 lo)), (4, .pv (i64 hi)), (11, .ptr 1 0 0), (95, .pv (ints p.cs)), (96, .pv (i64 p.cs.length)), (97, .pv (i64 j)), (15, .pv (i64 (nth p.cs j))), (16, .pv (i64 lo)), (17, .pv (i64 (nth p.ks j)))] ⟨rfl, rfl, rfl, rfl, rfl, rfl, rfl, rfl, rfl, rfl, rfl, trivial⟩ ⟨_, _, (by rw [frK, if_pos (by omega)]), (by rw [toK, if_pos (by omega)]), rfl, rfl⟩
             | exact Bd.keepL [(0, .ptr 0 0 0), (2, .pv (i64 d)), (3, .pv (i64 lo)), (4, .pv (i64 hi)), (11, .ptr 1 0 0), (95, .pv (ints p.cs)), (96, .pv (i64 p.cs.length)), (97, .pv (i64 j)), (15, .pv (i64 (nth p.cs j))), (16, .pv (i64 (nth p.ks (j - 1)))), (17, .pv (i64 hi))] ⟨rfl, rfl, rfl, rfl, rfl, rfl, rfl, rfl, rfl, rfl, rfl, trivial⟩ ⟨_, _, (by rw [frK, if_neg (by omega)]), (by rw [toK, if_neg (by omega)]), rfl, rfl⟩
             | exact Bd.keepL [(0, .ptr 0 0 0), (2, .pv (i64 d)), (3, .pv (i64 lo)), (4, .pv (i64 hi)), (11, .ptr 1 0 0), (95, .pv (ints p.cs)), (96, .pv (i64 p.cs.length)), (97, .pv (i64 j)), (15, .pv (i64 (nth p.cs j))), (16, .pv (i64 (nth p.ks (j - 1)))), (17, .pv (i64 (nth p.ks j)))] ⟨rfl, rfl, rfl, rfl, rfl, rfl, rfl, rfl, rfl, rfl, rfl, trivial⟩ ⟨_, _, (by rw [frK, if_neg (by omega)]), (by rw [toK, if_pos (by omega)]), rfl, rfl⟩
          ·rintro _ _ ⟨a, b, ha, hb, rfl, rfl⟩
           refine VS_seq (VS_r0 rfl (q_mv rfl (q_mv rfl (q_mv rfl (q_add rfl rfl (inR64 (by omega)) (q_mv rfl (q_mv rfl ?_)))))))
           refine q_rdo rfl (ih (by omega) (nth p.cs j) a b si li (by omega)) chk_still (fun _ ob2 h => by obtain ⟨_, _, _, _, h2, _⟩ := h; rw [h2]; exact chk_still) rfl rfl (fun _ => trivial) ?_
           rintro _ _ ⟨b2, s2, l2, rfl, rfl, hvt, hvf⟩
           refine q_not rfl (rg_nil ?_)
           refine VS_cond rfl (fun c9 => ?_) (fun c9 => ?_)
           ·try simp at c9
            refine VS_seq (VS_r0 rfl (q_mv rfl (rg_nil (VS_ret ?_))))
            exact Bd.now ⟨_, rfl, _, _, _, rfl, ⟨false, _, _, rfl, rfl, (fun e => by cases e), (fun _ h hv => by exact absurd hv (by intro hv; exact kids_bad (by rw [hpp]; exact gk) (by rw [hpp]; omega) (by rw [hpp, ← ha, ← hb]; exact hvf (by simpa using c9)) _ hv))⟩, rfl⟩
           ·try simp at c9
            refine VS_skip (VS_r0 rfl (q_add rfl rfl (inR64 (by omega)) (q_mv rfl (rg_nil ?_))))
            refine Exists.elim (hvt (by simpa using c9)) (fun h2 hh => ?_)
            refine Bd.keepL [(0, .ptr 0 0 0), (2, .pv (i64 d)), (3, .pv (i64 lo)), (4, .pv (i64 hi)), (11, .ptr 1 0 0), (95, .pv (ints p.cs)), (96, .pv (i64 p.cs.length)), (97, .pv (i64 (j + 1)))] ⟨rfl, rfl, rfl, rfl, rfl, rfl, rfl, rfl, trivial⟩ ⟨_, ?_, j + 1, s2, l2, h2, rfl, ?_, ?_, ?_, rfl, rfl⟩
            ·omega
            ·omega
            ·have hl2 : l2 = (d : Int) + h2 := by have := hh.2.2; omega
             rw [hl2, hh.2.1]
             exact kids_step gk (by omega) (by rw [← ha, ← hb]; exact hh.1)
            ·have := hh.2.2
             omega
         ·try simp at c7
          refine VS_skip ?_
          refine VS_join (fun E S => ∃ a b, a = frK p lo j ∧ b = toK p hi j ∧ E = env [(0, .ptr 0 0 0), (2, .pv (i64 d)), (3, .pv (i64 lo)), (4, .pv (i64 hi)), (11, .ptr 1 0 0), (95, .pv (ints p.cs)), (96, .pv (i64 p.cs.length)), (97, .pv (i64 j)), (15, .pv (i64 (nth p.cs j))), (16, .pv (i64 a)), (17, .pv (i64 b))] ∧ S = [some (chk 67 t si li), some ⟨25, 3, [.agg [.pv (ints p.ks), .pv (ints p.cs), .pv (ints p.vs)]]⟩]) ?_ ?_
          ·skip
           refine VS_seq (VS_r0 rfl (q_mv rfl (q_fld_r rfl (q_load_r rfl rfl rfl rfl rfl rfl rfl (q_len_m rfl (q_lss rfl rfl (rg_nil ?_)))))))
           refine VS_cond rfl (fun c8 => ?_) (fun c8 => ?_)
           ·try simp at c8
            refine VS_r0 rfl (q_fld_r rfl (q_load_r rfl rfl rfl rfl rfl rfl rfl (q_mv rfl (q_idx_m (f := fun k => i64 k) (xs := p.ks) (n := (j : Int)) rfl rfl (by omega) (by omega) (fun _ => rfl) (q_load_c rfl rfl rfl (q_mv rfl (rg_nil ?_)))))))
            first
             | exact Bd.keepL [(0, .ptr 0 0 0), (2, .pv (i64 d)), (3, .pv (i64 lo)), (4, .pv (i64 hi)), (11, .ptr 1 0 0), (95, .pv (ints p.cs)), (96, .pv (i64 p.cs.length)), (97, .pv (i64 j)), (15, .pv (i64 (nth p.cs j))), (16, .pv (i64 lo)), (17, .pv (i64 hi))] ⟨rfl, rfl, rfl, rfl, rfl, rfl, rfl, rfl, rfl, rfl, rfl, trivial⟩ ⟨_, _, (by rw [frK, if_pos (by omega)]), (by rw [toK, if_neg (by omega)]), rfl, rfl⟩
             | exact Bd.keepL [(0, .ptr 0 0 0), (2, .pv (i64 d)), (3, .pv (i64 lo)), (4, .pv (i64 hi)), (11, .ptr 1 0 0), (95, .pv (ints p.cs)), (96, .pv (i64 p.cs.length)), (97, .pv (i64 j)), (15, .pv (i64 (nth p.cs j))), (16, .pv (i64 lo)), (17, .pv (i64 (nth p.ks j)))] ⟨rfl, rfl, rfl, rfl, rfl, rfl, rfl, rfl, rfl, rfl, rfl, trivial⟩ ⟨_, _, (by rw [frK, if_pos (by omega)]), (by rw [toK, if_pos (by omega)]), rfl, rfl⟩
             | exact Bd.keepL [(0, .ptr 0 0 0), (2, .pv (i64 d)), (3, .pv (i64 lo)), (4, .pv (i64 hi)), (11, .ptr 1 0 0), (95, .pv (ints p.cs)), (96, .pv (i64 p.cs.length)), (97, .pv (i64 j)), (15, .pv (i64 (nth p.cs j))), (16, .pv (i64 (nth p.ks (j - 1)))), (17, .pv (i64 hi))] ⟨rfl, rfl, rfl, rfl, rfl, rfl, rfl, rfl, rfl, rfl, rfl, trivial⟩ ⟨_, _, (by rw [frK, if_neg (by omega)]), (by rw [toK, if_neg (by omega)]), rfl, rfl⟩
             | exact Bd.keepL [(0, .ptr 0 0 0), (2, .pv (i64 d)), (3, .pv (i64 lo)), (4, .pv (i64 hi)), (11, .ptr 1 0 0), (95, .pv (ints p.cs)), (96, .pv (i64 p.cs.length)), (97, .pv (i64 j)), (15, .pv (i64 (nth p.cs j))), (16, .pv (i64 (nth p.ks (j - 1)))), (17, .pv (i64 (nth p.ks j)))] ⟨rfl, rfl, rfl, rfl, rfl, rfl, rfl, rfl, rfl, rfl, rfl, trivial⟩ ⟨_, _, (by rw [frK, if_neg (by omega)]), (by rw [toK, if_pos (by omega)]), rfl, rfl⟩
           ·try simp at c8
            refine VS_skip ?_
            first
             | exact Bd.keepL [(0, .ptr 0 0 0), (2, .pv (i64 d)), (3, .pv (i64 lo)), (4, .pv (i64 hi)), (11, .ptr 1 0 0), (95, .pv (ints p.cs)), (96, .pv (i64 p.cs.length)), (97, .pv (i64 j)), (15, .pv (i64 (nth p.cs j))), (16, .pv (i64 lo)), (17, .pv (i64 hi))] ⟨rfl, rfl, rfl, rfl, rfl, rfl, rfl, rfl, rfl, rfl, rfl, trivial⟩ ⟨_, _, (by rw [frK, if_pos (by omega)]), (by rw [toK, if_neg (by omega)]), rfl, rfl⟩
             | exact Bd.keepL [(0, .ptr 0 0 0), (2, .pv (i64 d)), (3, .pv (i64 lo)), (4, .pv (i64 hi)), (11, .ptr 1 0 0), (95, .pv (ints p.cs)), (96, .pv (i64 p.cs.length)), (97, .pv (i64 j)), (15, .pv (i64 (nth p.cs j))), (16, .pv (i64 lo)), (17, .pv (i64 (nth p.ks j)))] ⟨rfl, rfl, rfl, rfl, rfl, rfl, rfl, rfl, rfl, rfl, rfl, trivial⟩ ⟨_, _, (by rw [frK, if_pos (by omega)]), (by rw [toK, if_pos (by omega)]), rfl, rfl⟩
             | exact Bd.keepL [(0, .ptr 0 0 0), (2, .pv (i64 d)), (3, .pv (i64 lo)), (4, .pv (i64 hi)), (11, .ptr 1 0 0), (95, .pv (ints p.cs)), (96, .pv (i64 p.cs.length)), (97, .pv (i64 j)), (15, .pv (i64 (nth p.cs j))), (16, .pv (i64 (nth p.ks (j - 1)))), (17, .pv (i64 hi))] ⟨rfl, rfl, rfl, rfl, rfl, rfl, rfl, rfl, rfl, rfl, rfl, trivial⟩ ⟨_, _, (by rw [frK, if_neg (by omega)]), (by rw [toK, if_neg (by omega)]), rfl, rfl⟩
             | exact Bd.keepL [(0, .ptr 0 0 0), (2, .pv (i64 d)), (3, .pv (i64 lo)), (4, .pv (i64 hi)), (11, .ptr 1 0 0), (95, .pv (ints p.cs)), (96, .pv (i64 p.cs.length)), (97, .pv (i64 j)), (15, .pv (i64 (nth p.cs j))), (16, .pv (i64 (nth p.ks (j - 1)))), (17, .pv (i64 (nth p.ks j)))] ⟨rfl, rfl, rfl, rfl, rfl, rfl, rfl, rfl, rfl, rfl, rfl, trivial⟩ ⟨_, _, (by rw [frK, if_neg (by omega)]), (by rw [toK, if_pos (by omega)]), rfl, rfl⟩
          ·rintro _ _ ⟨a, b, ha, hb, rfl, rfl⟩
           refine VS_seq (VS_r0 rfl (q_mv rfl (q_mv rfl (q_mv rfl (q_add rfl rfl (inR64 (by omega)) (q_mv rfl (q_mv rfl ?_)))))))
           refine q_rdo rfl (ih (by omega) (nth p.cs j) a b si li (by omega)) chk_still (fun _ ob2 h => by obtain ⟨_, _, _, _, h2, _⟩ := h; rw [h2]; exact chk_still) rfl rfl (fun _ => trivial) ?_
           rintro _ _ ⟨b2, s2, l2, rfl, rfl, hvt, hvf⟩
           refine q_not rfl (rg_nil ?_)
           refine VS_cond rfl (fun c9 => ?_) (fun c9 => ?_)
           ·try simp at c9
            refine VS_seq (VS_r0 rfl (q_mv rfl (rg_nil (VS_ret ?_))))
            exact Bd.now ⟨_, rfl, _, _, _, rfl, ⟨false, _, _, rfl, rfl, (fun e => by cases e), (fun _ h hv => by exact absurd hv (by intro hv; exact kids_bad (by rw [hpp]; exact gk) (by rw [hpp]; omega) (by rw [hpp, ← ha, ← hb]; exact hvf (by simpa using c9)) _ hv))⟩, rfl⟩
           ·try simp at c9
            refine VS_skip (VS_r0 rfl (q_add rfl rfl (inR64 (by omega)) (q_mv rfl (rg_nil ?_))))
            refine Exists.elim (hvt (by simpa using c9)) (fun h2 hh => ?_)
            refine Bd.keepL [(0, .ptr 0 0 0), (2, .pv (i64 d)), (3, .pv (i64 lo)), (4, .pv (i64 hi)), (11, .ptr 1 0 0), (95, .pv (ints p.cs)), (96, .pv (i64 p.cs.length)), (97, .pv (i64 (j + 1)))] ⟨rfl, rfl, rfl, rfl, rfl, rfl, rfl, rfl, trivial⟩ ⟨_, ?_, j + 1, s2, l2, h2, rfl, ?_, ?_, ?_, rfl, rfl⟩
            ·omega
            ·omega
            ·have hl2 : l2 = (d : Int) + h2 := by have := hh.2.2; omega
             rw [hl2, hh.2.1]
             exact kids_step gk (by omega) (by rw [← ha, ← hb]; exact hh.1)
            ·have := hh.2.2
             omega
        ·try simp at c6
         refine VS_exit (VS_seq (VS_r0 rfl (q_mv rfl (rg_nil (VS_ret ?_)))))
         have e : j = p.cs.length := by omega
         rw [e] at gk
         have he := kids_end (t := t) (i0 := i) (by rw [hpp]; exact gk) (by rw [hpp]; omega) hin c1 (by rw [hpp]; exact hki) c0
         exact Bd.now ⟨_, rfl, _, _, _, rfl, ⟨true, si, li, rfl, rfl, (fun _ => ⟨h + 1, he.1, he.2.1, he.2.2⟩), (fun e => by cases e)⟩, rfl⟩
   ·try simp at g34
    refine q_f rfl (q_f rfl (q_f rfl (q_f rfl (q_f rfl (q_f rfl (q_pick_t rfl rfl (rg_nil ?_)))))))
    refine VS_cond rfl (fun _ => ?_) (fun e => by cases e)
    refine VS_seq (VS_r0 rfl (q_mv rfl (rg_nil (VS_ret ?_))))
    exact Bd.now ⟨_, rfl, _, _, _, rfl, ⟨false, _, _, rfl, rfl, (fun e => by cases e), (fun _ h hv => by exact absurd hv (by intro hv; have h1 := vis_no hv; first | omega | (have h2 := h1.2.2.1; simp_all)))⟩, rfl⟩
  ·try simp at g30
   refine q_f rfl (q_f rfl (q_pick_t rfl rfl (q_mv rfl (q_f rfl (q_f rfl (q_f rfl (q_f rfl (q_f rfl (q_f rfl (q_pick_t rfl rfl (rg_nil ?_)))))))))))
   refine VS_cond rfl (fun _ => ?_) (fun e => by cases e)
   refine VS_seq (VS_r0 rfl (q_mv rfl (rg_nil (VS_ret ?_))))
   exact Bd.now ⟨_, rfl, _, _, _, rfl, ⟨false, _, _, rfl, rfl, (fun e => by cases e), (fun _ h hv => by exact absurd hv (by intro hv; have h1 := vis_no hv; first | omega | (have h2 := h1.2.2.1; simp_all)))⟩, rfl⟩
 ·try simp at g20
  refine q_f rfl (q_f rfl (q_f rfl (q_f rfl (q_f rfl (q_f rfl (q_f rfl (q_f rfl (q_pick_t rfl rfl (q_mv rfl (q_f rfl (q_f rfl (q_pick_t rfl rfl (q_mv rfl (q_f rfl (q_f rfl ?_)))))))))))))))
  refine q_f rfl (q_f rfl (q_f rfl (q_f rfl (q_pick_t rfl rfl (rg_nil ?_)))))
  refine VS_cond rfl (fun _ => ?_) (fun e => by cases e)
  refine VS_seq (VS_r0 rfl (q_mv rfl (rg_nil (VS_ret ?_))))
  exact Bd.now ⟨_, rfl, _, _, _, rfl, ⟨false, _, _, rfl, rfl, (fun e => by cases e), (fun _ h hv => by exact absurd hv (by intro hv; have h1 := vis_no hv; first | omega | (have h2 := h1.2.2.1; simp_all)))⟩, rfl⟩
theorem c_impl_pageCheck_visit (t : Pt) (hs : smallT t) (hn : t.ps.length ≤ 16) : ∀ (n d : Nat), d ≤ 3 → 3 ≤ d + n → ∀ (i lo hi : Int) (seen : Nat → Bool) (ld : Int), -1 ≤ ld → RdO prog 53 (chk 67 t seen ld) [i64 i, i64 d, i64 lo, i64 hi] (fun x ob => ∃ b s l, x = .bool b ∧ ob = chk 67 t s l ∧ (b = true → ∃ h, VisOK t i d lo hi seen ld h ∧ s = visSeen t i seen h ∧ l = d + h - 1) ∧ (b = false → ∀ h, ¬ VisOK t i d lo hi seen ld h)) := by
 intro n
 induction n with
 | zero => intro d hd h3 i lo hi seen ld hld; exact c_impl_pageCheck_visit_step t hs hn i d lo hi seen ld hd hld (fun h => absurd h (by omega))
 | succ n ih => intro d hd h3 i lo hi seen ld hld; exact c_impl_pageCheck_visit_step t hs hn i d lo hi seen ld hd hld (fun h i lo hi seen ld hld => ih (d + 1) (by omega) (by omega) i lo hi seen ld hld)
theorem sl_impl_ValidTree : slimF prog 22 = some (33, (.seq (.reg 0 (.o 1 (.box 39 2 (.t 0)) (.o 2 (.mv (.c (.pv (.bool false)))) .nil))) (.seq (.seq (.reg 0 (.o 5 (.fld 1 1 false (.t 1)) (.o 6 (.load 1 false (.t 5)) (.o 7 (.len (.t 6)) (.o 8 (.bin .lss (.t 7) (.c (.pv (.int .i64 1)))) (.o 9 (.mv (.t 8)) (.g 10 9 false (.fld 1 1 false (.t 1)) (.g 11 9 false (.load 1 false (.t 10)) (.g 12 9 false (.len (.t 11)) (.g 13 9 false (.bin .gtr (.t 12) (.c (.pv (.int .i64 16)))) (.o 14 (.pick (.t 9) (.c (.pv (.bool true))) (.t 13)) .nil))))))))))) (.cond (.t 14) (.seq (.reg 0 (.o 2 (.mv (.c (.pv (.bool false)))) .nil)) .ret) .skip)) (.seq (.reg 0 (.o 15 (.load 2 true (.t 1)) (.o 16 (.build [.pv (.int .i64 0), .nils, .pv (.bool false), .pv (.bool false), .pv (.bool false), .pv (.bool false), .pv (.bool false), .pv (.bool false), .pv (.bool false), .pv (.bool false), .pv (.bool false), .pv (.bool false), .pv (.bool false), .pv (.bool false), .pv (.bool false), .pv (.bool false), .pv (.bool false), .pv (.bool false), .pv (.int .i64 0)] [(0, (2, .t 15)), (18, (1, .c (.pv (.int .i64 (-1)))))]) (.o 3 (.alloc 67 19 (.agg [.pv (.int .i64 0), .nils, .pv (.bool false), .pv (.bool false), .pv (.bool false), .pv (.bool false), .pv (.bool false), .pv (.bool false), .pv (.bool false), .pv (.bool false), .pv (.bool false), .pv (.bool false), .pv (.bool false), .pv (.bool false), .pv (.bool false), .pv (.bool false), .pv (.bool false), .pv (.bool false), .pv (.int .i64 0)])) (.op ⟨none, none, .store 19 (.t 3) (.t 16)⟩ .nil))))) (.seq (.seq (.reg 0 (.o 17 (.fld 0 1 false (.t 1)) (.o 18 (.load 1 false (.t 17)) (.o 19 (.call 53 [.t 3, .t 18, .c (.pv (.int .i64 0)), .c (.pv (.int .i64 0)), .c (.pv (.int .i64 100))]) (.o 20 (.not (.t 19)) .nil))))) (.cond (.t 20) (.seq (.reg 0 (.o 2 (.mv (.c (.pv (.bool false)))) .nil)) .ret) .skip)) (.seq (.seq (.reg 0 (.o 21 (.fld 1 1 false (.t 1)) (.o 22 (.load 1 false (.t 21)) (.o 23 (.len (.t 22)) (.o 24 (.mv (.c (.pv (.int .i64 0)))) .nil))))) (.block 0 (.loop (.seq (.reg 0 (.o 25 (.bin .lss (.t 24) (.t 23)) .nil)) (.seq (.cond (.t 25) .skip (.exit 0)) (.seq (.block 1 (.seq (.reg 0 (.o 26 (.mv (.t 24)) (.o 4 (.mv (.t 26)) .nil))) (.seq (.reg 0 (.o 27 (.mv (.t 4)) (.o 28 (.fld 2 16 true (.t 3)) (.o 29 (.aidx 16 1 (.t 28) (.t 27)) (.o 30 (.load 1 false (.t 29)) (.o 31 (.not (.t 30)) .nil)))))) (.cond (.t 31) (.seq (.reg 0 (.o 2 (.mv (.c (.pv (.bool false)))) .nil)) .ret) .skip)))) (.reg 0 (.o 32 (.bin .add (.t 24) (.c (.pv (.int .i64 1)))) (.o 24 (.mv (.t 32)) .nil))))))))) (.seq (.reg 0 (.o 2 (.mv (.c (.pv (.bool true)))) .nil)) .ret))))), [.t 2])) := by kernel_rfl
theorem c_impl_ValidTree (t : Pt) (hs : smallT t) : PCon prog 22 [ptP t] (fun p => p = .bool (validT t)) := by
 refine con_of_VS sl_impl_ValidTree (by simp) (VS_seq (VS_r0 rfl (q_box rfl rfl rfl trivial (q_mv rfl (rg_nil (VS_seq (VS_seq (VS_r0 rfl (q_fld_r rfl (q_load_r rfl rfl rfl rfl rfl rfl rfl (q_len_m rfl (q_lss rfl rfl (q_mv rfl ?_)))))))))))))
 refine q_b rfl (fun g9 => ?_) (fun g9 => ?_)
 ·try simp at g9
  refine q_t rfl (q_fld_r rfl (q_t rfl (q_load_r rfl rfl rfl rfl rfl rfl rfl (q_t rfl (q_len_m rfl (q_t rfl (q_gtr rfl rfl (q_pick_f rfl rfl (rg_nil ?_)))))))))
  refine VS_cond rfl (fun c0 => ?_) (fun c0 => ?_)
  ·try simp at c0
   refine VS_seq (VS_r0 rfl (q_mv rfl (rg_nil (VS_ret ?_))))
   refine Bd.now ⟨_, rfl, congrArg PV.bool ?_⟩
   exact (Bool.eq_false_iff.2 fun hc => by have := (valid_iff.1 hc).1; omega).symm
  ·try simp at c0
   have hn : 1 ≤ t.ps.length ∧ t.ps.length ≤ 16 := by omega
   refine VS_skip (VS_seq (VS_r0 rfl (q_load_ra rfl rfl rfl rfl rfl (by (simp; done)) rfl (q_build rfl (q_alloc trivial (q_store rfl rfl rfl rfl rfl rfl ⟨rfl, rfl, by simp, rfl, by simp [isOne]⟩ rfl trivial (rg_nil (VS_seq (VS_seq ?_)))))))))
   refine VS_st [some ⟨39, 2, [.pv (ptP t)]⟩, some (chk 67 t (fun _ => false) (-1))] rfl ?_
   refine VS_r0 rfl (q_fld_r rfl (q_load_r rfl rfl rfl rfl rfl rfl rfl ?_))
   refine q_rdo rfl (c_impl_pageCheck_visit t hs hn.2 3 0 (by omega) (by omega) t.r 0 100 (fun _ => false) (-1) (by omega)) chk_still (fun _ _ h => by obtain ⟨_, _, _, _, h2, _⟩ := h; rw [h2]; exact chk_still) rfl rfl (fun _ => trivial) ?_
   rintro _ _ ⟨b2, s2, l2, rfl, rfl, hvt, hvf⟩
   refine q_not rfl (rg_nil ?_)
   refine VS_cond rfl (fun c1 => ?_) (fun c1 => ?_)
   ·try simp at c1
    refine VS_seq (VS_r0 rfl (q_mv rfl (rg_nil (VS_ret ?_))))
    refine Bd.now ⟨_, rfl, congrArg PV.bool ?_⟩
    exact (valid_no (hvf (by simpa using c1))).symm
   ·try simp at c1
    refine VS_skip (VS_seq (VS_seq (VS_r0 rfl (q_fld_r rfl (q_load_r rfl rfl rfl rfl rfl rfl rfl (q_len_m rfl (q_mv rfl (rg_nil (VS_block ?_)))))))))
    refine VS_bd (Bd.keepL [(3, .ptr 1 0 0), (2, .pv (.bool false)), (23, .pv (i64 t.ps.length)), (24, .pv (i64 0))] ⟨rfl, rfl, rfl, rfl, trivial⟩ ?_)
    refine VS_loop (fun mz E S => ∃ m : Nat, mz = t.ps.length - m ∧ (m ≤ t.ps.length) ∧ (∀ q, q < m → s2 q = true) ∧ E = env [(3, .ptr 1 0 0), (2, .pv (.bool false)), (23, .pv (i64 t.ps.length)), (24, .pv (i64 m))] ∧ S = [some ⟨39, 2, [.pv (ptP t)]⟩, some (chk 67 t s2 l2)]) ⟨_, 0, rfl, (by omega), (by omega), rfl, rfl⟩ ?_
    rintro mz _ _ ⟨m, hmeas, g0, g1, rfl, rfl⟩
    refine VS_seq (VS_r0 rfl (q_lss rfl rfl (rg_nil (VS_seq ?_))))
    refine VS_cond rfl (fun c2 => ?_) (fun c2 => ?_)
    ·try simp at c2
     refine VS_skip (VS_seq (VS_block (VS_seq (VS_r0 rfl (q_mv rfl (q_mv rfl (rg_nil (VS_seq (VS_r0 rfl (q_mv rfl (q_fld_r rfl (q_aidx_r rfl rfl ⟨by omega, by omega⟩ ?_))))))))))))
     refine q_load_r (d := .pv (.bool (s2 m))) rfl rfl rfl rfl rfl ?_ rfl ?_
     ·rw [show 0 + 2 + (m : Int).toNat * 1 = 2 + m by omega]; exact chk_get (by omega)
     refine q_not rfl (rg_nil ?_)
     refine VS_cond rfl (fun c3 => ?_) (fun c3 => ?_)
     ·try simp at c3
      refine VS_seq (VS_r0 rfl (q_mv rfl (rg_nil (VS_ret ?_))))
      have hv := Classical.choose_spec (hvt (by simpa using c1))
      refine Bd.now ⟨_, rfl, congrArg PV.bool ?_⟩
      exact (Bool.eq_false_iff.2 fun hc => by have := (valid_vis hn hv.1).1 hc m (by omega); rw [← hv.2.1] at this; rw [this] at c3; cases c3).symm
     ·try simp at c3
      refine VS_skip (VS_r0 rfl (q_add rfl rfl (inR64 (by omega)) (q_mv rfl (rg_nil ?_))))
      refine Bd.keepL [(3, .ptr 1 0 0), (2, .pv (.bool false)), (23, .pv (i64 t.ps.length)), (24, .pv (i64 (m + 1)))] ⟨rfl, rfl, rfl, rfl, trivial⟩ ⟨_, ?_, m + 1, rfl, ?_, ?_, rfl, rfl⟩
      ·omega
      ·omega
      ·intro q hq
       by_cases e : q = m
       ·subst e; simpa using c3
       ·exact g1 q (by omega)
    ·try simp at c2
     refine VS_exit (VS_seq (VS_r0 rfl (q_mv rfl (rg_nil (VS_ret ?_)))))
     have hv := Classical.choose_spec (hvt (by simpa using c1))
     refine Bd.now ⟨_, rfl, congrArg PV.bool ?_⟩
     exact ((valid_vis hn hv.1).2 fun q hq => by rw [← hv.2.1]; exact g1 q (by omega)).symm
 ·try simp at g9
  refine q_f rfl (q_f rfl (q_f rfl (q_f rfl (q_pick_t rfl rfl (rg_nil ?_)))))
  refine VS_cond rfl (fun _ => ?_) (fun e => by cases e)
  refine VS_seq (VS_r0 rfl (q_mv rfl (rg_nil (VS_ret ?_))))
  refine Bd.now ⟨_, rfl, congrArg PV.bool ?_⟩
  exact (Bool.eq_false_iff.2 fun hc => by have := (valid_iff.1 hc).1; omega).symm
end Go.V

set_option maxHeartbeats 4000000
namespace Go.V
open Go.Proofs.Try (prog)
set_option maxRecDepth 100000
end Go.V

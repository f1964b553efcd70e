/- A part of the proofs about laws of the page tree (see the text that bears the law): a small language of steps, its rules, and what the functions of the program return. -/
import Derived.Test.YtgblkaealpggdaaWKaa
import Derived.Test.YtgblkaealpggdaaLF
set_option linter.all false
set_option linter.unusedVariables false
set_option linter.unusedSimpArgs false
set_option maxHeartbeats 4000000
namespace Go.V
open Go.Proofs.Try (prog)
set_option maxRecDepth 100000
theorem sl_impl_pageCheck_filledRight : slimF prog 88 = some (81, (.seq (.reg 0 (.o 4 (.mv (.c (.pv (.bool false)))) .nil)) (.seq (.reg 0 (.o 8 (.mv (.t 0)) (.o 9 (.nilc (.t 8)) (.o 10 (.fld 0 2 true (.t 9)) (.o 11 (.fld 1 1 false (.t 10)) (.o 12 (.load 1 false (.t 11)) (.o 13 (.mv (.t 1)) (.o 14 (.idx 3 (.t 12) (.t 13)) (.o 15 (.load 3 true (.t 14)) (.o 5 (.alloc 25 3 (.agg [.nils, .nils, .nils])) (.op ⟨none, none, .store 3 (.t 5) (.t 15)⟩ .nil))))))))))) (.seq (.seq (.reg 0 (.o 16 (.fld 0 1 false (.t 5)) (.o 17 (.load 1 false (.t 16)) (.o 18 (.len (.t 17)) (.o 19 (.bin .gtr (.t 18) (.c (.pv (.int .i64 4)))) (.o 20 (.mv (.t 19)) (.g 21 20 false (.fld 0 1 false (.t 5)) (.g 22 20 false (.load 1 false (.t 21)) (.g 23 20 false (.call 65 [.t 22]) (.g 24 20 false (.not (.t 23)) (.o 25 (.pick (.t 20) (.c (.pv (.bool true))) (.t 24)) .nil))))))))))) (.cond (.t 25) (.seq (.reg 0 (.o 4 (.mv (.c (.pv (.bool false)))) .nil)) .ret) .skip)) (.seq (.seq (.reg 0 (.o 26 (.mv (.t 1)) (.o 27 (.mv (.t 0)) (.o 28 (.nilc (.t 27)) (.o 29 (.fld 0 2 true (.t 28)) (.o 30 (.fld 0 1 false (.t 29)) (.o 31 (.load 1 false (.t 30)) (.o 32 (.bin .neq (.t 26) (.t 31)) (.o 33 (.mv (.t 32)) (.g 34 33 true (.fld 0 1 false (.t 5)) (.g 35 33 true (.load 1 false (.t 34)) (.g 36 33 true (.len (.t 35)) (.g 37 33 true (.bin .lss (.t 36) (.c (.pv (.int .i64 2)))) (.o 38 (.pick (.t 33) (.t 37) (.c (.pv (.bool false)))) .nil)))))))))))))) (.cond (.t 38) (.seq (.reg 0 (.o 4 (.mv (.c (.pv (.bool false)))) .nil)) .ret) .skip)) (.seq (.seq (.reg 0 (.o 39 (.fld 1 1 false (.t 5)) (.o 40 (.load 1 false (.t 39)) (.o 41 (.len (.t 40)) (.o 42 (.bin .gtr (.t 41) (.c (.pv (.int .i64 0)))) .nil))))) (.cond (.t 42) (.seq (.reg 0 (.o 43 (.fld 2 1 false (.t 5)) (.o 44 (.load 1 false (.t 43)) (.o 45 (.len (.t 44)) (.o 46 (.bin .eql (.t 45) (.c (.pv (.int .i64 0)))) (.o 47 (.mv (.t 46)) (.g 48 47 true (.fld 0 1 false (.t 5)) (.g 49 47 true (.load 1 false (.t 48)) (.g 50 47 true (.len (.t 49)) (.g 51 47 true (.bin .geq (.t 50) (.c (.pv (.int .i64 1)))) (.o 52 (.pick (.t 47) (.t 51) (.c (.pv (.bool false)))) (.o 53 (.mv (.t 52)) (.g 54 53 true (.fld 1 1 false (.t 5)) (.g 55 53 true (.load 1 false (.t 54)) (.g 56 53 true (.len (.t 55)) (.g 57 53 true (.fld 0 1 false (.t 5)) (.g 58 53 true (.load 1 false (.t 57)) (.g 59 53 true (.len (.t 58)) (.g 60 53 true (.bin .add (.t 59) (.c (.pv (.int .i64 1)))) (.g 61 53 true (.bin .eql (.t 56) (.t 60)) (.o 62 (.pick (.t 53) (.t 61) (.c (.pv (.bool false)))) (.o 4 (.mv (.t 62)) .nil)))))))))))))))))))))) .ret) .skip)) (.seq (.seq (.reg 0 (.o 63 (.fld 2 1 false (.t 5)) (.o 64 (.load 1 false (.t 63)) (.o 65 (.len (.t 64)) (.o 66 (.fld 0 1 false (.t 5)) (.o 67 (.load 1 false (.t 66)) (.o 68 (.len (.t 67)) (.o 69 (.bin .neq (.t 65) (.t 68)) .nil)))))))) (.cond (.t 69) (.seq (.reg 0 (.o 4 (.mv (.c (.pv (.bool false)))) .nil)) .ret) .skip)) (.seq (.seq (.reg 0 (.o 70 (.fld 2 1 false (.t 5)) (.o 71 (.load 1 false (.t 70)) (.o 72 (.len (.t 71)) (.o 73 (.mv (.c (.pv (.int .i64 0)))) .nil))))) (.block 0 (.loop (.seq (.reg 0 (.o 74 (.bin .lss (.t 73) (.t 72)) .nil)) (.seq (.cond (.t 74) .skip (.exit 0)) (.seq (.block 1 (.seq (.reg 0 (.o 75 (.idx 1 (.t 71) (.t 73)) (.o 76 (.load 1 false (.t 75)) (.o 7 (.mv (.t 76)) .nil)))) (.seq (.reg 0 (.o 77 (.mv (.t 7)) (.o 78 (.call 44 [.t 77]) (.o 79 (.not (.t 78)) .nil)))) (.cond (.t 79) (.seq (.reg 0 (.o 4 (.mv (.c (.pv (.bool false)))) .nil)) .ret) .skip)))) (.reg 0 (.o 80 (.bin .add (.t 73) (.c (.pv (.int .i64 1)))) (.o 73 (.mv (.t 80)) .nil))))))))) (.seq (.reg 0 (.o 4 (.mv (.c (.pv (.bool true)))) .nil)) .ret))))))), [.t 4])) := by kernel_rfl
theorem c_impl_pageCheck_filledRight (t : Pt) (hs : smallT t) (hn : t.ps.length ≤ 16) (i : Int) (seen : Nat → Bool) (ld : Int) (hi : inT t i = true) : RdO prog 88 (chk 67 t seen ld) [i64 i] (fun x ob => x = .bool (fillB t i) ∧ ob = chk 67 t seen ld) := by
 have hi2 := inT_iff.1 hi
 have hsz := hs.2 i hi2.1 hi2.2
 obtain ⟨p, hp⟩ : ∃ p, nth t.ps i.toNat = p := ⟨_, rfl⟩
 have hpp : pg t i = p := hp
 rw [hpp] at hsz
 have hf : fillB t i = fillP (decide (i = t.r)) p := by rw [fillB, hpp]
 rw [hf]
 clear hf hpp
 refine callS_of_VS sl_impl_pageCheck_filledRight (by simp) (VS_seq (VS_r0 rfl (q_mv rfl (rg_nil (VS_seq (VS_r0 rfl (q_mv rfl (q_nilc_r rfl (q_fld_r rfl (q_fld_r rfl (q_load_r rfl rfl rfl rfl rfl rfl rfl (q_mv rfl (q_idx_m (f := pgP) (xs := t.ps) (n := i) rfl rfl (by omega) (by omega) (fun _ => rfl) ?_)))))))))))))
 rw [hp]
 refine q_load_c rfl rfl rfl (q_alloc trivial (q_store rfl rfl rfl rfl rfl rfl ⟨rfl, rfl, by simp, rfl, by simp [isOne]⟩ rfl trivial (rg_nil (VS_seq (VS_seq (VS_r0 rfl (q_fld_r rfl (q_load_r rfl rfl rfl rfl rfl rfl rfl (q_len_m rfl (q_gtr rfl rfl (q_mv rfl ?_)))))))))))
 refine q_b rfl (fun g20 => ?_) (fun g20 => ?_)
 ·try simp at g20
  refine q_t rfl (q_fld_r rfl (q_t rfl (q_load_r rfl rfl rfl rfl rfl rfl rfl (q_t rfl (q_callp (c_impl_ValidKeys p.ks (by omega)) rfl trivial (q_t rfl (q_not rfl (q_pick_f rfl rfl (rg_nil ?_)))))))))
  refine VS_cond rfl (fun c0 => ?_) (fun c0 => ?_)
  ·try simp at c0
   refine VS_seq (VS_r0 rfl (q_mv rfl (rg_nil (VS_ret ?_))))
   refine Bd.now ⟨_, rfl, _, _, _, rfl, ⟨congrArg PV.bool ?_, rfl⟩, rfl⟩
   (simp [fillP, inB, lfB, *]; done)
  ·try simp at c0
   refine VS_skip (VS_seq (VS_seq (VS_r0 rfl (q_mv rfl (q_mv rfl (q_nilc_r rfl (q_fld_r rfl (q_fld_r rfl (q_load_r rfl rfl rfl rfl rfl rfl rfl (q_neq rfl rfl (q_mv rfl ?_)))))))))))
   refine q_b rfl (fun g33 => ?_) (fun g33 => ?_)
   ·try simp at g33
    refine q_t rfl (q_fld_r rfl (q_t rfl (q_load_r rfl rfl rfl rfl rfl rfl rfl (q_t rfl (q_len_m rfl (q_t rfl (q_lss rfl rfl (q_pick_t rfl rfl (rg_nil ?_)))))))))
    refine VS_cond rfl (fun c1 => ?_) (fun c1 => ?_)
    ·try simp at c1
     refine VS_seq (VS_r0 rfl (q_mv rfl (rg_nil (VS_ret ?_))))
     refine Bd.now ⟨_, rfl, _, _, _, rfl, ⟨congrArg PV.bool ?_, rfl⟩, rfl⟩
     (simp_all [fillP, inB, lfB]; omega)
    ·try simp at c1
     refine VS_skip (VS_seq (VS_seq (VS_r0 rfl (q_fld_r rfl (q_load_r rfl rfl rfl rfl rfl rfl rfl (q_len_m rfl (q_gtr rfl rfl (rg_nil ?_))))))))
     refine VS_cond rfl (fun c2 => ?_) (fun c2 => ?_)
     ·try simp at c2
      refine VS_seq (VS_r0 rfl (q_fld_r rfl (q_load_r rfl rfl rfl rfl rfl rfl rfl (q_len_m rfl (q_eql rfl rfl (q_mv rfl ?_))))))
      refine q_b rfl (fun g47 => ?_) (fun g47 => ?_)
      ·try simp at g47
       refine q_t rfl (q_fld_r rfl (q_t rfl (q_load_r rfl rfl rfl rfl rfl rfl rfl (q_t rfl (q_len_m rfl (q_t rfl (q_geq rfl rfl (q_pick_t rfl rfl (q_mv rfl ?_)))))))))
       refine q_b rfl (fun g53 => ?_) (fun g53 => ?_)
       ·try simp at g53
        refine q_t rfl (q_fld_r rfl (q_t rfl (q_load_r rfl rfl rfl rfl rfl rfl rfl (q_t rfl (q_len_m rfl (q_t rfl (q_fld_r rfl (q_t rfl (q_load_r rfl rfl rfl rfl rfl rfl rfl (q_t rfl (q_len_m rfl (q_t rfl (q_add rfl rfl (inR64 (by omega)) (q_t rfl (q_eql rfl rfl ?_)))))))))))))))
        refine q_pick_t rfl rfl (q_mv rfl (rg_nil (VS_ret ?_)))
        refine Bd.now ⟨_, rfl, _, _, _, rfl, ⟨congrArg PV.bool ?_, rfl⟩, rfl⟩
        have hne : ¬ p.cs.length = 0 := by first | omega | simp_all
        simp only [fillP, if_neg hne, inB]
        rw [Bool.eq_iff_iff]
        (simp [*]; omega)
       ·try simp at g53
        refine q_f rfl (q_f rfl (q_f rfl (q_f rfl (q_f rfl (q_f rfl (q_f rfl (q_f rfl (q_pick_f rfl rfl (q_mv rfl (rg_nil (VS_ret ?_)))))))))))
        refine Bd.now ⟨_, rfl, _, _, _, rfl, ⟨congrArg PV.bool ?_, rfl⟩, rfl⟩
        have hne : ¬ p.cs.length = 0 := by first | omega | simp_all
        simp only [fillP, if_neg hne, inB]
        rw [Bool.eq_iff_iff]
        (simp [*]; omega)
      ·try simp at g47
       refine q_f rfl (q_f rfl (q_f rfl (q_f rfl (q_pick_f rfl rfl (q_mv rfl (q_f rfl (q_f rfl (q_f rfl (q_f rfl (q_f rfl (q_f rfl (q_f rfl (q_f rfl (q_pick_f rfl rfl (q_mv rfl ?_)))))))))))))))
       refine rg_nil (VS_ret ?_)
       refine Bd.now ⟨_, rfl, _, _, _, rfl, ⟨congrArg PV.bool ?_, rfl⟩, rfl⟩
       have hne : ¬ p.cs.length = 0 := by first | omega | simp_all
       simp only [fillP, if_neg hne, inB]
       rw [Bool.eq_iff_iff]
       (simp [*]; done)
     ·try simp at c2
      refine VS_skip (VS_seq (VS_seq (VS_r0 rfl (q_fld_r rfl (q_load_r rfl rfl rfl rfl rfl rfl rfl (q_len_m rfl (q_fld_r rfl (q_load_r rfl rfl rfl rfl rfl rfl rfl (q_len_m rfl (q_neq rfl rfl (rg_nil ?_)))))))))))
      refine VS_cond rfl (fun c3 => ?_) (fun c3 => ?_)
      ·try simp at c3
       refine VS_seq (VS_r0 rfl (q_mv rfl (rg_nil (VS_ret ?_))))
       refine Bd.now ⟨_, rfl, _, _, _, rfl, ⟨congrArg PV.bool ?_, rfl⟩, rfl⟩
       (simp_all [fillP, inB, lfB]; omega)
      ·try simp at c3
       refine VS_skip (VS_seq (VS_seq (VS_r0 rfl (q_fld_r rfl (q_load_r rfl rfl rfl rfl rfl rfl rfl (q_len_m rfl (q_mv rfl (rg_nil (VS_block ?_)))))))))
       refine VS_bd (Bd.keepL [(1, .pv (i64 i)), (4, .pv (.bool false)), (71, .pv (ints p.vs)), (72, .pv (i64 p.vs.length)), (73, .pv (i64 0))] ⟨rfl, rfl, rfl, rfl, rfl, trivial⟩ ?_)
       refine VS_loop (fun mz E S => ∃ j : Nat, mz = p.vs.length - j ∧ (j ≤ p.vs.length) ∧ (∀ m, m < j → (decide (-1000 ≤ nth p.vs m) && decide (nth p.vs m ≤ 1000)) = true) ∧ E = env [(1, .pv (i64 i)), (4, .pv (.bool false)), (71, .pv (ints p.vs)), (72, .pv (i64 p.vs.length)), (73, .pv (i64 j))] ∧ S = [some (chk 67 t seen ld), some ⟨25, 3, [.agg [.pv (ints p.ks), .pv (ints p.cs), .pv (ints p.vs)]]⟩]) ⟨_, 0, rfl, (by omega), (by omega), rfl, rfl⟩ ?_
       rintro mz _ _ ⟨j, hmeas, g0, g1, rfl, rfl⟩
       refine VS_seq (VS_r0 rfl (q_lss rfl rfl (rg_nil (VS_seq ?_))))
       refine VS_cond rfl (fun c4 => ?_) (fun c4 => ?_)
       ·try simp at c4
        refine VS_skip (VS_seq (VS_block (VS_seq (VS_r0 rfl (q_idx_c _ rfl rfl (by omega) (fun _ => rfl) (q_load_c rfl rfl rfl (q_mv rfl (rg_nil (VS_seq (VS_r0 rfl (q_mv rfl (q_callp (c_impl_isValue _) rfl trivial (q_not rfl (rg_nil ?_))))))))))))))
        refine VS_cond rfl (fun c5 => ?_) (fun c5 => ?_)
        ·try simp at c5
         refine VS_seq (VS_r0 rfl (q_mv rfl (rg_nil (VS_ret ?_))))
         refine Bd.now ⟨_, rfl, _, _, _, rfl, ⟨congrArg PV.bool ?_, rfl⟩, rfl⟩
         have hall : p.vs.all (fun v => decide (-1000 ≤ v) && decide (v ≤ 1000)) = false := all_false j (by omega) (by simp; omega)
         simp [fillP, lfB, hall, *]
        ·try simp at c5
         refine VS_skip (VS_r0 rfl (q_add rfl rfl (inR64 (by omega)) (q_mv rfl (rg_nil ?_))))
         refine Bd.keepL [(1, .pv (i64 i)), (4, .pv (.bool false)), (71, .pv (ints p.vs)), (72, .pv (i64 p.vs.length)), (73, .pv (i64 (j + 1)))] ⟨rfl, rfl, rfl, rfl, rfl, trivial⟩ ⟨_, ?_, j + 1, rfl, ?_, ?_, rfl, rfl⟩
         ·omega
         ·omega
         ·intro m hm
          by_cases e : m = j
          ·subst e; simpa using c5
          ·exact g1 m (by omega)
       ·try simp at c4
        refine VS_exit (VS_seq (VS_r0 rfl (q_mv rfl (rg_nil (VS_ret ?_)))))
        refine Bd.now ⟨_, rfl, _, _, _, rfl, ⟨congrArg PV.bool ?_, rfl⟩, rfl⟩
        have hall : p.vs.all (fun v => decide (-1000 ≤ v) && decide (v ≤ 1000)) = true := all_true fun m hm => g1 m (by omega)
        (simp [fillP, lfB, hall]; simp_all; try omega)
   ·try simp at g33
    refine q_f rfl (q_f rfl (q_f rfl (q_f rfl (q_pick_f rfl rfl (rg_nil ?_)))))
    refine VS_cond rfl (fun e => by cases e) (fun _ => ?_)
    refine VS_skip (VS_seq (VS_seq (VS_r0 rfl (q_fld_r rfl (q_load_r rfl rfl rfl rfl rfl rfl rfl (q_len_m rfl (q_gtr rfl rfl (rg_nil ?_))))))))
    refine VS_cond rfl (fun c2 => ?_) (fun c2 => ?_)
    ·try simp at c2
     refine VS_seq (VS_r0 rfl (q_fld_r rfl (q_load_r rfl rfl rfl rfl rfl rfl rfl (q_len_m rfl (q_eql rfl rfl (q_mv rfl ?_))))))
     refine q_b rfl (fun g47 => ?_) (fun g47 => ?_)
     ·try simp at g47
      refine q_t rfl (q_fld_r rfl (q_t rfl (q_load_r rfl rfl rfl rfl rfl rfl rfl (q_t rfl (q_len_m rfl (q_t rfl (q_geq rfl rfl (q_pick_t rfl rfl (q_mv rfl ?_)))))))))
      refine q_b rfl (fun g53 => ?_) (fun g53 => ?_)
      ·try simp at g53
       refine q_t rfl (q_fld_r rfl (q_t rfl (q_load_r rfl rfl rfl rfl rfl rfl rfl (q_t rfl (q_len_m rfl (q_t rfl (q_fld_r rfl (q_t rfl (q_load_r rfl rfl rfl rfl rfl rfl rfl (q_t rfl (q_len_m rfl (q_t rfl (q_add rfl rfl (inR64 (by omega)) (q_t rfl (q_eql rfl rfl ?_)))))))))))))))
       refine q_pick_t rfl rfl (q_mv rfl (rg_nil (VS_ret ?_)))
       refine Bd.now ⟨_, rfl, _, _, _, rfl, ⟨congrArg PV.bool ?_, rfl⟩, rfl⟩
       have hne : ¬ p.cs.length = 0 := by first | omega | simp_all
       simp only [fillP, if_neg hne, inB]
       rw [Bool.eq_iff_iff]
       (simp [*]; omega)
      ·try simp at g53
       refine q_f rfl (q_f rfl (q_f rfl (q_f rfl (q_f rfl (q_f rfl (q_f rfl (q_f rfl (q_pick_f rfl rfl (q_mv rfl (rg_nil (VS_ret ?_)))))))))))
       refine Bd.now ⟨_, rfl, _, _, _, rfl, ⟨congrArg PV.bool ?_, rfl⟩, rfl⟩
       have hne : ¬ p.cs.length = 0 := by first | omega | simp_all
       simp only [fillP, if_neg hne, inB]
       rw [Bool.eq_iff_iff]
       (simp [*]; omega)
     ·try simp at g47
      refine q_f rfl (q_f rfl (q_f rfl (q_f rfl (q_pick_f rfl rfl (q_mv rfl (q_f rfl (q_f rfl (q_f rfl (q_f rfl (q_f rfl (q_f rfl (q_f rfl (q_f rfl (q_pick_f rfl rfl (q_mv rfl ?_)))))))))))))))
      refine rg_nil (VS_ret ?_)
      refine Bd.now ⟨_, rfl, _, _, _, rfl, ⟨congrArg PV.bool ?_, rfl⟩, rfl⟩
      have hne : ¬ p.cs.length = 0 := by first | omega | simp_all
      simp only [fillP, if_neg hne, inB]
      rw [Bool.eq_iff_iff]
      (simp [*]; done)
    ·try simp at c2
     refine VS_skip (VS_seq (VS_seq (VS_r0 rfl (q_fld_r rfl (q_load_r rfl rfl rfl rfl rfl rfl rfl (q_len_m rfl (q_fld_r rfl (q_load_r rfl rfl rfl rfl rfl rfl rfl (q_len_m rfl (q_neq rfl rfl (rg_nil ?_)))))))))))
     refine VS_cond rfl (fun c3 => ?_) (fun c3 => ?_)
     ·try simp at c3
      refine VS_seq (VS_r0 rfl (q_mv rfl (rg_nil (VS_ret ?_))))
      refine Bd.now ⟨_, rfl, _, _, _, rfl, ⟨congrArg PV.bool ?_, rfl⟩, rfl⟩
      (simp_all [fillP, inB, lfB]; omega)
     ·try simp at c3
      refine VS_skip (VS_seq (VS_seq (VS_r0 rfl (q_fld_r rfl (q_load_r rfl rfl rfl rfl rfl rfl rfl (q_len_m rfl (q_mv rfl (rg_nil (VS_block ?_)))))))))
      refine VS_bd (Bd.keepL [(1, .pv (i64 i)), (4, .pv (.bool false)), (71, .pv (ints p.vs)), (72, .pv (i64 p.vs.length)), (73, .pv (i64 0))] ⟨rfl, rfl, rfl, rfl, rfl, trivial⟩ ?_)
      refine VS_loop (fun mz E S => ∃ j : Nat, mz = p.vs.length - j ∧ (j ≤ p.vs.length) ∧ (∀ m, m < j → (decide (-1000 ≤ nth p.vs m) && decide (nth p.vs m ≤ 1000)) = true) ∧ E = env [(1, .pv (i64 i)), (4, .pv (.bool false)), (71, .pv (ints p.vs)), (72, .pv (i64 p.vs.length)), (73, .pv (i64 j))] ∧ S = [some (chk 67 t seen ld), some ⟨25, 3, [.agg [.pv (ints p.ks), .pv (ints p.cs), .pv (ints p.vs)]]⟩]) ⟨_, 0, rfl, (by omega), (by omega), rfl, rfl⟩ ?_
      rintro mz _ _ ⟨j, hmeas, g0, g1, rfl, rfl⟩
      refine VS_seq (VS_r0 rfl (q_lss rfl rfl (rg_nil (VS_seq ?_))))
      refine VS_cond rfl (fun c4 => ?_) (fun c4 => ?_)
      ·try simp at c4
       refine VS_skip (VS_seq (VS_block (VS_seq (VS_r0 rfl (q_idx_c _ rfl rfl (by omega) (fun _ => rfl) (q_load_c rfl rfl rfl (q_mv rfl (rg_nil (VS_seq (VS_r0 rfl (q_mv rfl (q_callp (c_impl_isValue _) rfl trivial (q_not rfl (rg_nil ?_))))))))))))))
       refine VS_cond rfl (fun c5 => ?_) (fun c5 => ?_)
       ·try simp at c5
        refine VS_seq (VS_r0 rfl (q_mv rfl (rg_nil (VS_ret ?_))))
        refine Bd.now ⟨_, rfl, _, _, _, rfl, ⟨congrArg PV.bool ?_, rfl⟩, rfl⟩
        have hall : p.vs.all (fun v => decide (-1000 ≤ v) && decide (v ≤ 1000)) = false := all_false j (by omega) (by simp; omega)
        simp [fillP, lfB, hall, *]
       ·try simp at c5
        refine VS_skip (VS_r0 rfl (q_add rfl rfl (inR64 (by omega)) (q_mv rfl (rg_nil ?_))))
        refine Bd.keepL [(1, .pv (i64 i)), (4, .pv (.bool false)), (71, .pv (ints p.vs)), (72, .pv (i64 p.vs.length)), (73, .pv (i64 (j + 1)))] ⟨rfl, rfl, rfl, rfl, rfl, trivial⟩ ⟨_, ?_, j + 1, rfl, ?_, ?_, rfl, rfl⟩
        ·omega
        ·omega
        ·intro m hm
         by_cases e : m = j
         ·subst e; simpa using c5
         ·exact g1 m (by omega)
      ·try simp at c4
       refine VS_exit (VS_seq (VS_r0 rfl (q_mv rfl (rg_nil (VS_ret ?_)))))
       refine Bd.now ⟨_, rfl, _, _, _, rfl, ⟨congrArg PV.bool ?_, rfl⟩, rfl⟩
       have hall : p.vs.all (fun v => decide (-1000 ≤ v) && decide (v ≤ 1000)) = true := all_true fun m hm => g1 m (by omega)
       (simp [fillP, lfB, hall]; simp_all; try omega)
 ·try simp at g20
  refine q_f rfl (q_f rfl (q_f rfl (q_f rfl (q_pick_t rfl rfl (rg_nil ?_)))))
  refine VS_cond rfl (fun _ => ?_) (fun e => by cases e)
  refine VS_seq (VS_r0 rfl (q_mv rfl (rg_nil (VS_ret ?_))))
  refine Bd.now ⟨_, rfl, _, _, _, rfl, ⟨congrArg PV.bool ?_, rfl⟩, rfl⟩
  (simp_all [fillP, inB, lfB]; omega)
theorem sl_impl_pageCheck_visit : slimF prog 53 = some (131, (.seq (.reg 0 (.o 10 (.mv (.c (.pv (.bool false)))) .nil)) (.seq (.seq (.reg 0 (.o 18 (.mv (.t 1)) (.o 19 (.bin .lss (.t 18) (.c (.pv (.int .i64 0)))) (.o 20 (.mv (.t 19)) (.g 21 20 false (.mv (.t 1)) (.g 22 20 false (.mv (.t 0)) (.g 23 20 false (.nilc (.t 22)) (.g 24 20 false (.fld 0 2 true (.t 23)) (.g 25 20 false (.fld 1 1 false (.t 24)) (.g 26 20 false (.load 1 false (.t 25)) (.g 27 20 false (.len (.t 26)) (.g 28 20 false (.bin .geq (.t 21) (.t 27)) (.o 29 (.pick (.t 20) (.c (.pv (.bool true))) (.t 28)) (.o 30 (.mv (.t 29)) (.g 31 30 false (.mv (.t 2)) (.g 32 30 false (.bin .geq (.t 31) (.c (.pv (.int .i64 3)))) (.o 33 (.pick (.t 30) (.c (.pv (.bool true))) (.t 32)) (.o 34 (.mv (.t 33)) (.g 35 34 false (.mv (.t 0)) (.g 36 34 false (.mv (.t 1)) (.g 37 34 false (.nilc (.t 35)) (.g 38 34 false (.fld 2 16 true (.t 37)) (.g 39 34 false (.aidx 16 1 (.t 38) (.t 36)) (.g 40 34 false (.load 1 false (.t 39)) (.o 41 (.pick (.t 34) (.c (.pv (.bool true))) (.t 40)) .nil))))))))))))))))))))))))) (.cond (.t 41) (.seq (.reg 0 (.o 10 (.mv (.c (.pv (.bool false)))) .nil)) .ret) .skip)) (.seq (.reg 0 (.o 42 (.mv (.t 0)) (.o 43 (.mv (.t 1)) (.o 44 (.nilc (.t 42)) (.o 45 (.fld 2 16 true (.t 44)) (.o 46 (.aidx 16 1 (.t 45) (.t 43)) (.op ⟨none, none, .store 1 (.t 46) (.c (.pv (.bool true)))⟩ .nil))))))) (.seq (.seq (.reg 0 (.o 47 (.mv (.t 0)) (.o 48 (.mv (.t 1)) (.o 49 (.call 88 [.t 47, .t 48]) (.o 50 (.not (.t 49)) .nil))))) (.cond (.t 50) (.seq (.reg 0 (.o 10 (.mv (.c (.pv (.bool false)))) .nil)) .ret) .skip)) (.seq (.reg 0 (.o 51 (.mv (.t 0)) (.o 52 (.nilc (.t 51)) (.o 53 (.fld 0 2 true (.t 52)) (.o 54 (.fld 1 1 false (.t 53)) (.o 55 (.load 1 false (.t 54)) (.o 56 (.mv (.t 1)) (.o 57 (.idx 3 (.t 55) (.t 56)) (.o 58 (.load 3 true (.t 57)) (.o 11 (.alloc 25 3 (.agg [.nils, .nils, .nils])) (.op ⟨none, none, .store 3 (.t 11) (.t 58)⟩ .nil))))))))))) (.seq (.seq (.reg 0 (.o 59 (.fld 0 1 false (.t 11)) (.o 60 (.load 1 false (.t 59)) (.o 61 (.len (.t 60)) (.o 62 (.mv (.c (.pv (.int .i64 0)))) .nil))))) (.block 0 (.loop (.seq (.reg 0 (.o 63 (.bin .lss (.t 62) (.t 61)) .nil)) (.seq (.cond (.t 63) .skip (.exit 0)) (.seq (.block 1 (.seq (.reg 0 (.o 64 (.idx 1 (.t 60) (.t 62)) (.o 65 (.load 1 false (.t 64)) (.o 13 (.mv (.t 65)) .nil)))) (.seq (.reg 0 (.o 66 (.mv (.t 13)) (.o 67 (.mv (.t 3)) (.o 68 (.bin .lss (.t 66) (.t 67)) (.o 69 (.mv (.t 68)) (.g 70 69 false (.mv (.t 13)) (.g 71 69 false (.mv (.t 4)) (.g 72 69 false (.bin .geq (.t 70) (.t 71)) (.o 73 (.pick (.t 69) (.c (.pv (.bool true))) (.t 72)) .nil))))))))) (.cond (.t 73) (.seq (.reg 0 (.o 10 (.mv (.c (.pv (.bool false)))) .nil)) .ret) .skip)))) (.reg 0 (.o 74 (.bin .add (.t 62) (.c (.pv (.int .i64 1)))) (.o 62 (.mv (.t 74)) .nil))))))))) (.seq (.seq (.reg 0 (.o 75 (.fld 1 1 false (.t 11)) (.o 76 (.load 1 false (.t 75)) (.o 77 (.len (.t 76)) (.o 78 (.bin .eql (.t 77) (.c (.pv (.int .i64 0)))) .nil))))) (.cond (.t 78) (.seq (.seq (.reg 0 (.o 79 (.mv (.t 0)) (.o 80 (.nilc (.t 79)) (.o 81 (.fld 18 1 false (.t 80)) (.o 82 (.load 1 false (.t 81)) (.o 83 (.bin .lss (.t 82) (.c (.pv (.int .i64 0)))) .nil)))))) (.cond (.t 83) (.reg 0 (.o 84 (.mv (.t 0)) (.o 85 (.mv (.t 2)) (.o 86 (.nilc (.t 84)) (.o 87 (.fld 18 1 false (.t 86)) (.op ⟨none, none, .store 1 (.t 87) (.t 85)⟩ .nil)))))) .skip)) (.seq (.reg 0 (.o 88 (.mv (.t 0)) (.o 89 (.nilc (.t 88)) (.o 90 (.fld 18 1 false (.t 89)) (.o 91 (.load 1 false (.t 90)) (.o 92 (.mv (.t 2)) (.o 93 (.bin .eql (.t 91) (.t 92)) (.o 10 (.mv (.t 93)) .nil)))))))) .ret)) .skip)) (.seq (.seq (.reg 0 (.o 94 (.fld 1 1 false (.t 11)) (.o 95 (.load 1 false (.t 94)) (.o 96 (.len (.t 95)) (.o 97 (.mv (.c (.pv (.int .i64 0)))) .nil))))) (.block 2 (.loop (.seq (.reg 0 (.o 98 (.bin .lss (.t 97) (.t 96)) .nil)) (.seq (.cond (.t 98) .skip (.exit 2)) (.seq (.block 3 (.seq (.reg 0 (.o 99 (.mv (.t 97)) (.o 100 (.idx 1 (.t 95) (.t 97)) (.o 101 (.load 1 false (.t 100)) (.o 14 (.mv (.t 99)) (.o 15 (.mv (.t 101)) .nil)))))) (.seq (.reg 0 (.o 102 (.mv (.t 3)) (.o 103 (.mv (.t 4)) (.o 16 (.mv (.t 102)) (.o 17 (.mv (.t 103)) .nil))))) (.seq (.seq (.reg 0 (.o 104 (.mv (.t 14)) (.o 105 (.bin .gtr (.t 104) (.c (.pv (.int .i64 0)))) .nil))) (.cond (.t 105) (.reg 0 (.o 106 (.fld 0 1 false (.t 11)) (.o 107 (.load 1 false (.t 106)) (.o 108 (.mv (.t 14)) (.o 109 (.bin .sub (.t 108) (.c (.pv (.int .i64 1)))) (.o 110 (.idx 1 (.t 107) (.t 109)) (.o 111 (.load 1 false (.t 110)) (.o 16 (.mv (.t 111)) .nil)))))))) .skip)) (.seq (.seq (.reg 0 (.o 112 (.mv (.t 14)) (.o 113 (.fld 0 1 false (.t 11)) (.o 114 (.load 1 false (.t 113)) (.o 115 (.len (.t 114)) (.o 116 (.bin .lss (.t 112) (.t 115)) .nil)))))) (.cond (.t 116) (.reg 0 (.o 117 (.fld 0 1 false (.t 11)) (.o 118 (.load 1 false (.t 117)) (.o 119 (.mv (.t 14)) (.o 120 (.idx 1 (.t 118) (.t 119)) (.o 121 (.load 1 false (.t 120)) (.o 17 (.mv (.t 121)) .nil))))))) .skip)) (.seq (.reg 0 (.o 122 (.mv (.t 0)) (.o 123 (.mv (.t 15)) (.o 124 (.mv (.t 2)) (.o 125 (.bin .add (.t 124) (.c (.pv (.int .i64 1)))) (.o 126 (.mv (.t 16)) (.o 127 (.mv (.t 17)) (.o 128 (.call 53 [.t 122, .t 123, .t 125, .t 126, .t 127]) (.o 129 (.not (.t 128)) .nil))))))))) (.cond (.t 129) (.seq (.reg 0 (.o 10 (.mv (.c (.pv (.bool false)))) .nil)) .ret) .skip))))))) (.reg 0 (.o 130 (.bin .add (.t 97) (.c (.pv (.int .i64 1)))) (.o 97 (.mv (.t 130)) .nil))))))))) (.seq (.reg 0 (.o 10 (.mv (.c (.pv (.bool true)))) .nil)) .ret)))))))), [.t 10])) := by kernel_rfl
theorem c_impl_pageCheck_visit_step (t : Pt) (hs : smallT t) (hn : t.ps.length ≤ 16) (i : Int) (d : Nat) (lo hi : Int) (seen : Nat → Bool) (ld : Int) (hd : d ≤ 3) (hld : -1 ≤ ld) (ih : d < 3 → ∀ (i lo hi : Int) (seen : Nat → Bool) (ld : Int), -1 ≤ ld → RdO prog 53 (chk 67 t seen ld) [i64 i, i64 ((d + 1 : Nat) : Int), i64 lo, i64 hi] (fun x ob => ∃ b s l, x = .bool b ∧ ob = chk 67 t s l ∧ (b = true → ∃ h, VisOK t i (d + 1) lo hi seen ld h ∧ s = visSeen t i seen h ∧ l = (d + 1 : Nat) + h - 1) ∧ (b = false → ∀ h, ¬ VisOK t i (d + 1) lo hi seen ld h))) : RdO prog 53 (chk 67 t seen ld) [i64 i, i64 d, i64 lo, i64 hi] (fun x ob => ∃ b s l, x = .bool b ∧ ob = chk 67 t s l ∧ (b = true → ∃ h, VisOK t i d lo hi seen ld h ∧ s = visSeen t i seen h ∧ l = d + h - 1) ∧ (b = false → ∀ h, ¬ VisOK t i d lo hi seen ld h)) := by
 obtain ⟨p, hp⟩ : ∃ p, nth t.ps i.toNat = p := ⟨_, rfl⟩
 have hpp : pg t i = p := hp
 refine callS_of_VS sl_impl_pageCheck_visit (by simp) (VS_seq (VS_r0 rfl (q_mv rfl (rg_nil (VS_seq (VS_seq (VS_r0 rfl (q_mv rfl (q_lss rfl rfl (q_mv rfl ?_))))))))))
 refine q_b rfl (fun g20 => ?_) (fun g20 => ?_)
 ·try simp at g20
  refine q_t rfl (q_mv rfl (q_t rfl (q_mv rfl (q_t rfl (q_nilc_r rfl (q_t rfl (q_fld_r rfl (q_t rfl (q_fld_r rfl (q_t rfl (q_load_r rfl rfl rfl rfl rfl rfl rfl (q_t rfl (q_len_m rfl (q_t rfl (q_geq rfl rfl ?_)))))))))))))))
  refine q_pick_f rfl rfl (q_mv rfl ?_)
  refine q_b rfl (fun g30 => ?_) (fun g30 => ?_)
  ·try simp at g30
   refine q_t rfl (q_mv rfl (q_t rfl (q_geq rfl rfl (q_pick_f rfl rfl (q_mv rfl ?_)))))
   refine q_b rfl (fun g34 => ?_) (fun g34 => ?_)
   ·try simp at g34
    refine q_t rfl (q_mv rfl (q_t rfl (q_mv rfl (q_t rfl (q_nilc_r rfl (q_t rfl (q_fld_r rfl (q_t rfl (q_aidx_r rfl rfl ⟨by omega, by omega⟩ (q_t rfl ?_))))))))))
    refine q_load_r (d := .pv (.bool (seen i.toNat))) rfl rfl rfl rfl rfl ?_ rfl ?_
    ·rw [show 0 + 2 + i.toNat * 1 = 2 + i.toNat by omega]; exact chk_get (by omega)
    refine q_pick_f rfl rfl (rg_nil ?_)
    refine VS_cond rfl (fun c0 => ?_) (fun c0 => ?_)
    ·try simp at c0
     refine VS_seq (VS_r0 rfl (q_mv rfl (rg_nil (VS_ret ?_))))
     exact Bd.now ⟨_, rfl, _, _, _, rfl, ⟨false, _, _, rfl, rfl, (fun e => by cases e), (fun _ h hv => by exact absurd hv (by intro hv; have h1 := vis_no hv; first | omega | (have h2 := h1.2.2.1; simp_all)))⟩, rfl⟩
    ·try simp at c0
     have hin : inT t i = true := inT_iff.2 ⟨by omega, by omega⟩
     have hsz := hs.2 i (by omega) (by omega)
     rw [hpp] at hsz
     refine VS_skip (VS_seq (VS_r0 rfl (q_mv rfl (q_mv rfl (q_nilc_r rfl (q_fld_r rfl (q_aidx_r rfl rfl ⟨by omega, by omega⟩ ?_)))))))
     refine q_store (z := .agg (chkC t (fun w => if w = i.toNat then true else seen w) ld)) rfl rfl rfl rfl rfl rfl ⟨rfl, rfl, ?_, rfl, ?_⟩ ?_ trivial ?_
     ·show _ ≤ 19
      omega
     ·intro h; cases h
     ·rw [show 0 + 2 + i.toNat * 1 = 2 + i.toNat by omega]
      exact congrArg D.agg (chk_set (by omega))
     refine rg_nil (VS_seq (VS_seq (VS_r0 rfl (q_mv rfl (q_mv rfl ?_)))))
     refine q_rdo rfl (c_impl_pageCheck_filledRight t hs hn i _ ld hin) chk_still (fun _ _ h => by rw [h.2]; exact chk_still) rfl rfl (fun _ => trivial) ?_
     rintro _ _ ⟨rfl, rfl⟩
     refine q_not rfl (rg_nil ?_)
     refine VS_cond rfl (fun c1 => ?_) (fun c1 => ?_)
     ·try simp at c1
      refine VS_seq (VS_r0 rfl (q_mv rfl (rg_nil (VS_ret ?_))))
      exact Bd.now ⟨_, rfl, _, _, _, rfl, ⟨false, _, _, rfl, rfl, (fun e => by cases e), (fun _ h hv => by exact absurd hv (by intro hv; have h1 := (vis_no hv).2.2.2.1; simp_all))⟩, rfl⟩
     ·try simp at c1
      refine VS_skip (VS_seq (VS_r0 rfl (q_mv rfl (q_nilc_r rfl (q_fld_r rfl (q_fld_r rfl (q_load_r rfl rfl rfl rfl rfl rfl rfl (q_mv rfl (q_idx_m (f := pgP) (xs := t.ps) (n := i) rfl rfl (by omega) (by omega) (fun _ => rfl) ?_)))))))))
      rw [hp]
      refine q_load_c rfl rfl rfl (q_alloc trivial (q_store rfl rfl rfl rfl rfl rfl ⟨rfl, rfl, by simp, rfl, by simp [isOne]⟩ rfl trivial (rg_nil (VS_seq (VS_seq (VS_r0 rfl (q_fld_r rfl (q_load_r rfl rfl rfl rfl rfl rfl rfl (q_len_m rfl (q_mv rfl (rg_nil (VS_block ?_))))))))))))
      refine VS_bd (Bd.keepL [(0, .ptr 0 0 0), (1, .pv (i64 i)), (2, .pv (i64 d)), (3, .pv (i64 lo)), (4, .pv (i64 hi)), (10, .pv (.bool false)), (11, .ptr 1 0 0), (60, .pv (ints p.ks)), (61, .pv (i64 p.ks.length)), (62, .pv (i64 0))] ⟨rfl, rfl, rfl, rfl, rfl, rfl, rfl, rfl, rfl, rfl, trivial⟩ ?_)
      refine VS_loop (fun mz E S => ∃ m : Nat, mz = p.ks.length - m ∧ (m ≤ p.ks.length) ∧ (∀ q, q < m → lo ≤ nth p.ks q ∧ nth p.ks q < hi) ∧ E = env [(0, .ptr 0 0 0), (1, .pv (i64 i)), (2, .pv (i64 d)), (3, .pv (i64 lo)), (4, .pv (i64 hi)), (10, .pv (.bool false)), (11, .ptr 1 0 0), (60, .pv (ints p.ks)), (61, .pv (i64 p.ks.length)), (62, .pv (i64 m))] ∧ S = [some (chk 67 t (fun w => if w = i.toNat then true else seen w) ld), some ⟨25, 3, [.agg [.pv (ints p.ks), .pv (ints p.cs), .pv (ints p.vs)]]⟩]) ⟨_, 0, rfl, (by omega), (by omega), rfl, rfl⟩ ?_
      rintro mz _ _ ⟨m, hmeas, g0, g1, rfl, rfl⟩
      refine VS_seq (VS_r0 rfl (q_lss rfl rfl (rg_nil (VS_seq ?_))))
      refine VS_cond rfl (fun c2 => ?_) (fun c2 => ?_)
      ·try simp at c2
       refine VS_skip (VS_seq (VS_block (VS_seq (VS_r0 rfl (q_idx_m (f := fun k => i64 k) (xs := p.ks) (n := (m : Int)) rfl rfl (by omega) (by omega) (fun _ => rfl) (q_load_c rfl rfl rfl (q_mv rfl (rg_nil (VS_seq (VS_r0 rfl (q_mv rfl (q_mv rfl (q_lss rfl rfl (q_mv rfl ?_))))))))))))))
       refine q_b rfl (fun g69 => ?_) (fun g69 => ?_)
       ·try simp at g69
        refine q_t rfl (q_mv rfl (q_t rfl (q_mv rfl (q_t rfl (q_geq rfl rfl (q_pick_f rfl rfl (rg_nil ?_)))))))
        refine VS_cond rfl (fun c3 => ?_) (fun c3 => ?_)
        ·try simp at c3
         refine VS_seq (VS_r0 rfl (q_mv rfl (rg_nil (VS_ret ?_))))
         exact Bd.now ⟨_, rfl, _, _, _, rfl, ⟨false, _, _, rfl, rfl, (fun e => by cases e), (fun _ h hv => by exact absurd hv (by intro hv; have h1 := (vis_no hv).2.2.2.2.1; have h2 : keysIn (pg t i).ks lo hi = false := (by rw [hpp]; exact keysIn_false m (by omega) (by omega)); rw [h1] at h2; cases h2))⟩, rfl⟩
        ·try simp at c3
         refine VS_skip (VS_r0 rfl (q_add rfl rfl (inR64 (by omega)) (q_mv rfl (rg_nil ?_))))
         refine Bd.keepL [(0, .ptr 0 0 0), (1, .pv (i64 i)), (2, .pv (i64 d)), (3, .pv (i64 lo)), (4, .pv (i64 hi)), (10, .pv (.bool false)), (11, .ptr 1 0 0), (60, .pv (ints p.ks)), (61, .pv (i64 p.ks.length)), (62, .pv (i64 (m + 1)))] ⟨rfl, rfl, rfl, rfl, rfl, rfl, rfl, rfl, rfl, rfl, trivial⟩ ⟨_, ?_, m + 1, rfl, ?_, ?_, rfl, rfl⟩
         ·omega
         ·omega
         ·intro q hq
          by_cases e : q = m
          ·subst e; first | omega | (constructor <;> omega) | simp_all
          ·exact g1 q (by omega)
       ·try simp at g69
        refine q_f rfl (q_f rfl (q_f rfl (q_pick_t rfl rfl (rg_nil ?_))))
        refine VS_cond rfl (fun _ => ?_) (fun e => by cases e)
        refine VS_seq (VS_r0 rfl (q_mv rfl (rg_nil (VS_ret ?_))))
        exact Bd.now ⟨_, rfl, _, _, _, rfl, ⟨false, _, _, rfl, rfl, (fun e => by cases e), (fun _ h hv => by exact absurd hv (by intro hv; have h1 := (vis_no hv).2.2.2.2.1; have h2 : keysIn (pg t i).ks lo hi = false := (by rw [hpp]; exact keysIn_false m (by omega) (by omega)); rw [h1] at h2; cases h2))⟩, rfl⟩
      ·try simp at c2
       refine VS_exit (VS_seq (VS_seq (VS_r0 rfl (q_fld_r rfl (q_load_r rfl rfl rfl rfl rfl rfl rfl (q_len_m rfl (q_eql rfl rfl (rg_nil ?_))))))))
       refine VS_cond rfl (fun c4 => ?_) (fun c4 => ?_)
       ·try simp at c4
        have hki : keysIn p.ks lo hi = true := keysIn_true fun q hq => g1 q (by omega)
        refine VS_seq (VS_seq (VS_r0 rfl (q_mv rfl (q_nilc_r rfl (q_fld_r rfl (q_load_r rfl rfl rfl rfl rfl rfl rfl (q_lss rfl rfl (rg_nil ?_))))))))
        refine VS_cond rfl (fun c5 => ?_) (fun c5 => ?_)
        ·try simp at c5
         refine VS_r0 rfl (q_mv rfl (q_mv rfl (q_nilc_r rfl (q_fld_r rfl (q_store rfl rfl rfl rfl rfl rfl ⟨rfl, rfl, by simp, rfl, by simp [isOne]⟩ rfl trivial (rg_nil (VS_seq (VS_r0 rfl (q_mv rfl (q_nilc_r rfl (q_fld_r rfl (q_load_r rfl rfl rfl rfl rfl rfl rfl (q_mv rfl (q_eql rfl rfl (q_mv rfl ?_)))))))))))))))
         refine rg_nil (VS_ret ?_)
         have h5 : (pg t i).cs.length = 0 := by rw [hpp, c4]; rfl
         first
          | exact Bd.now ⟨_, rfl, _, _, _, rfl, ⟨_, (fun w => if w = i.toNat then true else seen w), (d : Int), rfl, rfl, (fun hb => ⟨1, vis_leaf hin c1 (by rw [hpp]; exact hki) c0 h5 (by omega) (.inl c5), seen_leaf g20 h5, by omega⟩), (fun hb => by simp at hb)⟩, rfl⟩
          | exact Bd.now ⟨_, rfl, _, _, _, rfl, ⟨_, (fun w => if w = i.toNat then true else seen w), ld, rfl, rfl, (fun hb => ⟨1, vis_leaf hin c1 (by rw [hpp]; exact hki) c0 h5 (by omega) (.inr (by simpa using hb)), seen_leaf g20 h5, by simp at hb; omega⟩), (fun hb h hv => by have h7 := ((vis_no hv).2.2.2.2.2 h5).2; simp at hb; omega)⟩, rfl⟩
        ·try simp at c5
         refine VS_skip (VS_seq (VS_r0 rfl (q_mv rfl (q_nilc_r rfl (q_fld_r rfl (q_load_r rfl rfl rfl rfl rfl rfl rfl (q_mv rfl (q_eql rfl rfl (q_mv rfl (rg_nil (VS_ret ?_)))))))))))
         have h5 : (pg t i).cs.length = 0 := by rw [hpp, c4]; rfl
         first
          | exact Bd.now ⟨_, rfl, _, _, _, rfl, ⟨_, (fun w => if w = i.toNat then true else seen w), (d : Int), rfl, rfl, (fun hb => ⟨1, vis_leaf hin c1 (by rw [hpp]; exact hki) c0 h5 (by omega) (.inl c5), seen_leaf g20 h5, by omega⟩), (fun hb => by simp at hb)⟩, rfl⟩
          | exact Bd.now ⟨_, rfl, _, _, _, rfl, ⟨_, (fun w => if w = i.toNat then true else seen w), ld, rfl, rfl, (fun hb => ⟨1, vis_leaf hin c1 (by rw [hpp]; exact hki) c0 h5 (by omega) (.inr (by simpa using hb)), seen_leaf g20 h5, by simp at hb; omega⟩), (fun hb h hv => by have h7 := ((vis_no hv).2.2.2.2.2 h5).2; simp at hb; omega)⟩, rfl⟩
       ·try simp at c4
        have hki : keysIn p.ks lo hi = true := keysIn_true fun q hq => g1 q (by omega)
        have hcl := fill_inner (by rw [fillB, hpp] at c1; exact c1) (by simpa using c4)
        have hcp : 0 < p.cs.length := by omega
        refine VS_skip (VS_seq (VS_seq (VS_r0 rfl (q_fld_r rfl (q_load_r rfl rfl rfl rfl rfl rfl rfl (q_len_m rfl (q_mv rfl (rg_nil (VS_block ?_)))))))))
        refine VS_bd (Bd.keepL [(0, .ptr 0 0 0), (2, .pv (i64 d)), (3, .pv (i64 lo)), (4, .pv (i64 hi)), (11, .ptr 1 0 0), (95, .pv (ints p.cs)), (96, .pv (i64 p.cs.length)), (97, .pv (i64 0))] ⟨rfl, rfl, rfl, rfl, rfl, rfl, rfl, rfl, trivial⟩ ?_)
        refine VS_loop (fun mz E S => ∃ j : Nat, ∃ si : Nat → Bool, ∃ li : Int, ∃ h : Nat, mz = p.cs.length - j ∧ (j ≤ p.cs.length) ∧ (KidsOK t p d lo hi (fun w => if w = i.toNat then true else seen w) ld j h si li) ∧ (-1 ≤ li) ∧ E = env [(0, .ptr 0 0 0), (2, .pv (i64 d)), (3, .pv (i64 lo)), (4, .pv (i64 hi)), (11, .ptr 1 0 0), (95, .pv (ints p.cs)), (96, .pv (i64 p.cs.length)), (97, .pv (i64 j))] ∧ S = [some (chk 67 t si li), some ⟨25, 3, [.agg [.pv (ints p.ks), .pv (ints p.cs), .pv (ints p.vs)]]⟩]) ⟨_, 0, (fun w => if w = i.toNat then true else seen w), ld, 1, rfl, (by omega), kids_zero, hld, rfl, rfl⟩ ?_
        rintro mz _ _ ⟨j, si, li, h, hmeas, g0, gk, gl, rfl, rfl⟩
        refine VS_seq (VS_r0 rfl (q_lss rfl rfl (rg_nil (VS_seq ?_))))
        refine VS_cond rfl (fun c6 => ?_) (fun c6 => ?_)
        ·try simp at c6
         refine VS_skip (VS_seq (VS_block (VS_seq (VS_r0 rfl (q_mv rfl (q_idx_m (f := fun k => i64 k) (xs := p.cs) (n := (j : Int)) rfl rfl (by omega) (by omega) (fun _ => rfl) (q_load_c rfl rfl rfl (q_mv rfl (q_mv rfl (rg_nil (VS_seq (VS_r0 rfl (q_mv rfl (q_mv rfl (q_mv rfl ?_)))))))))))))))
         refine q_mv rfl (rg_nil (VS_seq (VS_seq (VS_r0 rfl (q_mv rfl (q_gtr rfl rfl (rg_nil ?_)))))))
         refine VS_cond rfl (fun c7 => ?_) (fun c7 => ?_)
         ·try simp at c7
          refine VS_r0 rfl (q_fld_r rfl (q_load_r rfl rfl rfl rfl rfl rfl rfl (q_mv rfl (q_sub_to ((j - 1 : Nat) : Int) rfl rfl (by omega) (inR64 (by omega)) (q_idx_m (f := fun k => i64 k) (xs := p.ks) (n := ((j - 1 : Nat) : Int)) rfl rfl (by omega) (by omega) (fun _ => rfl) (q_load_c rfl rfl rfl (q_mv rfl (rg_nil ?_))))))))
          refine VS_join (fun E S => ∃ a b, a = frK p lo j ∧ b = toK p hi j ∧ E = env [(0, .ptr 0 0 0), (2, .pv (i64 d)), (3, .pv (i64 lo)), (4, .pv (i64 hi)), (11, .ptr 1 0 0), (95, .pv (ints p.cs)), (96, .pv (i64 p.cs.length)), (97, .pv (i64 j)), (15, .pv (i64 (nth p.cs j))), (16, .pv (i64 a)), (17, .pv (i64 b))] ∧ S = [some (chk 67 t si li), some ⟨25, 3, [.agg [.pv (ints p.ks), .pv (ints p.cs), .pv (ints p.vs)]]⟩]) ?_ ?_
          ·skip
           refine VS_seq (VS_r0 rfl (q_mv rfl (q_fld_r rfl (q_load_r rfl rfl rfl rfl rfl rfl rfl (q_len_m rfl (q_lss rfl rfl (rg_nil ?_)))))))
           refine VS_cond rfl (fun c8 => ?_) (fun c8 => ?_)
           ·try simp at c8
            refine VS_r0 rfl (q_fld_r rfl (q_load_r rfl rfl rfl rfl rfl rfl rfl (q_mv rfl (q_idx_m (f := fun k => i64 k) (xs := p.ks) (n := (j : Int)) rfl rfl (by omega) (by omega) (fun _ => rfl) (q_load_c rfl rfl rfl (q_mv rfl (rg_nil ?_)))))))
            first
             | exact Bd.keepL [(0, .ptr 0 0 0), (2, .pv (i64 d)), (3, .pv (i64 lo)), (4, .pv (i64 hi)), (11, .ptr 1 0 0), (95, .pv (ints p.cs)), (96, .pv (i64 p.cs.length)), (97, .pv (i64 j)), (15, .pv (i64 (nth p.cs j))), (16, .pv (i64 lo)), (17, .pv (i64 hi))] ⟨rfl, rfl, rfl, rfl, rfl, rfl, rfl, rfl, rfl, rfl, rfl, trivial⟩ ⟨_, _, (by rw [frK, if_pos (by omega)]), (by rw [toK, if_neg (by omega)]), rfl, rfl⟩
             | exact Bd.keepL [(0, .ptr 0 0 0), (2, .pv (i64 d)), (3, .pv (i64 lo)), (4, .pv (i64 hi)), (11, .ptr 1 0 0), (95, .pv (ints p.cs)), (96, .pv (i64 p.cs.length)), (97, .pv (i64 j)), (15, .pv (i64 (nth p.cs j))), (16, .pv (i64 lo)), (17, .pv (i64 (nth p.ks j)))] ⟨rfl, rfl, rfl, rfl, rfl, rfl, rfl, rfl, rfl, rfl, rfl, trivial⟩ ⟨_, _, (by rw [frK, if_pos (by omega)]), (by rw [toK, if_pos (by omega)]), rfl, rfl⟩
             | exact Bd.keepL [(0, .ptr 0 0 0), (2, .pv (i64 d)), (3, .pv (i64 lo)), (4, .pv (i64 hi)), (11, .ptr 1 0 0), (95, .pv (ints p.cs)), (96, .pv (i64 p.cs.length)), (97, .pv (i64 j)), (15, .pv (i64 (nth p.cs j))), (16, .pv (i64 (nth p.ks (j - 1)))), (17, .pv (i64 hi))] ⟨rfl, rfl, rfl, rfl, rfl, rfl, rfl, rfl, rfl, rfl, rfl, trivial⟩ ⟨_, _, (by rw [frK, if_neg (by omega)]), (by rw [toK, if_neg (by omega)]), rfl, rfl⟩
             | exact Bd.keepL [(0, .ptr 0 0 0), (2, .pv (i64 d)), (3, .pv (i64 lo)), (4, .pv (i64 hi)), (11, .ptr 1 0 0), (95, .pv (ints p.cs)), (96, .pv (i64 p.cs.length)), (97, .pv (i64 j)), (15, .pv (i64 (nth p.cs j))), (16, .pv (i64 (nth p.ks (j - 1)))), (17, .pv (i64 (nth p.ks j)))] ⟨rfl, rfl, rfl, rfl, rfl, rfl, rfl, rfl, rfl, rfl, rfl, trivial⟩ ⟨_, _, (by rw [frK, if_neg (by omega)]), (by rw [toK, if_pos (by omega)]), rfl, rfl⟩
           ·try simp at c8
            refine VS_skip ?_
            first
             | exact Bd.keepL [(0, .ptr 0 0 0), (2, .pv (i64 d)), (3, .pv (i64 lo)), (4, .pv (i64 hi)), (11, .ptr 1 0 0), (95, .pv (ints p.cs)), (96, .pv (i64 p.cs.length)), (97, .pv (i64 j)), (15, .pv (i64 (nth p.cs j))), (16, .pv (i64 lo)), (17, .pv (i64 hi))] ⟨rfl, rfl, rfl, rfl, rfl, rfl, rfl, rfl, rfl, rfl, rfl, trivial⟩ ⟨_, _, (by rw [frK, if_pos (by omega)]), (by rw [toK, if_neg (by omega)]), rfl, rfl⟩
             | exact Bd.keepL [(0, .ptr 0 0 0), (2, .pv (i64 d)), (3, .pv (i64 lo)), (4, .pv (i64 hi)), (11, .ptr 1 0 0), (95, .pv (ints p.cs)), (96, .pv (i64 p.cs.length)), (97, .pv (i64 j)), (15, .pv (i64 (nth p.cs j))), (16, .pv (i64 lo)), (17, .pv (i64 (nth p.ks j)))] ⟨rfl, rfl, rfl, rfl, rfl, rfl, rfl, rfl, rfl, rfl, rfl, trivial⟩ ⟨_, _, (by rw [frK, if_pos (by omega)]), (by rw [toK, if_pos (by omega)]), rfl, rfl⟩
             | exact Bd.keepL [(0, .ptr 0 0 0), (2, .pv (i64 d)), (3, .pv (i64 lo)), (4, .pv (i64 hi)), (11, .ptr 1 0 0), (95, .pv (ints p.cs)), (96, .pv (i64 p.cs.length)), (97, .pv (i64 j)), (15, .pv (i64 (nth p.cs j))), (16, .pv (i64 (nth p.ks (j - 1)))), (17, .pv (i64 hi))] ⟨rfl, rfl, rfl, rfl, rfl, rfl, rfl, rfl, rfl, rfl, rfl, trivial⟩ ⟨_, _, (by rw [frK, if_neg (by omega)]), (by rw [toK, if_neg (by omega)]), rfl, rfl⟩
             | exact Bd.keepL [(0, .ptr 0 0 0), (2, .pv (i64 d)), (3, .pv (i64 lo)), (4, .pv (i64 hi)), (11, .ptr 1 0 0), (95, .pv (ints p.cs)), (96, .pv (i64 p.cs.length)), (97, .pv (i64 j)), (15, .pv (i64 (nth p.cs j))), (16, .pv (i64 (nth p.ks (j - 1)))), (17, .pv (i64 (nth p.ks j)))] ⟨rfl, rfl, rfl, rfl, rfl, rfl, rfl, rfl, rfl, rfl, rfl, trivial⟩ ⟨_, _, (by rw [frK, if_neg (by omega)]), (by rw [toK, if_pos (by omega)]), rfl, rfl⟩
          ·rintro _ _ ⟨a, b, ha, hb, rfl, rfl⟩
           refine VS_seq (VS_r0 rfl (q_mv rfl (q_mv rfl (q_mv rfl (q_add rfl rfl (inR64 (by omega)) (q_mv rfl (q_mv rfl ?_)))))))
           refine q_rdo rfl (ih (by omega) (nth p.cs j) a b si li (by omega)) chk_still (fun _ ob2 h => by obtain ⟨_, _, _, _, h2, _⟩ := h; rw [h2]; exact chk_still) rfl rfl (fun _ => trivial) ?_
           rintro _ _ ⟨b2, s2, l2, rfl, rfl, hvt, hvf⟩
           refine q_not rfl (rg_nil ?_)
           refine VS_cond rfl (fun c9 => ?_) (fun c9 => ?_)
           ·try simp at c9
            refine VS_seq (VS_r0 rfl (q_mv rfl (rg_nil (VS_ret ?_))))
            exact Bd.now ⟨_, rfl, _, _, _, rfl, ⟨false, _, _, rfl, rfl, (fun e => by cases e), (fun _ h hv => by exact absurd hv (by intro hv; exact kids_bad (by rw [hpp]; exact gk) (by rw [hpp]; omega) (by rw [hpp, ← ha, ← hb]; exact hvf (by simpa using c9)) _ hv))⟩, rfl⟩
           ·try simp at c9
            refine VS_skip (VS_r0 rfl (q_add rfl rfl (inR64 (by omega)) (q_mv rfl (rg_nil ?_))))
            refine Exists.elim (hvt (by simpa using c9)) (fun h2 hh => ?_)
            refine Bd.keepL [(0, .ptr 0 0 0), (2, .pv (i64 d)), (3, .pv (i64 lo)), (4, .pv (i64 hi)), (11, .ptr 1 0 0), (95, .pv (ints p.cs)), (96, .pv (i64 p.cs.length)), (97, .pv (i64 (j + 1)))] ⟨rfl, rfl, rfl, rfl, rfl, rfl, rfl, rfl, trivial⟩ ⟨_, ?_, j + 1, s2, l2, h2, rfl, ?_, ?_, ?_, rfl, rfl⟩
            ·omega
            ·omega
            ·have hl2 : l2 = (d : Int) + h2 := by have := hh.2.2; omega
             rw [hl2, hh.2.1]
             exact kids_step gk (by omega) (by rw [← ha, ← hb]; exact hh.1)
            ·have := hh.2.2
             omega
         ·try simp at c7
          refine VS_skip ?_
          refine VS_join (fun E S => ∃ a b, a = frK p lo j ∧ b = toK p hi j ∧ E = env [(0, .ptr 0 0 0), (2, .pv (i64 d)), (3, .pv (i64 lo)), (4, .pv (i64 hi)), (11, .ptr 1 0 0), (95, .pv (ints p.cs)), (96, .pv (i64 p.cs.length)), (97, .pv (i64 j)), (15, .pv (i64 (nth p.cs j))), (16, .pv (i64 a)), (17, .pv (i64 b))] ∧ S = [some (chk 67 t si li), some ⟨25, 3, [.agg [.pv (ints p.ks), .pv (ints p.cs), .pv (ints p.vs)]]⟩]) ?_ ?_
          ·skip
           refine VS_seq (VS_r0 rfl (q_mv rfl (q_fld_r rfl (q_load_r rfl rfl rfl rfl rfl rfl rfl (q_len_m rfl (q_lss rfl rfl (rg_nil ?_)))))))
           refine VS_cond rfl (fun c8 => ?_) (fun c8 => ?_)
           ·try simp at c8
            refine VS_r0 rfl (q_fld_r rfl (q_load_r rfl rfl rfl rfl rfl rfl rfl (q_mv rfl (q_idx_m (f := fun k => i64 k) (xs := p.ks) (n := (j : Int)) rfl rfl (by omega) (by omega) (fun _ => rfl) (q_load_c rfl rfl rfl (q_mv rfl (rg_nil ?_)))))))
            first
             | exact Bd.keepL [(0, .ptr 0 0 0), (2, .pv (i64 d)), (3, .pv (i64 lo)), (4, .pv (i64 hi)), (11, .ptr 1 0 0), (95, .pv (ints p.cs)), (96, .pv (i64 p.cs.length)), (97, .pv (i64 j)), (15, .pv (i64 (nth p.cs j))), (16, .pv (i64 lo)), (17, .pv (i64 hi))] ⟨rfl, rfl, rfl, rfl, rfl, rfl, rfl, rfl, rfl, rfl, rfl, trivial⟩ ⟨_, _, (by rw [frK, if_pos (by omega)]), (by rw [toK, if_neg (by omega)]), rfl, rfl⟩
             | exact Bd.keepL [(0, .ptr 0 0 0), (2, .pv (i64 d)), (3, .pv (i64 lo)), (4, .pv (i64 hi)), (11, .ptr 1 0 0), (95, .pv (ints p.cs)), (96, .pv (i64 p.cs.length)), (97, .pv (i64 j)), (15, .pv (i64 (nth p.cs j))), (16, .pv (i64 lo)), (17, .pv (i64 (nth p.ks j)))] ⟨rfl, rfl, rfl, rfl, rfl, rfl, rfl, rfl, rfl, rfl, rfl, trivial⟩ ⟨_, _, (by rw [frK, if_pos (by omega)]), (by rw [toK, if_pos (by omega)]), rfl, rfl⟩
             | exact Bd.keepL [(0, .ptr 0 0 0), (2, .pv (i64 d)), (3, .pv (i64 lo)), (4, .pv (i64 hi)), (11, .ptr 1 0 0), (95, .pv (ints p.cs)), (96, .pv (i64 p.cs.length)), (97, .pv (i64 j)), (15, .pv (i64 (nth p.cs j))), (16, .pv (i64 (nth p.ks (j - 1)))), (17, .pv (i64 hi))] ⟨rfl, rfl, rfl, rfl, rfl, rfl, rfl, rfl, rfl, rfl, rfl, trivial⟩ ⟨_, _, (by rw [frK, if_neg (by omega)]), (by rw [toK, if_neg (by omega)]), rfl, rfl⟩
             | exact Bd.keepL [(0, .ptr 0 0 0), (2, .pv (i64 d)), (3, .pv (i64 lo)), (4, .pv (i64 hi)), (11, .ptr 1 0 0), (95, .pv (ints p.cs)), (96, .pv (i64 p.cs.length)), (97, .pv (i64 j)), (15, .pv (i64 (nth p.cs j))), (16, .pv (i64 (nth p.ks (j - 1)))), (17, .pv (i64 (nth p.ks j)))] ⟨rfl, rfl, rfl, rfl, rfl, rfl, rfl, rfl, rfl, rfl, rfl, trivial⟩ ⟨_, _, (by rw [frK, if_neg (by omega)]), (by rw [toK, if_pos (by omega)]), rfl, rfl⟩
           ·try simp at c8
            refine VS_skip ?_
            first
             | exact Bd.keepL [(0, .ptr 0 0 0), (2, .pv (i64 d)), (3, .pv (i64 lo)), (4, .pv (i64 hi)), (11, .ptr 1 0 0), (95, .pv (ints p.cs)), (96, .pv (i64 p.cs.length)), (97, .pv (i64 j)), (15, .pv (i64 (nth p.cs j))), (16, .pv (i64 lo)), (17, .pv (i64 hi))] ⟨rfl, rfl, rfl, rfl, rfl, rfl, rfl, rfl, rfl, rfl, rfl, trivial⟩ ⟨_, _, (by rw [frK, if_pos (by omega)]), (by rw [toK, if_neg (by omega)]), rfl, rfl⟩
             | exact Bd.keepL [(0, .ptr 0 0 0), (2, .pv (i64 d)), (3, .pv (i64 lo)), (4, .pv (i64 hi)), (11, .ptr 1 0 0), (95, .pv (ints p.cs)), (96, .pv (i64 p.cs.length)), (97, .pv (i64 j)), (15, .pv (i64 (nth p.cs j))), (16, .pv (i64 lo)), (17, .pv (i64 (nth p.ks j)))] ⟨rfl, rfl, rfl, rfl, rfl, rfl, rfl, rfl, rfl, rfl, rfl, trivial⟩ ⟨_, _, (by rw [frK, if_pos (by omega)]), (by rw [toK, if_pos (by omega)]), rfl, rfl⟩
             | exact Bd.keepL [(0, .ptr 0 0 0), (2, .pv (i64 d)), (3, .pv (i64 lo)), (4, .pv (i64 hi)), (11, .ptr 1 0 0), (95, .pv (ints p.cs)), (96, .pv (i64 p.cs.length)), (97, .pv (i64 j)), (15, .pv (i64 (nth p.cs j))), (16, .pv (i64 (nth p.ks (j - 1)))), (17, .pv (i64 hi))] ⟨rfl, rfl, rfl, rfl, rfl, rfl, rfl, rfl, rfl, rfl, rfl, trivial⟩ ⟨_, _, (by rw [frK, if_neg (by omega)]), (by rw [toK, if_neg (by omega)]), rfl, rfl⟩
             | exact Bd.keepL [(0, .ptr 0 0 0), (2, .pv (i64 d)), (3, .pv (i64 lo)), (4, .pv (i64 hi)), (11, .ptr 1 0 0), (95, .pv (ints p.cs)), (96, .pv (i64 p.cs.length)), (97, .pv (i64 j)), (15, .pv (i64 (nth p.cs j))), (16, .pv (i64 (nth p.ks (j - 1)))), (17, .pv (i64 (nth p.ks j)))] ⟨rfl, rfl, rfl, rfl, rfl, rfl, rfl, rfl, rfl, rfl, rfl, trivial⟩ ⟨_, _, (by rw [frK, if_neg (by omega)]), (by rw [toK, if_pos (by omega)]), rfl, rfl⟩
          ·rintro _ _ ⟨a, b, ha, hb, rfl, rfl⟩
           refine VS_seq (VS_r0 rfl (q_mv rfl (q_mv rfl (q_mv rfl (q_add rfl rfl (inR64 (by omega)) (q_mv rfl (q_mv rfl ?_)))))))
           refine q_rdo rfl (ih (by omega) (nth p.cs j) a b si li (by omega)) chk_still (fun _ ob2 h => by obtain ⟨_, _, _, _, h2, _⟩ := h; rw [h2]; exact chk_still) rfl rfl (fun _ => trivial) ?_
           rintro _ _ ⟨b2, s2, l2, rfl, rfl, hvt, hvf⟩
           refine q_not rfl (rg_nil ?_)
           refine VS_cond rfl (fun c9 => ?_) (fun c9 => ?_)
           ·try simp at c9
            refine VS_seq (VS_r0 rfl (q_mv rfl (rg_nil (VS_ret ?_))))
            exact Bd.now ⟨_, rfl, _, _, _, rfl, ⟨false, _, _, rfl, rfl, (fun e => by cases e), (fun _ h hv => by exact absurd hv (by intro hv; exact kids_bad (by rw [hpp]; exact gk) (by rw [hpp]; omega) (by rw [hpp, ← ha, ← hb]; exact hvf (by simpa using c9)) _ hv))⟩, rfl⟩
           ·try simp at c9
            refine VS_skip (VS_r0 rfl (q_add rfl rfl (inR64 (by omega)) (q_mv rfl (rg_nil ?_))))
            refine Exists.elim (hvt (by simpa using c9)) (fun h2 hh => ?_)
            refine Bd.keepL [(0, .ptr 0 0 0), (2, .pv (i64 d)), (3, .pv (i64 lo)), (4, .pv (i64 hi)), (11, .ptr 1 0 0), (95, .pv (ints p.cs)), (96, .pv (i64 p.cs.length)), (97, .pv (i64 (j + 1)))] ⟨rfl, rfl, rfl, rfl, rfl, rfl, rfl, rfl, trivial⟩ ⟨_, ?_, j + 1, s2, l2, h2, rfl, ?_, ?_, ?_, rfl, rfl⟩
            ·omega
            ·omega
            ·have hl2 : l2 = (d : Int) + h2 := by have := hh.2.2; omega
             rw [hl2, hh.2.1]
             exact kids_step gk (by omega) (by rw [← ha, ← hb]; exact hh.1)
            ·have := hh.2.2
             omega
        ·try simp at c6
         refine VS_exit (VS_seq (VS_r0 rfl (q_mv rfl (rg_nil (VS_ret ?_)))))
         have e : j = p.cs.length := by omega
         rw [e] at gk
         have he := kids_end (t := t) (i0 := i) (by rw [hpp]; exact gk) (by rw [hpp]; omega) hin c1 (by rw [hpp]; exact hki) c0
         exact Bd.now ⟨_, rfl, _, _, _, rfl, ⟨true, si, li, rfl, rfl, (fun _ => ⟨h + 1, he.1, he.2.1, he.2.2⟩), (fun e => by cases e)⟩, rfl⟩
   ·try simp at g34
    refine q_f rfl (q_f rfl (q_f rfl (q_f rfl (q_f rfl (q_f rfl (q_pick_t rfl rfl (rg_nil ?_)))))))
    refine VS_cond rfl (fun _ => ?_) (fun e => by cases e)
    refine VS_seq (VS_r0 rfl (q_mv rfl (rg_nil (VS_ret ?_))))
    exact Bd.now ⟨_, rfl, _, _, _, rfl, ⟨false, _, _, rfl, rfl, (fun e => by cases e), (fun _ h hv => by exact absurd hv (by intro hv; have h1 := vis_no hv; first | omega | (have h2 := h1.2.2.1; simp_all)))⟩, rfl⟩
  ·try simp at g30
   refine q_f rfl (q_f rfl (q_pick_t rfl rfl (q_mv rfl (q_f rfl (q_f rfl (q_f rfl (q_f rfl (q_f rfl (q_f rfl (q_pick_t rfl rfl (rg_nil ?_)))))))))))
   refine VS_cond rfl (fun _ => ?_) (fun e => by cases e)
   refine VS_seq (VS_r0 rfl (q_mv rfl (rg_nil (VS_ret ?_))))
   exact Bd.now ⟨_, rfl, _, _, _, rfl, ⟨false, _, _, rfl, rfl, (fun e => by cases e), (fun _ h hv => by exact absurd hv (by intro hv; have h1 := vis_no hv; first | omega | (have h2 := h1.2.2.1; simp_all)))⟩, rfl⟩
 ·try simp at g20
  refine q_f rfl (q_f rfl (q_f rfl (q_f rfl (q_f rfl (q_f rfl (q_f rfl (q_f rfl (q_pick_t rfl rfl (q_mv rfl (q_f rfl (q_f rfl (q_pick_t rfl rfl (q_mv rfl (q_f rfl (q_f rfl ?_)))))))))))))))
  refine q_f rfl (q_f rfl (q_f rfl (q_f rfl (q_pick_t rfl rfl (rg_nil ?_)))))
  refine VS_cond rfl (fun _ => ?_) (fun e => by cases e)
  refine VS_seq (VS_r0 rfl (q_mv rfl (rg_nil (VS_ret ?_))))
  exact Bd.now ⟨_, rfl, _, _, _, rfl, ⟨false, _, _, rfl, rfl, (fun e => by cases e), (fun _ h hv => by exact absurd hv (by intro hv; have h1 := vis_no hv; first | omega | (have h2 := h1.2.2.1; simp_all)))⟩, rfl⟩
theorem c_impl_pageCheck_visit (t : Pt) (hs : smallT t) (hn : t.ps.length ≤ 16) : ∀ (n d : Nat), d ≤ 3 → 3 ≤ d + n → ∀ (i lo hi : Int) (seen : Nat → Bool) (ld : Int), -1 ≤ ld → RdO prog 53 (chk 67 t seen ld) [i64 i, i64 d, i64 lo, i64 hi] (fun x ob => ∃ b s l, x = .bool b ∧ ob = chk 67 t s l ∧ (b = true → ∃ h, VisOK t i d lo hi seen ld h ∧ s = visSeen t i seen h ∧ l = d + h - 1) ∧ (b = false → ∀ h, ¬ VisOK t i d lo hi seen ld h)) := by
 intro n
 induction n with
 | zero => intro d hd h3 i lo hi seen ld hld; exact c_impl_pageCheck_visit_step t hs hn i d lo hi seen ld hd hld (fun h => absurd h (by omega))
 | succ n ih => intro d hd h3 i lo hi seen ld hld; exact c_impl_pageCheck_visit_step t hs hn i d lo hi seen ld hd hld (fun h i lo hi seen ld hld => ih (d + 1) (by omega) (by omega) i lo hi seen ld hld)
theorem sl_impl_ValidTree : slimF prog 22 = some (33, (.seq (.reg 0 (.o 1 (.box 39 2 (.t 0)) (.o 2 (.mv (.c (.pv (.bool false)))) .nil))) (.seq (.seq (.reg 0 (.o 5 (.fld 1 1 false (.t 1)) (.o 6 (.load 1 false (.t 5)) (.o 7 (.len (.t 6)) (.o 8 (.bin .lss (.t 7) (.c (.pv (.int .i64 1)))) (.o 9 (.mv (.t 8)) (.g 10 9 false (.fld 1 1 false (.t 1)) (.g 11 9 false (.load 1 false (.t 10)) (.g 12 9 false (.len (.t 11)) (.g 13 9 false (.bin .gtr (.t 12) (.c (.pv (.int .i64 16)))) (.o 14 (.pick (.t 9) (.c (.pv (.bool true))) (.t 13)) .nil))))))))))) (.cond (.t 14) (.seq (.reg 0 (.o 2 (.mv (.c (.pv (.bool false)))) .nil)) .ret) .skip)) (.seq (.reg 0 (.o 15 (.load 2 true (.t 1)) (.o 16 (.build [.pv (.int .i64 0), .nils, .pv (.bool false), .pv (.bool false), .pv (.bool false), .pv (.bool false), .pv (.bool false), .pv (.bool false), .pv (.bool false), .pv (.bool false), .pv (.bool false), .pv (.bool false), .pv (.bool false), .pv (.bool false), .pv (.bool false), .pv (.bool false), .pv (.bool false), .pv (.bool false), .pv (.int .i64 0)] [(0, (2, .t 15)), (18, (1, .c (.pv (.int .i64 (-1)))))]) (.o 3 (.alloc 67 19 (.agg [.pv (.int .i64 0), .nils, .pv (.bool false), .pv (.bool false), .pv (.bool false), .pv (.bool false), .pv (.bool false), .pv (.bool false), .pv (.bool false), .pv (.bool false), .pv (.bool false), .pv (.bool false), .pv (.bool false), .pv (.bool false), .pv (.bool false), .pv (.bool false), .pv (.bool false), .pv (.bool false), .pv (.int .i64 0)])) (.op ⟨none, none, .store 19 (.t 3) (.t 16)⟩ .nil))))) (.seq (.seq (.reg 0 (.o 17 (.fld 0 1 false (.t 1)) (.o 18 (.load 1 false (.t 17)) (.o 19 (.call 53 [.t 3, .t 18, .c (.pv (.int .i64 0)), .c (.pv (.int .i64 0)), .c (.pv (.int .i64 100))]) (.o 20 (.not (.t 19)) .nil))))) (.cond (.t 20) (.seq (.reg 0 (.o 2 (.mv (.c (.pv (.bool false)))) .nil)) .ret) .skip)) (.seq (.seq (.reg 0 (.o 21 (.fld 1 1 false (.t 1)) (.o 22 (.load 1 false (.t 21)) (.o 23 (.len (.t 22)) (.o 24 (.mv (.c (.pv (.int .i64 0)))) .nil))))) (.block 0 (.loop (.seq (.reg 0 (.o 25 (.bin .lss (.t 24) (.t 23)) .nil)) (.seq (.cond (.t 25) .skip (.exit 0)) (.seq (.block 1 (.seq (.reg 0 (.o 26 (.mv (.t 24)) (.o 4 (.mv (.t 26)) .nil))) (.seq (.reg 0 (.o 27 (.mv (.t 4)) (.o 28 (.fld 2 16 true (.t 3)) (.o 29 (.aidx 16 1 (.t 28) (.t 27)) (.o 30 (.load 1 false (.t 29)) (.o 31 (.not (.t 30)) .nil)))))) (.cond (.t 31) (.seq (.reg 0 (.o 2 (.mv (.c (.pv (.bool false)))) .nil)) .ret) .skip)))) (.reg 0 (.o 32 (.bin .add (.t 24) (.c (.pv (.int .i64 1)))) (.o 24 (.mv (.t 32)) .nil))))))))) (.seq (.reg 0 (.o 2 (.mv (.c (.pv (.bool true)))) .nil)) .ret))))), [.t 2])) := by kernel_rfl
theorem c_impl_ValidTree (t : Pt) (hs : smallT t) : PCon prog 22 [ptP t] (fun p => p = .bool (validT t)) := by
 refine con_of_VS sl_impl_ValidTree (by simp) (VS_seq (VS_r0 rfl (q_box rfl rfl rfl trivial (q_mv rfl (rg_nil (VS_seq (VS_seq (VS_r0 rfl (q_fld_r rfl (q_load_r rfl rfl rfl rfl rfl rfl rfl (q_len_m rfl (q_lss rfl rfl (q_mv rfl ?_)))))))))))))
 refine q_b rfl (fun g9 => ?_) (fun g9 => ?_)
 ·try simp at g9
  refine q_t rfl (q_fld_r rfl (q_t rfl (q_load_r rfl rfl rfl rfl rfl rfl rfl (q_t rfl (q_len_m rfl (q_t rfl (q_gtr rfl rfl (q_pick_f rfl rfl (rg_nil ?_)))))))))
  refine VS_cond rfl (fun c0 => ?_) (fun c0 => ?_)
  ·try simp at c0
   refine VS_seq (VS_r0 rfl (q_mv rfl (rg_nil (VS_ret ?_))))
   refine Bd.now ⟨_, rfl, congrArg PV.bool ?_⟩
   exact (Bool.eq_false_iff.2 fun hc => by have := (valid_iff.1 hc).1; omega).symm
  ·try simp at c0
   have hn : 1 ≤ t.ps.length ∧ t.ps.length ≤ 16 := by omega
   refine VS_skip (VS_seq (VS_r0 rfl (q_load_ra rfl rfl rfl rfl rfl (by (simp; done)) rfl (q_build rfl (q_alloc trivial (q_store rfl rfl rfl rfl rfl rfl ⟨rfl, rfl, by simp, rfl, by simp [isOne]⟩ rfl trivial (rg_nil (VS_seq (VS_seq ?_)))))))))
   refine VS_st [some ⟨39, 2, [.pv (ptP t)]⟩, some (chk 67 t (fun _ => false) (-1))] rfl ?_
   refine VS_r0 rfl (q_fld_r rfl (q_load_r rfl rfl rfl rfl rfl rfl rfl ?_))
   refine q_rdo rfl (c_impl_pageCheck_visit t hs hn.2 3 0 (by omega) (by omega) t.r 0 100 (fun _ => false) (-1) (by omega)) chk_still (fun _ _ h => by obtain ⟨_, _, _, _, h2, _⟩ := h; rw [h2]; exact chk_still) rfl rfl (fun _ => trivial) ?_
   rintro _ _ ⟨b2, s2, l2, rfl, rfl, hvt, hvf⟩
   refine q_not rfl (rg_nil ?_)
   refine VS_cond rfl (fun c1 => ?_) (fun c1 => ?_)
   ·try simp at c1
    refine VS_seq (VS_r0 rfl (q_mv rfl (rg_nil (VS_ret ?_))))
    refine Bd.now ⟨_, rfl, congrArg PV.bool ?_⟩
    exact (valid_no (hvf (by simpa using c1))).symm
   ·try simp at c1
    refine VS_skip (VS_seq (VS_seq (VS_r0 rfl (q_fld_r rfl (q_load_r rfl rfl rfl rfl rfl rfl rfl (q_len_m rfl (q_mv rfl (rg_nil (VS_block ?_)))))))))
    refine VS_bd (Bd.keepL [(3, .ptr 1 0 0), (2, .pv (.bool false)), (23, .pv (i64 t.ps.length)), (24, .pv (i64 0))] ⟨rfl, rfl, rfl, rfl, trivial⟩ ?_)
    refine VS_loop (fun mz E S => ∃ m : Nat, mz = t.ps.length - m ∧ (m ≤ t.ps.length) ∧ (∀ q, q < m → s2 q = true) ∧ E = env [(3, .ptr 1 0 0), (2, .pv (.bool false)), (23, .pv (i64 t.ps.length)), (24, .pv (i64 m))] ∧ S = [some ⟨39, 2, [.pv (ptP t)]⟩, some (chk 67 t s2 l2)]) ⟨_, 0, rfl, (by omega), (by omega), rfl, rfl⟩ ?_
    rintro mz _ _ ⟨m, hmeas, g0, g1, rfl, rfl⟩
    refine VS_seq (VS_r0 rfl (q_lss rfl rfl (rg_nil (VS_seq ?_))))
    refine VS_cond rfl (fun c2 => ?_) (fun c2 => ?_)
    ·try simp at c2
     refine VS_skip (VS_seq (VS_block (VS_seq (VS_r0 rfl (q_mv rfl (q_mv rfl (rg_nil (VS_seq (VS_r0 rfl (q_mv rfl (q_fld_r rfl (q_aidx_r rfl rfl ⟨by omega, by omega⟩ ?_))))))))))))
     refine q_load_r (d := .pv (.bool (s2 m))) rfl rfl rfl rfl rfl ?_ rfl ?_
     ·rw [show 0 + 2 + (m : Int).toNat * 1 = 2 + m by omega]; exact chk_get (by omega)
     refine q_not rfl (rg_nil ?_)
     refine VS_cond rfl (fun c3 => ?_) (fun c3 => ?_)
     ·try simp at c3
      refine VS_seq (VS_r0 rfl (q_mv rfl (rg_nil (VS_ret ?_))))
      have hv := Classical.choose_spec (hvt (by simpa using c1))
      refine Bd.now ⟨_, rfl, congrArg PV.bool ?_⟩
      exact (Bool.eq_false_iff.2 fun hc => by have := (valid_vis hn hv.1).1 hc m (by omega); rw [← hv.2.1] at this; rw [this] at c3; cases c3).symm
     ·try simp at c3
      refine VS_skip (VS_r0 rfl (q_add rfl rfl (inR64 (by omega)) (q_mv rfl (rg_nil ?_))))
      refine Bd.keepL [(3, .ptr 1 0 0), (2, .pv (.bool false)), (23, .pv (i64 t.ps.length)), (24, .pv (i64 (m + 1)))] ⟨rfl, rfl, rfl, rfl, trivial⟩ ⟨_, ?_, m + 1, rfl, ?_, ?_, rfl, rfl⟩
      ·omega
      ·omega
      ·intro q hq
       by_cases e : q = m
       ·subst e; simpa using c3
       ·exact g1 q (by omega)
    ·try simp at c2
     refine VS_exit (VS_seq (VS_r0 rfl (q_mv rfl (rg_nil (VS_ret ?_)))))
     have hv := Classical.choose_spec (hvt (by simpa using c1))
     refine Bd.now ⟨_, rfl, congrArg PV.bool ?_⟩
     exact ((valid_vis hn hv.1).2 fun q hq => by rw [← hv.2.1]; exact g1 q (by omega)).symm
 ·try simp at g9
  refine q_f rfl (q_f rfl (q_f rfl (q_f rfl (q_pick_t rfl rfl (rg_nil ?_)))))
  refine VS_cond rfl (fun _ => ?_) (fun e => by cases e)
  refine VS_seq (VS_r0 rfl (q_mv rfl (rg_nil (VS_ret ?_))))
  refine Bd.now ⟨_, rfl, congrArg PV.bool ?_⟩
  exact (Bool.eq_false_iff.2 fun hc => by have := (valid_iff.1 hc).1; omega).symm
end Go.V

set_option maxHeartbeats 4000000
namespace Go.V
open Go.Proofs.Try (prog)
theorem zbb (os : List Nat) : ∀ i, i < 0 → os[i]? = some i := fun i hi => absurd hi (Nat.not_lt_zero i)
set_option maxRecDepth 100000
theorem sl_spec_heightOf : slimF prog 84 = some (38, (.seq (.reg 0 (.o 1 (.box 39 2 (.t 0)) (.o 2 (.mv (.c (.pv (.int .i64 0)))) .nil))) (.seq (.reg 0 (.o 3 (.mv (.c (.pv (.int .i64 1)))) .nil)) (.seq (.reg 0 (.o 5 (.fld 0 1 false (.t 1)) (.o 6 (.load 1 false (.t 5)) (.o 4 (.mv (.t 6)) .nil)))) (.seq (.block 0 (.loop (.seq (.seq (.reg 0 (.o 7 (.mv (.t 3)) (.o 8 (.bin .leq (.t 7) (.c (.pv (.int .i64 3)))) (.o 9 (.mv (.t 8)) (.g 10 9 true (.mv (.t 4)) (.g 11 9 true (.fld 1 1 false (.t 1)) (.g 12 9 true (.load 1 false (.t 11)) (.g 13 9 true (.len (.t 12)) (.g 14 9 true (.bin .sub (.t 13) (.c (.pv (.int .i64 1)))) (.g 15 9 true (.call 50 [.t 10, .c (.pv (.int .i64 0)), .t 14]) (.o 16 (.pick (.t 9) (.t 15) (.c (.pv (.bool false)))) (.o 17 (.mv (.t 16)) (.g 18 17 true (.fld 1 1 false (.t 1)) (.g 19 17 true (.load 1 false (.t 18)) (.g 20 17 true (.mv (.t 4)) (.g 21 17 true (.idx 3 (.t 19) (.t 20)) (.g 22 17 true (.fld 1 1 false (.t 21)) (.g 23 17 true (.load 1 false (.t 22)) (.g 24 17 true (.len (.t 23)) (.g 25 17 true (.bin .gtr (.t 24) (.c (.pv (.int .i64 0)))) (.o 26 (.pick (.t 17) (.t 25) (.c (.pv (.bool false)))) .nil))))))))))))))))))))) (.cond (.t 26) .skip (.exit 0))) (.block 1 (.seq (.reg 0 (.o 27 (.fld 1 1 false (.t 1)) (.o 28 (.load 1 false (.t 27)) (.o 29 (.mv (.t 4)) (.o 30 (.idx 3 (.t 28) (.t 29)) (.o 31 (.fld 1 1 false (.t 30)) (.o 32 (.load 1 false (.t 31)) (.o 33 (.idx 1 (.t 32) (.c (.pv (.int .i64 0)))) (.o 34 (.load 1 false (.t 33)) (.o 4 (.mv (.t 34)) .nil)))))))))) (.reg 0 (.o 35 (.mv (.t 3)) (.o 36 (.bin .add (.t 35) (.c (.pv (.int .i64 1)))) (.o 3 (.mv (.t 36)) .nil))))))))) (.seq (.reg 0 (.o 37 (.mv (.t 3)) (.o 2 (.mv (.t 37)) .nil))) .ret)))), [.t 2])) := by kernel_rfl
theorem c_spec_heightOf (t : Pt) (hs : smallT t) : PCon prog 84 [ptP t] (fun p => p = i64 (hgtT t)) := by
 have hsl := hs.1
 refine con_of_VS sl_spec_heightOf (by simp) (VS_seq (VS_r0 rfl (q_box rfl rfl rfl trivial (q_mv rfl (rg_nil (VS_seq (VS_r0 rfl (q_mv rfl (rg_nil (VS_seq (VS_r0 rfl (q_fld_r rfl (q_load_r rfl rfl rfl rfl rfl rfl rfl (q_mv rfl (rg_nil ?_)))))))))))))))
 refine VS_seq (VS_block ?_)
 refine VS_bd (Bd.keepL [(1, .ptr 0 0 0), (3, .pv (i64 1)), (4, .pv (i64 (t.r)))] ⟨rfl, rfl, rfl, trivial⟩ ?_)
 refine VS_loop (fun mz E S => ∃ n : Nat, ∃ i : Int, mz = 4 - n ∧ (1 ≤ n ∧ n ≤ 4) ∧ (hgtT t = n + hgtG t (4 - n) i) ∧ E = env [(1, .ptr 0 0 0), (3, .pv (i64 n)), (4, .pv (i64 i))] ∧ S = [some ⟨39, 2, [.pv (ptP t)]⟩]) ⟨_, 1, t.r, rfl, (by omega), (by rw [hgtT]; show _ = 1 + hgtG t 3 t.r; omega), rfl, rfl⟩ ?_
 rintro mz _ _ ⟨n, i, hmeas, g0, g1, rfl, rfl⟩
 refine VS_seq (VS_seq (VS_r0 rfl (q_mv rfl (q_leq rfl rfl (q_mv rfl ?_)))))
 refine q_b rfl (fun g9 => ?_) (fun g9 => ?_)
 ·try simp at g9
  refine q_t rfl (q_mv rfl (q_t rfl (q_fld_r rfl (q_t rfl (q_load_r rfl rfl rfl rfl rfl rfl rfl (q_t rfl (q_len_m rfl (q_t rfl (q_sub rfl rfl (inR64 (by omega)) (q_t rfl (q_callp (c_spec_inRange _ _ _) rfl trivial (q_pick_t rfl rfl (q_mv rfl ?_)))))))))))))
  refine q_b rfl (fun g17 => ?_) (fun g17 => ?_)
  ·try simp at g17
   refine q_t rfl (q_fld_r rfl (q_t rfl (q_load_r rfl rfl rfl rfl rfl rfl rfl (q_t rfl (q_mv rfl (q_t rfl (q_idx_m (f := pgP) (xs := t.ps) (n := i) rfl rfl (by omega) (by omega) (fun _ => rfl) (q_t rfl (q_fld_c rfl rfl (q_t rfl (q_load_c rfl rfl rfl (q_t rfl (q_len_m rfl (q_t rfl (q_gtr rfl rfl ?_)))))))))))))))
   refine q_pick_t rfl rfl (rg_nil ?_)
   refine VS_cond rfl (fun c0 => ?_) (fun c0 => ?_)
   ·try simp at c0
    have hin : 0 ≤ i ∧ i < t.ps.length := by omega
    have hcs : 0 < (nth t.ps i.toNat).cs.length := by simp_all
    have hst : (inT t i && decide (0 < (pg t i).cs.length)) = true := by rw [inT_iff.2 hin, decide_eq_true hcs]; rfl
    have hsz := hs.2 i hin.1 hin.2
    refine VS_skip (VS_block (VS_seq (VS_r0 rfl (q_fld_r rfl (q_load_r rfl rfl rfl rfl rfl rfl rfl (q_mv rfl (q_idx_m (f := pgP) (xs := t.ps) (n := i) rfl rfl (by omega) (by omega) (fun _ => rfl) (q_fld_c rfl rfl (q_load_c rfl rfl rfl (q_idx_m (f := fun k => i64 k) (xs := (nth t.ps i.toNat).cs) (n := 0) rfl rfl (by omega) (by omega) (fun _ => rfl) (q_load_c rfl rfl rfl (q_mv rfl (rg_nil (VS_r0 rfl (q_mv rfl ?_)))))))))))))))
    refine q_add rfl rfl (inR64 (by omega)) (q_mv rfl (rg_nil ?_))
    refine Bd.keepL [(1, .ptr 0 0 0), (3, .pv (i64 (n + 1))), (4, .pv (i64 (nth (nth t.ps i.toNat).cs 0)))] ⟨rfl, rfl, rfl, trivial⟩ ⟨_, ?_, n + 1, nth (nth t.ps i.toNat).cs 0, rfl, ?_, ?_, rfl, rfl⟩
    ·omega
    ·omega
    ·obtain ⟨f, hf⟩ : ∃ f, 4 - n = f + 1 := ⟨3 - n, by omega⟩
     rw [g1, hf, hgtG, if_pos hst, show 4 - (n + 1) = f by omega]
     show n + (hgtG t f (nth (nth t.ps i.toNat).cs 0) + 1) = n + 1 + hgtG t f (nth (nth t.ps i.toNat).cs 0)
     omega
   ·try simp at c0
    refine VS_exit (VS_seq (VS_r0 rfl (q_mv rfl (q_mv rfl (rg_nil (VS_ret ?_))))))
    refine Bd.now ⟨_, rfl, congrArg (fun n : Nat => i64 n) ?_⟩
    have hz : hgtG t (4 - n) i = 0 := by
     by_cases h4 : n = 4
     ·subst h4; rfl
     ·obtain ⟨f, hf⟩ : ∃ f, 4 - n = f + 1 := ⟨3 - n, by omega⟩
      rw [hf, hgtG, if_neg]
      intro hc
      simp only [Bool.and_eq_true, inT_iff, decide_eq_true_eq] at hc
      have h1 := hc.1
      have h2 := hc.2
      (simp_all; done)
    omega
  ·try simp at g17
   refine q_f rfl (q_f rfl (q_f rfl (q_f rfl (q_f rfl (q_f rfl (q_f rfl (q_f rfl (q_pick_f rfl rfl (rg_nil ?_)))))))))
   refine VS_cond rfl (fun e => by cases e) (fun _ => ?_)
   refine VS_exit (VS_seq (VS_r0 rfl (q_mv rfl (q_mv rfl (rg_nil (VS_ret ?_))))))
   refine Bd.now ⟨_, rfl, congrArg (fun n : Nat => i64 n) ?_⟩
   have hz : hgtG t (4 - n) i = 0 := by
    by_cases h4 : n = 4
    ·subst h4; rfl
    ·obtain ⟨f, hf⟩ : ∃ f, 4 - n = f + 1 := ⟨3 - n, by omega⟩
     rw [hf, hgtG, if_neg]
     intro hc
     simp only [Bool.and_eq_true, inT_iff, decide_eq_true_eq] at hc
     have h1 := hc.1
     have h2 := hc.2
     omega
   omega
 ·try simp at g9
  refine q_f rfl (q_f rfl (q_f rfl (q_f rfl (q_f rfl (q_f rfl (q_pick_f rfl rfl (q_mv rfl (q_f rfl (q_f rfl (q_f rfl (q_f rfl (q_f rfl (q_f rfl (q_f rfl (q_f rfl ?_)))))))))))))))
  refine q_pick_f rfl rfl (rg_nil ?_)
  refine VS_cond rfl (fun e => by cases e) (fun _ => ?_)
  refine VS_exit (VS_seq (VS_r0 rfl (q_mv rfl (q_mv rfl (rg_nil (VS_ret ?_))))))
  refine Bd.now ⟨_, rfl, congrArg (fun n : Nat => i64 n) ?_⟩
  have hz : hgtG t (4 - n) i = 0 := by
   by_cases h4 : n = 4
   ·subst h4; rfl
   ·obtain ⟨f, hf⟩ : ∃ f, 4 - n = f + 1 := ⟨3 - n, by omega⟩
    rw [hf, hgtG, if_neg]
    intro hc
    simp only [Bool.and_eq_true, inT_iff, decide_eq_true_eq] at hc
    have h1 := hc.1
    have h2 := hc.2
    omega
  omega
theorem sl_spec_pageFits : slimF prog 85 = some (140, (.seq (.reg 0 (.o 5 (.box 39 2 (.t 0)) (.o 10 (.mv (.c (.pv (.bool false)))) .nil))) (.seq (.reg 0 (.o 15 (.fld 1 1 false (.t 5)) (.o 16 (.load 1 false (.t 15)) (.o 17 (.mv (.t 1)) (.o 18 (.idx 3 (.t 16) (.t 17)) (.o 19 (.load 3 true (.t 18)) (.o 11 (.alloc 25 3 (.agg [.nils, .nils, .nils])) (.op ⟨none, none, .store 3 (.t 11) (.t 19)⟩ .nil)))))))) (.seq (.seq (.reg 0 (.o 20 (.fld 0 1 false (.t 11)) (.o 21 (.load 1 false (.t 20)) (.o 22 (.call 69 [.t 21]) (.o 23 (.not (.t 22)) (.o 24 (.mv (.t 23)) (.g 25 24 false (.fld 0 1 false (.t 11)) (.g 26 24 false (.load 1 false (.t 25)) (.g 27 24 false (.len (.t 26)) (.g 28 24 false (.bin .gtr (.t 27) (.c (.pv (.int .i64 4)))) (.o 29 (.pick (.t 24) (.c (.pv (.bool true))) (.t 28)) (.o 30 (.mv (.t 29)) (.g 31 30 false (.fld 0 1 false (.t 11)) (.g 32 30 false (.load 1 false (.t 31)) (.g 33 30 false (.mv (.t 2)) (.g 34 30 false (.mv (.t 3)) (.g 35 30 false (.call 70 [.t 32, .t 33, .t 34]) (.g 36 30 false (.not (.t 35)) (.o 37 (.pick (.t 30) (.c (.pv (.bool true))) (.t 36)) (.o 38 (.mv (.t 37)) (.g 39 38 false (.mv (.t 1)) (.g 40 38 false (.fld 0 1 false (.t 5)) (.g 41 38 false (.load 1 false (.t 40)) (.g 42 38 false (.bin .neq (.t 39) (.t 41)) (.g 43 38 false (.mv (.t 42)) (.g 44 43 true (.fld 0 1 false (.t 11)) (.g 45 43 true (.load 1 false (.t 44)) (.g 46 43 true (.len (.t 45)) (.g 47 43 true (.bin .lss (.t 46) (.c (.pv (.int .i64 2)))) (.g 48 38 false (.pick (.t 43) (.t 47) (.c (.pv (.bool false)))) (.o 49 (.pick (.t 38) (.c (.pv (.bool true))) (.t 48)) .nil))))))))))))))))))))))))))))))) (.cond (.t 49) (.seq (.reg 0 (.o 10 (.mv (.c (.pv (.bool false)))) .nil)) .ret) .skip)) (.seq (.seq (.reg 0 (.o 50 (.mv (.t 4)) (.o 51 (.bin .eql (.t 50) (.c (.pv (.int .i64 1)))) .nil))) (.cond (.t 51) (.seq (.reg 0 (.o 52 (.fld 1 1 false (.t 11)) (.o 53 (.load 1 false (.t 52)) (.o 54 (.len (.t 53)) (.o 55 (.bin .eql (.t 54) (.c (.pv (.int .i64 0)))) (.o 56 (.mv (.t 55)) (.g 57 56 true (.fld 2 1 false (.t 11)) (.g 58 56 true (.load 1 false (.t 57)) (.g 59 56 true (.len (.t 58)) (.g 60 56 true (.fld 0 1 false (.t 11)) (.g 61 56 true (.load 1 false (.t 60)) (.g 62 56 true (.len (.t 61)) (.g 63 56 true (.bin .eql (.t 59) (.t 62)) (.o 64 (.pick (.t 56) (.t 63) (.c (.pv (.bool false)))) (.o 65 (.mv (.t 64)) (.g 66 65 true (.fld 2 1 false (.t 11)) (.g 67 65 true (.load 1 false (.t 66)) (.g 68 65 true (.call 70 [.t 67, .c (.pv (.int .i64 (-1000))), .c (.pv (.int .i64 1000))]) (.o 69 (.pick (.t 65) (.t 68) (.c (.pv (.bool false)))) (.o 10 (.mv (.t 69)) .nil)))))))))))))))))))) .ret) .skip)) (.seq (.seq (.reg 0 (.o 70 (.fld 0 1 false (.t 11)) (.o 71 (.load 1 false (.t 70)) (.o 72 (.len (.t 71)) (.o 73 (.bin .eql (.t 72) (.c (.pv (.int .i64 0)))) (.o 74 (.mv (.t 73)) (.g 75 74 false (.fld 2 1 false (.t 11)) (.g 76 74 false (.load 1 false (.t 75)) (.g 77 74 false (.len (.t 76)) (.g 78 74 false (.bin .neq (.t 77) (.c (.pv (.int .i64 0)))) (.o 79 (.pick (.t 74) (.c (.pv (.bool true))) (.t 78)) (.o 80 (.mv (.t 79)) (.g 81 80 false (.fld 1 1 false (.t 11)) (.g 82 80 false (.load 1 false (.t 81)) (.g 83 80 false (.len (.t 82)) (.g 84 80 false (.fld 0 1 false (.t 11)) (.g 85 80 false (.load 1 false (.t 84)) (.g 86 80 false (.len (.t 85)) (.g 87 80 false (.bin .add (.t 86) (.c (.pv (.int .i64 1)))) (.g 88 80 false (.bin .neq (.t 83) (.t 87)) (.o 89 (.pick (.t 80) (.c (.pv (.bool true))) (.t 88)) (.o 90 (.mv (.t 89)) (.g 91 90 false (.fld 1 1 false (.t 11)) (.g 92 90 false (.load 1 false (.t 91)) (.g 93 90 false (.fld 1 1 false (.t 5)) (.g 94 90 false (.load 1 false (.t 93)) (.g 95 90 false (.len (.t 94)) (.g 96 90 false (.bin .sub (.t 95) (.c (.pv (.int .i64 1)))) (.g 97 90 false (.call 70 [.t 92, .c (.pv (.int .i64 0)), .t 96]) (.g 98 90 false (.not (.t 97)) (.o 99 (.pick (.t 90) (.c (.pv (.bool true))) (.t 98)) .nil))))))))))))))))))))))))))))))) (.cond (.t 99) (.seq (.reg 0 (.o 10 (.mv (.c (.pv (.bool false)))) .nil)) .ret) .skip)) (.seq (.seq (.reg 0 (.o 12 (.mv (.c (.pv (.int .i64 0)))) .nil)) (.block 0 (.loop (.seq (.seq (.reg 0 (.o 100 (.mv (.t 12)) (.o 101 (.fld 1 1 false (.t 11)) (.o 102 (.load 1 false (.t 101)) (.o 103 (.len (.t 102)) (.o 104 (.bin .lss (.t 100) (.t 103)) .nil)))))) (.cond (.t 104) .skip (.exit 0))) (.seq (.block 1 (.seq (.reg 0 (.o 107 (.mv (.t 2)) (.o 13 (.mv (.t 107)) .nil))) (.seq (.reg 0 (.o 108 (.mv (.t 3)) (.o 14 (.mv (.t 108)) .nil))) (.seq (.seq (.reg 0 (.o 109 (.mv (.t 12)) (.o 110 (.bin .gtr (.t 109) (.c (.pv (.int .i64 0)))) .nil))) (.cond (.t 110) (.reg 0 (.o 111 (.fld 0 1 false (.t 11)) (.o 112 (.load 1 false (.t 111)) (.o 113 (.mv (.t 12)) (.o 114 (.bin .sub (.t 113) (.c (.pv (.int .i64 1)))) (.o 115 (.idx 1 (.t 112) (.t 114)) (.o 116 (.load 1 false (.t 115)) (.o 13 (.mv (.t 116)) .nil)))))))) .skip)) (.seq (.seq (.reg 0 (.o 117 (.mv (.t 12)) (.o 118 (.fld 0 1 false (.t 11)) (.o 119 (.load 1 false (.t 118)) (.o 120 (.len (.t 119)) (.o 121 (.bin .lss (.t 117) (.t 120)) .nil)))))) (.cond (.t 121) (.reg 0 (.o 122 (.fld 0 1 false (.t 11)) (.o 123 (.load 1 false (.t 122)) (.o 124 (.mv (.t 12)) (.o 125 (.idx 1 (.t 123) (.t 124)) (.o 126 (.load 1 false (.t 125)) (.o 127 (.bin .sub (.t 126) (.c (.pv (.int .i64 1)))) (.o 14 (.mv (.t 127)) .nil)))))))) .skip)) (.seq (.reg 2 (.o 128 (.load 2 true (.t 5)) (.o 129 (.fld 1 1 false (.t 11)) (.o 130 (.load 1 false (.t 129)) (.o 131 (.mv (.t 12)) (.o 132 (.idx 1 (.t 130) (.t 131)) (.o 133 (.load 1 false (.t 132)) (.o 134 (.mv (.t 13)) (.o 135 (.mv (.t 14)) (.o 136 (.mv (.t 4)) (.o 137 (.bin .sub (.t 136) (.c (.pv (.int .i64 1)))) (.o 138 (.call 85 [.t 128, .t 133, .t 134, .t 135, .t 137]) (.o 139 (.not (.t 138)) .nil))))))))))))) (.cond (.t 139) (.seq (.reg 0 (.o 10 (.mv (.c (.pv (.bool false)))) .nil)) .ret) .skip))))))) (.reg 0 (.o 105 (.mv (.t 12)) (.o 106 (.bin .add (.t 105) (.c (.pv (.int .i64 1)))) (.o 12 (.mv (.t 106)) .nil))))))))) (.seq (.reg 0 (.o 10 (.mv (.c (.pv (.bool true)))) .nil)) .ret)))))), [.t 10])) := by kernel_rfl
theorem c_spec_pageFits_step (t : Pt) (hs : smallT t) (hn : t.ps.length ≤ 16) (i lo hi : Int) (h : Nat) (h1 : 1 ≤ h) (h3 : h ≤ 3) (hin : inT t i = true) (hlo : -1000000 ≤ lo ∧ hi ≤ 1000000) (ih : ∀ (i lo hi : Int), 1 < h → inT t i = true → -1000000 ≤ lo ∧ hi ≤ 1000000 → PCon prog 85 [ptP t, i64 i, i64 lo, i64 hi, i64 ((h - 1 : Nat) : Int)] (fun p => p = .bool (okT t (h - 1) i lo (hi + 1)))) : PCon prog 85 [ptP t, i64 i, i64 lo, i64 hi, i64 h] (fun p => p = .bool (okT t h i lo (hi + 1))) := by
 have hi2 := inT_iff.1 hin
 have hsz := hs.2 i hi2.1 hi2.2
 obtain ⟨p, hp⟩ : ∃ p, nth t.ps i.toNat = p := ⟨_, rfl⟩
 have hpp : pg t i = p := hp
 rw [hpp] at hsz
 refine con_of_VS sl_spec_pageFits (by simp) (VS_seq (VS_r0 rfl (q_box rfl rfl rfl trivial (q_mv rfl (rg_nil (VS_seq (VS_r0 rfl (q_fld_r rfl (q_load_r rfl rfl rfl rfl rfl rfl rfl (q_mv rfl (q_idx_m (f := pgP) (xs := t.ps) (n := i) rfl rfl (by omega) (by omega) (fun _ => rfl) ?_)))))))))))
 rw [hp]
 refine q_load_c rfl rfl rfl (q_alloc trivial (q_store rfl rfl rfl rfl rfl rfl ⟨rfl, rfl, by simp, rfl, by simp [isOne]⟩ rfl trivial (rg_nil (VS_seq (VS_seq (VS_r0 rfl (q_fld_r rfl (q_load_r rfl rfl rfl rfl rfl rfl rfl (q_callp (c_spec_validKeys p.ks (by omega)) rfl trivial (q_not rfl (q_mv rfl ?_)))))))))))
 refine q_b rfl (fun g24 => ?_) (fun g24 => ?_)
 ·try simp only [decide_eq_true_eq, decide_eq_false_iff_not, Bool.not_eq_true', Bool.not_eq_false', Bool.not_eq_eq_eq_not, Bool.not_true, Bool.not_false] at g24
  refine q_t rfl (q_fld_r rfl (q_t rfl (q_load_r rfl rfl rfl rfl rfl rfl rfl (q_t rfl (q_len_m rfl (q_t rfl (q_gtr rfl rfl (q_pick_f rfl rfl (q_mv rfl ?_)))))))))
  refine q_b rfl (fun g30 => ?_) (fun g30 => ?_)
  ·try simp only [decide_eq_true_eq, decide_eq_false_iff_not, Bool.not_eq_true', Bool.not_eq_false', Bool.not_eq_eq_eq_not, Bool.not_true, Bool.not_false] at g30
   refine q_t rfl (q_fld_r rfl (q_t rfl (q_load_r rfl rfl rfl rfl rfl rfl rfl (q_t rfl (q_mv rfl (q_t rfl (q_mv rfl (q_t rfl (q_callp (c_spec_allIn p.ks lo hi (by omega)) rfl trivial (q_t rfl (q_not rfl (q_pick_f rfl rfl (q_mv rfl ?_)))))))))))))
   refine q_b rfl (fun g38 => ?_) (fun g38 => ?_)
   ·try simp only [decide_eq_true_eq, decide_eq_false_iff_not, Bool.not_eq_true', Bool.not_eq_false', Bool.not_eq_eq_eq_not, Bool.not_true, Bool.not_false] at g38
    refine q_t rfl (q_mv rfl (q_t rfl (q_fld_r rfl (q_t rfl (q_load_r rfl rfl rfl rfl rfl rfl rfl (q_t rfl (q_neq rfl rfl (q_t rfl (q_mv rfl ?_)))))))))
    refine q_b rfl (fun g43 => ?_) (fun g43 => ?_)
    ·try simp only [decide_eq_true_eq, decide_eq_false_iff_not, Bool.not_eq_true', Bool.not_eq_false', Bool.not_eq_eq_eq_not, Bool.not_true, Bool.not_false] at g43
     refine q_t rfl (q_fld_r rfl (q_t rfl (q_load_r rfl rfl rfl rfl rfl rfl rfl (q_t rfl (q_len_m rfl (q_t rfl (q_lss rfl rfl (q_t rfl (q_pick_t rfl rfl (q_pick_f rfl rfl (rg_nil ?_)))))))))))
     refine VS_cond rfl (fun c0 => ?_) (fun c0 => ?_)
     ·try simp only [decide_eq_true_eq, decide_eq_false_iff_not, Bool.not_eq_true', Bool.not_eq_false', Bool.not_eq_eq_eq_not, Bool.not_true, Bool.not_false] at c0
      refine VS_seq (VS_r0 rfl (q_mv rfl (rg_nil (VS_ret ?_))))
      refine Bd.now ⟨_, rfl, congrArg PV.bool ?_⟩
      refine (Bool.eq_false_iff.2 fun hc => ?_).symm
      have h5 := okT_p hpp hc
      rw [keysIn_all] at h5
      have h6 := h5.1.1
      have h7 := h5.1.2
      have h8 := h5.2.1
      have h9 := h5.2.2
      omega
     ·try simp only [decide_eq_true_eq, decide_eq_false_iff_not, Bool.not_eq_true', Bool.not_eq_false', Bool.not_eq_eq_eq_not, Bool.not_true, Bool.not_false] at c0
      refine VS_skip (VS_seq (VS_seq ?_))
      have hgk : p.ks.length ≤ 4 ∧ goodKeys p.ks = true ∧ (i = t.r ∨ 2 ≤ p.ks.length) ∧ keysIn p.ks lo (hi + 1) = true := by rw [keysIn_all]; refine ⟨by omega, by simp_all, by first | exact .inl (by assumption) | exact .inr (by omega), by simp_all⟩
      refine VS_r0 rfl (q_mv rfl (q_eql rfl rfl (rg_nil ?_)))
      refine VS_cond rfl (fun c1 => ?_) (fun c1 => ?_)
      ·try simp only [decide_eq_true_eq, decide_eq_false_iff_not, Bool.not_eq_true', Bool.not_eq_false', Bool.not_eq_eq_eq_not, Bool.not_true, Bool.not_false] at c1
       refine VS_seq (VS_r0 rfl (q_fld_r rfl (q_load_r rfl rfl rfl rfl rfl rfl rfl (q_len_m rfl (q_eql rfl rfl (q_mv rfl ?_))))))
       refine q_b rfl (fun g56 => ?_) (fun g56 => ?_)
       ·try simp only [decide_eq_true_eq, decide_eq_false_iff_not, Bool.not_eq_true', Bool.not_eq_false', Bool.not_eq_eq_eq_not, Bool.not_true, Bool.not_false] at g56
        refine q_t rfl (q_fld_r rfl (q_t rfl (q_load_r rfl rfl rfl rfl rfl rfl rfl (q_t rfl (q_len_m rfl (q_t rfl (q_fld_r rfl (q_t rfl (q_load_r rfl rfl rfl rfl rfl rfl rfl (q_t rfl (q_len_m rfl (q_t rfl (q_eql rfl rfl (q_pick_t rfl rfl (q_mv rfl ?_)))))))))))))))
        refine q_b rfl (fun g65 => ?_) (fun g65 => ?_)
        ·try simp only [decide_eq_true_eq, decide_eq_false_iff_not, Bool.not_eq_true', Bool.not_eq_false', Bool.not_eq_eq_eq_not, Bool.not_true, Bool.not_false] at g65
         refine q_t rfl (q_fld_r rfl (q_t rfl (q_load_r rfl rfl rfl rfl rfl rfl rfl (q_t rfl (q_callp (c_spec_allIn p.vs (-1000) 1000 (by omega)) rfl trivial (q_pick_t rfl rfl (q_mv rfl (rg_nil (VS_ret ?_)))))))))
         refine Bd.now ⟨_, rfl, congrArg PV.bool ?_⟩
         have hh : h = 1 := by omega
         subst hh
         rw [okT_one hpp hin hgk.1 hgk.2.1 hgk.2.2.1 hgk.2.2.2, lfB]
         first
         | (rw [decide_eq_true (show p.cs.length = 0 by omega), decide_eq_true (show p.vs.length = p.ks.length by omega)]; simp [*]; done)
         | (rw [decide_eq_true (show p.cs.length = 0 by omega), decide_eq_true (show p.vs.length = p.ks.length by omega)]; rfl)
         | (rw [decide_eq_true (show p.cs.length = 0 by omega), decide_eq_false (show ¬ p.vs.length = p.ks.length by omega)]; rfl)
         | (rw [decide_eq_false (show ¬ p.cs.length = 0 by omega)]; rfl)
        ·try simp only [decide_eq_true_eq, decide_eq_false_iff_not, Bool.not_eq_true', Bool.not_eq_false', Bool.not_eq_eq_eq_not, Bool.not_true, Bool.not_false] at g65
         refine q_f rfl (q_f rfl (q_f rfl (q_pick_f rfl rfl (q_mv rfl (rg_nil (VS_ret ?_))))))
         refine Bd.now ⟨_, rfl, congrArg PV.bool ?_⟩
         have hh : h = 1 := by omega
         subst hh
         rw [okT_one hpp hin hgk.1 hgk.2.1 hgk.2.2.1 hgk.2.2.2, lfB]
         first
         | (rw [decide_eq_true (show p.cs.length = 0 by omega), decide_eq_true (show p.vs.length = p.ks.length by omega)]; simp [*]; done)
         | (rw [decide_eq_true (show p.cs.length = 0 by omega), decide_eq_true (show p.vs.length = p.ks.length by omega)]; rfl)
         | (rw [decide_eq_true (show p.cs.length = 0 by omega), decide_eq_false (show ¬ p.vs.length = p.ks.length by omega)]; rfl)
         | (rw [decide_eq_false (show ¬ p.cs.length = 0 by omega)]; rfl)
       ·try simp only [decide_eq_true_eq, decide_eq_false_iff_not, Bool.not_eq_true', Bool.not_eq_false', Bool.not_eq_eq_eq_not, Bool.not_true, Bool.not_false] at g56
        refine q_f rfl (q_f rfl (q_f rfl (q_f rfl (q_f rfl (q_f rfl (q_f rfl (q_pick_f rfl rfl (q_mv rfl (q_f rfl (q_f rfl (q_f rfl (q_pick_f rfl rfl (q_mv rfl (rg_nil (VS_ret ?_)))))))))))))))
        refine Bd.now ⟨_, rfl, congrArg PV.bool ?_⟩
        have hh : h = 1 := by omega
        subst hh
        rw [okT_one hpp hin hgk.1 hgk.2.1 hgk.2.2.1 hgk.2.2.2, lfB]
        first
        | (rw [decide_eq_true (show p.cs.length = 0 by omega), decide_eq_true (show p.vs.length = p.ks.length by omega)]; simp [*]; done)
        | (rw [decide_eq_true (show p.cs.length = 0 by omega), decide_eq_true (show p.vs.length = p.ks.length by omega)]; rfl)
        | (rw [decide_eq_true (show p.cs.length = 0 by omega), decide_eq_false (show ¬ p.vs.length = p.ks.length by omega)]; rfl)
        | (rw [decide_eq_false (show ¬ p.cs.length = 0 by omega)]; rfl)
      ·try simp only [decide_eq_true_eq, decide_eq_false_iff_not, Bool.not_eq_true', Bool.not_eq_false', Bool.not_eq_eq_eq_not, Bool.not_true, Bool.not_false] at c1
       refine VS_skip (VS_seq (VS_seq (VS_r0 rfl (q_fld_r rfl (q_load_r rfl rfl rfl rfl rfl rfl rfl (q_len_m rfl (q_eql rfl rfl (q_mv rfl ?_))))))))
       refine q_b rfl (fun g74 => ?_) (fun g74 => ?_)
       ·try simp only [decide_eq_true_eq, decide_eq_false_iff_not, Bool.not_eq_true', Bool.not_eq_false', Bool.not_eq_eq_eq_not, Bool.not_true, Bool.not_false] at g74
        refine q_t rfl (q_fld_r rfl (q_t rfl (q_load_r rfl rfl rfl rfl rfl rfl rfl (q_t rfl (q_len_m rfl (q_t rfl (q_neq rfl rfl (q_pick_f rfl rfl (q_mv rfl ?_)))))))))
        refine q_b rfl (fun g80 => ?_) (fun g80 => ?_)
        ·try simp only [decide_eq_true_eq, decide_eq_false_iff_not, Bool.not_eq_true', Bool.not_eq_false', Bool.not_eq_eq_eq_not, Bool.not_true, Bool.not_false] at g80
         refine q_t rfl (q_fld_r rfl (q_t rfl (q_load_r rfl rfl rfl rfl rfl rfl rfl (q_t rfl (q_len_m rfl (q_t rfl (q_fld_r rfl (q_t rfl (q_load_r rfl rfl rfl rfl rfl rfl rfl (q_t rfl (q_len_m rfl (q_t rfl (q_add rfl rfl (inR64 (by omega)) (q_t rfl (q_neq rfl rfl ?_)))))))))))))))
         refine q_pick_f rfl rfl (q_mv rfl ?_)
         refine q_b rfl (fun g90 => ?_) (fun g90 => ?_)
         ·try simp only [decide_eq_true_eq, decide_eq_false_iff_not, Bool.not_eq_true', Bool.not_eq_false', Bool.not_eq_eq_eq_not, Bool.not_true, Bool.not_false] at g90
          refine q_t rfl (q_fld_r rfl (q_t rfl (q_load_r rfl rfl rfl rfl rfl rfl rfl (q_t rfl (q_fld_r rfl (q_t rfl (q_load_r rfl rfl rfl rfl rfl rfl rfl (q_t rfl (q_len_m rfl (q_t rfl (q_sub rfl rfl (inR64 (by omega)) (q_t rfl (q_callp (c_spec_allIn p.cs 0 ((t.ps.length : Int) - 1) (by omega)) rfl trivial (q_t rfl (q_not rfl ?_)))))))))))))))
          refine q_pick_f rfl rfl (rg_nil ?_)
          refine VS_cond rfl (fun c2 => ?_) (fun c2 => ?_)
          ·try simp only [decide_eq_true_eq, decide_eq_false_iff_not, Bool.not_eq_true', Bool.not_eq_false', Bool.not_eq_eq_eq_not, Bool.not_true, Bool.not_false] at c2
           refine VS_seq (VS_r0 rfl (q_mv rfl (rg_nil (VS_ret ?_))))
           refine Bd.now ⟨_, rfl, congrArg PV.bool ?_⟩
           obtain ⟨h', rfl⟩ : ∃ h', h = h' + 1 := ⟨h - 1, by omega⟩
           refine (Bool.eq_false_iff.2 fun hc => ?_).symm
           have h5 := okT_less hpp (by omega) hc
           have h6 : (p.cs.all fun k => decide (0 ≤ k) && decide (k ≤ (t.ps.length : Int) - 1)) = true := List.all_eq_true.2 fun c hc => by have := inT_iff.1 (h5.2.2.2.1 c hc); simp; omega
           have h7 := h5.1
           have h8 := h5.2.1
           have h9 := h5.2.2.1
           (simp_all; done)
          ·try simp only [decide_eq_true_eq, decide_eq_false_iff_not, Bool.not_eq_true', Bool.not_eq_false', Bool.not_eq_eq_eq_not, Bool.not_true, Bool.not_false] at c2
           have hcl : p.cs.length = p.ks.length + 1 := by omega
           have hk0 : p.ks.length ≠ 0 := by omega
           have hv0 : p.vs.length = 0 := by omega
           have hci : (p.cs.all fun k => decide (0 ≤ k) && decide (k ≤ (t.ps.length : Int) - 1)) = true := by simp_all
           refine VS_skip (VS_seq (VS_seq (VS_r0 rfl (q_mv rfl (rg_nil (VS_block ?_))))))
           refine VS_bd (Bd.keepL [(2, .pv (i64 lo)), (3, .pv (i64 hi)), (4, .pv (i64 h)), (5, .ptr 0 0 0), (10, .pv (.bool false)), (11, .ptr 1 0 0), (12, .pv (i64 0))] ⟨rfl, rfl, rfl, rfl, rfl, rfl, rfl, trivial⟩ ?_)
           refine VS_loop (fun mz E S => ∃ j : Nat, mz = p.cs.length - j ∧ (j ≤ p.cs.length) ∧ (∀ q, q < j → okT t (h - 1) (nth p.cs q) (frK p lo q) (toK p (hi + 1) q) = true) ∧ E = env [(2, .pv (i64 lo)), (3, .pv (i64 hi)), (4, .pv (i64 h)), (5, .ptr 0 0 0), (10, .pv (.bool false)), (11, .ptr 1 0 0), (12, .pv (i64 j))] ∧ S = [some ⟨39, 2, [.pv (ptP t)]⟩, some ⟨25, 3, [.agg [.pv (ints p.ks), .pv (ints p.cs), .pv (ints p.vs)]]⟩]) ⟨_, 0, rfl, (by omega), (by omega), rfl, rfl⟩ ?_
           rintro mz _ _ ⟨j, hmeas, g0, g1, rfl, rfl⟩
           refine VS_seq (VS_seq (VS_r0 rfl (q_mv rfl (q_fld_r rfl (q_load_r rfl rfl rfl rfl rfl rfl rfl (q_len_m rfl (q_lss rfl rfl (rg_nil ?_))))))))
           refine VS_cond rfl (fun c3 => ?_) (fun c3 => ?_)
           ·try simp only [decide_eq_true_eq, decide_eq_false_iff_not, Bool.not_eq_true', Bool.not_eq_false', Bool.not_eq_eq_eq_not, Bool.not_true, Bool.not_false] at c3
            have hkin : inT t (nth p.cs j) = true := by have := List.all_eq_true.1 hci _ (nth_mem (i := j) (by omega)); rw [inT_iff]; simp at this; omega
            refine VS_skip (VS_seq (VS_block (VS_seq (VS_r0 rfl (q_mv rfl (q_mv rfl (rg_nil (VS_seq (VS_r0 rfl (q_mv rfl (q_mv rfl (rg_nil (VS_seq (VS_seq (VS_r0 rfl ?_)))))))))))))))
            refine q_mv rfl (q_gtr rfl rfl (rg_nil ?_))
            refine VS_cond rfl (fun c4 => ?_) (fun c4 => ?_)
            ·try simp only [decide_eq_true_eq, decide_eq_false_iff_not, Bool.not_eq_true', Bool.not_eq_false', Bool.not_eq_eq_eq_not, Bool.not_true, Bool.not_false] at c4
             have hkj := goodKeys_mem hgk.2.1 (j := j - 1) (by omega)
             refine VS_r0 rfl (q_fld_r rfl (q_load_r rfl rfl rfl rfl rfl rfl rfl (q_mv rfl (q_sub_to ((j - 1 : Nat) : Int) rfl rfl (by omega) (inR64 (by omega)) (q_idx_m (f := fun k => i64 k) (xs := p.ks) (n := ((j - 1 : Nat) : Int)) rfl rfl (by omega) (by omega) (fun _ => rfl) (q_load_c rfl rfl rfl (q_mv rfl (rg_nil ?_))))))))
             refine VS_join (fun E S => ∃ a b, (a = frK p lo j ∧ b = toK p (hi + 1) j - 1 ∧ -1000000 ≤ a ∧ b ≤ 1000000) ∧ E = env [(2, .pv (i64 lo)), (3, .pv (i64 hi)), (4, .pv (i64 h)), (5, .ptr 0 0 0), (10, .pv (.bool false)), (11, .ptr 1 0 0), (12, .pv (i64 j)), (13, .pv (i64 a)), (14, .pv (i64 b))] ∧ S = [some ⟨39, 2, [.pv (ptP t)]⟩, some ⟨25, 3, [.agg [.pv (ints p.ks), .pv (ints p.cs), .pv (ints p.vs)]]⟩]) ?_ ?_
             ·skip
              refine VS_seq (VS_r0 rfl (q_mv rfl (q_fld_r rfl (q_load_r rfl rfl rfl rfl rfl rfl rfl (q_len_m rfl (q_lss rfl rfl (rg_nil ?_)))))))
              refine VS_cond rfl (fun c5 => ?_) (fun c5 => ?_)
              ·try simp only [decide_eq_true_eq, decide_eq_false_iff_not, Bool.not_eq_true', Bool.not_eq_false', Bool.not_eq_eq_eq_not, Bool.not_true, Bool.not_false] at c5
               have hkj2 := goodKeys_mem hgk.2.1 (j := j) (by omega)
               refine VS_r0 rfl (q_fld_r rfl (q_load_r rfl rfl rfl rfl rfl rfl rfl (q_mv rfl (q_idx_m (f := fun k => i64 k) (xs := p.ks) (n := (j : Int)) rfl rfl (by omega) (by omega) (fun _ => rfl) (q_load_c rfl rfl rfl (q_sub_to (nth p.ks j - 1) rfl rfl rfl (inR64 (by omega)) (q_mv rfl (rg_nil ?_))))))))
               exact Bd.keepL [(2, .pv (i64 lo)), (3, .pv (i64 hi)), (4, .pv (i64 h)), (5, .ptr 0 0 0), (10, .pv (.bool false)), (11, .ptr 1 0 0), (12, .pv (i64 j)), (13, .pv (i64 (nth p.ks (j - 1)))), (14, .pv (i64 (nth p.ks j - 1)))] ⟨rfl, rfl, rfl, rfl, rfl, rfl, rfl, rfl, rfl, trivial⟩ ⟨_, _, ⟨(by rw [frK, if_neg (by omega)]), (by rw [toK, if_pos (by omega)]; try omega), by omega, by omega⟩, rfl, rfl⟩
              ·try simp only [decide_eq_true_eq, decide_eq_false_iff_not, Bool.not_eq_true', Bool.not_eq_false', Bool.not_eq_eq_eq_not, Bool.not_true, Bool.not_false] at c5
               refine VS_skip ?_
               exact Bd.keepL [(2, .pv (i64 lo)), (3, .pv (i64 hi)), (4, .pv (i64 h)), (5, .ptr 0 0 0), (10, .pv (.bool false)), (11, .ptr 1 0 0), (12, .pv (i64 j)), (13, .pv (i64 (nth p.ks (j - 1)))), (14, .pv (i64 hi))] ⟨rfl, rfl, rfl, rfl, rfl, rfl, rfl, rfl, rfl, trivial⟩ ⟨_, _, ⟨(by rw [frK, if_neg (by omega)]), (by rw [toK, if_neg (by omega)]; try omega), by omega, by omega⟩, rfl, rfl⟩
             ·rintro _ _ ⟨a, b, ⟨ha, hb, hab⟩, rfl, rfl⟩
              refine VS_seq (VS_r2 _ hmix (Sub.refl _) (q_load_ra rfl rfl rfl rfl rfl (by (simp; done)) rfl (q_fld_r rfl (q_load_r rfl rfl rfl rfl rfl rfl rfl (q_mv rfl (q_idx_m (f := fun k => i64 k) (xs := p.cs) (n := (j : Int)) rfl rfl (by omega) (by omega) (fun _ => rfl) (q_load_c rfl rfl rfl (q_mv rfl (q_mv rfl (q_mv rfl (q_sub_to ((h - 1 : Nat) : Int) rfl rfl (by omega) (inR64 (by omega)) (q_callp (ih (nth p.cs j) a b (by omega) hkin (by omega)) rfl (Sub.refl _) (q_not rfl (rg_nil ?_))))))))))))))
              refine VS_cond rfl (fun c6 => ?_) (fun c6 => ?_)
              ·try simp only [decide_eq_true_eq, decide_eq_false_iff_not, Bool.not_eq_true', Bool.not_eq_false', Bool.not_eq_eq_eq_not, Bool.not_true, Bool.not_false] at c6
               refine VS_seq (VS_r0 rfl (q_mv rfl (rg_nil (VS_ret ?_))))
               refine Bd.now ⟨_, rfl, congrArg PV.bool ?_⟩
               obtain ⟨h', rfl⟩ : ∃ h', h = h' + 1 := ⟨h - 1, by omega⟩
               refine (Bool.eq_false_iff.2 fun hc => ?_).symm
               have h5 := (okT_less hpp (by omega) hc).2.2.2.2 j (by omega)
               have c6b : okT t h' (nth p.cs j) a (b + 1) = false := by simpa using c6
               rw [ha, hb, Int.sub_add_cancel, h5] at c6b
               cases c6b
              ·try simp only [decide_eq_true_eq, decide_eq_false_iff_not, Bool.not_eq_true', Bool.not_eq_false', Bool.not_eq_eq_eq_not, Bool.not_true, Bool.not_false] at c6
               refine VS_skip (VS_r0 rfl (q_mv rfl (q_add rfl rfl (inR64 (by omega)) (q_mv rfl (rg_nil ?_)))))
               refine Bd.keepL [(2, .pv (i64 lo)), (3, .pv (i64 hi)), (4, .pv (i64 h)), (5, .ptr 0 0 0), (10, .pv (.bool false)), (11, .ptr 1 0 0), (12, .pv (i64 (j + 1)))] ⟨rfl, rfl, rfl, rfl, rfl, rfl, rfl, trivial⟩ ⟨_, ?_, j + 1, rfl, ?_, ?_, rfl, rfl⟩
               ·omega
               ·omega
               ·intro q hq
                by_cases e : q = j
                ·subst e
                 have c6b : okT t (h - 1) (nth p.cs q) a (b + 1) = true := by simpa using c6
                 rw [ha, hb, Int.sub_add_cancel] at c6b
                 exact c6b
                ·exact g1 q (by omega)
            ·try simp only [decide_eq_true_eq, decide_eq_false_iff_not, Bool.not_eq_true', Bool.not_eq_false', Bool.not_eq_eq_eq_not, Bool.not_true, Bool.not_false] at c4
             refine VS_skip ?_
             refine VS_join (fun E S => ∃ a b, (a = frK p lo j ∧ b = toK p (hi + 1) j - 1 ∧ -1000000 ≤ a ∧ b ≤ 1000000) ∧ E = env [(2, .pv (i64 lo)), (3, .pv (i64 hi)), (4, .pv (i64 h)), (5, .ptr 0 0 0), (10, .pv (.bool false)), (11, .ptr 1 0 0), (12, .pv (i64 j)), (13, .pv (i64 a)), (14, .pv (i64 b))] ∧ S = [some ⟨39, 2, [.pv (ptP t)]⟩, some ⟨25, 3, [.agg [.pv (ints p.ks), .pv (ints p.cs), .pv (ints p.vs)]]⟩]) ?_ ?_
             ·skip
              refine VS_seq (VS_r0 rfl (q_mv rfl (q_fld_r rfl (q_load_r rfl rfl rfl rfl rfl rfl rfl (q_len_m rfl (q_lss rfl rfl (rg_nil ?_)))))))
              refine VS_cond rfl (fun c5 => ?_) (fun c5 => ?_)
              ·try simp only [decide_eq_true_eq, decide_eq_false_iff_not, Bool.not_eq_true', Bool.not_eq_false', Bool.not_eq_eq_eq_not, Bool.not_true, Bool.not_false] at c5
               have hkj2 := goodKeys_mem hgk.2.1 (j := j) (by omega)
               refine VS_r0 rfl (q_fld_r rfl (q_load_r rfl rfl rfl rfl rfl rfl rfl (q_mv rfl (q_idx_m (f := fun k => i64 k) (xs := p.ks) (n := (j : Int)) rfl rfl (by omega) (by omega) (fun _ => rfl) (q_load_c rfl rfl rfl (q_sub_to (nth p.ks j - 1) rfl rfl rfl (inR64 (by omega)) (q_mv rfl (rg_nil ?_))))))))
               exact Bd.keepL [(2, .pv (i64 lo)), (3, .pv (i64 hi)), (4, .pv (i64 h)), (5, .ptr 0 0 0), (10, .pv (.bool false)), (11, .ptr 1 0 0), (12, .pv (i64 j)), (13, .pv (i64 lo)), (14, .pv (i64 (nth p.ks j - 1)))] ⟨rfl, rfl, rfl, rfl, rfl, rfl, rfl, rfl, rfl, trivial⟩ ⟨_, _, ⟨(by rw [frK, if_pos (by omega)]), (by rw [toK, if_pos (by omega)]; try omega), by omega, by omega⟩, rfl, rfl⟩
              ·try simp only [decide_eq_true_eq, decide_eq_false_iff_not, Bool.not_eq_true', Bool.not_eq_false', Bool.not_eq_eq_eq_not, Bool.not_true, Bool.not_false] at c5
               refine VS_skip ?_
               exact Bd.keepL [(2, .pv (i64 lo)), (3, .pv (i64 hi)), (4, .pv (i64 h)), (5, .ptr 0 0 0), (10, .pv (.bool false)), (11, .ptr 1 0 0), (12, .pv (i64 j)), (13, .pv (i64 lo)), (14, .pv (i64 hi))] ⟨rfl, rfl, rfl, rfl, rfl, rfl, rfl, rfl, rfl, trivial⟩ ⟨_, _, ⟨(by rw [frK, if_pos (by omega)]), (by rw [toK, if_neg (by omega)]; try omega), by omega, by omega⟩, rfl, rfl⟩
             ·rintro _ _ ⟨a, b, ⟨ha, hb, hab⟩, rfl, rfl⟩
              refine VS_seq (VS_r2 _ hmix (Sub.refl _) (q_load_ra rfl rfl rfl rfl rfl (by (simp; done)) rfl (q_fld_r rfl (q_load_r rfl rfl rfl rfl rfl rfl rfl (q_mv rfl (q_idx_m (f := fun k => i64 k) (xs := p.cs) (n := (j : Int)) rfl rfl (by omega) (by omega) (fun _ => rfl) (q_load_c rfl rfl rfl (q_mv rfl (q_mv rfl (q_mv rfl (q_sub_to ((h - 1 : Nat) : Int) rfl rfl (by omega) (inR64 (by omega)) (q_callp (ih (nth p.cs j) a b (by omega) hkin (by omega)) rfl (Sub.refl _) (q_not rfl (rg_nil ?_))))))))))))))
              refine VS_cond rfl (fun c6 => ?_) (fun c6 => ?_)
              ·try simp only [decide_eq_true_eq, decide_eq_false_iff_not, Bool.not_eq_true', Bool.not_eq_false', Bool.not_eq_eq_eq_not, Bool.not_true, Bool.not_false] at c6
               refine VS_seq (VS_r0 rfl (q_mv rfl (rg_nil (VS_ret ?_))))
               refine Bd.now ⟨_, rfl, congrArg PV.bool ?_⟩
               obtain ⟨h', rfl⟩ : ∃ h', h = h' + 1 := ⟨h - 1, by omega⟩
               refine (Bool.eq_false_iff.2 fun hc => ?_).symm
               have h5 := (okT_less hpp (by omega) hc).2.2.2.2 j (by omega)
               have c6b : okT t h' (nth p.cs j) a (b + 1) = false := by simpa using c6
               rw [ha, hb, Int.sub_add_cancel, h5] at c6b
               cases c6b
              ·try simp only [decide_eq_true_eq, decide_eq_false_iff_not, Bool.not_eq_true', Bool.not_eq_false', Bool.not_eq_eq_eq_not, Bool.not_true, Bool.not_false] at c6
               refine VS_skip (VS_r0 rfl (q_mv rfl (q_add rfl rfl (inR64 (by omega)) (q_mv rfl (rg_nil ?_)))))
               refine Bd.keepL [(2, .pv (i64 lo)), (3, .pv (i64 hi)), (4, .pv (i64 h)), (5, .ptr 0 0 0), (10, .pv (.bool false)), (11, .ptr 1 0 0), (12, .pv (i64 (j + 1)))] ⟨rfl, rfl, rfl, rfl, rfl, rfl, rfl, trivial⟩ ⟨_, ?_, j + 1, rfl, ?_, ?_, rfl, rfl⟩
               ·omega
               ·omega
               ·intro q hq
                by_cases e : q = j
                ·subst e
                 have c6b : okT t (h - 1) (nth p.cs q) a (b + 1) = true := by simpa using c6
                 rw [ha, hb, Int.sub_add_cancel] at c6b
                 exact c6b
                ·exact g1 q (by omega)
           ·try simp only [decide_eq_true_eq, decide_eq_false_iff_not, Bool.not_eq_true', Bool.not_eq_false', Bool.not_eq_eq_eq_not, Bool.not_true, Bool.not_false] at c3
            refine VS_exit (VS_seq (VS_r0 rfl (q_mv rfl (rg_nil (VS_ret ?_)))))
            refine Bd.now ⟨_, rfl, congrArg PV.bool ?_⟩
            obtain ⟨h', rfl⟩ : ∃ h', h = h' + 1 := ⟨h - 1, by omega⟩
            exact (okT_more hpp (by omega) hin hgk.1 hgk.2.1 hgk.2.2.1 hgk.2.2.2 hk0 hv0 hcl fun q hq => g1 q (by omega)).symm
         ·try simp only [decide_eq_true_eq, decide_eq_false_iff_not, Bool.not_eq_true', Bool.not_eq_false', Bool.not_eq_eq_eq_not, Bool.not_true, Bool.not_false] at g90
          refine q_f rfl (q_f rfl (q_f rfl (q_f rfl (q_f rfl (q_f rfl (q_f rfl (q_f rfl (q_pick_t rfl rfl (rg_nil ?_)))))))))
          refine VS_cond rfl (fun _ => ?_) (fun e => by cases e)
          refine VS_seq (VS_r0 rfl (q_mv rfl (rg_nil (VS_ret ?_))))
          refine Bd.now ⟨_, rfl, congrArg PV.bool ?_⟩
          obtain ⟨h', rfl⟩ : ∃ h', h = h' + 1 := ⟨h - 1, by omega⟩
          refine (Bool.eq_false_iff.2 fun hc => ?_).symm
          have h5 := okT_less hpp (by omega) hc
          have h6 : (p.cs.all fun k => decide (0 ≤ k) && decide (k ≤ (t.ps.length : Int) - 1)) = true := List.all_eq_true.2 fun c hc => by have := inT_iff.1 (h5.2.2.2.1 c hc); simp; omega
          have h7 := h5.1
          have h8 := h5.2.1
          have h9 := h5.2.2.1
          omega
        ·try simp only [decide_eq_true_eq, decide_eq_false_iff_not, Bool.not_eq_true', Bool.not_eq_false', Bool.not_eq_eq_eq_not, Bool.not_true, Bool.not_false] at g80
         refine q_f rfl (q_f rfl (q_f rfl (q_f rfl (q_f rfl (q_f rfl (q_f rfl (q_f rfl (q_pick_t rfl rfl (q_mv rfl (q_f rfl (q_f rfl (q_f rfl (q_f rfl (q_f rfl (q_f rfl ?_)))))))))))))))
         refine q_f rfl (q_f rfl (q_pick_t rfl rfl (rg_nil ?_)))
         refine VS_cond rfl (fun _ => ?_) (fun e => by cases e)
         refine VS_seq (VS_r0 rfl (q_mv rfl (rg_nil (VS_ret ?_))))
         refine Bd.now ⟨_, rfl, congrArg PV.bool ?_⟩
         obtain ⟨h', rfl⟩ : ∃ h', h = h' + 1 := ⟨h - 1, by omega⟩
         refine (Bool.eq_false_iff.2 fun hc => ?_).symm
         have h5 := okT_less hpp (by omega) hc
         have h6 : (p.cs.all fun k => decide (0 ≤ k) && decide (k ≤ (t.ps.length : Int) - 1)) = true := List.all_eq_true.2 fun c hc => by have := inT_iff.1 (h5.2.2.2.1 c hc); simp; omega
         have h7 := h5.1
         have h8 := h5.2.1
         have h9 := h5.2.2.1
         omega
       ·try simp only [decide_eq_true_eq, decide_eq_false_iff_not, Bool.not_eq_true', Bool.not_eq_false', Bool.not_eq_eq_eq_not, Bool.not_true, Bool.not_false] at g74
        refine q_f rfl (q_f rfl (q_f rfl (q_f rfl (q_pick_t rfl rfl (q_mv rfl (q_f rfl (q_f rfl (q_f rfl (q_f rfl (q_f rfl (q_f rfl (q_f rfl (q_f rfl (q_pick_t rfl rfl (q_mv rfl ?_)))))))))))))))
        refine q_f rfl (q_f rfl (q_f rfl (q_f rfl (q_f rfl (q_f rfl (q_f rfl (q_f rfl (q_pick_t rfl rfl (rg_nil ?_)))))))))
        refine VS_cond rfl (fun _ => ?_) (fun e => by cases e)
        refine VS_seq (VS_r0 rfl (q_mv rfl (rg_nil (VS_ret ?_))))
        refine Bd.now ⟨_, rfl, congrArg PV.bool ?_⟩
        obtain ⟨h', rfl⟩ : ∃ h', h = h' + 1 := ⟨h - 1, by omega⟩
        refine (Bool.eq_false_iff.2 fun hc => ?_).symm
        have h5 := okT_less hpp (by omega) hc
        have h6 : (p.cs.all fun k => decide (0 ≤ k) && decide (k ≤ (t.ps.length : Int) - 1)) = true := List.all_eq_true.2 fun c hc => by have := inT_iff.1 (h5.2.2.2.1 c hc); simp; omega
        have h7 := h5.1
        have h8 := h5.2.1
        have h9 := h5.2.2.1
        omega
    ·try simp only [decide_eq_true_eq, decide_eq_false_iff_not, Bool.not_eq_true', Bool.not_eq_false', Bool.not_eq_eq_eq_not, Bool.not_true, Bool.not_false] at g43
     refine q_f rfl (q_f rfl (q_f rfl (q_f rfl (q_t rfl (q_pick_f rfl rfl (q_pick_f rfl rfl (rg_nil ?_)))))))
     refine VS_cond rfl (fun e => by cases e) (fun _ => ?_)
     refine VS_skip (VS_seq (VS_seq ?_))
     have hgk : p.ks.length ≤ 4 ∧ goodKeys p.ks = true ∧ (i = t.r ∨ 2 ≤ p.ks.length) ∧ keysIn p.ks lo (hi + 1) = true := by rw [keysIn_all]; refine ⟨by omega, by simp_all, by first | exact .inl (by assumption) | exact .inr (by omega), by simp_all⟩
     refine VS_r0 rfl (q_mv rfl (q_eql rfl rfl (rg_nil ?_)))
     refine VS_cond rfl (fun c1 => ?_) (fun c1 => ?_)
     ·try simp only [decide_eq_true_eq, decide_eq_false_iff_not, Bool.not_eq_true', Bool.not_eq_false', Bool.not_eq_eq_eq_not, Bool.not_true, Bool.not_false] at c1
      refine VS_seq (VS_r0 rfl (q_fld_r rfl (q_load_r rfl rfl rfl rfl rfl rfl rfl (q_len_m rfl (q_eql rfl rfl (q_mv rfl ?_))))))
      refine q_b rfl (fun g56 => ?_) (fun g56 => ?_)
      ·try simp only [decide_eq_true_eq, decide_eq_false_iff_not, Bool.not_eq_true', Bool.not_eq_false', Bool.not_eq_eq_eq_not, Bool.not_true, Bool.not_false] at g56
       refine q_t rfl (q_fld_r rfl (q_t rfl (q_load_r rfl rfl rfl rfl rfl rfl rfl (q_t rfl (q_len_m rfl (q_t rfl (q_fld_r rfl (q_t rfl (q_load_r rfl rfl rfl rfl rfl rfl rfl (q_t rfl (q_len_m rfl (q_t rfl (q_eql rfl rfl (q_pick_t rfl rfl (q_mv rfl ?_)))))))))))))))
       refine q_b rfl (fun g65 => ?_) (fun g65 => ?_)
       ·try simp only [decide_eq_true_eq, decide_eq_false_iff_not, Bool.not_eq_true', Bool.not_eq_false', Bool.not_eq_eq_eq_not, Bool.not_true, Bool.not_false] at g65
        refine q_t rfl (q_fld_r rfl (q_t rfl (q_load_r rfl rfl rfl rfl rfl rfl rfl (q_t rfl (q_callp (c_spec_allIn p.vs (-1000) 1000 (by omega)) rfl trivial (q_pick_t rfl rfl (q_mv rfl (rg_nil (VS_ret ?_)))))))))
        refine Bd.now ⟨_, rfl, congrArg PV.bool ?_⟩
        have hh : h = 1 := by omega
        subst hh
        rw [okT_one hpp hin hgk.1 hgk.2.1 hgk.2.2.1 hgk.2.2.2, lfB]
        first
        | (rw [decide_eq_true (show p.cs.length = 0 by omega), decide_eq_true (show p.vs.length = p.ks.length by omega)]; simp [*]; done)
        | (rw [decide_eq_true (show p.cs.length = 0 by omega), decide_eq_true (show p.vs.length = p.ks.length by omega)]; rfl)
        | (rw [decide_eq_true (show p.cs.length = 0 by omega), decide_eq_false (show ¬ p.vs.length = p.ks.length by omega)]; rfl)
        | (rw [decide_eq_false (show ¬ p.cs.length = 0 by omega)]; rfl)
       ·try simp only [decide_eq_true_eq, decide_eq_false_iff_not, Bool.not_eq_true', Bool.not_eq_false', Bool.not_eq_eq_eq_not, Bool.not_true, Bool.not_false] at g65
        refine q_f rfl (q_f rfl (q_f rfl (q_pick_f rfl rfl (q_mv rfl (rg_nil (VS_ret ?_))))))
        refine Bd.now ⟨_, rfl, congrArg PV.bool ?_⟩
        have hh : h = 1 := by omega
        subst hh
        rw [okT_one hpp hin hgk.1 hgk.2.1 hgk.2.2.1 hgk.2.2.2, lfB]
        first
        | (rw [decide_eq_true (show p.cs.length = 0 by omega), decide_eq_true (show p.vs.length = p.ks.length by omega)]; simp [*]; done)
        | (rw [decide_eq_true (show p.cs.length = 0 by omega), decide_eq_true (show p.vs.length = p.ks.length by omega)]; rfl)
        | (rw [decide_eq_true (show p.cs.length = 0 by omega), decide_eq_false (show ¬ p.vs.length = p.ks.length by omega)]; rfl)
        | (rw [decide_eq_false (show ¬ p.cs.length = 0 by omega)]; rfl)
      ·try simp only [decide_eq_true_eq, decide_eq_false_iff_not, Bool.not_eq_true', Bool.not_eq_false', Bool.not_eq_eq_eq_not, Bool.not_true, Bool.not_false] at g56
       refine q_f rfl (q_f rfl (q_f rfl (q_f rfl (q_f rfl (q_f rfl (q_f rfl (q_pick_f rfl rfl (q_mv rfl (q_f rfl (q_f rfl (q_f rfl (q_pick_f rfl rfl (q_mv rfl (rg_nil (VS_ret ?_)))))))))))))))
       refine Bd.now ⟨_, rfl, congrArg PV.bool ?_⟩
       have hh : h = 1 := by omega
       subst hh
       rw [okT_one hpp hin hgk.1 hgk.2.1 hgk.2.2.1 hgk.2.2.2, lfB]
       first
       | (rw [decide_eq_true (show p.cs.length = 0 by omega), decide_eq_true (show p.vs.length = p.ks.length by omega)]; simp [*]; done)
       | (rw [decide_eq_true (show p.cs.length = 0 by omega), decide_eq_true (show p.vs.length = p.ks.length by omega)]; rfl)
       | (rw [decide_eq_true (show p.cs.length = 0 by omega), decide_eq_false (show ¬ p.vs.length = p.ks.length by omega)]; rfl)
       | (rw [decide_eq_false (show ¬ p.cs.length = 0 by omega)]; rfl)
     ·try simp only [decide_eq_true_eq, decide_eq_false_iff_not, Bool.not_eq_true', Bool.not_eq_false', Bool.not_eq_eq_eq_not, Bool.not_true, Bool.not_false] at c1
      refine VS_skip (VS_seq (VS_seq (VS_r0 rfl (q_fld_r rfl (q_load_r rfl rfl rfl rfl rfl rfl rfl (q_len_m rfl (q_eql rfl rfl (q_mv rfl ?_))))))))
      refine q_b rfl (fun g74 => ?_) (fun g74 => ?_)
      ·try simp only [decide_eq_true_eq, decide_eq_false_iff_not, Bool.not_eq_true', Bool.not_eq_false', Bool.not_eq_eq_eq_not, Bool.not_true, Bool.not_false] at g74
       refine q_t rfl (q_fld_r rfl (q_t rfl (q_load_r rfl rfl rfl rfl rfl rfl rfl (q_t rfl (q_len_m rfl (q_t rfl (q_neq rfl rfl (q_pick_f rfl rfl (q_mv rfl ?_)))))))))
       refine q_b rfl (fun g80 => ?_) (fun g80 => ?_)
       ·try simp only [decide_eq_true_eq, decide_eq_false_iff_not, Bool.not_eq_true', Bool.not_eq_false', Bool.not_eq_eq_eq_not, Bool.not_true, Bool.not_false] at g80
        refine q_t rfl (q_fld_r rfl (q_t rfl (q_load_r rfl rfl rfl rfl rfl rfl rfl (q_t rfl (q_len_m rfl (q_t rfl (q_fld_r rfl (q_t rfl (q_load_r rfl rfl rfl rfl rfl rfl rfl (q_t rfl (q_len_m rfl (q_t rfl (q_add rfl rfl (inR64 (by omega)) (q_t rfl (q_neq rfl rfl ?_)))))))))))))))
        refine q_pick_f rfl rfl (q_mv rfl ?_)
        refine q_b rfl (fun g90 => ?_) (fun g90 => ?_)
        ·try simp only [decide_eq_true_eq, decide_eq_false_iff_not, Bool.not_eq_true', Bool.not_eq_false', Bool.not_eq_eq_eq_not, Bool.not_true, Bool.not_false] at g90
         refine q_t rfl (q_fld_r rfl (q_t rfl (q_load_r rfl rfl rfl rfl rfl rfl rfl (q_t rfl (q_fld_r rfl (q_t rfl (q_load_r rfl rfl rfl rfl rfl rfl rfl (q_t rfl (q_len_m rfl (q_t rfl (q_sub rfl rfl (inR64 (by omega)) (q_t rfl (q_callp (c_spec_allIn p.cs 0 ((t.ps.length : Int) - 1) (by omega)) rfl trivial (q_t rfl (q_not rfl ?_)))))))))))))))
         refine q_pick_f rfl rfl (rg_nil ?_)
         refine VS_cond rfl (fun c2 => ?_) (fun c2 => ?_)
         ·try simp only [decide_eq_true_eq, decide_eq_false_iff_not, Bool.not_eq_true', Bool.not_eq_false', Bool.not_eq_eq_eq_not, Bool.not_true, Bool.not_false] at c2
          refine VS_seq (VS_r0 rfl (q_mv rfl (rg_nil (VS_ret ?_))))
          refine Bd.now ⟨_, rfl, congrArg PV.bool ?_⟩
          obtain ⟨h', rfl⟩ : ∃ h', h = h' + 1 := ⟨h - 1, by omega⟩
          refine (Bool.eq_false_iff.2 fun hc => ?_).symm
          have h5 := okT_less hpp (by omega) hc
          have h6 : (p.cs.all fun k => decide (0 ≤ k) && decide (k ≤ (t.ps.length : Int) - 1)) = true := List.all_eq_true.2 fun c hc => by have := inT_iff.1 (h5.2.2.2.1 c hc); simp; omega
          have h7 := h5.1
          have h8 := h5.2.1
          have h9 := h5.2.2.1
          (simp_all; done)
         ·try simp only [decide_eq_true_eq, decide_eq_false_iff_not, Bool.not_eq_true', Bool.not_eq_false', Bool.not_eq_eq_eq_not, Bool.not_true, Bool.not_false] at c2
          have hcl : p.cs.length = p.ks.length + 1 := by omega
          have hk0 : p.ks.length ≠ 0 := by omega
          have hv0 : p.vs.length = 0 := by omega
          have hci : (p.cs.all fun k => decide (0 ≤ k) && decide (k ≤ (t.ps.length : Int) - 1)) = true := by simp_all
          refine VS_skip (VS_seq (VS_seq (VS_r0 rfl (q_mv rfl (rg_nil (VS_block ?_))))))
          refine VS_bd (Bd.keepL [(2, .pv (i64 lo)), (3, .pv (i64 hi)), (4, .pv (i64 h)), (5, .ptr 0 0 0), (10, .pv (.bool false)), (11, .ptr 1 0 0), (12, .pv (i64 0))] ⟨rfl, rfl, rfl, rfl, rfl, rfl, rfl, trivial⟩ ?_)
          refine VS_loop (fun mz E S => ∃ j : Nat, mz = p.cs.length - j ∧ (j ≤ p.cs.length) ∧ (∀ q, q < j → okT t (h - 1) (nth p.cs q) (frK p lo q) (toK p (hi + 1) q) = true) ∧ E = env [(2, .pv (i64 lo)), (3, .pv (i64 hi)), (4, .pv (i64 h)), (5, .ptr 0 0 0), (10, .pv (.bool false)), (11, .ptr 1 0 0), (12, .pv (i64 j))] ∧ S = [some ⟨39, 2, [.pv (ptP t)]⟩, some ⟨25, 3, [.agg [.pv (ints p.ks), .pv (ints p.cs), .pv (ints p.vs)]]⟩]) ⟨_, 0, rfl, (by omega), (by omega), rfl, rfl⟩ ?_
          rintro mz _ _ ⟨j, hmeas, g0, g1, rfl, rfl⟩
          refine VS_seq (VS_seq (VS_r0 rfl (q_mv rfl (q_fld_r rfl (q_load_r rfl rfl rfl rfl rfl rfl rfl (q_len_m rfl (q_lss rfl rfl (rg_nil ?_))))))))
          refine VS_cond rfl (fun c3 => ?_) (fun c3 => ?_)
          ·try simp only [decide_eq_true_eq, decide_eq_false_iff_not, Bool.not_eq_true', Bool.not_eq_false', Bool.not_eq_eq_eq_not, Bool.not_true, Bool.not_false] at c3
           have hkin : inT t (nth p.cs j) = true := by have := List.all_eq_true.1 hci _ (nth_mem (i := j) (by omega)); rw [inT_iff]; simp at this; omega
           refine VS_skip (VS_seq (VS_block (VS_seq (VS_r0 rfl (q_mv rfl (q_mv rfl (rg_nil (VS_seq (VS_r0 rfl (q_mv rfl (q_mv rfl (rg_nil (VS_seq (VS_seq (VS_r0 rfl ?_)))))))))))))))
           refine q_mv rfl (q_gtr rfl rfl (rg_nil ?_))
           refine VS_cond rfl (fun c4 => ?_) (fun c4 => ?_)
           ·try simp only [decide_eq_true_eq, decide_eq_false_iff_not, Bool.not_eq_true', Bool.not_eq_false', Bool.not_eq_eq_eq_not, Bool.not_true, Bool.not_false] at c4
            have hkj := goodKeys_mem hgk.2.1 (j := j - 1) (by omega)
            refine VS_r0 rfl (q_fld_r rfl (q_load_r rfl rfl rfl rfl rfl rfl rfl (q_mv rfl (q_sub_to ((j - 1 : Nat) : Int) rfl rfl (by omega) (inR64 (by omega)) (q_idx_m (f := fun k => i64 k) (xs := p.ks) (n := ((j - 1 : Nat) : Int)) rfl rfl (by omega) (by omega) (fun _ => rfl) (q_load_c rfl rfl rfl (q_mv rfl (rg_nil ?_))))))))
            refine VS_join (fun E S => ∃ a b, (a = frK p lo j ∧ b = toK p (hi + 1) j - 1 ∧ -1000000 ≤ a ∧ b ≤ 1000000) ∧ E = env [(2, .pv (i64 lo)), (3, .pv (i64 hi)), (4, .pv (i64 h)), (5, .ptr 0 0 0), (10, .pv (.bool false)), (11, .ptr 1 0 0), (12, .pv (i64 j)), (13, .pv (i64 a)), (14, .pv (i64 b))] ∧ S = [some ⟨39, 2, [.pv (ptP t)]⟩, some ⟨25, 3, [.agg [.pv (ints p.ks), .pv (ints p.cs), .pv (ints p.vs)]]⟩]) ?_ ?_
            ·skip
             refine VS_seq (VS_r0 rfl (q_mv rfl (q_fld_r rfl (q_load_r rfl rfl rfl rfl rfl rfl rfl (q_len_m rfl (q_lss rfl rfl (rg_nil ?_)))))))
             refine VS_cond rfl (fun c5 => ?_) (fun c5 => ?_)
             ·try simp only [decide_eq_true_eq, decide_eq_false_iff_not, Bool.not_eq_true', Bool.not_eq_false', Bool.not_eq_eq_eq_not, Bool.not_true, Bool.not_false] at c5
              have hkj2 := goodKeys_mem hgk.2.1 (j := j) (by omega)
              refine VS_r0 rfl (q_fld_r rfl (q_load_r rfl rfl rfl rfl rfl rfl rfl (q_mv rfl (q_idx_m (f := fun k => i64 k) (xs := p.ks) (n := (j : Int)) rfl rfl (by omega) (by omega) (fun _ => rfl) (q_load_c rfl rfl rfl (q_sub_to (nth p.ks j - 1) rfl rfl rfl (inR64 (by omega)) (q_mv rfl (rg_nil ?_))))))))
              exact Bd.keepL [(2, .pv (i64 lo)), (3, .pv (i64 hi)), (4, .pv (i64 h)), (5, .ptr 0 0 0), (10, .pv (.bool false)), (11, .ptr 1 0 0), (12, .pv (i64 j)), (13, .pv (i64 (nth p.ks (j - 1)))), (14, .pv (i64 (nth p.ks j - 1)))] ⟨rfl, rfl, rfl, rfl, rfl, rfl, rfl, rfl, rfl, trivial⟩ ⟨_, _, ⟨(by rw [frK, if_neg (by omega)]), (by rw [toK, if_pos (by omega)]; try omega), by omega, by omega⟩, rfl, rfl⟩
             ·try simp only [decide_eq_true_eq, decide_eq_false_iff_not, Bool.not_eq_true', Bool.not_eq_false', Bool.not_eq_eq_eq_not, Bool.not_true, Bool.not_false] at c5
              refine VS_skip ?_
              exact Bd.keepL [(2, .pv (i64 lo)), (3, .pv (i64 hi)), (4, .pv (i64 h)), (5, .ptr 0 0 0), (10, .pv (.bool false)), (11, .ptr 1 0 0), (12, .pv (i64 j)), (13, .pv (i64 (nth p.ks (j - 1)))), (14, .pv (i64 hi))] ⟨rfl, rfl, rfl, rfl, rfl, rfl, rfl, rfl, rfl, trivial⟩ ⟨_, _, ⟨(by rw [frK, if_neg (by omega)]), (by rw [toK, if_neg (by omega)]; try omega), by omega, by omega⟩, rfl, rfl⟩
            ·rintro _ _ ⟨a, b, ⟨ha, hb, hab⟩, rfl, rfl⟩
             refine VS_seq (VS_r2 _ hmix (Sub.refl _) (q_load_ra rfl rfl rfl rfl rfl (by (simp; done)) rfl (q_fld_r rfl (q_load_r rfl rfl rfl rfl rfl rfl rfl (q_mv rfl (q_idx_m (f := fun k => i64 k) (xs := p.cs) (n := (j : Int)) rfl rfl (by omega) (by omega) (fun _ => rfl) (q_load_c rfl rfl rfl (q_mv rfl (q_mv rfl (q_mv rfl (q_sub_to ((h - 1 : Nat) : Int) rfl rfl (by omega) (inR64 (by omega)) (q_callp (ih (nth p.cs j) a b (by omega) hkin (by omega)) rfl (Sub.refl _) (q_not rfl (rg_nil ?_))))))))))))))
             refine VS_cond rfl (fun c6 => ?_) (fun c6 => ?_)
             ·try simp only [decide_eq_true_eq, decide_eq_false_iff_not, Bool.not_eq_true', Bool.not_eq_false', Bool.not_eq_eq_eq_not, Bool.not_true, Bool.not_false] at c6
              refine VS_seq (VS_r0 rfl (q_mv rfl (rg_nil (VS_ret ?_))))
              refine Bd.now ⟨_, rfl, congrArg PV.bool ?_⟩
              obtain ⟨h', rfl⟩ : ∃ h', h = h' + 1 := ⟨h - 1, by omega⟩
              refine (Bool.eq_false_iff.2 fun hc => ?_).symm
              have h5 := (okT_less hpp (by omega) hc).2.2.2.2 j (by omega)
              have c6b : okT t h' (nth p.cs j) a (b + 1) = false := by simpa using c6
              rw [ha, hb, Int.sub_add_cancel, h5] at c6b
              cases c6b
             ·try simp only [decide_eq_true_eq, decide_eq_false_iff_not, Bool.not_eq_true', Bool.not_eq_false', Bool.not_eq_eq_eq_not, Bool.not_true, Bool.not_false] at c6
              refine VS_skip (VS_r0 rfl (q_mv rfl (q_add rfl rfl (inR64 (by omega)) (q_mv rfl (rg_nil ?_)))))
              refine Bd.keepL [(2, .pv (i64 lo)), (3, .pv (i64 hi)), (4, .pv (i64 h)), (5, .ptr 0 0 0), (10, .pv (.bool false)), (11, .ptr 1 0 0), (12, .pv (i64 (j + 1)))] ⟨rfl, rfl, rfl, rfl, rfl, rfl, rfl, trivial⟩ ⟨_, ?_, j + 1, rfl, ?_, ?_, rfl, rfl⟩
              ·omega
              ·omega
              ·intro q hq
               by_cases e : q = j
               ·subst e
                have c6b : okT t (h - 1) (nth p.cs q) a (b + 1) = true := by simpa using c6
                rw [ha, hb, Int.sub_add_cancel] at c6b
                exact c6b
               ·exact g1 q (by omega)
           ·try simp only [decide_eq_true_eq, decide_eq_false_iff_not, Bool.not_eq_true', Bool.not_eq_false', Bool.not_eq_eq_eq_not, Bool.not_true, Bool.not_false] at c4
            refine VS_skip ?_
            refine VS_join (fun E S => ∃ a b, (a = frK p lo j ∧ b = toK p (hi + 1) j - 1 ∧ -1000000 ≤ a ∧ b ≤ 1000000) ∧ E = env [(2, .pv (i64 lo)), (3, .pv (i64 hi)), (4, .pv (i64 h)), (5, .ptr 0 0 0), (10, .pv (.bool false)), (11, .ptr 1 0 0), (12, .pv (i64 j)), (13, .pv (i64 a)), (14, .pv (i64 b))] ∧ S = [some ⟨39, 2, [.pv (ptP t)]⟩, some ⟨25, 3, [.agg [.pv (ints p.ks), .pv (ints p.cs), .pv (ints p.vs)]]⟩]) ?_ ?_
            ·skip
             refine VS_seq (VS_r0 rfl (q_mv rfl (q_fld_r rfl (q_load_r rfl rfl rfl rfl rfl rfl rfl (q_len_m rfl (q_lss rfl rfl (rg_nil ?_)))))))
             refine VS_cond rfl (fun c5 => ?_) (fun c5 => ?_)
             ·try simp only [decide_eq_true_eq, decide_eq_false_iff_not, Bool.not_eq_true', Bool.not_eq_false', Bool.not_eq_eq_eq_not, Bool.not_true, Bool.not_false] at c5
              have hkj2 := goodKeys_mem hgk.2.1 (j := j) (by omega)
              refine VS_r0 rfl (q_fld_r rfl (q_load_r rfl rfl rfl rfl rfl rfl rfl (q_mv rfl (q_idx_m (f := fun k => i64 k) (xs := p.ks) (n := (j : Int)) rfl rfl (by omega) (by omega) (fun _ => rfl) (q_load_c rfl rfl rfl (q_sub_to (nth p.ks j - 1) rfl rfl rfl (inR64 (by omega)) (q_mv rfl (rg_nil ?_))))))))
              exact Bd.keepL [(2, .pv (i64 lo)), (3, .pv (i64 hi)), (4, .pv (i64 h)), (5, .ptr 0 0 0), (10, .pv (.bool false)), (11, .ptr 1 0 0), (12, .pv (i64 j)), (13, .pv (i64 lo)), (14, .pv (i64 (nth p.ks j - 1)))] ⟨rfl, rfl, rfl, rfl, rfl, rfl, rfl, rfl, rfl, trivial⟩ ⟨_, _, ⟨(by rw [frK, if_pos (by omega)]), (by rw [toK, if_pos (by omega)]; try omega), by omega, by omega⟩, rfl, rfl⟩
             ·try simp only [decide_eq_true_eq, decide_eq_false_iff_not, Bool.not_eq_true', Bool.not_eq_false', Bool.not_eq_eq_eq_not, Bool.not_true, Bool.not_false] at c5
              refine VS_skip ?_
              exact Bd.keepL [(2, .pv (i64 lo)), (3, .pv (i64 hi)), (4, .pv (i64 h)), (5, .ptr 0 0 0), (10, .pv (.bool false)), (11, .ptr 1 0 0), (12, .pv (i64 j)), (13, .pv (i64 lo)), (14, .pv (i64 hi))] ⟨rfl, rfl, rfl, rfl, rfl, rfl, rfl, rfl, rfl, trivial⟩ ⟨_, _, ⟨(by rw [frK, if_pos (by omega)]), (by rw [toK, if_neg (by omega)]; try omega), by omega, by omega⟩, rfl, rfl⟩
            ·rintro _ _ ⟨a, b, ⟨ha, hb, hab⟩, rfl, rfl⟩
             refine VS_seq (VS_r2 _ hmix (Sub.refl _) (q_load_ra rfl rfl rfl rfl rfl (by (simp; done)) rfl (q_fld_r rfl (q_load_r rfl rfl rfl rfl rfl rfl rfl (q_mv rfl (q_idx_m (f := fun k => i64 k) (xs := p.cs) (n := (j : Int)) rfl rfl (by omega) (by omega) (fun _ => rfl) (q_load_c rfl rfl rfl (q_mv rfl (q_mv rfl (q_mv rfl (q_sub_to ((h - 1 : Nat) : Int) rfl rfl (by omega) (inR64 (by omega)) (q_callp (ih (nth p.cs j) a b (by omega) hkin (by omega)) rfl (Sub.refl _) (q_not rfl (rg_nil ?_))))))))))))))
             refine VS_cond rfl (fun c6 => ?_) (fun c6 => ?_)
             ·try simp only [decide_eq_true_eq, decide_eq_false_iff_not, Bool.not_eq_true', Bool.not_eq_false', Bool.not_eq_eq_eq_not, Bool.not_true, Bool.not_false] at c6
              refine VS_seq (VS_r0 rfl (q_mv rfl (rg_nil (VS_ret ?_))))
              refine Bd.now ⟨_, rfl, congrArg PV.bool ?_⟩
              obtain ⟨h', rfl⟩ : ∃ h', h = h' + 1 := ⟨h - 1, by omega⟩
              refine (Bool.eq_false_iff.2 fun hc => ?_).symm
              have h5 := (okT_less hpp (by omega) hc).2.2.2.2 j (by omega)
              have c6b : okT t h' (nth p.cs j) a (b + 1) = false := by simpa using c6
              rw [ha, hb, Int.sub_add_cancel, h5] at c6b
              cases c6b
             ·try simp only [decide_eq_true_eq, decide_eq_false_iff_not, Bool.not_eq_true', Bool.not_eq_false', Bool.not_eq_eq_eq_not, Bool.not_true, Bool.not_false] at c6
              refine VS_skip (VS_r0 rfl (q_mv rfl (q_add rfl rfl (inR64 (by omega)) (q_mv rfl (rg_nil ?_)))))
              refine Bd.keepL [(2, .pv (i64 lo)), (3, .pv (i64 hi)), (4, .pv (i64 h)), (5, .ptr 0 0 0), (10, .pv (.bool false)), (11, .ptr 1 0 0), (12, .pv (i64 (j + 1)))] ⟨rfl, rfl, rfl, rfl, rfl, rfl, rfl, trivial⟩ ⟨_, ?_, j + 1, rfl, ?_, ?_, rfl, rfl⟩
              ·omega
              ·omega
              ·intro q hq
               by_cases e : q = j
               ·subst e
                have c6b : okT t (h - 1) (nth p.cs q) a (b + 1) = true := by simpa using c6
                rw [ha, hb, Int.sub_add_cancel] at c6b
                exact c6b
               ·exact g1 q (by omega)
          ·try simp only [decide_eq_true_eq, decide_eq_false_iff_not, Bool.not_eq_true', Bool.not_eq_false', Bool.not_eq_eq_eq_not, Bool.not_true, Bool.not_false] at c3
           refine VS_exit (VS_seq (VS_r0 rfl (q_mv rfl (rg_nil (VS_ret ?_)))))
           refine Bd.now ⟨_, rfl, congrArg PV.bool ?_⟩
           obtain ⟨h', rfl⟩ : ∃ h', h = h' + 1 := ⟨h - 1, by omega⟩
           exact (okT_more hpp (by omega) hin hgk.1 hgk.2.1 hgk.2.2.1 hgk.2.2.2 hk0 hv0 hcl fun q hq => g1 q (by omega)).symm
        ·try simp only [decide_eq_true_eq, decide_eq_false_iff_not, Bool.not_eq_true', Bool.not_eq_false', Bool.not_eq_eq_eq_not, Bool.not_true, Bool.not_false] at g90
         refine q_f rfl (q_f rfl (q_f rfl (q_f rfl (q_f rfl (q_f rfl (q_f rfl (q_f rfl (q_pick_t rfl rfl (rg_nil ?_)))))))))
         refine VS_cond rfl (fun _ => ?_) (fun e => by cases e)
         refine VS_seq (VS_r0 rfl (q_mv rfl (rg_nil (VS_ret ?_))))
         refine Bd.now ⟨_, rfl, congrArg PV.bool ?_⟩
         obtain ⟨h', rfl⟩ : ∃ h', h = h' + 1 := ⟨h - 1, by omega⟩
         refine (Bool.eq_false_iff.2 fun hc => ?_).symm
         have h5 := okT_less hpp (by omega) hc
         have h6 : (p.cs.all fun k => decide (0 ≤ k) && decide (k ≤ (t.ps.length : Int) - 1)) = true := List.all_eq_true.2 fun c hc => by have := inT_iff.1 (h5.2.2.2.1 c hc); simp; omega
         have h7 := h5.1
         have h8 := h5.2.1
         have h9 := h5.2.2.1
         omega
       ·try simp only [decide_eq_true_eq, decide_eq_false_iff_not, Bool.not_eq_true', Bool.not_eq_false', Bool.not_eq_eq_eq_not, Bool.not_true, Bool.not_false] at g80
        refine q_f rfl (q_f rfl (q_f rfl (q_f rfl (q_f rfl (q_f rfl (q_f rfl (q_f rfl (q_pick_t rfl rfl (q_mv rfl (q_f rfl (q_f rfl (q_f rfl (q_f rfl (q_f rfl (q_f rfl ?_)))))))))))))))
        refine q_f rfl (q_f rfl (q_pick_t rfl rfl (rg_nil ?_)))
        refine VS_cond rfl (fun _ => ?_) (fun e => by cases e)
        refine VS_seq (VS_r0 rfl (q_mv rfl (rg_nil (VS_ret ?_))))
        refine Bd.now ⟨_, rfl, congrArg PV.bool ?_⟩
        obtain ⟨h', rfl⟩ : ∃ h', h = h' + 1 := ⟨h - 1, by omega⟩
        refine (Bool.eq_false_iff.2 fun hc => ?_).symm
        have h5 := okT_less hpp (by omega) hc
        have h6 : (p.cs.all fun k => decide (0 ≤ k) && decide (k ≤ (t.ps.length : Int) - 1)) = true := List.all_eq_true.2 fun c hc => by have := inT_iff.1 (h5.2.2.2.1 c hc); simp; omega
        have h7 := h5.1
        have h8 := h5.2.1
        have h9 := h5.2.2.1
        omega
      ·try simp only [decide_eq_true_eq, decide_eq_false_iff_not, Bool.not_eq_true', Bool.not_eq_false', Bool.not_eq_eq_eq_not, Bool.not_true, Bool.not_false] at g74
       refine q_f rfl (q_f rfl (q_f rfl (q_f rfl (q_pick_t rfl rfl (q_mv rfl (q_f rfl (q_f rfl (q_f rfl (q_f rfl (q_f rfl (q_f rfl (q_f rfl (q_f rfl (q_pick_t rfl rfl (q_mv rfl ?_)))))))))))))))
       refine q_f rfl (q_f rfl (q_f rfl (q_f rfl (q_f rfl (q_f rfl (q_f rfl (q_f rfl (q_pick_t rfl rfl (rg_nil ?_)))))))))
       refine VS_cond rfl (fun _ => ?_) (fun e => by cases e)
       refine VS_seq (VS_r0 rfl (q_mv rfl (rg_nil (VS_ret ?_))))
       refine Bd.now ⟨_, rfl, congrArg PV.bool ?_⟩
       obtain ⟨h', rfl⟩ : ∃ h', h = h' + 1 := ⟨h - 1, by omega⟩
       refine (Bool.eq_false_iff.2 fun hc => ?_).symm
       have h5 := okT_less hpp (by omega) hc
       have h6 : (p.cs.all fun k => decide (0 ≤ k) && decide (k ≤ (t.ps.length : Int) - 1)) = true := List.all_eq_true.2 fun c hc => by have := inT_iff.1 (h5.2.2.2.1 c hc); simp; omega
       have h7 := h5.1
       have h8 := h5.2.1
       have h9 := h5.2.2.1
       omega
   ·try simp only [decide_eq_true_eq, decide_eq_false_iff_not, Bool.not_eq_true', Bool.not_eq_false', Bool.not_eq_eq_eq_not, Bool.not_true, Bool.not_false] at g38
    refine q_f rfl (q_f rfl (q_f rfl (q_f rfl (q_f rfl (q_u rfl (q_u rfl (q_u rfl (q_u rfl (q_f rfl (q_pick_t rfl rfl (rg_nil ?_)))))))))))
    refine VS_cond rfl (fun _ => ?_) (fun e => by cases e)
    refine VS_seq (VS_r0 rfl (q_mv rfl (rg_nil (VS_ret ?_))))
    refine Bd.now ⟨_, rfl, congrArg PV.bool ?_⟩
    refine (Bool.eq_false_iff.2 fun hc => ?_).symm
    have h5 := okT_p hpp hc
    rw [keysIn_all] at h5
    have h6 := h5.1.1
    have h7 := h5.1.2
    have h8 := h5.2.1
    have h9 := h5.2.2
    (simp_all; done)
  ·try simp only [decide_eq_true_eq, decide_eq_false_iff_not, Bool.not_eq_true', Bool.not_eq_false', Bool.not_eq_eq_eq_not, Bool.not_true, Bool.not_false] at g30
   refine q_f rfl (q_f rfl (q_f rfl (q_f rfl (q_f rfl (q_f rfl (q_pick_t rfl rfl (q_mv rfl (q_f rfl (q_f rfl (q_f rfl (q_f rfl (q_f rfl (q_u rfl (q_u rfl (q_u rfl ?_)))))))))))))))
   refine q_u rfl (q_f rfl (q_pick_t rfl rfl (rg_nil ?_)))
   refine VS_cond rfl (fun _ => ?_) (fun e => by cases e)
   refine VS_seq (VS_r0 rfl (q_mv rfl (rg_nil (VS_ret ?_))))
   refine Bd.now ⟨_, rfl, congrArg PV.bool ?_⟩
   refine (Bool.eq_false_iff.2 fun hc => ?_).symm
   have h5 := okT_p hpp hc
   rw [keysIn_all] at h5
   have h6 := h5.1.1
   have h7 := h5.1.2
   have h8 := h5.2.1
   have h9 := h5.2.2
   omega
 ·try simp only [decide_eq_true_eq, decide_eq_false_iff_not, Bool.not_eq_true', Bool.not_eq_false', Bool.not_eq_eq_eq_not, Bool.not_true, Bool.not_false] at g24
  refine q_f rfl (q_f rfl (q_f rfl (q_f rfl (q_pick_t rfl rfl (q_mv rfl (q_f rfl (q_f rfl (q_f rfl (q_f rfl (q_f rfl (q_f rfl (q_pick_t rfl rfl (q_mv rfl (q_f rfl (q_f rfl ?_)))))))))))))))
  refine q_f rfl (q_f rfl (q_f rfl (q_u rfl (q_u rfl (q_u rfl (q_u rfl (q_f rfl (q_pick_t rfl rfl (rg_nil ?_)))))))))
  refine VS_cond rfl (fun _ => ?_) (fun e => by cases e)
  refine VS_seq (VS_r0 rfl (q_mv rfl (rg_nil (VS_ret ?_))))
  refine Bd.now ⟨_, rfl, congrArg PV.bool ?_⟩
  refine (Bool.eq_false_iff.2 fun hc => ?_).symm
  have h5 := okT_p hpp hc
  rw [keysIn_all] at h5
  have h6 := h5.1.1
  have h7 := h5.1.2
  have h8 := h5.2.1
  have h9 := h5.2.2
  (simp_all; done)
theorem c_spec_pageFits (t : Pt) (hs : smallT t) (hn : t.ps.length ≤ 16) : ∀ (h : Nat), 1 ≤ h → h ≤ 3 → ∀ (i lo hi : Int), inT t i = true → -1000000 ≤ lo ∧ hi ≤ 1000000 → PCon prog 85 [ptP t, i64 i, i64 lo, i64 hi, i64 h] (fun p => p = .bool (okT t h i lo (hi + 1))) := by
 intro h
 induction h with
 | zero => intro h1; exact absurd h1 (by omega)
 | succ h ih => intro h1 h3 i lo hi hin hlo; exact c_spec_pageFits_step t hs hn i lo hi (h + 1) h1 h3 hin hlo (fun i lo hi h1 hin hlo => ih (by omega) (by omega) i lo hi hin hlo)
theorem sl_spec_walk : slimF prog 86 = some (34, (.seq (.reg 0 (.o 2 (.box 39 2 (.t 0)) (.o 4 (.mv (.c .nils)) .nil))) (.seq (.reg 0 (.o 7 (.mv (.t 1)) (.o 8 (.lit 3 1 1 [.pv (.int .i64 0)] [(0, .t 7)]) (.o 5 (.mv (.t 8)) .nil)))) (.seq (.seq (.reg 0 (.o 6 (.mv (.c (.pv (.int .i64 0)))) .nil)) (.block 0 (.loop (.seq (.seq (.reg 0 (.o 9 (.mv (.t 6)) (.o 10 (.fld 1 1 false (.t 2)) (.o 11 (.load 1 false (.t 10)) (.o 12 (.mv (.t 1)) (.o 13 (.idx 3 (.t 11) (.t 12)) (.o 14 (.fld 1 1 false (.t 13)) (.o 15 (.load 1 false (.t 14)) (.o 16 (.len (.t 15)) (.o 17 (.bin .lss (.t 9) (.t 16)) .nil)))))))))) (.cond (.t 17) .skip (.exit 0))) (.seq (.block 1 (.reg 2 (.o 20 (.mv (.t 5)) (.o 21 (.load 2 true (.t 2)) (.o 22 (.fld 1 1 false (.t 2)) (.o 23 (.load 1 false (.t 22)) (.o 24 (.mv (.t 1)) (.o 25 (.idx 3 (.t 23) (.t 24)) (.o 26 (.fld 1 1 false (.t 25)) (.o 27 (.load 1 false (.t 26)) (.o 28 (.mv (.t 6)) (.o 29 (.idx 1 (.t 27) (.t 28)) (.o 30 (.load 1 false (.t 29)) (.o 31 (.call 86 [.t 21, .t 30]) (.o 32 (.app 3 1 8 (.t 20) (.t 31)) (.o 5 (.mv (.t 32)) .nil)))))))))))))))) (.reg 0 (.o 18 (.mv (.t 6)) (.o 19 (.bin .add (.t 18) (.c (.pv (.int .i64 1)))) (.o 6 (.mv (.t 19)) .nil))))))))) (.seq (.reg 0 (.o 33 (.mv (.t 5)) (.o 4 (.mv (.t 33)) .nil))) .ret))), [.t 4])) := by kernel_rfl
theorem c_spec_walk_step (t : Pt) (hs : smallT t) (i : Int) (h : Nat) (hw : wkT t (h + 1) i = true) (hb : (wlk t (h + 1) i).length ≤ 1000000) (ih : ∀ c, wkT t h c = true → (wlk t h c).length ≤ 1000000 → PCon prog 86 [ptP t, i64 c] (fun p => p = ints (wlk t h c))) : PCon prog 86 [ptP t, i64 i] (fun p => p = ints (wlk t (h + 1) i)) := by
 have hw2 := wk_kid hw
 have hin := hw2.1
 have hi2 := inT_iff.1 hin
 have hsz := hs.2 i hi2.1 hi2.2
 obtain ⟨p, hp⟩ : ∃ p, nth t.ps i.toNat = p := ⟨_, rfl⟩
 have hpp : pg t i = p := hp
 rw [wlk_succ] at hb
 rw [wlk_succ]
 rw [hpp] at hsz hw2 hb
 rw [hpp]
 rw [List.length_cons] at hb
 refine con_of_VS sl_spec_walk (by simp) (VS_seq (VS_r0 rfl (q_box rfl rfl rfl trivial (q_mv rfl (rg_nil (VS_seq (VS_r0 rfl (q_mv rfl (q_lito (xs := [i64 i]) rfl rfl rfl rfl (q_mv rfl (rg_nil (VS_seq (VS_seq (VS_r0 rfl (q_mv rfl ?_)))))))))))))))
 refine rg_nil (VS_block ?_)
 refine VS_bd (Bd.keepL [(1, .pv (i64 i)), (2, .ptr 0 0 0), (6, .pv (i64 0)), (5, ownD 1 (dI ([i])))] ⟨rfl, rfl, rfl, rfl, trivial⟩ ?_)
 refine VS_loop (fun mz E S => ∃ j : Nat, ∃ ys : List Int, mz = p.cs.length - j ∧ (j ≤ p.cs.length) ∧ (ys = i :: (p.cs.take j).flatMap (wlk t h)) ∧ E = env [(1, .pv (i64 i)), (2, .ptr 0 0 0), (6, .pv (i64 j)), (5, ownD 1 (dI ys))] ∧ S = [some ⟨39, 2, [.pv (ptP t)]⟩, obD 3 1 (dI ys)]) ⟨_, 0, [i], rfl, (by omega), (by simp), rfl, rfl⟩ ?_
 rintro mz _ _ ⟨j, ys, hmeas, g0, g1, rfl, rfl⟩
 refine VS_seq (VS_seq (VS_r0 rfl (q_mv rfl (q_fld_r rfl (q_load_r rfl rfl rfl rfl rfl rfl rfl (q_mv rfl (q_idx_m (f := pgP) (xs := t.ps) (n := i) rfl rfl (by omega) (by omega) (fun _ => rfl) ?_)))))))
 rw [hp]
 refine q_fld_c rfl rfl (q_load_c rfl rfl rfl (q_len_m rfl (q_lss rfl rfl (rg_nil ?_))))
 refine VS_cond rfl (fun c0 => ?_) (fun c0 => ?_)
 ·try simp at c0
  have hwp := wlk_part (t := t) (h := h) (cs := p.cs) (j := j) (by omega)
  have hyl : ys.length = 1 + ((p.cs.take j).flatMap (wlk t h)).length := by rw [g1, List.length_cons]; omega
  refine VS_skip (VS_seq (VS_block (VS_r2 [some ⟨39, 2, [.pv (ptP t)]⟩] hmix (SubL.sub (by repeat constructor)) (q_mv rfl (q_load_ra rfl rfl rfl rfl rfl (by (simp; done)) rfl (q_fld_r rfl (q_load_r rfl rfl rfl rfl rfl rfl rfl (q_mv rfl (q_idx_m (f := pgP) (xs := t.ps) (n := i) rfl rfl (by omega) (by omega) (fun _ => rfl) ?_)))))))))
  rw [hp]
  refine q_fld_c rfl rfl (q_load_c rfl rfl rfl (q_mv rfl (q_idx_m (f := fun k => i64 k) (xs := p.cs) (n := (j : Int)) rfl rfl (by omega) (by omega) (fun _ => rfl) (q_load_c rfl rfl rfl (q_callp (ih (nth p.cs j) (hw2.2 _ (nth_mem (by omega))) (by omega)) rfl (Sub.app _ _) (q_app_dm (xs := ys) (ys := wlk t h (nth p.cs j)) (f := fun k => .pv (i64 k)) rfl (elems_I _) (cell_I _) rfl ⟨by omega, by omega⟩ (Sub.app _ _) (q_mv rfl (rg_nil (VS_r0 rfl (q_mv rfl (q_add rfl rfl (inR64 (by omega)) (q_mv rfl (rg_nil ?_)))))))))))))
  refine Bd.renL [0, 2] (zbb _) (by simp) [(1, .pv (i64 i)), (2, .ptr 0 0 0), (6, .pv (i64 (j + 1))), (5, ownD 1 (dI (ys ++ wlk t h (nth p.cs j))))] ⟨rfl, rfl, rfl, inv_own rfl, trivial⟩ (l2 rfl (obD_mI _)) ⟨_, ?_, j + 1, ys ++ wlk t h (nth p.cs j), rfl, ?_, ?_, rfl, rfl⟩
  ·omega
  ·omega
  ·rw [g1, flat_take (by omega), List.cons_append]
 ·try simp at c0
  refine VS_exit (VS_seq (VS_r0 rfl (q_mv rfl (q_mv rfl (rg_nil (VS_ret ?_))))))
  have e : j = p.cs.length := by omega
  rw [e, List.take_length] at g1
  refine Bd.pureB 4 1 3 1 (xs := dI ys) rfl rfl (toPVs_dI _) ?_
  exact Bd.now ⟨_, rfl, by rw [g1]⟩
theorem c_spec_walk (t : Pt) (hs : smallT t) : ∀ (h : Nat) (i : Int), wkT t h i = true → (wlk t h i).length ≤ 1000000 → PCon prog 86 [ptP t, i64 i] (fun p => p = ints (wlk t h i)) := by
 intro h
 induction h with
 | zero => intro i hw; simp [wkT] at hw
 | succ h ih => intro i hw hb; exact c_spec_walk_step t hs i h hw hb ih
theorem sl_spec_validTree : slimF prog 49 = some (58, (.seq (.reg 0 (.o 1 (.box 39 2 (.t 0)) (.o 2 (.mv (.c (.pv (.bool false)))) .nil))) (.seq (.seq (.reg 2 (.o 5 (.fld 1 1 false (.t 1)) (.o 6 (.load 1 false (.t 5)) (.o 7 (.len (.t 6)) (.o 8 (.call 50 [.t 7, .c (.pv (.int .i64 1)), .c (.pv (.int .i64 16))]) (.o 9 (.not (.t 8)) (.o 10 (.mv (.t 9)) (.g 11 10 false (.fld 0 1 false (.t 1)) (.g 12 10 false (.load 1 false (.t 11)) (.g 13 10 false (.fld 1 1 false (.t 1)) (.g 14 10 false (.load 1 false (.t 13)) (.g 15 10 false (.len (.t 14)) (.g 16 10 false (.bin .sub (.t 15) (.c (.pv (.int .i64 1)))) (.g 17 10 false (.call 50 [.t 12, .c (.pv (.int .i64 0)), .t 16]) (.g 18 10 false (.not (.t 17)) (.o 19 (.pick (.t 10) (.c (.pv (.bool true))) (.t 18)) (.o 20 (.mv (.t 19)) (.g 21 20 false (.load 2 true (.t 1)) (.g 22 20 false (.call 84 [.t 21]) (.g 23 20 false (.bin .gtr (.t 22) (.c (.pv (.int .i64 3)))) (.o 24 (.pick (.t 20) (.c (.pv (.bool true))) (.t 23)) (.o 25 (.mv (.t 24)) (.g 26 25 false (.load 2 true (.t 1)) (.g 27 25 false (.fld 0 1 false (.t 1)) (.g 28 25 false (.load 1 false (.t 27)) (.g 29 25 false (.load 2 true (.t 1)) (.g 30 25 false (.call 84 [.t 29]) (.g 31 25 false (.call 85 [.t 26, .t 28, .c (.pv (.int .i64 0)), .c (.pv (.int .i64 99)), .t 30]) (.g 32 25 false (.not (.t 31)) (.o 33 (.pick (.t 25) (.c (.pv (.bool true))) (.t 32)) .nil)))))))))))))))))))))))))))))) (.cond (.t 33) (.seq (.reg 0 (.o 2 (.mv (.c (.pv (.bool false)))) .nil)) .ret) .skip)) (.seq (.reg 0 (.o 34 (.load 2 true (.t 1)) (.o 35 (.fld 0 1 false (.t 1)) (.o 36 (.load 1 false (.t 35)) (.o 37 (.call 86 [.t 34, .t 36]) (.o 3 (.mv (.t 37)) .nil)))))) (.seq (.seq (.reg 0 (.o 4 (.mv (.c (.pv (.int .i64 0)))) .nil)) (.block 0 (.loop (.seq (.seq (.reg 0 (.o 38 (.mv (.t 4)) (.o 39 (.mv (.t 3)) (.o 40 (.len (.t 39)) (.o 41 (.bin .lss (.t 38) (.t 40)) .nil))))) (.cond (.t 41) .skip (.exit 0))) (.seq (.block 1 (.seq (.reg 2 (.o 44 (.mv (.t 3)) (.o 45 (.mv (.t 4)) (.o 46 (.slc 1 (.t 44) none (some (.t 45))) (.o 47 (.mv (.t 3)) (.o 48 (.mv (.t 4)) (.o 49 (.idx 1 (.t 47) (.t 48)) (.o 50 (.load 1 false (.t 49)) (.last ⟨some 51, none, .call 87 [.t 46, .t 50]⟩))))))))) (.cond (.t 51) (.seq (.reg 0 (.o 2 (.mv (.c (.pv (.bool false)))) .nil)) .ret) .skip))) (.reg 0 (.o 42 (.mv (.t 4)) (.o 43 (.bin .add (.t 42) (.c (.pv (.int .i64 1)))) (.o 4 (.mv (.t 43)) .nil))))))))) (.seq (.reg 0 (.o 52 (.mv (.t 3)) (.o 53 (.len (.t 52)) (.o 54 (.fld 1 1 false (.t 1)) (.o 55 (.load 1 false (.t 54)) (.o 56 (.len (.t 55)) (.o 57 (.bin .eql (.t 53) (.t 56)) (.o 2 (.mv (.t 57)) .nil)))))))) .ret)))), [.t 2])) := by kernel_rfl
theorem c_spec_validTree (t : Pt) (hs : smallT t) : PCon prog 49 [ptP t] (fun p => p = .bool (validT t)) := by
 have hsl := hs.1
 have hh1 : 1 ≤ hgtT t := by rw [hgtT]; omega
 refine con_of_VS sl_spec_validTree (by simp) (VS_seq (VS_r0 rfl (q_box rfl rfl rfl trivial (q_mv rfl (rg_nil (VS_seq (VS_seq (VS_r2 _ hmix (Sub.refl _) (q_fld_r rfl (q_load_r rfl rfl rfl rfl rfl rfl rfl (q_len_m rfl (q_callp (c_spec_inRange _ _ _) rfl (Sub.refl _) (q_not rfl (q_mv rfl ?_))))))))))))))
 refine q_b rfl (fun g10 => ?_) (fun g10 => ?_)
 ·try simp at g10
  refine q_t rfl (q_fld_r rfl (q_t rfl (q_load_r rfl rfl rfl rfl rfl rfl rfl (q_t rfl (q_fld_r rfl (q_t rfl (q_load_r rfl rfl rfl rfl rfl rfl rfl (q_t rfl (q_len_m rfl (q_t rfl (q_sub rfl rfl (inR64 (by omega)) (q_t rfl (q_callp (c_spec_inRange _ _ _) rfl (Sub.refl _) (q_t rfl (q_not rfl ?_)))))))))))))))
  refine q_pick_f rfl rfl (q_mv rfl ?_)
  refine q_b rfl (fun g20 => ?_) (fun g20 => ?_)
  ·try simp at g20
   refine q_t rfl (q_load_ra rfl rfl rfl rfl rfl (by (simp; done)) rfl (q_t rfl (q_callp (c_spec_heightOf t hs) rfl (Sub.refl _) (q_t rfl (q_gtr rfl rfl (q_pick_f rfl rfl (q_mv rfl ?_)))))))
   refine q_b rfl (fun g25 => ?_) (fun g25 => ?_)
   ·try simp at g25
    have hin : inT t t.r = true := inT_iff.2 (by omega)
    refine q_t rfl (q_load_ra rfl rfl rfl rfl rfl (by (simp; done)) rfl (q_t rfl (q_fld_r rfl (q_t rfl (q_load_r rfl rfl rfl rfl rfl rfl rfl (q_t rfl (q_load_ra rfl rfl rfl rfl rfl (by (simp; done)) rfl (q_t rfl (q_callp (c_spec_heightOf t hs) rfl (Sub.refl _) (q_t rfl (q_callp ((c_spec_pageFits t hs (by omega) (hgtT t) (by omega) (by omega) t.r 0 99 hin (by omega)).to (y := .bool (okT t (hgtT t) t.r 0 100)) rfl) rfl (Sub.refl _) (q_t rfl (q_not rfl (q_pick_f rfl rfl (rg_nil ?_)))))))))))))))
    refine VS_cond rfl (fun c0 => ?_) (fun c0 => ?_)
    ·try simp at c0
     refine VS_seq (VS_r0 rfl (q_mv rfl (rg_nil (VS_ret ?_))))
     refine Bd.now ⟨_, rfl, congrArg PV.bool ?_⟩
     refine (Bool.eq_false_iff.2 fun hc => ?_).symm
     rw [validT] at hc
     simp only [Bool.and_eq_true, decide_eq_true_eq] at hc
     have h5 := hc.1.1
     have h6 := hc.1.2.1
     have h7 := hc.1.2.2
     have h8 := inT_iff.1 (okT_top h7).2.1
     (simp_all; done)
    ·try simp at c0
     have hok : okT t (hgtT t) t.r 0 100 = true := by simp_all
     have hwl := okT_len hok
     have hp6 : 6 ^ hgtT t ≤ 6 ^ 3 := Nat.pow_le_pow_right (by omega) (by omega)
     refine VS_skip (VS_seq (VS_r0 rfl (q_load_ra rfl rfl rfl rfl rfl (by (simp; done)) rfl (q_fld_r rfl (q_load_r rfl rfl rfl rfl rfl rfl rfl (q_callp (c_spec_walk t hs (hgtT t) t.r (okT_wk hok) (by omega)) rfl trivial (q_mv rfl (rg_nil (VS_seq (VS_seq (VS_r0 rfl (q_mv rfl (rg_nil (VS_block ?_))))))))))))))
     refine VS_bd (Bd.keepL [(1, .ptr 0 0 0), (2, .pv (.bool false)), (3, .pv (ints (wlk t (hgtT t) t.r))), (4, .pv (i64 0))] ⟨rfl, rfl, rfl, rfl, trivial⟩ ?_)
     refine VS_loop (fun mz E S => ∃ j : Nat, mz = (wlk t (hgtT t) t.r).length - j ∧ (j ≤ (wlk t (hgtT t) t.r).length) ∧ (∀ q, q < j → ((wlk t (hgtT t) t.r).take q).contains (nth (wlk t (hgtT t) t.r) q) = false) ∧ E = env [(1, .ptr 0 0 0), (2, .pv (.bool false)), (3, .pv (ints (wlk t (hgtT t) t.r))), (4, .pv (i64 j))] ∧ S = [some ⟨39, 2, [.pv (ptP t)]⟩]) ⟨_, 0, rfl, (by omega), (by omega), rfl, rfl⟩ ?_
     rintro mz _ _ ⟨j, hmeas, g0, g1, rfl, rfl⟩
     refine VS_seq (VS_seq (VS_r0 rfl (q_mv rfl (q_mv rfl (q_len_m rfl (q_lss rfl rfl (rg_nil ?_)))))))
     refine VS_cond rfl (fun c1 => ?_) (fun c1 => ?_)
     ·try simp at c1
      refine VS_skip (VS_seq (VS_block (VS_seq (VS_r2 _ hmix (Sub.refl _) (q_mv rfl (q_mv rfl (q_slc_m (xs := wlk t (hgtT t) t.r) (f := fun k => i64 k) 0 j rfl rfl rfl ⟨rfl, rfl, by omega, by omega⟩ (fun _ => rfl) (q_mv rfl (q_mv rfl (q_idx_m (f := fun k => i64 k) (xs := wlk t (hgtT t) t.r) (n := (j : Int)) rfl rfl (by omega) (by omega) (fun _ => rfl) (q_load_c rfl rfl rfl (q_last (q_callp (c_spec_isIn ((wlk t (hgtT t) t.r).take j) (nth (wlk t (hgtT t) t.r) j) (by simp; omega)) rfl trivial (rg_nil ?_))))))))))))))
      refine VS_cond rfl (fun c2 => ?_) (fun c2 => ?_)
      ·try simp at c2
       refine VS_seq (VS_r0 rfl (q_mv rfl (rg_nil (VS_ret ?_))))
       refine Bd.now ⟨_, rfl, congrArg PV.bool ?_⟩
       have hnd : nodupI (wlk t (hgtT t) t.r) = false := nodup_false j (by omega) (by simpa using c2)
       rw [validT, hnd, Bool.false_and, Bool.and_false]
      ·try simp at c2
       refine VS_skip (VS_r0 rfl (q_mv rfl (q_add rfl rfl (inR64 (by omega)) (q_mv rfl (rg_nil ?_)))))
       refine Bd.keepL [(1, .ptr 0 0 0), (2, .pv (.bool false)), (3, .pv (ints (wlk t (hgtT t) t.r))), (4, .pv (i64 (j + 1)))] ⟨rfl, rfl, rfl, rfl, trivial⟩ ⟨_, ?_, j + 1, rfl, ?_, ?_, rfl, rfl⟩
       ·omega
       ·omega
       ·intro q hq
        by_cases e : q = j
        ·subst e; simpa using c2
        ·exact g1 q (by omega)
     ·try simp at c1
      refine VS_exit (VS_seq (VS_r0 rfl (q_mv rfl (q_len_m rfl (q_fld_r rfl (q_load_r rfl rfl rfl rfl rfl rfl rfl (q_len_m rfl (q_eql rfl rfl (q_mv rfl (rg_nil (VS_ret ?_)))))))))))
      refine Bd.now ⟨_, rfl, congrArg PV.bool ?_⟩
      have hnd : nodupI (wlk t (hgtT t) t.r) = true := nodup_true fun q hq => g1 q (by omega)
      rw [validT, hnd, hok, decide_eq_true (show 1 ≤ t.ps.length by omega), decide_eq_true (show t.ps.length ≤ 16 by omega), decide_eq_true (show hgtT t ≤ 3 by omega)]
      simp only [Bool.true_and]
      exact decide_eq_decide.2 (by omega)
   ·try simp at g25
    refine q_f rfl (q_f rfl (q_f rfl (q_f rfl (q_f rfl (q_f rfl (q_f rfl (q_pick_t rfl rfl (rg_nil ?_))))))))
    refine VS_cond rfl (fun _ => ?_) (fun e => by cases e)
    refine VS_seq (VS_r0 rfl (q_mv rfl (rg_nil (VS_ret ?_))))
    refine Bd.now ⟨_, rfl, congrArg PV.bool ?_⟩
    refine (Bool.eq_false_iff.2 fun hc => ?_).symm
    rw [validT] at hc
    simp only [Bool.and_eq_true, decide_eq_true_eq] at hc
    have h5 := hc.1.1
    have h6 := hc.1.2.1
    have h7 := hc.1.2.2
    have h8 := inT_iff.1 (okT_top h7).2.1
    omega
  ·try simp at g20
   refine q_f rfl (q_f rfl (q_f rfl (q_pick_t rfl rfl (q_mv rfl (q_f rfl (q_f rfl (q_f rfl (q_f rfl (q_f rfl (q_f rfl (q_f rfl (q_pick_t rfl rfl (rg_nil ?_)))))))))))))
   refine VS_cond rfl (fun _ => ?_) (fun e => by cases e)
   refine VS_seq (VS_r0 rfl (q_mv rfl (rg_nil (VS_ret ?_))))
   refine Bd.now ⟨_, rfl, congrArg PV.bool ?_⟩
   refine (Bool.eq_false_iff.2 fun hc => ?_).symm
   rw [validT] at hc
   simp only [Bool.and_eq_true, decide_eq_true_eq] at hc
   have h5 := hc.1.1
   have h6 := hc.1.2.1
   have h7 := hc.1.2.2
   have h8 := inT_iff.1 (okT_top h7).2.1
   omega
 ·try simp at g10
  refine q_f rfl (q_f rfl (q_f rfl (q_f rfl (q_f rfl (q_f rfl (q_f rfl (q_f rfl (q_pick_t rfl rfl (q_mv rfl (q_f rfl (q_f rfl (q_f rfl (q_pick_t rfl rfl (q_mv rfl (q_f rfl ?_)))))))))))))))
  refine q_f rfl (q_f rfl (q_f rfl (q_f rfl (q_f rfl (q_f rfl (q_pick_t rfl rfl (rg_nil ?_)))))))
  refine VS_cond rfl (fun _ => ?_) (fun e => by cases e)
  refine VS_seq (VS_r0 rfl (q_mv rfl (rg_nil (VS_ret ?_))))
  refine Bd.now ⟨_, rfl, congrArg PV.bool ?_⟩
  refine (Bool.eq_false_iff.2 fun hc => ?_).symm
  rw [validT] at hc
  simp only [Bool.and_eq_true, decide_eq_true_eq] at hc
  have h5 := hc.1.1
  have h6 := hc.1.2.1
  have h7 := hc.1.2.2
  have h8 := inT_iff.1 (okT_top h7).2.1
  omega
end Go.V

/- A part of the proofs about laws of the page tree (see the text that bears the law): a small language of steps, its rules, and what the functions of the program return. -/
import Derived.Test.YtanckppjkbfbfaaWKbm
import Derived.Test.YtanckppjkbfbfaaQL
import Derived.Test.YtanckppjkbfbfaaWB
set_option linter.all false
set_option linter.unusedVariables false
set_option linter.unusedSimpArgs false
set_option maxHeartbeats 4000000
namespace Go.V
open Go.Proofs.Try (prog)
theorem zbn (os : List Nat) : ∀ i, i < 0 → os[i]? = some i := fun i hi => absurd hi (Nat.not_lt_zero i)
set_option maxRecDepth 100000
theorem sl_impl_insideOf : slimF prog 41 = some (8, (.seq (.reg 0 (.o 1 (.box 33 3 (.t 0)) (.o 2 (.alloc 55 2 (.agg [.nils, .nils])) .nil))) (.seq (.reg 0 (.o 3 (.fld 0 1 false (.t 1)) (.o 4 (.load 1 false (.t 3)) (.o 5 (.fld 1 1 false (.t 1)) (.o 6 (.load 1 false (.t 5)) (.o 7 (.build [.nils, .nils] [(0, (1, .t 4)), (1, (1, .t 6))]) (.op ⟨none, none, .store 2 (.t 2) (.t 7)⟩ .nil))))))) .ret), [.c 2 2])) := by kernel_rfl
theorem c_impl_insideOf (g : Pg) : PCon prog 41 [pgP g] (fun p => p = innP g.ks g.cs) := by
  refine con_of_VS sl_impl_insideOf (by simp) (VS_seq (VS_r0 rfl (q_box rfl rfl rfl trivial (q_alloc trivial (rg_nil (VS_seq (VS_r0 rfl (q_fld_r rfl (q_load_r rfl rfl rfl rfl rfl rfl rfl (q_fld_r rfl (q_load_r rfl rfl rfl rfl rfl rfl rfl (q_build rfl (q_store rfl rfl rfl rfl rfl rfl ⟨rfl, rfl, by simp, rfl, by simp [isOne]⟩ rfl trivial (rg_nil (VS_ret ?_)))))))))))))))
  exact Bd.now ⟨_, rfl, rfl⟩
theorem sl_impl_PathTo : slimF prog 15 = some (35, (.seq (.reg 0 (.o 2 (.box 25 2 (.t 0)) (.o 4 (.mv (.c .nils)) .nil))) (.seq (.seq (.reg 0 (.o 7 (.load 2 true (.t 2)) (.o 8 (.call 31 [.t 7]) (.o 9 (.not (.t 8)) .nil)))) (.cond (.t 9) (.seq (.reg 0 (.o 4 (.mv (.c .nils)) .nil)) .ret) .skip)) (.seq (.reg 0 (.o 10 (.fld 0 1 false (.t 2)) (.o 11 (.load 1 false (.t 10)) (.o 5 (.mv (.t 11)) .nil)))) (.seq (.reg 0 (.o 12 (.mv (.t 5)) (.o 13 (.lit 3 1 1 [.pv (.int .i64 0)] [(0, .t 12)]) (.o 6 (.mv (.t 13)) .nil)))) (.seq (.block 0 (.loop (.seq (.seq (.reg 0 (.o 14 (.fld 1 1 false (.t 2)) (.o 15 (.load 1 false (.t 14)) (.o 16 (.mv (.t 5)) (.o 17 (.idx 3 (.t 15) (.t 16)) (.o 18 (.fld 1 1 false (.t 17)) (.o 19 (.load 1 false (.t 18)) (.o 20 (.len (.t 19)) (.o 21 (.bin .gtr (.t 20) (.c (.pv (.int .i64 0)))) .nil))))))))) (.cond (.t 21) .skip (.exit 0))) (.block 1 (.seq (.reg 0 (.o 22 (.fld 1 1 false (.t 2)) (.o 23 (.load 1 false (.t 22)) (.o 24 (.mv (.t 5)) (.o 25 (.idx 3 (.t 23) (.t 24)) (.o 26 (.load 3 true (.t 25)) (.o 27 (.call 41 [.t 26]) (.o 28 (.mv (.t 1)) (.o 29 (.call 40 [.t 27, .t 28]) (.o 5 (.mv (.t 29)) .nil)))))))))) (.reg 0 (.o 30 (.mv (.t 6)) (.o 31 (.mv (.t 5)) (.o 32 (.lit 3 1 1 [.pv (.int .i64 0)] [(0, .t 31)]) (.o 33 (.app 3 1 8 (.t 30) (.t 32)) (.o 6 (.mv (.t 33)) .nil))))))))))) (.seq (.reg 0 (.o 34 (.mv (.t 6)) (.o 4 (.mv (.t 34)) .nil))) .ret))))), [.t 4])) := by kernel_rfl
theorem c_impl_PathTo (t : Pt) (hs : smallT t) (k : Int) : PCon prog 15 [ptP t, i64 k] (fun p => p = ints (if validT t then pthT t k else [])) := by
  refine con_of_VS sl_impl_PathTo (by simp) (VS_seq (VS_r0 rfl (q_box rfl rfl rfl trivial (q_mv rfl (rg_nil (VS_seq (VS_seq (VS_r0 rfl (q_load_ra rfl rfl rfl rfl rfl (by (simp; done)) rfl (q_callp (c_impl_ValidTree t hs) rfl trivial (q_not rfl (rg_nil ?_))))))))))))
  refine VS_cond rfl (fun c0 => ?_) (fun c0 => ?_)
  · try simp at c0
    have hv : validT t = false := by simpa using c0
    refine VS_seq (VS_r0 rfl (q_mv rfl (rg_nil (VS_ret ?_))))
    exact Bd.now ⟨_, rfl, by rw [hv]; rfl⟩
  · try simp at c0
    have hv : validT t = true := by simpa using c0
    have hok := (valid_ok hv).2.2.1
    have hh3 := (valid_ok hv).2.1
    refine VS_skip (VS_seq (VS_r0 rfl (q_fld_r rfl (q_load_r rfl rfl rfl rfl rfl rfl rfl (q_mv rfl (rg_nil (VS_seq (VS_r0 rfl (q_mv rfl (q_lito (xs := [i64 t.r]) rfl rfl rfl rfl (q_mv rfl (rg_nil (VS_seq (VS_block ?_))))))))))))))
    refine VS_bd (Bd.keepL [(1, .pv (i64 k)), (2, .ptr 0 0 0), (5, .pv (i64 (t.r))), (6, ownD 1 (dI (([]) ++ [(t.r)])))] ⟨rfl, rfl, rfl, rfl, trivial⟩ ?_)
    refine VS_loop (fun mz E S => ∃ m : Nat, ∃ i : Int, ∃ zs : List Int, mz = m ∧ (∃ lo hi, okT t m i lo hi = true) ∧ (pth t k (hgtT t) t.r = zs ++ pth t k m i) ∧ (zs.length + m ≤ 3) ∧ E = env [(1, .pv (i64 k)), (2, .ptr 0 0 0), (5, .pv (i64 i)), (6, ownD 1 (dI (zs ++ [i])))] ∧ S = [some ⟨25, 2, [.pv (ptP t)]⟩, obD 3 1 (dI (zs ++ [i]))]) ⟨_, hgtT t, t.r, [], rfl, ⟨0, 100, hok⟩, rfl, (by simp; omega), rfl, rfl⟩ ?_
    rintro mz _ _ ⟨m, i, zs, hmeas, gm, g1, g2, rfl, rfl⟩
    have hi2 := inT_iff.1 (okT_top (Classical.choose_spec (Classical.choose_spec gm))).2.1
    have hml := (okT_top (Classical.choose_spec (Classical.choose_spec gm))).1
    refine VS_seq (VS_seq (VS_r0 rfl (q_fld_r rfl (q_load_r rfl rfl rfl rfl rfl rfl rfl (q_mv rfl (q_idx_m (f := pgP) (xs := t.ps) (n := i) rfl rfl (by omega) (by omega) (fun _ => rfl) (q_fld_c rfl rfl (q_load_c rfl rfl rfl (q_len_m rfl (q_gtr rfl rfl (rg_nil ?_)))))))))))
    refine VS_cond rfl (fun c1 => ?_) (fun c1 => ?_)
    · try simp at c1
      have hsz := hs.2 i hi2.1 hi2.2
      have hm2 := Classical.choose_spec (Classical.choose_spec gm)
      obtain ⟨m2, rfl⟩ : ∃ m2, m = m2 + 1 := ⟨m - 1, by have := (okT_top hm2).1; omega⟩
      have hc0 : 0 < (pg t i).cs.length := by first | exact c1 | omega | (exact List.length_pos_iff.2 c1) | (simp at c1; omega)
      have hm0 : m2 ≠ 0 := fun e => by subst e; have := (okT_leaf.1 hm2).2; omega
      have hm3 := (okT_inner hm0).1 hm2
      have hfi := fill_inner hm3.1.2.1 (by omega)
      have hfj : (nth t.ps i.toNat).cs.length = (nth t.ps i.toNat).ks.length + 1 := hfi.1
      have hfk : (nth t.ps i.toNat).ks.length ≤ 4 := hfi.2.2.1
      have hfl : (pg t i).cs.length = (nth t.ps i.toNat).cs.length := rfl
      have hgi : goodInner (nth t.ps i.toNat).ks (nth t.ps i.toNat).cs = true := inner_good hv (inT_iff.2 hi2) (by omega)
      have hut := upTo_le (nth t.ps i.toNat).ks k
      refine VS_skip (VS_block (VS_seq (VS_r0 rfl (q_fld_r rfl (q_load_r rfl rfl rfl rfl rfl rfl rfl (q_mv rfl (q_idx_m (f := pgP) (xs := t.ps) (n := i) rfl rfl (by omega) (by omega) (fun _ => rfl) (q_load_c rfl rfl rfl (q_callp (c_impl_insideOf (nth t.ps i.toNat)) rfl trivial (q_mv rfl (q_callp ((c_impl_RouteKey (nth t.ps i.toNat).ks (nth t.ps i.toNat).cs k (by omega) (by omega)).to (y := i64 (nth (nth t.ps i.toNat).cs (upTo (nth t.ps i.toNat).ks k))) (by rw [if_pos hgi])) rfl trivial (q_mv rfl (rg_nil (VS_r0 rfl (q_mv rfl ?_)))))))))))))))
      refine q_mv rfl (q_lit (xs := [i64 (nth (nth t.ps i.toNat).cs (upTo (nth t.ps i.toNat).ks k))]) rfl rfl rfl rfl (q_app_dm (xs := zs ++ [i]) (ys := [nth (nth t.ps i.toNat).cs (upTo (nth t.ps i.toNat).ks k)]) (f := fun k => .pv (i64 k)) rfl rfl rfl rfl ⟨by simp; omega, by simp; omega⟩ trivial (q_mv rfl (rg_nil ?_))))
      refine Bd.renL [0, 2] (zbn _) (by simp) [(1, .pv (i64 k)), (2, .ptr 0 0 0), (5, .pv (i64 ((nth (nth t.ps i.toNat).cs (upTo (nth t.ps i.toNat).ks k))))), (6, ownD 1 (dI (((zs ++ [i])) ++ [((nth (nth t.ps i.toNat).cs (upTo (nth t.ps i.toNat).ks k)))])))] ⟨rfl, rfl, rfl, inv_own rfl, trivial⟩ (l2 rfl (obD_mI _)) ⟨_, ?_, m2, (nth (nth t.ps i.toNat).cs (upTo (nth t.ps i.toNat).ks k)), (zs ++ [i]), rfl, ?_, ?_, ?_, rfl, rfl⟩
      · omega
      · exact ⟨_, _, hm3.2.2 _ (by omega)⟩
      · rw [g1, pth_inner (by omega), List.append_assoc]; rfl
      · simp; omega
    · try simp at c1
      refine VS_exit (VS_seq (VS_r0 rfl (q_mv rfl (q_mv rfl (rg_nil (VS_ret ?_))))))
      have hc1 : (pg t i).cs.length = 0 := by first | omega | simp_all
      obtain ⟨m2, rfl⟩ : ∃ m2, m = m2 + 1 := ⟨m - 1, by omega⟩
      refine Bd.pureB 4 1 3 1 (xs := dI (zs ++ [i])) rfl rfl (toPVs_dI _) ?_
      exact Bd.now ⟨_, rfl, by rw [if_pos hv, pthT, g1, pth_leaf hc1]⟩
end Go.V

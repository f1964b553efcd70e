/- A part of the proofs about laws of the page tree (see the text that bears the law): a small language of steps, its rules, and what the functions of the program return. -/
import Derived.Test.YtgblkaealpggdaaWKcu
set_option linter.all false
set_option linter.unusedVariables false
set_option linter.unusedSimpArgs false
set_option maxHeartbeats 4000000
namespace Go.V
open Go.Proofs.Try (prog)
set_option maxRecDepth 100000
theorem sl_impl_RenumberTree : slimF prog 24 = some (72, (.seq (.reg 0 (.o 1 (.box 39 2 (.t 0)) (.o 2 (.alloc 39 2 (.agg [.pv (.int .i64 0), .nils])) (.o 3 (.mv (.c (.pv (.bool false)))) .nil)))) (.seq (.seq (.reg 0 (.o 15 (.load 2 true (.t 1)) (.o 16 (.call 22 [.t 15]) (.o 17 (.not (.t 16)) .nil)))) (.cond (.t 17) (.seq (.reg 0 (.o 18 (.build [.pv (.int .i64 0), .nils] []) (.op ⟨none, none, .store 2 (.t 2) (.t 18)⟩ (.o 3 (.mv (.c (.pv (.bool false)))) .nil)))) .ret) .skip)) (.seq (.reg 0 (.o 19 (.load 2 true (.t 1)) (.o 20 (.fld 0 1 false (.t 1)) (.o 21 (.load 1 false (.t 20)) (.o 22 (.call 54 [.t 19, .t 21, .c .nils]) (.o 4 (.mv (.t 22)) .nil)))))) (.seq (.reg 0 (.o 5 (.alloc 70 16 (.agg [.pv (.int .i64 0), .pv (.int .i64 0), .pv (.int .i64 0), .pv (.int .i64 0), .pv (.int .i64 0), .pv (.int .i64 0), .pv (.int .i64 0), .pv (.int .i64 0), .pv (.int .i64 0), .pv (.int .i64 0), .pv (.int .i64 0), .pv (.int .i64 0), .pv (.int .i64 0), .pv (.int .i64 0), .pv (.int .i64 0), .pv (.int .i64 0)])) .nil)) (.seq (.seq (.reg 0 (.o 23 (.mv (.t 4)) (.o 24 (.len (.t 23)) (.o 25 (.mv (.c (.pv (.int .i64 0)))) .nil)))) (.block 0 (.loop (.seq (.reg 0 (.o 26 (.bin .lss (.t 25) (.t 24)) .nil)) (.seq (.cond (.t 26) .skip (.exit 0)) (.seq (.block 1 (.seq (.reg 0 (.o 27 (.mv (.t 25)) (.o 28 (.idx 1 (.t 23) (.t 25)) (.o 29 (.load 1 false (.t 28)) (.o 6 (.mv (.t 27)) (.o 7 (.mv (.t 29)) .nil)))))) (.reg 0 (.o 30 (.mv (.t 7)) (.o 31 (.mv (.t 6)) (.o 32 (.aidx 16 1 (.t 5) (.t 30)) (.op ⟨none, none, .store 1 (.t 32) (.t 31)⟩ .nil))))))) (.reg 0 (.o 33 (.bin .add (.t 25) (.c (.pv (.int .i64 1)))) (.o 25 (.mv (.t 33)) .nil))))))))) (.seq (.reg 0 (.o 34 (.load 2 true (.t 1)) (.o 35 (.call 55 [.t 34]) (.o 8 (.alloc 39 2 (.agg [.pv (.int .i64 0), .nils])) (.op ⟨none, none, .store 2 (.t 8) (.t 35)⟩ .nil))))) (.seq (.reg 0 (.o 36 (.build [.pv (.int .i64 0), .nils] [(0, (1, .c (.pv (.int .i64 0))))]) (.o 9 (.alloc 39 2 (.agg [.pv (.int .i64 0), .nils])) (.op ⟨none, none, .store 2 (.t 9) (.t 36)⟩ .nil)))) (.seq (.seq (.reg 0 (.o 37 (.mv (.t 4)) (.o 38 (.len (.t 37)) (.o 39 (.mv (.c (.pv (.int .i64 0)))) .nil)))) (.block 2 (.loop (.seq (.reg 0 (.o 40 (.bin .lss (.t 39) (.t 38)) .nil)) (.seq (.cond (.t 40) .skip (.exit 2)) (.seq (.block 3 (.seq (.reg 0 (.o 41 (.idx 1 (.t 37) (.t 39)) (.o 42 (.load 1 false (.t 41)) (.o 11 (.mv (.t 42)) .nil)))) (.seq (.reg 0 (.o 43 (.fld 1 1 false (.t 8)) (.o 44 (.load 1 false (.t 43)) (.o 45 (.mv (.t 11)) (.o 46 (.idx 3 (.t 44) (.t 45)) (.o 47 (.load 3 true (.t 46)) (.o 12 (.alloc 25 3 (.agg [.nils, .nils, .nils])) (.op ⟨none, none, .store 3 (.t 12) (.t 47)⟩ .nil)))))))) (.seq (.seq (.reg 0 (.o 48 (.fld 1 1 false (.t 12)) (.o 49 (.load 1 false (.t 48)) (.o 50 (.len (.t 49)) (.o 51 (.mv (.c (.pv (.int .i64 0)))) .nil))))) (.block 4 (.loop (.seq (.reg 0 (.o 52 (.bin .lss (.t 51) (.t 50)) .nil)) (.seq (.cond (.t 52) .skip (.exit 4)) (.seq (.block 5 (.seq (.reg 0 (.o 53 (.mv (.t 51)) (.o 54 (.idx 1 (.t 49) (.t 51)) (.o 55 (.load 1 false (.t 54)) (.o 13 (.mv (.t 53)) (.o 14 (.mv (.t 55)) .nil)))))) (.reg 2 (.o 56 (.fld 1 1 false (.t 12)) (.o 57 (.load 1 false (.t 56)) (.o 58 (.mv (.t 13)) (.o 59 (.mv (.t 14)) (.o 60 (.aidx 16 1 (.t 5) (.t 59)) (.o 61 (.load 1 false (.t 60)) (.o 62 (.idx 1 (.t 57) (.t 58)) (.last ⟨none, none, .store 1 (.t 62) (.t 61)⟩))))))))))) (.reg 0 (.o 63 (.bin .add (.t 51) (.c (.pv (.int .i64 1)))) (.o 51 (.mv (.t 63)) .nil))))))))) (.reg 0 (.o 64 (.fld 1 1 false (.t 9)) (.o 65 (.load 1 false (.t 64)) (.o 66 (.load 3 true (.t 12)) (.o 67 (.lit 25 3 1 [.nils, .nils, .nils] [(0, .t 66)]) (.o 68 (.app 25 3 72 (.t 65) (.t 67)) (.o 69 (.fld 1 1 false (.t 9)) (.op ⟨none, none, .store 1 (.t 69) (.t 68)⟩ .nil)))))))))))) (.reg 0 (.o 70 (.bin .add (.t 39) (.c (.pv (.int .i64 1)))) (.o 39 (.mv (.t 70)) .nil))))))))) (.seq (.reg 0 (.o 71 (.load 2 true (.t 9)) (.op ⟨none, none, .store 2 (.t 2) (.t 71)⟩ (.o 3 (.mv (.c (.pv (.bool true)))) .nil)))) .ret)))))))), [.c 2 2, .t 3])) := by kernel_rfl
theorem c_impl_RenumberTree (t : Pt) (hs : smallT t) : PCon prog 24 [ptP t] (fun p => p = .tup [ptP (if validT t then rnT t else ⟨0, []⟩), .bool (validT t)]) := by
 refine con_of_VS sl_impl_RenumberTree (by simp) (VS_seq (VS_r0 rfl (q_box rfl rfl rfl trivial (q_alloc trivial (q_mv rfl (rg_nil (VS_seq (VS_seq (VS_r0 rfl (q_load_ra rfl rfl rfl rfl rfl (by (simp; done)) rfl (q_callp (c_impl_ValidTree t hs) rfl trivial (q_not rfl (rg_nil ?_)))))))))))))
 refine VS_cond rfl (fun c0 => ?_) (fun c0 => ?_)
 ·try simp at c0
  have hv : validT t = false := by simpa using c0
  refine VS_seq (VS_r0 rfl (q_build rfl (q_store rfl rfl rfl rfl rfl rfl ⟨rfl, rfl, by simp, rfl, by simp [isOne]⟩ rfl trivial (q_mv rfl (rg_nil (VS_ret ?_))))))
  exact Bd.now ⟨_, rfl, by rw [hv]; rfl⟩
 ·try simp at c0
  have hv : validT t = true := by simpa using c0
  have hvf := valid_facts hv
  have hf := ordF hv
  have hwl := hf.len
  have hn1 := hf.n1
  refine VS_skip (VS_seq (VS_r0 rfl (q_load_ra rfl rfl rfl rfl rfl (by (simp; done)) rfl (q_fld_r rfl (q_load_r rfl rfl rfl rfl rfl rfl rfl ?_)))))
  refine q_apps0 (zs := ordT t) rfl (show AppS prog 54 3 [ptP t, i64 t.r] [] (ordT t) from c_impl_orderBelow t hs (hgtT t) t.r [] hvf.wk (by have := hvf.n16; simp; omega)) (by repeat (first | exact trivial | refine ⟨.inl rfl, ?_⟩ | refine ⟨.inr ⟨_, rfl, rfl⟩, ?_⟩)) trivial ?_
  refine q_mv rfl (rg_nil ?_)
  refine VS_bd (Bd.pure 4 2 3 1 (xs := dI (ordT t)) rfl rfl (toPVs_dI _) ?_)
  refine VS_seq (VS_r0 rfl (q_alloc trivial (rg_nil (VS_seq (VS_seq (VS_r0 rfl (q_mv rfl (q_len_m rfl (q_mv rfl (rg_nil (VS_block ?_)))))))))))
  refine VS_bd (Bd.keepL [(1, .ptr 0 0 0), (2, .ptr 1 0 0), (4, .pv (ints (ordT t))), (5, .ptr 3 0 0), (23, .pv (ints (ordT t))), (24, .pv (i64 (ordT t).length)), (25, .pv (i64 0))] ⟨rfl, rfl, rfl, rfl, rfl, rfl, rfl, trivial⟩ ?_)
  refine VS_loop (fun mz E S => ∃ i : Nat, ∃ N : List Int, mz = (ordT t).length - i ∧ (i ≤ (ordT t).length) ∧ (N.length = 16) ∧ (∀ j, j < i → nth N (nth (ordT t) j).toNat = (j : Int)) ∧ E = env [(1, .ptr 0 0 0), (2, .ptr 1 0 0), (4, .pv (ints (ordT t))), (5, .ptr 3 0 0), (23, .pv (ints (ordT t))), (24, .pv (i64 (ordT t).length)), (25, .pv (i64 i))] ∧ S = [some ⟨39, 2, [.pv (ptP t)]⟩, some ⟨39, 2, [.agg [.pv (i64 0), .nils]]⟩, none, some ⟨70, 16, [.agg (dI N)]⟩]) ⟨_, 0, List.replicate 16 0, rfl, (by omega), rfl, (by omega), rfl, rfl⟩ ?_
  rintro mz _ _ ⟨i, N, hmeas, g0, gN, gn, rfl, rfl⟩
  refine VS_seq (VS_r0 rfl (q_lss rfl rfl (rg_nil (VS_seq ?_))))
  refine VS_cond rfl (fun c1 => ?_) (fun c1 => ?_)
  ·try simp at c1
   have hr := hf.rg _ (nth_mem (xs := ordT t) (i := i) (by omega))
   refine VS_skip (VS_seq (VS_block (VS_seq (VS_r0 rfl (q_mv rfl (q_idx_at (f := fun k => i64 k) (xs := ordT t) (m := i) rfl rfl (by omega) (fun _ => rfl) (q_load_c rfl rfl rfl (q_mv rfl (q_mv rfl (rg_nil (VS_r0 rfl (q_mv rfl (q_mv rfl (q_aidx_r rfl rfl ⟨by omega, by omega⟩ ?_))))))))))))))
   refine q_store (o := 3) (i := 0) (j := 0 + (nth (ordT t) i).toNat * 1) (e := .agg (dI N)) (z := .agg (dI (N.set (nth (ordT t) i).toNat i))) rfl rfl rfl rfl rfl rfl ⟨by rw [List.length_map]; exact gN, rfl, by show _ + 1 ≤ 16; omega, rfl, by simp [isOne]⟩ (congrArg D.agg ((congrArg (fun q => setAt (dI N) q _) (by omega)).trans (setAt_dI (by omega)))) trivial ?_
   refine rg_nil (VS_r0 rfl (q_add rfl rfl (inR64 (by omega)) (q_mv rfl (rg_nil ?_))))
   refine Bd.keepL [(1, .ptr 0 0 0), (2, .ptr 1 0 0), (4, .pv (ints (ordT t))), (5, .ptr 3 0 0), (23, .pv (ints (ordT t))), (24, .pv (i64 (ordT t).length)), (25, .pv (i64 (i + 1)))] ⟨rfl, rfl, rfl, rfl, rfl, rfl, rfl, trivial⟩ ⟨_, ?_, i + 1, N.set (nth (ordT t) i).toNat i, rfl, ?_, ?_, ?_, rfl, rfl⟩
   ·omega
   ·omega
   ·rw [List.length_set]; exact gN
   ·exact num_step hf gN (by omega) gn
  ·try simp at c1
   refine VS_exit ?_
   refine VS_join (fun E S => RnA 39 25 3 70 t N S ∧ E = env [(2, .ptr 1 0 0), (4, .pv (ints (ordT t))), (5, .ptr 3 0 0), (8, .ptr (8 + 2 * t.ps.length) 0 0)]) ?_ ?_
   ·skip
    refine VS_r0 rfl (q_load_ra rfl rfl rfl rfl rfl (by (simp; done)) rfl ?_)
    refine q_copyK (T := t) (show CpC prog 55 25 3 t from c_impl_copyTree_k t hs) (by repeat (first | exact trivial | refine ⟨.inl rfl, ?_⟩ | refine ⟨.inr ⟨_, rfl, rfl⟩, ?_⟩)) ?_
    intro S1 hp1 hk1 hl1
    refine q_alloc trivial (q_store (o := S1.length) (i := 0) (j := 0) rfl rfl app_last rfl rfl rfl ⟨rfl, rfl, by simp, by first | rfl | simp [setAt, isCell_own, isCell_sl, isCell_int, isCell_nils], by simp [isOne, zG]⟩ rfl trivial (rg_nil ?_))
    exact Bd.keepL [(2, .ptr 1 0 0), (4, .pv (ints (ordT t))), (5, .ptr 3 0 0), (8, .ptr S1.length 0 0)] ⟨rfl, rfl, rfl, rfl, trivial⟩ ⟨rnA hp1 rfl rfl hk1 hl1, by rw [hl1]; rfl⟩
   ·rintro _ S2 ⟨hA, rfl⟩
    refine VS_seq (VS_r0 rfl (q_build rfl (q_alloc trivial (q_store (o := S2.length) (i := 0) (j := 0) rfl rfl app_last rfl rfl rfl ⟨rfl, rfl, by simp, by first | rfl | simp [setAt, isCell_own, isCell_sl, isCell_int, isCell_nils], by simp [isOne, zG]⟩ rfl trivial (rg_nil (VS_seq (VS_seq (VS_r0 rfl (q_mv rfl (q_len_m rfl (q_mv rfl (rg_nil (VS_block ?_)))))))))))))
    have hN : NumF t N := num_all hf gN fun j hj => gn j (by omega)
    refine VS_bd (Bd.pad ?_)
    refine VS_bd (Bd.keepL [(2, .ptr 1 0 0), (5, .ptr 3 0 0), (8, .ptr (8 + 2 * t.ps.length) 0 0), (9, .ptr S2.length 0 0), (37, .pv (ints (ordT t))), (38, .pv (i64 (ordT t).length)), (39, .pv (i64 ((0 : Nat) : Int)))] ⟨rfl, rfl, rfl, rfl, rfl, rfl, rfl, trivial⟩ ?_)
    refine VS_loop (fun mz E S => ∃ i l : Nat, mz = (ordT t).length - i ∧ i ≤ (ordT t).length ∧ RnI 39 25 3 70 t N i l S ∧ E = env [(2, .ptr 1 0 0), (5, .ptr 3 0 0), (8, .ptr (8 + 2 * t.ps.length) 0 0), (9, .ptr (9 + 2 * t.ps.length) 0 0), (37, .pv (ints (ordT t))), (38, .pv (i64 (ordT t).length)), (39, .pv (i64 i))]) ⟨_, 0, _, rfl, by omega, rnI hA, by rw [hA.len]⟩ ?_
    rintro mz2 _ S3 ⟨i, l, hmeas2, g2, hI, rfl⟩
    refine VS_seq (VS_r0 rfl (q_lss rfl rfl (rg_nil (VS_seq ?_))))
    refine VS_cond rfl (fun c2 => ?_) (fun c2 => ?_)
    ·try simp at c2
     have hr := hf.rg _ (nth_mem (xs := ordT t) (i := i) (by omega))
     have hx : (nth (ordT t) i).toNat < t.ps.length := by omega
     have hcz : (nth t.ps (nth (ordT t) i).toNat).cs.length ≤ 1000000 := (hs.2 (nth (ordT t) i) hr.1 hr.2).2.1
     refine VS_skip (VS_seq (VS_block (VS_seq (VS_r0 rfl (q_idx_at (f := fun k => i64 k) (xs := ordT t) (m := i) rfl rfl (by omega) (fun _ => rfl) (q_load_c rfl rfl rfl (q_mv rfl (rg_nil ?_))))))))
     refine VS_join (fun E S => RnJ 39 25 3 70 t N i 0 l S3.length (nth (ordT t) i).toNat S ∧ E = env [(2, .ptr 1 0 0), (5, .ptr 3 0 0), (8, .ptr (8 + 2 * t.ps.length) 0 0), (9, .ptr (9 + 2 * t.ps.length) 0 0), (37, .pv (ints (ordT t))), (38, .pv (i64 (ordT t).length)), (39, .pv (i64 i)), (12, .ptr S3.length 0 0)]) ?_ ?_
     ·skip
      refine VS_r0 rfl (q_fld_r rfl (q_load_r rfl hI.h8 rfl rfl rfl rfl rfl (q_mv rfl (q_idx_o (ob := ⟨25, 3, dK 8 t.ps.length t.ps⟩) rfl rfl (by omega) (by omega) hI.pag rfl ?_))))
      refine q_load_ra (ds := [.pv (ints (nth t.ps (nth (ordT t) i).toNat).ks), ownD (8 + 2 * (nth (ordT t) i).toNat + 1) (dI (nth t.ps (nth (ordT t) i).toNat).cs), .pv (ints (nth t.ps (nth (ordT t) i).toNat).vs)]) rfl hI.pag (by show (dK 8 t.ps.length t.ps)[(nth (ordT t) i).toNat]? = _; rw [dK_at hx, if_pos hx]) rfl rfl (by simp) rfl ?_
      refine q_alloc trivial (q_store (o := S3.length) (i := 0) (j := 0) (e := zG) rfl rfl app_last rfl rfl rfl ⟨rfl, rfl, by simp, by first | rfl | simp [setAt, isCell_own, isCell_sl, isCell_int, isCell_nils], by simp [isOne, zG]⟩ rfl trivial (rg_nil ?_))
      exact Bd.keepL [(2, .ptr 1 0 0), (5, .ptr 3 0 0), (8, .ptr (8 + 2 * t.ps.length) 0 0), (9, .ptr (9 + 2 * t.ps.length) 0 0), (37, .pv (ints (ordT t))), (38, .pv (i64 (ordT t).length)), (39, .pv (i64 i)), (12, .ptr S3.length 0 0)] ⟨rfl, rfl, rfl, rfl, rfl, rfl, rfl, rfl, trivial⟩ ⟨hI.next hf (by omega), rfl⟩
     ·rintro _ S4 ⟨hJ0, rfl⟩
      refine VS_seq (VS_seq (VS_r0 rfl (q_fld_r rfl (q_load_o rfl hJ0.pg rfl rfl rfl (q_len_dm rfl (q_mv rfl (rg_nil (VS_block ?_))))))))
      refine VS_bd (Bd.keepL [(2, .ptr 1 0 0), (5, .ptr 3 0 0), (8, .ptr (8 + 2 * t.ps.length) 0 0), (9, .ptr (9 + 2 * t.ps.length) 0 0), (37, .pv (ints (ordT t))), (38, .pv (i64 (ordT t).length)), (39, .pv (i64 i)), (12, .ptr S3.length 0 0), (49, ownD (8 + 2 * (nth (ordT t) i).toNat + 1) (dI (nth t.ps (nth (ordT t) i).toNat).cs)), (50, .pv (i64 (nth t.ps (nth (ordT t) i).toNat).cs.length)), (51, .pv (i64 ((0 : Nat) : Int)))] ⟨rfl, rfl, rfl, rfl, rfl, rfl, rfl, rfl, rfl, rfl, rfl, trivial⟩ ?_)
      refine VS_loop (fun mz E S => ∃ k : Nat, mz = (nth t.ps (nth (ordT t) i).toNat).cs.length - k ∧ k ≤ (nth t.ps (nth (ordT t) i).toNat).cs.length ∧ RnJ 39 25 3 70 t N i k l S3.length (nth (ordT t) i).toNat S ∧ E = env [(2, .ptr 1 0 0), (5, .ptr 3 0 0), (8, .ptr (8 + 2 * t.ps.length) 0 0), (9, .ptr (9 + 2 * t.ps.length) 0 0), (37, .pv (ints (ordT t))), (38, .pv (i64 (ordT t).length)), (39, .pv (i64 i)), (12, .ptr S3.length 0 0), (49, ownD (8 + 2 * (nth (ordT t) i).toNat + 1) (dI (nth t.ps (nth (ordT t) i).toNat).cs)), (50, .pv (i64 (nth t.ps (nth (ordT t) i).toNat).cs.length)), (51, .pv (i64 k))]) ⟨_, 0, rfl, by omega, hJ0, rfl⟩ ?_
      rintro mz3 _ S5 ⟨k, hmeas3, g3, hJ, rfl⟩
      refine VS_seq (VS_r0 rfl (q_lss rfl rfl (rg_nil (VS_seq ?_))))
      refine VS_cond rfl (fun c3 => ?_) (fun c3 => ?_)
      ·try simp at c3
       have hkm := hf.kid ((nth (ordT t) i).toNat : Int) (inT_iff.2 (by omega)) (nth (nth t.ps (nth (ordT t) i).toNat).cs k) (nth_mem (xs := (nth t.ps (nth (ordT t) i).toNat).cs) (by omega))
       have hk2 := inT_iff.1 hkm
       have hnk := hN.at_ (nth (nth t.ps (nth (ordT t) i).toNat).cs k) (hf.all _ hkm)
       have hNl := hN.len
       refine VS_skip (VS_seq (VS_block (VS_seq (VS_r0 rfl (q_mv rfl ?_)))))
       refine q_idx_d (ty := 3) (xs := dI (halfC t (nth (ordT t) i).toNat k)) (ownD_len (by simp [half_len (show k ≤ (nth t.ps (nth (ordT t) i).toNat).cs.length by omega)]) : ownD (8 + 2 * (nth (ordT t) i).toNat + 1) (dI (nth t.ps (nth (ordT t) i).toNat).cs) = ownD (8 + 2 * (nth (ordT t) i).toNat + 1) (dI (halfC t (nth (ordT t) i).toNat k))) rfl (by omega) (by rw [List.length_map, half_len (by omega)]; omega) hJ.cur ?_
       rw [Int.toNat_natCast]
       refine q_load_d (ty := 3) (xs := (halfC t (nth (ordT t) i).toNat k)) (f := fun k => .pv (i64 k)) rfl hJ.cur (by rw [half_len (by omega)]; omega) rfl rfl rfl ?_
       rw [half_at (show k < (nth t.ps (nth (ordT t) i).toNat).cs.length by omega)]
       refine q_mv rfl (q_mv rfl (rg_nil (VS_r2 _ hmix (Sub.refl _) (q_fld_r rfl (q_load_o rfl hJ.pg rfl rfl rfl (q_mv rfl (q_mv rfl (q_aidx_r rfl rfl ⟨by omega, by omega⟩ ?_))))))))
       refine q_load_r (d := .pv (i64 (rnC (ordT t) (nth (nth t.ps (nth (ordT t) i).toNat).cs k)))) rfl hJ.num rfl rfl (by rw [List.length_map]; exact hNl) (by rw [List.getElem?_map, List.getElem?_eq_getElem (by omega), ← nth_eq, ← hnk]; simp) rfl ?_
       refine q_idx_d (ty := 3) (xs := dI (halfC t (nth (ordT t) i).toNat k)) (ownD_len (by simp [half_len (show k ≤ (nth t.ps (nth (ordT t) i).toNat).cs.length by omega)]) : ownD (8 + 2 * (nth (ordT t) i).toNat + 1) (dI (nth t.ps (nth (ordT t) i).toNat).cs) = ownD (8 + 2 * (nth (ordT t) i).toNat + 1) (dI (halfC t (nth (ordT t) i).toNat k))) rfl (by omega) (by rw [List.length_map, half_len (by omega)]; omega) hJ.cur ?_
       refine q_last ?_
       rw [Int.toNat_natCast]
       refine q_store_d (ty := 3) (xs := (halfC t (nth (ordT t) i).toNat k)) (v := rnC (ordT t) (nth (nth t.ps (nth (ordT t) i).toNat).cs k)) rfl rfl hJ.cur (by rw [half_len (by omega)]; omega) trivial (rg_nil (VS_r0 rfl (q_add rfl rfl (inR64 (by omega)) (q_mv rfl (rg_nil ?_)))))
       refine Bd.keepL [(2, .ptr 1 0 0), (5, .ptr 3 0 0), (8, .ptr (8 + 2 * t.ps.length) 0 0), (9, .ptr (9 + 2 * t.ps.length) 0 0), (37, .pv (ints (ordT t))), (38, .pv (i64 (ordT t).length)), (39, .pv (i64 i)), (12, .ptr S3.length 0 0), (49, ownD (8 + 2 * (nth (ordT t) i).toNat + 1) (dI (nth t.ps (nth (ordT t) i).toNat).cs)), (50, .pv (i64 (nth t.ps (nth (ordT t) i).toNat).cs.length)), (51, .pv (i64 ((k + 1 : Nat) : Int)))] ⟨rfl, rfl, rfl, rfl, rfl, rfl, rfl, rfl, rfl, rfl, rfl, trivial⟩ ⟨_, ?_, k + 1, rfl, by omega, hJ.step hx (by omega), rfl⟩
       omega
      ·try simp at c3
       refine VS_exit ?_
       have ek : k = (nth t.ps (nth (ordT t) i).toNat).cs.length := by omega
       rw [ek] at hJ
       refine VS_r0 rfl (q_fld_r rfl (q_load_o rfl hJ.h9 rfl rfl rfl (q_load_ra rfl hJ.pg rfl rfl rfl (by simp) rfl (q_litA (xs := [[.pv (ints (nth t.ps (nth (ordT t) i).toNat).ks), ownD (8 + 2 * (nth (ordT t) i).toNat + 1) (dI (nth t.ps (nth (ordT t) i).toNat).cs), .pv (ints (nth t.ps (nth (ordT t) i).toNat).vs)]]) rfl rfl rfl rfl (q_app_k (l := l) rfl rfl (by omega) ⟨by omega, rfl⟩ hJ.lst (q_fld_r rfl (q_storeF (o := (9 + 2 * t.ps.length)) (k := S5.length + 1) (xs := dRn t (i + 1)) rfl rfl (app_get (set_get (app_get hJ.h9) (by have := hJ.lo; omega))) rfl rfl (by simp) trivial (rg_nil (VS_r0 rfl (q_add rfl rfl (inR64 (by omega)) (q_mv rfl (rg_nil ?_))))))))))))
       refine Bd.keepL [(2, .ptr 1 0 0), (5, .ptr 3 0 0), (8, .ptr (8 + 2 * t.ps.length) 0 0), (9, .ptr (9 + 2 * t.ps.length) 0 0), (37, .pv (ints (ordT t))), (38, .pv (i64 (ordT t).length)), (39, .pv (i64 ((i + 1 : Nat) : Int)))] ⟨rfl, rfl, rfl, rfl, rfl, rfl, rfl, trivial⟩ ⟨_, ?_, i + 1, _, rfl, by omega, hJ.done hf (by omega), rfl⟩
       omega
    ·try simp at c2
     refine VS_exit (VS_seq (VS_r0 rfl (q_load_ra rfl hI.h9 rfl rfl rfl (by simp) rfl (q_store (o := 1) (i := 0) (j := 0) rfl rfl hI.res rfl rfl rfl ⟨rfl, rfl, by simp, by first | rfl | simp [setAt, isCell_own, isCell_sl, isCell_int, isCell_nils], by simp [isOne, zG]⟩ rfl trivial (q_mv rfl (rg_nil (VS_ret ?_)))))))
     have ei : i = (ordT t).length := by omega
     exact Bd.now ⟨.tup [ptP (rnT t), .bool true], res_tree rfl (set_self (lt_of_get hI.res)) (hI.reads hf ei (fun o v ho h => set_get h (fun e => ho e.symm))) rfl, by rw [hv]; rfl⟩
end Go.V

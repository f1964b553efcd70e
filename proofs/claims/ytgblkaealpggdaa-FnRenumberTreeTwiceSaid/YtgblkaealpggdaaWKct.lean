/- A part of the proofs about laws of the page tree (see the text that bears the law): a small language of steps, its rules, and what the functions of the program return. -/
import Derived.Test.YtgblkaealpggdaaWD
import Derived.Test.YtgblkaealpggdaaWI
import Derived.Test.YtgblkaealpggdaaQW
set_option linter.all false
set_option linter.unusedVariables false
set_option linter.unusedSimpArgs false
set_option maxHeartbeats 4000000
namespace Go.V
open Go.Proofs.Try (prog)
theorem zct (os : List Nat) : ∀ i, i < 0 → os[i]? = some i := fun i hi => absurd hi (Nat.not_lt_zero i)
set_option maxRecDepth 100000
theorem sl_impl_copyTree : slimF prog 55 = some (37, (.seq (.reg 0 (.o 1 (.box 39 2 (.t 0)) (.o 2 (.alloc 39 2 (.agg [.pv (.int .i64 0), .nils])) .nil))) (.seq (.reg 2 (.o 6 (.fld 0 1 false (.t 1)) (.o 7 (.load 1 false (.t 6)) (.o 8 (.fld 1 1 false (.t 1)) (.o 9 (.load 1 false (.t 8)) (.o 10 (.len (.t 9)) (.or (.o 11 (.mks 25 3 72 (.agg [.nils, .nils, .nils]) (.t 10)) (.o 12 (.build [.pv (.int .i64 0), .nils] [(0, (1, .t 7)), (1, (1, .t 11))]) (.o 3 (.alloc 39 2 (.agg [.pv (.int .i64 0), .nils])) (.last ⟨none, none, .store 2 (.t 3) (.t 12)⟩)))) (.o 3 (.alloc 39 2 (.agg [.pv (.int .i64 0), .nils])) (.o 11 (.mks 25 3 72 (.agg [.nils, .nils, .nils]) (.t 10)) (.o 12 (.build [.pv (.int .i64 0), .nils] [(0, (1, .t 7)), (1, (1, .t 11))]) (.last ⟨none, none, .store 2 (.t 3) (.t 12)⟩))))))))))) (.seq (.seq (.reg 0 (.o 13 (.fld 1 1 false (.t 1)) (.o 14 (.load 1 false (.t 13)) (.o 15 (.len (.t 14)) (.o 16 (.mv (.c (.pv (.int .i64 0)))) .nil))))) (.block 0 (.loop (.seq (.reg 0 (.o 17 (.bin .lss (.t 16) (.t 15)) .nil)) (.seq (.cond (.t 17) .skip (.exit 0)) (.seq (.block 1 (.seq (.reg 0 (.o 18 (.mv (.t 16)) (.o 19 (.idx 3 (.t 14) (.t 16)) (.o 20 (.load 3 true (.t 19)) (.o 5 (.alloc 25 3 (.agg [.nils, .nils, .nils])) (.o 4 (.mv (.t 18)) (.op ⟨none, none, .store 3 (.t 5) (.t 20)⟩ .nil))))))) (.reg 2 (.o 21 (.fld 1 1 false (.t 3)) (.o 22 (.load 1 false (.t 21)) (.o 23 (.mv (.t 4)) (.o 24 (.fld 0 1 false (.t 5)) (.o 25 (.load 1 false (.t 24)) (.o 27 (.fld 1 1 false (.t 5)) (.o 28 (.load 1 false (.t 27)) (.o 30 (.fld 2 1 false (.t 5)) (.o 31 (.load 1 false (.t 30)) (.o 26 (.call 39 [.t 25]) (.o 29 (.call 39 [.t 28]) (.o 32 (.call 39 [.t 31]) (.o 33 (.build [.nils, .nils, .nils] [(0, (1, .t 26)), (1, (1, .t 29)), (2, (1, .t 32))]) (.o 34 (.idx 3 (.t 22) (.t 23)) (.last ⟨none, none, .store 3 (.t 34) (.t 33)⟩)))))))))))))))))) (.reg 0 (.o 35 (.bin .add (.t 16) (.c (.pv (.int .i64 1)))) (.o 16 (.mv (.t 35)) .nil))))))))) (.seq (.reg 0 (.o 36 (.load 2 true (.t 3)) (.op ⟨none, none, .store 2 (.t 2) (.t 36)⟩ .nil))) .ret))), [.c 2 2])) := by kernel_rfl
theorem c_impl_copyTree_k (t : Pt) (hs : smallT t) : CallS prog 55 [.pv (ptP t)] [] (fun d S => d = .agg [.pv (i64 t.r), .own 3 t.ps.length] ∧ KpS 25 3 t.ps 3 4 t.ps.length S ∧ S.length = 4 + 2 * t.ps.length) := by
 have hsl := hs.1
 refine callS_of_VS sl_impl_copyTree (by simp) (VS_seq (VS_r0 rfl (q_box rfl rfl rfl trivial (q_alloc trivial (rg_nil ?_)))))
 refine VS_join (fun E S => E = env [(1, .ptr 0 0 0), (2, .ptr 1 0 0), (3, .ptr 2 0 0)] ∧ S = [some ⟨39, 2, [.pv (ptP t)]⟩, some ⟨39, 2, [.agg [.pv (i64 0), .nils]]⟩, some ⟨39, 2, [.agg [.pv (i64 t.r), .own 3 t.ps.length]]⟩, some ⟨25, 3, List.replicate t.ps.length zG⟩]) ?_ ?_
 ·skip
  refine VS_r2 [some ⟨39, 2, [.pv (ptP t)]⟩] hmix (SubL.sub (by repeat constructor)) (q_fld_r rfl (q_load_r rfl rfl rfl rfl rfl rfl rfl (q_fld_r rfl (q_load_r rfl rfl rfl rfl rfl rfl rfl (q_len_m rfl ?_)))))
  refine q_or ?_ ?_
  ·skip
   refine q_mks rfl ⟨by omega, by omega, by omega⟩ (Sub.app _ _) (q_build rfl (q_alloc (Sub.app _ _) (q_last (q_store rfl rfl rfl rfl rfl rfl ⟨rfl, rfl, by simp, rfl, by simp [isOne]⟩ rfl trivial (rg_nil ?_)))))
   exact Bd.renL (S' := [some ⟨39, 2, [.pv (ptP t)]⟩, some ⟨39, 2, [.agg [.pv (i64 0), .nils]]⟩, some ⟨39, 2, [.agg [.pv (i64 t.r), .own 3 t.ps.length]]⟩, some ⟨25, 3, List.replicate t.ps.length zG⟩]) [0, 1, 3, 2] (zct _) (by simp) [(1, .ptr 0 0 0), (2, .ptr 1 0 0), (3, .ptr 2 0 0)] ⟨rfl, rfl, rfl, trivial⟩ (l4 rfl rfl rfl obZ_map) ⟨rfl, rfl⟩
  ·skip
   refine q_alloc (Sub.app _ _) (q_mks rfl ⟨by omega, by omega, by omega⟩ (Sub.app _ _) (q_build rfl (q_last (q_store rfl rfl rfl rfl rfl rfl ⟨rfl, rfl, by simp, rfl, by simp [isOne]⟩ rfl trivial (rg_nil ?_)))))
   exact Bd.keepL [(1, .ptr 0 0 0), (2, .ptr 1 0 0), (3, .ptr 2 0 0)] ⟨rfl, rfl, rfl, trivial⟩ ⟨rfl, rfl⟩
 ·rintro _ _ ⟨rfl, rfl⟩
  refine VS_seq (VS_seq (VS_r0 rfl (q_fld_r rfl (q_load_r rfl rfl rfl rfl rfl rfl rfl (q_len_m rfl (q_mv rfl (rg_nil (VS_block ?_))))))))
  refine VS_bd (Bd.keepL [(2, .ptr 1 0 0), (3, .ptr 2 0 0), (14, .pv (pgsP t.ps)), (15, .pv (i64 t.ps.length)), (16, .pv (i64 ((0 : Nat) : Int)))] ⟨rfl, rfl, rfl, rfl, rfl, trivial⟩ ?_)
  refine VS_loop (fun mz E S => ∃ i : Nat, mz = t.ps.length - i ∧ i ≤ t.ps.length ∧ CpA 39 25 3 t i S ∧ E = env [(2, .ptr 1 0 0), (3, .ptr 2 0 0), (14, .pv (pgsP t.ps)), (15, .pv (i64 t.ps.length)), (16, .pv (i64 i))]) ⟨_, 0, rfl, by omega, cp_zero, rfl⟩ ?_
  rintro mz _ S ⟨i, hmeas, g0, hA, rfl⟩
  refine VS_seq (VS_r0 rfl (q_lss rfl rfl (rg_nil (VS_seq ?_))))
  refine VS_cond rfl (fun c0 => ?_) (fun c0 => ?_)
  ·try simp at c0
   have hsz : (nth t.ps i).ks.length ≤ 1000000 ∧ (nth t.ps i).cs.length ≤ 1000000 ∧ (nth t.ps i).vs.length ≤ 1000000 := hs.2 (i : Int) (by omega) (by omega)
   refine VS_skip (VS_seq (VS_block ?_))
   refine VS_join (fun E S => CpB 39 25 3 t i S ∧ E = env [(2, .ptr 1 0 0), (3, .ptr 2 0 0), (4, .pv (i64 i)), (5, .ptr (4 + 2 * i) 0 0), (14, .pv (pgsP t.ps)), (15, .pv (i64 t.ps.length)), (16, .pv (i64 i))]) ?_ ?_
   ·skip
    refine VS_r0 rfl (q_mv rfl (q_idx_m (f := pgP) (xs := t.ps) (n := (i : Int)) rfl rfl (by omega) (by omega) (fun _ => rfl) ?_))
    rw [Int.toNat_natCast]
    refine q_load_c rfl rfl rfl (q_alloc trivial (q_mv rfl (q_store (o := S.length) (i := 0) (j := 0) (e := zG) rfl rfl app_last rfl rfl rfl ⟨rfl, rfl, by simp, by first | rfl | simp [setAt, isCell_own, isCell_sl, isCell_int, isCell_nils], by simp [isOne, zG]⟩ rfl trivial (rg_nil ?_))))
    exact Bd.keepL [(2, .ptr 1 0 0), (3, .ptr 2 0 0), (4, .pv (i64 i)), (5, .ptr S.length 0 0), (14, .pv (pgsP t.ps)), (15, .pv (i64 t.ps.length)), (16, .pv (i64 i))] ⟨rfl, rfl, rfl, rfl, rfl, rfl, rfl, trivial⟩ ⟨hA.next, by rw [hA.len]⟩
   ·rintro _ S2 ⟨hB, rfl⟩
    refine VS_r2 _ hmix (Sub.refl _) (q_fld_r rfl (q_load_r rfl hB.two rfl rfl rfl rfl rfl (q_mv rfl (q_fld_r rfl (q_load_r rfl hB.x rfl rfl rfl rfl rfl (q_fld_r rfl (q_load_r rfl hB.x rfl rfl rfl rfl rfl (q_fld_r rfl (q_load_r rfl hB.x rfl rfl rfl rfl rfl (q_callp (c_slices_Clone_int_p (nth t.ps i).ks (by omega)) rfl (Sub.refl _) (q_new rfl (c_slices_Clone_int (nth t.ps i).cs (by omega)) (flat_I _) (by rfl) (Sub.app _ _) (q_callp (c_slices_Clone_int_p (nth t.ps i).vs (by omega)) rfl (Sub.app _ _) (q_build3 (dx := .pv (ints (nth t.ps i).ks)) (dy := ownD S2.length (dI (nth t.ps i).cs)) (dw := .pv (ints (nth t.ps i).vs)) rfl rfl rfl rfl cellsD_own rfl (q_idx_o (ob := ⟨25, 3, dK 4 i t.ps⟩) rfl rfl (by omega) (by omega) hB.kp.pag rfl (q_last ?_)))))))))))))))
    rw [Int.toNat_natCast]
    refine q_store (o := 3) (i := i) (j := 0) (e := zG) rfl rfl (app_get hB.kp.pag) (by show (dK 4 i t.ps)[i]? = _; rw [dK_at (by omega), if_neg (by omega)]) rfl rfl ⟨rfl, rfl, by simp, by first | rfl | simp [setAt, isCell_own, isCell_sl, isCell_int, isCell_nils], by simp [isOne, zG]⟩ rfl trivial ?_
    refine rg_nil (VS_r0 rfl (q_add rfl rfl (inR64 (by omega)) (q_mv rfl (rg_nil ?_))))
    refine Bd.keepL [(2, .ptr 1 0 0), (3, .ptr 2 0 0), (14, .pv (pgsP t.ps)), (15, .pv (i64 t.ps.length)), (16, .pv (i64 ((i + 1 : Nat) : Int)))] ⟨rfl, rfl, rfl, rfl, rfl, trivial⟩ ⟨_, ?_, i + 1, rfl, by omega, hB.next (by omega), rfl⟩
    omega
  ·try simp at c0
   refine VS_exit (VS_seq (VS_r0 rfl (q_load_ra rfl hA.two rfl rfl rfl (by simp) rfl (q_store (o := 1) (i := 0) (j := 0) rfl rfl hA.one rfl rfl rfl ⟨rfl, rfl, by simp, by first | rfl | simp [setAt, isCell_own, isCell_sl, isCell_int, isCell_nils], by simp [isOne, zG]⟩ rfl trivial (rg_nil (VS_ret ?_))))))
   have e : i = t.ps.length := by omega
   subst e
   exact Bd.now ⟨_, res_one rfl (set_self (by have := hA.len; omega)), rfl, ⟨set_get hA.kp.pag (by omega), fun j hj => set_get (hA.kp.kid j hj) (by omega)⟩, by rw [List.length_set, hA.len]⟩
end Go.V

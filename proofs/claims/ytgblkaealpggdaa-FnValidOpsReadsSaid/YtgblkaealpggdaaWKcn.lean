/- A part of the proofs about laws of the page tree (see the text that bears the law): a small language of steps, its rules, and what the functions of the program return. -/
import Derived.Test.YtgblkaealpggdaaWKcm
import Derived.Test.YtgblkaealpggdaaQS
set_option linter.all false
set_option linter.unusedVariables false
set_option linter.unusedSimpArgs false
set_option maxHeartbeats 4000000
namespace Go.V
open Go.Proofs.Try (prog)
theorem ocn {os : List Nat} (h : os[0]? = some 0) : ∀ i, i < 1 → os[i]? = some i := fun i hi => by
 have e : i = 0 := by omega
 subst e; exact h
set_option maxRecDepth 100000
theorem sl_spec_treeKeys : slimF prog 76 = some (10, (.seq (.reg 0 (.o 1 (.box 39 2 (.t 0)) (.o 2 (.mv (.c .nils)) .nil))) (.seq (.seq (.reg 0 (.o 3 (.load 2 true (.t 1)) (.o 4 (.call 49 [.t 3]) (.o 5 (.not (.t 4)) .nil)))) (.cond (.t 5) (.seq (.reg 0 (.o 6 (.lit 3 1 0 [.pv (.int .i64 0)] []) (.o 2 (.mv (.t 6)) .nil))) .ret) .skip)) (.seq (.reg 0 (.o 7 (.load 2 true (.t 1)) (.o 8 (.call 80 [.t 7]) (.o 9 (.call 79 [.t 8]) (.o 2 (.mv (.t 9)) .nil))))) .ret)), [.t 2])) := by kernel_rfl
theorem c_spec_treeKeys (t : Pt) (hs : smallT t) : PCon prog 76 [ptP t] (fun p => p = ints (keysR (prV t))) := by
 have hpl := prV_len (t := t)
 have hkl := keysV_len (t := t)
 have hkp : (keysR (prV t)).length = (prV t).length := List.length_map ..
 refine con_of_VS sl_spec_treeKeys (by simp) (VS_seq (VS_r0 rfl (q_box rfl rfl rfl trivial (q_mv rfl (rg_nil (VS_seq (VS_seq (VS_r0 rfl (q_load_ra rfl rfl rfl rfl rfl (by (simp; done)) rfl (q_callp (c_spec_validTree t hs) rfl trivial (q_not rfl (rg_nil ?_))))))))))))
 refine VS_cond rfl (fun c0 => ?_) (fun c0 => ?_)
 ·try simp at c0
  have hv : validT t = false := by simpa using c0
  refine VS_seq (VS_r0 rfl (q_lit0 (q_mv rfl (rg_nil (VS_ret ?_)))))
  exact Bd.now ⟨_, rfl, by rw [prV_not hv]; rfl⟩
 ·try simp at c0
  have hv : validT t = true := by simpa using c0
  have hvf := valid_facts hv
  refine VS_skip (VS_seq (VS_r0 rfl (q_load_ra rfl rfl rfl rfl rfl (by (simp; done)) rfl (q_callp ((c_spec_pairsOf t hs (hgtT t) hvf.wk (by have := hvf.n16; omega) (valid_safe hv).rows (by have := prV_len (t := t); rw [prV, if_pos hv] at this; omega)).to (y := prs (prV t)) (by rw [prV, if_pos hv])) rfl trivial (q_callp (c_spec_keysOf (prV t) (by omega)) rfl trivial (q_mv rfl (rg_nil (VS_ret ?_))))))))
  exact Bd.now ⟨_, rfl, rfl⟩
theorem sl_spec_someOps : slimF prog 41 [(5, 4)] = some (56, (.seq (.reg 0 (.o 3 (.box 39 2 (.t 1)) (.o 4 (.mv (.c .nils)) .nil))) (.seq (.reg 0 (.o 8 (.lit 36 3 0 [.pv (.int .i64 0), .pv (.int .i64 0), .pv (.int .i64 0)] []) (.o 5 (.mv (.t 8)) .nil))) (.seq (.seq (.reg 0 (.o 9 (.mv (.t 0)) (.o 10 (.lit 3 1 6 [.pv (.int .i64 0)] [(0, .c (.pv (.int .i64 3))), (1, .c (.pv (.int .i64 2))), (2, .c (.pv (.int .i64 4))), (3, .c (.pv (.int .i64 1))), (4, .c (.pv (.int .i64 0))), (5, .c (.pv (.int .i64 5)))]) (.o 11 (.call 47 [.t 9, .t 10]) (.o 6 (.mv (.t 11)) .nil))))) (.block 0 (.loop (.seq (.seq (.reg 0 (.o 12 (.mv (.t 6)) (.o 13 (.bin .gtr (.t 12) (.c (.pv (.int .i64 0)))) .nil))) (.cond (.t 13) .skip (.exit 0))) (.seq (.block 1 (.seq (.reg 2 (.o 16 (.mv (.t 0)) (.o 18 (.mv (.t 0)) (.o 19 (.load 2 true (.t 3)) (.or (.o 17 (.call 48 [.t 16, .c (.pv (.int .i64 2))]) (.or (.o 20 (.call 76 [.t 19]) (.or (.o 21 (.call 75 [.t 18, .t 20]) (.o 22 (.mx (.c (.pv (.int .i64 0))) (.t 21)) (.o 23 (.mn (.c (.pv (.int .i64 99))) (.t 22)) (.o 24 (.build [.pv (.int .i64 0), .pv (.int .i64 0), .pv (.int .i64 0)] [(0, (1, .t 17)), (1, (1, .t 23))]) (.o 7 (.alloc 36 3 (.agg [.pv (.int .i64 0), .pv (.int .i64 0), .pv (.int .i64 0)])) (.last ⟨none, none, .store 3 (.t 7) (.t 24)⟩)))))) (.o 7 (.alloc 36 3 (.agg [.pv (.int .i64 0), .pv (.int .i64 0), .pv (.int .i64 0)])) (.o 21 (.call 75 [.t 18, .t 20]) (.o 22 (.mx (.c (.pv (.int .i64 0))) (.t 21)) (.o 23 (.mn (.c (.pv (.int .i64 99))) (.t 22)) (.o 24 (.build [.pv (.int .i64 0), .pv (.int .i64 0), .pv (.int .i64 0)] [(0, (1, .t 17)), (1, (1, .t 23))]) (.last ⟨none, none, .store 3 (.t 7) (.t 24)⟩)))))))) (.o 7 (.alloc 36 3 (.agg [.pv (.int .i64 0), .pv (.int .i64 0), .pv (.int .i64 0)])) (.o 20 (.call 76 [.t 19]) (.o 21 (.call 75 [.t 18, .t 20]) (.o 22 (.mx (.c (.pv (.int .i64 0))) (.t 21)) (.o 23 (.mn (.c (.pv (.int .i64 99))) (.t 22)) (.o 24 (.build [.pv (.int .i64 0), .pv (.int .i64 0), .pv (.int .i64 0)] [(0, (1, .t 17)), (1, (1, .t 23))]) (.last ⟨none, none, .store 3 (.t 7) (.t 24)⟩))))))))) (.o 7 (.alloc 36 3 (.agg [.pv (.int .i64 0), .pv (.int .i64 0), .pv (.int .i64 0)])) (.o 17 (.call 48 [.t 16, .c (.pv (.int .i64 2))]) (.o 20 (.call 76 [.t 19]) (.o 21 (.call 75 [.t 18, .t 20]) (.o 22 (.mx (.c (.pv (.int .i64 0))) (.t 21)) (.o 23 (.mn (.c (.pv (.int .i64 99))) (.t 22)) (.o 24 (.build [.pv (.int .i64 0), .pv (.int .i64 0), .pv (.int .i64 0)] [(0, (1, .t 17)), (1, (1, .t 23))]) (.last ⟨none, none, .store 3 (.t 7) (.t 24)⟩))))))))))))) (.seq (.seq (.reg 0 (.o 25 (.fld 0 1 false (.t 7)) (.o 26 (.load 1 false (.t 25)) (.o 27 (.bin .eql (.t 26) (.c (.pv (.int .i64 1)))) .nil)))) (.cond (.t 27) (.reg 0 (.o 28 (.mv (.t 0)) (.o 29 (.call 48 [.t 28, .c (.pv (.int .i64 100))]) (.o 30 (.fld 2 1 false (.t 7)) (.op ⟨none, none, .store 1 (.t 30) (.t 29)⟩ .nil))))) .skip)) (.reg 0 (.o 31 (.mv (.t 5)) (.o 32 (.load 3 true (.t 7)) (.o 33 (.lit 36 3 1 [.pv (.int .i64 0), .pv (.int .i64 0), .pv (.int .i64 0)] [(0, .t 32)]) (.o 34 (.app 36 3 24 (.t 31) (.t 33)) (.o 5 (.mv (.t 34)) .nil))))))))) (.reg 0 (.o 14 (.mv (.t 6)) (.o 15 (.bin .sub (.t 14) (.c (.pv (.int .i64 1)))) (.o 6 (.mv (.t 15)) .nil))))))))) (.seq (.seq (.reg 0 (.o 35 (.mv (.t 5)) (.o 36 (.len (.t 35)) (.o 37 (.bin .gtr (.t 36) (.c (.pv (.int .i64 0)))) (.o 38 (.mv (.t 37)) (.g 39 38 true (.mv (.t 0)) (.g 40 38 true (.call 48 [.t 39, .c (.pv (.int .i64 20))]) (.g 41 38 true (.bin .eql (.t 40) (.c (.pv (.int .i64 0)))) (.o 42 (.pick (.t 38) (.t 41) (.c (.pv (.bool false)))) .nil))))))))) (.cond (.t 42) (.reg 0 (.o 43 (.mv (.t 5)) (.o 44 (.mv (.t 0)) (.o 45 (.lit 3 1 2 [.pv (.int .i64 0)] [(0, .c (.pv (.int .i64 2))), (1, .c (.pv (.int .i64 0)))]) (.o 46 (.call 47 [.t 44, .t 45]) (.o 47 (.mv (.t 0)) (.o 48 (.lit 3 1 2 [.pv (.int .i64 0)] [(0, .c (.pv (.int .i64 100))), (1, .c (.pv (.int .i64 5)))]) (.o 49 (.call 47 [.t 47, .t 48]) (.o 50 (.mv (.t 0)) (.o 51 (.lit 3 1 2 [.pv (.int .i64 0)] [(0, .c (.pv (.int .i64 5))), (1, .c (.pv (.int .i64 1001)))]) (.o 52 (.call 47 [.t 50, .t 51]) (.o 53 (.build [.pv (.int .i64 0), .pv (.int .i64 0), .pv (.int .i64 0)] [(0, (1, .t 46)), (1, (1, .t 49)), (2, (1, .t 52))]) (.o 54 (.idx 3 (.t 43) (.c (.pv (.int .i64 0)))) (.op ⟨none, none, .store 3 (.t 54) (.t 53)⟩ .nil)))))))))))))) .skip)) (.seq (.reg 0 (.o 55 (.mv (.t 5)) (.o 4 (.mv (.t 55)) .nil))) .ret)))), [.t 4])) := by kernel_rfl
theorem c_spec_someOps (bs : List Int) (hb : isU8 bs) (hbl : bs.length ≤ 2000) (p : Int) (hp : 0 ≤ p) (t : Pt) (hs : smallT t) (hp2 : p ≤ 50000000000) : RdS prog 41 84 bs p [ptP t] (fun x q => ∃ xs : List Op3, x = ops xs ∧ xs.length ≤ 5 ∧ (p ≤ q ∧ q ≤ p + 50)) := by
 have hpl := prV_len (t := t)
 have hkl := keysV_len (t := t)
 have hkp : (keysR (prV t)).length = (prV t).length := List.length_map ..
 refine callS_of_VS sl_spec_someOps (by simp) (VS_seq (VS_r0 rfl (q_box rfl rfl rfl trivial (q_mv rfl (rg_nil (VS_seq (VS_r0 rfl (q_lit0 (q_mv rfl (rg_nil (VS_seq (VS_seq (VS_r0 rfl (q_mv rfl (q_lit (xs := [3, 2, 4, 1, 0, 5].map (.int .i64)) rfl rfl rfl rfl ?_)))))))))))))))
 refine q_rd rfl (c_spec_reader_one bs hb hbl _ (by omega) [3, 2, 4, 1, 0, 5] (by simp) (by simp) (by omega)) rfl rfl (fun _ => trivial) ?_
 rintro _ q11 ⟨c, rfl, q_c, rfl⟩
 refine q_mv rfl (rg_nil (VS_block ?_))
 simp only [List.mem_cons, List.not_mem_nil, or_false] at q_c
 refine VS_bd (Bd.pad ?_)
 refine VS_bd (Bd.keepL [(0, .ptr 0 0 0), (3, .ptr 1 0 0), (5, ownD 2 (dO ([]))), (6, .pv (i64 c))] ⟨rfl, rfl, rfl, rfl, trivial⟩ ?_)
 refine VS_loop (fun mz E S => ∃ n : Int, ∃ ys : List Op3, ∃ q : Int, mz = n.toNat ∧ (0 ≤ n ∧ n ≤ 5) ∧ (p ≤ q ∧ q ≤ p + 1 + 6 * (5 - n)) ∧ ((ys.length : Int) ≤ 5 - n) ∧ E = env [(0, .ptr 0 0 0), (3, .ptr 1 0 0), (5, ownD 2 (dO ys)), (6, .pv (i64 n))] ∧ S = [some (rdr 84 bs (q)), some ⟨39, 2, [.pv (ptP t)]⟩, obD 36 3 (dO ys)]) ⟨_, c, [], (p + 1), rfl, (by omega), (by omega), (by simp; omega), rfl, rfl⟩ ?_
 rintro mz _ _ ⟨n, ys, q, hmeas, g0, g1, g2, rfl, rfl⟩
 refine VS_seq (VS_seq (VS_r0 rfl (q_mv rfl (q_gtr rfl rfl (rg_nil ?_)))))
 refine VS_cond rfl (fun c0 => ?_) (fun c0 => ?_)
 ·try simp at c0
  refine VS_skip (VS_seq (VS_block (VS_seq (VS_r2 [none, some ⟨39, 2, [.pv (ptP t)]⟩] hmix (SubL.sub (by repeat constructor)) (q_mv rfl (q_mv rfl (q_load_ra rfl rfl rfl rfl rfl (by (simp; done)) rfl ?_)))))))
  refine q_or ?_ ?_
  ·skip
   refine q_rd rfl (c_spec_reader_pick bs hb hbl _ (by omega) 2 (by omega) (by omega)) rfl rfl (fun _ => (SubL.sub (by repeat constructor))) ?_
   rintro _ q17 ⟨u, rfl, q_u, rfl⟩
   refine q_or ?_ ?_
   ·skip
    refine q_callp (c_spec_treeKeys t hs) rfl (SubL.sub (by repeat constructor)) ?_
    refine q_or ?_ ?_
    ·skip
     refine q_rd rfl (c_spec_keyNear bs hb hbl _ (by omega) (keysR (prV t)) (by omega) keysV_bd (by omega)) rfl rfl (fun _ => (SubL.sub (by repeat constructor))) ?_
     rintro _ q21 ⟨k, rfl, qvk, ⟨hq3, hq4⟩⟩
     refine q_mx rfl rfl (q_mn rfl rfl (q_build rfl (q_alloc (SubL.sub (by repeat constructor)) (q_last (q_store rfl rfl rfl rfl rfl rfl ⟨rfl, rfl, by simp, rfl, by simp [isOne]⟩ rfl trivial (rg_nil (VS_seq (VS_seq (VS_r0 rfl (q_fld_r rfl (q_load_r rfl rfl rfl rfl rfl rfl rfl (q_eql rfl rfl (rg_nil ?_)))))))))))))
     refine VS_cond rfl (fun c1 => ?_) (fun c1 => ?_)
     ·try simp at c1
      refine VS_r0 rfl (q_mv rfl ?_)
      refine q_rd rfl (c_spec_reader_pick bs hb hbl _ (by omega) 100 (by omega) (by omega)) rfl rfl (fun _ => trivial) ?_
      rintro _ q29 ⟨w, rfl, q_w, rfl⟩
      refine q_fld_r rfl (q_store rfl rfl rfl rfl rfl rfl ⟨rfl, rfl, by simp, rfl, by simp [isOne]⟩ rfl trivial (rg_nil (VS_r0 rfl (q_mv rfl (q_load_ra rfl rfl rfl rfl rfl (by (simp [setAt]; done)) rfl (q_lit (xs := [opP (u, min 99 (max 0 k), w)]) rfl rfl rfl rfl (q_app_dm (xs := ys) (ys := [(u, min 99 (max 0 k), w)]) (f := fun k => .pv (opP k)) rfl rfl rfl rfl ⟨by simp; omega, by simp; omega⟩ trivial (q_mv rfl (rg_nil (VS_r0 rfl (q_mv rfl (q_sub rfl rfl (inR64 (by omega)) (q_mv rfl (rg_nil ?_))))))))))))))
      refine Bd.renL [0, 1, 4] (ocn rfl) (by simp) [(0, .ptr 0 0 0), (3, .ptr 1 0 0), (5, ownD 2 (dO (ys ++ [(u, min 99 (max 0 k), w)]))), (6, .pv (i64 (n - 1)))] ⟨rfl, rfl, inv_own rfl, rfl, trivial⟩ (l3 rfl rfl (obD_mO _)) ⟨_, ?_, n - 1, ys ++ [(u, min 99 (max 0 k), w)], q21 + 1, rfl, ?_, ?_, ?_, rfl, rfl⟩
      ·omega
      ·omega
      ·omega
      ·simp
       omega
     ·try simp at c1
      refine VS_skip (VS_r0 rfl (q_mv rfl (q_load_ra rfl rfl rfl rfl rfl (by (simp [setAt]; done)) rfl (q_lit (xs := [opP (u, min 99 (max 0 k), 0)]) rfl rfl rfl rfl (q_app_dm (xs := ys) (ys := [(u, min 99 (max 0 k), 0)]) (f := fun k => .pv (opP k)) rfl rfl rfl rfl ⟨by simp; omega, by simp; omega⟩ trivial (q_mv rfl (rg_nil (VS_r0 rfl (q_mv rfl (q_sub rfl rfl (inR64 (by omega)) (q_mv rfl (rg_nil ?_))))))))))))
      refine Bd.renL [0, 1, 4] (ocn rfl) (by simp) [(0, .ptr 0 0 0), (3, .ptr 1 0 0), (5, ownD 2 (dO (ys ++ [(u, min 99 (max 0 k), 0)]))), (6, .pv (i64 (n - 1)))] ⟨rfl, rfl, inv_own rfl, rfl, trivial⟩ (l3 rfl rfl (obD_mO _)) ⟨_, ?_, n - 1, ys ++ [(u, min 99 (max 0 k), 0)], q21, rfl, ?_, ?_, ?_, rfl, rfl⟩
      ·omega
      ·omega
      ·omega
      ·simp
       omega
    ·skip
     refine q_alloc (SubL.sub (by repeat constructor)) ?_
     refine q_rd rfl (c_spec_keyNear bs hb hbl _ (by omega) (keysR (prV t)) (by omega) keysV_bd (by omega)) rfl rfl (fun _ => (SubL.sub (by repeat constructor))) ?_
     rintro _ q21 ⟨k, rfl, qvk, ⟨hq3, hq4⟩⟩
     refine q_mx rfl rfl (q_mn rfl rfl (q_build rfl (q_last (q_store rfl rfl rfl rfl rfl rfl ⟨rfl, rfl, by simp, rfl, by simp [isOne]⟩ rfl trivial (rg_nil (VS_seq (VS_seq (VS_r0 rfl (q_fld_r rfl (q_load_r rfl rfl rfl rfl rfl rfl rfl (q_eql rfl rfl (rg_nil ?_))))))))))))
     refine VS_cond rfl (fun c1 => ?_) (fun c1 => ?_)
     ·try simp at c1
      refine VS_r0 rfl (q_mv rfl ?_)
      refine q_rd rfl (c_spec_reader_pick bs hb hbl _ (by omega) 100 (by omega) (by omega)) rfl rfl (fun _ => trivial) ?_
      rintro _ q29 ⟨w, rfl, q_w, rfl⟩
      refine q_fld_r rfl (q_store rfl rfl rfl rfl rfl rfl ⟨rfl, rfl, by simp, rfl, by simp [isOne]⟩ rfl trivial (rg_nil (VS_r0 rfl (q_mv rfl (q_load_ra rfl rfl rfl rfl rfl (by (simp [setAt]; done)) rfl (q_lit (xs := [opP (u, min 99 (max 0 k), w)]) rfl rfl rfl rfl (q_app_dm (xs := ys) (ys := [(u, min 99 (max 0 k), w)]) (f := fun k => .pv (opP k)) rfl rfl rfl rfl ⟨by simp; omega, by simp; omega⟩ trivial (q_mv rfl (rg_nil (VS_r0 rfl (q_mv rfl (q_sub rfl rfl (inR64 (by omega)) (q_mv rfl (rg_nil ?_))))))))))))))
      refine Bd.renL [0, 1, 4] (ocn rfl) (by simp) [(0, .ptr 0 0 0), (3, .ptr 1 0 0), (5, ownD 2 (dO (ys ++ [(u, min 99 (max 0 k), w)]))), (6, .pv (i64 (n - 1)))] ⟨rfl, rfl, inv_own rfl, rfl, trivial⟩ (l3 rfl rfl (obD_mO _)) ⟨_, ?_, n - 1, ys ++ [(u, min 99 (max 0 k), w)], q21 + 1, rfl, ?_, ?_, ?_, rfl, rfl⟩
      ·omega
      ·omega
      ·omega
      ·simp
       omega
     ·try simp at c1
      refine VS_skip (VS_r0 rfl (q_mv rfl (q_load_ra rfl rfl rfl rfl rfl (by (simp [setAt]; done)) rfl (q_lit (xs := [opP (u, min 99 (max 0 k), 0)]) rfl rfl rfl rfl (q_app_dm (xs := ys) (ys := [(u, min 99 (max 0 k), 0)]) (f := fun k => .pv (opP k)) rfl rfl rfl rfl ⟨by simp; omega, by simp; omega⟩ trivial (q_mv rfl (rg_nil (VS_r0 rfl (q_mv rfl (q_sub rfl rfl (inR64 (by omega)) (q_mv rfl (rg_nil ?_))))))))))))
      refine Bd.renL [0, 1, 4] (ocn rfl) (by simp) [(0, .ptr 0 0 0), (3, .ptr 1 0 0), (5, ownD 2 (dO (ys ++ [(u, min 99 (max 0 k), 0)]))), (6, .pv (i64 (n - 1)))] ⟨rfl, rfl, inv_own rfl, rfl, trivial⟩ (l3 rfl rfl (obD_mO _)) ⟨_, ?_, n - 1, ys ++ [(u, min 99 (max 0 k), 0)], q21, rfl, ?_, ?_, ?_, rfl, rfl⟩
      ·omega
      ·omega
      ·omega
      ·simp
       omega
   ·skip
    refine q_alloc (SubL.sub (by repeat constructor)) (q_callp (c_spec_treeKeys t hs) rfl (SubL.sub (by repeat constructor)) ?_)
    refine q_rd rfl (c_spec_keyNear bs hb hbl _ (by omega) (keysR (prV t)) (by omega) keysV_bd (by omega)) rfl rfl (fun _ => (SubL.sub (by repeat constructor))) ?_
    rintro _ q21 ⟨k, rfl, qvk, ⟨hq3, hq4⟩⟩
    refine q_mx rfl rfl (q_mn rfl rfl (q_build rfl (q_last (q_store rfl rfl rfl rfl rfl rfl ⟨rfl, rfl, by simp, rfl, by simp [isOne]⟩ rfl trivial (rg_nil (VS_seq (VS_seq (VS_r0 rfl (q_fld_r rfl (q_load_r rfl rfl rfl rfl rfl rfl rfl (q_eql rfl rfl (rg_nil ?_))))))))))))
    refine VS_cond rfl (fun c1 => ?_) (fun c1 => ?_)
    ·try simp at c1
     refine VS_r0 rfl (q_mv rfl ?_)
     refine q_rd rfl (c_spec_reader_pick bs hb hbl _ (by omega) 100 (by omega) (by omega)) rfl rfl (fun _ => trivial) ?_
     rintro _ q29 ⟨w, rfl, q_w, rfl⟩
     refine q_fld_r rfl (q_store rfl rfl rfl rfl rfl rfl ⟨rfl, rfl, by simp, rfl, by simp [isOne]⟩ rfl trivial (rg_nil (VS_r0 rfl (q_mv rfl (q_load_ra rfl rfl rfl rfl rfl (by (simp [setAt]; done)) rfl (q_lit (xs := [opP (u, min 99 (max 0 k), w)]) rfl rfl rfl rfl (q_app_dm (xs := ys) (ys := [(u, min 99 (max 0 k), w)]) (f := fun k => .pv (opP k)) rfl rfl rfl rfl ⟨by simp; omega, by simp; omega⟩ trivial (q_mv rfl (rg_nil (VS_r0 rfl (q_mv rfl (q_sub rfl rfl (inR64 (by omega)) (q_mv rfl (rg_nil ?_))))))))))))))
     refine Bd.renL [0, 1, 4] (ocn rfl) (by simp) [(0, .ptr 0 0 0), (3, .ptr 1 0 0), (5, ownD 2 (dO (ys ++ [(u, min 99 (max 0 k), w)]))), (6, .pv (i64 (n - 1)))] ⟨rfl, rfl, inv_own rfl, rfl, trivial⟩ (l3 rfl rfl (obD_mO _)) ⟨_, ?_, n - 1, ys ++ [(u, min 99 (max 0 k), w)], q21 + 1, rfl, ?_, ?_, ?_, rfl, rfl⟩
     ·omega
     ·omega
     ·omega
     ·simp
      omega
    ·try simp at c1
     refine VS_skip (VS_r0 rfl (q_mv rfl (q_load_ra rfl rfl rfl rfl rfl (by (simp [setAt]; done)) rfl (q_lit (xs := [opP (u, min 99 (max 0 k), 0)]) rfl rfl rfl rfl (q_app_dm (xs := ys) (ys := [(u, min 99 (max 0 k), 0)]) (f := fun k => .pv (opP k)) rfl rfl rfl rfl ⟨by simp; omega, by simp; omega⟩ trivial (q_mv rfl (rg_nil (VS_r0 rfl (q_mv rfl (q_sub rfl rfl (inR64 (by omega)) (q_mv rfl (rg_nil ?_))))))))))))
     refine Bd.renL [0, 1, 4] (ocn rfl) (by simp) [(0, .ptr 0 0 0), (3, .ptr 1 0 0), (5, ownD 2 (dO (ys ++ [(u, min 99 (max 0 k), 0)]))), (6, .pv (i64 (n - 1)))] ⟨rfl, rfl, inv_own rfl, rfl, trivial⟩ (l3 rfl rfl (obD_mO _)) ⟨_, ?_, n - 1, ys ++ [(u, min 99 (max 0 k), 0)], q21, rfl, ?_, ?_, ?_, rfl, rfl⟩
     ·omega
     ·omega
     ·omega
     ·simp
      omega
  ·skip
   refine q_alloc (SubL.sub (by repeat constructor)) ?_
   refine q_rd rfl (c_spec_reader_pick bs hb hbl _ (by omega) 2 (by omega) (by omega)) rfl rfl (fun _ => (SubL.sub (by repeat constructor))) ?_
   rintro _ q17 ⟨u, rfl, q_u, rfl⟩
   refine q_callp (c_spec_treeKeys t hs) rfl (SubL.sub (by repeat constructor)) ?_
   refine q_rd rfl (c_spec_keyNear bs hb hbl _ (by omega) (keysR (prV t)) (by omega) keysV_bd (by omega)) rfl rfl (fun _ => (SubL.sub (by repeat constructor))) ?_
   rintro _ q21 ⟨k, rfl, qvk, ⟨hq3, hq4⟩⟩
   refine q_mx rfl rfl (q_mn rfl rfl (q_build rfl (q_last (q_store rfl rfl rfl rfl rfl rfl ⟨rfl, rfl, by simp, rfl, by simp [isOne]⟩ rfl trivial (rg_nil (VS_seq (VS_seq (VS_r0 rfl (q_fld_r rfl (q_load_r rfl rfl rfl rfl rfl rfl rfl (q_eql rfl rfl (rg_nil ?_))))))))))))
   refine VS_cond rfl (fun c1 => ?_) (fun c1 => ?_)
   ·try simp at c1
    refine VS_r0 rfl (q_mv rfl ?_)
    refine q_rd rfl (c_spec_reader_pick bs hb hbl _ (by omega) 100 (by omega) (by omega)) rfl rfl (fun _ => trivial) ?_
    rintro _ q29 ⟨w, rfl, q_w, rfl⟩
    refine q_fld_r rfl (q_store rfl rfl rfl rfl rfl rfl ⟨rfl, rfl, by simp, rfl, by simp [isOne]⟩ rfl trivial (rg_nil (VS_r0 rfl (q_mv rfl (q_load_ra rfl rfl rfl rfl rfl (by (simp [setAt]; done)) rfl (q_lit (xs := [opP (u, min 99 (max 0 k), w)]) rfl rfl rfl rfl (q_app_dm (xs := ys) (ys := [(u, min 99 (max 0 k), w)]) (f := fun k => .pv (opP k)) rfl rfl rfl rfl ⟨by simp; omega, by simp; omega⟩ trivial (q_mv rfl (rg_nil (VS_r0 rfl (q_mv rfl (q_sub rfl rfl (inR64 (by omega)) (q_mv rfl (rg_nil ?_))))))))))))))
    refine Bd.renL [0, 1, 4] (ocn rfl) (by simp) [(0, .ptr 0 0 0), (3, .ptr 1 0 0), (5, ownD 2 (dO (ys ++ [(u, min 99 (max 0 k), w)]))), (6, .pv (i64 (n - 1)))] ⟨rfl, rfl, inv_own rfl, rfl, trivial⟩ (l3 rfl rfl (obD_mO _)) ⟨_, ?_, n - 1, ys ++ [(u, min 99 (max 0 k), w)], q21 + 1, rfl, ?_, ?_, ?_, rfl, rfl⟩
    ·omega
    ·omega
    ·omega
    ·simp
     omega
   ·try simp at c1
    refine VS_skip (VS_r0 rfl (q_mv rfl (q_load_ra rfl rfl rfl rfl rfl (by (simp [setAt]; done)) rfl (q_lit (xs := [opP (u, min 99 (max 0 k), 0)]) rfl rfl rfl rfl (q_app_dm (xs := ys) (ys := [(u, min 99 (max 0 k), 0)]) (f := fun k => .pv (opP k)) rfl rfl rfl rfl ⟨by simp; omega, by simp; omega⟩ trivial (q_mv rfl (rg_nil (VS_r0 rfl (q_mv rfl (q_sub rfl rfl (inR64 (by omega)) (q_mv rfl (rg_nil ?_))))))))))))
    refine Bd.renL [0, 1, 4] (ocn rfl) (by simp) [(0, .ptr 0 0 0), (3, .ptr 1 0 0), (5, ownD 2 (dO (ys ++ [(u, min 99 (max 0 k), 0)]))), (6, .pv (i64 (n - 1)))] ⟨rfl, rfl, inv_own rfl, rfl, trivial⟩ (l3 rfl rfl (obD_mO _)) ⟨_, ?_, n - 1, ys ++ [(u, min 99 (max 0 k), 0)], q21, rfl, ?_, ?_, ?_, rfl, rfl⟩
    ·omega
    ·omega
    ·omega
    ·simp
     omega
 ·try simp at c0
  refine VS_exit (VS_seq (VS_seq (VS_r0 rfl (q_mv rfl (q_len_dm rfl (q_gtr rfl rfl (q_mv rfl ?_)))))))
  refine q_b rfl (fun g38 => ?_) (fun g38 => ?_)
  ·try simp at g38
   refine q_t rfl (q_mv rfl (q_t rfl ?_))
   refine q_rd rfl (c_spec_reader_pick bs hb hbl _ (by omega) 20 (by omega) (by omega)) rfl rfl (fun _ => trivial) ?_
   rintro _ q40 ⟨v, rfl, q_v, rfl⟩
   refine q_t rfl (q_eql rfl rfl (q_pick_t rfl rfl (rg_nil ?_)))
   refine VS_cond rfl (fun c2 => ?_) (fun c2 => ?_)
   ·try simp at c2
    have hyl : 0 < ys.length := by omega
    refine VS_r0 rfl (q_mv rfl (q_mv rfl (q_lit (xs := [2, 0].map (.int .i64)) rfl rfl rfl rfl ?_)))
    refine q_rd rfl (c_spec_reader_one bs hb hbl _ (by omega) [2, 0] (by simp) (by simp) (by omega)) rfl rfl (fun _ => trivial) ?_
    rintro _ q46 ⟨e1, rfl, q_e1, rfl⟩
    refine q_mv rfl (q_lit (xs := [100, 5].map (.int .i64)) rfl rfl rfl rfl ?_)
    refine q_rd rfl (c_spec_reader_one bs hb hbl _ (by omega) [100, 5] (by simp) (by simp) (by omega)) rfl rfl (fun _ => trivial) ?_
    rintro _ q49 ⟨e2, rfl, q_e2, rfl⟩
    refine q_mv rfl (q_lit (xs := [5, 1001].map (.int .i64)) rfl rfl rfl rfl ?_)
    refine q_rd rfl (c_spec_reader_one bs hb hbl _ (by omega) [5, 1001] (by simp) (by simp) (by omega)) rfl rfl (fun _ => trivial) ?_
    rintro _ q52 ⟨e3, rfl, q_e3, rfl⟩
    refine q_build rfl ?_
    refine q_idx_dm (f := fun x => .pv (opP x)) (xs := ys) (ty := 36) rfl rfl (by omega) (by omega) rfl ?_
    refine q_store_op (ty := 36) (v := (e1, e2, e3)) (xs := ys) rfl rfl rfl rfl (by simp; omega) trivial (rg_nil ?_)
    refine VS_bd (Bd.pureO 5 2 (ps := (ys.set 0 (e1, e2, e3)).map opP) (ownD_ne (ne_map (by omega))) rfl (by simp) (by rw [List.map_set]; exact toPVs_set _ (toPVs_dO _) rfl) ?_)
    refine VS_seq (VS_r0 rfl (q_mv rfl (q_mv rfl (rg_nil (VS_ret ?_)))))
    (refine Bd.renL [0] (ocn rfl) (by simp) [(4, .pv (ops (ys.set 0 (e1, e2, e3))))] ⟨rfl, trivial⟩ rfl ?_; exact ⟨_, rfl, _, _, _, rfl, ⟨_, rfl, by first | omega | (simp; omega), by omega, by omega⟩, rfl⟩)
   ·try simp at c2
    refine VS_skip (VS_seq (VS_r0 rfl (q_mv rfl (q_mv rfl (rg_nil (VS_ret ?_))))))
    (refine Bd.pureB 4 2 36 3 (xs := dO ys) rfl rfl (toPVs_dO _) ?_; refine Bd.renL [0] (ocn rfl) (by simp) [(4, .pv (ops (ys)))] ⟨rfl, trivial⟩ rfl ?_; exact ⟨_, rfl, _, _, _, rfl, ⟨_, rfl, by first | omega | (simp; omega), by omega, by omega⟩, rfl⟩)
  ·try simp at g38
   refine q_f rfl (q_f rfl (q_f rfl (q_pick_f rfl rfl (rg_nil ?_))))
   refine VS_cond rfl (fun e => by cases e) (fun _ => ?_)
   refine VS_skip (VS_seq (VS_r0 rfl (q_mv rfl (q_mv rfl (rg_nil (VS_ret ?_))))))
   (refine Bd.pureB 4 2 36 3 (xs := dO ys) rfl rfl (toPVs_dO _) ?_; refine Bd.renL [0] (ocn rfl) (by simp) [(4, .pv (ops (ys)))] ⟨rfl, trivial⟩ rfl ?_; exact ⟨_, rfl, _, _, _, rfl, ⟨_, rfl, by first | omega | (simp; omega), by omega, by omega⟩, rfl⟩)
theorem c_goodTree_p (bs : List Int) (hb : isU8 bs) (hbl : bs.length ≤ 2000) (p : Int) (hp : 0 ≤ p) (hp2 : p ≤ 60000000000) : RdS prog 42 84 bs p [] (fun x q => ∃ T, x = ptP T ∧ SafeT T ∧ p ≤ q ∧ q ≤ p + 200) := by
 refine RdT.pure (pty := 25) (Q := fun T q => SafeT T ∧ p ≤ q ∧ q ≤ p + 200) ?_ fun T q h e => by have := h.1.many; rw [e] at this; simp at this
 exact (c_spec_goodTree bs hb hbl p hp hp2).mono fun d S ⟨T, q, R, h1, h2, h3⟩ => ⟨T, q, R, h1, h2, h3⟩
theorem sl_spec_DrawValidOps : slimF prog 16 = some (10, (.seq (.reg 0 (.o 2 (.mv (.c .nils)) .nil)) (.seq (.reg 0 (.o 4 (.mv (.t 0)) (.o 5 (.call 33 [.t 4]) (.o 3 (.mv (.t 5)) .nil)))) (.seq (.reg 0 (.o 6 (.mv (.t 3)) (.o 7 (.mv (.t 3)) (.o 8 (.call 42 [.t 7]) (.o 9 (.call 41 [.t 6, .t 8]) (.o 2 (.mv (.t 9)) .nil)))))) .ret)), [.t 2])) := by kernel_rfl
theorem c_spec_DrawValidOps (bs : List Int) (hb : isU8 bs) (hl : bs.length ≤ 1048576) : PCon prog 16 [u8s bs] (fun p => ∃ xs : List Op3, p = ops xs ∧ xs.length ≤ 5) := by
 refine con_of_VS sl_spec_DrawValidOps (by simp) (VS_seq (VS_r0 rfl (q_mv rfl (rg_nil (VS_seq (VS_r0 rfl (q_mv rfl ?_)))))))
 refine q_newRd rfl (c_spec_newReader _ hb hl) rfl (fun _ => trivial) ?_
 rintro bs ⟨hb, hbl⟩
 refine q_mv rfl (rg_nil (VS_seq (VS_r0 rfl (q_mv rfl (q_mv rfl ?_)))))
 refine q_rd rfl (c_goodTree_p bs hb hbl _ (by omega) (by omega)) rfl rfl (fun _ => trivial) ?_
 rintro _ q8 ⟨T, rfl, gs, hq1, hq2⟩
 refine q_rd rfl (c_spec_someOps bs hb hbl _ (by omega) T gs.small (by omega)) rfl rfl (fun _ => trivial) ?_
 rintro _ q9 ⟨xs, rfl, hx, hq3, hq4⟩
 refine q_mv rfl (rg_nil (VS_ret ?_))
 exact Bd.now ⟨_, rfl, xs, rfl, hx⟩
end Go.V

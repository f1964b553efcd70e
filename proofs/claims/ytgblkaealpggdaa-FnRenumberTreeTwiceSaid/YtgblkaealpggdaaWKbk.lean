/- A part of the proofs about laws of the page tree (see the text that bears the law): a small language of steps, its rules, and what the functions of the program return. -/
import Derived.Test.YtgblkaealpggdaaWKbj
import Derived.Test.YtgblkaealpggdaaQK
set_option linter.all false
set_option linter.unusedVariables false
set_option linter.unusedSimpArgs false
set_option maxHeartbeats 4000000
namespace Go.V
open Go.Proofs.Try (prog)
theorem zbk (os : List Nat) : ∀ i, i < 0 → os[i]? = some i := fun i hi => absurd hi (Nat.not_lt_zero i)
theorem obk {os : List Nat} (h : os[0]? = some 0) : ∀ i, i < 1 → os[i]? = some i := fun i hi => by
 have e : i = 0 := by omega
 subst e; exact h
set_option maxRecDepth 100000
theorem c_spec_pairsOf_n (t : Pt) (hs : smallT t) (h : Nat) (hw : wkT t h t.r = true) (hb : (wlk t h t.r).length ≤ 1000000) (hr : rowsOK t) (hb2 : (prT t h).length ≤ 1000000) : NewS prog 80 81 2 [ptP t] (dP (prT t h)) := by
 have hll : (lvT t h).length ≤ (wlk t h t.r).length := List.length_filter_le ..
 refine callS_of_VS sl_spec_pairsOf (by simp) (VS_seq (VS_r0 rfl (q_box rfl rfl rfl trivial (q_mv rfl (rg_nil (VS_seq (VS_r0 rfl (q_lit0 (q_mv rfl (rg_nil (VS_seq (VS_r0 rfl (q_load_ra rfl rfl rfl rfl rfl (by (simp; done)) rfl (q_callp (c_spec_leavesOf t hs h hw (by omega)) rfl trivial (q_mv rfl ?_)))))))))))))))
 refine rg_nil (VS_seq (VS_seq (VS_r0 rfl (q_mv rfl (rg_nil (VS_block ?_))))))
 refine VS_bd (Bd.pad ?_)
 refine VS_bd (Bd.keepL [(1, .ptr 0 0 0), (3, ownD 1 (dP ([]))), (4, .pv (ints (lvT t h))), (5, .pv (i64 0))] ⟨rfl, rfl, rfl, rfl, trivial⟩ ?_)
 refine VS_loop (fun mz E S => ∃ j : Nat, ∃ ys : List (Int × Int), mz = (lvT t h).length - j ∧ (j ≤ (lvT t h).length) ∧ (ys = ((lvT t h).take j).flatMap fun i => rowG (pg t i)) ∧ E = env [(1, .ptr 0 0 0), (3, ownD 1 (dP ys)), (4, .pv (ints (lvT t h))), (5, .pv (i64 j))] ∧ S = [some ⟨39, 2, [.pv (ptP t)]⟩, obD 81 2 (dP ys)]) ⟨_, 0, [], rfl, (by omega), (by simp), rfl, rfl⟩ ?_
 rintro mz _ _ ⟨j, ys, hmeas, g0, g1, rfl, rfl⟩
 refine VS_seq (VS_seq (VS_r0 rfl (q_mv rfl (q_mv rfl (q_len_m rfl (q_lss rfl rfl (rg_nil ?_)))))))
 refine VS_cond rfl (fun c0 => ?_) (fun c0 => ?_)
 ·try simp at c0
  have hmem := nth_mem (xs := lvT t h) (i := j) (by omega)
  have hmf := List.mem_filter.1 hmem
  have hin := wk_in hw _ hmf.1
  have hin2 := inT_iff.1 hin
  have hsz : (nth t.ps (nth (lvT t h) j).toNat).ks.length ≤ 1000000 ∧ (nth t.ps (nth (lvT t h) j).toNat).cs.length ≤ 1000000 ∧ (nth t.ps (nth (lvT t h) j).toNat).vs.length ≤ 1000000 := hs.2 _ hin2.1 hin2.2
  have hrk : (nth t.ps (nth (lvT t h) j).toNat).ks.length ≤ (nth t.ps (nth (lvT t h) j).toNat).vs.length := hr _ hin (by have := hmf.2; simpa [isLf] using this)
  have hfp : _ + (rowG (nth t.ps (nth (lvT t h) j).toNat)).length ≤ (prT t h).length := flat_part (fun i => rowG (pg t i)) (xs := lvT t h) (j := j) (by omega)
  have hyl : ys.length = (((lvT t h).take j).flatMap fun i => rowG (pg t i)).length := by rw [g1]
  refine VS_skip (VS_seq (VS_block (VS_r2 [some ⟨39, 2, [.pv (ptP t)]⟩] hmix (SubL.sub (by repeat constructor)) (q_mv rfl (q_fld_r rfl (q_load_r rfl rfl rfl rfl rfl rfl rfl (q_mv rfl (q_mv rfl (q_idx_m (f := fun k => i64 k) (xs := lvT t h) (n := (j : Int)) rfl rfl (by omega) (by omega) (fun _ => rfl) (q_load_c rfl rfl rfl (q_idx_m (f := pgP) (xs := t.ps) (n := nth (lvT t h) j) rfl rfl (by omega) (by omega) (fun _ => rfl) (q_load_c rfl rfl rfl (q_callp (c_spec_rowOf (nth t.ps (nth (lvT t h) j).toNat) hrk (by omega)) rfl (Sub.app _ _) (q_app_dm (xs := ys) (ys := rowG (nth t.ps (nth (lvT t h) j).toNat)) (f := fun k => .pv (pairP k)) rfl (elems_P _) (cell_P _) rfl ⟨by omega, by omega⟩ (Sub.app _ _) (q_mv rfl ?_)))))))))))))))
  refine rg_nil (VS_r0 rfl (q_mv rfl (q_add rfl rfl (inR64 (by omega)) (q_mv rfl (rg_nil ?_)))))
  refine Bd.renL [0, 2] (zbk _) (by simp) [(1, .ptr 0 0 0), (3, ownD 1 (dP (ys ++ rowG (nth t.ps (nth (lvT t h) j).toNat)))), (4, .pv (ints (lvT t h))), (5, .pv (i64 (j + 1)))] ⟨rfl, inv_own rfl, rfl, rfl, trivial⟩ (l2 rfl (obD_mP _)) ⟨_, ?_, j + 1, ys ++ rowG (nth t.ps (nth (lvT t h) j).toNat), rfl, ?_, ?_, rfl, rfl⟩
  ·omega
  ·omega
  ·rw [g1, flat_take (by omega)]
 ·try simp at c0
  refine VS_exit (VS_seq (VS_r0 rfl (q_mv rfl (q_mv rfl (rg_nil (VS_ret ?_))))))
  have e : j = (lvT t h).length := by omega
  rw [e, List.take_length] at g1
  have e2 : prT t h = ys := by rw [g1]; rfl
  refine Bd.renL (S' := [obD 81 2 (dP ys)]) [1] (zbk _) (by simp) [(2, ownD 0 (dP ys))] ⟨inv_own rfl, trivial⟩ (l1 (obD_mP _)) ?_
  exact ⟨_, res_own rfl, by rw [e2], by rw [e2]⟩
theorem c_spec_keysOf_n (xs : List (Int × Int)) (hl : xs.length ≤ 100000000) : NewS prog 79 3 1 [prs xs] (dI (keysR xs)) := by
 refine callS_of_VS sl_spec_keysOf (by simp) (VS_seq (VS_r0 rfl (q_mv rfl (rg_nil (VS_seq (VS_r0 rfl (q_lit0 (q_mv rfl (rg_nil (VS_seq (VS_seq (VS_r0 rfl (q_mv rfl (rg_nil (VS_block ?_)))))))))))))))
 refine VS_bd (Bd.pad ?_)
 refine VS_bd (Bd.keepL [(0, .pv (prs xs)), (3, ownD 0 (dI ([]))), (4, .pv (i64 0))] ⟨rfl, rfl, rfl, trivial⟩ ?_)
 refine VS_loop (fun mz E S => ∃ i : Nat, ∃ ys : List Int, mz = xs.length - i ∧ (i ≤ xs.length) ∧ (ys = keysR (xs.take i)) ∧ (ys.length = i) ∧ E = env [(0, .pv (prs xs)), (3, ownD 0 (dI ys)), (4, .pv (i64 i))] ∧ S = [obD 3 1 (dI ys)]) ⟨_, 0, [], rfl, (by omega), rfl, rfl, rfl, rfl⟩ ?_
 rintro mz _ _ ⟨i, ys, hmeas, g0, g1, g2, rfl, rfl⟩
 refine VS_seq (VS_seq (VS_r0 rfl (q_mv rfl (q_mv rfl (q_len_m rfl (q_lss rfl rfl (rg_nil ?_)))))))
 refine VS_cond rfl (fun c0 => ?_) (fun c0 => ?_)
 ·try simp at c0
  refine VS_skip (VS_seq (VS_block (VS_r0 rfl (q_mv rfl (q_mv rfl (q_mv rfl (q_idx_c _ rfl rfl (by omega) (fun _ => rfl) (q_fld_c rfl rfl (q_load_c rfl rfl rfl (q_lit rfl rfl rfl rfl (q_app_dm (xs := ys) (ys := [(nth xs i).1]) (f := fun k => .pv (i64 k)) rfl rfl rfl rfl ⟨by simp; omega, by simp; omega⟩ trivial (q_mv rfl (rg_nil (VS_r0 rfl (q_mv rfl ?_)))))))))))))))
  refine q_add rfl rfl (inR64 (by omega)) (q_mv rfl (rg_nil ?_))
  refine Bd.renL [1] (zbk _) (by simp) [(0, .pv (prs xs)), (3, ownD 0 (dI (ys ++ [(nth xs i).1]))), (4, .pv (i64 (i + 1)))] ⟨rfl, inv_own rfl, rfl, trivial⟩ (l1 (obD_mI _)) ⟨_, ?_, i + 1, ys ++ [(nth xs i).1], rfl, ?_, ?_, ?_, rfl, rfl⟩
  ·omega
  ·omega
  ·rw [g1, take_succ_nth (by omega)]; simp
  ·simp; omega
 ·try simp at c0
  refine VS_exit (VS_seq (VS_r0 rfl (q_mv rfl (q_mv rfl (rg_nil (VS_ret ?_))))))
  have e : i = xs.length := by omega
  subst e
  rw [List.take_length] at g1
  subst g1
  exact Bd.now ⟨ownD 0 (dI (keysR xs)), res_own rfl, rfl, rfl⟩
theorem c_spec_goodRow_g (bs : List Int) (hb : isU8 bs) (hbl : bs.length ≤ 2000) (p : Int) (hp : 0 ≤ p) (hp2 : p ≤ 70000000000) : RdN prog 77 84 bs p [] (pairP) 81 2 (fun xs q => (xs.length ≤ 24 ∧ goodR xs = true) ∧ (p ≤ q ∧ q ≤ p + 100)) := by
 refine callS_of_VS sl_spec_goodRow (by simp) (VS_seq (VS_r0 rfl (q_mv rfl (rg_nil (VS_seq (VS_r0 rfl (q_lit0 (q_mv rfl (rg_nil (VS_seq (VS_seq (VS_r0 rfl (q_mv rfl (q_lit (xs := [6, 9, 13, 4, 20, 24, 1, 0].map (.int .i64)) rfl rfl rfl rfl ?_))))))))))))))
 refine q_rd rfl (c_spec_reader_one bs hb hbl _ (by omega) [6, 9, 13, 4, 20, 24, 1, 0] (by simp) (by simp) (by omega)) rfl rfl (fun _ => trivial) ?_
 rintro _ q9 ⟨c, rfl, q_c, rfl⟩
 refine q_mv rfl (rg_nil (VS_block ?_))
 simp only [List.mem_cons, List.not_mem_nil, or_false] at q_c
 refine VS_bd (Bd.pad ?_)
 refine VS_bd (Bd.keepL [(0, .ptr 0 0 0), (3, ownD 1 (dP ([]))), (4, .pv (i64 c))] ⟨rfl, rfl, rfl, trivial⟩ ?_)
 refine VS_loop (fun mz E S => ∃ n : Int, ∃ xs : List (Int × Int), ∃ q : Int, mz = n.toNat ∧ (-1 ≤ n ∧ n ≤ 24) ∧ (p ≤ q ∧ q ≤ p + 1 + 2 * (24 - n)) ∧ (xs.length ≤ 24) ∧ (goodR xs = true) ∧ E = env [(0, .ptr 0 0 0), (3, ownD 1 (dP xs)), (4, .pv (i64 n))] ∧ S = [some (rdr 84 bs q), obD 81 2 (dP xs)]) ⟨_, c, [], (p + 1), rfl, (by omega), (by omega), (by simp), rfl, rfl, rfl⟩ ?_
 rintro mz _ _ ⟨n, xs, q, hmeas, g0, g1, g2, g3, rfl, rfl⟩
 refine VS_seq (VS_seq (VS_r0 rfl (q_mv rfl (q_gtr rfl rfl (rg_nil ?_)))))
 refine VS_cond rfl (fun c0 => ?_) (fun c0 => ?_)
 ·try simp at c0
  refine VS_skip (VS_seq (VS_block (VS_seq (VS_r0 rfl (q_mv rfl ?_)))))
  refine q_rd rfl (c_spec_reader_pick bs hb hbl _ (by omega) 100 (by omega) (by omega)) rfl rfl (fun _ => trivial) ?_
  rintro _ q15 ⟨a, rfl, q_a, rfl⟩
  refine q_mv rfl ?_
  refine q_rd rfl (c_spec_reader_pick bs hb hbl _ (by omega) 200 (by omega) (by omega)) rfl rfl (fun _ => trivial) ?_
  rintro _ q17 ⟨b, rfl, q_b, rfl⟩
  refine q_sub rfl rfl (inR64 (by omega)) (q_build rfl (q_alloc trivial (q_store rfl rfl rfl rfl rfl rfl ⟨rfl, rfl, by simp, rfl, by simp [isOne]⟩ rfl trivial (rg_nil (VS_seq (VS_r0 rfl (q_mv rfl (q_load_ra rfl rfl rfl rfl rfl (by (simp [setAt]; done)) rfl ?_))))))))
  refine q_new rfl (c_spec_put xs a (b - 100) (by omega)) (flat_P _) (by (repeat' (first | exact toRs_nil | refine toRs_cons ?_ ?_ | rfl | exact toR_I rfl | exact toR_P rfl | exact toR_G rfl | refine toR_agg2 ?_ ?_ | refine toR_agg3 ?_ ?_ ?_))) trivial ?_
  refine q_len_dm rfl (q_leq rfl rfl (rg_nil ?_))
  refine VS_cond rfl (fun c1 => ?_) (fun c1 => ?_)
  ·try simp at c1
   refine VS_r0 rfl (q_mv rfl (q_load_ra rfl rfl rfl rfl rfl (by (simp [setAt]; done)) rfl ?_))
   refine q_new rfl (c_spec_put xs a (b - 100) (by omega)) (flat_P _) (by (repeat' (first | exact toRs_nil | refine toRs_cons ?_ ?_ | rfl | exact toR_I rfl | exact toR_P rfl | exact toR_G rfl | refine toR_agg2 ?_ ?_ | refine toR_agg3 ?_ ?_ ?_))) trivial ?_
   refine q_mv rfl (rg_nil (VS_r0 rfl (q_mv rfl (q_sub rfl rfl (inR64 (by omega)) (q_mv rfl (rg_nil ?_))))))
   refine Bd.renL [0, 4] (obk rfl) (by simp) [(0, .ptr 0 0 0), (3, ownD 1 (dP (putR xs (a, b - 100)))), (4, .pv (i64 (n - 1)))] ⟨rfl, inv_own rfl, rfl, trivial⟩ (l2 rfl (obD_mP _)) ⟨_, ?_, n - 1, putR xs (a, b - 100), q + 1 + 1, rfl, ?_, ?_, ?_, ?_, rfl, rfl⟩
   ·omega
   ·omega
   ·omega
   ·omega
   ·exact putR_good (okPut_iff.2 ⟨g3, goodX_iff.2 ⟨⟨by omega, by omega⟩, by show -1000 ≤ b - 100; omega, by show b - 100 ≤ 1000; omega⟩, by omega⟩)
  ·try simp at c1
   refine VS_skip (VS_r0 rfl (q_mv rfl (q_sub rfl rfl (inR64 (by omega)) (q_mv rfl (rg_nil ?_)))))
   refine Bd.renL [0, 1] (obk rfl) (by simp) [(0, .ptr 0 0 0), (3, ownD 1 (dP xs)), (4, .pv (i64 (n - 1)))] ⟨rfl, inv_own rfl, rfl, trivial⟩ (l2 rfl (obD_mP _)) ⟨_, ?_, n - 1, xs, q + 1 + 1, rfl, ?_, ?_, ?_, ?_, rfl, rfl⟩
   ·omega
   ·omega
   ·omega
   ·omega
   ·omega
 ·try simp at c0
  refine VS_exit (VS_seq (VS_r0 rfl (q_mv rfl (q_mv rfl (rg_nil (VS_ret ?_))))))
  exact Bd.now ⟨_, res_own rfl, xs, q, ⟨⟨g2, g3⟩, by omega, by omega⟩, rfl, rfl⟩
theorem sl_spec_hasKey : slimF prog 100 = some (10, (.seq (.reg 0 (.o 2 (.box 39 2 (.t 0)) (.o 4 (.mv (.c (.pv (.bool false)))) .nil))) (.seq (.reg 0 (.o 5 (.load 2 true (.t 2)) (.o 6 (.call 80 [.t 5]) (.o 7 (.call 79 [.t 6]) (.o 8 (.mv (.t 1)) (.o 9 (.call 87 [.t 7, .t 8]) (.o 4 (.mv (.t 9)) .nil))))))) .ret), [.t 4])) := by kernel_rfl
theorem c_spec_hasKey (t : Pt) (k : Int) (hv : validT t = true) : PCon prog 100 [ptP t, i64 k] (fun p => p = .bool ((keysR (prV t)).contains k)) := by
 have hvf := valid_facts hv
 have hpl := prV_len (t := t)
 have hpl0 : (prT t (hgtT t)).length ≤ 1000000 := by rw [prV, if_pos hv] at hpl; omega
 refine con_of_VS sl_spec_hasKey (by simp) (VS_seq (VS_r0 rfl (q_box rfl rfl rfl trivial (q_mv rfl (rg_nil (VS_seq (VS_r0 rfl (q_load_ra rfl rfl rfl rfl rfl (by (simp; done)) rfl (q_callp ((c_spec_pairsOf t (valid_smallT hv) (hgtT t) hvf.wk (by have := hvf.n16; omega) (valid_safe hv).rows hpl0).to (y := prs (prV t)) (by rw [prV, if_pos hv])) rfl trivial (q_callp (c_spec_keysOf (prV t) (by omega)) rfl trivial (q_mv rfl (q_callp (c_spec_isIn (keysR (prV t)) k (by simp; omega)) rfl trivial (q_mv rfl (rg_nil (VS_ret ?_)))))))))))))))
 exact Bd.now ⟨_, rfl, rfl⟩
theorem sl_spec_DropKey : slimF prog 81 = some (25, (.seq (.reg 0 (.o 2 (.box 39 2 (.t 0)) (.o 4 (.alloc 39 2 (.agg [.pv (.int .i64 0), .nils])) (.o 5 (.mv (.c (.pv (.bool false)))) .nil)))) (.seq (.seq (.reg 0 (.o 8 (.load 2 true (.t 2)) (.o 9 (.call 49 [.t 8]) (.o 10 (.not (.t 9)) (.o 11 (.mv (.t 10)) (.g 12 11 false (.load 2 true (.t 2)) (.g 13 11 false (.mv (.t 1)) (.g 14 11 false (.call 100 [.t 12, .t 13]) (.g 15 11 false (.not (.t 14)) (.o 16 (.pick (.t 11) (.c (.pv (.bool true))) (.t 15)) .nil)))))))))) (.cond (.t 16) (.seq (.reg 0 (.o 17 (.build [.pv (.int .i64 0), .nils] []) (.op ⟨none, none, .store 2 (.t 4) (.t 17)⟩ (.o 5 (.mv (.c (.pv (.bool false)))) .nil)))) .ret) .skip)) (.seq (.reg 0 (.o 19 (.load 2 true (.t 2)) (.o 20 (.mv (.t 1)) (.o 21 (.call 101 [.t 19, .t 20]) (.o 18 (.mv (.t 21)) (.o 22 (.ext (.t 18) 0) (.o 23 (.ext (.t 18) 1) (.o 6 (.alloc 39 2 (.agg [.pv (.int .i64 0), .nils])) (.op ⟨none, none, .store 2 (.t 6) (.t 22)⟩ (.o 7 (.mv (.t 23)) .nil)))))))))) (.seq (.reg 0 (.o 24 (.load 2 true (.t 6)) (.op ⟨none, none, .store 2 (.t 4) (.t 24)⟩ (.o 5 (.mv (.c (.pv (.bool true)))) .nil)))) .ret))), [.c 4 2, .t 5])) := by kernel_rfl
theorem c_spec_DropKey_no (t : Pt) (k : Int) (hs : smallT t) (hno : okDropT t k = false) : PCon prog 81 [ptP t, i64 k] (fun p => p = .tup [ptP ⟨0, []⟩, .bool false]) := by
 refine con_of_VS sl_spec_DropKey (by simp) (VS_seq (VS_r0 rfl (q_box rfl rfl rfl trivial (q_alloc trivial (q_mv rfl (rg_nil (VS_seq (VS_seq (VS_r0 rfl (q_load_ra rfl rfl rfl rfl rfl (by (simp; done)) rfl (q_callp (c_spec_validTree t hs) rfl trivial (q_not rfl (q_mv rfl ?_)))))))))))))
 refine q_b rfl (fun g11 => ?_) (fun g11 => ?_)
 ·try simp at g11
  have hv : validT t = true := by simpa using g11
  refine q_t rfl (q_load_ra rfl rfl rfl rfl rfl (by (simp; done)) rfl (q_t rfl (q_mv rfl (q_t rfl (q_callp (c_spec_hasKey t k hv) rfl trivial (q_t rfl (q_not rfl (q_pick_f rfl rfl (rg_nil ?_)))))))))
  refine VS_cond rfl (fun c0 => ?_) (fun c0 => ?_)
  ·try simp at c0
   refine VS_seq (VS_r0 rfl (q_build rfl (q_store rfl rfl rfl rfl rfl rfl ⟨rfl, rfl, by simp, rfl, by simp [isOne]⟩ rfl trivial (q_mv rfl (rg_nil (VS_ret ?_))))))
   exact Bd.now ⟨_, rfl, rfl⟩
  ·exfalso; have hc : okDropT t k = true := okDropT_iff.2 ⟨hv, by simpa using c0⟩; rw [hno] at hc; cases hc
 ·try simp at g11
  refine q_f rfl (q_f rfl (q_f rfl (q_f rfl (q_pick_t rfl rfl (rg_nil ?_)))))
  refine VS_cond rfl (fun _ => ?_) (fun e => by cases e)
  refine VS_seq (VS_r0 rfl (q_build rfl (q_store rfl rfl rfl rfl rfl rfl ⟨rfl, rfl, by simp, rfl, by simp [isOne]⟩ rfl trivial (q_mv rfl (rg_nil (VS_ret ?_))))))
  exact Bd.now ⟨_, rfl, rfl⟩
theorem c_spec_DropKey_ok (t : Pt) (k : Int) (hs : smallT t) (hok : okDropT t k = true) : CallS prog 81 [.pv (ptP t), .pv (i64 k)] [] (fun d S => ∃ (T : Pt) (x : PV) (R : Store), (SafeT T ∧ x = .bool true) ∧ d = .tup [treeD 0 T, .pv x] ∧ S = obD 25 3 (dG T.ps) :: R) := by
 have hok2 := okDropT_iff.1 hok
 have hv := hok2.1
 refine callS_of_VS sl_spec_DropKey (by simp) (VS_seq (VS_r0 rfl (q_box rfl rfl rfl trivial (q_alloc trivial (q_mv rfl (rg_nil (VS_seq (VS_seq (VS_r0 rfl (q_load_ra rfl rfl rfl rfl rfl (by (simp; done)) rfl (q_callp (x := .bool true) ((c_spec_validTree t hs).to (y := .bool true) (by rw [hv])) rfl trivial (q_not rfl (q_mv rfl (q_t rfl (q_load_ra rfl rfl rfl rfl rfl (by (simp; done)) rfl ?_)))))))))))))))
 refine q_t rfl (q_mv rfl (q_t rfl (q_callp (x := .bool true) ((c_spec_hasKey t k hv).to (y := .bool true) (by rw [hok2.2])) rfl trivial (q_t rfl (q_not rfl (q_pick_f rfl rfl (rg_nil ?_)))))))
 refine VS_cond rfl (fun e => by cases e) (fun _ => ?_)
 refine VS_skip (VS_seq (VS_r0 rfl (q_load_ra rfl rfl rfl rfl rfl (by (simp; done)) rfl (q_mv rfl ?_))))
 refine q_newTe rfl (show NewTe prog 101 25 [ptP t, i64 k] (fun T y => SafeT T ∧ ∃ j, y = i64 j) from (c_spec_dropTree t k hv).mono fun d S ⟨T, j, R, h1, h2, h3⟩ => ⟨T, i64 j, R, ⟨h1, j, rfl⟩, h2, h3⟩) (by repeat (first | exact trivial | refine ⟨.inl rfl, ?_⟩ | refine ⟨.inr ⟨_, rfl, rfl⟩, ?_⟩)) (fun _ => trivial) ?_
 rintro T _ ⟨hT, j, rfl⟩
 refine q_mv rfl (q_ext rfl rfl (q_ext rfl rfl (q_alloc trivial (q_store rfl rfl rfl rfl rfl rfl ⟨rfl, rfl, by simp, by simp [setAt, isCell_own, isCell_sl, isCell_int, isCell_nils], by simp [isOne]⟩ rfl trivial (q_mv rfl (rg_nil (VS_seq (VS_r0 rfl (q_load_ra rfl rfl rfl rfl rfl (by (simp [setAt]; done)) rfl (q_store rfl rfl rfl rfl rfl rfl ⟨rfl, rfl, by simp, by simp [setAt, isCell_own, isCell_sl, isCell_int, isCell_nils], by simp [isOne]⟩ rfl trivial (q_mv rfl (rg_nil (VS_ret ?_)))))))))))))
 refine Bd.renL (S' := [obD 25 3 (dG T.ps), some ⟨39, 2, [.agg [.pv (i64 T.r), ownD 0 (dG T.ps)]]⟩]) [2, 1] (zbk _) (by simp) [(4, .ptr 1 0 0), (5, .pv (.bool true))] ⟨rfl, rfl, trivial⟩ (l2 (obD_mG _) (congrArg (fun z => some (⟨39, 2, [.agg [.pv (i64 T.r), z]]⟩ : Ob)) (mp1_own rfl))) ?_
 exact ⟨_, rfl, T, _, _, ⟨hT, rfl⟩, rfl, rfl⟩
theorem c_spec_PutKey_te (t : Pt) (x : Int × Int) (hs : smallT t) (hok : okPutT t x = true) : NewTe prog 78 25 [ptP t, pairP x] (fun T y => SafeT T ∧ y = .bool true) :=
 (c_spec_PutKey_ok t x hs hok).mono fun d S ⟨R, h1, h2⟩ => ⟨putM t x, .bool true, R, ⟨valid_safe (okPutT_iff.1 hok).2.2, rfl⟩, h1, h2⟩
end Go.V

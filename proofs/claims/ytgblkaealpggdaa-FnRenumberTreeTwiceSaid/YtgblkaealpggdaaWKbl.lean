/- A part of the proofs about laws of the page tree (see the text that bears the law): a small language of steps, its rules, and what the functions of the program return. -/
import Derived.Test.YtgblkaealpggdaaWKbk
import Derived.Test.YtgblkaealpggdaaQK
set_option linter.all false
set_option linter.unusedVariables false
set_option linter.unusedSimpArgs false
set_option maxHeartbeats 4000000
namespace Go.V
open Go.Proofs.Try (prog)
theorem obl {os : List Nat} (h : os[0]? = some 0) : ∀ i, i < 1 → os[i]? = some i := fun i hi => by
 have e : i = 0 := by omega
 subst e; exact h
set_option maxRecDepth 100000
theorem sl_spec_goodTree : slimF prog 42 [(5, 4), (11, 4)] = some (56, (.seq (.reg 0 (.o 2 (.alloc 39 2 (.agg [.pv (.int .i64 0), .nils])) .nil)) (.seq (.reg 0 (.o 10 (.mv (.t 0)) (.o 11 (.call 77 [.t 10]) (.o 12 (.call 64 [.t 11]) (.o 3 (.alloc 39 2 (.agg [.pv (.int .i64 0), .nils])) (.op ⟨none, none, .store 2 (.t 3) (.t 12)⟩ .nil)))))) (.seq (.seq (.reg 0 (.o 13 (.mv (.t 0)) (.o 14 (.lit 3 1 4 [.pv (.int .i64 0)] [(0, .c (.pv (.int .i64 3))), (1, .c (.pv (.int .i64 6))), (2, .c (.pv (.int .i64 0))), (3, .c (.pv (.int .i64 10)))]) (.o 15 (.call 47 [.t 13, .t 14]) (.o 4 (.mv (.t 15)) .nil))))) (.block 0 (.loop (.seq (.seq (.reg 0 (.o 16 (.mv (.t 4)) (.o 17 (.bin .gtr (.t 16) (.c (.pv (.int .i64 0)))) .nil))) (.cond (.t 17) .skip (.exit 0))) (.seq (.block 1 (.seq (.reg 2 (.o 21 (.load 2 true (.t 3)) (.o 22 (.mv (.t 0)) (.o 24 (.mv (.t 0)) (.or (.o 23 (.call 48 [.t 22, .c (.pv (.int .i64 100))]) (.or (.o 25 (.call 48 [.t 24, .c (.pv (.int .i64 100))]) (.o 26 (.build [.pv (.int .i64 0), .pv (.int .i64 0)] [(0, (1, .t 23)), (1, (1, .t 25))]) (.or (.o 27 (.call 78 [.t 21, .t 26]) (.o 20 (.mv (.t 27)) (.o 28 (.ext (.t 20) 0) (.o 29 (.ext (.t 20) 1) (.o 5 (.alloc 39 2 (.agg [.pv (.int .i64 0), .nils])) (.op ⟨none, none, .store 2 (.t 5) (.t 28)⟩ (.o 6 (.mv (.t 29)) .nil))))))) (.o 5 (.alloc 39 2 (.agg [.pv (.int .i64 0), .nils])) (.o 27 (.call 78 [.t 21, .t 26]) (.o 20 (.mv (.t 27)) (.o 28 (.ext (.t 20) 0) (.o 29 (.ext (.t 20) 1) (.op ⟨none, none, .store 2 (.t 5) (.t 28)⟩ (.o 6 (.mv (.t 29)) .nil)))))))))) (.o 5 (.alloc 39 2 (.agg [.pv (.int .i64 0), .nils])) (.o 25 (.call 48 [.t 24, .c (.pv (.int .i64 100))]) (.o 26 (.build [.pv (.int .i64 0), .pv (.int .i64 0)] [(0, (1, .t 23)), (1, (1, .t 25))]) (.o 27 (.call 78 [.t 21, .t 26]) (.o 20 (.mv (.t 27)) (.o 28 (.ext (.t 20) 0) (.o 29 (.ext (.t 20) 1) (.op ⟨none, none, .store 2 (.t 5) (.t 28)⟩ (.o 6 (.mv (.t 29)) .nil))))))))))) (.o 5 (.alloc 39 2 (.agg [.pv (.int .i64 0), .nils])) (.o 23 (.call 48 [.t 22, .c (.pv (.int .i64 100))]) (.o 25 (.call 48 [.t 24, .c (.pv (.int .i64 100))]) (.o 26 (.build [.pv (.int .i64 0), .pv (.int .i64 0)] [(0, (1, .t 23)), (1, (1, .t 25))]) (.o 27 (.call 78 [.t 21, .t 26]) (.o 20 (.mv (.t 27)) (.o 28 (.ext (.t 20) 0) (.o 29 (.ext (.t 20) 1) (.op ⟨none, none, .store 2 (.t 5) (.t 28)⟩ (.o 6 (.mv (.t 29)) .nil))))))))))))))) (.seq (.seq (.reg 0 (.o 30 (.mv (.t 6)) .nil)) (.cond (.t 30) (.reg 0 (.o 31 (.load 2 true (.t 5)) (.op ⟨none, none, .store 2 (.t 3) (.t 31)⟩ .nil))) .skip)) (.seq (.reg 0 (.o 32 (.mv (.t 0)) (.o 33 (.call 48 [.t 32, .c (.pv (.int .i64 2))]) (.o 34 (.bin .eql (.t 33) (.c (.pv (.int .i64 0)))) .nil)))) (.cond (.t 34) (.seq (.reg 0 (.o 35 (.load 2 true (.t 3)) (.o 36 (.call 80 [.t 35]) (.o 37 (.call 79 [.t 36]) (.o 7 (.mv (.t 37)) .nil))))) (.seq (.reg 0 (.o 38 (.mv (.t 7)) (.o 39 (.len (.t 38)) (.o 40 (.bin .gtr (.t 39) (.c (.pv (.int .i64 0)))) .nil)))) (.cond (.t 40) (.seq (.reg 2 (.o 42 (.load 2 true (.t 3)) (.o 43 (.mv (.t 7)) (.o 44 (.mv (.t 0)) (.o 45 (.mv (.t 7)) (.o 46 (.len (.t 45)) (.or (.o 47 (.call 48 [.t 44, .t 46]) (.o 48 (.idx 1 (.t 43) (.t 47)) (.o 49 (.load 1 false (.t 48)) (.or (.o 50 (.call 81 [.t 42, .t 49]) (.o 41 (.mv (.t 50)) (.o 51 (.ext (.t 41) 0) (.o 52 (.ext (.t 41) 1) (.o 8 (.alloc 39 2 (.agg [.pv (.int .i64 0), .nils])) (.op ⟨none, none, .store 2 (.t 8) (.t 51)⟩ (.o 9 (.mv (.t 52)) .nil))))))) (.o 8 (.alloc 39 2 (.agg [.pv (.int .i64 0), .nils])) (.o 50 (.call 81 [.t 42, .t 49]) (.o 41 (.mv (.t 50)) (.o 51 (.ext (.t 41) 0) (.o 52 (.ext (.t 41) 1) (.op ⟨none, none, .store 2 (.t 8) (.t 51)⟩ (.o 9 (.mv (.t 52)) .nil))))))))))) (.o 8 (.alloc 39 2 (.agg [.pv (.int .i64 0), .nils])) (.o 47 (.call 48 [.t 44, .t 46]) (.o 48 (.idx 1 (.t 43) (.t 47)) (.o 49 (.load 1 false (.t 48)) (.o 50 (.call 81 [.t 42, .t 49]) (.o 41 (.mv (.t 50)) (.o 51 (.ext (.t 41) 0) (.o 52 (.ext (.t 41) 1) (.op ⟨none, none, .store 2 (.t 8) (.t 51)⟩ (.o 9 (.mv (.t 52)) .nil))))))))))))))))) (.seq (.reg 0 (.o 53 (.mv (.t 9)) .nil)) (.cond (.t 53) (.reg 0 (.o 54 (.load 2 true (.t 8)) (.op ⟨none, none, .store 2 (.t 3) (.t 54)⟩ .nil))) .skip))) .skip))) .skip))))) (.reg 0 (.o 18 (.mv (.t 4)) (.o 19 (.bin .sub (.t 18) (.c (.pv (.int .i64 1)))) (.o 4 (.mv (.t 19)) .nil))))))))) (.seq (.reg 0 (.o 55 (.load 2 true (.t 3)) (.op ⟨none, none, .store 2 (.t 2) (.t 55)⟩ .nil))) .ret))), [.c 2 2])) := by kernel_rfl
theorem c_spec_goodTree (bs : List Int) (hb : isU8 bs) (hbl : bs.length ≤ 2000) (p : Int) (hp : 0 ≤ p) (hp2 : p ≤ 60000000000) : CallS prog 42 [.ptr 0 0 0] [some (rdr 84 bs (p))] (fun d S => ∃ (T : Pt) (q : Int) (R : Store), (SafeT T ∧ p ≤ q ∧ q ≤ p + 200) ∧ d = treeD 1 T ∧ S = some (rdr 84 bs (q)) :: obD 25 3 (dG T.ps) :: R) := by
 refine callS_of_VS sl_spec_goodTree (by simp) (VS_seq (VS_r0 rfl (q_alloc trivial (rg_nil (VS_seq (VS_r0 rfl (q_mv rfl ?_)))))))
 refine q_rdn rfl (c_spec_goodRow_g bs hb hbl _ (by omega) (by omega)) (fun _ _ => rfl) rfl rfl (fun _ _ => trivial) ?_
 rintro xs q11 ⟨⟨hx1, hx2⟩, hq1, hq2⟩
 refine q_newTz (o := 2) rfl (show NewT prog 64 25 [prs xs] (loadT xs) from c_spec_load xs hx1) rfl rfl trivial ?_
 refine q_alloc trivial (q_store rfl rfl rfl rfl rfl rfl ⟨rfl, rfl, by simp, by simp [setAt, isCell_own, isCell_sl, isCell_int, isCell_nils], by simp [isOne]⟩ rfl trivial (rg_nil (VS_seq (VS_seq (VS_r0 rfl (q_mv rfl (q_lit (xs := [3, 6, 0, 10].map (.int .i64)) rfl rfl rfl rfl ?_)))))))
 refine q_rd rfl (c_spec_reader_one bs hb hbl _ (by omega) [3, 6, 0, 10] (by simp) (by simp) (by omega)) rfl rfl (fun _ => trivial) ?_
 rintro _ q15 ⟨c, rfl, q_c, rfl⟩
 refine q_mv rfl (rg_nil (VS_block ?_))
 simp only [List.mem_cons, List.not_mem_nil, or_false] at q_c
 refine VS_bd (Bd.renL (S' := [some (rdr 84 bs (q11 + 1)), some ⟨39, 2, [.agg [.pv (i64 0), .nils]]⟩, some ⟨39, 2, [.agg [.pv (i64 (loadT xs).r), ownD 3 (dG (loadT xs).ps)]]⟩, obD 25 3 (dG (loadT xs).ps)]) [0, 1, 4, 3] (obl rfl) (by simp) [(0, .ptr 0 0 0), (2, .ptr 1 0 0), (3, .ptr 2 0 0), (4, .pv (i64 c))] ⟨rfl, rfl, rfl, rfl, trivial⟩ (l4 rfl rfl (congrArg (fun z => some (⟨39, 2, [.agg [.pv (i64 (loadT xs).r), z]]⟩ : Ob)) (mp1_own rfl)) (obD_mG _)) ?_)
 refine VS_bd (Bd.keepL [(0, .ptr 0 0 0), (2, .ptr 1 0 0), (3, .ptr 2 0 0), (4, .pv (i64 c))] ⟨rfl, rfl, rfl, rfl, trivial⟩ ?_)
 refine VS_loop (fun mz E S => ∃ n : Int, ∃ T : Pt, ∃ q : Int, mz = n.toNat ∧ (0 ≤ n ∧ n ≤ 10) ∧ (p ≤ q ∧ q ≤ p + 101 + 4 * (10 - n)) ∧ (SafeT T) ∧ E = env [(0, .ptr 0 0 0), (2, .ptr 1 0 0), (3, .ptr 2 0 0), (4, .pv (i64 n))] ∧ S = [some (rdr 84 bs (q)), some ⟨39, 2, [.agg [.pv (i64 0), .nils]]⟩, some ⟨39, 2, [.agg [.pv (i64 T.r), ownD 3 (dG T.ps)]]⟩, obD 25 3 (dG T.ps)]) ⟨_, c, loadT xs, (q11 + 1), rfl, (by omega), (by omega), (valid_safe (load_good hx2).1), rfl, rfl⟩ ?_
 rintro mz _ _ ⟨n, T, q, hmeas, g0, gq, gs, rfl, rfl⟩
 refine VS_seq (VS_seq (VS_r0 rfl (q_mv rfl (q_gtr rfl rfl (rg_nil ?_)))))
 refine VS_cond rfl (fun c0 => ?_) (fun c0 => ?_)
 ·try simp at c0
  refine VS_skip (VS_seq (VS_block ?_))
  refine VS_join2 (fun E S => ∃ T : Pt, SafeT T ∧ E = env [(0, .ptr 0 0 0), (2, .ptr 1 0 0), (3, .ptr 2 0 0), (4, .pv (i64 n))] ∧ S = [some (rdr 84 bs ((q + 1 + 1))), some ⟨39, 2, [.agg [.pv (i64 0), .nils]]⟩, some ⟨39, 2, [.agg [.pv (i64 T.r), ownD 3 (dG T.ps)]]⟩, obD 25 3 (dG T.ps)]) ?_ ?_
  ·skip
   refine VS_r2 [none, none, some ⟨39, 2, [.agg [.pv (i64 T.r), ownD 3 (dG T.ps)]]⟩] hmix (SubL.sub (by repeat constructor)) (q_load_ra rfl rfl rfl rfl rfl (by (simp; done)) rfl (q_mv rfl (q_mv rfl ?_)))
   refine q_or ?_ ?_
   ·skip
    refine q_rd rfl (c_spec_reader_pick bs hb hbl _ (by omega) 100 (by omega) (by omega)) rfl rfl (fun _ => (SubL.sub (by repeat constructor))) ?_
    rintro _ q23 ⟨a, rfl, q_a, rfl⟩
    refine q_or ?_ ?_
    ·skip
     refine q_rd rfl (c_spec_reader_pick bs hb hbl _ (by omega) 100 (by omega) (by omega)) rfl rfl (fun _ => (SubL.sub (by repeat constructor))) ?_
     rintro _ q25 ⟨b, rfl, q_b, rfl⟩
     refine q_build rfl ?_
     refine q_or ?_ ?_
     ·skip
      by_cases hok : okPutT T (a, b) = true
      ·skip
       have hne : T.ps ≠ [] := by have hm := gs.many; intro e; rw [e] at hm; simp at hm
       refine q_newTo (T0 := T) (o := 3) (p := pairP (a, b)) rfl (c_spec_PutKey_te T (a, b) gs.small hok) rfl (by repeat (first | exact trivial | refine ⟨.inl rfl, ?_⟩ | refine ⟨.inr ⟨_, rfl, rfl⟩, ?_⟩)) rfl hne (fun _ => (SubL.sub (by repeat constructor))) ?_
       clear hne
       rintro T _ ⟨gs, rfl⟩
       refine q_mv rfl (q_ext rfl rfl (q_ext rfl rfl (q_alloc (SubL.sub (by repeat constructor)) (q_store rfl rfl rfl rfl rfl rfl ⟨rfl, rfl, by simp, by simp [setAt, isCell_own, isCell_sl, isCell_int, isCell_nils], by simp [isOne]⟩ rfl (SubL.sub (by repeat constructor)) (q_mv rfl (rg_nil (VS_seq (VS_r0 rfl (q_mv rfl (rg_nil ?_))))))))))
       refine VS_cond rfl (fun _ => ?_) (fun e => by cases e)
       refine VS_r0 rfl (q_load_ra rfl rfl rfl rfl rfl (by (simp [setAt]; done)) rfl (q_store rfl rfl rfl rfl rfl rfl ⟨rfl, rfl, by simp, by simp [setAt, isCell_own, isCell_sl, isCell_int, isCell_nils], by simp [isOne]⟩ rfl trivial (rg_nil ?_)))
       exact Bd.renL (S' := [some (rdr 84 bs ((q + 1 + 1))), some ⟨39, 2, [.agg [.pv (i64 0), .nils]]⟩, some ⟨39, 2, [.agg [.pv (i64 T.r), ownD 3 (dG T.ps)]]⟩, obD 25 3 (dG T.ps)]) [0, 1, 2, 4] (obl rfl) (by simp) [(0, .ptr 0 0 0), (2, .ptr 1 0 0), (3, .ptr 2 0 0), (4, .pv (i64 n))] ⟨rfl, rfl, rfl, rfl, trivial⟩ (l4 rfl rfl (congrArg (fun z => some (⟨39, 2, [.agg [.pv (i64 T.r), z]]⟩ : Ob)) (mp1_own rfl)) (obD_mG _)) ⟨T, gs, rfl, rfl⟩
      ·skip
       refine q_calll rfl (c_spec_PutKey_no T (a, b) gs.small (by simpa using hok)) (by (repeat' (first | exact toRs_nil | refine toRs_cons ?_ ?_ | rfl | exact toR_I rfl | exact toR_P rfl | exact toR_G rfl | refine toR_agg2 ?_ ?_ | refine toR_agg3 ?_ ?_ ?_))) rfl (SubL.sub (by repeat constructor)) ?_
       refine q_mv rfl (q_ext rfl rfl (q_ext rfl rfl (q_alloc (SubL.sub (by repeat constructor)) (q_store rfl rfl rfl rfl rfl rfl ⟨rfl, rfl, by simp, rfl, by simp [isOne]⟩ rfl (SubL.sub (by repeat constructor)) (q_mv rfl (rg_nil (VS_seq (VS_r0 rfl (q_mv rfl (rg_nil ?_))))))))))
       refine VS_cond rfl (fun e => by cases e) (fun _ => ?_)
       refine VS_skip ?_
       exact Bd.renL (S' := [some (rdr 84 bs ((q + 1 + 1))), some ⟨39, 2, [.agg [.pv (i64 0), .nils]]⟩, some ⟨39, 2, [.agg [.pv (i64 T.r), ownD 3 (dG T.ps)]]⟩, obD 25 3 (dG T.ps)]) [0, 1, 2, 3] (obl rfl) (by simp) [(0, .ptr 0 0 0), (2, .ptr 1 0 0), (3, .ptr 2 0 0), (4, .pv (i64 n))] ⟨rfl, rfl, rfl, rfl, trivial⟩ (l4 rfl rfl (congrArg (fun z => some (⟨39, 2, [.agg [.pv (i64 T.r), z]]⟩ : Ob)) (mp1_own rfl)) (obD_mG _)) ⟨T, gs, rfl, rfl⟩
     ·skip
      refine q_alloc (SubL.sub (by repeat constructor)) ?_
      by_cases hok : okPutT T (a, b) = true
      ·skip
       have hne : T.ps ≠ [] := by have hm := gs.many; intro e; rw [e] at hm; simp at hm
       refine q_newTo (T0 := T) (o := 3) (p := pairP (a, b)) rfl (c_spec_PutKey_te T (a, b) gs.small hok) rfl (by repeat (first | exact trivial | refine ⟨.inl rfl, ?_⟩ | refine ⟨.inr ⟨_, rfl, rfl⟩, ?_⟩)) rfl hne (fun _ => (SubL.sub (by repeat constructor))) ?_
       clear hne
       rintro T _ ⟨gs, rfl⟩
       refine q_mv rfl (q_ext rfl rfl (q_ext rfl rfl (q_store rfl rfl rfl rfl rfl rfl ⟨rfl, rfl, by simp, by simp [setAt, isCell_own, isCell_sl, isCell_int, isCell_nils], by simp [isOne]⟩ rfl (SubL.sub (by repeat constructor)) (q_mv rfl (rg_nil (VS_seq (VS_r0 rfl (q_mv rfl (rg_nil ?_)))))))))
       refine VS_cond rfl (fun _ => ?_) (fun e => by cases e)
       refine VS_r0 rfl (q_load_ra rfl rfl rfl rfl rfl (by (simp [setAt]; done)) rfl (q_store rfl rfl rfl rfl rfl rfl ⟨rfl, rfl, by simp, by simp [setAt, isCell_own, isCell_sl, isCell_int, isCell_nils], by simp [isOne]⟩ rfl trivial (rg_nil ?_)))
       exact Bd.renL (S' := [some (rdr 84 bs ((q + 1 + 1))), some ⟨39, 2, [.agg [.pv (i64 0), .nils]]⟩, some ⟨39, 2, [.agg [.pv (i64 T.r), ownD 3 (dG T.ps)]]⟩, obD 25 3 (dG T.ps)]) [0, 1, 2, 5] (obl rfl) (by simp) [(0, .ptr 0 0 0), (2, .ptr 1 0 0), (3, .ptr 2 0 0), (4, .pv (i64 n))] ⟨rfl, rfl, rfl, rfl, trivial⟩ (l4 rfl rfl (congrArg (fun z => some (⟨39, 2, [.agg [.pv (i64 T.r), z]]⟩ : Ob)) (mp1_own rfl)) (obD_mG _)) ⟨T, gs, rfl, rfl⟩
      ·skip
       refine q_calll rfl (c_spec_PutKey_no T (a, b) gs.small (by simpa using hok)) (by (repeat' (first | exact toRs_nil | refine toRs_cons ?_ ?_ | rfl | exact toR_I rfl | exact toR_P rfl | exact toR_G rfl | refine toR_agg2 ?_ ?_ | refine toR_agg3 ?_ ?_ ?_))) rfl (SubL.sub (by repeat constructor)) ?_
       refine q_mv rfl (q_ext rfl rfl (q_ext rfl rfl (q_store rfl rfl rfl rfl rfl rfl ⟨rfl, rfl, by simp, rfl, by simp [isOne]⟩ rfl (SubL.sub (by repeat constructor)) (q_mv rfl (rg_nil (VS_seq (VS_r0 rfl (q_mv rfl (rg_nil ?_)))))))))
       refine VS_cond rfl (fun e => by cases e) (fun _ => ?_)
       refine VS_skip ?_
       exact Bd.renL (S' := [some (rdr 84 bs ((q + 1 + 1))), some ⟨39, 2, [.agg [.pv (i64 0), .nils]]⟩, some ⟨39, 2, [.agg [.pv (i64 T.r), ownD 3 (dG T.ps)]]⟩, obD 25 3 (dG T.ps)]) [0, 1, 2, 3] (obl rfl) (by simp) [(0, .ptr 0 0 0), (2, .ptr 1 0 0), (3, .ptr 2 0 0), (4, .pv (i64 n))] ⟨rfl, rfl, rfl, rfl, trivial⟩ (l4 rfl rfl (congrArg (fun z => some (⟨39, 2, [.agg [.pv (i64 T.r), z]]⟩ : Ob)) (mp1_own rfl)) (obD_mG _)) ⟨T, gs, rfl, rfl⟩
    ·skip
     refine q_alloc (SubL.sub (by repeat constructor)) ?_
     refine q_rd rfl (c_spec_reader_pick bs hb hbl _ (by omega) 100 (by omega) (by omega)) rfl rfl (fun _ => (SubL.sub (by repeat constructor))) ?_
     rintro _ q25 ⟨b, rfl, q_b, rfl⟩
     refine q_build rfl ?_
     by_cases hok : okPutT T (a, b) = true
     ·skip
      have hne : T.ps ≠ [] := by have hm := gs.many; intro e; rw [e] at hm; simp at hm
      refine q_newTo (T0 := T) (o := 3) (p := pairP (a, b)) rfl (c_spec_PutKey_te T (a, b) gs.small hok) rfl (by repeat (first | exact trivial | refine ⟨.inl rfl, ?_⟩ | refine ⟨.inr ⟨_, rfl, rfl⟩, ?_⟩)) rfl hne (fun _ => (SubL.sub (by repeat constructor))) ?_
      clear hne
      rintro T _ ⟨gs, rfl⟩
      refine q_mv rfl (q_ext rfl rfl (q_ext rfl rfl (q_store rfl rfl rfl rfl rfl rfl ⟨rfl, rfl, by simp, by simp [setAt, isCell_own, isCell_sl, isCell_int, isCell_nils], by simp [isOne]⟩ rfl (SubL.sub (by repeat constructor)) (q_mv rfl (rg_nil (VS_seq (VS_r0 rfl (q_mv rfl (rg_nil ?_)))))))))
      refine VS_cond rfl (fun _ => ?_) (fun e => by cases e)
      refine VS_r0 rfl (q_load_ra rfl rfl rfl rfl rfl (by (simp [setAt]; done)) rfl (q_store rfl rfl rfl rfl rfl rfl ⟨rfl, rfl, by simp, by simp [setAt, isCell_own, isCell_sl, isCell_int, isCell_nils], by simp [isOne]⟩ rfl trivial (rg_nil ?_)))
      exact Bd.renL (S' := [some (rdr 84 bs ((q + 1 + 1))), some ⟨39, 2, [.agg [.pv (i64 0), .nils]]⟩, some ⟨39, 2, [.agg [.pv (i64 T.r), ownD 3 (dG T.ps)]]⟩, obD 25 3 (dG T.ps)]) [0, 1, 2, 5] (obl rfl) (by simp) [(0, .ptr 0 0 0), (2, .ptr 1 0 0), (3, .ptr 2 0 0), (4, .pv (i64 n))] ⟨rfl, rfl, rfl, rfl, trivial⟩ (l4 rfl rfl (congrArg (fun z => some (⟨39, 2, [.agg [.pv (i64 T.r), z]]⟩ : Ob)) (mp1_own rfl)) (obD_mG _)) ⟨T, gs, rfl, rfl⟩
     ·skip
      refine q_calll rfl (c_spec_PutKey_no T (a, b) gs.small (by simpa using hok)) (by (repeat' (first | exact toRs_nil | refine toRs_cons ?_ ?_ | rfl | exact toR_I rfl | exact toR_P rfl | exact toR_G rfl | refine toR_agg2 ?_ ?_ | refine toR_agg3 ?_ ?_ ?_))) rfl (SubL.sub (by repeat constructor)) ?_
      refine q_mv rfl (q_ext rfl rfl (q_ext rfl rfl (q_store rfl rfl rfl rfl rfl rfl ⟨rfl, rfl, by simp, rfl, by simp [isOne]⟩ rfl (SubL.sub (by repeat constructor)) (q_mv rfl (rg_nil (VS_seq (VS_r0 rfl (q_mv rfl (rg_nil ?_)))))))))
      refine VS_cond rfl (fun e => by cases e) (fun _ => ?_)
      refine VS_skip ?_
      exact Bd.renL (S' := [some (rdr 84 bs ((q + 1 + 1))), some ⟨39, 2, [.agg [.pv (i64 0), .nils]]⟩, some ⟨39, 2, [.agg [.pv (i64 T.r), ownD 3 (dG T.ps)]]⟩, obD 25 3 (dG T.ps)]) [0, 1, 2, 3] (obl rfl) (by simp) [(0, .ptr 0 0 0), (2, .ptr 1 0 0), (3, .ptr 2 0 0), (4, .pv (i64 n))] ⟨rfl, rfl, rfl, rfl, trivial⟩ (l4 rfl rfl (congrArg (fun z => some (⟨39, 2, [.agg [.pv (i64 T.r), z]]⟩ : Ob)) (mp1_own rfl)) (obD_mG _)) ⟨T, gs, rfl, rfl⟩
   ·skip
    refine q_alloc (SubL.sub (by repeat constructor)) ?_
    refine q_rd rfl (c_spec_reader_pick bs hb hbl _ (by omega) 100 (by omega) (by omega)) rfl rfl (fun _ => (SubL.sub (by repeat constructor))) ?_
    rintro _ q23 ⟨a, rfl, q_a, rfl⟩
    refine q_rd rfl (c_spec_reader_pick bs hb hbl _ (by omega) 100 (by omega) (by omega)) rfl rfl (fun _ => (SubL.sub (by repeat constructor))) ?_
    rintro _ q25 ⟨b, rfl, q_b, rfl⟩
    refine q_build rfl ?_
    by_cases hok : okPutT T (a, b) = true
    ·skip
     have hne : T.ps ≠ [] := by have hm := gs.many; intro e; rw [e] at hm; simp at hm
     refine q_newTo (T0 := T) (o := 3) (p := pairP (a, b)) rfl (c_spec_PutKey_te T (a, b) gs.small hok) rfl (by repeat (first | exact trivial | refine ⟨.inl rfl, ?_⟩ | refine ⟨.inr ⟨_, rfl, rfl⟩, ?_⟩)) rfl hne (fun _ => (SubL.sub (by repeat constructor))) ?_
     clear hne
     rintro T _ ⟨gs, rfl⟩
     refine q_mv rfl (q_ext rfl rfl (q_ext rfl rfl (q_store rfl rfl rfl rfl rfl rfl ⟨rfl, rfl, by simp, by simp [setAt, isCell_own, isCell_sl, isCell_int, isCell_nils], by simp [isOne]⟩ rfl (SubL.sub (by repeat constructor)) (q_mv rfl (rg_nil (VS_seq (VS_r0 rfl (q_mv rfl (rg_nil ?_)))))))))
     refine VS_cond rfl (fun _ => ?_) (fun e => by cases e)
     refine VS_r0 rfl (q_load_ra rfl rfl rfl rfl rfl (by (simp [setAt]; done)) rfl (q_store rfl rfl rfl rfl rfl rfl ⟨rfl, rfl, by simp, by simp [setAt, isCell_own, isCell_sl, isCell_int, isCell_nils], by simp [isOne]⟩ rfl trivial (rg_nil ?_)))
     exact Bd.renL (S' := [some (rdr 84 bs ((q + 1 + 1))), some ⟨39, 2, [.agg [.pv (i64 0), .nils]]⟩, some ⟨39, 2, [.agg [.pv (i64 T.r), ownD 3 (dG T.ps)]]⟩, obD 25 3 (dG T.ps)]) [0, 1, 2, 5] (obl rfl) (by simp) [(0, .ptr 0 0 0), (2, .ptr 1 0 0), (3, .ptr 2 0 0), (4, .pv (i64 n))] ⟨rfl, rfl, rfl, rfl, trivial⟩ (l4 rfl rfl (congrArg (fun z => some (⟨39, 2, [.agg [.pv (i64 T.r), z]]⟩ : Ob)) (mp1_own rfl)) (obD_mG _)) ⟨T, gs, rfl, rfl⟩
    ·skip
     refine q_calll rfl (c_spec_PutKey_no T (a, b) gs.small (by simpa using hok)) (by (repeat' (first | exact toRs_nil | refine toRs_cons ?_ ?_ | rfl | exact toR_I rfl | exact toR_P rfl | exact toR_G rfl | refine toR_agg2 ?_ ?_ | refine toR_agg3 ?_ ?_ ?_))) rfl (SubL.sub (by repeat constructor)) ?_
     refine q_mv rfl (q_ext rfl rfl (q_ext rfl rfl (q_store rfl rfl rfl rfl rfl rfl ⟨rfl, rfl, by simp, rfl, by simp [isOne]⟩ rfl (SubL.sub (by repeat constructor)) (q_mv rfl (rg_nil (VS_seq (VS_r0 rfl (q_mv rfl (rg_nil ?_)))))))))
     refine VS_cond rfl (fun e => by cases e) (fun _ => ?_)
     refine VS_skip ?_
     exact Bd.renL (S' := [some (rdr 84 bs ((q + 1 + 1))), some ⟨39, 2, [.agg [.pv (i64 0), .nils]]⟩, some ⟨39, 2, [.agg [.pv (i64 T.r), ownD 3 (dG T.ps)]]⟩, obD 25 3 (dG T.ps)]) [0, 1, 2, 3] (obl rfl) (by simp) [(0, .ptr 0 0 0), (2, .ptr 1 0 0), (3, .ptr 2 0 0), (4, .pv (i64 n))] ⟨rfl, rfl, rfl, rfl, trivial⟩ (l4 rfl rfl (congrArg (fun z => some (⟨39, 2, [.agg [.pv (i64 T.r), z]]⟩ : Ob)) (mp1_own rfl)) (obD_mG _)) ⟨T, gs, rfl, rfl⟩
  ·rintro _ _ ⟨T, gs, rfl, rfl⟩
   refine VS_seq (VS_r0 rfl (q_mv rfl ?_))
   refine q_rd rfl (c_spec_reader_pick bs hb hbl _ (by omega) 2 (by omega) (by omega)) rfl rfl (fun _ => trivial) ?_
   rintro _ q33 ⟨v, rfl, q_v, rfl⟩
   refine q_eql rfl rfl (rg_nil ?_)
   refine VS_cond rfl (fun c2 => ?_) (fun c2 => ?_)
   ·try simp at c2
    refine VS_seq ?_
    have hwk := Classical.choose_spec gs.wk
    have hlen := gs.lens hwk.2 (wk_in hwk.1)
    have hkl : (keysR (prT T (Classical.choose gs.wk))).length ≤ 864 := by rw [List.length_map]; exact hlen
    have hkp : (keysR (prT T (Classical.choose gs.wk))).length = (prT T (Classical.choose gs.wk)).length := List.length_map ..
    refine VS_r0 rfl (q_load_ra rfl rfl rfl rfl rfl (by (simp; done)) rfl ?_)
    refine q_new rfl (c_spec_pairsOf_n T gs.small (Classical.choose gs.wk) hwk.1 (by omega) gs.rows (by omega)) (flat_P _) (by (repeat' (first | exact toRs_nil | refine toRs_cons ?_ ?_ | rfl | exact toR_I rfl | exact toR_P rfl | exact toR_G rfl | refine toR_agg2 ?_ ?_ | refine toR_agg3 ?_ ?_ ?_))) trivial ?_
    refine q_new rfl (c_spec_keysOf_n (prT T (Classical.choose gs.wk)) (by omega)) (flat_I _) (by (repeat' (first | exact toRs_nil | refine toRs_cons ?_ ?_ | rfl | exact toR_I rfl | exact toR_P rfl | exact toR_G rfl | refine toR_agg2 ?_ ?_ | refine toR_agg3 ?_ ?_ ?_))) trivial ?_
    refine q_mv rfl (rg_nil ?_)
    refine VS_bd (Bd.renL (S' := [some (rdr 84 bs ((q + 1 + 1 + 1))), some ⟨39, 2, [.agg [.pv (i64 0), .nils]]⟩, some ⟨39, 2, [.agg [.pv (i64 T.r), ownD 3 (dG T.ps)]]⟩, obD 25 3 (dG T.ps), obD 3 1 (dI (keysR (prT T (Classical.choose gs.wk))))]) [0, 1, 2, 3, 5] (obl rfl) (by simp) [(0, .ptr 0 0 0), (2, .ptr 1 0 0), (3, .ptr 2 0 0), (4, .pv (i64 n)), (7, ownD 4 (dI (keysR (prT T (Classical.choose gs.wk)))))] ⟨rfl, rfl, rfl, rfl, inv_own rfl, trivial⟩ (l5 rfl rfl (congrArg (fun z => some (⟨39, 2, [.agg [.pv (i64 T.r), z]]⟩ : Ob)) (mp1_own rfl)) (obD_mG _) (obD_mI _)) ?_)
    refine VS_seq (VS_r0 rfl (q_mv rfl (q_len_dm rfl (q_gtr rfl rfl (rg_nil ?_)))))
    refine VS_cond rfl (fun c3 => ?_) (fun c3 => ?_)
    ·try simp at c3
     refine VS_seq (VS_r2 [none, none, some ⟨39, 2, [.agg [.pv (i64 T.r), ownD 3 (dG T.ps)]]⟩, none, obD 3 1 (dI (keysR (prT T (Classical.choose gs.wk))))] hmix (SubL.sub (by repeat constructor)) (q_load_ra rfl rfl rfl rfl rfl (by (simp; done)) rfl (q_mv rfl (q_mv rfl (q_mv rfl (q_len_dm rfl ?_))))))
     refine q_or ?_ ?_
     ·skip
      refine q_rd rfl (c_spec_reader_pick bs hb hbl _ (by omega) (keysR (prT T (Classical.choose gs.wk))).length (by omega) (by omega)) rfl rfl (fun _ => (SubL.sub (by repeat constructor))) ?_
      rintro _ q47 ⟨u, rfl, q_u, rfl⟩
      refine q_idx_dm (f := fun k => .pv (i64 k)) (ty := 3) (xs := (keysR (prT T (Classical.choose gs.wk)))) (n := u) rfl rfl (by omega) (by omega) rfl (q_load_d (ty := 3) (xs := (keysR (prT T (Classical.choose gs.wk)))) rfl rfl (by omega) rfl rfl rfl ?_)
      refine q_or ?_ ?_
      ·skip
       by_cases hok : okDropT T (nth (keysR (prT T (Classical.choose gs.wk))) u.toNat) = true
       ·skip
        have hne : T.ps ≠ [] := by have hm := gs.many; intro e; rw [e] at hm; simp at hm
        refine q_newTo (T0 := T) (o := 3) (p := i64 (nth (keysR (prT T (Classical.choose gs.wk))) u.toNat)) rfl (show NewTe prog 81 25 [ptP T, i64 (nth (keysR (prT T (Classical.choose gs.wk))) u.toNat)] (fun T y => SafeT T ∧ y = .bool true) from c_spec_DropKey_ok T (nth (keysR (prT T (Classical.choose gs.wk))) u.toNat) gs.small hok) rfl (by repeat (first | exact trivial | refine ⟨.inl rfl, ?_⟩ | refine ⟨.inr ⟨_, rfl, rfl⟩, ?_⟩)) rfl hne (fun _ => (SubL.sub (by repeat constructor))) ?_
        clear hne
        rintro T _ ⟨gs, rfl⟩
        refine q_mv rfl (q_ext rfl rfl (q_ext rfl rfl (q_alloc (SubL.sub (by repeat constructor)) (q_store rfl rfl rfl rfl rfl rfl ⟨rfl, rfl, by simp, by simp [setAt, isCell_own, isCell_sl, isCell_int, isCell_nils], by simp [isOne]⟩ rfl (SubL.sub (by repeat constructor)) (q_mv rfl (rg_nil (VS_seq (VS_r0 rfl (q_mv rfl (rg_nil ?_))))))))))
        refine VS_cond rfl (fun _ => ?_) (fun e => by cases e)
        refine VS_r0 rfl (q_load_ra rfl rfl rfl rfl rfl (by (simp [setAt]; done)) rfl (q_store rfl rfl rfl rfl rfl rfl ⟨rfl, rfl, by simp, by simp [setAt, isCell_own, isCell_sl, isCell_int, isCell_nils], by simp [isOne]⟩ rfl trivial (rg_nil ?_)))
        refine VS_bd (Bd.renL (S' := [some (rdr 84 bs ((q + 1 + 1 + 1 + 1))), some ⟨39, 2, [.agg [.pv (i64 0), .nils]]⟩, some ⟨39, 2, [.agg [.pv (i64 T.r), ownD 3 (dG T.ps)]]⟩, obD 25 3 (dG T.ps)]) [0, 1, 2, 5] (obl rfl) (by simp) [(0, .ptr 0 0 0), (2, .ptr 1 0 0), (3, .ptr 2 0 0), (4, .pv (i64 n))] ⟨rfl, rfl, rfl, rfl, trivial⟩ (l4 rfl rfl (congrArg (fun z => some (⟨39, 2, [.agg [.pv (i64 T.r), z]]⟩ : Ob)) (mp1_own rfl)) (obD_mG _)) ?_)
        refine VS_r0 rfl (q_mv rfl (q_sub rfl rfl (inR64 (by omega)) (q_mv rfl (rg_nil ?_))))
        refine Bd.renL [0, 1, 2, 3] (obl rfl) (by simp) [(0, .ptr 0 0 0), (2, .ptr 1 0 0), (3, .ptr 2 0 0), (4, .pv (i64 (n - 1)))] ⟨rfl, rfl, rfl, rfl, trivial⟩ (l4 rfl rfl (congrArg (fun z => some (⟨39, 2, [.agg [.pv (i64 T.r), z]]⟩ : Ob)) (mp1_own rfl)) (obD_mG _)) ⟨_, ?_, n - 1, T, q + 1 + 1 + 1 + 1, rfl, ?_, ?_, ?_, rfl, rfl⟩
        ·omega
        ·omega
        ·omega
        ·exact gs
       ·skip
        refine q_calll rfl (c_spec_DropKey_no T (nth (keysR (prT T (Classical.choose gs.wk))) u.toNat) gs.small (by simpa using hok)) (by (repeat' (first | exact toRs_nil | refine toRs_cons ?_ ?_ | rfl | exact toR_I rfl | exact toR_P rfl | exact toR_G rfl | refine toR_agg2 ?_ ?_ | refine toR_agg3 ?_ ?_ ?_))) rfl (SubL.sub (by repeat constructor)) ?_
        refine q_mv rfl (q_ext rfl rfl (q_ext rfl rfl (q_alloc (SubL.sub (by repeat constructor)) (q_store rfl rfl rfl rfl rfl rfl ⟨rfl, rfl, by simp, rfl, by simp [isOne]⟩ rfl (SubL.sub (by repeat constructor)) (q_mv rfl (rg_nil (VS_seq (VS_r0 rfl (q_mv rfl (rg_nil ?_))))))))))
        refine VS_cond rfl (fun e => by cases e) (fun _ => ?_)
        refine VS_skip (VS_r0 rfl (q_mv rfl (q_sub rfl rfl (inR64 (by omega)) (q_mv rfl (rg_nil ?_)))))
        refine Bd.renL [0, 1, 2, 3] (obl rfl) (by simp) [(0, .ptr 0 0 0), (2, .ptr 1 0 0), (3, .ptr 2 0 0), (4, .pv (i64 (n - 1)))] ⟨rfl, rfl, rfl, rfl, trivial⟩ (l4 rfl rfl (congrArg (fun z => some (⟨39, 2, [.agg [.pv (i64 T.r), z]]⟩ : Ob)) (mp1_own rfl)) (obD_mG _)) ⟨_, ?_, n - 1, T, q + 1 + 1 + 1 + 1, rfl, ?_, ?_, ?_, rfl, rfl⟩
        ·omega
        ·omega
        ·omega
        ·exact gs
      ·skip
       refine q_alloc (SubL.sub (by repeat constructor)) ?_
       by_cases hok : okDropT T (nth (keysR (prT T (Classical.choose gs.wk))) u.toNat) = true
       ·skip
        have hne : T.ps ≠ [] := by have hm := gs.many; intro e; rw [e] at hm; simp at hm
        refine q_newTo (T0 := T) (o := 3) (p := i64 (nth (keysR (prT T (Classical.choose gs.wk))) u.toNat)) rfl (show NewTe prog 81 25 [ptP T, i64 (nth (keysR (prT T (Classical.choose gs.wk))) u.toNat)] (fun T y => SafeT T ∧ y = .bool true) from c_spec_DropKey_ok T (nth (keysR (prT T (Classical.choose gs.wk))) u.toNat) gs.small hok) rfl (by repeat (first | exact trivial | refine ⟨.inl rfl, ?_⟩ | refine ⟨.inr ⟨_, rfl, rfl⟩, ?_⟩)) rfl hne (fun _ => (SubL.sub (by repeat constructor))) ?_
        clear hne
        rintro T _ ⟨gs, rfl⟩
        refine q_mv rfl (q_ext rfl rfl (q_ext rfl rfl (q_store rfl rfl rfl rfl rfl rfl ⟨rfl, rfl, by simp, by simp [setAt, isCell_own, isCell_sl, isCell_int, isCell_nils], by simp [isOne]⟩ rfl (SubL.sub (by repeat constructor)) (q_mv rfl (rg_nil (VS_seq (VS_r0 rfl (q_mv rfl (rg_nil ?_)))))))))
        refine VS_cond rfl (fun _ => ?_) (fun e => by cases e)
        refine VS_r0 rfl (q_load_ra rfl rfl rfl rfl rfl (by (simp [setAt]; done)) rfl (q_store rfl rfl rfl rfl rfl rfl ⟨rfl, rfl, by simp, by simp [setAt, isCell_own, isCell_sl, isCell_int, isCell_nils], by simp [isOne]⟩ rfl trivial (rg_nil ?_)))
        refine VS_bd (Bd.renL (S' := [some (rdr 84 bs ((q + 1 + 1 + 1 + 1))), some ⟨39, 2, [.agg [.pv (i64 0), .nils]]⟩, some ⟨39, 2, [.agg [.pv (i64 T.r), ownD 3 (dG T.ps)]]⟩, obD 25 3 (dG T.ps)]) [0, 1, 2, 6] (obl rfl) (by simp) [(0, .ptr 0 0 0), (2, .ptr 1 0 0), (3, .ptr 2 0 0), (4, .pv (i64 n))] ⟨rfl, rfl, rfl, rfl, trivial⟩ (l4 rfl rfl (congrArg (fun z => some (⟨39, 2, [.agg [.pv (i64 T.r), z]]⟩ : Ob)) (mp1_own rfl)) (obD_mG _)) ?_)
        refine VS_r0 rfl (q_mv rfl (q_sub rfl rfl (inR64 (by omega)) (q_mv rfl (rg_nil ?_))))
        refine Bd.renL [0, 1, 2, 3] (obl rfl) (by simp) [(0, .ptr 0 0 0), (2, .ptr 1 0 0), (3, .ptr 2 0 0), (4, .pv (i64 (n - 1)))] ⟨rfl, rfl, rfl, rfl, trivial⟩ (l4 rfl rfl (congrArg (fun z => some (⟨39, 2, [.agg [.pv (i64 T.r), z]]⟩ : Ob)) (mp1_own rfl)) (obD_mG _)) ⟨_, ?_, n - 1, T, q + 1 + 1 + 1 + 1, rfl, ?_, ?_, ?_, rfl, rfl⟩
        ·omega
        ·omega
        ·omega
        ·exact gs
       ·skip
        refine q_calll rfl (c_spec_DropKey_no T (nth (keysR (prT T (Classical.choose gs.wk))) u.toNat) gs.small (by simpa using hok)) (by (repeat' (first | exact toRs_nil | refine toRs_cons ?_ ?_ | rfl | exact toR_I rfl | exact toR_P rfl | exact toR_G rfl | refine toR_agg2 ?_ ?_ | refine toR_agg3 ?_ ?_ ?_))) rfl (SubL.sub (by repeat constructor)) ?_
        refine q_mv rfl (q_ext rfl rfl (q_ext rfl rfl (q_store rfl rfl rfl rfl rfl rfl ⟨rfl, rfl, by simp, rfl, by simp [isOne]⟩ rfl (SubL.sub (by repeat constructor)) (q_mv rfl (rg_nil (VS_seq (VS_r0 rfl (q_mv rfl (rg_nil ?_)))))))))
        refine VS_cond rfl (fun e => by cases e) (fun _ => ?_)
        refine VS_skip (VS_r0 rfl (q_mv rfl (q_sub rfl rfl (inR64 (by omega)) (q_mv rfl (rg_nil ?_)))))
        refine Bd.renL [0, 1, 2, 3] (obl rfl) (by simp) [(0, .ptr 0 0 0), (2, .ptr 1 0 0), (3, .ptr 2 0 0), (4, .pv (i64 (n - 1)))] ⟨rfl, rfl, rfl, rfl, trivial⟩ (l4 rfl rfl (congrArg (fun z => some (⟨39, 2, [.agg [.pv (i64 T.r), z]]⟩ : Ob)) (mp1_own rfl)) (obD_mG _)) ⟨_, ?_, n - 1, T, q + 1 + 1 + 1 + 1, rfl, ?_, ?_, ?_, rfl, rfl⟩
        ·omega
        ·omega
        ·omega
        ·exact gs
     ·skip
      refine q_alloc (SubL.sub (by repeat constructor)) ?_
      refine q_rd rfl (c_spec_reader_pick bs hb hbl _ (by omega) (keysR (prT T (Classical.choose gs.wk))).length (by omega) (by omega)) rfl rfl (fun _ => (SubL.sub (by repeat constructor))) ?_
      rintro _ q47 ⟨u, rfl, q_u, rfl⟩
      refine q_idx_dm (f := fun k => .pv (i64 k)) (ty := 3) (xs := (keysR (prT T (Classical.choose gs.wk)))) (n := u) rfl rfl (by omega) (by omega) rfl (q_load_d (ty := 3) (xs := (keysR (prT T (Classical.choose gs.wk)))) rfl rfl (by omega) rfl rfl rfl ?_)
      by_cases hok : okDropT T (nth (keysR (prT T (Classical.choose gs.wk))) u.toNat) = true
      ·skip
       have hne : T.ps ≠ [] := by have hm := gs.many; intro e; rw [e] at hm; simp at hm
       refine q_newTo (T0 := T) (o := 3) (p := i64 (nth (keysR (prT T (Classical.choose gs.wk))) u.toNat)) rfl (show NewTe prog 81 25 [ptP T, i64 (nth (keysR (prT T (Classical.choose gs.wk))) u.toNat)] (fun T y => SafeT T ∧ y = .bool true) from c_spec_DropKey_ok T (nth (keysR (prT T (Classical.choose gs.wk))) u.toNat) gs.small hok) rfl (by repeat (first | exact trivial | refine ⟨.inl rfl, ?_⟩ | refine ⟨.inr ⟨_, rfl, rfl⟩, ?_⟩)) rfl hne (fun _ => (SubL.sub (by repeat constructor))) ?_
       clear hne
       rintro T _ ⟨gs, rfl⟩
       refine q_mv rfl (q_ext rfl rfl (q_ext rfl rfl (q_store rfl rfl rfl rfl rfl rfl ⟨rfl, rfl, by simp, by simp [setAt, isCell_own, isCell_sl, isCell_int, isCell_nils], by simp [isOne]⟩ rfl (SubL.sub (by repeat constructor)) (q_mv rfl (rg_nil (VS_seq (VS_r0 rfl (q_mv rfl (rg_nil ?_)))))))))
       refine VS_cond rfl (fun _ => ?_) (fun e => by cases e)
       refine VS_r0 rfl (q_load_ra rfl rfl rfl rfl rfl (by (simp [setAt]; done)) rfl (q_store rfl rfl rfl rfl rfl rfl ⟨rfl, rfl, by simp, by simp [setAt, isCell_own, isCell_sl, isCell_int, isCell_nils], by simp [isOne]⟩ rfl trivial (rg_nil ?_)))
       refine VS_bd (Bd.renL (S' := [some (rdr 84 bs ((q + 1 + 1 + 1 + 1))), some ⟨39, 2, [.agg [.pv (i64 0), .nils]]⟩, some ⟨39, 2, [.agg [.pv (i64 T.r), ownD 3 (dG T.ps)]]⟩, obD 25 3 (dG T.ps)]) [0, 1, 2, 6] (obl rfl) (by simp) [(0, .ptr 0 0 0), (2, .ptr 1 0 0), (3, .ptr 2 0 0), (4, .pv (i64 n))] ⟨rfl, rfl, rfl, rfl, trivial⟩ (l4 rfl rfl (congrArg (fun z => some (⟨39, 2, [.agg [.pv (i64 T.r), z]]⟩ : Ob)) (mp1_own rfl)) (obD_mG _)) ?_)
       refine VS_r0 rfl (q_mv rfl (q_sub rfl rfl (inR64 (by omega)) (q_mv rfl (rg_nil ?_))))
       refine Bd.renL [0, 1, 2, 3] (obl rfl) (by simp) [(0, .ptr 0 0 0), (2, .ptr 1 0 0), (3, .ptr 2 0 0), (4, .pv (i64 (n - 1)))] ⟨rfl, rfl, rfl, rfl, trivial⟩ (l4 rfl rfl (congrArg (fun z => some (⟨39, 2, [.agg [.pv (i64 T.r), z]]⟩ : Ob)) (mp1_own rfl)) (obD_mG _)) ⟨_, ?_, n - 1, T, q + 1 + 1 + 1 + 1, rfl, ?_, ?_, ?_, rfl, rfl⟩
       ·omega
       ·omega
       ·omega
       ·exact gs
      ·skip
       refine q_calll rfl (c_spec_DropKey_no T (nth (keysR (prT T (Classical.choose gs.wk))) u.toNat) gs.small (by simpa using hok)) (by (repeat' (first | exact toRs_nil | refine toRs_cons ?_ ?_ | rfl | exact toR_I rfl | exact toR_P rfl | exact toR_G rfl | refine toR_agg2 ?_ ?_ | refine toR_agg3 ?_ ?_ ?_))) rfl (SubL.sub (by repeat constructor)) ?_
       refine q_mv rfl (q_ext rfl rfl (q_ext rfl rfl (q_store rfl rfl rfl rfl rfl rfl ⟨rfl, rfl, by simp, rfl, by simp [isOne]⟩ rfl (SubL.sub (by repeat constructor)) (q_mv rfl (rg_nil (VS_seq (VS_r0 rfl (q_mv rfl (rg_nil ?_)))))))))
       refine VS_cond rfl (fun e => by cases e) (fun _ => ?_)
       refine VS_skip (VS_r0 rfl (q_mv rfl (q_sub rfl rfl (inR64 (by omega)) (q_mv rfl (rg_nil ?_)))))
       refine Bd.renL [0, 1, 2, 3] (obl rfl) (by simp) [(0, .ptr 0 0 0), (2, .ptr 1 0 0), (3, .ptr 2 0 0), (4, .pv (i64 (n - 1)))] ⟨rfl, rfl, rfl, rfl, trivial⟩ (l4 rfl rfl (congrArg (fun z => some (⟨39, 2, [.agg [.pv (i64 T.r), z]]⟩ : Ob)) (mp1_own rfl)) (obD_mG _)) ⟨_, ?_, n - 1, T, q + 1 + 1 + 1 + 1, rfl, ?_, ?_, ?_, rfl, rfl⟩
       ·omega
       ·omega
       ·omega
       ·exact gs
    ·try simp at c3
     refine VS_skip (VS_r0 rfl (q_mv rfl (q_sub rfl rfl (inR64 (by omega)) (q_mv rfl (rg_nil ?_)))))
     refine Bd.renL [0, 1, 2, 3] (obl rfl) (by simp) [(0, .ptr 0 0 0), (2, .ptr 1 0 0), (3, .ptr 2 0 0), (4, .pv (i64 (n - 1)))] ⟨rfl, rfl, rfl, rfl, trivial⟩ (l4 rfl rfl (congrArg (fun z => some (⟨39, 2, [.agg [.pv (i64 T.r), z]]⟩ : Ob)) (mp1_own rfl)) (obD_mG _)) ⟨_, ?_, n - 1, T, q + 1 + 1 + 1, rfl, ?_, ?_, ?_, rfl, rfl⟩
     ·omega
     ·omega
     ·omega
     ·exact gs
   ·try simp at c2
    refine VS_skip (VS_r0 rfl (q_mv rfl (q_sub rfl rfl (inR64 (by omega)) (q_mv rfl (rg_nil ?_)))))
    refine Bd.renL [0, 1, 2, 3] (obl rfl) (by simp) [(0, .ptr 0 0 0), (2, .ptr 1 0 0), (3, .ptr 2 0 0), (4, .pv (i64 (n - 1)))] ⟨rfl, rfl, rfl, rfl, trivial⟩ (l4 rfl rfl (congrArg (fun z => some (⟨39, 2, [.agg [.pv (i64 T.r), z]]⟩ : Ob)) (mp1_own rfl)) (obD_mG _)) ⟨_, ?_, n - 1, T, q + 1 + 1 + 1, rfl, ?_, ?_, ?_, rfl, rfl⟩
    ·omega
    ·omega
    ·omega
    ·exact gs
 ·try simp at c0
  refine VS_exit (VS_seq (VS_r0 rfl (q_load_ra rfl rfl rfl rfl rfl (by (simp; done)) rfl (q_store rfl rfl rfl rfl rfl rfl ⟨rfl, rfl, by simp, by simp [setAt, isCell_own, isCell_sl, isCell_int, isCell_nils], by simp [isOne]⟩ rfl trivial (rg_nil (VS_ret ?_))))))
  refine Bd.renL (S' := [some (rdr 84 bs (q)), obD 25 3 (dG T.ps), some ⟨39, 2, [.agg [.pv (i64 T.r), ownD 1 (dG T.ps)]]⟩]) [0, 3, 1] (obl rfl) (by simp) [(2, .ptr 2 0 0)] ⟨rfl, trivial⟩ (l3 rfl (obD_mG _) (congrArg (fun z => some (⟨39, 2, [.agg [.pv (i64 T.r), z]]⟩ : Ob)) (mp1_own rfl))) ?_
  exact ⟨_, rfl, T, q, _, ⟨gs, by omega, by omega⟩, rfl, rfl⟩
end Go.V

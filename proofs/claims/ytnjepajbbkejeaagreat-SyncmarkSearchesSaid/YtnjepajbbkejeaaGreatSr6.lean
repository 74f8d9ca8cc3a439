import Derived.Test.YtnjepajbbkejeaaGreatSr5
namespace Go.AW
open Go Go.Proofs
set_option maxHeartbeats 1600000
set_option maxRecDepth 100000
set_option linter.unusedVariables false
theorem w_syncmark_Search {p0 : TLabelsStatesEdges} {p1 : Int} {p2 : Int} {p3 : Int} {r : (List UInt8) × Int} (h : m_syncmark_Search p0 p1 p2 p3 = some r) : Pure Tryz.prog 23 [gA p0, hI p1, hI p2, hI p3] (· = HV.tup [.str r.1, hI r.2]) := by
 unfold m_syncmark_Search at h
 refine Pure.of_body Tryz.func23 rfl rfl (lb rfl) fun hf => ?_
 unfold Tryz.f23
 dsimp only [enumS, Nat.reduceAdd]
 refine AW.rgs rfl fun K hK => b_op rfl (o_box rfl rfl rfl ?_)
 refine b_op rfl (o_box rfl rfl rfl ?_)
 refine b_op rfl (o_alloc (fid := 23) (zs := [.str nS]) 23008 rfl rfl ty9 rfl (fun v1 => ?_))
 refine b_op rfl (o_alloc (fid := 23) (zs := [hI 0]) 23009 rfl rfl ty28 rfl (fun v2 => ?_))
 refine bf hK ⟨[(2, hI p2), (3, hI p3), (4, gF p0), (5, .fptr [hI p1] 0), (8, .ptr 23008 v1 0), (9, .ptr 23009 v2 0)], [(23008, v1, .arr 1 9 [.str nS]), (23009, v2, .arr 1 28 [hI 0])]⟩ ?_
 refine AW.seq (AW.block ?_)
 refine AW.rgs rfl fun K hK => bv rfl (v_loadF ty24 rfl (l_litA rfl (lb rfl) rfl)) ?_
 obtain ⟨x3, h4, h⟩ := bS h
 refine b_op rfl (o_call rfl rfl rfl rfl (ACallD.pure0 (w_graph_Check h4)) ?_)
 refine bv rfl (v_bin rfl rfl b_neq) (mv rfl rfl ?_)
 refine bf hK ⟨[(2, hI p2), (3, hI p3), (4, gF p0), (5, .fptr [hI p1] 0), (8, .ptr 23008 v1 0), (9, .ptr 23009 v2 0), (14, .bool (decide (x3 ≠ 0)))], [(23008, v1, .arr 1 9 [.str nS]), (23009, v2, .arr 1 28 [hI 0])]⟩ ?_
 refine AW.cond rfl (fun hc => ?_) (fun hc => ?_)
 ·obtain ⟨hc, h⟩ := cT hc h
  refine AW.rgs rfl fun K hK => b_op rfl (o_store (cs := [.str nS]) (zs := [.str nS]) rfl rfl rfl ty9 rfl rfl rfl rfl rfl ?_)
  refine b_op rfl (o_store (cs := [hI 1]) (zs := [hI 1]) rfl rfl rfl ty28 rfl rfl rfl rfl rfl ?_)
  refine bf hK ⟨[(8, .ptr 23008 v1 0), (9, .ptr 23009 v2 0)], [(23008, v1, .arr 1 9 [.str nS]), (23009, v2, .arr 1 28 [hI 1])]⟩ ?_
  refine AW.ret ?_
  have h := Option.some.inj h
  subst h
  exact ret_pure (hs := [.str nS, hI 1]) (.inr rfl) (resP ty9 rfl rfl (l_lit rfl rfl) (resP ty28 rfl rfl (l_lit rfl rfl) rfl)) rfl ⟨trivial, trivial, trivial⟩
 obtain ⟨hc, h⟩ := cF hc h
 refine AW.rgs rfl fun K hK => bv rfl (v_fieldAddrF fo24_0 rfl) (bv rfl (v_loadF ty3 rfl (l_lit rfl rfl)) (bv rfl (v_bin rfl rfl b_gtr) (mv rfl rfl ?_)))
 refine bf hK ⟨[(2, hI p2), (3, hI p3), (4, gF p0), (5, .fptr [hI p1] 0), (8, .ptr 23008 v1 0), (9, .ptr 23009 v2 0), (18, .bool (decide (16 < p0.1)))], [(23008, v1, .arr 1 9 [.str nS]), (23009, v2, .arr 1 28 [hI 0])]⟩ ?_
 refine AW.cond rfl (fun hc => ?_) (fun hc => ?_)
 ·obtain ⟨hc, h⟩ := cT hc h
  refine AW.rgs rfl fun K hK => b_op rfl (o_store (cs := [.str nS]) (zs := [.str nS]) rfl rfl rfl ty9 rfl rfl rfl rfl rfl ?_)
  refine b_op rfl (o_store (cs := [hI 12]) (zs := [hI 12]) rfl rfl rfl ty28 rfl rfl rfl rfl rfl ?_)
  refine bf hK ⟨[(8, .ptr 23008 v1 0), (9, .ptr 23009 v2 0)], [(23008, v1, .arr 1 9 [.str nS]), (23009, v2, .arr 1 28 [hI 12])]⟩ ?_
  refine AW.ret ?_
  have h := Option.some.inj h
  subst h
  exact ret_pure (hs := [.str nS, hI 12]) (.inr rfl) (resP ty9 rfl rfl (l_lit rfl rfl) (resP ty28 rfl rfl (l_lit rfl rfl) rfl)) rfl ⟨trivial, trivial, trivial⟩
 obtain ⟨hc, h⟩ := cF hc h
 refine AW.seqJ h (S := Bool) (V := Unit) (fun a v => ⟨[(2, hI p2), (3, hI p3), (4, gF p0), (5, .fptr [hI p1] 0), (8, .ptr 23008 v1 0), (9, .ptr 23009 v2 0), (22, .bool a)], [(23008, v1, .arr 1 9 [.str nS]), (23009, v2, .arr 1 28 [hI 0])]⟩) (fun a5 w6 h => ?_) (fun k7 h => ?_)
 ·refine AW.cond rfl (fun hc => ?_) (fun hc => ?_)
  ·have h := ifT hc h
   refine AW.rgs rfl fun K hK => b_op rfl (o_store (cs := [.str nS]) (zs := [.str nS]) rfl rfl rfl ty9 rfl rfl rfl rfl rfl ?_)
   refine b_op rfl (o_store (cs := [hI 2]) (zs := [hI 2]) rfl rfl rfl ty28 rfl rfl rfl rfl rfl ?_)
   refine bf hK ⟨[(8, .ptr 23008 v1 0), (9, .ptr 23009 v2 0)], [(23008, v1, .arr 1 9 [.str nS]), (23009, v2, .arr 1 28 [hI 2])]⟩ ?_
   refine AW.ret ?_
   have h := Option.some.inj h
   subst h
   exact ret_pure (hs := [.str nS, hI 2]) (.inr rfl) (resP ty9 rfl rfl (l_lit rfl rfl) (resP ty28 rfl rfl (l_lit rfl rfl) rfl)) rfl ⟨trivial, trivial, trivial⟩
  have h := ifF (bF' hc) h
  refine AW.rgs rfl fun K hK => mv rfl rfl (bv rfl (v_bin rfl rfl b_gtr) (mv rfl rfl ?_))
  refine bf hK ⟨[(2, hI p2), (3, hI p3), (4, gF p0), (5, .fptr [hI p1] 0), (8, .ptr 23008 v1 0), (9, .ptr 23009 v2 0), (38, .bool (decide (16 < p3)))], [(23008, v1, .arr 1 9 [.str nS]), (23009, v2, .arr 1 28 [hI 0])]⟩ ?_
  refine AW.cond rfl (fun hc => ?_) (fun hc => ?_)
  ·obtain ⟨hc, h⟩ := cT hc h
   refine AW.rgs rfl fun K hK => b_op rfl (o_store (cs := [.str nS]) (zs := [.str nS]) rfl rfl rfl ty9 rfl rfl rfl rfl rfl ?_)
   refine b_op rfl (o_store (cs := [hI 4]) (zs := [hI 4]) rfl rfl rfl ty28 rfl rfl rfl rfl rfl ?_)
   refine bf hK ⟨[(8, .ptr 23008 v1 0), (9, .ptr 23009 v2 0)], [(23008, v1, .arr 1 9 [.str nS]), (23009, v2, .arr 1 28 [hI 4])]⟩ ?_
   refine AW.ret ?_
   have h := Option.some.inj h
   subst h
   exact ret_pure (hs := [.str nS, hI 4]) (.inr rfl) (resP ty9 rfl rfl (l_lit rfl rfl) (resP ty28 rfl rfl (l_lit rfl rfl) rfl)) rfl ⟨trivial, trivial, trivial⟩
  obtain ⟨hc, h⟩ := cF hc h
  refine AW.skip ?_
  refine AW.rgs rfl fun K hK => mv rfl rfl ?_
  refine bf hK ⟨[(2, hI p2), (3, hI p3), (4, gF p0), (5, .fptr [hI p1] 0), (8, .ptr 23008 v1 0), (9, .ptr 23009 v2 0), (10, hI 1)], [(23008, v1, .arr 1 9 [.str nS]), (23009, v2, .arr 1 28 [hI 0])]⟩ ?_
  refine AW.seq ?_
  refine AW.rgs rfl fun K hK => mv rfl rfl (mv rfl rfl ?_)
  refine bf hK ⟨[(2, hI p2), (3, hI p3), (4, gF p0), (5, .fptr [hI p1] 0), (8, .ptr 23008 v1 0), (9, .ptr 23009 v2 0), (10, hI 1), (41, hI p3), (42, hI 0)], [(23008, v1, .arr 1 9 [.str nS]), (23009, v2, .arr 1 28 [hI 0])]⟩ ?_
  refine AW.lpR h (by first | exact up_then | exact up_to) (S := Int × Int) (V := Unit) (fun a v => ⟨[(2, hI p2), (3, hI p3), (4, gF p0), (5, .fptr [hI p1] 0), (8, .ptr 23008 v1 0), (9, .ptr 23009 v2 0), (10, hI a.1), (41, hI p3), (42, hI a.2)], [(23008, v1, .arr 1 9 [.str nS]), (23009, v2, .arr 1 28 [hI 0])]⟩) ?_ (X := Unit) (W := Unit) (fun a v => ⟨[(2, hI p2), (3, hI p3), (4, gF p0), (5, .fptr [hI p1] 0), (8, .ptr 23008 v1 0), (9, .ptr 23009 v2 0)], [(23008, v1, .arr 1 9 [.str nS]), (23009, v2, .arr 1 28 [hI 0])]⟩) (fun a12 w13 h => ?_) (fun a8 w9 st10 h hr11=> ?_)
  ·exact to_L ⟨(), rfl⟩
  ·refine AW.seq ?_
   refine AW.rgs rfl fun K hK => bv rfl (v_fieldAddrF fo24_0 rfl) (bv rfl (v_loadF ty3 rfl (l_lit rfl rfl)) (mv rfl rfl (mv rfl rfl ?_)))
   refine b_op rfl (o_call rfl rfl rfl rfl (ACallD.pure0 (w_syncmark_marks p0.1 p2 p3)) ?_)
   refine bf hK ⟨[(4, gF p0), (5, .fptr [hI p1] 0), (8, .ptr 23008 v1 0), (9, .ptr 23009 v2 0), (55, .fn (.func 65) [] [.fptr [hI p2] 0, .fptr [hI p3] 0, .fptr [hI p0.1] 0])], [(23008, v1, .arr 1 9 [.str nS]), (23009, v2, .arr 1 28 [hI 0])]⟩ ?_
   refine AW.block ?_
   refine AW.to (to_le (s' := ⟨[(4, gF p0), (5, .fptr [hI p1] 0), (8, .ptr 23008 v1 0), (9, .ptr 23009 v2 0), (55, .fn (.func 65) [] [.fptr [hI p2] 0, .fptr [hI p3] 0, .fptr [hI p0.1] 0])], [(23008, v1, .arr 1 9 [.str nS]), (23009, v2, .arr 1 28 [hI 0])]⟩) (le_q rfl rfl) ?_)
   obtain ⟨L14, h15, h⟩ := bS h
   refine AW.rangeY (c := .ret) 23900 (fun x => [.str x]) h (by first | exact up_then | exact up_to) rfl (iy_syncmark_marks h15) (S := Unit) (V := Unit) (fun a v => [(23008, v1, .arr 1 9 [.str nS]), (23009, v2, .arr 1 28 [hI 0])]) () (X := (List UInt8)) (W := Unit) (fun a v => [(23008, v1, .arr 1 9 [.str a]), (23009, v2, .arr 1 28 [hI 0])]) (fun _ _ => rfl) (fun _ _ => rfl) rfl (fun _ => rfl) (fun a24 w25 h => ?_) (fun a26 w27 h => ?_) (fun Lo l21 v19 a16 x18 w17 st20 h => ?_)
   ·refine AW.rgs rfl fun K hK => b_op rfl (o_store (cs := [.str nS]) (zs := [.str nS]) rfl rfl rfl ty9 rfl rfl rfl rfl rfl ?_)
    refine b_op rfl (o_store (cs := [hI 20]) (zs := [hI 20]) rfl rfl rfl ty28 rfl rfl rfl rfl rfl ?_)
    refine bf hK ⟨[(8, .ptr 23008 v1 0), (9, .ptr 23009 v2 0)], [(23008, v1, .arr 1 9 [.str nS]), (23009, v2, .arr 1 28 [hI 20])]⟩ ?_
    refine AW.ret ?_
    have h := Option.some.inj h
    subst h
    exact ret_pure (hs := [.str nS, hI 20]) (.inr rfl) (resP ty9 rfl rfl (l_lit rfl rfl) (resP ty28 rfl rfl (l_lit rfl rfl) rfl)) rfl ⟨trivial, trivial, trivial⟩
   ·refine AW.ret ?_
    have h := Option.some.inj h
    subst h
    exact ret_pure (hs := [.str a26, hI 0]) (.inr rfl) (resP ty9 rfl rfl (l_lit rfl rfl) (resP ty28 rfl rfl (l_lit rfl rfl) rfl)) rfl ⟨trivial, trivial, trivial⟩
   refine AW.rg rfl fun K hK => mv rfl rfl ?_
   refine b_nil (hK _ ?_)
   refine ⟨rfl, rfl, ?_⟩
   refine AW.block ?_
   refine AW.rgs rfl fun K hK => bv rfl (v_loadF ty24 rfl (l_litA rfl (lb rfl) rfl)) (mv rfl rfl (bv rfl (v_loadF ty3 rfl (l_lit rfl rfl)) ?_))
   obtain ⟨x22, h23, h⟩ := bS h
   refine b_op rfl (o_call rfl rfl rfl rfl (ACallD.pure0 (w_syncmark_bad h23)) ?_)
   refine mv rfl rfl (bv rfl (v_extract rfl rfl) (bv rfl (v_extract rfl rfl) (mv rfl rfl (mv rfl rfl ?_))))
   refine bf hK ⟨[(4, gF p0), (5, .fptr [hI p1] 0), (8, .ptr 23008 v1 0), (9, .ptr 23009 v2 0), (11, .str x18), (13, .bool x22.2), (56, .str x18)], [(23900, v19, Lo .busy none), (23008, v1, .arr 1 9 [.str nS]), (23009, v2, .arr 1 28 [hI 0])]⟩ ?_
   refine AW.rgs rfl fun K hK => mv rfl rfl (bv rfl (v_not rfl) ?_)
   refine bf hK ⟨[(4, gF p0), (5, .fptr [hI p1] 0), (8, .ptr 23008 v1 0), (9, .ptr 23009 v2 0), (11, .str x18), (56, .str x18), (65, .bool (!x22.2))], [(23900, v19, Lo .busy none), (23008, v1, .arr 1 9 [.str nS]), (23009, v2, .arr 1 28 [hI 0])]⟩ ?_
   refine AW.cond rfl (fun hc => ?_) (fun hc => ?_)
   ·have h := ifT hc h
    refine AW.rgs rfl fun K hK => mv rfl rfl ?_
    refine b_op rfl (o_store (cs := [.str x18]) (zs := [.str x18]) rfl rfl rfl ty9 rfl rfl rfl rfl rfl ?_)
    refine b_op rfl (o_store (cs := [hI 0]) (zs := [hI 0]) rfl rfl rfl ty28 rfl rfl rfl rfl rfl ?_)
    refine bf hK ⟨[(8, .ptr 23008 v1 0), (9, .ptr 23009 v2 0)], [(23900, v19, Lo .busy none), (23008, v1, .arr 1 9 [.str x18]), (23009, v2, .arr 1 28 [hI 0])]⟩ ?_
    refine AW.ret ?_
    exact ⟨rfl, x18, (), h, (AS.le_of trivial ⟨rfl, rfl, rfl, trivial⟩)⟩
   have h := ifF (bF' hc) h
   refine AW.skip ?_
   exact ⟨(), (), h, (AS.le_of trivial ⟨rfl, rfl, rfl, trivial⟩)⟩
  refine AW.rgs rfl fun K hK => bv rfl (v_bin rfl rfl b_lss) ?_
  refine bf hK ⟨[(2, hI p2), (3, hI p3), (4, gF p0), (5, .fptr [hI p1] 0), (8, .ptr 23008 v1 0), (9, .ptr 23009 v2 0), (10, hI a8.1), (41, hI p3), (42, hI a8.2), (43, .bool (decide (a8.2 < p3)))], [(23008, v1, .arr 1 9 [.str nS]), (23009, v2, .arr 1 28 [hI 0])]⟩ ?_
  refine AW.cseq rfl (fun hc => ?_) (fun hc => ?_)
  ·obtain ⟨hc, h⟩ := cT hc h
   refine AW.skip ?_
   refine AW.seq (AW.block ?_)
   refine AW.rgs rfl fun K hK => mv rfl rfl (bv rfl (v_fieldAddrF fo24_0 rfl) (bv rfl (v_loadF ty3 rfl (l_lit rfl rfl)) (bv rfl (v_bin rfl rfl b_mul) (mv rfl rfl ?_))))
   refine bf hK ⟨[(2, hI p2), (3, hI p3), (4, gF p0), (5, .fptr [hI p1] 0), (8, .ptr 23008 v1 0), (9, .ptr 23009 v2 0), (10, hI (IntKind.wrap .i64 (a8.1 * p0.1))), (41, hI p3), (42, hI a8.2)], [(23008, v1, .arr 1 9 [.str nS]), (23009, v2, .arr 1 28 [hI 0])]⟩ ?_
   refine AW.rgs rfl fun K hK => mv rfl rfl (bv rfl (v_bin rfl rfl b_gtr) ?_)
   refine bf hK ⟨[(2, hI p2), (3, hI p3), (4, gF p0), (5, .fptr [hI p1] 0), (8, .ptr 23008 v1 0), (9, .ptr 23009 v2 0), (10, hI (IntKind.wrap .i64 (a8.1 * p0.1))), (41, hI p3), (42, hI a8.2), (49, .bool (decide (65536 < (IntKind.wrap .i64 (a8.1 * p0.1)))))], [(23008, v1, .arr 1 9 [.str nS]), (23009, v2, .arr 1 28 [hI 0])]⟩ ?_
   refine AW.cond rfl (fun hc => ?_) (fun hc => ?_)
   ·obtain ⟨hc, h⟩ := cT hc h
    refine AW.rgs rfl fun K hK => b_op rfl (o_store (cs := [.str nS]) (zs := [.str nS]) rfl rfl rfl ty9 rfl rfl rfl rfl rfl ?_)
    refine b_op rfl (o_store (cs := [hI 4]) (zs := [hI 4]) rfl rfl rfl ty28 rfl rfl rfl rfl rfl ?_)
    refine bf hK ⟨[(8, .ptr 23008 v1 0), (9, .ptr 23009 v2 0)], [(23008, v1, .arr 1 9 [.str nS]), (23009, v2, .arr 1 28 [hI 4])]⟩ ?_
    have h := hr11 _ h
    refine AW.ret ?_
    have h := Option.some.inj h
    subst h
    exact ret_pure (hs := [.str nS, hI 4]) (.inr rfl) (resP ty9 rfl rfl (l_lit rfl rfl) (resP ty28 rfl rfl (l_lit rfl rfl) rfl)) rfl ⟨trivial, trivial, trivial⟩
   obtain ⟨hc, h⟩ := cF hc h
   refine AW.skip ?_
   refine AW.rg rfl fun K hK => bv rfl (v_bin rfl rfl b_add) (mv rfl rfl ?_)
   refine b_nil (hK _ ?_)
   exact to_L ⟨(IntKind.wrap .i64 (a8.1 * p0.1), IntKind.wrap .i64 (a8.2 + 1)), (), h, rfl⟩
  obtain ⟨hc, h⟩ := cF hc h
  refine AW.exit ?_
  exact to_L ⟨(), (), h, rfl⟩
 refine AW.rg rfl fun K hK => bv rfl (v_loadF ty3 rfl (l_lit rfl rfl)) (bv rfl (v_bin rfl rfl b_lss) (mv rfl rfl ?_))
 by_cases hg30 : p1 < 0
 ·have h := ifT hg30 h
  refine b_F rfl rfl rfl rfl rfl (decide_eq_true hg30) ?_
  refine b_F rfl rfl rfl rfl rfl rfl ?_
  refine bv rfl (v_pickT rfl rfl rfl) (mv rfl rfl ?_)
  refine b_F rfl rfl rfl rfl rfl rfl ?_
  refine b_F rfl rfl rfl rfl rfl rfl ?_
  refine bv rfl (v_pickT rfl rfl rfl) (mv rfl rfl ?_)
  refine b_F rfl rfl rfl rfl rfl rfl ?_
  refine b_F rfl rfl rfl rfl rfl rfl ?_
  refine b_F rfl rfl rfl rfl rfl rfl ?_
  refine bv rfl (v_pickT rfl rfl rfl) (mv rfl rfl ?_)
  refine b_nil (hK _ ?_)
  exact to_L ⟨true, (), h, rfl⟩
 have h := ifF hg30 h
 refine b_T rfl rfl rfl rfl (decide_eq_false hg30) (o_val rfl (v_loadF ty3 rfl (l_lit rfl rfl)) ?_)
 refine b_T rfl rfl rfl rfl rfl (o_val rfl (v_bin rfl rfl b_gtr) ?_)
 refine bv rfl (v_pickF rfl rfl rfl) (mv rfl rfl ?_)
 by_cases hg29 : 4096 < p1
 ·have h := ifT hg29 h
  refine b_F rfl rfl rfl rfl rfl (decide_eq_true hg29) ?_
  refine b_F rfl rfl rfl rfl rfl rfl ?_
  refine bv rfl (v_pickT rfl rfl rfl) (mv rfl rfl ?_)
  refine b_F rfl rfl rfl rfl rfl rfl ?_
  refine b_F rfl rfl rfl rfl rfl rfl ?_
  refine b_F rfl rfl rfl rfl rfl rfl ?_
  refine bv rfl (v_pickT rfl rfl rfl) (mv rfl rfl ?_)
  refine b_nil (hK _ ?_)
  exact to_L ⟨true, (), h, rfl⟩
 have h := ifF hg29 h
 refine b_T rfl rfl rfl rfl (decide_eq_false hg29) (o_val rfl (mv_val rfl rfl).2 ?_)
 refine b_T rfl rfl rfl rfl rfl (o_val rfl (v_bin rfl rfl b_lss) ?_)
 refine bv rfl (v_pickF rfl rfl rfl) (mv rfl rfl ?_)
 by_cases hg28 : p2 < 1
 ·have h := ifT hg28 h
  refine b_F rfl rfl rfl rfl rfl (decide_eq_true hg28) ?_
  refine b_F rfl rfl rfl rfl rfl rfl ?_
  refine b_F rfl rfl rfl rfl rfl rfl ?_
  refine bv rfl (v_pickT rfl rfl rfl) (mv rfl rfl ?_)
  refine b_nil (hK _ ?_)
  exact to_L ⟨true, (), h, rfl⟩
 have h := ifF hg28 h
 refine b_T rfl rfl rfl rfl (decide_eq_false hg28) (o_val rfl (mv_val rfl rfl).2 ?_)
 refine b_T rfl rfl rfl rfl rfl (o_val rfl (mv_val rfl rfl).2 ?_)
 refine b_T rfl rfl rfl rfl rfl (o_val rfl (v_bin rfl rfl b_gtr) ?_)
 refine bv rfl (v_pickF rfl rfl rfl) (mv rfl rfl ?_)
 refine b_nil (hK _ ?_)
 exact to_L ⟨decide (p3 < p2), (), h, rfl⟩
theorem w_ref09_Compare {p0 : TFromLabelTo} {p1 : TFromLabelTo} {r : Int} (h : m_ref09_Compare p0 p1 = some r) : Pure Tryz.prog 46 [.agg [hI p0.1, hI p0.2.1, hI p0.2.2], .agg [hI p1.1, hI p1.2.1, hI p1.2.2]] (· = hI r) := by
 unfold m_ref09_Compare at h
 refine Pure.of_body Tryz.func46 rfl rfl (lb rfl) fun hf => ?_
 unfold Tryz.f46
 dsimp only [enumS, Nat.reduceAdd]
 refine AW.rgs rfl fun K hK => b_op rfl (o_box rfl rfl rfl ?_)
 refine b_op rfl (o_box rfl rfl rfl ?_)
 refine mv rfl rfl ?_
 refine bf hK ⟨[(2, .fptr [hI p0.1, hI p0.2.1, hI p0.2.2] 0), (3, .fptr [hI p1.1, hI p1.2.1, hI p1.2.2] 0)], []⟩ ?_
 refine AW.dgs 16 follows rfl rfl fun K hK => ?_
 refine sv rfl (v_fieldAddrF fo44_0 rfl) ?_
 refine sv rfl (v_loadF ty3 rfl (l_lit rfl rfl)) ?_
 refine sv rfl (v_fieldAddrF fo44_1 rfl) ?_
 refine sv rfl (v_loadF ty3 rfl (l_lit rfl rfl)) ?_
 refine sv rfl (v_fieldAddrF fo44_2 rfl) ?_
 refine sv rfl (v_loadF ty3 rfl (l_lit rfl rfl)) ?_
 refine s_op rfl rfl (ops_bsl rfl rfl (as_of (cs := [hI p0.1, hI p0.2.1, hI p0.2.2]) ty55 ty3 rfl rfl rfl rfl rfl) ?_)
 refine sv rfl (v_fieldAddrF fo44_0 rfl) ?_
 refine sv rfl (v_loadF ty3 rfl (l_lit rfl rfl)) ?_
 refine sv rfl (v_fieldAddrF fo44_1 rfl) ?_
 refine sv rfl (v_loadF ty3 rfl (l_lit rfl rfl)) ?_
 refine sv rfl (v_fieldAddrF fo44_2 rfl) ?_
 refine sv rfl (v_loadF ty3 rfl (l_lit rfl rfl)) ?_
 refine s_op rfl rfl (ops_bsl rfl rfl (as_of (cs := [hI p1.1, hI p1.2.1, hI p1.2.2]) ty55 ty3 rfl rfl rfl rfl rfl) ?_)
 refine sm rfl rfl ?_
 refine sm rfl rfl ?_
 refine s_nil ?_
 refine bf hK ⟨[(5, slE eInt [p0.1, p0.2.1, p0.2.2]), (6, slE eInt [p1.1, p1.2.1, p1.2.2])], []⟩ ?_
 refine AW.seq ?_
 refine AW.rgs rfl fun K hK => mv rfl rfl ?_
 refine bf hK ⟨[(5, slE eInt [p0.1, p0.2.1, p0.2.2]), (6, slE eInt [p1.1, p1.2.1, p1.2.2]), (7, hI 0)], []⟩ ?_
 refine AW.lpR h (by first | exact up_then | exact up_to) (S := Int) (V := Unit) (fun a v => ⟨[(5, slE eInt [p0.1, p0.2.1, p0.2.2]), (6, slE eInt [p1.1, p1.2.1, p1.2.2]), (7, hI a)], []⟩) ?_ (X := Unit) (W := Unit) (fun a v => ⟨[], []⟩) (fun a13 w14 h => ?_) (fun a1 w2 st3 h hr4=> ?_)
 ·exact to_L ⟨(), rfl⟩
 ·refine AW.rgs rfl fun K hK => mv rfl rfl ?_
  refine bf hK ⟨[(4, hI 0)], []⟩ ?_
  refine AW.ret ?_
  have h := Option.some.inj h
  subst h
  exact ret_pure (hs := [hI 0]) (.inr rfl) (resT rfl rfl) rfl trivial
 refine AW.seq ?_
 refine AW.rgs rfl fun K hK => mv rfl rfl (bv rfl (v_bin rfl rfl b_lss) ?_)
 refine bf hK ⟨[(5, slE eInt [p0.1, p0.2.1, p0.2.2]), (6, slE eInt [p1.1, p1.2.1, p1.2.2]), (7, hI a1), (23, .bool (decide (a1 < 3)))], []⟩ ?_
 refine AW.cond rfl (fun hc => ?_) (fun hc => ?_)
 ·obtain ⟨hc, h⟩ := cT hc h
  refine AW.skip ?_
  refine AW.seq (AW.block ?_)
  refine AW.seq ?_
  refine AW.dgs 9 follows rfl rfl fun K hK => ?_
  refine sm rfl rfl ?_
  refine sm rfl rfl ?_
  obtain ⟨x5, h6, h⟩ := bS h
  refine sv rfl (v_idxF ty55 es55 rfl rfl (idx_lt h6)) ?_
  refine sv rfl (v_loadF ty3 rfl (l_cell eInt h6 (o := 0) rfl rfl)) ?_
  refine sm rfl rfl ?_
  refine sm rfl rfl ?_
  obtain ⟨x7, h8, h⟩ := bS h
  refine sv rfl (v_idxF ty55 es55 rfl rfl (idx_lt h8)) ?_
  refine sv rfl (v_loadF ty3 rfl (l_cell eInt h8 (o := 0) rfl rfl)) ?_
  refine sv rfl (v_bin rfl rfl b_lss) ?_
  refine s_nil ?_
  refine bf hK ⟨[(5, slE eInt [p0.1, p0.2.1, p0.2.2]), (6, slE eInt [p1.1, p1.2.1, p1.2.2]), (7, hI a1), (34, .bool (decide (x5 < x7)))], []⟩ ?_
  refine AW.cond rfl (fun hc => ?_) (fun hc => ?_)
  ·obtain ⟨hc, h⟩ := cT hc h
   refine AW.rgs rfl fun K hK => mv rfl rfl ?_
   refine bf hK ⟨[(4, hI (-1))], []⟩ ?_
   have h := hr4 _ h
   refine AW.ret ?_
   have h := Option.some.inj h
   subst h
   exact ret_pure (hs := [hI (-1)]) (.inr rfl) (resT rfl rfl) rfl trivial
  obtain ⟨hc, h⟩ := cF hc h
  refine AW.skip ?_
  refine AW.dgs 9 follows rfl rfl fun K hK => ?_
  refine sm rfl rfl ?_
  refine sm rfl rfl ?_
  obtain ⟨x9, h10, h⟩ := bS h
  refine sv rfl (v_idxF ty55 es55 rfl rfl (idx_lt h10)) ?_
  refine sv rfl (v_loadF ty3 rfl (l_cell eInt h10 (o := 0) rfl rfl)) ?_
  refine sm rfl rfl ?_
  refine sm rfl rfl ?_
  obtain ⟨x11, h12, h⟩ := bS h
  refine sv rfl (v_idxF ty55 es55 rfl rfl (idx_lt h12)) ?_
  refine sv rfl (v_loadF ty3 rfl (l_cell eInt h12 (o := 0) rfl rfl)) ?_
  refine sv rfl (v_bin rfl rfl b_gtr) ?_
  refine s_nil ?_
  refine bf hK ⟨[(5, slE eInt [p0.1, p0.2.1, p0.2.2]), (6, slE eInt [p1.1, p1.2.1, p1.2.2]), (7, hI a1), (43, .bool (decide (x11 < x9)))], []⟩ ?_
  refine AW.cond rfl (fun hc => ?_) (fun hc => ?_)
  ·obtain ⟨hc, h⟩ := cT hc h
   refine AW.rgs rfl fun K hK => mv rfl rfl ?_
   refine bf hK ⟨[(4, hI 1)], []⟩ ?_
   have h := hr4 _ h
   refine AW.ret ?_
   have h := Option.some.inj h
   subst h
   exact ret_pure (hs := [hI 1]) (.inr rfl) (resT rfl rfl) rfl trivial
  obtain ⟨hc, h⟩ := cF hc h
  refine AW.skip ?_
  refine AW.rg rfl fun K hK => mv rfl rfl (bv rfl (v_bin rfl rfl b_add) (mv rfl rfl ?_))
  refine b_nil (hK _ ?_)
  exact to_L ⟨IntKind.wrap .i64 (a1 + 1), (), h, rfl⟩
 obtain ⟨hc, h⟩ := cF hc h
 refine AW.exit ?_
 exact to_L ⟨(), (), h, rfl⟩
theorem w_ref09_Check {p0 : TLabelsStatesEdges} {r : Int} (h : m_ref09_Check p0 = some r) : Pure Tryz.prog 26 [gA p0] (· = hI r) := by
 unfold m_ref09_Check at h
 refine Pure.of_body Tryz.func26 rfl rfl (lb rfl) fun hf => ?_
 unfold Tryz.f26
 dsimp only [enumS, Nat.reduceAdd]
 refine AW.rgs rfl fun K hK => b_op rfl (o_box rfl rfl rfl ?_)
 refine mv rfl rfl ?_
 refine bf hK ⟨[(1, gF p0)], []⟩ ?_
 refine AW.seq ?_
 refine AW.seqJ h (S := Bool) (V := Unit) (fun a v => ⟨[(1, gF p0), (12, .bool a)], []⟩) (fun a1 w2 h => ?_) (fun k3 h => ?_)
 ·refine AW.cond rfl (fun hc => ?_) (fun hc => ?_)
  ·have h := ifT hc h
   refine AW.rgs rfl fun K hK => mv rfl rfl ?_
   refine bf hK ⟨[(2, hI 12)], []⟩ ?_
   refine AW.ret ?_
   have h := Option.some.inj h
   subst h
   exact ret_pure (hs := [hI 12]) (.inr rfl) (resT rfl rfl) rfl trivial
  have h := ifF (bF' hc) h
  refine AW.skip ?_
  refine AW.seq ?_
  refine AW.rgs rfl fun K hK => bv rfl (v_fieldAddrF fo24_1 rfl) (bv rfl (v_loadF ty3 rfl (l_lit rfl rfl)) (bv rfl (v_bin rfl rfl b_lss) ?_))
  refine bf hK ⟨[(1, gF p0), (15, .bool (decide (p0.2.1 < 0)))], []⟩ ?_
  refine AW.cond rfl (fun hc => ?_) (fun hc => ?_)
  ·obtain ⟨hc, h⟩ := cT hc h
   refine AW.rgs rfl fun K hK => mv rfl rfl ?_
   refine bf hK ⟨[(2, hI 2)], []⟩ ?_
   refine AW.ret ?_
   have h := Option.some.inj h
   subst h
   exact ret_pure (hs := [hI 2]) (.inr rfl) (resT rfl rfl) rfl trivial
  obtain ⟨hc, h⟩ := cF hc h
  refine AW.skip ?_
  refine AW.seq ?_
  refine AW.seqJ h (S := Bool) (V := Unit) (fun a v => ⟨[(1, gF p0), (24, .bool a)], []⟩) (fun a4 w5 h => ?_) (fun k6 h => ?_)
  ·refine AW.cond rfl (fun hc => ?_) (fun hc => ?_)
   ·have h := ifT hc h
    refine AW.rgs rfl fun K hK => mv rfl rfl ?_
    refine bf hK ⟨[(2, hI 4)], []⟩ ?_
    refine AW.ret ?_
    have h := Option.some.inj h
    subst h
    exact ret_pure (hs := [hI 4]) (.inr rfl) (resT rfl rfl) rfl trivial
   have h := ifF (bF' hc) h
   refine AW.skip ?_
   refine AW.seq ?_
   refine AW.rgs rfl fun K hK => mv rfl rfl ?_
   refine bf hK ⟨[(1, gF p0), (3, hI 0)], []⟩ ?_
   refine AW.lpR h (by first | exact up_then | exact up_to) (S := Int) (V := Unit) (fun a v => ⟨[(1, gF p0), (3, hI a)], []⟩) ?_ (X := Unit) (W := Unit) (fun a v => ⟨[], []⟩) (fun a30 w31 h => ?_) (fun a7 w8 st9 h hr10=> ?_)
   ·exact to_L ⟨(), rfl⟩
   ·refine AW.rgs rfl fun K hK => mv rfl rfl ?_
    refine bf hK ⟨[(2, hI 0)], []⟩ ?_
    refine AW.ret ?_
    have h := Option.some.inj h
    subst h
    exact ret_pure (hs := [hI 0]) (.inr rfl) (resT rfl rfl) rfl trivial
   refine AW.seq ?_
   refine AW.rgs rfl fun K hK => mv rfl rfl (bv rfl (v_fieldAddrF fo24_2 rfl) (bv rfl (v_loadF ty22 rfl (l_lit rfl rfl)) (bv rfl (v_lenF rfl rfl ty22 rfl) (bv rfl (v_bin rfl rfl b_lss) ?_))))
   refine bf hK ⟨[(1, gF p0), (3, hI a7), (29, .bool (decide (a7 < ((p0.2.2).length : Int))))], []⟩ ?_
   refine AW.cond rfl (fun hc => ?_) (fun hc => ?_)
   ·obtain ⟨hc, h⟩ := cT hc h
    refine AW.skip ?_
    refine AW.seq (AW.block ?_)
    refine AW.rgs rfl fun K hK => bv rfl (v_fieldAddrF fo24_2 rfl) (bv rfl (v_loadF ty22 rfl (l_lit rfl rfl)) (mv rfl rfl ?_))
    obtain ⟨x11, h12, h⟩ := bS h
    refine bv rfl (v_idxF ty22 es22 rfl rfl (idx_lt h12)) (bv rfl (v_loadF ty44 rfl (l_agg eFromLabelTo h12 rfl rfl)) ?_)
    refine b_op rfl (o_alloc (fid := 26) (zs := [hI 0, hI 0, hI 0]) 26004 rfl rfl ty44 rfl (fun v13 => ?_))
    refine b_op rfl (o_store (cs := [hI x11.1, hI x11.2.1, hI x11.2.2]) (zs := [hI x11.1, hI x11.2.1, hI x11.2.2]) rfl rfl rfl ty44 rfl rfl rfl rfl rfl ?_)
    refine bf hK ⟨[(1, gF p0), (3, hI a7), (4, .ptr 26004 v13 0)], [(26004, v13, .arr 3 44 [hI x11.1, hI x11.2.1, hI x11.2.2])]⟩ ?_
    refine AW.seq ?_
    refine AW.seqJ h (S := Bool) (V := Unit) (fun a v => ⟨[(1, gF p0), (3, hI a7), (4, .ptr 26004 v13 0), (70, .bool a)], [(26004, v13, .arr 3 44 [hI x11.1, hI x11.2.1, hI x11.2.2])]⟩) (fun a14 w15 h => ?_) (fun k16 h => ?_)
    ·refine AW.cond rfl (fun hc => ?_) (fun hc => ?_)
     ·have h := ifT hc h
      refine AW.rgs rfl fun K hK => mv rfl rfl ?_
      refine bf hK ⟨[(2, hI 2)], []⟩ ?_
      have h := hr10 _ h
      refine AW.ret ?_
      have h := Option.some.inj h
      subst h
      exact ret_pure (hs := [hI 2]) (.inr rfl) (resT rfl rfl) rfl trivial
     have h := ifF (bF' hc) h
     refine AW.skip ?_
     refine AW.seqJ h (S := Bool) (V := Unit) (fun a v => ⟨[(1, gF p0), (3, hI a7), (83, .bool a)], []⟩) (fun a17 w18 h => ?_) (fun k19 h => ?_)
     ·refine AW.cond rfl (fun hc => ?_) (fun hc => ?_)
      ·have h := ifT hc h
       refine AW.rgs rfl fun K hK => mv rfl rfl ?_
       refine bf hK ⟨[(2, hI 10)], []⟩ ?_
       have h := hr10 _ h
       refine AW.ret ?_
       have h := Option.some.inj h
       subst h
       exact ret_pure (hs := [hI 10]) (.inr rfl) (resT rfl rfl) rfl trivial
      have h := ifF (bF' hc) h
      refine AW.skip ?_
      refine AW.rg rfl fun K hK => mv rfl rfl (bv rfl (v_bin rfl rfl b_add) (mv rfl rfl ?_))
      refine b_nil (hK _ ?_)
      exact to_L ⟨IntKind.wrap .i64 (a7 + 1), (), h, rfl⟩
     refine AW.dg 13 follows rfl rfl fun K hK => ?_
     refine sm rfl rfl ?_
     refine sv rfl (v_bin rfl rfl b_gtr) ?_
     refine sm rfl rfl ?_
     by_cases hg24 : 0 < a7
     ·have h := ifT hg24 h
      refine s_T rfl rfl rfl rfl rfl (decide_eq_true hg24) (ops_val rfl (v_fieldAddrF fo24_2 rfl) ?_)
      refine s_T rfl rfl rfl rfl rfl rfl (ops_val rfl (v_loadF ty22 rfl (l_lit rfl rfl)) ?_)
      refine s_T rfl rfl rfl rfl rfl rfl (ops_val rfl (mv_val rfl rfl).2 ?_)
      refine s_T rfl rfl rfl rfl rfl rfl (ops_val rfl (v_bin rfl rfl b_sub) ?_)
      obtain ⟨x20, h21, h⟩ := bS h
      refine s_T rfl rfl rfl rfl rfl rfl (ops_val rfl (v_idxF ty22 es22 rfl rfl (idx_lt h21)) ?_)
      refine s_T rfl rfl rfl rfl rfl rfl (ops_val rfl (v_loadF ty44 rfl (l_agg eFromLabelTo h21 rfl rfl)) ?_)
      refine s_T rfl rfl rfl rfl rfl rfl (ops_val rfl (v_loadP ty44 rfl rfl (l_litA rfl (lb rfl) rfl)) ?_)
      obtain ⟨x22, h23, h⟩ := bS h
      refine s_T rfl rfl rfl rfl rfl rfl (ops_call rfl rfl rfl rfl (ACallD.pure0 (w_ref09_Compare h23)) ?_)
      refine s_T rfl rfl rfl rfl rfl rfl (ops_val rfl (v_bin rfl rfl b_geq) ?_)
      refine sv rfl (v_pickT rfl rfl rfl) ?_
      refine s_nil ?_
      refine b_nil (hK _ ?_)
      exact to_L ⟨decide (0 ≤ x22), (), h, rfl⟩
     have h := ifF hg24 h
     refine s_F rfl rfl rfl rfl rfl (decide_eq_false hg24) ?_
     refine s_F rfl rfl rfl rfl rfl rfl ?_
     refine s_F rfl rfl rfl rfl rfl rfl ?_
     refine s_F rfl rfl rfl rfl rfl rfl ?_
     refine s_F rfl rfl rfl rfl rfl rfl ?_
     refine s_F rfl rfl rfl rfl rfl rfl ?_
     refine s_F rfl rfl rfl rfl rfl rfl ?_
     refine s_F rfl rfl rfl rfl rfl rfl ?_
     refine s_F rfl rfl rfl rfl rfl rfl ?_
     refine sv rfl (v_pickF rfl rfl rfl) ?_
     refine s_nil ?_
     refine b_nil (hK _ ?_)
     exact to_L ⟨false, (), h, rfl⟩
    refine AW.rg rfl fun K hK => bv rfl (v_fieldAddrP fo44_0 rfl rfl) (bv rfl (v_loadP ty3 rfl rfl (l_lit rfl rfl)) (bv rfl (v_bin rfl rfl b_lss) (mv rfl rfl ?_)))
    by_cases hg29 : x11.1 < 0
    ·have h := ifT hg29 h
     refine b_F rfl rfl rfl rfl rfl (decide_eq_true hg29) ?_
     refine b_F rfl rfl rfl rfl rfl rfl ?_
     refine b_F rfl rfl rfl rfl rfl rfl ?_
     refine b_F rfl rfl rfl rfl rfl rfl ?_
     refine b_F rfl rfl rfl rfl rfl rfl ?_
     refine bv rfl (v_pickT rfl rfl rfl) (mv rfl rfl ?_)
     refine b_F rfl rfl rfl rfl rfl rfl ?_
     refine b_F rfl rfl rfl rfl rfl rfl ?_
     refine b_F rfl rfl rfl rfl rfl rfl ?_
     refine bv rfl (v_pickT rfl rfl rfl) (mv rfl rfl ?_)
     refine b_F rfl rfl rfl rfl rfl rfl ?_
     refine b_F rfl rfl rfl rfl rfl rfl ?_
     refine b_F rfl rfl rfl rfl rfl rfl ?_
     refine b_F rfl rfl rfl rfl rfl rfl ?_
     refine b_F rfl rfl rfl rfl rfl rfl ?_
     refine bv rfl (v_pickT rfl rfl rfl) (mv rfl rfl ?_)
     refine b_F rfl rfl rfl rfl rfl rfl ?_
     refine b_F rfl rfl rfl rfl rfl rfl ?_
     refine b_F rfl rfl rfl rfl rfl rfl ?_
     refine bv rfl (v_pickT rfl rfl rfl) (mv rfl rfl ?_)
     refine b_F rfl rfl rfl rfl rfl rfl ?_
     refine b_F rfl rfl rfl rfl rfl rfl ?_
     refine b_F rfl rfl rfl rfl rfl rfl ?_
     refine b_F rfl rfl rfl rfl rfl rfl ?_
     refine b_F rfl rfl rfl rfl rfl rfl ?_
     refine bv rfl (v_pickT rfl rfl rfl) ?_
     refine b_nil (hK _ ?_)
     exact to_L ⟨true, (), h, rfl⟩
    have h := ifF hg29 h
    refine b_T rfl rfl rfl rfl (decide_eq_false hg29) (o_val rfl (v_fieldAddrP fo44_0 rfl rfl) ?_)
    refine b_T rfl rfl rfl rfl rfl (o_val rfl (v_loadP ty3 rfl rfl (l_lit rfl rfl)) ?_)
    refine b_T rfl rfl rfl rfl rfl (o_val rfl (v_fieldAddrF fo24_1 rfl) ?_)
    refine b_T rfl rfl rfl rfl rfl (o_val rfl (v_loadF ty3 rfl (l_lit rfl rfl)) ?_)
    refine b_T rfl rfl rfl rfl rfl (o_val rfl (v_bin rfl rfl b_geq) ?_)
    refine bv rfl (v_pickF rfl rfl rfl) (mv rfl rfl ?_)
    by_cases hg28 : p0.2.1 ≤ x11.1
    ·have h := ifT hg28 h
     refine b_F rfl rfl rfl rfl rfl (decide_eq_true hg28) ?_
     refine b_F rfl rfl rfl rfl rfl rfl ?_
     refine b_F rfl rfl rfl rfl rfl rfl ?_
     refine bv rfl (v_pickT rfl rfl rfl) (mv rfl rfl ?_)
     refine b_F rfl rfl rfl rfl rfl rfl ?_
     refine b_F rfl rfl rfl rfl rfl rfl ?_
     refine b_F rfl rfl rfl rfl rfl rfl ?_
     refine b_F rfl rfl rfl rfl rfl rfl ?_
     refine b_F rfl rfl rfl rfl rfl rfl ?_
     refine bv rfl (v_pickT rfl rfl rfl) (mv rfl rfl ?_)
     refine b_F rfl rfl rfl rfl rfl rfl ?_
     refine b_F rfl rfl rfl rfl rfl rfl ?_
     refine b_F rfl rfl rfl rfl rfl rfl ?_
     refine bv rfl (v_pickT rfl rfl rfl) (mv rfl rfl ?_)
     refine b_F rfl rfl rfl rfl rfl rfl ?_
     refine b_F rfl rfl rfl rfl rfl rfl ?_
     refine b_F rfl rfl rfl rfl rfl rfl ?_
     refine b_F rfl rfl rfl rfl rfl rfl ?_
     refine b_F rfl rfl rfl rfl rfl rfl ?_
     refine bv rfl (v_pickT rfl rfl rfl) ?_
     refine b_nil (hK _ ?_)
     exact to_L ⟨true, (), h, rfl⟩
    have h := ifF hg28 h
    refine b_T rfl rfl rfl rfl (decide_eq_false hg28) (o_val rfl (v_fieldAddrP fo44_2 rfl rfl) ?_)
    refine b_T rfl rfl rfl rfl rfl (o_val rfl (v_loadP ty3 rfl rfl (l_lit rfl rfl)) ?_)
    refine b_T rfl rfl rfl rfl rfl (o_val rfl (v_bin rfl rfl b_lss) ?_)
    refine bv rfl (v_pickF rfl rfl rfl) (mv rfl rfl ?_)
    by_cases hg27 : x11.2.2 < 0
    ·have h := ifT hg27 h
     refine b_F rfl rfl rfl rfl rfl (decide_eq_true hg27) ?_
     refine b_F rfl rfl rfl rfl rfl rfl ?_
     refine b_F rfl rfl rfl rfl rfl rfl ?_
     refine b_F rfl rfl rfl rfl rfl rfl ?_
     refine b_F rfl rfl rfl rfl rfl rfl ?_
     refine bv rfl (v_pickT rfl rfl rfl) (mv rfl rfl ?_)
     refine b_F rfl rfl rfl rfl rfl rfl ?_
     refine b_F rfl rfl rfl rfl rfl rfl ?_
     refine b_F rfl rfl rfl rfl rfl rfl ?_
     refine bv rfl (v_pickT rfl rfl rfl) (mv rfl rfl ?_)
     refine b_F rfl rfl rfl rfl rfl rfl ?_
     refine b_F rfl rfl rfl rfl rfl rfl ?_
     refine b_F rfl rfl rfl rfl rfl rfl ?_
     refine b_F rfl rfl rfl rfl rfl rfl ?_
     refine b_F rfl rfl rfl rfl rfl rfl ?_
     refine bv rfl (v_pickT rfl rfl rfl) ?_
     refine b_nil (hK _ ?_)
     exact to_L ⟨true, (), h, rfl⟩
    have h := ifF hg27 h
    refine b_T rfl rfl rfl rfl (decide_eq_false hg27) (o_val rfl (v_fieldAddrP fo44_2 rfl rfl) ?_)
    refine b_T rfl rfl rfl rfl rfl (o_val rfl (v_loadP ty3 rfl rfl (l_lit rfl rfl)) ?_)
    refine b_T rfl rfl rfl rfl rfl (o_val rfl (v_fieldAddrF fo24_1 rfl) ?_)
    refine b_T rfl rfl rfl rfl rfl (o_val rfl (v_loadF ty3 rfl (l_lit rfl rfl)) ?_)
    refine b_T rfl rfl rfl rfl rfl (o_val rfl (v_bin rfl rfl b_geq) ?_)
    refine bv rfl (v_pickF rfl rfl rfl) (mv rfl rfl ?_)
    by_cases hg26 : p0.2.1 ≤ x11.2.2
    ·have h := ifT hg26 h
     refine b_F rfl rfl rfl rfl rfl (decide_eq_true hg26) ?_
     refine b_F rfl rfl rfl rfl rfl rfl ?_
     refine b_F rfl rfl rfl rfl rfl rfl ?_
     refine bv rfl (v_pickT rfl rfl rfl) (mv rfl rfl ?_)
     refine b_F rfl rfl rfl rfl rfl rfl ?_
     refine b_F rfl rfl rfl rfl rfl rfl ?_
     refine b_F rfl rfl rfl rfl rfl rfl ?_
     refine b_F rfl rfl rfl rfl rfl rfl ?_
     refine b_F rfl rfl rfl rfl rfl rfl ?_
     refine bv rfl (v_pickT rfl rfl rfl) ?_
     refine b_nil (hK _ ?_)
     exact to_L ⟨true, (), h, rfl⟩
    have h := ifF hg26 h
    refine b_T rfl rfl rfl rfl (decide_eq_false hg26) (o_val rfl (v_fieldAddrP fo44_1 rfl rfl) ?_)
    refine b_T rfl rfl rfl rfl rfl (o_val rfl (v_loadP ty3 rfl rfl (l_lit rfl rfl)) ?_)
    refine b_T rfl rfl rfl rfl rfl (o_val rfl (v_bin rfl rfl b_lss) ?_)
    refine bv rfl (v_pickF rfl rfl rfl) (mv rfl rfl ?_)
    by_cases hg25 : x11.2.1 < 0
    ·have h := ifT hg25 h
     refine b_F rfl rfl rfl rfl rfl (decide_eq_true hg25) ?_
     refine b_F rfl rfl rfl rfl rfl rfl ?_
     refine b_F rfl rfl rfl rfl rfl rfl ?_
     refine b_F rfl rfl rfl rfl rfl rfl ?_
     refine b_F rfl rfl rfl rfl rfl rfl ?_
     refine bv rfl (v_pickT rfl rfl rfl) ?_
     refine b_nil (hK _ ?_)
     exact to_L ⟨true, (), h, rfl⟩
    have h := ifF hg25 h
    refine b_T rfl rfl rfl rfl (decide_eq_false hg25) (o_val rfl (v_fieldAddrP fo44_1 rfl rfl) ?_)
    refine b_T rfl rfl rfl rfl rfl (o_val rfl (v_loadP ty3 rfl rfl (l_lit rfl rfl)) ?_)
    refine b_T rfl rfl rfl rfl rfl (o_val rfl (v_fieldAddrF fo24_0 rfl) ?_)
    refine b_T rfl rfl rfl rfl rfl (o_val rfl (v_loadF ty3 rfl (l_lit rfl rfl)) ?_)
    refine b_T rfl rfl rfl rfl rfl (o_val rfl (v_bin rfl rfl b_geq) ?_)
    refine bv rfl (v_pickF rfl rfl rfl) ?_
    refine b_nil (hK _ ?_)
    exact to_L ⟨decide (p0.1 ≤ x11.2.1), (), h, rfl⟩
   obtain ⟨hc, h⟩ := cF hc h
   refine AW.exit ?_
   exact to_L ⟨(), (), h, rfl⟩
  refine AW.rg rfl fun K hK => bv rfl (v_fieldAddrF fo24_1 rfl) (bv rfl (v_loadF ty3 rfl (l_lit rfl rfl)) (bv rfl (v_bin rfl rfl b_gtr) (mv rfl rfl ?_)))
  by_cases hg32 : 64 < p0.2.1
  ·have h := ifT hg32 h
   refine b_F rfl rfl rfl rfl rfl (decide_eq_true hg32) ?_
   refine b_F rfl rfl rfl rfl rfl rfl ?_
   refine b_F rfl rfl rfl rfl rfl rfl ?_
   refine b_F rfl rfl rfl rfl rfl rfl ?_
   refine bv rfl (v_pickT rfl rfl rfl) ?_
   refine b_nil (hK _ ?_)
   exact to_L ⟨true, (), h, rfl⟩
  have h := ifF hg32 h
  refine b_T rfl rfl rfl rfl (decide_eq_false hg32) (o_val rfl (v_fieldAddrF fo24_2 rfl) ?_)
  refine b_T rfl rfl rfl rfl rfl (o_val rfl (v_loadF ty22 rfl (l_lit rfl rfl)) ?_)
  refine b_T rfl rfl rfl rfl rfl (o_val rfl (v_lenF rfl rfl ty22 rfl) ?_)
  refine b_T rfl rfl rfl rfl rfl (o_val rfl (v_bin rfl rfl b_gtr) ?_)
  refine bv rfl (v_pickF rfl rfl rfl) ?_
  refine b_nil (hK _ ?_)
  exact to_L ⟨decide (1024 < ((p0.2.2).length : Int)), (), h, rfl⟩
 refine AW.rg rfl fun K hK => bv rfl (v_fieldAddrF fo24_0 rfl) (bv rfl (v_loadF ty3 rfl (l_lit rfl rfl)) (bv rfl (v_bin rfl rfl b_lss) (mv rfl rfl ?_)))
 by_cases hg33 : p0.1 < 1
 ·have h := ifT hg33 h
  refine b_F rfl rfl rfl rfl rfl (decide_eq_true hg33) ?_
  refine b_F rfl rfl rfl rfl rfl rfl ?_
  refine b_F rfl rfl rfl rfl rfl rfl ?_
  refine bv rfl (v_pickT rfl rfl rfl) ?_
  refine b_nil (hK _ ?_)
  exact to_L ⟨true, (), h, rfl⟩
 have h := ifF hg33 h
 refine b_T rfl rfl rfl rfl (decide_eq_false hg33) (o_val rfl (v_fieldAddrF fo24_0 rfl) ?_)
 refine b_T rfl rfl rfl rfl rfl (o_val rfl (v_loadF ty3 rfl (l_lit rfl rfl)) ?_)
 refine b_T rfl rfl rfl rfl rfl (o_val rfl (v_bin rfl rfl b_gtr) ?_)
 refine bv rfl (v_pickF rfl rfl rfl) ?_
 refine b_nil (hK _ ?_)
 exact to_L ⟨decide (256 < p0.1), (), h, rfl⟩
theorem w_ref07_Digit {p0 : Int} {r : Int} (h : m_ref07_Digit p0 = some r) : Pure Tryz.prog 94 [.int .u8 p0] (· = hI r) := by
 unfold m_ref07_Digit at h
 refine Pure.of_body Tryz.func94 rfl rfl (lb rfl) fun hf => ?_
 unfold Tryz.f94
 dsimp only [enumS, Nat.reduceAdd]
 refine AW.rgs rfl fun K hK => mv rfl rfl ?_
 refine bf hK ⟨[(0, .int .u8 p0)], []⟩ ?_
 refine AW.seq ?_
 refine AW.rgs rfl fun K hK => mv rfl rfl ?_
 refine bf hK ⟨[(0, .int .u8 p0), (3, hI 0)], []⟩ ?_
 refine AW.lpR h (by first | exact up_then | exact up_to) (S := Int) (V := Unit) (fun a v => ⟨[(0, .int .u8 p0), (3, hI a)], []⟩) ?_ (X := Unit) (W := Unit) (fun a v => ⟨[], []⟩) (fun a7 w8 h => ?_) (fun a1 w2 st3 h hr4=> ?_)
 ·exact to_L ⟨(), rfl⟩
 ·refine AW.rgs rfl fun K hK => mv rfl rfl ?_
  refine bf hK ⟨[(2, hI (-1))], []⟩ ?_
  refine AW.ret ?_
  have h := Option.some.inj h
  subst h
  exact ret_pure (hs := [hI (-1)]) (.inr rfl) (resT rfl rfl) rfl trivial
 refine AW.seq ?_
 refine AW.rgs rfl fun K hK => mv rfl rfl (bv rfl (v_bin rfl rfl b_lss) ?_)
 refine bf hK ⟨[(0, .int .u8 p0), (3, hI a1), (5, .bool (decide (a1 < 16)))], []⟩ ?_
 refine AW.cond rfl (fun hc => ?_) (fun hc => ?_)
 ·obtain ⟨hc, h⟩ := cT hc h
  refine AW.skip ?_
  refine AW.seq (AW.block ?_)
  refine AW.rgs rfl fun K hK => mv rfl rfl ?_
  obtain ⟨x5, h6, h⟩ := bS h
  refine bv rfl (v_idxS ty9 rfl rfl h6) (mv rfl rfl (bv rfl (v_bin rfl rfl b_eql) ?_))
  refine bf hK ⟨[(0, .int .u8 p0), (3, hI a1), (11, .bool (decide ((x5.toNat : Int) = p0)))], []⟩ ?_
  refine AW.cond rfl (fun hc => ?_) (fun hc => ?_)
  ·obtain ⟨hc, h⟩ := cT hc h
   refine AW.rgs rfl fun K hK => mv rfl rfl (mv rfl rfl ?_)
   refine bf hK ⟨[(2, hI a1)], []⟩ ?_
   have h := hr4 _ h
   refine AW.ret ?_
   have h := Option.some.inj h
   subst h
   exact ret_pure (hs := [hI a1]) (.inr rfl) (resT rfl rfl) rfl trivial
  obtain ⟨hc, h⟩ := cF hc h
  refine AW.skip ?_
  refine AW.rg rfl fun K hK => mv rfl rfl (bv rfl (v_bin rfl rfl b_add) (mv rfl rfl ?_))
  refine b_nil (hK _ ?_)
  exact to_L ⟨IntKind.wrap .i64 (a1 + 1), (), h, rfl⟩
 obtain ⟨hc, h⟩ := cF hc h
 refine AW.exit ?_
 exact to_L ⟨(), (), h, rfl⟩
theorem w_ref07_Check {p0 : Int} {p1 : List UInt8} {r : Int} (h : m_ref07_Check p0 p1 = some r) : Pure Tryz.prog 69 [hI p0, .str p1] (· = hI r) := by
 unfold m_ref07_Check at h
 refine Pure.of_body Tryz.func69 rfl rfl (lb rfl) fun hf => ?_
 unfold Tryz.f69
 dsimp only [enumS, Nat.reduceAdd]
 refine AW.rgs rfl fun K hK => mv rfl rfl ?_
 refine bf hK ⟨[(0, hI p0), (1, .str p1)], []⟩ ?_
 refine AW.seq ?_
 refine AW.seqJ h (S := Bool) (V := Unit) (fun a v => ⟨[(0, hI p0), (1, .str p1), (12, .bool a)], []⟩) (fun a1 w2 h => ?_) (fun k3 h => ?_)
 ·refine AW.cond rfl (fun hc => ?_) (fun hc => ?_)
  ·have h := ifT hc h
   refine AW.rgs rfl fun K hK => mv rfl rfl ?_
   refine bf hK ⟨[(4, hI 12)], []⟩ ?_
   refine AW.ret ?_
   have h := Option.some.inj h
   subst h
   exact ret_pure (hs := [hI 12]) (.inr rfl) (resT rfl rfl) rfl trivial
  have h := ifF (bF' hc) h
  refine AW.skip ?_
  refine AW.seq ?_
  refine AW.rgs rfl fun K hK => mv rfl rfl (bv rfl (v_lenS rfl rfl ty9 rfl) (bv rfl (v_bin rfl rfl b_gtr) ?_))
  refine bf hK ⟨[(0, hI p0), (1, .str p1), (15, .bool (decide (65536 < ((p1).length : Int))))], []⟩ ?_
  refine AW.cond rfl (fun hc => ?_) (fun hc => ?_)
  ·obtain ⟨hc, h⟩ := cT hc h
   refine AW.rgs rfl fun K hK => mv rfl rfl ?_
   refine bf hK ⟨[(4, hI 4)], []⟩ ?_
   refine AW.ret ?_
   have h := Option.some.inj h
   subst h
   exact ret_pure (hs := [hI 4]) (.inr rfl) (resT rfl rfl) rfl trivial
  obtain ⟨hc, h⟩ := cF hc h
  refine AW.skip ?_
  refine AW.seq ?_
  refine AW.rgs rfl fun K hK => mv rfl rfl ?_
  refine bf hK ⟨[(0, hI p0), (1, .str p1), (5, hI 0)], []⟩ ?_
  refine AW.lpR h (by first | exact up_then | exact up_to) (S := Int) (V := Unit) (fun a v => ⟨[(0, hI p0), (1, .str p1), (5, hI a)], []⟩) ?_ (X := Unit) (W := Unit) (fun a v => ⟨[], []⟩) (fun a16 w17 h => ?_) (fun a4 w5 st6 h hr7=> ?_)
  ·exact to_L ⟨(), rfl⟩
  ·refine AW.rgs rfl fun K hK => mv rfl rfl ?_
   refine bf hK ⟨[(4, hI 0)], []⟩ ?_
   refine AW.ret ?_
   have h := Option.some.inj h
   subst h
   exact ret_pure (hs := [hI 0]) (.inr rfl) (resT rfl rfl) rfl trivial
  refine AW.seq ?_
  refine AW.rgs rfl fun K hK => mv rfl rfl (mv rfl rfl (bv rfl (v_lenS rfl rfl ty9 rfl) (bv rfl (v_bin rfl rfl b_lss) ?_)))
  refine bf hK ⟨[(0, hI p0), (1, .str p1), (5, hI a4), (19, .bool (decide (a4 < ((p1).length : Int))))], []⟩ ?_
  refine AW.cond rfl (fun hc => ?_) (fun hc => ?_)
  ·obtain ⟨hc, h⟩ := cT hc h
   refine AW.skip ?_
   refine AW.seq (AW.block ?_)
   refine AW.rgs rfl fun K hK => mv rfl rfl (mv rfl rfl ?_)
   obtain ⟨x8, h9, h⟩ := bS h
   refine bv rfl (v_idxS ty9 rfl rfl h9) ?_
   obtain ⟨x10, h11, h⟩ := bS h
   refine b_op rfl (o_call rfl rfl rfl rfl (ACallD.pure0 (w_ref07_Digit h11)) ?_)
   refine mv rfl rfl ?_
   refine bf hK ⟨[(0, hI p0), (1, .str p1), (5, hI a4), (6, hI x10)], []⟩ ?_
   refine AW.seqJ h (S := Bool) (V := Unit) (fun a v => ⟨[(0, hI p0), (1, .str p1), (5, hI a4), (32, .bool a)], []⟩) (fun a12 w13 h => ?_) (fun k14 h => ?_)
   ·refine AW.cond rfl (fun hc => ?_) (fun hc => ?_)
    ·have h := ifT hc h
     refine AW.rgs rfl fun K hK => mv rfl rfl ?_
     refine bf hK ⟨[(4, hI 13)], []⟩ ?_
     have h := hr7 _ h
     refine AW.ret ?_
     have h := Option.some.inj h
     subst h
     exact ret_pure (hs := [hI 13]) (.inr rfl) (resT rfl rfl) rfl trivial
    have h := ifF (bF' hc) h
    refine AW.skip ?_
    refine AW.rg rfl fun K hK => mv rfl rfl (bv rfl (v_bin rfl rfl b_add) (mv rfl rfl ?_))
    refine b_nil (hK _ ?_)
    exact to_L ⟨IntKind.wrap .i64 (a4 + 1), (), h, rfl⟩
   refine AW.rg rfl fun K hK => mv rfl rfl (bv rfl (v_bin rfl rfl b_lss) (mv rfl rfl ?_))
   by_cases hg15 : x10 < 0
   ·have h := ifT hg15 h
    refine b_F rfl rfl rfl rfl rfl (decide_eq_true hg15) ?_
    refine b_F rfl rfl rfl rfl rfl rfl ?_
    refine b_F rfl rfl rfl rfl rfl rfl ?_
    refine bv rfl (v_pickT rfl rfl rfl) ?_
    refine b_nil (hK _ ?_)
    exact to_L ⟨true, (), h, rfl⟩
   have h := ifF hg15 h
   refine b_T rfl rfl rfl rfl (decide_eq_false hg15) (o_val rfl (mv_val rfl rfl).2 ?_)
   refine b_T rfl rfl rfl rfl rfl (o_val rfl (mv_val rfl rfl).2 ?_)
   refine b_T rfl rfl rfl rfl rfl (o_val rfl (v_bin rfl rfl b_geq) ?_)
   refine bv rfl (v_pickF rfl rfl rfl) ?_
   refine b_nil (hK _ ?_)
   exact to_L ⟨decide (p0 ≤ x10), (), h, rfl⟩
  obtain ⟨hc, h⟩ := cF hc h
  refine AW.exit ?_
  exact to_L ⟨(), (), h, rfl⟩
 refine AW.rg rfl fun K hK => mv rfl rfl (bv rfl (v_bin rfl rfl b_lss) (mv rfl rfl ?_))
 by_cases hg18 : p0 < 1
 ·have h := ifT hg18 h
  refine b_F rfl rfl rfl rfl rfl (decide_eq_true hg18) ?_
  refine b_F rfl rfl rfl rfl rfl rfl ?_
  refine bv rfl (v_pickT rfl rfl rfl) ?_
  refine b_nil (hK _ ?_)
  exact to_L ⟨true, (), h, rfl⟩
 have h := ifF hg18 h
 refine b_T rfl rfl rfl rfl (decide_eq_false hg18) (o_val rfl (mv_val rfl rfl).2 ?_)
 refine b_T rfl rfl rfl rfl rfl (o_val rfl (v_bin rfl rfl b_gtr) ?_)
 refine bv rfl (v_pickF rfl rfl rfl) ?_
 refine b_nil (hK _ ?_)
 exact to_L ⟨decide (16 < p0), (), h, rfl⟩
theorem w_ref54_check {p0 : TLabelsStatesEdges} {p1 : List UInt8} {r : Int} (h : m_ref54_check p0 p1 = some r) : Pure Tryz.prog 44 [gA p0, .str p1] (· = hI r) := by
 unfold m_ref54_check at h
 refine Pure.of_body Tryz.func44 rfl rfl (lb rfl) fun hf => ?_
 unfold Tryz.f44
 dsimp only [enumS, Nat.reduceAdd]
 refine AW.rgs rfl fun K hK => b_op rfl (o_box rfl rfl rfl ?_)
 refine mv rfl rfl ?_
 refine bf hK ⟨[(1, .str p1), (2, gF p0)], []⟩ ?_
 refine AW.seq ?_
 refine AW.rgs rfl fun K hK => bv rfl (v_loadF ty24 rfl (l_litA rfl (lb rfl) rfl)) ?_
 obtain ⟨x1, h2, h⟩ := bS h
 refine b_op rfl (o_call rfl rfl rfl rfl (ACallD.pure0 (w_ref09_Check h2)) ?_)
 refine bv rfl (v_bin rfl rfl b_neq) ?_
 refine bf hK ⟨[(1, .str p1), (2, gF p0), (7, .bool (decide (x1 ≠ 0)))], []⟩ ?_
 refine AW.cond rfl (fun hc => ?_) (fun hc => ?_)
 ·obtain ⟨hc, h⟩ := cT hc h
  refine AW.rgs rfl fun K hK => mv rfl rfl ?_
  refine bf hK ⟨[(4, hI 1)], []⟩ ?_
  refine AW.ret ?_
  have h := Option.some.inj h
  subst h
  exact ret_pure (hs := [hI 1]) (.inr rfl) (resT rfl rfl) rfl trivial
 obtain ⟨hc, h⟩ := cF hc h
 refine AW.skip ?_
 refine AW.seq ?_
 refine AW.rgs rfl fun K hK => bv rfl (v_fieldAddrF fo24_0 rfl) (bv rfl (v_loadF ty3 rfl (l_lit rfl rfl)) (bv rfl (v_bin rfl rfl b_gtr) ?_))
 refine bf hK ⟨[(1, .str p1), (2, gF p0), (10, .bool (decide (16 < p0.1)))], []⟩ ?_
 refine AW.cond rfl (fun hc => ?_) (fun hc => ?_)
 ·obtain ⟨hc, h⟩ := cT hc h
  refine AW.rgs rfl fun K hK => mv rfl rfl ?_
  refine bf hK ⟨[(4, hI 12)], []⟩ ?_
  refine AW.ret ?_
  have h := Option.some.inj h
  subst h
  exact ret_pure (hs := [hI 12]) (.inr rfl) (resT rfl rfl) rfl trivial
 obtain ⟨hc, h⟩ := cF hc h
 refine AW.skip ?_
 refine AW.seq ?_
 refine AW.rgs rfl fun K hK => mv rfl rfl (bv rfl (v_bin rfl rfl b_seql) ?_)
 refine bf hK ⟨[(1, .str p1), (2, gF p0), (12, .bool (decide (p1 = nS)))], []⟩ ?_
 refine AW.cond rfl (fun hc => ?_) (fun hc => ?_)
 ·obtain ⟨hc, h⟩ := cT hc h
  refine AW.rgs rfl fun K hK => mv rfl rfl ?_
  refine bf hK ⟨[(4, hI 5)], []⟩ ?_
  refine AW.ret ?_
  have h := Option.some.inj h
  subst h
  exact ret_pure (hs := [hI 5]) (.inr rfl) (resT rfl rfl) rfl trivial
 obtain ⟨hc, h⟩ := cF hc h
 refine AW.skip ?_
 refine AW.seq ?_
 refine AW.rgs rfl fun K hK => mv rfl rfl (bv rfl (v_lenS rfl rfl ty9 rfl) (bv rfl (v_bin rfl rfl b_gtr) ?_))
 refine bf hK ⟨[(1, .str p1), (2, gF p0), (15, .bool (decide (32 < ((p1).length : Int))))], []⟩ ?_
 refine AW.cond rfl (fun hc => ?_) (fun hc => ?_)
 ·obtain ⟨hc, h⟩ := cT hc h
  refine AW.rgs rfl fun K hK => mv rfl rfl ?_
  refine bf hK ⟨[(4, hI 4)], []⟩ ?_
  refine AW.ret ?_
  have h := Option.some.inj h
  subst h
  exact ret_pure (hs := [hI 4]) (.inr rfl) (resT rfl rfl) rfl trivial
 obtain ⟨hc, h⟩ := cF hc h
 refine AW.skip ?_
 refine AW.rgs rfl fun K hK => bv rfl (v_fieldAddrF fo24_0 rfl) (bv rfl (v_loadF ty3 rfl (l_lit rfl rfl)) (mv rfl rfl ?_))
 obtain ⟨x3, h4, h⟩ := bS h
 refine b_op rfl (o_call rfl rfl rfl rfl (ACallD.pure0 (w_ref07_Check h4)) ?_)
 refine mv rfl rfl ?_
 refine bf hK ⟨[(4, hI x3)], []⟩ ?_
 refine AW.ret ?_
 have h := Option.some.inj h
 subst h
 exact ret_pure (hs := [hI x3]) (.inr rfl) (resT rfl rfl) rfl trivial
theorem w_ref54_follow {p0 : List UInt8} {p1 : Int} {p2 : Int} {r : Int} (h : m_ref54_follow p0 p1 p2 = some r) : Pure Tryz.prog 121 [.str p0, hI p1, .int .u8 p2] (· = hI r) := by
 unfold m_ref54_follow at h
 refine Pure.of_body Tryz.func121 rfl rfl (lb rfl) fun hf => ?_
 unfold Tryz.f121
 dsimp only [enumS, Nat.reduceAdd]
 refine AW.rgs rfl fun K hK => mv rfl rfl ?_
 refine bf hK ⟨[(0, .str p0), (1, hI p1), (2, .int .u8 p2)], []⟩ ?_
 refine AW.dgs 8 follows rfl rfl fun K hK => ?_
 refine sm rfl rfl ?_
 refine sm rfl rfl ?_
 obtain ⟨h1, h⟩ := ifN h
 refine sv rfl (v_sliceS ty9 rfl rfl rfl h1) ?_
 refine sm rfl rfl ?_
 refine s_op rfl rfl (ops_bsl rfl rfl (as_of (cs := [.int .u8 p2]) ty84 ty5 rfl rfl rfl rfl rfl) ?_)
 refine sv rfl (v_convB (l := [p2]) ty84 ty5 ty9 rfl) ?_
 obtain ⟨h2, h⟩ := ifN h
 refine sv rfl (v_bin rfl rfl (b_sadd h2)) ?_
 refine sm rfl rfl ?_
 refine s_nil ?_
 refine bf hK ⟨[(0, .str p0), (7, .str (((p0.take (p1).toNat).drop (0 : Int).toNat) ++ ([p2].map fun (n : Int) => UInt8.ofNat n.toNat)))], []⟩ ?_
 refine AW.seq ?_
 refine AW.rgs rfl fun K hK => mv rfl rfl (bv rfl (v_lenS rfl rfl ty9 rfl) (mv rfl rfl ?_))
 refine bf hK ⟨[(0, .str p0), (7, .str (((p0.take (p1).toNat).drop (0 : Int).toNat) ++ ([p2].map fun (n : Int) => UInt8.ofNat n.toNat))), (8, hI ((p0).length : Int))], []⟩ ?_
 refine AW.lpR h (by first | exact up_then | exact up_to) (S := Int) (V := Unit) (fun a v => ⟨[(0, .str p0), (7, .str (((p0.take (p1).toNat).drop (0 : Int).toNat) ++ ([p2].map fun (n : Int) => UInt8.ofNat n.toNat))), (8, hI a)], []⟩) ?_ (X := Unit) (W := Unit) (fun a v => ⟨[], []⟩) (fun a13 w14 h => ?_) (fun a3 w4 st5 h hr6=> ?_)
 ·exact to_L ⟨(), rfl⟩
 ·refine AW.rgs rfl fun K hK => mv rfl rfl ?_
  refine bf hK ⟨[(6, hI 0)], []⟩ ?_
  refine AW.ret ?_
  have h := Option.some.inj h
  subst h
  exact ret_pure (hs := [hI 0]) (.inr rfl) (resT rfl rfl) rfl trivial
 refine AW.seq ?_
 refine AW.rgs rfl fun K hK => mv rfl rfl (bv rfl (v_bin rfl rfl b_gtr) ?_)
 refine bf hK ⟨[(0, .str p0), (7, .str (((p0.take (p1).toNat).drop (0 : Int).toNat) ++ ([p2].map fun (n : Int) => UInt8.ofNat n.toNat))), (8, hI a3), (19, .bool (decide (0 < a3)))], []⟩ ?_
 refine AW.cond rfl (fun hc => ?_) (fun hc => ?_)
 ·obtain ⟨hc, h⟩ := cT hc h
  refine AW.skip ?_
  refine AW.seq (AW.block ?_)
  refine AW.seqJ h (S := Bool) (V := Unit) (fun a v => ⟨[(0, .str p0), (7, .str (((p0.take (p1).toNat).drop (0 : Int).toNat) ++ ([p2].map fun (n : Int) => UInt8.ofNat n.toNat))), (8, hI a3), (37, .bool a)], []⟩) (fun a7 w8 h => ?_) (fun k9 h => ?_)
  ·refine AW.cond rfl (fun hc => ?_) (fun hc => ?_)
   ·have h := ifT hc h
    refine AW.rgs rfl fun K hK => mv rfl rfl (mv rfl rfl ?_)
    refine bf hK ⟨[(6, hI a3)], []⟩ ?_
    have h := hr6 _ h
    refine AW.ret ?_
    have h := Option.some.inj h
    subst h
    exact ret_pure (hs := [hI a3]) (.inr rfl) (resT rfl rfl) rfl trivial
   have h := ifF (bF' hc) h
   refine AW.skip ?_
   refine AW.rg rfl fun K hK => mv rfl rfl (bv rfl (v_bin rfl rfl b_sub) (mv rfl rfl ?_))
   refine b_nil (hK _ ?_)
   exact to_L ⟨IntKind.wrap .i64 (a3 - 1), (), h, rfl⟩
  refine AW.dg 16 follows rfl rfl fun K hK => ?_
  refine sm rfl rfl ?_
  refine sm rfl rfl ?_
  refine sv rfl (v_lenS rfl rfl ty9 rfl) ?_
  refine sv rfl (v_bin rfl rfl b_leq) ?_
  refine sm rfl rfl ?_
  by_cases hg12 : a3 ≤ ((((p0.take (p1).toNat).drop (0 : Int).toNat) ++ ([p2].map fun (n : Int) => UInt8.ofNat n.toNat)).length : Int)
  ·have h := ifT hg12 h
   refine s_T rfl rfl rfl rfl rfl (decide_eq_true hg12) (ops_val rfl (mv_val rfl rfl).2 ?_)
   refine s_T rfl rfl rfl rfl rfl rfl (ops_val rfl (mv_val rfl rfl).2 ?_)
   refine s_T rfl rfl rfl rfl rfl rfl (ops_val rfl (v_lenS rfl rfl ty9 rfl) ?_)
   refine s_T rfl rfl rfl rfl rfl rfl (ops_val rfl (mv_val rfl rfl).2 ?_)
   refine s_T rfl rfl rfl rfl rfl rfl (ops_val rfl (v_bin rfl rfl b_sub) ?_)
   obtain ⟨h10, h⟩ := ifN h
   refine s_T rfl rfl rfl rfl rfl rfl (ops_val rfl (v_sliceS ty9 rfl rfl rfl h10) ?_)
   refine s_T rfl rfl rfl rfl rfl rfl (ops_val rfl (mv_val rfl rfl).2 ?_)
   refine s_T rfl rfl rfl rfl rfl rfl (ops_val rfl (mv_val rfl rfl).2 ?_)
   obtain ⟨h11, h⟩ := ifN h
   refine s_T rfl rfl rfl rfl rfl rfl (ops_val rfl (v_sliceS ty9 rfl rfl rfl h11) ?_)
   refine s_T rfl rfl rfl rfl rfl rfl (ops_val rfl (v_bin rfl rfl b_seql) ?_)
   refine sv rfl (v_pickT rfl rfl rfl) ?_
   refine s_nil ?_
   refine b_nil (hK _ ?_)
   exact to_L ⟨decide ((((((p0.take (p1).toNat).drop (0 : Int).toNat) ++ ([p2].map fun (n : Int) => UInt8.ofNat n.toNat)).take (((((p0.take (p1).toNat).drop (0 : Int).toNat) ++ ([p2].map fun (n : Int) => UInt8.ofNat n.toNat)).length : Int)).toNat).drop (IntKind.wrap .i64 (((((p0.take (p1).toNat).drop (0 : Int).toNat) ++ ([p2].map fun (n : Int) => UInt8.ofNat n.toNat)).length : Int) - a3)).toNat) = ((p0.take (a3).toNat).drop (0 : Int).toNat)), (), h, rfl⟩
  have h := ifF hg12 h
  refine s_F rfl rfl rfl rfl rfl (decide_eq_false hg12) ?_
  refine s_F rfl rfl rfl rfl rfl rfl ?_
  refine s_F rfl rfl rfl rfl rfl rfl ?_
  refine s_F rfl rfl rfl rfl rfl rfl ?_
  refine s_F rfl rfl rfl rfl rfl rfl ?_
  refine s_F rfl rfl rfl rfl rfl rfl ?_
  refine s_F rfl rfl rfl rfl rfl rfl ?_
  refine s_F rfl rfl rfl rfl rfl rfl ?_
  refine s_F rfl rfl rfl rfl rfl rfl ?_
  refine s_F rfl rfl rfl rfl rfl rfl ?_
  refine sv rfl (v_pickF rfl rfl rfl) ?_
  refine s_nil ?_
  refine b_nil (hK _ ?_)
  exact to_L ⟨false, (), h, rfl⟩
 obtain ⟨hc, h⟩ := cF hc h
 refine AW.exit ?_
 exact to_L ⟨(), (), h, rfl⟩
theorem w_ref54_tables {p0 : List UInt8} {p1 : Int} {r : (List (List (Int))) × (List (Bool))} (h : m_ref54_tables p0 p1 = some r) : Pure Tryz.prog 93 [.str p0, hI p1] (· = HV.tup [slE (eSl eInt) r.1, slE eBool r.2]) := by
 unfold m_ref54_tables at h
 refine Pure.of_body Tryz.func93 rfl rfl (lb rfl) fun hf => ?_
 unfold Tryz.f93
 dsimp only [enumS, Nat.reduceAdd]
 refine AW.rgs rfl fun K hK => mv rfl rfl (mv rfl rfl ?_)
 refine bf hK ⟨[(0, .str p0), (1, hI p1)], []⟩ ?_
 refine AW.rgs rfl fun K hK => b_op rfl (o_bslM (fid := 93) 93014 rfl rfl rfl (as_of (cs := []) ty130 ty55 rfl rfl rfl rfl rfl) (fun v1 => ?_))
 refine b_op rfl (o_bslM (fid := 93) 93015 rfl rfl rfl (as_of (cs := []) ty103 ty4 rfl rfl rfl rfl rfl) (fun v2 => ?_))
 refine mv rfl rfl (mv rfl rfl ?_)
 refine bf hK ⟨[(0, .str p0), (1, hI p1), (6, .ar 93014 v1 (eSl eInt).k 0 0), (7, .ar 93015 v2 eBool.k 0 0)], [(93014, v1, .arr (eSl eInt).k 55 []), (93015, v2, .arr eBool.k 4 [])]⟩ ?_
 refine AW.seq ?_
 refine AW.rgs rfl fun K hK => mv rfl rfl ?_
 refine bf hK ⟨[(0, .str p0), (1, hI p1), (6, .ar 93014 v1 (eSl eInt).k 0 0), (7, .ar 93015 v2 eBool.k 0 0), (8, hI 0)], [(93014, v1, .arr (eSl eInt).k 55 []), (93015, v2, .arr eBool.k 4 [])]⟩ ?_
 refine AW.lpX h (by first | exact up_then | exact up_to) (S := Int × (List (List (Int))) × (List Bool)) (V := Nat × Nat) (fun a v => ⟨[(0, .str p0), (1, hI p1), (6, .ar 93014 v.1 (eSl eInt).k 0 ((a.2.1).length)), (7, .ar 93015 v.2 eBool.k 0 ((a.2.2).length)), (8, hI a.1)], [(93014, v.1, .arr (eSl eInt).k 55 ((eSl eInt).E a.2.1)), (93015, v.2, .arr eBool.k 4 (eBool.E a.2.2))]⟩) ?_ (X := (List (List (Int))) × (List Bool)) (W := Nat × Nat) (fun a v => ⟨[(6, .ar 93014 v.1 (eSl eInt).k 0 ((a.1).length)), (7, .ar 93015 v.2 eBool.k 0 ((a.2).length))], [(93014, v.1, .arr (eSl eInt).k 55 ((eSl eInt).E a.1)), (93015, v.2, .arr eBool.k 4 (eBool.E a.2))]⟩) (fun a38 w39 h => ?_) (fun a3 w4 st5 h => ?_)
 ·exact to_L ⟨(v1, v2), rfl⟩
 ·refine AW.rgs rfl fun K hK => mv rfl rfl (mv rfl rfl (mv rfl rfl (mv rfl rfl ?_)))
  refine bf hK ⟨[(4, .ar 93014 w39.1 (eSl eInt).k 0 ((a38.1).length)), (5, .ar 93015 w39.2 eBool.k 0 ((a38.2).length))], [(93014, w39.1, .arr (eSl eInt).k 55 ((eSl eInt).E a38.1)), (93015, w39.2, .arr eBool.k 4 (eBool.E a38.2))]⟩ ?_
  refine AW.to (to_frz 2 [(93014, w39.1, .arr (eSl eInt).k 55 ((eSl eInt).E a38.1))] ⟨[(4, slE (eSl eInt) a38.1), (5, .ar 93015 w39.2 eBool.k 0 ((a38.2).length))], [(93015, w39.2, .arr eBool.k 4 (eBool.E a38.2))]⟩ ⟨⟨_, rfl, frz_slE (eSl eInt) (l := a38.1) rfl fun _ _ => rfl⟩, ⟨_, rfl, rfl⟩, trivial⟩ ⟨rfl, trivial⟩ ⟨rfl, trivial⟩ ⟨rfl, trivial⟩ ?_)
  refine AW.to (to_frz 2 [(93015, w39.2, .arr eBool.k 4 (eBool.E a38.2))] ⟨[(4, slE (eSl eInt) a38.1), (5, slE eBool a38.2)], []⟩ ⟨⟨_, rfl, rfl⟩, ⟨_, rfl, frz_slE eBool (l := a38.2) rfl fun _ _ => rfl⟩, trivial⟩ trivial ⟨rfl, trivial⟩ ⟨rfl, trivial⟩ ?_)
  refine AW.ret ?_
  have h := Option.some.inj h
  subst h
  exact ret_pure (hs := [slE (eSl eInt) a38.1, slE eBool a38.2]) (.inr rfl) (resT rfl (resT rfl rfl)) rfl ⟨(clean_slE fun _ _ => ⟨(clean_slE fun _ _ => ⟨trivial, trivial⟩), trivial⟩), (clean_slE fun _ _ => ⟨trivial, trivial⟩), trivial⟩
 refine AW.seq ?_
 refine AW.rgs rfl fun K hK => mv rfl rfl (mv rfl rfl (bv rfl (v_lenS rfl rfl ty9 rfl) (bv rfl (v_bin rfl rfl b_leq) ?_)))
 refine bf hK ⟨[(0, .str p0), (1, hI p1), (6, .ar 93014 w4.1 (eSl eInt).k 0 ((a3.2.1).length)), (7, .ar 93015 w4.2 eBool.k 0 ((a3.2.2).length)), (8, hI a3.1), (19, .bool (decide (a3.1 ≤ ((p0).length : Int))))], [(93014, w4.1, .arr (eSl eInt).k 55 ((eSl eInt).E a3.2.1)), (93015, w4.2, .arr eBool.k 4 (eBool.E a3.2.2))]⟩ ?_
 refine AW.cond rfl (fun hc => ?_) (fun hc => ?_)
 ·obtain ⟨hc, h⟩ := cT hc h
  refine AW.skip ?_
  refine AW.seq (AW.block ?_)
  refine AW.rgs rfl fun K hK => b_op rfl (o_bslM (fid := 93) 93022 rfl rfl rfl (as_of (cs := []) ty55 ty3 rfl rfl rfl rfl rfl) (fun v7 => ?_))
  refine mv rfl rfl ?_
  refine bf hK ⟨[(0, .str p0), (1, hI p1), (6, .ar 93014 w4.1 (eSl eInt).k 0 ((a3.2.1).length)), (7, .ar 93015 w4.2 eBool.k 0 ((a3.2.2).length)), (8, hI a3.1), (9, .ar 93022 v7 eInt.k 0 0)], [(93014, w4.1, .arr (eSl eInt).k 55 ((eSl eInt).E a3.2.1)), (93015, w4.2, .arr eBool.k 4 (eBool.E a3.2.2)), (93022, v7, .arr eInt.k 3 [])]⟩ ?_
  refine AW.seq ?_
  refine AW.rgs rfl fun K hK => mv rfl rfl ?_
  refine bf hK ⟨[(0, .str p0), (1, hI p1), (6, .ar 93014 w4.1 (eSl eInt).k 0 ((a3.2.1).length)), (7, .ar 93015 w4.2 eBool.k 0 ((a3.2.2).length)), (8, hI a3.1), (9, .ar 93022 v7 eInt.k 0 0), (10, hI 0)], [(93014, w4.1, .arr (eSl eInt).k 55 ((eSl eInt).E a3.2.1)), (93015, w4.2, .arr eBool.k 4 (eBool.E a3.2.2)), (93022, v7, .arr eInt.k 3 [])]⟩ ?_
  refine AW.lpX h (by first | exact up_then | exact up_to) (S := Int × (List Int)) (V := Nat) (fun a v => ⟨[(0, .str p0), (1, hI p1), (6, .ar 93014 w4.1 (eSl eInt).k 0 ((a3.2.1).length)), (7, .ar 93015 w4.2 eBool.k 0 ((a3.2.2).length)), (8, hI a3.1), (9, .ar 93022 v eInt.k 0 ((a.2).length)), (10, hI a.1)], [(93014, w4.1, .arr (eSl eInt).k 55 ((eSl eInt).E a3.2.1)), (93015, w4.2, .arr eBool.k 4 (eBool.E a3.2.2)), (93022, v, .arr eInt.k 3 (eInt.E a.2))]⟩) ?_ (X := (List Int)) (W := Nat) (fun a v => ⟨[(0, .str p0), (1, hI p1), (6, .ar 93014 w4.1 (eSl eInt).k 0 ((a3.2.1).length)), (7, .ar 93015 w4.2 eBool.k 0 ((a3.2.2).length)), (8, hI a3.1), (9, .ar 93022 v eInt.k 0 ((a).length))], [(93014, w4.1, .arr (eSl eInt).k 55 ((eSl eInt).E a3.2.1)), (93015, w4.2, .arr eBool.k 4 (eBool.E a3.2.2)), (93022, v, .arr eInt.k 3 (eInt.E a))]⟩) (fun a18 w19 h => ?_) (fun a8 w9 st10 h => ?_)
  ·exact to_L ⟨v7, rfl⟩
  ·refine AW.to (to_frz 2 [(93022, w19, .arr eInt.k 3 (eInt.E a18))] ⟨[(0, .str p0), (1, hI p1), (6, .ar 93014 w4.1 (eSl eInt).k 0 ((a3.2.1).length)), (7, .ar 93015 w4.2 eBool.k 0 ((a3.2.2).length)), (8, hI a3.1), (9, slE eInt a18)], [(93014, w4.1, .arr (eSl eInt).k 55 ((eSl eInt).E a3.2.1)), (93015, w4.2, .arr eBool.k 4 (eBool.E a3.2.2))]⟩ ⟨⟨_, rfl, rfl⟩, ⟨_, rfl, rfl⟩, ⟨_, rfl, rfl⟩, ⟨_, rfl, rfl⟩, ⟨_, rfl, rfl⟩, ⟨_, rfl, frz_slE eInt (l := a18) rfl fun _ _ => rfl⟩, trivial⟩ ⟨rfl, rfl, trivial⟩ ⟨rfl, trivial⟩ ⟨rfl, trivial⟩ ?_)
   refine AW.rgs rfl fun K hK => mv rfl rfl (mv rfl rfl ?_)
   refine b_op rfl (o_bsl rfl rfl (as_of (cs := [slE eInt a18]) ty130 ty55 rfl rfl rfl rfl rfl) ?_)
   obtain ⟨h21, h⟩ := ifN h
   refine b_op rfl (o_appE (eSl eInt) (l := a3.2.1) (m := [a18]) rfl rfl ty130 ty130 ty55 rfl rfl rfl rfl rfl h21 (fun v20 => ?_))
   refine mv rfl rfl ?_
   refine bf hK ⟨[(0, .str p0), (1, hI p1), (6, .ar 93014 v20 (eSl eInt).k 0 ((a3.2.1 ++ [a18]).length)), (7, .ar 93015 w4.2 eBool.k 0 ((a3.2.2).length)), (8, hI a3.1)], [(93014, v20, .arr (eSl eInt).k 55 ((eSl eInt).E (a3.2.1 ++ [a18]))), (93015, w4.2, .arr eBool.k 4 (eBool.E a3.2.2))]⟩ ?_
   refine AW.rgs rfl fun K hK => mv rfl rfl (mv rfl rfl (mv rfl rfl ?_))
   refine bf hK ⟨[(0, .str p0), (1, hI p1), (6, .ar 93014 v20 (eSl eInt).k 0 ((a3.2.1 ++ [a18]).length)), (7, .ar 93015 w4.2 eBool.k 0 ((a3.2.2).length)), (8, hI a3.1), (11, .bool false), (12, hI a3.1)], [(93014, v20, .arr (eSl eInt).k 55 ((eSl eInt).E (a3.2.1 ++ [a18]))), (93015, w4.2, .arr eBool.k 4 (eBool.E a3.2.2))]⟩ ?_
   refine AW.seq ?_
   refine AW.rgs rfl fun K hK => mv rfl rfl ?_
   refine bf hK ⟨[(0, .str p0), (1, hI p1), (6, .ar 93014 v20 (eSl eInt).k 0 ((a3.2.1 ++ [a18]).length)), (7, .ar 93015 w4.2 eBool.k 0 ((a3.2.2).length)), (8, hI a3.1), (11, .bool false), (12, hI a3.1), (13, hI 0)], [(93014, v20, .arr (eSl eInt).k 55 ((eSl eInt).E (a3.2.1 ++ [a18]))), (93015, w4.2, .arr eBool.k 4 (eBool.E a3.2.2))]⟩ ?_
   refine AW.lpX h (by first | exact up_then | exact up_to) (S := Bool × Int × Int) (V := Unit) (fun a v => ⟨[(0, .str p0), (1, hI p1), (6, .ar 93014 v20 (eSl eInt).k 0 ((a3.2.1 ++ [a18]).length)), (7, .ar 93015 w4.2 eBool.k 0 ((a3.2.2).length)), (8, hI a3.1), (11, .bool a.1), (12, hI a.2.1), (13, hI a.2.2)], [(93014, v20, .arr (eSl eInt).k 55 ((eSl eInt).E (a3.2.1 ++ [a18]))), (93015, w4.2, .arr eBool.k 4 (eBool.E a3.2.2))]⟩) ?_ (X := Bool) (W := Unit) (fun a v => ⟨[(0, .str p0), (1, hI p1), (6, .ar 93014 v20 (eSl eInt).k 0 ((a3.2.1 ++ [a18]).length)), (7, .ar 93015 w4.2 eBool.k 0 ((a3.2.2).length)), (8, hI a3.1), (11, .bool a)], [(93014, v20, .arr (eSl eInt).k 55 ((eSl eInt).E (a3.2.1 ++ [a18]))), (93015, w4.2, .arr eBool.k 4 (eBool.E a3.2.2))]⟩) (fun a34 w35 h => ?_) (fun a22 w23 st24 h => ?_)
   ·exact to_L ⟨(), rfl⟩
   ·refine AW.rg rfl fun K hK => mv rfl rfl (mv rfl rfl ?_)
    refine b_op rfl (o_bsl rfl rfl (as_of (cs := [.bool a34]) ty103 ty4 rfl rfl rfl rfl rfl) ?_)
    obtain ⟨h37, h⟩ := ifN h
    refine b_op rfl (o_appE eBool (l := a3.2.2) (m := [a34]) rfl rfl ty103 ty103 ty4 rfl rfl rfl rfl rfl h37 (fun v36 => ?_))
    refine mv rfl rfl ?_
    refine bf hK ⟨[(0, .str p0), (1, hI p1), (6, .ar 93014 v20 (eSl eInt).k 0 ((a3.2.1 ++ [a18]).length)), (7, .ar 93015 v36 eBool.k 0 ((a3.2.2 ++ [a34]).length)), (8, hI a3.1)], [(93014, v20, .arr (eSl eInt).k 55 ((eSl eInt).E (a3.2.1 ++ [a18]))), (93015, v36, .arr eBool.k 4 (eBool.E (a3.2.2 ++ [a34])))]⟩ ?_
    refine AW.rg rfl fun K hK => mv rfl rfl (bv rfl (v_bin rfl rfl b_add) (mv rfl rfl ?_))
    refine b_nil (hK _ ?_)
    exact to_L ⟨(IntKind.wrap .i64 (a3.1 + 1), a3.2.1 ++ [a18], a3.2.2 ++ [a34]), (v20, v36), h, rfl⟩
   refine AW.seq ?_
   refine AW.rgs rfl fun K hK => mv rfl rfl (bv rfl (v_bin rfl rfl b_add) (mv rfl rfl (bv rfl (v_lenS rfl rfl ty9 rfl) (bv rfl (v_bin rfl rfl b_lss) ?_))))
   refine bf hK ⟨[(0, .str p0), (1, hI p1), (6, .ar 93014 v20 (eSl eInt).k 0 ((a3.2.1 ++ [a18]).length)), (7, .ar 93015 w4.2 eBool.k 0 ((a3.2.2).length)), (8, hI a3.1), (11, .bool a22.1), (12, hI a22.2.1), (13, hI a22.2.2), (45, .bool (decide ((IntKind.wrap .i64 (a22.2.2 + 1)) < ((p0).length : Int))))], [(93014, v20, .arr (eSl eInt).k 55 ((eSl eInt).E (a3.2.1 ++ [a18]))), (93015, w4.2, .arr eBool.k 4 (eBool.E a3.2.2))]⟩ ?_
   refine AW.cond rfl (fun hc => ?_) (fun hc => ?_)
   ·obtain ⟨hc, h⟩ := cT hc h
    refine AW.skip ?_
    refine AW.seqJ h (S := Bool × Int) (V := Unit) (fun a v => ⟨[(0, .str p0), (1, hI p1), (6, .ar 93014 v20 (eSl eInt).k 0 ((a3.2.1 ++ [a18]).length)), (7, .ar 93015 w4.2 eBool.k 0 ((a3.2.2).length)), (8, hI a3.1), (11, .bool a.1), (12, hI a.2), (13, hI a22.2.2)], [(93014, v20, .arr (eSl eInt).k 55 ((eSl eInt).E (a3.2.1 ++ [a18]))), (93015, w4.2, .arr eBool.k 4 (eBool.E a3.2.2))]⟩) (fun a26 w27 h => ?_) (fun k28 h => ?_)
    ·refine AW.rg rfl fun K hK => mv rfl rfl (bv rfl (v_bin rfl rfl b_add) (mv rfl rfl ?_))
     refine b_nil (hK _ ?_)
     exact to_L ⟨(a26.1, a26.2, IntKind.wrap .i64 (a22.2.2 + 1)), (), h, rfl⟩
    refine AW.block ?_
    refine AW.rgs rfl fun K hK => mv rfl rfl (mv rfl rfl (mv rfl rfl (mv rfl rfl ?_)))
    obtain ⟨x29, h30, h⟩ := bS h
    refine bv rfl (v_idxS ty9 rfl rfl h30) ?_
    obtain ⟨x31, h32, h⟩ := bS h
    refine b_op rfl (o_call rfl rfl rfl rfl (ACallD.pure0 (w_ref54_follow h32)) ?_)
    refine mv rfl rfl ?_
    refine bf hK ⟨[(0, .str p0), (1, hI p1), (6, .ar 93014 v20 (eSl eInt).k 0 ((a3.2.1 ++ [a18]).length)), (7, .ar 93015 w4.2 eBool.k 0 ((a3.2.2).length)), (8, hI a3.1), (11, .bool a22.1), (12, hI x31), (13, hI a22.2.2)], [(93014, v20, .arr (eSl eInt).k 55 ((eSl eInt).E (a3.2.1 ++ [a18]))), (93015, w4.2, .arr eBool.k 4 (eBool.E a3.2.2))]⟩ ?_
    refine AW.rg rfl fun K hK => mv rfl rfl (mv rfl rfl ?_)
    by_cases hg33 : a22.1 = true
    ·have h := ifT hg33 h
     refine b_F rfl rfl rfl rfl rfl hg33 ?_
     refine b_F rfl rfl rfl rfl rfl rfl ?_
     refine b_F rfl rfl rfl rfl rfl rfl ?_
     refine b_F rfl rfl rfl rfl rfl rfl ?_
     refine bv rfl (v_pickT rfl rfl rfl) (mv rfl rfl ?_)
     refine b_nil (hK _ ?_)
     exact to_L ⟨(true, x31), (), h, rfl⟩
    have h := ifF hg33 h
    refine b_T rfl rfl rfl rfl (bF hg33) (o_val rfl (mv_val rfl rfl).2 ?_)
    refine b_T rfl rfl rfl rfl rfl (o_val rfl (mv_val rfl rfl).2 ?_)
    refine b_T rfl rfl rfl rfl rfl (o_val rfl (v_lenS rfl rfl ty9 rfl) ?_)
    refine b_T rfl rfl rfl rfl rfl (o_val rfl (v_bin rfl rfl b_eql) ?_)
    refine bv rfl (v_pickF rfl rfl rfl) (mv rfl rfl ?_)
    refine b_nil (hK _ ?_)
    exact to_L ⟨(decide (x31 = ((p0).length : Int)), x31), (), h, rfl⟩
   obtain ⟨hc, h⟩ := cF hc h
   refine AW.exit ?_
   exact to_L ⟨a22.1, (), h, rfl⟩
  refine AW.seq ?_
  refine AW.rgs rfl fun K hK => mv rfl rfl (mv rfl rfl (bv rfl (v_bin rfl rfl b_lss) ?_))
  refine bf hK ⟨[(0, .str p0), (1, hI p1), (6, .ar 93014 w4.1 (eSl eInt).k 0 ((a3.2.1).length)), (7, .ar 93015 w4.2 eBool.k 0 ((a3.2.2).length)), (8, hI a3.1), (9, .ar 93022 w9 eInt.k 0 ((a8.2).length)), (10, hI a8.1), (25, .bool (decide (a8.1 < p1)))], [(93014, w4.1, .arr (eSl eInt).k 55 ((eSl eInt).E a3.2.1)), (93015, w4.2, .arr eBool.k 4 (eBool.E a3.2.2)), (93022, w9, .arr eInt.k 3 (eInt.E a8.2))]⟩ ?_
  refine AW.cond rfl (fun hc => ?_) (fun hc => ?_)
  ·obtain ⟨hc, h⟩ := cT hc h
   refine AW.skip ?_
   refine AW.seq (AW.block ?_)
   refine AW.rg rfl fun K hK => mv rfl rfl (mv rfl rfl (mv rfl rfl (mv rfl rfl ?_)))
   obtain ⟨x12, h13, h⟩ := bS h
   refine bv rfl (v_idxS ty9 rfl rfl h13) ?_
   obtain ⟨x14, h15, h⟩ := bS h
   refine b_op rfl (o_call rfl rfl rfl rfl (ACallD.pure0 (w_ref54_follow h15)) ?_)
   refine b_op rfl (o_bsl rfl rfl (as_of (cs := [hI x14]) ty55 ty3 rfl rfl rfl rfl rfl) ?_)
   obtain ⟨h17, h⟩ := ifN h
   refine b_op rfl (o_appE eInt (l := a8.2) (m := [x14]) rfl rfl ty55 ty55 ty3 rfl rfl rfl rfl rfl h17 (fun v16 => ?_))
   refine mv rfl rfl ?_
   refine bf hK ⟨[(0, .str p0), (1, hI p1), (6, .ar 93014 w4.1 (eSl eInt).k 0 ((a3.2.1).length)), (7, .ar 93015 w4.2 eBool.k 0 ((a3.2.2).length)), (8, hI a3.1), (9, .ar 93022 v16 eInt.k 0 ((a8.2 ++ [x14]).length)), (10, hI a8.1)], [(93014, w4.1, .arr (eSl eInt).k 55 ((eSl eInt).E a3.2.1)), (93015, w4.2, .arr eBool.k 4 (eBool.E a3.2.2)), (93022, v16, .arr eInt.k 3 (eInt.E (a8.2 ++ [x14])))]⟩ ?_
   refine AW.rg rfl fun K hK => mv rfl rfl (bv rfl (v_bin rfl rfl b_add) (mv rfl rfl ?_))
   refine b_nil (hK _ ?_)
   exact to_L ⟨(IntKind.wrap .i64 (a8.1 + 1), a8.2 ++ [x14]), v16, h, rfl⟩
  obtain ⟨hc, h⟩ := cF hc h
  refine AW.exit ?_
  exact to_L ⟨a8.2, w9, h, rfl⟩
 obtain ⟨hc, h⟩ := cF hc h
 refine AW.exit ?_
 exact to_L ⟨(a3.2.1, a3.2.2), (w4.1, w4.2), h, rfl⟩
theorem w_ref54_can {p0 : TLabelsStatesEdges} {p1 : List UInt8} {p2 : Int} {r : (List (List (Bool)))} (h : m_ref54_can p0 p1 p2 = some r) : Pure Tryz.prog 68 [gA p0, .str p1, hI p2] (· = slE (eSl eBool) r) := by
 unfold m_ref54_can at h
 refine Pure.of_body Tryz.func68 rfl rfl (lb rfl) fun hf => ?_
 unfold Tryz.f68
 dsimp only [enumS, Nat.reduceAdd]
 refine AW.rgs rfl fun K hK => b_op rfl (o_box rfl rfl rfl ?_)
 refine mv rfl rfl ?_
 refine bf hK ⟨[(1, .str p1), (2, hI p2), (3, gF p0)], []⟩ ?_
 refine AW.rgs rfl fun K hK => mv rfl rfl (bv rfl (v_fieldAddrF fo24_0 rfl) (bv rfl (v_loadF ty3 rfl (l_lit rfl rfl)) ?_))
 obtain ⟨x1, h2, h⟩ := bS h
 refine b_op rfl (o_call rfl rfl rfl rfl (ACallD.pure0 (w_ref54_tables h2)) ?_)
 refine mv rfl rfl (bv rfl (v_extract rfl rfl) (bv rfl (v_extract rfl rfl) (mv rfl rfl (mv rfl rfl ?_))))
 refine bf hK ⟨[(1, .str p1), (2, hI p2), (3, gF p0), (7, slE (eSl eInt) x1.1), (8, slE eBool x1.2)], []⟩ ?_
 refine AW.rgs rfl fun K hK => mv rfl rfl (bv rfl (v_lenS rfl rfl ty9 rfl) (mv rfl rfl ?_))
 refine bf hK ⟨[(2, hI p2), (3, gF p0), (7, slE (eSl eInt) x1.1), (8, slE eBool x1.2), (9, hI ((p1).length : Int))], []⟩ ?_
 refine AW.rgs rfl fun K hK => bv rfl (v_fieldAddrF fo24_1 rfl) (bv rfl (v_loadF ty3 rfl (l_lit rfl rfl)) (mv rfl rfl (bv rfl (v_bin rfl rfl b_add) (bv rfl (v_bin rfl rfl b_mul) (bv rfl (v_bin rfl rfl b_mul) ?_)))))
 refine mv rfl rfl ?_
 refine bf hK ⟨[(2, hI p2), (3, gF p0), (7, slE (eSl eInt) x1.1), (8, slE eBool x1.2), (9, hI ((p1).length : Int)), (10, hI (IntKind.wrap .i64 ((IntKind.wrap .i64 (p0.2.1 * (IntKind.wrap .i64 (((p1).length : Int) + 1)))) * 2)))], []⟩ ?_
 refine AW.rgs rfl fun K hK => mv rfl rfl ?_
 obtain ⟨h4, h⟩ := ifN h
 refine b_op rfl (o_makeE (fid := 68) eBool (false : Bool) 68039 rfl rfl ty103 rfl rfl ty4 rfl rfl h4 (fun v3 => ?_))
 refine mv rfl rfl ?_
 refine bf hK ⟨[(2, hI p2), (3, gF p0), (7, slE (eSl eInt) x1.1), (8, slE eBool x1.2), (9, hI ((p1).length : Int)), (10, hI (IntKind.wrap .i64 ((IntKind.wrap .i64 (p0.2.1 * (IntKind.wrap .i64 (((p1).length : Int) + 1)))) * 2))), (11, .ar 68039 v3 eBool.k 0 ((List.replicate (IntKind.wrap .i64 ((IntKind.wrap .i64 (p0.2.1 * (IntKind.wrap .i64 (((p1).length : Int) + 1)))) * 2)).toNat (false : Bool)).length))], [(68039, v3, .arr eBool.k 4 (eBool.E (List.replicate (IntKind.wrap .i64 ((IntKind.wrap .i64 (p0.2.1 * (IntKind.wrap .i64 (((p1).length : Int) + 1)))) * 2)).toNat (false : Bool))))]⟩ ?_
 refine AW.seq ?_
 refine AW.rgs rfl fun K hK => mv rfl rfl ?_
 refine bf hK ⟨[(2, hI p2), (3, gF p0), (7, slE (eSl eInt) x1.1), (8, slE eBool x1.2), (9, hI ((p1).length : Int)), (10, hI (IntKind.wrap .i64 ((IntKind.wrap .i64 (p0.2.1 * (IntKind.wrap .i64 (((p1).length : Int) + 1)))) * 2))), (11, .ar 68039 v3 eBool.k 0 ((List.replicate (IntKind.wrap .i64 ((IntKind.wrap .i64 (p0.2.1 * (IntKind.wrap .i64 (((p1).length : Int) + 1)))) * 2)).toNat (false : Bool)).length)), (12, hI 0)], [(68039, v3, .arr eBool.k 4 (eBool.E (List.replicate (IntKind.wrap .i64 ((IntKind.wrap .i64 (p0.2.1 * (IntKind.wrap .i64 (((p1).length : Int) + 1)))) * 2)).toNat (false : Bool))))]⟩ ?_
 refine AW.lpX h (by first | exact up_then | exact up_to) (S := Int × (List Bool)) (V := Unit) (fun a v => ⟨[(2, hI p2), (3, gF p0), (7, slE (eSl eInt) x1.1), (8, slE eBool x1.2), (9, hI ((p1).length : Int)), (10, hI (IntKind.wrap .i64 ((IntKind.wrap .i64 (p0.2.1 * (IntKind.wrap .i64 (((p1).length : Int) + 1)))) * 2))), (11, .ar 68039 v3 eBool.k 0 ((a.2).length)), (12, hI a.1)], [(68039, v3, .arr eBool.k 4 (eBool.E a.2))]⟩) ?_ (X := (List Bool)) (W := Unit) (fun a v => ⟨[(2, hI p2), (3, gF p0), (7, slE (eSl eInt) x1.1), (9, hI ((p1).length : Int)), (10, hI (IntKind.wrap .i64 ((IntKind.wrap .i64 (p0.2.1 * (IntKind.wrap .i64 (((p1).length : Int) + 1)))) * 2))), (11, .ar 68039 v3 eBool.k 0 ((a).length))], [(68039, v3, .arr eBool.k 4 (eBool.E a))]⟩) (fun a21 w22 h => ?_) (fun a5 w6 st7 h => ?_)
 ·exact to_L ⟨(), rfl⟩
 ·refine AW.to (to_frz 2 [(68039, v3, .arr eBool.k 4 (eBool.E a21))] ⟨[(2, hI p2), (3, gF p0), (7, slE (eSl eInt) x1.1), (9, hI ((p1).length : Int)), (10, hI (IntKind.wrap .i64 ((IntKind.wrap .i64 (p0.2.1 * (IntKind.wrap .i64 (((p1).length : Int) + 1)))) * 2))), (11, slE eBool a21)], []⟩ ⟨⟨_, rfl, rfl⟩, ⟨_, rfl, rfl⟩, ⟨_, rfl, rfl⟩, ⟨_, rfl, rfl⟩, ⟨_, rfl, rfl⟩, ⟨_, rfl, frz_slE eBool (l := a21) rfl fun _ _ => rfl⟩, trivial⟩ trivial ⟨rfl, trivial⟩ ⟨rfl, trivial⟩ ?_)
  refine AW.rgs rfl fun K hK => mv rfl rfl ?_
  refine b_op rfl (o_bslM (fid := 68) 68075 rfl rfl rfl (as_of (cs := [slE eBool a21]) ty101 ty103 rfl rfl rfl rfl rfl) (fun v23 => ?_))
  refine mv rfl rfl ?_
  refine bf hK ⟨[(2, hI p2), (3, gF p0), (7, slE (eSl eInt) x1.1), (9, hI ((p1).length : Int)), (10, hI (IntKind.wrap .i64 ((IntKind.wrap .i64 (p0.2.1 * (IntKind.wrap .i64 (((p1).length : Int) + 1)))) * 2))), (14, .ar 68075 v23 (eSl eBool).k 0 (([a21]).length))], [(68075, v23, .arr (eSl eBool).k 103 ((eSl eBool).E [a21]))]⟩ ?_
  refine AW.seq ?_
  refine AW.rgs rfl fun K hK => mv rfl rfl ?_
  refine bf hK ⟨[(2, hI p2), (3, gF p0), (7, slE (eSl eInt) x1.1), (9, hI ((p1).length : Int)), (10, hI (IntKind.wrap .i64 ((IntKind.wrap .i64 (p0.2.1 * (IntKind.wrap .i64 (((p1).length : Int) + 1)))) * 2))), (14, .ar 68075 v23 (eSl eBool).k 0 (([a21]).length)), (15, hI 0)], [(68075, v23, .arr (eSl eBool).k 103 ((eSl eBool).E [a21]))]⟩ ?_
  refine AW.lpX h (by first | exact up_then | exact up_to) (S := Int × (List (List (Bool)))) (V := Nat) (fun a v => ⟨[(2, hI p2), (3, gF p0), (7, slE (eSl eInt) x1.1), (9, hI ((p1).length : Int)), (10, hI (IntKind.wrap .i64 ((IntKind.wrap .i64 (p0.2.1 * (IntKind.wrap .i64 (((p1).length : Int) + 1)))) * 2))), (14, .ar 68075 v (eSl eBool).k 0 ((a.2).length)), (15, hI a.1)], [(68075, v, .arr (eSl eBool).k 103 ((eSl eBool).E a.2))]⟩) ?_ (X := (List (List (Bool)))) (W := Nat) (fun a v => ⟨[(14, .ar 68075 v (eSl eBool).k 0 ((a).length))], [(68075, v, .arr (eSl eBool).k 103 ((eSl eBool).E a))]⟩) (fun a71 w72 h => ?_) (fun a24 w25 st26 h => ?_)
  ·exact to_L ⟨v23, rfl⟩
  ·refine AW.rgs rfl fun K hK => mv rfl rfl (mv rfl rfl ?_)
   refine bf hK ⟨[(6, .ar 68075 w72 (eSl eBool).k 0 ((a71).length))], [(68075, w72, .arr (eSl eBool).k 103 ((eSl eBool).E a71))]⟩ ?_
   refine AW.to (to_frz 2 [(68075, w72, .arr (eSl eBool).k 103 ((eSl eBool).E a71))] ⟨[(6, slE (eSl eBool) a71)], []⟩ ⟨⟨_, rfl, frz_slE (eSl eBool) (l := a71) rfl fun _ _ => rfl⟩, trivial⟩ trivial ⟨rfl, trivial⟩ ⟨rfl, trivial⟩ ?_)
   refine AW.ret ?_
   have h := Option.some.inj h
   subst h
   exact ret_pure (hs := [slE (eSl eBool) a71]) (.inr rfl) (resT rfl rfl) rfl (clean_slE fun _ _ => ⟨(clean_slE fun _ _ => ⟨trivial, trivial⟩), trivial⟩)
  refine AW.seq ?_
  refine AW.rgs rfl fun K hK => mv rfl rfl (mv rfl rfl (bv rfl (v_bin rfl rfl b_lss) ?_))
  refine bf hK ⟨[(2, hI p2), (3, gF p0), (7, slE (eSl eInt) x1.1), (9, hI ((p1).length : Int)), (10, hI (IntKind.wrap .i64 ((IntKind.wrap .i64 (p0.2.1 * (IntKind.wrap .i64 (((p1).length : Int) + 1)))) * 2))), (14, .ar 68075 w25 (eSl eBool).k 0 ((a24.2).length)), (15, hI a24.1), (78, .bool (decide (a24.1 < p2)))], [(68075, w25, .arr (eSl eBool).k 103 ((eSl eBool).E a24.2))]⟩ ?_
  refine AW.cond rfl (fun hc => ?_) (fun hc => ?_)
  ·obtain ⟨hc, h⟩ := cT hc h
   refine AW.skip ?_
   refine AW.seq (AW.block ?_)
   refine AW.rgs rfl fun K hK => mv rfl rfl ?_
   obtain ⟨h29, h⟩ := ifN h
   refine b_op rfl (o_makeE (fid := 68) eBool (false : Bool) 68082 rfl rfl ty103 rfl rfl ty4 rfl rfl h29 (fun v28 => ?_))
   refine mv rfl rfl ?_
   refine bf hK ⟨[(2, hI p2), (3, gF p0), (7, slE (eSl eInt) x1.1), (9, hI ((p1).length : Int)), (10, hI (IntKind.wrap .i64 ((IntKind.wrap .i64 (p0.2.1 * (IntKind.wrap .i64 (((p1).length : Int) + 1)))) * 2))), (14, .ar 68075 w25 (eSl eBool).k 0 ((a24.2).length)), (15, hI a24.1), (16, .ar 68082 v28 eBool.k 0 ((List.replicate (IntKind.wrap .i64 ((IntKind.wrap .i64 (p0.2.1 * (IntKind.wrap .i64 (((p1).length : Int) + 1)))) * 2)).toNat (false : Bool)).length))], [(68075, w25, .arr (eSl eBool).k 103 ((eSl eBool).E a24.2)), (68082, v28, .arr eBool.k 4 (eBool.E (List.replicate (IntKind.wrap .i64 ((IntKind.wrap .i64 (p0.2.1 * (IntKind.wrap .i64 (((p1).length : Int) + 1)))) * 2)).toNat (false : Bool))))]⟩ ?_
   refine AW.seq ?_
   refine AW.rgs rfl fun K hK => mv rfl rfl ?_
   refine bf hK ⟨[(2, hI p2), (3, gF p0), (7, slE (eSl eInt) x1.1), (9, hI ((p1).length : Int)), (10, hI (IntKind.wrap .i64 ((IntKind.wrap .i64 (p0.2.1 * (IntKind.wrap .i64 (((p1).length : Int) + 1)))) * 2))), (14, .ar 68075 w25 (eSl eBool).k 0 ((a24.2).length)), (15, hI a24.1), (16, .ar 68082 v28 eBool.k 0 ((List.replicate (IntKind.wrap .i64 ((IntKind.wrap .i64 (p0.2.1 * (IntKind.wrap .i64 (((p1).length : Int) + 1)))) * 2)).toNat (false : Bool)).length)), (17, hI 0)], [(68075, w25, .arr (eSl eBool).k 103 ((eSl eBool).E a24.2)), (68082, v28, .arr eBool.k 4 (eBool.E (List.replicate (IntKind.wrap .i64 ((IntKind.wrap .i64 (p0.2.1 * (IntKind.wrap .i64 (((p1).length : Int) + 1)))) * 2)).toNat (false : Bool))))]⟩ ?_
   refine AW.lpX h (by first | exact up_then | exact up_to) (S := Int × (List Bool)) (V := Unit) (fun a v => ⟨[(2, hI p2), (3, gF p0), (7, slE (eSl eInt) x1.1), (9, hI ((p1).length : Int)), (10, hI (IntKind.wrap .i64 ((IntKind.wrap .i64 (p0.2.1 * (IntKind.wrap .i64 (((p1).length : Int) + 1)))) * 2))), (14, .ar 68075 w25 (eSl eBool).k 0 ((a24.2).length)), (15, hI a24.1), (16, .ar 68082 v28 eBool.k 0 ((a.2).length)), (17, hI a.1)], [(68075, w25, .arr (eSl eBool).k 103 ((eSl eBool).E a24.2)), (68082, v28, .arr eBool.k 4 (eBool.E a.2))]⟩) ?_ (X := (List Bool)) (W := Unit) (fun a v => ⟨[(2, hI p2), (3, gF p0), (7, slE (eSl eInt) x1.1), (9, hI ((p1).length : Int)), (10, hI (IntKind.wrap .i64 ((IntKind.wrap .i64 (p0.2.1 * (IntKind.wrap .i64 (((p1).length : Int) + 1)))) * 2))), (14, .ar 68075 w25 (eSl eBool).k 0 ((a24.2).length)), (15, hI a24.1), (16, .ar 68082 v28 eBool.k 0 ((a).length))], [(68075, w25, .arr (eSl eBool).k 103 ((eSl eBool).E a24.2)), (68082, v28, .arr eBool.k 4 (eBool.E a))]⟩) (fun a67 w68 h => ?_) (fun a30 w31 st32 h => ?_)
   ·exact to_L ⟨(), rfl⟩
   ·refine AW.to (to_frz 2 [(68082, v28, .arr eBool.k 4 (eBool.E a67))] ⟨[(2, hI p2), (3, gF p0), (7, slE (eSl eInt) x1.1), (9, hI ((p1).length : Int)), (10, hI (IntKind.wrap .i64 ((IntKind.wrap .i64 (p0.2.1 * (IntKind.wrap .i64 (((p1).length : Int) + 1)))) * 2))), (14, .ar 68075 w25 (eSl eBool).k 0 ((a24.2).length)), (15, hI a24.1), (16, slE eBool a67)], [(68075, w25, .arr (eSl eBool).k 103 ((eSl eBool).E a24.2))]⟩ ⟨⟨_, rfl, rfl⟩, ⟨_, rfl, rfl⟩, ⟨_, rfl, rfl⟩, ⟨_, rfl, rfl⟩, ⟨_, rfl, rfl⟩, ⟨_, rfl, rfl⟩, ⟨_, rfl, rfl⟩, ⟨_, rfl, frz_slE eBool (l := a67) rfl fun _ _ => rfl⟩, trivial⟩ ⟨rfl, trivial⟩ ⟨rfl, trivial⟩ ⟨rfl, trivial⟩ ?_)
    refine AW.rg rfl fun K hK => mv rfl rfl (mv rfl rfl ?_)
    refine b_op rfl (o_bsl rfl rfl (as_of (cs := [slE eBool a67]) ty101 ty103 rfl rfl rfl rfl rfl) ?_)
    obtain ⟨h70, h⟩ := ifN h
    refine b_op rfl (o_appE (eSl eBool) (l := a24.2) (m := [a67]) rfl rfl ty101 ty101 ty103 rfl rfl rfl rfl rfl h70 (fun v69 => ?_))
    refine mv rfl rfl ?_
    refine bf hK ⟨[(2, hI p2), (3, gF p0), (7, slE (eSl eInt) x1.1), (9, hI ((p1).length : Int)), (10, hI (IntKind.wrap .i64 ((IntKind.wrap .i64 (p0.2.1 * (IntKind.wrap .i64 (((p1).length : Int) + 1)))) * 2))), (14, .ar 68075 v69 (eSl eBool).k 0 ((a24.2 ++ [a67]).length)), (15, hI a24.1)], [(68075, v69, .arr (eSl eBool).k 103 ((eSl eBool).E (a24.2 ++ [a67])))]⟩ ?_
    refine AW.rg rfl fun K hK => mv rfl rfl (bv rfl (v_bin rfl rfl b_add) (mv rfl rfl ?_))
    refine b_nil (hK _ ?_)
    exact to_L ⟨(IntKind.wrap .i64 (a24.1 + 1), a24.2 ++ [a67]), v69, h, rfl⟩
   refine AW.seq ?_
   refine AW.rgs rfl fun K hK => mv rfl rfl (bv rfl (v_fieldAddrF fo24_2 rfl) (bv rfl (v_loadF ty22 rfl (l_lit rfl rfl)) (bv rfl (v_lenF rfl rfl ty22 rfl) (bv rfl (v_bin rfl rfl b_lss) ?_))))
   refine bf hK ⟨[(2, hI p2), (3, gF p0), (7, slE (eSl eInt) x1.1), (9, hI ((p1).length : Int)), (10, hI (IntKind.wrap .i64 ((IntKind.wrap .i64 (p0.2.1 * (IntKind.wrap .i64 (((p1).length : Int) + 1)))) * 2))), (14, .ar 68075 w25 (eSl eBool).k 0 ((a24.2).length)), (15, hI a24.1), (16, .ar 68082 v28 eBool.k 0 ((a30.2).length)), (17, hI a30.1), (87, .bool (decide (a30.1 < ((p0.2.2).length : Int))))], [(68075, w25, .arr (eSl eBool).k 103 ((eSl eBool).E a24.2)), (68082, v28, .arr eBool.k 4 (eBool.E a30.2))]⟩ ?_
   refine AW.cond rfl (fun hc => ?_) (fun hc => ?_)
   ·obtain ⟨hc, h⟩ := cT hc h
    refine AW.skip ?_
    refine AW.seq (AW.block ?_)
    refine AW.rgs rfl fun K hK => bv rfl (v_fieldAddrF fo24_2 rfl) (bv rfl (v_loadF ty22 rfl (l_lit rfl rfl)) (mv rfl rfl ?_))
    obtain ⟨x34, h35, h⟩ := bS h
    refine bv rfl (v_idxF ty22 es22 rfl rfl (idx_lt h35)) (bv rfl (v_loadF ty44 rfl (l_agg eFromLabelTo h35 rfl rfl)) ?_)
    refine b_op rfl (o_alloc (fid := 68) (zs := [hI 0, hI 0, hI 0]) 68018 rfl rfl ty44 rfl (fun v36 => ?_))
    refine b_op rfl (o_store (cs := [hI x34.1, hI x34.2.1, hI x34.2.2]) (zs := [hI x34.1, hI x34.2.1, hI x34.2.2]) rfl rfl rfl ty44 rfl rfl rfl rfl rfl ?_)
    refine bf hK ⟨[(2, hI p2), (3, gF p0), (7, slE (eSl eInt) x1.1), (9, hI ((p1).length : Int)), (10, hI (IntKind.wrap .i64 ((IntKind.wrap .i64 (p0.2.1 * (IntKind.wrap .i64 (((p1).length : Int) + 1)))) * 2))), (14, .ar 68075 w25 (eSl eBool).k 0 ((a24.2).length)), (15, hI a24.1), (16, .ar 68082 v28 eBool.k 0 ((a30.2).length)), (17, hI a30.1), (18, .ptr 68018 v36 0)], [(68075, w25, .arr (eSl eBool).k 103 ((eSl eBool).E a24.2)), (68082, v28, .arr eBool.k 4 (eBool.E a30.2)), (68018, v36, .arr 3 44 [hI x34.1, hI x34.2.1, hI x34.2.2])]⟩ ?_
    refine AW.rgs rfl fun K hK => mv rfl rfl ?_
    refine bf hK ⟨[(2, hI p2), (3, gF p0), (7, slE (eSl eInt) x1.1), (9, hI ((p1).length : Int)), (10, hI (IntKind.wrap .i64 ((IntKind.wrap .i64 (p0.2.1 * (IntKind.wrap .i64 (((p1).length : Int) + 1)))) * 2))), (14, .ar 68075 w25 (eSl eBool).k 0 ((a24.2).length)), (15, hI a24.1), (16, .ar 68082 v28 eBool.k 0 ((a30.2).length)), (17, hI a30.1), (18, .ptr 68018 v36 0), (19, hI 0)], [(68075, w25, .arr (eSl eBool).k 103 ((eSl eBool).E a24.2)), (68082, v28, .arr eBool.k 4 (eBool.E a30.2)), (68018, v36, .arr 3 44 [hI x34.1, hI x34.2.1, hI x34.2.2])]⟩ ?_
    refine AW.lpX h (by first | exact up_then | exact up_to) (S := Int × (List Bool)) (V := Unit) (fun a v => ⟨[(2, hI p2), (3, gF p0), (7, slE (eSl eInt) x1.1), (9, hI ((p1).length : Int)), (10, hI (IntKind.wrap .i64 ((IntKind.wrap .i64 (p0.2.1 * (IntKind.wrap .i64 (((p1).length : Int) + 1)))) * 2))), (14, .ar 68075 w25 (eSl eBool).k 0 ((a24.2).length)), (15, hI a24.1), (16, .ar 68082 v28 eBool.k 0 ((a.2).length)), (17, hI a30.1), (18, .ptr 68018 v36 0), (19, hI a.1)], [(68018, v36, .arr 3 44 [hI x34.1, hI x34.2.1, hI x34.2.2]), (68075, w25, .arr (eSl eBool).k 103 ((eSl eBool).E a24.2)), (68082, v28, .arr eBool.k 4 (eBool.E a.2))]⟩) ?_ (X := (List Bool)) (W := Unit) (fun a v => ⟨[(2, hI p2), (3, gF p0), (7, slE (eSl eInt) x1.1), (9, hI ((p1).length : Int)), (10, hI (IntKind.wrap .i64 ((IntKind.wrap .i64 (p0.2.1 * (IntKind.wrap .i64 (((p1).length : Int) + 1)))) * 2))), (14, .ar 68075 w25 (eSl eBool).k 0 ((a24.2).length)), (15, hI a24.1), (16, .ar 68082 v28 eBool.k 0 ((a).length)), (17, hI a30.1)], [(68075, w25, .arr (eSl eBool).k 103 ((eSl eBool).E a24.2)), (68082, v28, .arr eBool.k 4 (eBool.E a))]⟩) (fun a65 w66 h => ?_) (fun a37 w38 st39 h => ?_)
    ·exact to_L ⟨(), rfl⟩
    ·refine AW.rg rfl fun K hK => mv rfl rfl (bv rfl (v_bin rfl rfl b_add) (mv rfl rfl ?_))
     refine b_nil (hK _ ?_)
     exact to_L ⟨(IntKind.wrap .i64 (a30.1 + 1), a65), (), h, rfl⟩
    refine AW.seq ?_
    refine AW.rgs rfl fun K hK => mv rfl rfl (mv rfl rfl (bv rfl (v_bin rfl rfl b_leq) ?_))
    refine bf hK ⟨[(2, hI p2), (3, gF p0), (7, slE (eSl eInt) x1.1), (9, hI ((p1).length : Int)), (10, hI (IntKind.wrap .i64 ((IntKind.wrap .i64 (p0.2.1 * (IntKind.wrap .i64 (((p1).length : Int) + 1)))) * 2))), (14, .ar 68075 w25 (eSl eBool).k 0 ((a24.2).length)), (15, hI a24.1), (16, .ar 68082 v28 eBool.k 0 ((a37.2).length)), (17, hI a30.1), (18, .ptr 68018 v36 0), (19, hI a37.1), (97, .bool (decide (a37.1 ≤ ((p1).length : Int))))], [(68018, v36, .arr 3 44 [hI x34.1, hI x34.2.1, hI x34.2.2]), (68075, w25, .arr (eSl eBool).k 103 ((eSl eBool).E a24.2)), (68082, v28, .arr eBool.k 4 (eBool.E a37.2))]⟩ ?_
    refine AW.cond rfl (fun hc => ?_) (fun hc => ?_)
    ·obtain ⟨hc, h⟩ := cT hc h
     refine AW.skip ?_
     refine AW.seq (AW.block ?_)
     refine AW.dgs 9 follows rfl rfl fun K hK => ?_
     refine sm rfl rfl ?_
     refine sm rfl rfl ?_
     obtain ⟨x41, h42, h⟩ := bS h
     refine sv rfl (v_idxF ty130 es130 rfl rfl (idx_lt h42)) ?_
     refine sv rfl (v_loadF ty55 rfl (l_cell (eSl eInt) h42 (o := 0) rfl rfl)) ?_
     refine sv rfl (v_fieldAddrP fo44_1 rfl rfl) ?_
     refine sv rfl (v_loadP ty3 rfl rfl (l_lit rfl rfl)) ?_
     obtain ⟨x43, h44, h⟩ := bS h
     refine sv rfl (v_idxF ty55 es55 rfl rfl (idx_lt h44)) ?_
     refine sv rfl (v_loadF ty3 rfl (l_cell eInt h44 (o := 0) rfl rfl)) ?_
     refine sm rfl rfl ?_
     refine s_nil ?_
     refine bf hK ⟨[(2, hI p2), (3, gF p0), (7, slE (eSl eInt) x1.1), (9, hI ((p1).length : Int)), (10, hI (IntKind.wrap .i64 ((IntKind.wrap .i64 (p0.2.1 * (IntKind.wrap .i64 (((p1).length : Int) + 1)))) * 2))), (14, .ar 68075 w25 (eSl eBool).k 0 ((a24.2).length)), (15, hI a24.1), (16, .ar 68082 v28 eBool.k 0 ((a37.2).length)), (17, hI a30.1), (18, .ptr 68018 v36 0), (19, hI a37.1), (20, hI x43)], [(68018, v36, .arr 3 44 [hI x34.1, hI x34.2.1, hI x34.2.2]), (68075, w25, .arr (eSl eBool).k 103 ((eSl eBool).E a24.2)), (68082, v28, .arr eBool.k 4 (eBool.E a37.2))]⟩ ?_
     refine AW.rgs rfl fun K hK => mv rfl rfl ?_
     refine bf hK ⟨[(2, hI p2), (3, gF p0), (7, slE (eSl eInt) x1.1), (9, hI ((p1).length : Int)), (10, hI (IntKind.wrap .i64 ((IntKind.wrap .i64 (p0.2.1 * (IntKind.wrap .i64 (((p1).length : Int) + 1)))) * 2))), (14, .ar 68075 w25 (eSl eBool).k 0 ((a24.2).length)), (15, hI a24.1), (16, .ar 68082 v28 eBool.k 0 ((a37.2).length)), (17, hI a30.1), (18, .ptr 68018 v36 0), (19, hI a37.1), (20, hI x43), (21, hI 0)], [(68018, v36, .arr 3 44 [hI x34.1, hI x34.2.1, hI x34.2.2]), (68075, w25, .arr (eSl eBool).k 103 ((eSl eBool).E a24.2)), (68082, v28, .arr eBool.k 4 (eBool.E a37.2))]⟩ ?_
     refine AW.lpX h (by first | exact up_then | exact up_to) (S := Int × (List Bool)) (V := Unit) (fun a v => ⟨[(2, hI p2), (3, gF p0), (7, slE (eSl eInt) x1.1), (9, hI ((p1).length : Int)), (10, hI (IntKind.wrap .i64 ((IntKind.wrap .i64 (p0.2.1 * (IntKind.wrap .i64 (((p1).length : Int) + 1)))) * 2))), (14, .ar 68075 w25 (eSl eBool).k 0 ((a24.2).length)), (15, hI a24.1), (16, .ar 68082 v28 eBool.k 0 ((a.2).length)), (17, hI a30.1), (18, .ptr 68018 v36 0), (19, hI a37.1), (20, hI x43), (21, hI a.1)], [(68018, v36, .arr 3 44 [hI x34.1, hI x34.2.1, hI x34.2.2]), (68075, w25, .arr (eSl eBool).k 103 ((eSl eBool).E a24.2)), (68082, v28, .arr eBool.k 4 (eBool.E a.2))]⟩) ?_ (X := (List Bool)) (W := Unit) (fun a v => ⟨[(2, hI p2), (3, gF p0), (7, slE (eSl eInt) x1.1), (9, hI ((p1).length : Int)), (10, hI (IntKind.wrap .i64 ((IntKind.wrap .i64 (p0.2.1 * (IntKind.wrap .i64 (((p1).length : Int) + 1)))) * 2))), (14, .ar 68075 w25 (eSl eBool).k 0 ((a24.2).length)), (15, hI a24.1), (16, .ar 68082 v28 eBool.k 0 ((a).length)), (17, hI a30.1), (18, .ptr 68018 v36 0), (19, hI a37.1)], [(68018, v36, .arr 3 44 [hI x34.1, hI x34.2.1, hI x34.2.2]), (68075, w25, .arr (eSl eBool).k 103 ((eSl eBool).E a24.2)), (68082, v28, .arr eBool.k 4 (eBool.E a))]⟩) (fun a63 w64 h => ?_) (fun a45 w46 st47 h => ?_)
     ·exact to_L ⟨(), rfl⟩
     ·refine AW.rg rfl fun K hK => mv rfl rfl (bv rfl (v_bin rfl rfl b_add) (mv rfl rfl ?_))
      refine b_nil (hK _ ?_)
      exact to_L ⟨(IntKind.wrap .i64 (a37.1 + 1), a63), (), h, rfl⟩
     refine AW.seq ?_
     refine AW.rgs rfl fun K hK => mv rfl rfl (bv rfl (v_bin rfl rfl b_lss) ?_)
     refine bf hK ⟨[(2, hI p2), (3, gF p0), (7, slE (eSl eInt) x1.1), (9, hI ((p1).length : Int)), (10, hI (IntKind.wrap .i64 ((IntKind.wrap .i64 (p0.2.1 * (IntKind.wrap .i64 (((p1).length : Int) + 1)))) * 2))), (14, .ar 68075 w25 (eSl eBool).k 0 ((a24.2).length)), (15, hI a24.1), (16, .ar 68082 v28 eBool.k 0 ((a45.2).length)), (17, hI a30.1), (18, .ptr 68018 v36 0), (19, hI a37.1), (20, hI x43), (21, hI a45.1), (109, .bool (decide (a45.1 < 2)))], [(68018, v36, .arr 3 44 [hI x34.1, hI x34.2.1, hI x34.2.2]), (68075, w25, .arr (eSl eBool).k 103 ((eSl eBool).E a24.2)), (68082, v28, .arr eBool.k 4 (eBool.E a45.2))]⟩ ?_
     refine AW.cond rfl (fun hc => ?_) (fun hc => ?_)
     ·obtain ⟨hc, h⟩ := cT hc h
      refine AW.skip ?_
      refine AW.seqJ h (S := (List Bool)) (V := Unit) (fun a v => ⟨[(2, hI p2), (3, gF p0), (7, slE (eSl eInt) x1.1), (9, hI ((p1).length : Int)), (10, hI (IntKind.wrap .i64 ((IntKind.wrap .i64 (p0.2.1 * (IntKind.wrap .i64 (((p1).length : Int) + 1)))) * 2))), (14, .ar 68075 w25 (eSl eBool).k 0 ((a24.2).length)), (15, hI a24.1), (16, .ar 68082 v28 eBool.k 0 ((a).length)), (17, hI a30.1), (18, .ptr 68018 v36 0), (19, hI a37.1), (20, hI x43), (21, hI a45.1)], [(68018, v36, .arr 3 44 [hI x34.1, hI x34.2.1, hI x34.2.2]), (68075, w25, .arr (eSl eBool).k 103 ((eSl eBool).E a24.2)), (68082, v28, .arr eBool.k 4 (eBool.E a))]⟩) (fun a49 w50 h => ?_) (fun k51 h => ?_)
      ·refine AW.rg rfl fun K hK => mv rfl rfl (bv rfl (v_bin rfl rfl b_add) (mv rfl rfl ?_))
       refine b_nil (hK _ ?_)
       exact to_L ⟨(IntKind.wrap .i64 (a45.1 + 1), a49), (), h, rfl⟩
      refine AW.block ?_
      refine AW.rgs rfl fun K hK => mv rfl rfl (mv rfl rfl ?_)
      refine bf hK ⟨[(2, hI p2), (3, gF p0), (7, slE (eSl eInt) x1.1), (9, hI ((p1).length : Int)), (10, hI (IntKind.wrap .i64 ((IntKind.wrap .i64 (p0.2.1 * (IntKind.wrap .i64 (((p1).length : Int) + 1)))) * 2))), (14, .ar 68075 w25 (eSl eBool).k 0 ((a24.2).length)), (15, hI a24.1), (16, .ar 68082 v28 eBool.k 0 ((a45.2).length)), (17, hI a30.1), (18, .ptr 68018 v36 0), (19, hI a37.1), (20, hI x43), (21, hI a45.1), (22, hI a45.1)], [(68018, v36, .arr 3 44 [hI x34.1, hI x34.2.1, hI x34.2.2]), (68075, w25, .arr (eSl eBool).k 103 ((eSl eBool).E a24.2)), (68082, v28, .arr eBool.k 4 (eBool.E a45.2))]⟩ ?_
      refine AW.seq ?_
      refine AW.rgs rfl fun K hK => mv rfl rfl (mv rfl rfl (bv rfl (v_bin rfl rfl b_eql) ?_))
      refine bf hK ⟨[(2, hI p2), (3, gF p0), (7, slE (eSl eInt) x1.1), (9, hI ((p1).length : Int)), (10, hI (IntKind.wrap .i64 ((IntKind.wrap .i64 (p0.2.1 * (IntKind.wrap .i64 (((p1).length : Int) + 1)))) * 2))), (14, .ar 68075 w25 (eSl eBool).k 0 ((a24.2).length)), (15, hI a24.1), (16, .ar 68082 v28 eBool.k 0 ((a45.2).length)), (17, hI a30.1), (18, .ptr 68018 v36 0), (19, hI a37.1), (20, hI x43), (21, hI a45.1), (22, hI a45.1), (115, .bool (decide (x43 = ((p1).length : Int))))], [(68018, v36, .arr 3 44 [hI x34.1, hI x34.2.1, hI x34.2.2]), (68075, w25, .arr (eSl eBool).k 103 ((eSl eBool).E a24.2)), (68082, v28, .arr eBool.k 4 (eBool.E a45.2))]⟩ ?_
      refine AW.lastJ h (by first | exact up_then | exact up_to) (S := Int) (V := Unit) (fun a v => ⟨[(2, hI p2), (3, gF p0), (7, slE (eSl eInt) x1.1), (9, hI ((p1).length : Int)), (10, hI (IntKind.wrap .i64 ((IntKind.wrap .i64 (p0.2.1 * (IntKind.wrap .i64 (((p1).length : Int) + 1)))) * 2))), (14, .ar 68075 w25 (eSl eBool).k 0 ((a24.2).length)), (15, hI a24.1), (16, .ar 68082 v28 eBool.k 0 ((a45.2).length)), (17, hI a30.1), (18, .ptr 68018 v36 0), (19, hI a37.1), (20, hI x43), (21, hI a45.1), (22, hI a)], [(68018, v36, .arr 3 44 [hI x34.1, hI x34.2.1, hI x34.2.2]), (68075, w25, .arr (eSl eBool).k 103 ((eSl eBool).E a24.2)), (68082, v28, .arr eBool.k 4 (eBool.E a45.2))]⟩) (fun a52 w53 h => ?_) (fun k54 h => ?_)
      ·refine AW.dgs 16 follows rfl rfl fun K hK => ?_
       refine sm rfl rfl ?_
       refine sm rfl rfl ?_
       obtain ⟨x55, h56, h⟩ := bS h
       refine sv rfl (v_idxA ty101 es101 rfl rfl (idx_lt h56) rfl) ?_
       obtain ⟨x57, h58, h⟩ := bS h
       refine sv rfl (v_loadP ty103 rfl rfl (l_cell (eSl eBool) h58 (o := 0) rfl rfl)) ?_
       refine sv rfl (v_fieldAddrP fo44_2 rfl rfl) ?_
       refine sv rfl (v_loadP ty3 rfl rfl (l_lit rfl rfl)) ?_
       refine sm rfl rfl ?_
       refine sv rfl (v_bin rfl rfl b_add) ?_
       refine sv rfl (v_bin rfl rfl b_mul) ?_
       refine sm rfl rfl ?_
       refine sv rfl (v_bin rfl rfl b_add) ?_
       refine sv rfl (v_bin rfl rfl b_mul) ?_
       refine sm rfl rfl ?_
       refine sv rfl (v_bin rfl rfl b_add) ?_
       obtain ⟨x59, h60, h⟩ := bS h
       refine sv rfl (v_idxF ty103 es103 rfl rfl (idx_lt h60)) ?_
       refine sv rfl (v_loadF ty4 rfl (l_cell eBool h60 (o := 0) rfl rfl)) ?_
       refine s_nil ?_
       refine bf hK ⟨[(2, hI p2), (3, gF p0), (7, slE (eSl eInt) x1.1), (9, hI ((p1).length : Int)), (10, hI (IntKind.wrap .i64 ((IntKind.wrap .i64 (p0.2.1 * (IntKind.wrap .i64 (((p1).length : Int) + 1)))) * 2))), (14, .ar 68075 w25 (eSl eBool).k 0 ((a24.2).length)), (15, hI a24.1), (16, .ar 68082 v28 eBool.k 0 ((a45.2).length)), (17, hI a30.1), (18, .ptr 68018 v36 0), (19, hI a37.1), (20, hI x43), (21, hI a45.1), (131, .bool x59)], [(68018, v36, .arr 3 44 [hI x34.1, hI x34.2.1, hI x34.2.2]), (68075, w25, .arr (eSl eBool).k 103 ((eSl eBool).E a24.2)), (68082, v28, .arr eBool.k 4 (eBool.E a45.2))]⟩ ?_
       refine AW.cond rfl (fun hc => ?_) (fun hc => ?_)
       ·have h := ifT hc h
        refine AW.rg rfl fun K hK => mv rfl rfl (bv rfl (v_fieldAddrP fo44_0 rfl rfl) (bv rfl (v_loadP ty3 rfl rfl (l_lit rfl rfl)) (mv rfl rfl (bv rfl (v_bin rfl rfl b_add) (bv rfl (v_bin rfl rfl b_mul) ?_)))))
        refine mv rfl rfl (bv rfl (v_bin rfl rfl b_add) (bv rfl (v_bin rfl rfl b_mul) (mv rfl rfl (bv rfl (v_bin rfl rfl b_add) ?_))))
        obtain ⟨x61, h62, h⟩ := bS h
        refine bv rfl (v_idxA ty103 es103 rfl rfl (idx_lt h62) rfl) ?_
        refine b_op rfl (o_storeE eBool (l := a45.2) (j := (IntKind.wrap .i64 ((IntKind.wrap .i64 ((IntKind.wrap .i64 ((IntKind.wrap .i64 (x34.1 * (IntKind.wrap .i64 (((p1).length : Int) + 1)))) + a37.1)) * 2)) + a45.1))) (v := true) rfl rfl rfl ty4 rfl rfl rfl (idx_lt h62) ?_)
        refine b_nil (hK _ ?_)
        exact to_le (s' := ⟨[(2, hI p2), (3, gF p0), (7, slE (eSl eInt) x1.1), (9, hI ((p1).length : Int)), (10, hI (IntKind.wrap .i64 ((IntKind.wrap .i64 (p0.2.1 * (IntKind.wrap .i64 (((p1).length : Int) + 1)))) * 2))), (14, .ar 68075 w25 (eSl eBool).k 0 ((a24.2).length)), (15, hI a24.1), (16, .ar 68082 v28 eBool.k 0 (((a45.2).set (IntKind.wrap .i64 ((IntKind.wrap .i64 ((IntKind.wrap .i64 ((IntKind.wrap .i64 (x34.1 * (IntKind.wrap .i64 (((p1).length : Int) + 1)))) + a37.1)) * 2)) + a45.1)).toNat true).length)), (17, hI a30.1), (18, .ptr 68018 v36 0), (19, hI a37.1), (20, hI x43), (21, hI a45.1)], [(68018, v36, .arr 3 44 [hI x34.1, hI x34.2.1, hI x34.2.2]), (68075, w25, .arr (eSl eBool).k 103 ((eSl eBool).E a24.2)), (68082, v28, .arr eBool.k 4 (eBool.E ((a45.2).set (IntKind.wrap .i64 ((IntKind.wrap .i64 ((IntKind.wrap .i64 ((IntKind.wrap .i64 (x34.1 * (IntKind.wrap .i64 (((p1).length : Int) + 1)))) + a37.1)) * 2)) + a45.1)).toNat true)))]⟩) (AS.le_of ⟨rfl, rfl, rfl, rfl, rfl, rfl, rfl, arl (by first | rfl | simp only [List.length_set, sortI_len, sortS_len]), rfl, rfl, rfl, rfl, rfl, trivial⟩ ⟨rfl, rfl, rfl, trivial⟩) ⟨(a45.2).set (IntKind.wrap .i64 ((IntKind.wrap .i64 ((IntKind.wrap .i64 ((IntKind.wrap .i64 (x34.1 * (IntKind.wrap .i64 (((p1).length : Int) + 1)))) + a37.1)) * 2)) + a45.1)).toNat true, (), h, rfl⟩
       have h := ifF (bF' hc) h
       refine AW.skip ?_
       exact to_L ⟨a45.2, (), h, rfl⟩
      refine AW.cond rfl (fun hc => ?_) (fun hc => ?_)
      ·obtain ⟨hc, h⟩ := cT hc h
       refine AW.rg rfl fun K hK => mv rfl rfl ?_
       refine b_nil (hK _ ?_)
       exact to_L ⟨1, (), h, rfl⟩
      obtain ⟨hc, h⟩ := cF hc h
      refine AW.skip ?_
      exact to_L ⟨a45.1, (), h, rfl⟩
     obtain ⟨hc, h⟩ := cF hc h
     refine AW.exit ?_
     exact to_L ⟨a45.2, (), h, rfl⟩
    obtain ⟨hc, h⟩ := cF hc h
    refine AW.exit ?_
    exact to_L ⟨a37.2, (), h, rfl⟩
   obtain ⟨hc, h⟩ := cF hc h
   refine AW.exit ?_
   exact to_L ⟨a30.2, (), h, rfl⟩
  obtain ⟨hc, h⟩ := cF hc h
  refine AW.exit ?_
  exact to_L ⟨a24.2, w25, h, rfl⟩
 refine AW.seq ?_
 refine AW.rgs rfl fun K hK => mv rfl rfl (bv rfl (v_fieldAddrF fo24_1 rfl) (bv rfl (v_loadF ty3 rfl (l_lit rfl rfl)) (bv rfl (v_bin rfl rfl b_lss) ?_)))
 refine bf hK ⟨[(2, hI p2), (3, gF p0), (7, slE (eSl eInt) x1.1), (8, slE eBool x1.2), (9, hI ((p1).length : Int)), (10, hI (IntKind.wrap .i64 ((IntKind.wrap .i64 (p0.2.1 * (IntKind.wrap .i64 (((p1).length : Int) + 1)))) * 2))), (11, .ar 68039 v3 eBool.k 0 ((a5.2).length)), (12, hI a5.1), (43, .bool (decide (a5.1 < p0.2.1)))], [(68039, v3, .arr eBool.k 4 (eBool.E a5.2))]⟩ ?_
 refine AW.cond rfl (fun hc => ?_) (fun hc => ?_)
 ·obtain ⟨hc, h⟩ := cT hc h
  refine AW.skip ?_
  refine AW.seq (AW.block ?_)
  refine AW.rgs rfl fun K hK => mv rfl rfl ?_
  refine bf hK ⟨[(2, hI p2), (3, gF p0), (7, slE (eSl eInt) x1.1), (8, slE eBool x1.2), (9, hI ((p1).length : Int)), (10, hI (IntKind.wrap .i64 ((IntKind.wrap .i64 (p0.2.1 * (IntKind.wrap .i64 (((p1).length : Int) + 1)))) * 2))), (11, .ar 68039 v3 eBool.k 0 ((a5.2).length)), (12, hI a5.1), (13, hI 0)], [(68039, v3, .arr eBool.k 4 (eBool.E a5.2))]⟩ ?_
  refine AW.lpX h (by first | exact up_then | exact up_to) (S := Int × (List Bool)) (V := Unit) (fun a v => ⟨[(2, hI p2), (3, gF p0), (7, slE (eSl eInt) x1.1), (8, slE eBool x1.2), (9, hI ((p1).length : Int)), (10, hI (IntKind.wrap .i64 ((IntKind.wrap .i64 (p0.2.1 * (IntKind.wrap .i64 (((p1).length : Int) + 1)))) * 2))), (11, .ar 68039 v3 eBool.k 0 ((a.2).length)), (12, hI a5.1), (13, hI a.1)], [(68039, v3, .arr eBool.k 4 (eBool.E a.2))]⟩) ?_ (X := (List Bool)) (W := Unit) (fun a v => ⟨[(2, hI p2), (3, gF p0), (7, slE (eSl eInt) x1.1), (8, slE eBool x1.2), (9, hI ((p1).length : Int)), (10, hI (IntKind.wrap .i64 ((IntKind.wrap .i64 (p0.2.1 * (IntKind.wrap .i64 (((p1).length : Int) + 1)))) * 2))), (11, .ar 68039 v3 eBool.k 0 ((a).length)), (12, hI a5.1)], [(68039, v3, .arr eBool.k 4 (eBool.E a))]⟩) (fun a19 w20 h => ?_) (fun a9 w10 st11 h => ?_)
  ·exact to_L ⟨(), rfl⟩
  ·refine AW.rg rfl fun K hK => mv rfl rfl (bv rfl (v_bin rfl rfl b_add) (mv rfl rfl ?_))
   refine b_nil (hK _ ?_)
   exact to_L ⟨(IntKind.wrap .i64 (a5.1 + 1), a19), (), h, rfl⟩
  refine AW.seq ?_
  refine AW.rgs rfl fun K hK => mv rfl rfl (mv rfl rfl (bv rfl (v_bin rfl rfl b_leq) ?_))
  refine bf hK ⟨[(2, hI p2), (3, gF p0), (7, slE (eSl eInt) x1.1), (8, slE eBool x1.2), (9, hI ((p1).length : Int)), (10, hI (IntKind.wrap .i64 ((IntKind.wrap .i64 (p0.2.1 * (IntKind.wrap .i64 (((p1).length : Int) + 1)))) * 2))), (11, .ar 68039 v3 eBool.k 0 ((a9.2).length)), (12, hI a5.1), (13, hI a9.1), (48, .bool (decide (a9.1 ≤ ((p1).length : Int))))], [(68039, v3, .arr eBool.k 4 (eBool.E a9.2))]⟩ ?_
  refine AW.cond rfl (fun hc => ?_) (fun hc => ?_)
  ·obtain ⟨hc, h⟩ := cT hc h
   refine AW.skip ?_
   refine AW.seq (AW.block ?_)
   refine AW.rg rfl fun K hK => mv rfl rfl (mv rfl rfl (mv rfl rfl (bv rfl (v_bin rfl rfl b_add) (bv rfl (v_bin rfl rfl b_mul) (mv rfl rfl ?_)))))
   refine bv rfl (v_bin rfl rfl b_add) (bv rfl (v_bin rfl rfl b_mul) (mv rfl rfl (mv rfl rfl (mv rfl rfl (bv rfl (v_bin rfl rfl b_add) ?_)))))
   refine bv rfl (v_bin rfl rfl b_mul) (mv rfl rfl (bv rfl (v_bin rfl rfl b_add) (bv rfl (v_bin rfl rfl b_mul) (bv rfl (v_bin rfl rfl b_add) (mv rfl rfl ?_)))))
   refine mv rfl rfl ?_
   obtain ⟨x13, h14, h⟩ := bS h
   refine bv rfl (v_idxF ty103 es103 rfl rfl (idx_lt h14)) (bv rfl (v_loadF ty4 rfl (l_cell eBool h14 (o := 0) rfl rfl)) ?_)
   obtain ⟨x15, h16, h⟩ := bS h
   refine bv rfl (v_idxA ty103 es103 rfl rfl (idx_lt h16) rfl) ?_
   refine b_op rfl (o_storeE eBool (l := a9.2) (j := (IntKind.wrap .i64 ((IntKind.wrap .i64 ((IntKind.wrap .i64 (a5.1 * (IntKind.wrap .i64 (((p1).length : Int) + 1)))) + a9.1)) * 2))) (v := x13) rfl rfl rfl ty4 rfl rfl rfl (idx_lt h16) ?_)
   obtain ⟨x17, h18, h⟩ := bS h
   refine bv rfl (v_idxA ty103 es103 rfl rfl (by simpa only [List.length_set] using idx_lt h18) rfl) ?_
   refine b_op rfl (o_storeE eBool (l := ((a9.2).set (IntKind.wrap .i64 ((IntKind.wrap .i64 ((IntKind.wrap .i64 (a5.1 * (IntKind.wrap .i64 (((p1).length : Int) + 1)))) + a9.1)) * 2)).toNat x13)) (j := (IntKind.wrap .i64 ((IntKind.wrap .i64 ((IntKind.wrap .i64 ((IntKind.wrap .i64 (a5.1 * (IntKind.wrap .i64 (((p1).length : Int) + 1)))) + a9.1)) * 2)) + 1))) (v := true) rfl rfl rfl ty4 rfl rfl rfl (idx_lt h18) ?_)
   refine b_fin hK (s' := ⟨[(2, hI p2), (3, gF p0), (7, slE (eSl eInt) x1.1), (8, slE eBool x1.2), (9, hI ((p1).length : Int)), (10, hI (IntKind.wrap .i64 ((IntKind.wrap .i64 (p0.2.1 * (IntKind.wrap .i64 (((p1).length : Int) + 1)))) * 2))), (11, .ar 68039 v3 eBool.k 0 ((((a9.2).set (IntKind.wrap .i64 ((IntKind.wrap .i64 ((IntKind.wrap .i64 (a5.1 * (IntKind.wrap .i64 (((p1).length : Int) + 1)))) + a9.1)) * 2)).toNat x13).set (IntKind.wrap .i64 ((IntKind.wrap .i64 ((IntKind.wrap .i64 ((IntKind.wrap .i64 (a5.1 * (IntKind.wrap .i64 (((p1).length : Int) + 1)))) + a9.1)) * 2)) + 1)).toNat true).length)), (12, hI a5.1), (13, hI a9.1)], [(68039, v3, .arr eBool.k 4 (eBool.E (((a9.2).set (IntKind.wrap .i64 ((IntKind.wrap .i64 ((IntKind.wrap .i64 (a5.1 * (IntKind.wrap .i64 (((p1).length : Int) + 1)))) + a9.1)) * 2)).toNat x13).set (IntKind.wrap .i64 ((IntKind.wrap .i64 ((IntKind.wrap .i64 ((IntKind.wrap .i64 (a5.1 * (IntKind.wrap .i64 (((p1).length : Int) + 1)))) + a9.1)) * 2)) + 1)).toNat true)))]⟩) (AS.le_of ⟨rfl, rfl, rfl, rfl, rfl, rfl, arl (by first | rfl | simp only [List.length_set, sortI_len, sortS_len]), rfl, rfl, trivial⟩ ⟨rfl, trivial⟩) ?_
   refine AW.rg rfl fun K hK => mv rfl rfl (bv rfl (v_bin rfl rfl b_add) (mv rfl rfl ?_))
   refine b_nil (hK _ ?_)
   exact to_L ⟨(IntKind.wrap .i64 (a9.1 + 1), ((a9.2).set (IntKind.wrap .i64 ((IntKind.wrap .i64 ((IntKind.wrap .i64 (a5.1 * (IntKind.wrap .i64 (((p1).length : Int) + 1)))) + a9.1)) * 2)).toNat x13).set (IntKind.wrap .i64 ((IntKind.wrap .i64 ((IntKind.wrap .i64 ((IntKind.wrap .i64 (a5.1 * (IntKind.wrap .i64 (((p1).length : Int) + 1)))) + a9.1)) * 2)) + 1)).toNat true), (), h, rfl⟩
  obtain ⟨hc, h⟩ := cF hc h
  refine AW.exit ?_
  exact to_L ⟨a9.2, (), h, rfl⟩
 obtain ⟨hc, h⟩ := cF hc h
 refine AW.exit ?_
 exact to_L ⟨a5.2, (), h, rfl⟩
theorem w_ref54_Valid {p0 : TLabelsStatesEdges} {p1 : List UInt8} {p2 : Int} {r : Bool × Int} (h : m_ref54_Valid p0 p1 p2 = some r) : Pure Tryz.prog 43 [gA p0, .str p1, hI p2] (· = HV.tup [.bool r.1, hI r.2]) := by
 unfold m_ref54_Valid at h
 refine Pure.of_body Tryz.func43 rfl rfl (lb rfl) fun hf => ?_
 unfold Tryz.f43
 dsimp only [enumS, Nat.reduceAdd]
 refine AW.rgs rfl fun K hK => b_op rfl (o_box rfl rfl rfl ?_)
 refine mv rfl rfl (mv rfl rfl ?_)
 refine bf hK ⟨[(1, .str p1), (2, hI p2), (3, gF p0)], []⟩ ?_
 refine AW.seq ?_
 refine AW.rgs rfl fun K hK => bv rfl (v_loadF ty24 rfl (l_litA rfl (lb rfl) rfl)) (mv rfl rfl ?_)
 obtain ⟨x1, h2, h⟩ := bS h
 refine b_op rfl (o_call rfl rfl rfl rfl (ACallD.pure0 (w_ref54_check h2)) ?_)
 refine mv rfl rfl ?_
 refine bf hK ⟨[(1, .str p1), (2, hI p2), (3, gF p0), (8, hI x1)], []⟩ ?_
 refine AW.rgs rfl fun K hK => mv rfl rfl (bv rfl (v_bin rfl rfl b_neq) ?_)
 refine bf hK ⟨[(1, .str p1), (2, hI p2), (3, gF p0), (8, hI x1), (15, .bool (decide (x1 ≠ 0)))], []⟩ ?_
 refine AW.cond rfl (fun hc => ?_) (fun hc => ?_)
 ·obtain ⟨hc, h⟩ := cT hc h
  refine AW.rgs rfl fun K hK => mv rfl rfl (mv rfl rfl (mv rfl rfl ?_))
  refine bf hK ⟨[(6, .bool false), (7, hI x1)], []⟩ ?_
  refine AW.ret ?_
  have h := Option.some.inj h
  subst h
  exact ret_pure (hs := [.bool false, hI x1]) (.inr rfl) (resT rfl (resT rfl rfl)) rfl ⟨trivial, trivial, trivial⟩
 obtain ⟨hc, h⟩ := cF hc h
 refine AW.skip ?_
 refine AW.seq ?_
 refine AW.seqJ h (S := Bool) (V := Unit) (fun a v => ⟨[(1, .str p1), (2, hI p2), (3, gF p0), (22, .bool a)], []⟩) (fun a3 w4 h => ?_) (fun k5 h => ?_)
 ·refine AW.cond rfl (fun hc => ?_) (fun hc => ?_)
  ·have h := ifT hc h
   refine AW.rgs rfl fun K hK => mv rfl rfl (mv rfl rfl ?_)
   refine bf hK ⟨[(6, .bool false), (7, hI 2)], []⟩ ?_
   refine AW.ret ?_
   have h := Option.some.inj h
   subst h
   exact ret_pure (hs := [.bool false, hI 2]) (.inr rfl) (resT rfl (resT rfl rfl)) rfl ⟨trivial, trivial, trivial⟩
  have h := ifF (bF' hc) h
  refine AW.skip ?_
  refine AW.rgs rfl fun K hK => bv rfl (v_loadF ty24 rfl (l_litA rfl (lb rfl) rfl)) (mv rfl rfl (mv rfl rfl ?_))
  obtain ⟨x6, h7, h⟩ := bS h
  refine b_op rfl (o_call rfl rfl rfl rfl (ACallD.pure0 (w_ref54_can h7)) ?_)
  refine mv rfl rfl ?_
  refine bf hK ⟨[(1, .str p1), (2, hI p2), (3, gF p0), (9, slE (eSl eBool) x6)], []⟩ ?_
  refine AW.seq ?_
  refine AW.rgs rfl fun K hK => mv rfl rfl ?_
  refine bf hK ⟨[(1, .str p1), (2, hI p2), (3, gF p0), (9, slE (eSl eBool) x6), (10, hI 0)], []⟩ ?_
  refine AW.lpR h (by first | exact up_then | exact up_to) (S := Int) (V := Unit) (fun a v => ⟨[(1, .str p1), (2, hI p2), (3, gF p0), (9, slE (eSl eBool) x6), (10, hI a)], []⟩) ?_ (X := Unit) (W := Unit) (fun a v => ⟨[], []⟩) (fun a16 w17 h => ?_) (fun a8 w9 st10 h hr11=> ?_)
  ·exact to_L ⟨(), rfl⟩
  ·refine AW.rgs rfl fun K hK => mv rfl rfl (mv rfl rfl ?_)
   refine bf hK ⟨[(6, .bool true), (7, hI 0)], []⟩ ?_
   refine AW.ret ?_
   have h := Option.some.inj h
   subst h
   exact ret_pure (hs := [.bool true, hI 0]) (.inr rfl) (resT rfl (resT rfl rfl)) rfl ⟨trivial, trivial, trivial⟩
  refine AW.seq ?_
  refine AW.rgs rfl fun K hK => mv rfl rfl (bv rfl (v_fieldAddrF fo24_1 rfl) (bv rfl (v_loadF ty3 rfl (l_lit rfl rfl)) (bv rfl (v_bin rfl rfl b_lss) ?_)))
  refine bf hK ⟨[(1, .str p1), (2, hI p2), (3, gF p0), (9, slE (eSl eBool) x6), (10, hI a8), (30, .bool (decide (a8 < p0.2.1)))], []⟩ ?_
  refine AW.cond rfl (fun hc => ?_) (fun hc => ?_)
  ·obtain ⟨hc, h⟩ := cT hc h
   refine AW.skip ?_
   refine AW.seq (AW.block ?_)
   refine AW.rgs rfl fun K hK => mv rfl rfl (mv rfl rfl ?_)
   obtain ⟨x12, h13, h⟩ := bS h
   refine bv rfl (v_idxF ty101 es101 rfl rfl (idx_lt h13)) (bv rfl (v_loadF ty103 rfl (l_cell (eSl eBool) h13 (o := 0) rfl rfl)) (mv rfl rfl (mv rfl rfl (bv rfl (v_lenS rfl rfl ty9 rfl) (bv rfl (v_bin rfl rfl b_add) ?_)))))
   refine bv rfl (v_bin rfl rfl b_mul) (mv rfl rfl (bv rfl (v_lenS rfl rfl ty9 rfl) (bv rfl (v_bin rfl rfl b_add) (bv rfl (v_bin rfl rfl b_mul) ?_))))
   obtain ⟨x14, h15, h⟩ := bS h
   refine bv rfl (v_idxF ty103 es103 rfl rfl (idx_lt h15)) (bv rfl (v_loadF ty4 rfl (l_cell eBool h15 (o := 0) rfl rfl)) ?_)
   refine bf hK ⟨[(1, .str p1), (2, hI p2), (3, gF p0), (9, slE (eSl eBool) x6), (10, hI a8), (47, .bool x14)], []⟩ ?_
   refine AW.cond rfl (fun hc => ?_) (fun hc => ?_)
   ·have h := ifT hc h
    refine AW.rgs rfl fun K hK => mv rfl rfl (mv rfl rfl ?_)
    refine bf hK ⟨[(6, .bool false), (7, hI 0)], []⟩ ?_
    have h := hr11 _ h
    refine AW.ret ?_
    have h := Option.some.inj h
    subst h
    exact ret_pure (hs := [.bool false, hI 0]) (.inr rfl) (resT rfl (resT rfl rfl)) rfl ⟨trivial, trivial, trivial⟩
   have h := ifF (bF' hc) h
   refine AW.skip ?_
   refine AW.rg rfl fun K hK => mv rfl rfl (bv rfl (v_bin rfl rfl b_add) (mv rfl rfl ?_))
   refine b_nil (hK _ ?_)
   exact to_L ⟨IntKind.wrap .i64 (a8 + 1), (), h, rfl⟩
  obtain ⟨hc, h⟩ := cF hc h
  refine AW.exit ?_
  exact to_L ⟨(), (), h, rfl⟩
 refine AW.rg rfl fun K hK => mv rfl rfl (bv rfl (v_bin rfl rfl b_lss) (mv rfl rfl ?_))
 by_cases hg18 : p2 < 0
 ·have h := ifT hg18 h
  refine b_F rfl rfl rfl rfl rfl (decide_eq_true hg18) ?_
  refine b_F rfl rfl rfl rfl rfl rfl ?_
  refine bv rfl (v_pickT rfl rfl rfl) ?_
  refine b_nil (hK _ ?_)
  exact to_L ⟨true, (), h, rfl⟩
 have h := ifF hg18 h
 refine b_T rfl rfl rfl rfl (decide_eq_false hg18) (o_val rfl (mv_val rfl rfl).2 ?_)
 refine b_T rfl rfl rfl rfl rfl (o_val rfl (v_bin rfl rfl b_gtr) ?_)
 refine bv rfl (v_pickF rfl rfl rfl) ?_
 refine b_nil (hK _ ?_)
 exact to_L ⟨decide (4096 < p2), (), h, rfl⟩
theorem w_ref54_Search {p0 : TLabelsStatesEdges} {p1 : Int} {p2 : Int} {p3 : Int} {r : (List UInt8) × Int} (h : m_ref54_Search p0 p1 p2 p3 = some r) : Pure Tryz.prog 24 [gA p0, hI p1, hI p2, hI p3] (· = HV.tup [.str r.1, hI r.2]) := by
 unfold m_ref54_Search at h
 refine Pure.of_body Tryz.func24 rfl rfl (lb rfl) fun hf => ?_
 unfold Tryz.f24
 dsimp only [enumS, Nat.reduceAdd]
 refine AW.rgs rfl fun K hK => b_op rfl (o_box rfl rfl rfl ?_)
 refine mv rfl rfl (mv rfl rfl ?_)
 refine bf hK ⟨[(1, hI p1), (2, hI p2), (3, hI p3), (4, gF p0)], []⟩ ?_
 refine AW.seq ?_
 refine AW.rgs rfl fun K hK => bv rfl (v_loadF ty24 rfl (l_litA rfl (lb rfl) rfl)) ?_
 obtain ⟨x1, h2, h⟩ := bS h
 refine b_op rfl (o_call rfl rfl rfl rfl (ACallD.pure0 (w_ref09_Check h2)) ?_)
 refine bv rfl (v_bin rfl rfl b_neq) ?_
 refine bf hK ⟨[(1, hI p1), (2, hI p2), (3, hI p3), (4, gF p0), (22, .bool (decide (x1 ≠ 0)))], []⟩ ?_
 refine AW.cond rfl (fun hc => ?_) (fun hc => ?_)
 ·obtain ⟨hc, h⟩ := cT hc h
  refine AW.rgs rfl fun K hK => mv rfl rfl (mv rfl rfl ?_)
  refine bf hK ⟨[(8, .str nS), (9, hI 1)], []⟩ ?_
  refine AW.ret ?_
  have h := Option.some.inj h
  subst h
  exact ret_pure (hs := [.str nS, hI 1]) (.inr rfl) (resT rfl (resT rfl rfl)) rfl ⟨trivial, trivial, trivial⟩
 obtain ⟨hc, h⟩ := cF hc h
 refine AW.skip ?_
 refine AW.seq ?_
 refine AW.rgs rfl fun K hK => bv rfl (v_fieldAddrF fo24_0 rfl) (bv rfl (v_loadF ty3 rfl (l_lit rfl rfl)) (bv rfl (v_bin rfl rfl b_gtr) ?_))
 refine bf hK ⟨[(1, hI p1), (2, hI p2), (3, hI p3), (4, gF p0), (25, .bool (decide (16 < p0.1)))], []⟩ ?_
 refine AW.cond rfl (fun hc => ?_) (fun hc => ?_)
 ·obtain ⟨hc, h⟩ := cT hc h
  refine AW.rgs rfl fun K hK => mv rfl rfl (mv rfl rfl ?_)
  refine bf hK ⟨[(8, .str nS), (9, hI 12)], []⟩ ?_
  refine AW.ret ?_
  have h := Option.some.inj h
  subst h
  exact ret_pure (hs := [.str nS, hI 12]) (.inr rfl) (resT rfl (resT rfl rfl)) rfl ⟨trivial, trivial, trivial⟩
 obtain ⟨hc, h⟩ := cF hc h
 refine AW.skip ?_
 refine AW.seq ?_
 refine AW.seqJ h (S := Bool) (V := Unit) (fun a v => ⟨[(1, hI p1), (2, hI p2), (3, hI p3), (4, gF p0), (40, .bool a)], []⟩) (fun a3 w4 h => ?_) (fun k5 h => ?_)
 ·refine AW.cond rfl (fun hc => ?_) (fun hc => ?_)
  ·have h := ifT hc h
   refine AW.rgs rfl fun K hK => mv rfl rfl (mv rfl rfl ?_)
   refine bf hK ⟨[(8, .str nS), (9, hI 2)], []⟩ ?_
   refine AW.ret ?_
   have h := Option.some.inj h
   subst h
   exact ret_pure (hs := [.str nS, hI 2]) (.inr rfl) (resT rfl (resT rfl rfl)) rfl ⟨trivial, trivial, trivial⟩
  have h := ifF (bF' hc) h
  refine AW.skip ?_
  refine AW.seq ?_
  refine AW.rgs rfl fun K hK => mv rfl rfl (bv rfl (v_bin rfl rfl b_gtr) ?_)
  refine bf hK ⟨[(1, hI p1), (2, hI p2), (3, hI p3), (4, gF p0), (42, .bool (decide (16 < p3)))], []⟩ ?_
  refine AW.cond rfl (fun hc => ?_) (fun hc => ?_)
  ·obtain ⟨hc, h⟩ := cT hc h
   refine AW.rgs rfl fun K hK => mv rfl rfl (mv rfl rfl ?_)
   refine bf hK ⟨[(8, .str nS), (9, hI 4)], []⟩ ?_
   refine AW.ret ?_
   have h := Option.some.inj h
   subst h
   exact ret_pure (hs := [.str nS, hI 4]) (.inr rfl) (resT rfl (resT rfl rfl)) rfl ⟨trivial, trivial, trivial⟩
  obtain ⟨hc, h⟩ := cF hc h
  refine AW.skip ?_
  refine AW.rgs rfl fun K hK => mv rfl rfl ?_
  refine bf hK ⟨[(1, hI p1), (2, hI p2), (3, hI p3), (4, gF p0), (10, hI 1)], []⟩ ?_
  refine AW.seq ?_
  refine AW.rgs rfl fun K hK => mv rfl rfl ?_
  refine bf hK ⟨[(1, hI p1), (2, hI p2), (3, hI p3), (4, gF p0), (10, hI 1), (11, hI 0)], []⟩ ?_
  refine AW.lpR h (by first | exact up_then | exact up_to) (S := Int × Int) (V := Unit) (fun a v => ⟨[(1, hI p1), (2, hI p2), (3, hI p3), (4, gF p0), (10, hI a.1), (11, hI a.2)], []⟩) ?_ (X := Unit) (W := Unit) (fun a v => ⟨[(1, hI p1), (2, hI p2), (3, hI p3), (4, gF p0)], []⟩) (fun a10 w11 h => ?_) (fun a6 w7 st8 h hr9=> ?_)
  ·exact to_L ⟨(), rfl⟩
  ·refine AW.rgs rfl fun K hK => b_op rfl (o_bsl rfl rfl (as_of (cs := [.str nS]) ty27 ty9 rfl rfl rfl rfl rfl) ?_)
   refine mv rfl rfl ?_
   refine bf hK ⟨[(1, hI p1), (2, hI p2), (3, hI p3), (4, gF p0), (12, slE eStr [nS])], []⟩ ?_
   refine AW.seq ?_
   refine AW.rgs rfl fun K hK => mv rfl rfl ?_
   refine bf hK ⟨[(1, hI p1), (2, hI p2), (3, hI p3), (4, gF p0), (12, slE eStr [nS]), (13, hI 1)], []⟩ ?_
   refine AW.lpR h (by first | exact up_then | exact up_to) (S := (List (List UInt8)) × Int) (V := Unit) (fun a v => ⟨[(1, hI p1), (2, hI p2), (3, hI p3), (4, gF p0), (12, slE eStr a.1), (13, hI a.2)], []⟩) ?_ (X := Unit) (W := Unit) (fun a v => ⟨[], []⟩) (fun a40 w41 h => ?_) (fun a12 w13 st14 h hr15=> ?_)
   ·exact to_L ⟨(), rfl⟩
   ·refine AW.rgs rfl fun K hK => mv rfl rfl (mv rfl rfl ?_)
    refine bf hK ⟨[(8, .str nS), (9, hI 20)], []⟩ ?_
    refine AW.ret ?_
    have h := Option.some.inj h
    subst h
    exact ret_pure (hs := [.str nS, hI 20]) (.inr rfl) (resT rfl (resT rfl rfl)) rfl ⟨trivial, trivial, trivial⟩
   refine AW.seq ?_
   refine AW.rgs rfl fun K hK => mv rfl rfl (mv rfl rfl (bv rfl (v_bin rfl rfl b_leq) ?_))
   refine bf hK ⟨[(1, hI p1), (2, hI p2), (3, hI p3), (4, gF p0), (12, slE eStr a12.1), (13, hI a12.2), (57, .bool (decide (a12.2 ≤ p3)))], []⟩ ?_
   refine AW.cond rfl (fun hc => ?_) (fun hc => ?_)
   ·obtain ⟨hc, h⟩ := cT hc h
    refine AW.skip ?_
    refine AW.seq (AW.block ?_)
    refine AW.rgs rfl fun K hK => b_op rfl (o_bslM (fid := 24) 24060 rfl rfl rfl (as_of (cs := []) ty27 ty9 rfl rfl rfl rfl rfl) (fun v16 => ?_))
    refine mv rfl rfl ?_
    refine bf hK ⟨[(1, hI p1), (2, hI p2), (3, hI p3), (4, gF p0), (12, slE eStr a12.1), (13, hI a12.2), (14, .ar 24060 v16 eStr.k 0 0)], [(24060, v16, .arr eStr.k 9 [])]⟩ ?_
    refine AW.seq ?_
    refine AW.rgs rfl fun K hK => mv rfl rfl ?_
    refine bf hK ⟨[(1, hI p1), (2, hI p2), (3, hI p3), (4, gF p0), (12, slE eStr a12.1), (13, hI a12.2), (14, .ar 24060 v16 eStr.k 0 0), (15, hI 0)], [(24060, v16, .arr eStr.k 9 [])]⟩ ?_
    refine AW.lpR h (by first | exact up_then | exact up_to) (S := Int × (List (List UInt8))) (V := Nat) (fun a v => ⟨[(1, hI p1), (2, hI p2), (3, hI p3), (4, gF p0), (12, slE eStr a12.1), (13, hI a12.2), (14, .ar 24060 v eStr.k 0 ((a.2).length)), (15, hI a.1)], [(24060, v, .arr eStr.k 9 (eStr.E a.2))]⟩) ?_ (X := (List (List UInt8))) (W := Nat) (fun a v => ⟨[(1, hI p1), (2, hI p2), (3, hI p3), (4, gF p0), (13, hI a12.2), (14, .ar 24060 v eStr.k 0 ((a).length))], [(24060, v, .arr eStr.k 9 (eStr.E a))]⟩) (fun a38 w39 h => ?_) (fun a17 w18 st19 h hr20=> ?_)
    ·exact to_L ⟨v16, rfl⟩
    ·refine AW.rg rfl fun K hK => mv rfl rfl (mv rfl rfl ?_)
     refine bf hK ⟨[(1, hI p1), (2, hI p2), (3, hI p3), (4, gF p0), (12, .ar 24060 w39 eStr.k 0 ((a38).length)), (13, hI a12.2)], [(24060, w39, .arr eStr.k 9 (eStr.E a38))]⟩ ?_
     refine AW.rg rfl fun K hK => mv rfl rfl (bv rfl (v_bin rfl rfl b_add) (mv rfl rfl ?_))
     refine b_nil (hK _ ?_)
     refine to_bind (to_frz 2 [(24060, w39, .arr eStr.k 9 (eStr.E a38))] ⟨[(1, hI p1), (2, hI p2), (3, hI p3), (4, gF p0), (12, slE eStr a38), (13, hI (IntKind.wrap .i64 (a12.2 + 1)))], []⟩ ⟨⟨_, rfl, rfl⟩, ⟨_, rfl, rfl⟩, ⟨_, rfl, rfl⟩, ⟨_, rfl, rfl⟩, ⟨_, rfl, frz_slE eStr (l := a38) rfl fun _ _ => rfl⟩, ⟨_, rfl, rfl⟩, trivial⟩ trivial ⟨rfl, trivial⟩ ⟨rfl, trivial⟩ ?_)
     exact to_L ⟨(a38, IntKind.wrap .i64 (a12.2 + 1)), (), h, rfl⟩
    refine AW.seq ?_
    refine AW.rgs rfl fun K hK => mv rfl rfl (mv rfl rfl (bv rfl (v_lenF rfl rfl ty27 rfl) (bv rfl (v_bin rfl rfl b_lss) ?_)))
    refine bf hK ⟨[(1, hI p1), (2, hI p2), (3, hI p3), (4, gF p0), (12, slE eStr a12.1), (13, hI a12.2), (14, .ar 24060 w18 eStr.k 0 ((a17.2).length)), (15, hI a17.1), (64, .bool (decide (a17.1 < ((a12.1).length : Int))))], [(24060, w18, .arr eStr.k 9 (eStr.E a17.2))]⟩ ?_
    refine AW.cond rfl (fun hc => ?_) (fun hc => ?_)
    ·obtain ⟨hc, h⟩ := cT hc h
     refine AW.skip ?_
     refine AW.seq (AW.block ?_)
     refine AW.rgs rfl fun K hK => mv rfl rfl ?_
     refine bf hK ⟨[(1, hI p1), (2, hI p2), (3, hI p3), (4, gF p0), (12, slE eStr a12.1), (13, hI a12.2), (14, .ar 24060 w18 eStr.k 0 ((a17.2).length)), (15, hI a17.1), (16, hI 0)], [(24060, w18, .arr eStr.k 9 (eStr.E a17.2))]⟩ ?_
     refine AW.lpR h (by first | exact up_then | exact up_to) (S := Int × (List (List UInt8))) (V := Nat) (fun a v => ⟨[(1, hI p1), (2, hI p2), (3, hI p3), (4, gF p0), (12, slE eStr a12.1), (13, hI a12.2), (14, .ar 24060 v eStr.k 0 ((a.2).length)), (15, hI a17.1), (16, hI a.1)], [(24060, v, .arr eStr.k 9 (eStr.E a.2))]⟩) ?_ (X := (List (List UInt8))) (W := Nat) (fun a v => ⟨[(1, hI p1), (2, hI p2), (3, hI p3), (4, gF p0), (12, slE eStr a12.1), (13, hI a12.2), (14, .ar 24060 v eStr.k 0 ((a).length)), (15, hI a17.1)], [(24060, v, .arr eStr.k 9 (eStr.E a))]⟩) (fun a36 w37 h => ?_) (fun a21 w22 st23 h hr24=> ?_)
     ·exact to_L ⟨w18, rfl⟩
     ·refine AW.rg rfl fun K hK => mv rfl rfl (bv rfl (v_bin rfl rfl b_add) (mv rfl rfl ?_))
      refine b_nil (hK _ ?_)
      exact to_L ⟨(IntKind.wrap .i64 (a17.1 + 1), a36), w37, h, rfl⟩
     refine AW.seq ?_
     refine AW.rgs rfl fun K hK => mv rfl rfl (bv rfl (v_fieldAddrF fo24_0 rfl) (bv rfl (v_loadF ty3 rfl (l_lit rfl rfl)) (bv rfl (v_bin rfl rfl b_lss) ?_)))
     refine bf hK ⟨[(1, hI p1), (2, hI p2), (3, hI p3), (4, gF p0), (12, slE eStr a12.1), (13, hI a12.2), (14, .ar 24060 w22 eStr.k 0 ((a21.2).length)), (15, hI a17.1), (16, hI a21.1), (70, .bool (decide (a21.1 < p0.1)))], [(24060, w22, .arr eStr.k 9 (eStr.E a21.2))]⟩ ?_
     refine AW.cond rfl (fun hc => ?_) (fun hc => ?_)
     ·obtain ⟨hc, h⟩ := cT hc h
      refine AW.skip ?_
      refine AW.seqJ h (S := (List (List UInt8))) (V := Nat) (fun a v => ⟨[(1, hI p1), (2, hI p2), (3, hI p3), (4, gF p0), (12, slE eStr a12.1), (13, hI a12.2), (14, .ar 24060 v eStr.k 0 ((a).length)), (15, hI a17.1), (16, hI a21.1)], [(24060, v, .arr eStr.k 9 (eStr.E a))]⟩) (fun a25 w26 h => ?_) (fun k27 h => ?_)
      ·refine AW.rg rfl fun K hK => mv rfl rfl (bv rfl (v_bin rfl rfl b_add) (mv rfl rfl ?_))
       refine b_nil (hK _ ?_)
       exact to_L ⟨(IntKind.wrap .i64 (a21.1 + 1), a25), w26, h, rfl⟩
      refine AW.block ?_
      refine AW.dgs 10 follows rfl rfl fun K hK => ?_
      refine sm rfl rfl ?_
      refine sm rfl rfl ?_
      obtain ⟨x28, h29, h⟩ := bS h
      refine sv rfl (v_idxF ty27 es27 rfl rfl (idx_lt h29)) ?_
      refine sv rfl (v_loadF ty9 rfl (l_cell eStr h29 (o := 0) rfl rfl)) ?_
      refine sm rfl rfl ?_
      refine sm rfl rfl ?_
      refine sv rfl (v_bin rfl rfl b_add) ?_
      obtain ⟨h30, h⟩ := ifN h
      refine sv rfl (v_sliceS ty9 rfl rfl rfl h30) ?_
      obtain ⟨h31, h⟩ := ifN h
      refine sv rfl (v_bin rfl rfl (b_sadd h31)) ?_
      refine sm rfl rfl ?_
      refine s_nil ?_
      refine bf hK ⟨[(1, hI p1), (2, hI p2), (3, hI p3), (4, gF p0), (12, slE eStr a12.1), (13, hI a12.2), (14, .ar 24060 w22 eStr.k 0 ((a21.2).length)), (15, hI a17.1), (16, hI a21.1), (17, .str (x28 ++ ((([48, 49, 50, 51, 52, 53, 54, 55, 56, 57, 97, 98, 99, 100, 101, 102] : List UInt8).take (IntKind.wrap .i64 (a21.1 + 1)).toNat).drop (a21.1).toNat)))], [(24060, w22, .arr eStr.k 9 (eStr.E a21.2))]⟩ ?_
      refine AW.rgs rfl fun K hK => mv rfl rfl (mv rfl rfl ?_)
      refine b_op rfl (o_bsl rfl rfl (as_of (cs := [.str (x28 ++ ((([48, 49, 50, 51, 52, 53, 54, 55, 56, 57, 97, 98, 99, 100, 101, 102] : List UInt8).take (IntKind.wrap .i64 (a21.1 + 1)).toNat).drop (a21.1).toNat))]) ty27 ty9 rfl rfl rfl rfl rfl) ?_)
      obtain ⟨h33, h⟩ := ifN h
      refine b_op rfl (o_appE eStr (l := a21.2) (m := [x28 ++ ((([48, 49, 50, 51, 52, 53, 54, 55, 56, 57, 97, 98, 99, 100, 101, 102] : List UInt8).take (IntKind.wrap .i64 (a21.1 + 1)).toNat).drop (a21.1).toNat)]) rfl rfl ty27 ty27 ty9 rfl rfl rfl rfl rfl h33 (fun v32 => ?_))
      refine mv rfl rfl ?_
      refine bf hK ⟨[(1, hI p1), (2, hI p2), (3, hI p3), (4, gF p0), (12, slE eStr a12.1), (13, hI a12.2), (14, .ar 24060 v32 eStr.k 0 ((a21.2 ++ [x28 ++ ((([48, 49, 50, 51, 52, 53, 54, 55, 56, 57, 97, 98, 99, 100, 101, 102] : List UInt8).take (IntKind.wrap .i64 (a21.1 + 1)).toNat).drop (a21.1).toNat)]).length)), (15, hI a17.1), (16, hI a21.1), (17, .str (x28 ++ ((([48, 49, 50, 51, 52, 53, 54, 55, 56, 57, 97, 98, 99, 100, 101, 102] : List UInt8).take (IntKind.wrap .i64 (a21.1 + 1)).toNat).drop (a21.1).toNat)))], [(24060, v32, .arr eStr.k 9 (eStr.E (a21.2 ++ [x28 ++ ((([48, 49, 50, 51, 52, 53, 54, 55, 56, 57, 97, 98, 99, 100, 101, 102] : List UInt8).take (IntKind.wrap .i64 (a21.1 + 1)).toNat).drop (a21.1).toNat)])))]⟩ ?_
      refine AW.seq ?_
      refine AW.rgs rfl fun K hK => mv rfl rfl (mv rfl rfl (bv rfl (v_bin rfl rfl b_lss) ?_))
      refine bf hK ⟨[(1, hI p1), (2, hI p2), (3, hI p3), (4, gF p0), (12, slE eStr a12.1), (13, hI a12.2), (14, .ar 24060 v32 eStr.k 0 ((a21.2 ++ [x28 ++ ((([48, 49, 50, 51, 52, 53, 54, 55, 56, 57, 97, 98, 99, 100, 101, 102] : List UInt8).take (IntKind.wrap .i64 (a21.1 + 1)).toNat).drop (a21.1).toNat)]).length)), (15, hI a17.1), (16, hI a21.1), (17, .str (x28 ++ ((([48, 49, 50, 51, 52, 53, 54, 55, 56, 57, 97, 98, 99, 100, 101, 102] : List UInt8).take (IntKind.wrap .i64 (a21.1 + 1)).toNat).drop (a21.1).toNat))), (88, .bool (decide (a12.2 < p2)))], [(24060, v32, .arr eStr.k 9 (eStr.E (a21.2 ++ [x28 ++ ((([48, 49, 50, 51, 52, 53, 54, 55, 56, 57, 97, 98, 99, 100, 101, 102] : List UInt8).take (IntKind.wrap .i64 (a21.1 + 1)).toNat).drop (a21.1).toNat)])))]⟩ ?_
      refine AW.cond rfl (fun hc => ?_) (fun hc => ?_)
      ·obtain ⟨hc, h⟩ := cT hc h
       refine AW.exit ?_
       exact to_L ⟨a21.2 ++ [x28 ++ ((([48, 49, 50, 51, 52, 53, 54, 55, 56, 57, 97, 98, 99, 100, 101, 102] : List UInt8).take (IntKind.wrap .i64 (a21.1 + 1)).toNat).drop (a21.1).toNat)], v32, h, rfl⟩
      obtain ⟨hc, h⟩ := cF hc h
      refine AW.skip ?_
      refine AW.rgs rfl fun K hK => bv rfl (v_loadF ty24 rfl (l_litA rfl (lb rfl) rfl)) (mv rfl rfl (mv rfl rfl ?_))
      obtain ⟨x34, h35, h⟩ := bS h
      refine b_op rfl (o_call rfl rfl rfl rfl (ACallD.pure0 (w_ref54_Valid h35)) ?_)
      refine mv rfl rfl (bv rfl (v_extract rfl rfl) (bv rfl (v_extract rfl rfl) (mv rfl rfl (mv rfl rfl ?_))))
      refine bf hK ⟨[(1, hI p1), (2, hI p2), (3, hI p3), (4, gF p0), (12, slE eStr a12.1), (13, hI a12.2), (14, .ar 24060 v32 eStr.k 0 ((a21.2 ++ [x28 ++ ((([48, 49, 50, 51, 52, 53, 54, 55, 56, 57, 97, 98, 99, 100, 101, 102] : List UInt8).take (IntKind.wrap .i64 (a21.1 + 1)).toNat).drop (a21.1).toNat)]).length)), (15, hI a17.1), (16, hI a21.1), (17, .str (x28 ++ ((([48, 49, 50, 51, 52, 53, 54, 55, 56, 57, 97, 98, 99, 100, 101, 102] : List UInt8).take (IntKind.wrap .i64 (a21.1 + 1)).toNat).drop (a21.1).toNat))), (18, .bool x34.1)], [(24060, v32, .arr eStr.k 9 (eStr.E (a21.2 ++ [x28 ++ ((([48, 49, 50, 51, 52, 53, 54, 55, 56, 57, 97, 98, 99, 100, 101, 102] : List UInt8).take (IntKind.wrap .i64 (a21.1 + 1)).toNat).drop (a21.1).toNat)])))]⟩ ?_
      refine AW.rgs rfl fun K hK => mv rfl rfl ?_
      refine bf hK ⟨[(1, hI p1), (2, hI p2), (3, hI p3), (4, gF p0), (12, slE eStr a12.1), (13, hI a12.2), (14, .ar 24060 v32 eStr.k 0 ((a21.2 ++ [x28 ++ ((([48, 49, 50, 51, 52, 53, 54, 55, 56, 57, 97, 98, 99, 100, 101, 102] : List UInt8).take (IntKind.wrap .i64 (a21.1 + 1)).toNat).drop (a21.1).toNat)]).length)), (15, hI a17.1), (16, hI a21.1), (17, .str (x28 ++ ((([48, 49, 50, 51, 52, 53, 54, 55, 56, 57, 97, 98, 99, 100, 101, 102] : List UInt8).take (IntKind.wrap .i64 (a21.1 + 1)).toNat).drop (a21.1).toNat))), (96, .bool x34.1)], [(24060, v32, .arr eStr.k 9 (eStr.E (a21.2 ++ [x28 ++ ((([48, 49, 50, 51, 52, 53, 54, 55, 56, 57, 97, 98, 99, 100, 101, 102] : List UInt8).take (IntKind.wrap .i64 (a21.1 + 1)).toNat).drop (a21.1).toNat)])))]⟩ ?_
      refine AW.cond rfl (fun hc => ?_) (fun hc => ?_)
      ·have h := ifT hc h
       refine AW.rgs rfl fun K hK => mv rfl rfl (mv rfl rfl (mv rfl rfl ?_))
       refine bf hK ⟨[(8, .str (x28 ++ ((([48, 49, 50, 51, 52, 53, 54, 55, 56, 57, 97, 98, 99, 100, 101, 102] : List UInt8).take (IntKind.wrap .i64 (a21.1 + 1)).toNat).drop (a21.1).toNat))), (9, hI 0)], []⟩ ?_
       have h := hr24 _ h
       have h := hr20 _ h
       have h := hr15 _ h
       refine AW.ret ?_
       have h := Option.some.inj h
       subst h
       exact ret_pure (hs := [.str (x28 ++ ((([48, 49, 50, 51, 52, 53, 54, 55, 56, 57, 97, 98, 99, 100, 101, 102] : List UInt8).take (IntKind.wrap .i64 (a21.1 + 1)).toNat).drop (a21.1).toNat)), hI 0]) (.inr rfl) (resT rfl (resT rfl rfl)) rfl ⟨trivial, trivial, trivial⟩
      have h := ifF (bF' hc) h
      refine AW.skip ?_
      exact to_L ⟨a21.2 ++ [x28 ++ ((([48, 49, 50, 51, 52, 53, 54, 55, 56, 57, 97, 98, 99, 100, 101, 102] : List UInt8).take (IntKind.wrap .i64 (a21.1 + 1)).toNat).drop (a21.1).toNat)], v32, h, rfl⟩
     obtain ⟨hc, h⟩ := cF hc h
     refine AW.exit ?_
     exact to_L ⟨a21.2, w22, h, rfl⟩
    obtain ⟨hc, h⟩ := cF hc h
    refine AW.exit ?_
    exact to_L ⟨a17.2, w18, h, rfl⟩
   obtain ⟨hc, h⟩ := cF hc h
   refine AW.exit ?_
   exact to_L ⟨(), (), h, rfl⟩
  refine AW.seq ?_
  refine AW.rgs rfl fun K hK => mv rfl rfl (mv rfl rfl (bv rfl (v_bin rfl rfl b_lss) ?_))
  refine bf hK ⟨[(1, hI p1), (2, hI p2), (3, hI p3), (4, gF p0), (10, hI a6.1), (11, hI a6.2), (45, .bool (decide (a6.2 < p3)))], []⟩ ?_
  refine AW.cond rfl (fun hc => ?_) (fun hc => ?_)
  ·obtain ⟨hc, h⟩ := cT hc h
   refine AW.skip ?_
   refine AW.seq (AW.block ?_)
   refine AW.rgs rfl fun K hK => mv rfl rfl (bv rfl (v_fieldAddrF fo24_0 rfl) (bv rfl (v_loadF ty3 rfl (l_lit rfl rfl)) (bv rfl (v_bin rfl rfl b_mul) (mv rfl rfl ?_))))
   refine bf hK ⟨[(1, hI p1), (2, hI p2), (3, hI p3), (4, gF p0), (10, hI (IntKind.wrap .i64 (a6.1 * p0.1))), (11, hI a6.2)], []⟩ ?_
   refine AW.rgs rfl fun K hK => mv rfl rfl (bv rfl (v_bin rfl rfl b_gtr) ?_)
   refine bf hK ⟨[(1, hI p1), (2, hI p2), (3, hI p3), (4, gF p0), (10, hI (IntKind.wrap .i64 (a6.1 * p0.1))), (11, hI a6.2), (53, .bool (decide (65536 < (IntKind.wrap .i64 (a6.1 * p0.1)))))], []⟩ ?_
   refine AW.cond rfl (fun hc => ?_) (fun hc => ?_)
   ·obtain ⟨hc, h⟩ := cT hc h
    refine AW.rgs rfl fun K hK => mv rfl rfl (mv rfl rfl ?_)
    refine bf hK ⟨[(8, .str nS), (9, hI 4)], []⟩ ?_
    have h := hr9 _ h
    refine AW.ret ?_
    have h := Option.some.inj h
    subst h
    exact ret_pure (hs := [.str nS, hI 4]) (.inr rfl) (resT rfl (resT rfl rfl)) rfl ⟨trivial, trivial, trivial⟩
   obtain ⟨hc, h⟩ := cF hc h
   refine AW.skip ?_
   refine AW.rg rfl fun K hK => mv rfl rfl (bv rfl (v_bin rfl rfl b_add) (mv rfl rfl ?_))
   refine b_nil (hK _ ?_)
   exact to_L ⟨(IntKind.wrap .i64 (a6.1 * p0.1), IntKind.wrap .i64 (a6.2 + 1)), (), h, rfl⟩
  obtain ⟨hc, h⟩ := cF hc h
  refine AW.exit ?_
  exact to_L ⟨(), (), h, rfl⟩
 refine AW.rg rfl fun K hK => mv rfl rfl (bv rfl (v_bin rfl rfl b_lss) (mv rfl rfl ?_))
 by_cases hg44 : p1 < 0
 ·have h := ifT hg44 h
  refine b_F rfl rfl rfl rfl rfl (decide_eq_true hg44) ?_
  refine b_F rfl rfl rfl rfl rfl rfl ?_
  refine bv rfl (v_pickT rfl rfl rfl) (mv rfl rfl ?_)
  refine b_F rfl rfl rfl rfl rfl rfl ?_
  refine b_F rfl rfl rfl rfl rfl rfl ?_
  refine bv rfl (v_pickT rfl rfl rfl) (mv rfl rfl ?_)
  refine b_F rfl rfl rfl rfl rfl rfl ?_
  refine b_F rfl rfl rfl rfl rfl rfl ?_
  refine b_F rfl rfl rfl rfl rfl rfl ?_
  refine bv rfl (v_pickT rfl rfl rfl) ?_
  refine b_nil (hK _ ?_)
  exact to_L ⟨true, (), h, rfl⟩
 have h := ifF hg44 h
 refine b_T rfl rfl rfl rfl (decide_eq_false hg44) (o_val rfl (mv_val rfl rfl).2 ?_)
 refine b_T rfl rfl rfl rfl rfl (o_val rfl (v_bin rfl rfl b_gtr) ?_)
 refine bv rfl (v_pickF rfl rfl rfl) (mv rfl rfl ?_)
 by_cases hg43 : 4096 < p1
 ·have h := ifT hg43 h
  refine b_F rfl rfl rfl rfl rfl (decide_eq_true hg43) ?_
  refine b_F rfl rfl rfl rfl rfl rfl ?_
  refine bv rfl (v_pickT rfl rfl rfl) (mv rfl rfl ?_)
  refine b_F rfl rfl rfl rfl rfl rfl ?_
  refine b_F rfl rfl rfl rfl rfl rfl ?_
  refine b_F rfl rfl rfl rfl rfl rfl ?_
  refine bv rfl (v_pickT rfl rfl rfl) ?_
  refine b_nil (hK _ ?_)
  exact to_L ⟨true, (), h, rfl⟩
 have h := ifF hg43 h
 refine b_T rfl rfl rfl rfl (decide_eq_false hg43) (o_val rfl (mv_val rfl rfl).2 ?_)
 refine b_T rfl rfl rfl rfl rfl (o_val rfl (v_bin rfl rfl b_lss) ?_)
 refine bv rfl (v_pickF rfl rfl rfl) (mv rfl rfl ?_)
 by_cases hg42 : p2 < 1
 ·have h := ifT hg42 h
  refine b_F rfl rfl rfl rfl rfl (decide_eq_true hg42) ?_
  refine b_F rfl rfl rfl rfl rfl rfl ?_
  refine b_F rfl rfl rfl rfl rfl rfl ?_
  refine bv rfl (v_pickT rfl rfl rfl) ?_
  refine b_nil (hK _ ?_)
  exact to_L ⟨true, (), h, rfl⟩
 have h := ifF hg42 h
 refine b_T rfl rfl rfl rfl (decide_eq_false hg42) (o_val rfl (mv_val rfl rfl).2 ?_)
 refine b_T rfl rfl rfl rfl rfl (o_val rfl (mv_val rfl rfl).2 ?_)
 refine b_T rfl rfl rfl rfl rfl (o_val rfl (v_bin rfl rfl b_gtr) ?_)
 refine bv rfl (v_pickF rfl rfl rfl) ?_
 refine b_nil (hK _ ?_)
 exact to_L ⟨decide (p3 < p2), (), h, rfl⟩
theorem w_ref11_check {p0 : TLabelsStatesEdges} {r : Int} (h : m_ref11_check p0 = some r) : Pure Tryz.prog 95 [gA p0] (· = hI r) := by
 unfold m_ref11_check at h
 refine Pure.of_body Tryz.func95 rfl rfl (lb rfl) fun hf => ?_
 unfold Tryz.f95
 dsimp only [enumS, Nat.reduceAdd]
 refine AW.rgs rfl fun K hK => b_op rfl (o_box rfl rfl rfl ?_)
 refine mv rfl rfl ?_
 refine bf hK ⟨[(1, gF p0)], []⟩ ?_
 refine AW.seq ?_
 refine AW.rgs rfl fun K hK => bv rfl (v_loadF ty24 rfl (l_litA rfl (lb rfl) rfl)) ?_
 obtain ⟨x1, h2, h⟩ := bS h
 refine b_op rfl (o_call rfl rfl rfl rfl (ACallD.pure0 (w_ref09_Check h2)) ?_)
 refine bv rfl (v_bin rfl rfl b_neq) ?_
 refine bf hK ⟨[(1, gF p0), (5, .bool (decide (x1 ≠ 0)))], []⟩ ?_
 refine AW.cond rfl (fun hc => ?_) (fun hc => ?_)
 ·obtain ⟨hc, h⟩ := cT hc h
  refine AW.rgs rfl fun K hK => mv rfl rfl ?_
  refine bf hK ⟨[(2, hI 1)], []⟩ ?_
  refine AW.ret ?_
  have h := Option.some.inj h
  subst h
  exact ret_pure (hs := [hI 1]) (.inr rfl) (resT rfl rfl) rfl trivial
 obtain ⟨hc, h⟩ := cF hc h
 refine AW.skip ?_
 refine AW.seq ?_
 refine AW.rgs rfl fun K hK => bv rfl (v_fieldAddrF fo24_0 rfl) (bv rfl (v_loadF ty3 rfl (l_lit rfl rfl)) (bv rfl (v_bin rfl rfl b_gtr) ?_))
 refine bf hK ⟨[(8, .bool (decide (16 < p0.1)))], []⟩ ?_
 refine AW.cond rfl (fun hc => ?_) (fun hc => ?_)
 ·obtain ⟨hc, h⟩ := cT hc h
  refine AW.rgs rfl fun K hK => mv rfl rfl ?_
  refine bf hK ⟨[(2, hI 12)], []⟩ ?_
  refine AW.ret ?_
  have h := Option.some.inj h
  subst h
  exact ret_pure (hs := [hI 12]) (.inr rfl) (resT rfl rfl) rfl trivial
 obtain ⟨hc, h⟩ := cF hc h
 refine AW.skip ?_
 refine AW.rgs rfl fun K hK => mv rfl rfl ?_
 refine bf hK ⟨[(2, hI 0)], []⟩ ?_
 refine AW.ret ?_
 have h := Option.some.inj h
 subst h
 exact ret_pure (hs := [hI 0]) (.inr rfl) (resT rfl rfl) rfl trivial
theorem w_ref11_checkNumber {p0 : TLabelsStatesEdges} {p1 : Int} {r : Int} (h : m_ref11_checkNumber p0 p1 = some r) : Pure Tryz.prog 70 [gA p0, hI p1] (· = hI r) := by
 unfold m_ref11_checkNumber at h
 refine Pure.of_body Tryz.func70 rfl rfl (lb rfl) fun hf => ?_
 unfold Tryz.f70
 dsimp only [enumS, Nat.reduceAdd]
 refine AW.rgs rfl fun K hK => b_op rfl (o_box rfl rfl rfl ?_)
 refine mv rfl rfl ?_
 refine bf hK ⟨[(1, hI p1), (2, gF p0)], []⟩ ?_
 refine AW.seq ?_
 refine AW.rgs rfl fun K hK => bv rfl (v_loadF ty24 rfl (l_litA rfl (lb rfl) rfl)) ?_
 obtain ⟨x1, h2, h⟩ := bS h
 refine b_op rfl (o_call rfl rfl rfl rfl (ACallD.pure0 (w_ref11_check h2)) ?_)
 refine mv rfl rfl ?_
 refine bf hK ⟨[(1, hI p1), (5, hI x1)], []⟩ ?_
 refine AW.rgs rfl fun K hK => mv rfl rfl (bv rfl (v_bin rfl rfl b_neq) ?_)
 refine bf hK ⟨[(1, hI p1), (5, hI x1), (9, .bool (decide (x1 ≠ 0)))], []⟩ ?_
 refine AW.cond rfl (fun hc => ?_) (fun hc => ?_)
 ·obtain ⟨hc, h⟩ := cT hc h
  refine AW.rgs rfl fun K hK => mv rfl rfl (mv rfl rfl ?_)
  refine bf hK ⟨[(4, hI x1)], []⟩ ?_
  refine AW.ret ?_
  have h := Option.some.inj h
  subst h
  exact ret_pure (hs := [hI x1]) (.inr rfl) (resT rfl rfl) rfl trivial
 obtain ⟨hc, h⟩ := cF hc h
 refine AW.skip ?_
 refine AW.seq ?_
 refine AW.seqJ h (S := Bool) (V := Unit) (fun a v => ⟨[(16, .bool a)], []⟩) (fun a3 w4 h => ?_) (fun k5 h => ?_)
 ·refine AW.cond rfl (fun hc => ?_) (fun hc => ?_)
  ·have h := ifT hc h
   refine AW.rgs rfl fun K hK => mv rfl rfl ?_
   refine bf hK ⟨[(4, hI 2)], []⟩ ?_
   refine AW.ret ?_
   have h := Option.some.inj h
   subst h
   exact ret_pure (hs := [hI 2]) (.inr rfl) (resT rfl rfl) rfl trivial
  have h := ifF (bF' hc) h
  refine AW.skip ?_
  refine AW.rgs rfl fun K hK => mv rfl rfl ?_
  refine bf hK ⟨[(4, hI 0)], []⟩ ?_
  refine AW.ret ?_
  have h := Option.some.inj h
  subst h
  exact ret_pure (hs := [hI 0]) (.inr rfl) (resT rfl rfl) rfl trivial
 refine AW.rg rfl fun K hK => mv rfl rfl (bv rfl (v_bin rfl rfl b_lss) (mv rfl rfl ?_))
 by_cases hg6 : p1 < 0
 ·have h := ifT hg6 h
  refine b_F rfl rfl rfl rfl rfl (decide_eq_true hg6) ?_
  refine b_F rfl rfl rfl rfl rfl rfl ?_
  refine bv rfl (v_pickT rfl rfl rfl) ?_
  refine b_nil (hK _ ?_)
  exact to_L ⟨true, (), h, rfl⟩
 have h := ifF hg6 h
 refine b_T rfl rfl rfl rfl (decide_eq_false hg6) (o_val rfl (mv_val rfl rfl).2 ?_)
 refine b_T rfl rfl rfl rfl rfl (o_val rfl (v_bin rfl rfl b_gtr) ?_)
 refine bv rfl (v_pickF rfl rfl rfl) ?_
 refine b_nil (hK _ ?_)
 exact to_L ⟨decide (4096 < p1), (), h, rfl⟩
theorem w_ref11_has {p0 : List (Int)} {p1 : Int} {r : Bool} (h : m_ref11_has p0 p1 = some r) : Pure Tryz.prog 134 [slE eInt p0, hI p1] (· = HV.bool r) := by
 unfold m_ref11_has at h
 refine Pure.of_body Tryz.func134 rfl rfl (lb rfl) fun hf => ?_
 unfold Tryz.f134
 dsimp only [enumS, Nat.reduceAdd]
 refine AW.rgs rfl fun K hK => mv rfl rfl ?_
 refine bf hK ⟨[(0, slE eInt p0), (1, hI p1)], []⟩ ?_
 refine AW.seq ?_
 refine AW.rgs rfl fun K hK => mv rfl rfl ?_
 refine bf hK ⟨[(0, slE eInt p0), (1, hI p1), (5, hI 0)], []⟩ ?_
 refine AW.lpR h (by first | exact up_then | exact up_to) (S := Int) (V := Unit) (fun a v => ⟨[(0, slE eInt p0), (1, hI p1), (5, hI a)], []⟩) ?_ (X := Unit) (W := Unit) (fun a v => ⟨[], []⟩) (fun a7 w8 h => ?_) (fun a1 w2 st3 h hr4=> ?_)
 ·exact to_L ⟨(), rfl⟩
 ·refine AW.rgs rfl fun K hK => mv rfl rfl ?_
  refine bf hK ⟨[(4, .bool false)], []⟩ ?_
  refine AW.ret ?_
  have h := Option.some.inj h
  subst h
  exact ret_pure (hs := [.bool false]) (.inr rfl) (resT rfl rfl) rfl trivial
 refine AW.seq ?_
 refine AW.rgs rfl fun K hK => mv rfl rfl (mv rfl rfl (bv rfl (v_lenF rfl rfl ty55 rfl) (bv rfl (v_bin rfl rfl b_lss) ?_)))
 refine bf hK ⟨[(0, slE eInt p0), (1, hI p1), (5, hI a1), (9, .bool (decide (a1 < ((p0).length : Int))))], []⟩ ?_
 refine AW.cond rfl (fun hc => ?_) (fun hc => ?_)
 ·obtain ⟨hc, h⟩ := cT hc h
  refine AW.skip ?_
  refine AW.seq (AW.block ?_)
  refine AW.rgs rfl fun K hK => mv rfl rfl (mv rfl rfl ?_)
  obtain ⟨x5, h6, h⟩ := bS h
  refine bv rfl (v_idxF ty55 es55 rfl rfl (idx_lt h6)) (bv rfl (v_loadF ty3 rfl (l_cell eInt h6 (o := 0) rfl rfl)) (mv rfl rfl (bv rfl (v_bin rfl rfl b_eql) ?_)))
  refine bf hK ⟨[(0, slE eInt p0), (1, hI p1), (5, hI a1), (17, .bool (decide (x5 = p1)))], []⟩ ?_
  refine AW.cond rfl (fun hc => ?_) (fun hc => ?_)
  ·obtain ⟨hc, h⟩ := cT hc h
   refine AW.rgs rfl fun K hK => mv rfl rfl ?_
   refine bf hK ⟨[(4, .bool true)], []⟩ ?_
   have h := hr4 _ h
   refine AW.ret ?_
   have h := Option.some.inj h
   subst h
   exact ret_pure (hs := [.bool true]) (.inr rfl) (resT rfl rfl) rfl trivial
  obtain ⟨hc, h⟩ := cF hc h
  refine AW.skip ?_
  refine AW.rg rfl fun K hK => mv rfl rfl (bv rfl (v_bin rfl rfl b_add) (mv rfl rfl ?_))
  refine b_nil (hK _ ?_)
  exact to_L ⟨IntKind.wrap .i64 (a1 + 1), (), h, rfl⟩
 obtain ⟨hc, h⟩ := cF hc h
 refine AW.exit ?_
 exact to_L ⟨(), (), h, rfl⟩
theorem w_ref11_Step {p0 : TLabelsStatesEdges} {p1 : List (Int)} {p2 : Int} {r : (List (Int))} (h : m_ref11_Step p0 p1 p2 = some r) : Pure Tryz.prog 122 [gA p0, slE eInt p1, hI p2] (· = slE eInt r) := by
 unfold m_ref11_Step at h
 refine Pure.of_body Tryz.func122 rfl rfl (lb rfl) fun hf => ?_
 unfold Tryz.f122
 dsimp only [enumS, Nat.reduceAdd]
 refine AW.rgs rfl fun K hK => b_op rfl (o_box rfl rfl rfl ?_)
 refine mv rfl rfl ?_
 refine bf hK ⟨[(1, slE eInt p1), (2, hI p2), (3, gF p0)], []⟩ ?_
 refine AW.rgs rfl fun K hK => b_op rfl (o_bslM (fid := 122) 122011 rfl rfl rfl (as_of (cs := []) ty55 ty3 rfl rfl rfl rfl rfl) (fun v1 => ?_))
 refine mv rfl rfl ?_
 refine bf hK ⟨[(1, slE eInt p1), (2, hI p2), (3, gF p0), (7, .ar 122011 v1 eInt.k 0 0)], [(122011, v1, .arr eInt.k 3 [])]⟩ ?_
 refine AW.seq ?_
 refine AW.rgs rfl fun K hK => mv rfl rfl ?_
 refine bf hK ⟨[(1, slE eInt p1), (2, hI p2), (3, gF p0), (7, .ar 122011 v1 eInt.k 0 0), (8, hI 0)], [(122011, v1, .arr eInt.k 3 [])]⟩ ?_
 refine AW.lpX h (by first | exact up_then | exact up_to) (S := Int × (List Int)) (V := Nat) (fun a v => ⟨[(1, slE eInt p1), (2, hI p2), (3, gF p0), (7, .ar 122011 v eInt.k 0 ((a.2).length)), (8, hI a.1)], [(122011, v, .arr eInt.k 3 (eInt.E a.2))]⟩) ?_ (X := (List Int)) (W := Nat) (fun a v => ⟨[(7, .ar 122011 v eInt.k 0 ((a).length))], [(122011, v, .arr eInt.k 3 (eInt.E a))]⟩) (fun a33 w34 h => ?_) (fun a2 w3 st4 h => ?_)
 ·exact to_L ⟨v1, rfl⟩
 ·refine AW.rgs rfl fun K hK => mv rfl rfl (mv rfl rfl ?_)
  refine bf hK ⟨[(6, .ar 122011 w34 eInt.k 0 ((a33).length))], [(122011, w34, .arr eInt.k 3 (eInt.E a33))]⟩ ?_
  refine AW.to (to_frz 2 [(122011, w34, .arr eInt.k 3 (eInt.E a33))] ⟨[(6, slE eInt a33)], []⟩ ⟨⟨_, rfl, frz_slE eInt (l := a33) rfl fun _ _ => rfl⟩, trivial⟩ trivial ⟨rfl, trivial⟩ ⟨rfl, trivial⟩ ?_)
  refine AW.ret ?_
  have h := Option.some.inj h
  subst h
  exact ret_pure (hs := [slE eInt a33]) (.inr rfl) (resT rfl rfl) rfl (clean_slE fun _ _ => ⟨trivial, trivial⟩)
 refine AW.seq ?_
 refine AW.rgs rfl fun K hK => mv rfl rfl (bv rfl (v_fieldAddrF fo24_1 rfl) (bv rfl (v_loadF ty3 rfl (l_lit rfl rfl)) (bv rfl (v_bin rfl rfl b_lss) ?_)))
 refine bf hK ⟨[(1, slE eInt p1), (2, hI p2), (3, gF p0), (7, .ar 122011 w3 eInt.k 0 ((a2.2).length)), (8, hI a2.1), (15, .bool (decide (a2.1 < p0.2.1)))], [(122011, w3, .arr eInt.k 3 (eInt.E a2.2))]⟩ ?_
 refine AW.cond rfl (fun hc => ?_) (fun hc => ?_)
 ·obtain ⟨hc, h⟩ := cT hc h
  refine AW.skip ?_
  refine AW.seqJ h (S := (List Int)) (V := Nat) (fun a v => ⟨[(1, slE eInt p1), (2, hI p2), (3, gF p0), (7, .ar 122011 v eInt.k 0 ((a).length)), (8, hI a2.1)], [(122011, v, .arr eInt.k 3 (eInt.E a))]⟩) (fun a6 w7 h => ?_) (fun k8 h => ?_)
  ·refine AW.rg rfl fun K hK => mv rfl rfl (bv rfl (v_bin rfl rfl b_add) (mv rfl rfl ?_))
   refine b_nil (hK _ ?_)
   exact to_L ⟨(IntKind.wrap .i64 (a2.1 + 1), a6), w7, h, rfl⟩
  refine AW.block ?_
  refine AW.rgs rfl fun K hK => mv rfl rfl ?_
  refine bf hK ⟨[(1, slE eInt p1), (2, hI p2), (3, gF p0), (7, .ar 122011 w3 eInt.k 0 ((a2.2).length)), (8, hI a2.1), (9, .bool false)], [(122011, w3, .arr eInt.k 3 (eInt.E a2.2))]⟩ ?_
  refine AW.seq ?_
  refine AW.rgs rfl fun K hK => mv rfl rfl ?_
  refine bf hK ⟨[(1, slE eInt p1), (2, hI p2), (3, gF p0), (7, .ar 122011 w3 eInt.k 0 ((a2.2).length)), (8, hI a2.1), (9, .bool false), (10, hI 0)], [(122011, w3, .arr eInt.k 3 (eInt.E a2.2))]⟩ ?_
  refine AW.lpX h (by first | exact up_then | exact up_to) (S := Bool × Int) (V := Unit) (fun a v => ⟨[(1, slE eInt p1), (2, hI p2), (3, gF p0), (7, .ar 122011 w3 eInt.k 0 ((a2.2).length)), (8, hI a2.1), (9, .bool a.1), (10, hI a.2)], [(122011, w3, .arr eInt.k 3 (eInt.E a2.2))]⟩) ?_ (X := Bool) (W := Unit) (fun a v => ⟨[(1, slE eInt p1), (2, hI p2), (3, gF p0), (7, .ar 122011 w3 eInt.k 0 ((a2.2).length)), (8, hI a2.1), (9, .bool a)], [(122011, w3, .arr eInt.k 3 (eInt.E a2.2))]⟩) (fun a29 w30 h => ?_) (fun a9 w10 st11 h => ?_)
  ·exact to_L ⟨(), rfl⟩
  ·refine AW.rgs rfl fun K hK => mv rfl rfl ?_
   refine bf hK ⟨[(1, slE eInt p1), (2, hI p2), (3, gF p0), (7, .ar 122011 w3 eInt.k 0 ((a2.2).length)), (8, hI a2.1), (53, .bool a29)], [(122011, w3, .arr eInt.k 3 (eInt.E a2.2))]⟩ ?_
   refine AW.cond rfl (fun hc => ?_) (fun hc => ?_)
   ·have h := ifT hc h
    refine AW.rg rfl fun K hK => mv rfl rfl (mv rfl rfl ?_)
    refine b_op rfl (o_bsl rfl rfl (as_of (cs := [hI a2.1]) ty55 ty3 rfl rfl rfl rfl rfl) ?_)
    obtain ⟨h32, h⟩ := ifN h
    refine b_op rfl (o_appE eInt (l := a2.2) (m := [a2.1]) rfl rfl ty55 ty55 ty3 rfl rfl rfl rfl rfl h32 (fun v31 => ?_))
    refine mv rfl rfl ?_
    refine b_nil (hK _ ?_)
    exact to_L ⟨a2.2 ++ [a2.1], v31, h, rfl⟩
   have h := ifF (bF' hc) h
   refine AW.skip ?_
   exact to_L ⟨a2.2, w3, h, rfl⟩
  refine AW.seq ?_
  refine AW.rgs rfl fun K hK => mv rfl rfl (bv rfl (v_fieldAddrF fo24_2 rfl) (bv rfl (v_loadF ty22 rfl (l_lit rfl rfl)) (bv rfl (v_lenF rfl rfl ty22 rfl) (bv rfl (v_bin rfl rfl b_lss) ?_))))
  refine bf hK ⟨[(1, slE eInt p1), (2, hI p2), (3, gF p0), (7, .ar 122011 w3 eInt.k 0 ((a2.2).length)), (8, hI a2.1), (9, .bool a9.1), (10, hI a9.2), (22, .bool (decide (a9.2 < ((p0.2.2).length : Int))))], [(122011, w3, .arr eInt.k 3 (eInt.E a2.2))]⟩ ?_
  refine AW.cond rfl (fun hc => ?_) (fun hc => ?_)
  ·obtain ⟨hc, h⟩ := cT hc h
   refine AW.skip ?_
   refine AW.seqJ h (S := Bool) (V := Unit) (fun a v => ⟨[(1, slE eInt p1), (2, hI p2), (3, gF p0), (7, .ar 122011 w3 eInt.k 0 ((a2.2).length)), (8, hI a2.1), (9, .bool a), (10, hI a9.2)], [(122011, w3, .arr eInt.k 3 (eInt.E a2.2))]⟩) (fun a13 w14 h => ?_) (fun k15 h => ?_)
   ·refine AW.rg rfl fun K hK => mv rfl rfl (bv rfl (v_bin rfl rfl b_add) (mv rfl rfl ?_))
    refine b_nil (hK _ ?_)
    exact to_L ⟨(a13, IntKind.wrap .i64 (a9.2 + 1)), (), h, rfl⟩
   refine AW.block ?_
   refine AW.seqJ h (S := Bool) (V := Unit) (fun a v => ⟨[(1, slE eInt p1), (2, hI p2), (3, gF p0), (7, .ar 122011 w3 eInt.k 0 ((a2.2).length)), (8, hI a2.1), (9, .bool a9.1), (10, hI a9.2), (52, .bool a)], [(122011, w3, .arr eInt.k 3 (eInt.E a2.2))]⟩) (fun a16 w17 h => ?_) (fun k18 h => ?_)
   ·refine AW.cond rfl (fun hc => ?_) (fun hc => ?_)
    ·have h := ifT hc h
     refine AW.rg rfl fun K hK => mv rfl rfl ?_
     refine b_nil (hK _ ?_)
     exact to_L ⟨true, (), h, rfl⟩
    have h := ifF (bF' hc) h
    refine AW.skip ?_
    exact to_L ⟨a9.1, (), h, rfl⟩
   refine AW.rg rfl fun K hK => bv rfl (v_fieldAddrF fo24_2 rfl) (bv rfl (v_loadF ty22 rfl (l_lit rfl rfl)) (mv rfl rfl ?_))
   obtain ⟨x19, h20, h⟩ := bS h
   refine bv rfl (v_idxF ty22 es22 rfl rfl (idx_lt h20)) (bv rfl (v_fieldAddrF fo44_2 rfl) (bv rfl (v_loadF ty3 rfl (l_cell eFromLabelTo h20 (o := 2) rfl rfl)) (mv rfl rfl (bv rfl (v_bin rfl rfl b_eql) (mv rfl rfl ?_)))))
   by_cases hg28 : x19.2.2 = a2.1
   ·have h := ifT hg28 h
    refine b_T rfl rfl rfl rfl (decide_eq_true hg28) (o_val rfl (v_fieldAddrF fo24_2 rfl) ?_)
    refine b_T rfl rfl rfl rfl rfl (o_val rfl (v_loadF ty22 rfl (l_lit rfl rfl)) ?_)
    refine b_T rfl rfl rfl rfl rfl (o_val rfl (mv_val rfl rfl).2 ?_)
    obtain ⟨x21, h22, h⟩ := bS h
    refine b_T rfl rfl rfl rfl rfl (o_val rfl (v_idxF ty22 es22 rfl rfl (idx_lt h22)) ?_)
    refine b_T rfl rfl rfl rfl rfl (o_val rfl (v_fieldAddrF fo44_1 rfl) ?_)
    refine b_T rfl rfl rfl rfl rfl (o_val rfl (v_loadF ty3 rfl (l_cell eFromLabelTo h22 (o := 1) rfl rfl)) ?_)
    refine b_T rfl rfl rfl rfl rfl (o_val rfl (mv_val rfl rfl).2 ?_)
    refine b_T rfl rfl rfl rfl rfl (o_val rfl (v_bin rfl rfl b_eql) ?_)
    refine bv rfl (v_pickT rfl rfl rfl) (mv rfl rfl ?_)
    by_cases hg27 : x21.2.1 = p2
    ·have h := ifT hg27 h
     refine b_T rfl rfl rfl rfl (decide_eq_true hg27) (o_val rfl (mv_val rfl rfl).2 ?_)
     refine b_T rfl rfl rfl rfl rfl (o_val rfl (v_fieldAddrF fo24_2 rfl) ?_)
     refine b_T rfl rfl rfl rfl rfl (o_val rfl (v_loadF ty22 rfl (l_lit rfl rfl)) ?_)
     refine b_T rfl rfl rfl rfl rfl (o_val rfl (mv_val rfl rfl).2 ?_)
     obtain ⟨x23, h24, h⟩ := bS h
     refine b_T rfl rfl rfl rfl rfl (o_val rfl (v_idxF ty22 es22 rfl rfl (idx_lt h24)) ?_)
     refine b_T rfl rfl rfl rfl rfl (o_val rfl (v_fieldAddrF fo44_0 rfl) ?_)
     refine b_T rfl rfl rfl rfl rfl (o_val rfl (v_loadF ty3 rfl (l_cell eFromLabelTo h24 (o := 0) rfl rfl)) ?_)
     obtain ⟨x25, h26, h⟩ := bS h
     refine b_T rfl rfl rfl rfl rfl (o_call rfl rfl rfl rfl (ACallD.pure0 (w_ref11_has h26)) ?_)
     refine bv rfl (v_pickT rfl rfl rfl) ?_
     refine b_nil (hK _ ?_)
     exact to_L ⟨x25, (), h, rfl⟩
    have h := ifF hg27 h
    refine b_F rfl rfl rfl rfl rfl (decide_eq_false hg27) ?_
    refine b_F rfl rfl rfl rfl rfl rfl ?_
    refine b_F rfl rfl rfl rfl rfl rfl ?_
    refine b_F rfl rfl rfl rfl rfl rfl ?_
    refine b_F rfl rfl rfl rfl rfl rfl ?_
    refine b_F rfl rfl rfl rfl rfl rfl ?_
    refine b_F rfl rfl rfl rfl rfl rfl ?_
    refine b_F rfl rfl rfl rfl rfl rfl ?_
    refine bv rfl (v_pickF rfl rfl rfl) ?_
    refine b_nil (hK _ ?_)
    exact to_L ⟨false, (), h, rfl⟩
   have h := ifF hg28 h
   refine b_F rfl rfl rfl rfl rfl (decide_eq_false hg28) ?_
   refine b_F rfl rfl rfl rfl rfl rfl ?_
   refine b_F rfl rfl rfl rfl rfl rfl ?_
   refine b_F rfl rfl rfl rfl rfl rfl ?_
   refine b_F rfl rfl rfl rfl rfl rfl ?_
   refine b_F rfl rfl rfl rfl rfl rfl ?_
   refine b_F rfl rfl rfl rfl rfl rfl ?_
   refine b_F rfl rfl rfl rfl rfl rfl ?_
   refine bv rfl (v_pickF rfl rfl rfl) (mv rfl rfl ?_)
   refine b_F rfl rfl rfl rfl rfl rfl ?_
   refine b_F rfl rfl rfl rfl rfl rfl ?_
   refine b_F rfl rfl rfl rfl rfl rfl ?_
   refine b_F rfl rfl rfl rfl rfl rfl ?_
   refine b_F rfl rfl rfl rfl rfl rfl ?_
   refine b_F rfl rfl rfl rfl rfl rfl ?_
   refine b_F rfl rfl rfl rfl rfl rfl ?_
   refine b_F rfl rfl rfl rfl rfl rfl ?_
   refine bv rfl (v_pickF rfl rfl rfl) ?_
   refine b_nil (hK _ ?_)
   exact to_L ⟨false, (), h, rfl⟩
  obtain ⟨hc, h⟩ := cF hc h
  refine AW.exit ?_
  exact to_L ⟨a9.1, (), h, rfl⟩
 obtain ⟨hc, h⟩ := cF hc h
 refine AW.exit ?_
 exact to_L ⟨a2.2, w3, h, rfl⟩
theorem w_ref11_grow {p0 : TLabelsStatesEdges} {p1 : List (TWordEnds)} {r : (List (TWordEnds))} (h : m_ref11_grow p0 p1 = some r) : Pure Tryz.prog 96 [gA p0, slE eWordEnds p1] (· = slE eWordEnds r) := by
 unfold m_ref11_grow at h
 refine Pure.of_body Tryz.func96 rfl rfl (lb rfl) fun hf => ?_
 unfold Tryz.f96
 dsimp only [enumS, Nat.reduceAdd]
 refine AW.rgs rfl fun K hK => b_op rfl (o_box rfl rfl rfl ?_)
 refine mv rfl rfl ?_
 refine bf hK ⟨[(1, slE eWordEnds p1), (2, gF p0)], []⟩ ?_
 refine AW.rgs rfl fun K hK => b_op rfl (o_bslM (fid := 96) 96009 rfl rfl rfl (as_of (cs := []) ty104 ty135 rfl rfl rfl rfl rfl) (fun v1 => ?_))
 refine mv rfl rfl ?_
 refine bf hK ⟨[(1, slE eWordEnds p1), (2, gF p0), (5, .ar 96009 v1 eWordEnds.k 0 0)], [(96009, v1, .arr eWordEnds.k 135 [])]⟩ ?_
 refine AW.seq ?_
 refine AW.rgs rfl fun K hK => mv rfl rfl ?_
 refine bf hK ⟨[(1, slE eWordEnds p1), (2, gF p0), (5, .ar 96009 v1 eWordEnds.k 0 0), (6, hI 0)], [(96009, v1, .arr eWordEnds.k 135 [])]⟩ ?_
 refine AW.lpX h (by first | exact up_then | exact up_to) (S := Int × (List TWordEnds)) (V := Nat) (fun a v => ⟨[(1, slE eWordEnds p1), (2, gF p0), (5, .ar 96009 v eWordEnds.k 0 ((a.2).length)), (6, hI a.1)], [(96009, v, .arr eWordEnds.k 135 (eWordEnds.E a.2))]⟩) ?_ (X := (List TWordEnds)) (W := Nat) (fun a v => ⟨[(5, .ar 96009 v eWordEnds.k 0 ((a).length))], [(96009, v, .arr eWordEnds.k 135 (eWordEnds.E a))]⟩) (fun a25 w26 h => ?_) (fun a2 w3 st4 h => ?_)
 ·exact to_L ⟨v1, rfl⟩
 ·refine AW.rgs rfl fun K hK => mv rfl rfl (mv rfl rfl ?_)
  refine bf hK ⟨[(4, .ar 96009 w26 eWordEnds.k 0 ((a25).length))], [(96009, w26, .arr eWordEnds.k 135 (eWordEnds.E a25))]⟩ ?_
  refine AW.to (to_frz 2 [(96009, w26, .arr eWordEnds.k 135 (eWordEnds.E a25))] ⟨[(4, slE eWordEnds a25)], []⟩ ⟨⟨_, rfl, frz_slE eWordEnds (l := a25) rfl fun _ _ => rfl⟩, trivial⟩ trivial ⟨rfl, trivial⟩ ⟨rfl, trivial⟩ ?_)
  refine AW.ret ?_
  have h := Option.some.inj h
  subst h
  exact ret_pure (hs := [slE eWordEnds a25]) (.inr rfl) (resT rfl rfl) rfl (clean_slE fun _ _ => ⟨trivial, (clean_slE fun _ _ => ⟨trivial, trivial⟩), trivial⟩)
 refine AW.seq ?_
 refine AW.rgs rfl fun K hK => mv rfl rfl (mv rfl rfl (bv rfl (v_lenF rfl rfl ty104 rfl) (bv rfl (v_bin rfl rfl b_lss) ?_)))
 refine bf hK ⟨[(1, slE eWordEnds p1), (2, gF p0), (5, .ar 96009 w3 eWordEnds.k 0 ((a2.2).length)), (6, hI a2.1), (13, .bool (decide (a2.1 < ((p1).length : Int))))], [(96009, w3, .arr eWordEnds.k 135 (eWordEnds.E a2.2))]⟩ ?_
 refine AW.cond rfl (fun hc => ?_) (fun hc => ?_)
 ·obtain ⟨hc, h⟩ := cT hc h
  refine AW.skip ?_
  refine AW.seq (AW.block ?_)
  refine AW.rgs rfl fun K hK => mv rfl rfl ?_
  refine bf hK ⟨[(1, slE eWordEnds p1), (2, gF p0), (5, .ar 96009 w3 eWordEnds.k 0 ((a2.2).length)), (6, hI a2.1), (7, hI 0)], [(96009, w3, .arr eWordEnds.k 135 (eWordEnds.E a2.2))]⟩ ?_
  refine AW.lpX h (by first | exact up_then | exact up_to) (S := Int × (List TWordEnds)) (V := Nat) (fun a v => ⟨[(1, slE eWordEnds p1), (2, gF p0), (5, .ar 96009 v eWordEnds.k 0 ((a.2).length)), (6, hI a2.1), (7, hI a.1)], [(96009, v, .arr eWordEnds.k 135 (eWordEnds.E a.2))]⟩) ?_ (X := (List TWordEnds)) (W := Nat) (fun a v => ⟨[(1, slE eWordEnds p1), (2, gF p0), (5, .ar 96009 v eWordEnds.k 0 ((a).length)), (6, hI a2.1)], [(96009, v, .arr eWordEnds.k 135 (eWordEnds.E a))]⟩) (fun a23 w24 h => ?_) (fun a6 w7 st8 h => ?_)
  ·exact to_L ⟨w3, rfl⟩
  ·refine AW.rg rfl fun K hK => mv rfl rfl (bv rfl (v_bin rfl rfl b_add) (mv rfl rfl ?_))
   refine b_nil (hK _ ?_)
   exact to_L ⟨(IntKind.wrap .i64 (a2.1 + 1), a23), w24, h, rfl⟩
  refine AW.seq ?_
  refine AW.rgs rfl fun K hK => mv rfl rfl (bv rfl (v_fieldAddrF fo24_0 rfl) (bv rfl (v_loadF ty3 rfl (l_lit rfl rfl)) (bv rfl (v_bin rfl rfl b_lss) ?_)))
  refine bf hK ⟨[(1, slE eWordEnds p1), (2, gF p0), (5, .ar 96009 w7 eWordEnds.k 0 ((a6.2).length)), (6, hI a2.1), (7, hI a6.1), (19, .bool (decide (a6.1 < p0.1)))], [(96009, w7, .arr eWordEnds.k 135 (eWordEnds.E a6.2))]⟩ ?_
  refine AW.cond rfl (fun hc => ?_) (fun hc => ?_)
  ·obtain ⟨hc, h⟩ := cT hc h
   refine AW.skip ?_
   refine AW.seqJ h (S := (List TWordEnds)) (V := Nat) (fun a v => ⟨[(1, slE eWordEnds p1), (2, gF p0), (5, .ar 96009 v eWordEnds.k 0 ((a).length)), (6, hI a2.1), (7, hI a6.1)], [(96009, v, .arr eWordEnds.k 135 (eWordEnds.E a))]⟩) (fun a10 w11 h => ?_) (fun k12 h => ?_)
   ·refine AW.rg rfl fun K hK => mv rfl rfl (bv rfl (v_bin rfl rfl b_add) (mv rfl rfl ?_))
    refine b_nil (hK _ ?_)
    exact to_L ⟨(IntKind.wrap .i64 (a6.1 + 1), a10), w11, h, rfl⟩
   refine AW.block ?_
   refine AW.dgs 9 follows rfl rfl fun K hK => ?_
   refine sv rfl (v_loadF ty24 rfl (l_litA rfl (lb rfl) rfl)) ?_
   refine sm rfl rfl ?_
   refine sm rfl rfl ?_
   obtain ⟨x13, h14, h⟩ := bS h
   refine sv rfl (v_idxF ty104 es104 rfl rfl (idx_lt h14)) ?_
   refine sv rfl (v_fieldAddrF fo135_1 rfl) ?_
   refine sv rfl (v_loadF ty55 rfl (l_cell eWordEnds h14 (o := 1) rfl rfl)) ?_
   refine sm rfl rfl ?_
   obtain ⟨x15, h16, h⟩ := bS h
   refine s_op rfl rfl (ops_call rfl rfl rfl rfl (ACallD.pure0 (w_ref11_Step h16)) ?_)
   refine sm rfl rfl ?_
   refine s_nil ?_
   refine bf hK ⟨[(1, slE eWordEnds p1), (2, gF p0), (5, .ar 96009 w7 eWordEnds.k 0 ((a6.2).length)), (6, hI a2.1), (7, hI a6.1), (8, slE eInt x15)], [(96009, w7, .arr eWordEnds.k 135 (eWordEnds.E a6.2))]⟩ ?_
   refine AW.rgs rfl fun K hK => mv rfl rfl (bv rfl (v_lenF rfl rfl ty55 rfl) (bv rfl (v_bin rfl rfl b_gtr) ?_))
   refine bf hK ⟨[(1, slE eWordEnds p1), (2, gF p0), (5, .ar 96009 w7 eWordEnds.k 0 ((a6.2).length)), (6, hI a2.1), (7, hI a6.1), (8, slE eInt x15), (32, .bool (decide (0 < ((x15).length : Int))))], [(96009, w7, .arr eWordEnds.k 135 (eWordEnds.E a6.2))]⟩ ?_
   refine AW.cond rfl (fun hc => ?_) (fun hc => ?_)
   ·obtain ⟨hc, h⟩ := cT hc h
    refine AW.dg 14 follows rfl rfl fun K hK => ?_
    refine sm rfl rfl ?_
    refine sm rfl rfl ?_
    refine sm rfl rfl ?_
    obtain ⟨x17, h18, h⟩ := bS h
    refine sv rfl (v_idxF ty104 es104 rfl rfl (idx_lt h18)) ?_
    refine sv rfl (v_fieldAddrF fo135_0 rfl) ?_
    refine sv rfl (v_loadF ty9 rfl (l_cell eWordEnds h18 (o := 0) rfl rfl)) ?_
    refine sm rfl rfl ?_
    refine sm rfl rfl ?_
    refine sv rfl (v_bin rfl rfl b_add) ?_
    obtain ⟨h19, h⟩ := ifN h
    refine sv rfl (v_sliceS ty9 rfl rfl rfl h19) ?_
    obtain ⟨h20, h⟩ := ifN h
    refine sv rfl (v_bin rfl rfl (b_sadd h20)) ?_
    refine sm rfl rfl ?_
    refine s_op rfl rfl (ops_build (cs := [.str (x17.1 ++ ((([48, 49, 50, 51, 52, 53, 54, 55, 56, 57, 97, 98, 99, 100, 101, 102] : List UInt8).take (IntKind.wrap .i64 (a6.1 + 1)).toNat).drop (a6.1).toNat)), slE eInt x15]) rfl (bl_of ty135 rfl rfl rfl rfl) ?_)
    refine s_op rfl rfl (ops_bsl rfl rfl (as_of (cs := [.str (x17.1 ++ ((([48, 49, 50, 51, 52, 53, 54, 55, 56, 57, 97, 98, 99, 100, 101, 102] : List UInt8).take (IntKind.wrap .i64 (a6.1 + 1)).toNat).drop (a6.1).toNat)), slE eInt x15]) ty104 ty135 rfl rfl rfl rfl rfl) ?_)
    refine s_nil ?_
    obtain ⟨h22, h⟩ := ifN h
    refine b_op rfl (o_appE eWordEnds (l := a6.2) (m := [(x17.1 ++ ((([48, 49, 50, 51, 52, 53, 54, 55, 56, 57, 97, 98, 99, 100, 101, 102] : List UInt8).take (IntKind.wrap .i64 (a6.1 + 1)).toNat).drop (a6.1).toNat), x15)]) rfl rfl ty104 ty104 ty135 rfl rfl rfl rfl rfl h22 (fun v21 => ?_))
    refine mv rfl rfl ?_
    refine b_nil (hK _ ?_)
    exact to_L ⟨a6.2 ++ [(x17.1 ++ ((([48, 49, 50, 51, 52, 53, 54, 55, 56, 57, 97, 98, 99, 100, 101, 102] : List UInt8).take (IntKind.wrap .i64 (a6.1 + 1)).toNat).drop (a6.1).toNat), x15)], v21, h, rfl⟩
   obtain ⟨hc, h⟩ := cF hc h
   refine AW.skip ?_
   exact to_L ⟨a6.2, w7, h, rfl⟩
  obtain ⟨hc, h⟩ := cF hc h
  refine AW.exit ?_
  exact to_L ⟨a6.2, w7, h, rfl⟩
 obtain ⟨hc, h⟩ := cF hc h
 refine AW.exit ?_
 exact to_L ⟨a2.2, w3, h, rfl⟩
theorem w_ref11_words {p0 : TLabelsStatesEdges} {p1 : List (Int)} {p2 : Int} {r : (List (TWordEnds)) × Int} (h : m_ref11_words p0 p1 p2 = some r) : Pure Tryz.prog 71 [gA p0, slE eInt p1, hI p2] (· = HV.tup [slE eWordEnds r.1, hI r.2]) := by
 unfold m_ref11_words at h
 refine Pure.of_body Tryz.func71 rfl rfl (lb rfl) fun hf => ?_
 unfold Tryz.f71
 dsimp only [enumS, Nat.reduceAdd]
 refine AW.rgs rfl fun K hK => b_op rfl (o_box rfl rfl rfl ?_)
 refine mv rfl rfl (mv rfl rfl ?_)
 refine bf hK ⟨[(1, slE eInt p1), (2, hI p2), (3, gF p0)], []⟩ ?_
 refine AW.rgs rfl fun K hK => b_op rfl (o_bslM (fid := 71) 71010 rfl rfl rfl (as_of (cs := []) ty104 ty135 rfl rfl rfl rfl rfl) (fun v1 => ?_))
 refine mv rfl rfl ?_
 refine bf hK ⟨[(1, slE eInt p1), (2, hI p2), (3, gF p0), (8, .ar 71010 v1 eWordEnds.k 0 0)], [(71010, v1, .arr eWordEnds.k 135 [])]⟩ ?_
 refine AW.seq ?_
 refine AW.rgs rfl fun K hK => mv rfl rfl (bv rfl (v_lenF rfl rfl ty55 rfl) (bv rfl (v_bin rfl rfl b_gtr) ?_))
 refine bf hK ⟨[(1, slE eInt p1), (2, hI p2), (3, gF p0), (8, .ar 71010 v1 eWordEnds.k 0 0), (13, .bool (decide (0 < ((p1).length : Int))))], [(71010, v1, .arr eWordEnds.k 135 [])]⟩ ?_
 refine AW.lastJ h (by first | exact up_then | exact up_to) (S := (List TWordEnds)) (V := Nat) (fun a v => ⟨[(2, hI p2), (3, gF p0), (8, .ar 71010 v eWordEnds.k 0 ((a).length))], [(71010, v, .arr eWordEnds.k 135 (eWordEnds.E a))]⟩) (fun a2 w3 h => ?_) (fun k4 h => ?_)
 ·refine AW.seq ?_
  refine AW.rgs rfl fun K hK => mv rfl rfl ?_
  refine bf hK ⟨[(2, hI p2), (3, gF p0), (8, .ar 71010 w3 eWordEnds.k 0 ((a2).length)), (9, hI 0)], [(71010, w3, .arr eWordEnds.k 135 (eWordEnds.E a2))]⟩ ?_
  refine AW.lpR h (by first | exact up_then | exact up_to) (S := (List TWordEnds) × Int) (V := Unit) (fun a v => ⟨[(2, hI p2), (3, gF p0), (8, slE eWordEnds a.1), (9, hI a.2)], []⟩) ?_ (X := (List TWordEnds)) (W := Unit) (fun a v => ⟨[(8, slE eWordEnds a)], []⟩) (fun a15 w16 h => ?_) (fun a5 w6 st7 h hr8=> ?_)
  ·refine to_bind (to_frz 2 [(71010, w3, .arr eWordEnds.k 135 (eWordEnds.E a2))] ⟨[(2, hI p2), (3, gF p0), (8, slE eWordEnds a2), (9, hI 0)], []⟩ ⟨⟨_, rfl, rfl⟩, ⟨_, rfl, rfl⟩, ⟨_, rfl, frz_slE eWordEnds (l := a2) rfl fun _ _ => rfl⟩, ⟨_, rfl, rfl⟩, trivial⟩ trivial ⟨rfl, trivial⟩ ⟨rfl, trivial⟩ ?_)
   exact to_L ⟨(), rfl⟩
  ·refine AW.rgs rfl fun K hK => mv rfl rfl (mv rfl rfl (mv rfl rfl ?_))
   refine bf hK ⟨[(6, slE eWordEnds a15), (7, hI 0)], []⟩ ?_
   refine AW.ret ?_
   have h := Option.some.inj h
   subst h
   exact ret_pure (hs := [slE eWordEnds a15, hI 0]) (.inr rfl) (resT rfl (resT rfl rfl)) rfl ⟨(clean_slE fun _ _ => ⟨trivial, (clean_slE fun _ _ => ⟨trivial, trivial⟩), trivial⟩), trivial, trivial⟩
  refine AW.seq ?_
  refine AW.seqJ h (S := Bool) (V := Unit) (fun a v => ⟨[(2, hI p2), (3, gF p0), (8, slE eWordEnds a5.1), (9, hI a5.2), (26, .bool a)], []⟩) (fun a9 w10 h => ?_) (fun k11 h => ?_)
  ·refine AW.cond rfl (fun hc => ?_) (fun hc => ?_)
   ·have h := ifT hc h
    refine AW.skip ?_
    refine AW.seq (AW.block ?_)
    refine AW.rgs rfl fun K hK => bv rfl (v_loadF ty24 rfl (l_litA rfl (lb rfl) rfl)) (mv rfl rfl ?_)
    obtain ⟨x12, h13, h⟩ := bS h
    refine b_op rfl (o_call rfl rfl rfl rfl (ACallD.pure0 (w_ref11_grow h13)) ?_)
    refine mv rfl rfl ?_
    refine bf hK ⟨[(2, hI p2), (3, gF p0), (8, slE eWordEnds x12), (9, hI a5.2)], []⟩ ?_
    refine AW.rgs rfl fun K hK => mv rfl rfl (bv rfl (v_lenF rfl rfl ty104 rfl) (bv rfl (v_bin rfl rfl b_gtr) ?_))
    refine bf hK ⟨[(2, hI p2), (3, gF p0), (8, slE eWordEnds x12), (9, hI a5.2), (34, .bool (decide (4096 < ((x12).length : Int))))], []⟩ ?_
    refine AW.cond rfl (fun hc => ?_) (fun hc => ?_)
    ·obtain ⟨hc, h⟩ := cT hc h
     refine AW.rgs rfl fun K hK => mv rfl rfl (mv rfl rfl ?_)
     refine bf hK ⟨[(6, .v (.slice none 0 0)), (7, hI 4)], []⟩ ?_
     have h := hr8 _ h
     refine AW.to (to_weak ⟨[(6, slE eWordEnds ([] : List TWordEnds)), (7, hI 4)], []⟩ ⟨⟨_, rfl, .nil _⟩, ⟨_, rfl, .refl _⟩, trivial⟩ trivial ?_)
     refine AW.ret ?_
     have h := Option.some.inj h
     subst h
     exact ret_pure (hs := [slE eWordEnds ([] : List TWordEnds), hI 4]) (.inr rfl) (resT rfl (resT rfl rfl)) rfl ⟨(clean_slE fun _ _ => ⟨trivial, (clean_slE fun _ _ => ⟨trivial, trivial⟩), trivial⟩), trivial, trivial⟩
    obtain ⟨hc, h⟩ := cF hc h
    refine AW.skip ?_
    refine AW.rg rfl fun K hK => mv rfl rfl (bv rfl (v_bin rfl rfl b_add) (mv rfl rfl ?_))
    refine b_nil (hK _ ?_)
    exact to_L ⟨(x12, IntKind.wrap .i64 (a5.2 + 1)), (), h, rfl⟩
   have h := ifF (bF' hc) h
   refine AW.exit ?_
   exact to_L ⟨a5.1, (), h, rfl⟩
  refine AW.rg rfl fun K hK => mv rfl rfl (mv rfl rfl (bv rfl (v_bin rfl rfl b_lss) (mv rfl rfl ?_)))
  by_cases hg14 : a5.2 < p2
  ·have h := ifT hg14 h
   refine b_T rfl rfl rfl rfl (decide_eq_true hg14) (o_val rfl (mv_val rfl rfl).2 ?_)
   refine b_T rfl rfl rfl rfl rfl (o_val rfl (v_lenF rfl rfl ty104 rfl) ?_)
   refine b_T rfl rfl rfl rfl rfl (o_val rfl (v_bin rfl rfl b_gtr) ?_)
   refine bv rfl (v_pickT rfl rfl rfl) ?_
   refine b_nil (hK _ ?_)
   exact to_L ⟨decide (0 < ((a5.1).length : Int)), (), h, rfl⟩
  have h := ifF hg14 h
  refine b_F rfl rfl rfl rfl rfl (decide_eq_false hg14) ?_
  refine b_F rfl rfl rfl rfl rfl rfl ?_
  refine b_F rfl rfl rfl rfl rfl rfl ?_
  refine bv rfl (v_pickF rfl rfl rfl) ?_
  refine b_nil (hK _ ?_)
  exact to_L ⟨false, (), h, rfl⟩
 refine AW.cond rfl (fun hc => ?_) (fun hc => ?_)
 ·obtain ⟨hc, h⟩ := cT hc h
  refine AW.rg rfl fun K hK => mv rfl rfl (mv rfl rfl ?_)
  refine b_op rfl (o_build (cs := [.str nS, slE eInt p1]) rfl (bl_of ty135 rfl rfl rfl rfl) ?_)
  refine b_op rfl (o_bsl rfl rfl (as_of (cs := [.str nS, slE eInt p1]) ty104 ty135 rfl rfl rfl rfl rfl) ?_)
  obtain ⟨h18, h⟩ := ifN h
  refine b_op rfl (o_appE eWordEnds (l := []) (m := [(nS, p1)]) rfl rfl ty104 ty104 ty135 rfl rfl rfl rfl rfl h18 (fun v17 => ?_))
  refine mv rfl rfl ?_
  refine b_nil (hK _ ?_)
  exact to_L ⟨([] : List TWordEnds) ++ [(nS, p1)], v17, h, rfl⟩
 obtain ⟨hc, h⟩ := cF hc h
 refine AW.skip ?_
 exact to_L ⟨[], v1, h, rfl⟩
theorem w_ref11_All {p0 : TLabelsStatesEdges} {r : (List (Int))} (h : m_ref11_All p0 = some r) : Pure Tryz.prog 72 [gA p0] (· = slE eInt r) := by
 unfold m_ref11_All at h
 refine Pure.of_body Tryz.func72 rfl rfl (lb rfl) fun hf => ?_
 unfold Tryz.f72
 dsimp only [enumS, Nat.reduceAdd]
 refine AW.rgs rfl fun K hK => b_op rfl (o_box rfl rfl rfl ?_)
 refine mv rfl rfl ?_
 refine bf hK ⟨[(1, gF p0)], []⟩ ?_
 refine AW.rgs rfl fun K hK => b_op rfl (o_bslM (fid := 72) 72005 rfl rfl rfl (as_of (cs := []) ty55 ty3 rfl rfl rfl rfl rfl) (fun v1 => ?_))
 refine mv rfl rfl ?_
 refine bf hK ⟨[(1, gF p0), (3, .ar 72005 v1 eInt.k 0 0)], [(72005, v1, .arr eInt.k 3 [])]⟩ ?_
 refine AW.seq ?_
 refine AW.rgs rfl fun K hK => mv rfl rfl ?_
 refine bf hK ⟨[(1, gF p0), (3, .ar 72005 v1 eInt.k 0 0), (4, hI 0)], [(72005, v1, .arr eInt.k 3 [])]⟩ ?_
 refine AW.lpX h (by first | exact up_then | exact up_to) (S := Int × (List Int)) (V := Nat) (fun a v => ⟨[(1, gF p0), (3, .ar 72005 v eInt.k 0 ((a.2).length)), (4, hI a.1)], [(72005, v, .arr eInt.k 3 (eInt.E a.2))]⟩) ?_ (X := (List Int)) (W := Nat) (fun a v => ⟨[(3, .ar 72005 v eInt.k 0 ((a).length))], [(72005, v, .arr eInt.k 3 (eInt.E a))]⟩) (fun a8 w9 h => ?_) (fun a2 w3 st4 h => ?_)
 ·exact to_L ⟨v1, rfl⟩
 ·refine AW.rgs rfl fun K hK => mv rfl rfl (mv rfl rfl ?_)
  refine bf hK ⟨[(2, .ar 72005 w9 eInt.k 0 ((a8).length))], [(72005, w9, .arr eInt.k 3 (eInt.E a8))]⟩ ?_
  refine AW.to (to_frz 2 [(72005, w9, .arr eInt.k 3 (eInt.E a8))] ⟨[(2, slE eInt a8)], []⟩ ⟨⟨_, rfl, frz_slE eInt (l := a8) rfl fun _ _ => rfl⟩, trivial⟩ trivial ⟨rfl, trivial⟩ ⟨rfl, trivial⟩ ?_)
  refine AW.ret ?_
  have h := Option.some.inj h
  subst h
  exact ret_pure (hs := [slE eInt a8]) (.inr rfl) (resT rfl rfl) rfl (clean_slE fun _ _ => ⟨trivial, trivial⟩)
 refine AW.seq ?_
 refine AW.rgs rfl fun K hK => mv rfl rfl (bv rfl (v_fieldAddrF fo24_1 rfl) (bv rfl (v_loadF ty3 rfl (l_lit rfl rfl)) (bv rfl (v_bin rfl rfl b_lss) ?_)))
 refine bf hK ⟨[(1, gF p0), (3, .ar 72005 w3 eInt.k 0 ((a2.2).length)), (4, hI a2.1), (9, .bool (decide (a2.1 < p0.2.1)))], [(72005, w3, .arr eInt.k 3 (eInt.E a2.2))]⟩ ?_
 refine AW.cond rfl (fun hc => ?_) (fun hc => ?_)
 ·obtain ⟨hc, h⟩ := cT hc h
  refine AW.skip ?_
  refine AW.seq (AW.block ?_)
  refine AW.rg rfl fun K hK => mv rfl rfl (mv rfl rfl ?_)
  refine b_op rfl (o_bsl rfl rfl (as_of (cs := [hI a2.1]) ty55 ty3 rfl rfl rfl rfl rfl) ?_)
  obtain ⟨h7, h⟩ := ifN h
  refine b_op rfl (o_appE eInt (l := a2.2) (m := [a2.1]) rfl rfl ty55 ty55 ty3 rfl rfl rfl rfl rfl h7 (fun v6 => ?_))
  refine mv rfl rfl ?_
  refine bf hK ⟨[(1, gF p0), (3, .ar 72005 v6 eInt.k 0 ((a2.2 ++ [a2.1]).length)), (4, hI a2.1)], [(72005, v6, .arr eInt.k 3 (eInt.E (a2.2 ++ [a2.1])))]⟩ ?_
  refine AW.rg rfl fun K hK => mv rfl rfl (bv rfl (v_bin rfl rfl b_add) (mv rfl rfl ?_))
  refine b_nil (hK _ ?_)
  exact to_L ⟨(IntKind.wrap .i64 (a2.1 + 1), a2.2 ++ [a2.1]), v6, h, rfl⟩
 obtain ⟨hc, h⟩ := cF hc h
 refine AW.exit ?_
 exact to_L ⟨a2.2, w3, h, rfl⟩
theorem w_ref11_texts {p0 : List (TWordEnds)} {r : (List (List UInt8))} (h : m_ref11_texts p0 = some r) : Pure Tryz.prog 73 [slE eWordEnds p0] (· = slE eStr r) := by
 unfold m_ref11_texts at h
 refine Pure.of_body Tryz.func73 rfl rfl (lb rfl) fun hf => ?_
 unfold Tryz.f73
 dsimp only [enumS, Nat.reduceAdd]
 refine AW.rgs rfl fun K hK => mv rfl rfl ?_
 refine bf hK ⟨[(0, slE eWordEnds p0)], []⟩ ?_
 refine AW.rgs rfl fun K hK => b_op rfl (o_bslM (fid := 73) 73005 rfl rfl rfl (as_of (cs := []) ty27 ty9 rfl rfl rfl rfl rfl) (fun v1 => ?_))
 refine mv rfl rfl ?_
 refine bf hK ⟨[(0, slE eWordEnds p0), (3, .ar 73005 v1 eStr.k 0 0)], [(73005, v1, .arr eStr.k 9 [])]⟩ ?_
 refine AW.seq ?_
 refine AW.rgs rfl fun K hK => mv rfl rfl ?_
 refine bf hK ⟨[(0, slE eWordEnds p0), (3, .ar 73005 v1 eStr.k 0 0), (4, hI 0)], [(73005, v1, .arr eStr.k 9 [])]⟩ ?_
 refine AW.lpX h (by first | exact up_then | exact up_to) (S := Int × (List (List UInt8))) (V := Nat) (fun a v => ⟨[(0, slE eWordEnds p0), (3, .ar 73005 v eStr.k 0 ((a.2).length)), (4, hI a.1)], [(73005, v, .arr eStr.k 9 (eStr.E a.2))]⟩) ?_ (X := (List (List UInt8))) (W := Nat) (fun a v => ⟨[(3, .ar 73005 v eStr.k 0 ((a).length))], [(73005, v, .arr eStr.k 9 (eStr.E a))]⟩) (fun a10 w11 h => ?_) (fun a2 w3 st4 h => ?_)
 ·exact to_L ⟨v1, rfl⟩
 ·refine AW.rgs rfl fun K hK => mv rfl rfl (mv rfl rfl ?_)
  refine bf hK ⟨[(2, .ar 73005 w11 eStr.k 0 ((a10).length))], [(73005, w11, .arr eStr.k 9 (eStr.E a10))]⟩ ?_
  refine AW.to (to_frz 2 [(73005, w11, .arr eStr.k 9 (eStr.E a10))] ⟨[(2, slE eStr a10)], []⟩ ⟨⟨_, rfl, frz_slE eStr (l := a10) rfl fun _ _ => rfl⟩, trivial⟩ trivial ⟨rfl, trivial⟩ ⟨rfl, trivial⟩ ?_)
  refine AW.ret ?_
  have h := Option.some.inj h
  subst h
  exact ret_pure (hs := [slE eStr a10]) (.inr rfl) (resT rfl rfl) rfl (clean_slE fun _ _ => ⟨trivial, trivial⟩)
 refine AW.seq ?_
 refine AW.rgs rfl fun K hK => mv rfl rfl (mv rfl rfl (bv rfl (v_lenF rfl rfl ty104 rfl) (bv rfl (v_bin rfl rfl b_lss) ?_)))
 refine bf hK ⟨[(0, slE eWordEnds p0), (3, .ar 73005 w3 eStr.k 0 ((a2.2).length)), (4, hI a2.1), (9, .bool (decide (a2.1 < ((p0).length : Int))))], [(73005, w3, .arr eStr.k 9 (eStr.E a2.2))]⟩ ?_
 refine AW.cond rfl (fun hc => ?_) (fun hc => ?_)
 ·obtain ⟨hc, h⟩ := cT hc h
  refine AW.skip ?_
  refine AW.seq (AW.block ?_)
  refine AW.rg rfl fun K hK => mv rfl rfl (mv rfl rfl (mv rfl rfl ?_))
  obtain ⟨x6, h7, h⟩ := bS h
  refine bv rfl (v_idxF ty104 es104 rfl rfl (idx_lt h7)) (bv rfl (v_fieldAddrF fo135_0 rfl) (bv rfl (v_loadF ty9 rfl (l_cell eWordEnds h7 (o := 0) rfl rfl)) ?_))
  refine b_op rfl (o_bsl rfl rfl (as_of (cs := [.str x6.1]) ty27 ty9 rfl rfl rfl rfl rfl) ?_)
  obtain ⟨h9, h⟩ := ifN h
  refine b_op rfl (o_appE eStr (l := a2.2) (m := [x6.1]) rfl rfl ty27 ty27 ty9 rfl rfl rfl rfl rfl h9 (fun v8 => ?_))
  refine mv rfl rfl ?_
  refine bf hK ⟨[(0, slE eWordEnds p0), (3, .ar 73005 v8 eStr.k 0 ((a2.2 ++ [x6.1]).length)), (4, hI a2.1)], [(73005, v8, .arr eStr.k 9 (eStr.E (a2.2 ++ [x6.1])))]⟩ ?_
  refine AW.rg rfl fun K hK => mv rfl rfl (bv rfl (v_bin rfl rfl b_add) (mv rfl rfl ?_))
  refine b_nil (hK _ ?_)
  exact to_L ⟨(IntKind.wrap .i64 (a2.1 + 1), a2.2 ++ [x6.1]), v8, h, rfl⟩
 obtain ⟨hc, h⟩ := cF hc h
 refine AW.exit ?_
 exact to_L ⟨a2.2, w3, h, rfl⟩
theorem w_ref11_Words {p0 : TLabelsStatesEdges} {p1 : Int} {r : (List (List UInt8)) × Int} (h : m_ref11_Words p0 p1 = some r) : Pure Tryz.prog 45 [gA p0, hI p1] (· = HV.tup [slE eStr r.1, hI r.2]) := by
 unfold m_ref11_Words at h
 refine Pure.of_body Tryz.func45 rfl rfl (lb rfl) fun hf => ?_
 unfold Tryz.f45
 dsimp only [enumS, Nat.reduceAdd]
 refine AW.rgs rfl fun K hK => b_op rfl (o_box rfl rfl rfl ?_)
 refine mv rfl rfl (mv rfl rfl ?_)
 refine bf hK ⟨[(1, hI p1), (2, gF p0)], []⟩ ?_
 refine AW.seq ?_
 refine AW.rgs rfl fun K hK => bv rfl (v_loadF ty24 rfl (l_litA rfl (lb rfl) rfl)) (mv rfl rfl ?_)
 obtain ⟨x1, h2, h⟩ := bS h
 refine b_op rfl (o_call rfl rfl rfl rfl (ACallD.pure0 (w_ref11_checkNumber h2)) ?_)
 refine mv rfl rfl ?_
 refine bf hK ⟨[(1, hI p1), (2, gF p0), (6, hI x1)], []⟩ ?_
 refine AW.rgs rfl fun K hK => mv rfl rfl (bv rfl (v_bin rfl rfl b_neq) ?_)
 refine bf hK ⟨[(1, hI p1), (2, gF p0), (6, hI x1), (13, .bool (decide (x1 ≠ 0)))], []⟩ ?_
 refine AW.cond rfl (fun hc => ?_) (fun hc => ?_)
 ·obtain ⟨hc, h⟩ := cT hc h
  refine AW.rgs rfl fun K hK => mv rfl rfl (mv rfl rfl (mv rfl rfl ?_))
  refine bf hK ⟨[(4, .v (.slice none 0 0)), (5, hI x1)], []⟩ ?_
  refine AW.to (to_weak ⟨[(4, slE eStr ([] : List (List UInt8))), (5, hI x1)], []⟩ ⟨⟨_, rfl, .nil _⟩, ⟨_, rfl, .refl _⟩, trivial⟩ trivial ?_)
  refine AW.ret ?_
  have h := Option.some.inj h
  subst h
  exact ret_pure (hs := [slE eStr ([] : List (List UInt8)), hI x1]) (.inr rfl) (resT rfl (resT rfl rfl)) rfl ⟨(clean_slE fun _ _ => ⟨trivial, trivial⟩), trivial, trivial⟩
 obtain ⟨hc, h⟩ := cF hc h
 refine AW.skip ?_
 refine AW.dgs 10 follows rfl rfl fun K hK => ?_
 refine sv rfl (v_loadF ty24 rfl (l_litA rfl (lb rfl) rfl)) ?_
 refine sv rfl (v_loadF ty24 rfl (l_litA rfl (lb rfl) rfl)) ?_
 obtain ⟨x3, h4, h⟩ := bS h
 refine s_op rfl rfl (ops_call rfl rfl rfl rfl (ACallD.pure0 (w_ref11_All h4)) ?_)
 refine sm rfl rfl ?_
 obtain ⟨x5, h6, h⟩ := bS h
 refine s_op rfl rfl (ops_call rfl rfl rfl rfl (ACallD.pure0 (w_ref11_words h6)) ?_)
 refine sm rfl rfl ?_
 refine sv rfl (v_extract rfl rfl) ?_
 refine sv rfl (v_extract rfl rfl) ?_
 refine sm rfl rfl ?_
 refine sm rfl rfl ?_
 refine s_nil ?_
 refine bf hK ⟨[(7, slE eWordEnds x5.1), (8, hI x5.2)], []⟩ ?_
 refine AW.seq ?_
 refine AW.rgs rfl fun K hK => mv rfl rfl (bv rfl (v_bin rfl rfl b_neq) ?_)
 refine bf hK ⟨[(7, slE eWordEnds x5.1), (8, hI x5.2), (24, .bool (decide (x5.2 ≠ 0)))], []⟩ ?_
 refine AW.cond rfl (fun hc => ?_) (fun hc => ?_)
 ·obtain ⟨hc, h⟩ := cT hc h
  refine AW.rgs rfl fun K hK => mv rfl rfl (mv rfl rfl (mv rfl rfl ?_))
  refine bf hK ⟨[(4, .v (.slice none 0 0)), (5, hI x5.2)], []⟩ ?_
  refine AW.to (to_weak ⟨[(4, slE eStr ([] : List (List UInt8))), (5, hI x5.2)], []⟩ ⟨⟨_, rfl, .nil _⟩, ⟨_, rfl, .refl _⟩, trivial⟩ trivial ?_)
  refine AW.ret ?_
  have h := Option.some.inj h
  subst h
  exact ret_pure (hs := [slE eStr ([] : List (List UInt8)), hI x5.2]) (.inr rfl) (resT rfl (resT rfl rfl)) rfl ⟨(clean_slE fun _ _ => ⟨trivial, trivial⟩), trivial, trivial⟩
 obtain ⟨hc, h⟩ := cF hc h
 refine AW.skip ?_
 refine AW.rgs rfl fun K hK => mv rfl rfl ?_
 obtain ⟨x7, h8, h⟩ := bS h
 refine b_op rfl (o_call rfl rfl rfl rfl (ACallD.pure0 (w_ref11_texts h8)) ?_)
 refine mv rfl rfl (mv rfl rfl ?_)
 refine bf hK ⟨[(4, slE eStr x7), (5, hI 0)], []⟩ ?_
 refine AW.ret ?_
 have h := Option.some.inj h
 subst h
 exact ret_pure (hs := [slE eStr x7, hI 0]) (.inr rfl) (resT rfl (resT rfl rfl)) rfl ⟨(clean_slE fun _ _ => ⟨trivial, trivial⟩), trivial, trivial⟩
theorem w_ref54_Damaged {p0 : TLabelsStatesEdges} {p1 : List UInt8} {p2 : Int} {r : Int × Int} (h : m_ref54_Damaged p0 p1 p2 = some r) : Pure Tryz.prog 25 [gA p0, .str p1, hI p2] (· = HV.tup [hI r.1, hI r.2]) := by
 unfold m_ref54_Damaged at h
 refine Pure.of_body Tryz.func25 rfl rfl (lb rfl) fun hf => ?_
 unfold Tryz.f25
 dsimp only [enumS, Nat.reduceAdd]
 refine AW.rgs rfl fun K hK => b_op rfl (o_box rfl rfl rfl ?_)
 refine mv rfl rfl (mv rfl rfl ?_)
 refine bf hK ⟨[(1, .str p1), (2, hI p2), (3, gF p0)], []⟩ ?_
 refine AW.seq ?_
 refine AW.rgs rfl fun K hK => bv rfl (v_loadF ty24 rfl (l_litA rfl (lb rfl) rfl)) (mv rfl rfl ?_)
 obtain ⟨x1, h2, h⟩ := bS h
 refine b_op rfl (o_call rfl rfl rfl rfl (ACallD.pure0 (w_ref54_check h2)) ?_)
 refine mv rfl rfl ?_
 refine bf hK ⟨[(1, .str p1), (2, hI p2), (3, gF p0), (8, hI x1)], []⟩ ?_
 refine AW.rgs rfl fun K hK => mv rfl rfl (bv rfl (v_bin rfl rfl b_neq) ?_)
 refine bf hK ⟨[(1, .str p1), (2, hI p2), (3, gF p0), (8, hI x1), (21, .bool (decide (x1 ≠ 0)))], []⟩ ?_
 refine AW.cond rfl (fun hc => ?_) (fun hc => ?_)
 ·obtain ⟨hc, h⟩ := cT hc h
  refine AW.rgs rfl fun K hK => mv rfl rfl (mv rfl rfl (mv rfl rfl ?_))
  refine bf hK ⟨[(6, hI 0), (7, hI x1)], []⟩ ?_
  refine AW.ret ?_
  have h := Option.some.inj h
  subst h
  exact ret_pure (hs := [hI 0, hI x1]) (.inr rfl) (resT rfl (resT rfl rfl)) rfl ⟨trivial, trivial, trivial⟩
 obtain ⟨hc, h⟩ := cF hc h
 refine AW.skip ?_
 refine AW.seq ?_
 refine AW.seqJ h (S := Bool) (V := Unit) (fun a v => ⟨[(1, .str p1), (2, hI p2), (3, gF p0), (28, .bool a)], []⟩) (fun a3 w4 h => ?_) (fun k5 h => ?_)
 ·refine AW.cond rfl (fun hc => ?_) (fun hc => ?_)
  ·have h := ifT hc h
   refine AW.rgs rfl fun K hK => mv rfl rfl (mv rfl rfl ?_)
   refine bf hK ⟨[(6, hI 0), (7, hI 2)], []⟩ ?_
   refine AW.ret ?_
   have h := Option.some.inj h
   subst h
   exact ret_pure (hs := [hI 0, hI 2]) (.inr rfl) (resT rfl (resT rfl rfl)) rfl ⟨trivial, trivial, trivial⟩
  have h := ifF (bF' hc) h
  refine AW.skip ?_
  refine AW.rgs rfl fun K hK => bv rfl (v_loadF ty24 rfl (l_litA rfl (lb rfl) rfl)) (mv rfl rfl ?_)
  obtain ⟨x6, h7, h⟩ := bS h
  refine b_op rfl (o_call rfl rfl rfl rfl (ACallD.pure0 (w_ref11_Words h7)) ?_)
  refine mv rfl rfl (bv rfl (v_extract rfl rfl) (bv rfl (v_extract rfl rfl) (mv rfl rfl (mv rfl rfl ?_))))
  refine bf hK ⟨[(1, .str p1), (9, slE eStr x6.1), (10, hI x6.2)], []⟩ ?_
  refine AW.seq ?_
  refine AW.rgs rfl fun K hK => mv rfl rfl (bv rfl (v_bin rfl rfl b_neq) ?_)
  refine bf hK ⟨[(1, .str p1), (9, slE eStr x6.1), (10, hI x6.2), (36, .bool (decide (x6.2 ≠ 0)))], []⟩ ?_
  refine AW.cond rfl (fun hc => ?_) (fun hc => ?_)
  ·obtain ⟨hc, h⟩ := cT hc h
   refine AW.rgs rfl fun K hK => mv rfl rfl (mv rfl rfl (mv rfl rfl ?_))
   refine bf hK ⟨[(6, hI 0), (7, hI x6.2)], []⟩ ?_
   refine AW.ret ?_
   have h := Option.some.inj h
   subst h
   exact ret_pure (hs := [hI 0, hI x6.2]) (.inr rfl) (resT rfl (resT rfl rfl)) rfl ⟨trivial, trivial, trivial⟩
  obtain ⟨hc, h⟩ := cF hc h
  refine AW.skip ?_
  refine AW.rgs rfl fun K hK => mv rfl rfl ?_
  refine bf hK ⟨[(1, .str p1), (9, slE eStr x6.1), (11, hI (-1))], []⟩ ?_
  refine AW.seq ?_
  refine AW.rgs rfl fun K hK => mv rfl rfl ?_
  refine bf hK ⟨[(1, .str p1), (9, slE eStr x6.1), (11, hI (-1)), (12, hI 0)], []⟩ ?_
  refine AW.lpX h (by first | exact up_then | exact up_to) (S := Int × Int) (V := Unit) (fun a v => ⟨[(1, .str p1), (9, slE eStr x6.1), (11, hI a.1), (12, hI a.2)], []⟩) ?_ (X := Int) (W := Unit) (fun a v => ⟨[(11, hI a)], []⟩) (fun a42 w43 h => ?_) (fun a8 w9 st10 h => ?_)
  ·exact to_L ⟨(), rfl⟩
  ·refine AW.seq ?_
   refine AW.rgs rfl fun K hK => mv rfl rfl (bv rfl (v_bin rfl rfl b_lss) ?_)
   refine bf hK ⟨[(11, hI a42), (87, .bool (decide (a42 < 0)))], []⟩ ?_
   refine AW.cond rfl (fun hc => ?_) (fun hc => ?_)
   ·obtain ⟨hc, h⟩ := cT hc h
    refine AW.rgs rfl fun K hK => mv rfl rfl (mv rfl rfl ?_)
    refine bf hK ⟨[(6, hI 0), (7, hI 5)], []⟩ ?_
    refine AW.ret ?_
    have h := Option.some.inj h
    subst h
    exact ret_pure (hs := [hI 0, hI 5]) (.inr rfl) (resT rfl (resT rfl rfl)) rfl ⟨trivial, trivial, trivial⟩
   obtain ⟨hc, h⟩ := cF hc h
   refine AW.skip ?_
   refine AW.rgs rfl fun K hK => mv rfl rfl (mv rfl rfl (mv rfl rfl ?_))
   refine bf hK ⟨[(6, hI a42), (7, hI 0)], []⟩ ?_
   refine AW.ret ?_
   have h := Option.some.inj h
   subst h
   exact ret_pure (hs := [hI a42, hI 0]) (.inr rfl) (resT rfl (resT rfl rfl)) rfl ⟨trivial, trivial, trivial⟩
  refine AW.seq ?_
  refine AW.rgs rfl fun K hK => mv rfl rfl (mv rfl rfl (bv rfl (v_lenF rfl rfl ty27 rfl) (bv rfl (v_bin rfl rfl b_lss) ?_)))
  refine bf hK ⟨[(1, .str p1), (9, slE eStr x6.1), (11, hI a8.1), (12, hI a8.2), (41, .bool (decide (a8.2 < ((x6.1).length : Int))))], []⟩ ?_
  refine AW.cond rfl (fun hc => ?_) (fun hc => ?_)
  ·obtain ⟨hc, h⟩ := cT hc h
   refine AW.skip ?_
   refine AW.seq (AW.block ?_)
   refine AW.rgs rfl fun K hK => mv rfl rfl (mv rfl rfl (mv rfl rfl ?_))
   obtain ⟨x12, h13, h⟩ := bS h
   refine bv rfl (v_idxF ty27 es27 rfl rfl (idx_lt h13)) (bv rfl (v_loadF ty9 rfl (l_cell eStr h13 (o := 0) rfl rfl)) ?_)
   obtain ⟨h14, h⟩ := ifN h
   refine bv rfl (v_bin rfl rfl (b_sadd h14)) (mv rfl rfl ?_)
   obtain ⟨h15, h⟩ := ifN h
   refine bv rfl (v_bin rfl rfl (b_sadd h15)) (mv rfl rfl ?_)
   refine bf hK ⟨[(1, .str p1), (9, slE eStr x6.1), (11, hI a8.1), (12, hI a8.2), (13, .str ((p1 ++ x12) ++ p1))], []⟩ ?_
   refine AW.rgs rfl fun K hK => mv rfl rfl ?_
   refine bf hK ⟨[(1, .str p1), (9, slE eStr x6.1), (11, hI a8.1), (12, hI a8.2), (13, .str ((p1 ++ x12) ++ p1)), (14, hI 1)], []⟩ ?_
   refine AW.lpX h (by first | exact up_then | exact up_to) (S := Int × Int) (V := Unit) (fun a v => ⟨[(1, .str p1), (9, slE eStr x6.1), (11, hI a.1), (12, hI a8.2), (13, .str ((p1 ++ x12) ++ p1)), (14, hI a.2)], []⟩) ?_ (X := Int) (W := Unit) (fun a v => ⟨[(1, .str p1), (9, slE eStr x6.1), (11, hI a), (12, hI a8.2)], []⟩) (fun a40 w41 h => ?_) (fun a16 w17 st18 h => ?_)
   ·exact to_L ⟨(), rfl⟩
   ·refine AW.rg rfl fun K hK => mv rfl rfl (bv rfl (v_bin rfl rfl b_add) (mv rfl rfl ?_))
    refine b_nil (hK _ ?_)
    exact to_L ⟨(a40, IntKind.wrap .i64 (a8.2 + 1)), (), h, rfl⟩
   refine AW.seq ?_
   refine AW.rgs rfl fun K hK => mv rfl rfl (mv rfl rfl (bv rfl (v_lenS rfl rfl ty9 rfl) (bv rfl (v_bin rfl rfl b_add) (mv rfl rfl (bv rfl (v_lenS rfl rfl ty9 rfl) ?_)))))
   refine bv rfl (v_bin rfl rfl b_lss) ?_
   refine bf hK ⟨[(1, .str p1), (9, slE eStr x6.1), (11, hI a16.1), (12, hI a8.2), (13, .str ((p1 ++ x12) ++ p1)), (14, hI a16.2), (58, .bool (decide ((IntKind.wrap .i64 (a16.2 + ((p1).length : Int))) < (((p1 ++ x12) ++ p1).length : Int))))], []⟩ ?_
   refine AW.cond rfl (fun hc => ?_) (fun hc => ?_)
   ·obtain ⟨hc, h⟩ := cT hc h
    refine AW.skip ?_
    refine AW.seqJ h (S := Int) (V := Unit) (fun a v => ⟨[(1, .str p1), (9, slE eStr x6.1), (11, hI a), (12, hI a8.2), (13, .str ((p1 ++ x12) ++ p1)), (14, hI a16.2)], []⟩) (fun a20 w21 h => ?_) (fun k22 h => ?_)
    ·refine AW.rg rfl fun K hK => mv rfl rfl (bv rfl (v_bin rfl rfl b_add) (mv rfl rfl ?_))
     refine b_nil (hK _ ?_)
     exact to_L ⟨(a20, IntKind.wrap .i64 (a16.2 + 1)), (), h, rfl⟩
    refine AW.block ?_
    refine AW.rgs rfl fun K hK => mv rfl rfl ?_
    refine bf hK ⟨[(1, .str p1), (9, slE eStr x6.1), (11, hI a16.1), (12, hI a8.2), (13, .str ((p1 ++ x12) ++ p1)), (14, hI a16.2), (15, hI 0)], []⟩ ?_
    refine AW.seq ?_
    refine AW.rgs rfl fun K hK => mv rfl rfl ?_
    refine bf hK ⟨[(1, .str p1), (9, slE eStr x6.1), (11, hI a16.1), (12, hI a8.2), (13, .str ((p1 ++ x12) ++ p1)), (14, hI a16.2), (15, hI 0), (16, hI 0)], []⟩ ?_
    refine AW.lpX h (by first | exact up_then | exact up_to) (S := Int × Int) (V := Unit) (fun a v => ⟨[(1, .str p1), (9, slE eStr x6.1), (11, hI a16.1), (12, hI a8.2), (13, .str ((p1 ++ x12) ++ p1)), (14, hI a16.2), (15, hI a.1), (16, hI a.2)], []⟩) ?_ (X := Int) (W := Unit) (fun a v => ⟨[(1, .str p1), (9, slE eStr x6.1), (11, hI a16.1), (12, hI a8.2), (13, .str ((p1 ++ x12) ++ p1)), (14, hI a16.2), (15, hI a)], []⟩) (fun a34 w35 h => ?_) (fun a23 w24 st25 h => ?_)
    ·exact to_L ⟨(), rfl⟩
    ·refine AW.seqJ h (S := Bool) (V := Unit) (fun a v => ⟨[(1, .str p1), (9, slE eStr x6.1), (11, hI a16.1), (12, hI a8.2), (13, .str ((p1 ++ x12) ++ p1)), (14, hI a16.2), (15, hI a34), (84, .bool a)], []⟩) (fun a36 w37 h => ?_) (fun k38 h => ?_)
     ·refine AW.cond rfl (fun hc => ?_) (fun hc => ?_)
      ·have h := ifT hc h
       refine AW.rg rfl fun K hK => mv rfl rfl (mv rfl rfl ?_)
       refine b_nil (hK _ ?_)
       exact to_L ⟨a34, (), h, rfl⟩
      have h := ifF (bF' hc) h
      refine AW.skip ?_
      exact to_L ⟨a16.1, (), h, rfl⟩
     refine AW.rg rfl fun K hK => mv rfl rfl (bv rfl (v_bin rfl rfl b_lss) (mv rfl rfl ?_))
     by_cases hg39 : a16.1 < 0
     ·have h := ifT hg39 h
      refine b_F rfl rfl rfl rfl rfl (decide_eq_true hg39) ?_
      refine b_F rfl rfl rfl rfl rfl rfl ?_
      refine b_F rfl rfl rfl rfl rfl rfl ?_
      refine bv rfl (v_pickT rfl rfl rfl) ?_
      refine b_nil (hK _ ?_)
      exact to_L ⟨true, (), h, rfl⟩
     have h := ifF hg39 h
     refine b_T rfl rfl rfl rfl (decide_eq_false hg39) (o_val rfl (mv_val rfl rfl).2 ?_)
     refine b_T rfl rfl rfl rfl rfl (o_val rfl (mv_val rfl rfl).2 ?_)
     refine b_T rfl rfl rfl rfl rfl (o_val rfl (v_bin rfl rfl b_lss) ?_)
     refine bv rfl (v_pickF rfl rfl rfl) ?_
     refine b_nil (hK _ ?_)
     exact to_L ⟨decide (a34 < a16.1), (), h, rfl⟩
    refine AW.seq ?_
    refine AW.rgs rfl fun K hK => mv rfl rfl (mv rfl rfl (bv rfl (v_lenS rfl rfl ty9 rfl) (bv rfl (v_bin rfl rfl b_lss) ?_)))
    refine bf hK ⟨[(1, .str p1), (9, slE eStr x6.1), (11, hI a16.1), (12, hI a8.2), (13, .str ((p1 ++ x12) ++ p1)), (14, hI a16.2), (15, hI a23.1), (16, hI a23.2), (64, .bool (decide (a23.2 < ((p1).length : Int))))], []⟩ ?_
    refine AW.cond rfl (fun hc => ?_) (fun hc => ?_)
    ·obtain ⟨hc, h⟩ := cT hc h
     refine AW.skip ?_
     refine AW.seqJ h (S := Int) (V := Unit) (fun a v => ⟨[(1, .str p1), (9, slE eStr x6.1), (11, hI a16.1), (12, hI a8.2), (13, .str ((p1 ++ x12) ++ p1)), (14, hI a16.2), (15, hI a), (16, hI a23.2)], []⟩) (fun a27 w28 h => ?_) (fun k29 h => ?_)
     ·refine AW.rg rfl fun K hK => mv rfl rfl (bv rfl (v_bin rfl rfl b_add) (mv rfl rfl ?_))
      refine b_nil (hK _ ?_)
      exact to_L ⟨(a27, IntKind.wrap .i64 (a23.2 + 1)), (), h, rfl⟩
     refine AW.block ?_
     refine AW.dgs 9 follows rfl rfl fun K hK => ?_
     refine sm rfl rfl ?_
     refine sm rfl rfl ?_
     refine sm rfl rfl ?_
     refine sv rfl (v_bin rfl rfl b_add) ?_
     obtain ⟨x30, h31, h⟩ := bS h
     refine sv rfl (v_idxS ty9 rfl rfl h31) ?_
     refine sm rfl rfl ?_
     refine sm rfl rfl ?_
     obtain ⟨x32, h33, h⟩ := bS h
     refine sv rfl (v_idxS ty9 rfl rfl h33) ?_
     refine sv rfl (v_bin rfl rfl b_neq) ?_
     refine s_nil ?_
     refine bf hK ⟨[(1, .str p1), (9, slE eStr x6.1), (11, hI a16.1), (12, hI a8.2), (13, .str ((p1 ++ x12) ++ p1)), (14, hI a16.2), (15, hI a23.1), (16, hI a23.2), (75, .bool (decide ((x30.toNat : Int) ≠ (x32.toNat : Int))))], []⟩ ?_
     refine AW.cond rfl (fun hc => ?_) (fun hc => ?_)
     ·obtain ⟨hc, h⟩ := cT hc h
      refine AW.rg rfl fun K hK => mv rfl rfl (bv rfl (v_bin rfl rfl b_add) (mv rfl rfl ?_))
      refine b_nil (hK _ ?_)
      exact to_L ⟨IntKind.wrap .i64 (a23.1 + 1), (), h, rfl⟩
     obtain ⟨hc, h⟩ := cF hc h
     refine AW.skip ?_
     exact to_L ⟨a23.1, (), h, rfl⟩
    obtain ⟨hc, h⟩ := cF hc h
    refine AW.exit ?_
    exact to_L ⟨a23.1, (), h, rfl⟩
   obtain ⟨hc, h⟩ := cF hc h
   refine AW.exit ?_
   exact to_L ⟨a16.1, (), h, rfl⟩
  obtain ⟨hc, h⟩ := cF hc h
  refine AW.exit ?_
  exact to_L ⟨a8.1, (), h, rfl⟩
 refine AW.rg rfl fun K hK => mv rfl rfl (bv rfl (v_bin rfl rfl b_lss) (mv rfl rfl ?_))
 by_cases hg44 : p2 < 0
 ·have h := ifT hg44 h
  refine b_F rfl rfl rfl rfl rfl (decide_eq_true hg44) ?_
  refine b_F rfl rfl rfl rfl rfl rfl ?_
  refine bv rfl (v_pickT rfl rfl rfl) ?_
  refine b_nil (hK _ ?_)
  exact to_L ⟨true, (), h, rfl⟩
 have h := ifF hg44 h
 refine b_T rfl rfl rfl rfl (decide_eq_false hg44) (o_val rfl (mv_val rfl rfl).2 ?_)
 refine b_T rfl rfl rfl rfl rfl (o_val rfl (v_bin rfl rfl b_gtr) ?_)
 refine bv rfl (v_pickF rfl rfl rfl) ?_
 refine b_nil (hK _ ?_)
 exact to_L ⟨decide (12 < p2), (), h, rfl⟩
theorem w_law54_SyncmarkSearches {p0 : TLabelsStatesEdges} {p1 : List UInt8} {p2 : Int} {p3 : Int} {p4 : Int} {r : Bool} (h : m_law54_SyncmarkSearches p0 p1 p2 p3 p4 = some r) : Pure Tryz.prog 7 [gA p0, .str p1, hI p2, hI p3, hI p4] (· = HV.bool r) := by
 unfold m_law54_SyncmarkSearches at h
 refine Pure.of_body Tryz.func7 rfl rfl (lb rfl) fun hf => ?_
 unfold Tryz.f7
 dsimp only [enumS, Nat.reduceAdd]
 refine AW.rgs rfl fun K hK => b_op rfl (o_box rfl rfl rfl ?_)
 refine mv rfl rfl ?_
 refine bf hK ⟨[(1, .str p1), (2, hI p2), (3, hI p3), (4, hI p4), (5, gF p0)], []⟩ ?_
 refine AW.seq ?_
 refine AW.seqJ h (S := Bool) (V := Unit) (fun a v => ⟨[(1, .str p1), (2, hI p2), (3, hI p3), (4, hI p4), (5, gF p0), (40, .bool a)], []⟩) (fun a1 w2 h => ?_) (fun k3 h => ?_)
 ·refine AW.cond rfl (fun hc => ?_) (fun hc => ?_)
  ·have h := ifT hc h
   refine AW.rgs rfl fun K hK => ?_
   obtain ⟨x4, h5, h⟩ := bS h
   refine b_op rfl (o_call rfl rfl rfl rfl (ACallD.pure0 (w_law54_awake h5)) ?_)
   refine mv rfl rfl ?_
   refine bf hK ⟨[(10, .bool x4)], []⟩ ?_
   refine AW.ret ?_
   have h := Option.some.inj h
   subst h
   exact ret_pure (hs := [.bool x4]) (.inr rfl) (resT rfl rfl) rfl trivial
  have h := ifF (bF' hc) h
  refine AW.skip ?_
  refine AW.rgs rfl fun K hK => bv rfl (v_loadF ty24 rfl (l_litA rfl (lb rfl) rfl)) (mv rfl rfl (mv rfl rfl (mv rfl rfl ?_)))
  obtain ⟨x6, h7, h⟩ := bS h
  refine b_op rfl (o_call rfl rfl rfl rfl (ACallD.pure0 (w_syncmark_Search h7)) ?_)
  refine mv rfl rfl (bv rfl (v_extract rfl rfl) (bv rfl (v_extract rfl rfl) (mv rfl rfl (mv rfl rfl ?_))))
  refine bf hK ⟨[(1, .str p1), (2, hI p2), (3, hI p3), (4, hI p4), (5, gF p0), (11, .str x6.1), (12, hI x6.2)], []⟩ ?_
  refine AW.rgs rfl fun K hK => bv rfl (v_loadF ty24 rfl (l_litA rfl (lb rfl) rfl)) (mv rfl rfl (mv rfl rfl (mv rfl rfl ?_)))
  obtain ⟨x8, h9, h⟩ := bS h
  refine b_op rfl (o_call rfl rfl rfl rfl (ACallD.pure0 (w_ref54_Search h9)) ?_)
  refine mv rfl rfl (bv rfl (v_extract rfl rfl) (bv rfl (v_extract rfl rfl) (mv rfl rfl (mv rfl rfl ?_))))
  refine bf hK ⟨[(1, .str p1), (2, hI p2), (5, gF p0), (11, .str x6.1), (12, hI x6.2), (13, .str x8.1), (14, hI x8.2)], []⟩ ?_
  refine AW.rgs rfl fun K hK => bv rfl (v_loadF ty24 rfl (l_litA rfl (lb rfl) rfl)) (mv rfl rfl (mv rfl rfl ?_))
  obtain ⟨x10, h11, h⟩ := bS h
  refine b_op rfl (o_call rfl rfl rfl rfl (ACallD.pure0 (w_syncmark_Damaged h11)) ?_)
  refine mv rfl rfl (bv rfl (v_extract rfl rfl) (bv rfl (v_extract rfl rfl) (mv rfl rfl (mv rfl rfl ?_))))
  refine bf hK ⟨[(1, .str p1), (2, hI p2), (5, gF p0), (11, .str x6.1), (12, hI x6.2), (13, .str x8.1), (14, hI x8.2), (15, hI x10.1), (16, hI x10.2)], []⟩ ?_
  refine AW.rgs rfl fun K hK => bv rfl (v_loadF ty24 rfl (l_litA rfl (lb rfl) rfl)) (mv rfl rfl (mv rfl rfl ?_))
  obtain ⟨x12, h13, h⟩ := bS h
  refine b_op rfl (o_call rfl rfl rfl rfl (ACallD.pure0 (w_ref54_Damaged h13)) ?_)
  refine mv rfl rfl (bv rfl (v_extract rfl rfl) (bv rfl (v_extract rfl rfl) (mv rfl rfl (mv rfl rfl ?_))))
  refine bf hK ⟨[(11, .str x6.1), (12, hI x6.2), (13, .str x8.1), (14, hI x8.2), (15, hI x10.1), (16, hI x10.2), (17, hI x12.1), (18, hI x12.2)], []⟩ ?_
  refine AW.seqJ h (S := Bool) (V := Unit) (fun a v => ⟨[(10, .bool a)], []⟩) (fun a14 w15 h => ?_) (fun k16 h => ?_)
  ·refine AW.ret ?_
   have h := Option.some.inj h
   subst h
   exact ret_pure (hs := [.bool a14]) (.inr rfl) (resT rfl rfl) rfl trivial
  refine AW.rg rfl fun K hK => mv rfl rfl (mv rfl rfl (bv rfl (v_bin rfl rfl b_seql) (mv rfl rfl ?_)))
  by_cases hg22 : x6.1 = x8.1
  ·have h := ifT hg22 h
   refine b_T rfl rfl rfl rfl (decide_eq_true hg22) (o_val rfl (mv_val rfl rfl).2 ?_)
   refine b_T rfl rfl rfl rfl rfl (o_val rfl (mv_val rfl rfl).2 ?_)
   refine b_T rfl rfl rfl rfl rfl (o_val rfl (v_bin rfl rfl b_eql) ?_)
   refine bv rfl (v_pickT rfl rfl rfl) (mv rfl rfl ?_)
   by_cases hg21 : x6.2 = x8.2
   ·have h := ifT hg21 h
    refine b_T rfl rfl rfl rfl (decide_eq_true hg21) (o_val rfl (mv_val rfl rfl).2 ?_)
    refine b_T rfl rfl rfl rfl rfl (o_val rfl (mv_val rfl rfl).2 ?_)
    refine b_T rfl rfl rfl rfl rfl (o_val rfl (v_bin rfl rfl b_eql) ?_)
    refine bv rfl (v_pickT rfl rfl rfl) (mv rfl rfl ?_)
    by_cases hg20 : x10.1 = x12.1
    ·have h := ifT hg20 h
     refine b_T rfl rfl rfl rfl (decide_eq_true hg20) (o_val rfl (mv_val rfl rfl).2 ?_)
     refine b_T rfl rfl rfl rfl rfl (o_val rfl (mv_val rfl rfl).2 ?_)
     refine b_T rfl rfl rfl rfl rfl (o_val rfl (v_bin rfl rfl b_eql) ?_)
     refine bv rfl (v_pickT rfl rfl rfl) (mv rfl rfl ?_)
     by_cases hg19 : x10.2 = x12.2
     ·have h := ifT hg19 h
      obtain ⟨x17, h18, h⟩ := bS h
      refine b_T rfl rfl rfl rfl (decide_eq_true hg19) (o_call rfl rfl rfl rfl (ACallD.pure0 (w_law54_awake h18)) ?_)
      refine bv rfl (v_pickT rfl rfl rfl) (mv rfl rfl ?_)
      refine b_nil (hK _ ?_)
      exact to_L ⟨x17, (), h, rfl⟩
     have h := ifF hg19 h
     refine b_F rfl rfl rfl rfl rfl (decide_eq_false hg19) ?_
     refine bv rfl (v_pickF rfl rfl rfl) (mv rfl rfl ?_)
     refine b_nil (hK _ ?_)
     exact to_L ⟨false, (), h, rfl⟩
    have h := ifF hg20 h
    refine b_F rfl rfl rfl rfl rfl (decide_eq_false hg20) ?_
    refine b_F rfl rfl rfl rfl rfl rfl ?_
    refine b_F rfl rfl rfl rfl rfl rfl ?_
    refine bv rfl (v_pickF rfl rfl rfl) (mv rfl rfl ?_)
    refine b_F rfl rfl rfl rfl rfl rfl ?_
    refine bv rfl (v_pickF rfl rfl rfl) (mv rfl rfl ?_)
    refine b_nil (hK _ ?_)
    exact to_L ⟨false, (), h, rfl⟩
   have h := ifF hg21 h
   refine b_F rfl rfl rfl rfl rfl (decide_eq_false hg21) ?_
   refine b_F rfl rfl rfl rfl rfl rfl ?_
   refine b_F rfl rfl rfl rfl rfl rfl ?_
   refine bv rfl (v_pickF rfl rfl rfl) (mv rfl rfl ?_)
   refine b_F rfl rfl rfl rfl rfl rfl ?_
   refine b_F rfl rfl rfl rfl rfl rfl ?_
   refine b_F rfl rfl rfl rfl rfl rfl ?_
   refine bv rfl (v_pickF rfl rfl rfl) (mv rfl rfl ?_)
   refine b_F rfl rfl rfl rfl rfl rfl ?_
   refine bv rfl (v_pickF rfl rfl rfl) (mv rfl rfl ?_)
   refine b_nil (hK _ ?_)
   exact to_L ⟨false, (), h, rfl⟩
  have h := ifF hg22 h
  refine b_F rfl rfl rfl rfl rfl (decide_eq_false hg22) ?_
  refine b_F rfl rfl rfl rfl rfl rfl ?_
  refine b_F rfl rfl rfl rfl rfl rfl ?_
  refine bv rfl (v_pickF rfl rfl rfl) (mv rfl rfl ?_)
  refine b_F rfl rfl rfl rfl rfl rfl ?_
  refine b_F rfl rfl rfl rfl rfl rfl ?_
  refine b_F rfl rfl rfl rfl rfl rfl ?_
  refine bv rfl (v_pickF rfl rfl rfl) (mv rfl rfl ?_)
  refine b_F rfl rfl rfl rfl rfl rfl ?_
  refine b_F rfl rfl rfl rfl rfl rfl ?_
  refine b_F rfl rfl rfl rfl rfl rfl ?_
  refine bv rfl (v_pickF rfl rfl rfl) (mv rfl rfl ?_)
  refine b_F rfl rfl rfl rfl rfl rfl ?_
  refine bv rfl (v_pickF rfl rfl rfl) (mv rfl rfl ?_)
  refine b_nil (hK _ ?_)
  exact to_L ⟨false, (), h, rfl⟩
 refine AW.rg rfl fun K hK => bv rfl (v_loadF ty24 rfl (l_litA rfl (lb rfl) rfl)) ?_
 obtain ⟨x23, h24, h⟩ := bS h
 refine b_op rfl (o_call rfl rfl rfl rfl (ACallD.pure0 (w_law54_great h24)) ?_)
 refine mv rfl rfl ?_
 by_cases hg32 : x23 = true
 ·have h := ifT hg32 h
  refine b_F rfl rfl rfl rfl rfl hg32 ?_
  refine b_F rfl rfl rfl rfl rfl rfl ?_
  refine bv rfl (v_pickT rfl rfl rfl) (mv rfl rfl ?_)
  refine b_F rfl rfl rfl rfl rfl rfl ?_
  refine b_F rfl rfl rfl rfl rfl rfl ?_
  refine b_F rfl rfl rfl rfl rfl rfl ?_
  refine b_U rfl rfl rfl rfl rfl ?_
  refine b_U rfl rfl rfl rfl rfl ?_
  refine b_F rfl rfl rfl rfl rfl rfl ?_
  refine bv rfl (v_pickT rfl rfl rfl) (mv rfl rfl ?_)
  refine b_F rfl rfl rfl rfl rfl rfl ?_
  refine b_F rfl rfl rfl rfl rfl rfl ?_
  refine b_F rfl rfl rfl rfl rfl rfl ?_
  refine b_U rfl rfl rfl rfl rfl ?_
  refine b_U rfl rfl rfl rfl rfl ?_
  refine b_F rfl rfl rfl rfl rfl rfl ?_
  refine bv rfl (v_pickT rfl rfl rfl) ?_
  refine b_nil (hK _ ?_)
  exact to_L ⟨true, (), h, rfl⟩
 have h := ifF hg32 h
 refine b_T rfl rfl rfl rfl (bF hg32) (o_val rfl (mv_val rfl rfl).2 ?_)
 obtain ⟨x25, h26, h⟩ := bS h
 refine b_T rfl rfl rfl rfl rfl (o_call rfl rfl rfl rfl (ACallD.pure0 (w_law54_long h26)) ?_)
 refine bv rfl (v_pickF rfl rfl rfl) (mv rfl rfl ?_)
 by_cases hg31 : x25 = true
 ·have h := ifT hg31 h
  refine b_F rfl rfl rfl rfl rfl hg31 ?_
  refine b_F rfl rfl rfl rfl rfl rfl ?_
  refine b_F rfl rfl rfl rfl rfl rfl ?_
  refine b_U rfl rfl rfl rfl rfl ?_
  refine b_U rfl rfl rfl rfl rfl ?_
  refine b_F rfl rfl rfl rfl rfl rfl ?_
  refine bv rfl (v_pickT rfl rfl rfl) (mv rfl rfl ?_)
  refine b_F rfl rfl rfl rfl rfl rfl ?_
  refine b_F rfl rfl rfl rfl rfl rfl ?_
  refine b_F rfl rfl rfl rfl rfl rfl ?_
  refine b_U rfl rfl rfl rfl rfl ?_
  refine b_U rfl rfl rfl rfl rfl ?_
  refine b_F rfl rfl rfl rfl rfl rfl ?_
  refine bv rfl (v_pickT rfl rfl rfl) ?_
  refine b_nil (hK _ ?_)
  exact to_L ⟨true, (), h, rfl⟩
 have h := ifF hg31 h
 refine b_T rfl rfl rfl rfl (bF hg31) (o_val rfl (mv_val rfl rfl).2 ?_)
 refine b_T rfl rfl rfl rfl rfl (o_val rfl (v_bin rfl rfl b_gtr) ?_)
 refine b_T rfl rfl rfl rfl rfl (o_val rfl (mv_val rfl rfl).2 ?_)
 by_cases hg30 : 5 < p2
 ·have h := ifT hg30 h
  refine b_T rfl rfl rfl rfl (decide_eq_true hg30) (o_val rfl (mv_val rfl rfl).2 ?_)
  refine b_T rfl rfl rfl rfl rfl (o_val rfl (v_bin rfl rfl b_leq) ?_)
  refine b_T rfl rfl rfl rfl rfl (o_val rfl (v_pickT rfl rfl rfl) ?_)
  refine bv rfl (v_pickF rfl rfl rfl) (mv rfl rfl ?_)
  by_cases hg28 : p2 ≤ 4096
  ·have h := ifT hg28 h
   refine b_F rfl rfl rfl rfl rfl (decide_eq_true hg28) ?_
   refine b_F rfl rfl rfl rfl rfl rfl ?_
   refine b_F rfl rfl rfl rfl rfl rfl ?_
   refine b_U rfl rfl rfl rfl rfl ?_
   refine b_U rfl rfl rfl rfl rfl ?_
   refine b_F rfl rfl rfl rfl rfl rfl ?_
   refine bv rfl (v_pickT rfl rfl rfl) ?_
   refine b_nil (hK _ ?_)
   exact to_L ⟨true, (), h, rfl⟩
  have h := ifF hg28 h
  refine b_T rfl rfl rfl rfl (decide_eq_false hg28) (o_val rfl (mv_val rfl rfl).2 ?_)
  refine b_T rfl rfl rfl rfl rfl (o_val rfl (v_bin rfl rfl b_gtr) ?_)
  refine b_T rfl rfl rfl rfl rfl (o_val rfl (mv_val rfl rfl).2 ?_)
  by_cases hg27 : 4 < p4
  ·have h := ifT hg27 h
   refine b_T rfl rfl rfl rfl (decide_eq_true hg27) (o_val rfl (mv_val rfl rfl).2 ?_)
   refine b_T rfl rfl rfl rfl rfl (o_val rfl (v_bin rfl rfl b_leq) ?_)
   refine b_T rfl rfl rfl rfl rfl (o_val rfl (v_pickT rfl rfl rfl) ?_)
   refine bv rfl (v_pickF rfl rfl rfl) ?_
   refine b_nil (hK _ ?_)
   exact to_L ⟨decide (p4 ≤ 16), (), h, rfl⟩
  have h := ifF hg27 h
  refine b_F rfl rfl rfl rfl rfl (decide_eq_false hg27) ?_
  refine b_F rfl rfl rfl rfl rfl rfl ?_
  refine b_T rfl rfl rfl rfl rfl (o_val rfl (v_pickF rfl rfl rfl) ?_)
  refine bv rfl (v_pickF rfl rfl rfl) ?_
  refine b_nil (hK _ ?_)
  exact to_L ⟨false, (), h, rfl⟩
 have h := ifF hg30 h
 refine b_F rfl rfl rfl rfl rfl (decide_eq_false hg30) ?_
 refine b_F rfl rfl rfl rfl rfl rfl ?_
 refine b_T rfl rfl rfl rfl rfl (o_val rfl (v_pickF rfl rfl rfl) ?_)
 refine bv rfl (v_pickF rfl rfl rfl) (mv rfl rfl ?_)
 refine b_T rfl rfl rfl rfl rfl (o_val rfl (mv_val rfl rfl).2 ?_)
 refine b_T rfl rfl rfl rfl rfl (o_val rfl (v_bin rfl rfl b_gtr) ?_)
 refine b_T rfl rfl rfl rfl rfl (o_val rfl (mv_val rfl rfl).2 ?_)
 by_cases hg29 : 4 < p4
 ·have h := ifT hg29 h
  refine b_T rfl rfl rfl rfl (decide_eq_true hg29) (o_val rfl (mv_val rfl rfl).2 ?_)
  refine b_T rfl rfl rfl rfl rfl (o_val rfl (v_bin rfl rfl b_leq) ?_)
  refine b_T rfl rfl rfl rfl rfl (o_val rfl (v_pickT rfl rfl rfl) ?_)
  refine bv rfl (v_pickF rfl rfl rfl) ?_
  refine b_nil (hK _ ?_)
  exact to_L ⟨decide (p4 ≤ 16), (), h, rfl⟩
 have h := ifF hg29 h
 refine b_F rfl rfl rfl rfl rfl (decide_eq_false hg29) ?_
 refine b_F rfl rfl rfl rfl rfl rfl ?_
 refine b_T rfl rfl rfl rfl rfl (o_val rfl (v_pickF rfl rfl rfl) ?_)
 refine bv rfl (v_pickF rfl rfl rfl) ?_
 refine b_nil (hK _ ?_)
 exact to_L ⟨false, (), h, rfl⟩
end Go.AW

namespace Go.AW
open Go
set_option linter.unusedVariables false
set_option linter.unusedSimpArgs false
theorem maxB : 1000000 ≤ maxLen := by decide
theorem pow_small {L : Nat} (h : L ≤ 3) {j : Nat} (hj : j ≤ 6) : L ^ j ≤ 4096 := by
 have h1 : L ^ j ≤ 3 ^ j := Nat.pow_le_pow_left h j
 have h2 : 3 ^ j ≤ 3 ^ 6 := Nat.pow_le_pow_right (by decide) hj
 omega
theorem Words54 {g : Gr} (hv : VG g) (h3 : g.1 ≤ 3) {k : Nat} (hk : k ≤ 6) : m_language_Words g (k : Int) = some ((allW (lets g) k).filter (accB g), 0) :=
 Words_ok hv (by omega) (by omega) fun j _ h2 => pow_small (by omega) (by omega)
theorem words_len {g : Gr} (hv : VG g) (h3 : g.1 ≤ 3) {k : Nat} (hk : k ≤ 6) : ((allW (lets g) k).filter (accB g)).length ≤ 4096 := by
 refine Nat.le_trans (List.length_filter_le _ _) ?_
 rw [allW_len, lets_len hv (by omega)]
 exact pow_small (by omega) hk
section
variable {g : Gr} {mark : List UInt8}
end
end Go.AW
namespace Go.AW
open Go
set_option linter.unusedVariables false
set_option linter.unusedSimpArgs false
section
variable {g : Gr}
def validB (g : Gr) (k : Nat) (w : List UInt8) : Bool := decide (badsW g w k = [])
def firstV (g : Gr) (k : Nat) (l : List (List UInt8)) : List UInt8 × Int := match l.find? (validB g k) with
 | some w => (w, 0)
 | none => ([], 20)
theorem forL_find {body : Unit → List UInt8 → Option (Stp Unit (List UInt8))} {p : List UInt8 → Bool} : ∀ (l : List (List UInt8)), (∀ x ∈ l, body () x = if p x = true then some (.exit x) else some (.next ())) → forL body l () = some (match l.find? p with
  | some w => .ret w
  | none => .go ())
 | [], _ => rfl
 | x :: l, h => by
  unfold forL
  rw [h x (List.mem_cons_self ..)]
  by_cases hp : p x = true
  ·rw [if_pos hp, List.find?_cons_of_pos hp]
  ·rw [if_neg hp, List.find?_cons_of_neg hp]
   exact forL_find l fun y hy => h y (List.mem_cons_of_mem _ hy)
theorem mem_marks {q least most : Nat} {x : List UInt8} : x ∈ marksL q least most ↔ (least ≤ x.length ∧ x.length ≤ most) ∧ ∀ c ∈ x, c ∈ letters.take q := by
 unfold marksL
 rw [List.mem_flatMap]
 constructor
 ·rintro ⟨j, hj, hx⟩
  obtain ⟨h1, h2⟩ := mem_allW.1 hx
  rw [List.mem_range] at hj
  exact ⟨⟨by omega, by omega⟩, h2⟩
 ·rintro ⟨⟨h1, h2⟩, h3⟩
  exact ⟨x.length - least, List.mem_range.2 (by omega), mem_allW.2 ⟨by omega, h3⟩⟩
theorem mark_ok (hv : VG g) (h16 : g.1 ≤ 16) {w : List UInt8} (h1 : 1 ≤ w.length) (h2 : w.length ≤ 16) (h3 : ∀ c ∈ w, c ∈ letters.take g.1.toNat) : MOk54 g w := ⟨hv, h16, List.length_pos_iff.1 h1, by omega, h3⟩
theorem Search_eq (hv : VG g) (h16 : g.1 ≤ 16) {k least most : Nat} (hk : k ≤ 4096) (h1 : 1 ≤ least) (h2 : least ≤ most) (h3 : most ≤ 16) (hb : ∀ j, j ≤ most → g.1.toNat ^ j ≤ 65536) : m_syncmark_Search g (k : Int) (least : Int) (most : Int) = some (firstV g k (marksL g.1.toNat least most)) := by
 obtain ⟨e, he, hz⟩ := Check_tot g
 have h0 := hz.2 hv
 have hl1 := hv.l1
 obtain ⟨L, hL⟩ := Int.eq_ofNat_of_zero_le (show 0 ≤ g.1 by omega)
 unfold m_syncmark_Search
 rw [Check_ref, he, Option.bind_some, if_neg (by omega), if_neg (by omega)]
 unfold jp
 dsimp only
 rw [if_neg (by omega), if_neg (by omega), if_neg (by omega), if_neg (by rw [decide_eq_true_eq]; omega), if_neg (by omega)]
 have hLt : g.1.toNat = L := by omega
 have hL1 : 1 ≤ L := by omega
 have hL16 : L ≤ 16 := by omega
 rw [hLt] at hb ⊢
 rw [hL]
 refine lpL (loop_is (fun i => (((L ^ i : Nat) : Int), (i : Int))) most (.go ()) (fun i hi => ?_) ?_ rfl) ?_
 ·dsimp only
  have hp := hb (i + 1) (by omega)
  have hw : IntKind.wrap .i64 (((L ^ i : Nat) : Int) * (L : Int)) = ((L ^ (i + 1) : Nat) : Int) := by
   have e : ((L ^ i : Nat) : Int) * (L : Int) = ((L ^ (i + 1) : Nat) : Int) := by rw [Nat.pow_succ, Int.natCast_mul]
   rw [e, w64 (by omega) (by omega)]
  rw [if_pos (by omega), hw, if_neg (by omega), nx (n := 16) (by omega) (by omega)]
 ·dsimp only
  rw [if_neg (not_lt_int _)]
 ·simp only [lpO]
  unfold y_syncmark_marks
  rw [if_pos ⟨⟨by omega, by omega⟩, by omega, by omega, by omega⟩, Option.bind_some, Int.toNat_natCast, Int.toNat_natCast, Int.toNat_natCast]
  refine lpL (forL_find (p := validB g k) _ fun x hx => ?_) ?_
  ·obtain ⟨⟨m1, m2⟩, m3⟩ := mem_marks.1 hx
   rw [bad_eq (mark_ok hv (by omega) (by omega) (by omega) (by rw [hLt]; exact m3)) hk, Option.bind_some]
   unfold validB
   simp
  ·unfold firstV
   cases List.find? (validB g k) (marksL L least most) <;> rfl
theorem Search_range (hv : VG g) (h16 : g.1 ≤ 16) {n least most : Int} (h : n < 0 ∨ 4096 < n ∨ least < 1 ∨ most < least) : m_syncmark_Search g n least most = some ([], 2) := by
 obtain ⟨e, he, hz⟩ := Check_tot g
 have h0 := hz.2 hv
 unfold m_syncmark_Search
 rw [Check_ref, he, Option.bind_some, if_neg (by omega), if_neg (by omega)]
 unfold jp
 dsimp only
 by_cases a1 : n < 0
 ·rw [if_pos a1, if_pos rfl]
 rw [if_neg a1]
 by_cases a2 : 4096 < n
 ·rw [if_pos a2, if_pos rfl]
 rw [if_neg a2]
 by_cases a3 : least < 1
 ·rw [if_pos a3, if_pos rfl]
 rw [if_neg a3, if_pos (decide_eq_true (by omega))]
theorem find_at {q : Nat} {p : List UInt8 → Bool} {least most j i : Nat} (hj : j < most + 1 - least) (h1 : ∀ j' < j, ∀ w ∈ allW (letters.take q) (least + j'), p w = false) {w : List UInt8} (hi : (allW (letters.take q) (least + j))[i]? = some w) (h2 : ∀ i' < i, ∀ v, (allW (letters.take q) (least + j))[i']? = some v → p v = false) (hp : p w = true) : (marksL q least most).find? p = some w := by
 rw [List.find?_eq_some_iff_append]
 refine ⟨hp, ((List.range j).flatMap fun j => allW (letters.take q) (least + j)) ++ (allW (letters.take q) (least + j)).take i, (allW (letters.take q) (least + j)).drop (i + 1) ++ ((List.range' (j + 1) (most + 1 - least - (j + 1))).flatMap fun j => allW (letters.take q) (least + j)), ?_, ?_⟩
 ·obtain ⟨hil, hiw⟩ := List.getElem?_eq_some_iff.1 hi
  unfold marksL
  have e : List.range (most + 1 - least) = List.range j ++ j :: List.range' (j + 1) (most + 1 - least - (j + 1)) := by
   have h0 := List.range'_append_1 (s := 0) (m := j) (n := most + 1 - least - (j + 1) + 1)
   rw [Nat.zero_add] at h0
   rw [List.range_eq_range', List.range_eq_range', ← List.range'_succ, h0]
   congr 1
   omega
  have e2 : allW (letters.take q) (least + j) = (allW (letters.take q) (least + j)).take i ++ w :: (allW (letters.take q) (least + j)).drop (i + 1) := by
   rw [← hiw, ← List.drop_eq_getElem_cons hil, List.take_append_drop]
  rw [e, List.flatMap_append, List.flatMap_cons]
  conv => lhs; rw [e2]
  simp only [List.append_assoc, List.cons_append]
 ·intro a ha
  rw [Bool.not_eq_true', ← Bool.not_eq_true]
  rcases List.mem_append.1 ha with ha | ha
  ·obtain ⟨j', hj', hm⟩ := List.mem_flatMap.1 ha
   rw [h1 j' (List.mem_range.1 hj') a hm]
   decide
  ·obtain ⟨i', hi', rfl⟩ := List.mem_take_iff_getElem.1 ha
   rw [h2 i' (by omega) _ (List.getElem?_eq_getElem (by omega))]
   decide
end
end Go.AW
namespace Go.AW
open Go
set_option linter.unusedVariables false
set_option linter.unusedSimpArgs false
def hamC (mark W : List UInt8) (a i : Nat) : Nat := ((List.range i).filter fun j => decide (W.getD (a + j) 0 ≠ mark.getD j 0)).length
def hamW (mark W : List UInt8) (a : Nat) : Nat := hamC mark W a mark.length
theorem hamC_succ (mark W : List UInt8) (a i : Nat) : hamC mark W a (i + 1) = hamC mark W a i + if W.getD (a + i) 0 ≠ mark.getD i 0 then 1 else 0 := by
 unfold hamC
 rw [List.range_succ, List.filter_append, List.length_append, List.filter_cons]
 by_cases h : W.getD (a + i) 0 ≠ mark.getD i 0
 ·rw [if_pos (decide_eq_true h), if_pos h]; rfl
 ·rw [if_neg (by rw [decide_eq_true_eq]; exact h), if_neg h]; rfl
theorem hamC_le (mark W : List UInt8) (a i : Nat) : hamC mark W a i ≤ i := by
 unfold hamC
 have := List.length_filter_le (fun j => decide (W.getD (a + j) 0 ≠ mark.getD j 0)) (List.range i)
 rw [List.length_range] at this
 exact this
def updD (a d : Int) : Int := if a < 0 ∨ d < a then d else a
def minD (l : List Int) : Int := l.foldl updD (-1)
theorem minD_spec : ∀ (l : List Int) (a : Int), (∀ x ∈ l, 0 ≤ x) → (a < 0 ∧ l = [] ∧ l.foldl updD a = a) ∨ (0 ≤ l.foldl updD a ∧ (l.foldl updD a = a ∨ l.foldl updD a ∈ l) ∧ (0 ≤ a → l.foldl updD a ≤ a) ∧ ∀ x ∈ l, l.foldl updD a ≤ x)
 | [], a, _ => by
  by_cases h : a < 0
  ·exact .inl ⟨h, rfl, rfl⟩
  ·exact .inr ⟨by simpa using h, .inl rfl, fun _ => Int.le_refl _, fun _ h => by cases h⟩
 | x :: l, a, h => by
  have hx := h x (List.mem_cons_self ..)
  rw [List.foldl_cons]
  right
  have hu : 0 ≤ updD a x ∧ (updD a x = a ∨ updD a x = x) ∧ (0 ≤ a → updD a x ≤ a) ∧ updD a x ≤ x := by
   unfold updD
   split
   ·exact ⟨hx, .inr rfl, fun _ => by omega, Int.le_refl _⟩
   ·exact ⟨by omega, .inl rfl, fun _ => Int.le_refl _, by omega⟩
  rcases minD_spec l (updD a x) fun y hy => h y (List.mem_cons_of_mem _ hy) with ⟨h1, _⟩ | ⟨h1, h2, h3, h4⟩
  ·omega
  ·refine ⟨h1, ?_, fun h0 => by have := h3 hu.1; have := hu.2.2.1 h0; omega, fun y hy => ?_⟩
   ·rcases h2 with h2 | h2
    ·rcases hu.2.1 with e | e
     ·exact .inl (h2.trans e)
     ·exact .inr (by rw [h2, e]; exact List.mem_cons_self ..)
    ·exact .inr (List.mem_cons_of_mem _ h2)
   ·rcases List.mem_cons.1 hy with rfl | hy
    ·have := h3 hu.1; have := hu.2.2.2; omega
    ·exact h4 y hy
theorem minD_nil {l : List Int} (h : ∀ x ∈ l, 0 ≤ x) : minD l < 0 ↔ l = [] := by
 rcases minD_spec l (-1) h with ⟨_, h2, h3⟩ | ⟨h1, h2, _, _⟩
 ·exact ⟨fun _ => h2, fun _ => by unfold minD; rw [h3]; decide⟩
 ·constructor
  ·intro h'; unfold minD at h'; omega
  ·rintro rfl
   simp at h1
def dists (mark : List UInt8) (n : Nat) (l : List (List UInt8)) : List Int := l.flatMap fun u => (List.range (n + mark.length - 1)).map fun a => ((hamW mark (mark ++ u ++ mark) (a + 1) : Nat) : Int)
theorem dists_nn {mark : List UInt8} {n : Nat} {l : List (List UInt8)} : ∀ x ∈ dists mark n l, 0 ≤ x := by
 intro x hx
 obtain ⟨u, _, hx⟩ := List.mem_flatMap.1 hx
 obtain ⟨a, _, rfl⟩ := List.mem_map.1 hx
 exact Int.natCast_nonneg _
theorem flatMap_take {α β : Type} (f : α → List β) {l : List α} {i : Nat} (h : i < l.length) : (l.take (i + 1)).flatMap f = (l.take i).flatMap f ++ f l[i] := by
 rw [← List.take_append_getElem h, List.flatMap_append]
 simp
section
variable {g : Gr} {mark : List UInt8}
theorem Damaged_loop {mark : List UInt8} (h1 : mark.length ≤ 32) {n : Nat} (hn : n ≤ 12) {l : List (List UInt8)} (hl : ∀ u ∈ l, u.length = n) (hm : l.length ≤ 1000000) :
    (loopW (S := Int × Int) (X := Int) (fun a8 =>
          if a8.2 < ((l).length : Int) then
           (idx l a8.2).bind fun x12 =>
           if mark.length + x12.length ≤ maxLen then
            if (mark ++ x12).length + mark.length ≤ maxLen then
             (loopW (S := Int × Int) (X := Int) (fun a16 =>
                 if a16.2 < (IntKind.wrap .i64 ((n : Int) + ((mark).length : Int))) then
                  jp (fun (a20 : Int) =>
                    some (Stp.next (a20, IntKind.wrap .i64 (a16.2 + 1))))
                    fun k22 =>
                   (loopW (S := Int × Int) (X := Int) (fun a23 =>
                       if a23.2 < ((mark).length : Int) then
                        jp (fun (a27 : Int) =>
                          some (Stp.next (a27, IntKind.wrap .i64 (a23.2 + 1))))
                          fun k29 =>
                         (idx ((mark ++ x12) ++ mark) (IntKind.wrap .i64 (a16.2 + a23.2))).bind fun x30 =>
                         (idx mark a23.2).bind fun x32 =>
                         if (x30.toNat : Int) ≠ (x32.toNat : Int) then
                          k29 (IntKind.wrap .i64 (a23.1 + 1))
                         else
                          k29 a23.1
                       else
                        some (Stp.exit a23.1)) (0, 0)).bind fun a34 =>
                   jp (fun (a36 : Bool) =>
                     if a36 = true then
                      k22 a34
                     else
                      k22 a16.1)
                     fun k38 =>
                    if a16.1 < 0 then
                     k38 true
                    else
                     k38 (decide (a34 < a16.1))
                 else
                  some (Stp.exit a16.1)) (a8.1, 1)).bind fun a40 =>
             some (Stp.next (a40, IntKind.wrap .i64 (a8.2 + 1)))
            else none
           else none
          else
           some (Stp.exit a8.1)) ((-1), 0)) = some (minD (dists mark n l)) := by
  have hmx := maxB
  refine loop_is (fun i => (minD (dists mark n (l.take i)), (i : Int))) l.length _ (fun i hi => ?_) ?_ rfl
  · dsimp only
    have hu := hl _ (List.getElem_mem hi)
    rw [if_pos (lt_int hi), ix hi, Option.bind_some, if_pos (by omega), if_pos (by rw [List.length_append]; omega)]
    generalize hU : l[i] = u at hu
    have hW : (mark ++ u ++ mark).length = mark.length + n + mark.length := by rw [List.length_append, List.length_append, hu]
    have hst : ∀ a, dists mark n (l.take i) ++ (List.range a).map (fun a => ((hamW mark (mark ++ u ++ mark) (a + 1) : Nat) : Int)) = dists mark n (l.take i) ++ (List.range a).map (fun a => ((hamW mark (mark ++ u ++ mark) (a + 1) : Nat) : Int)) := fun _ => rfl
    refine bindL (loop_is (fun a => (minD (dists mark n (l.take i) ++ (List.range a).map (fun a => ((hamW mark (mark ++ u ++ mark) (a + 1) : Nat) : Int))), ((a + 1 : Nat) : Int))) (n + mark.length - 1) (minD (dists mark n (l.take (i + 1)))) (fun a ha => ?_) ?_ (by simp)) ?_
    · have hwn : IntKind.wrap .i64 ((n : Int) + (mark.length : Int)) = ((n + mark.length : Nat) : Int) := by rw [w64 (by omega) (by omega)]; omega
      unfold jp
      dsimp only
      rw [hwn, if_pos (by omega)]
      refine bindL (loop_is (fun j => (((hamC mark (mark ++ u ++ mark) (a + 1) j : Nat) : Int), (j : Int))) mark.length ((hamW mark (mark ++ u ++ mark) (a + 1) : Nat) : Int) (fun j hj => ?_) ?_ rfl) ?_
      · dsimp only
        have hle := hamC_le mark (mark ++ u ++ mark) (a + 1) j
        have hlt : a + 1 + j < (mark ++ u ++ mark).length := by omega
        have hw1 : IntKind.wrap .i64 (((a + 1 : Nat) : Int) + (j : Int)) = ((a + 1 + j : Nat) : Int) := by rw [w64 (by omega) (by omega)]; omega
        rw [if_pos (lt_int hj), hw1, ix hlt, Option.bind_some, ix hj, Option.bind_some, nx (n := mark.length) (i := j) (by omega) hj, hamC_succ]
        have e1 : (mark ++ u ++ mark).getD (a + 1 + j) 0 = (mark ++ u ++ mark)[a + 1 + j] := by rw [List.getD_eq_getElem?_getD, List.getElem?_eq_getElem hlt]; rfl
        have e2 : mark.getD j 0 = mark[j] := by rw [List.getD_eq_getElem?_getD, List.getElem?_eq_getElem hj]; rfl
        rw [e1, e2]
        by_cases hne : (mark ++ u ++ mark)[a + 1 + j] = mark[j]
        · rw [if_neg (fun h => h (by rw [hne])), if_neg (fun h => h hne)]
          rfl
        · rw [if_pos (fun h => hne (UInt8.toNat_inj.1 (by omega))), if_pos hne, nx (n := 1000) (by omega) (by omega)]
      · dsimp only
        rw [if_neg (not_lt_int _)]
        rfl
      · rw [nx (n := 1000) (by omega) (by omega), List.range_succ, List.map_append, ← List.append_assoc]
        have hstep : minD ((dists mark n (l.take i) ++ (List.range a).map (fun a => ((hamW mark (mark ++ u ++ mark) (a + 1) : Nat) : Int))) ++ [((hamW mark (mark ++ u ++ mark) (a + 1) : Nat) : Int)]) = updD (minD (dists mark n (l.take i) ++ (List.range a).map (fun a => ((hamW mark (mark ++ u ++ mark) (a + 1) : Nat) : Int)))) ((hamW mark (mark ++ u ++ mark) (a + 1) : Nat) : Int) := by
          unfold minD
          rw [List.foldl_append]
          rfl
        rw [show List.map (fun a => ((hamW mark (mark ++ u ++ mark) (a + 1) : Nat) : Int)) [a] = [((hamW mark (mark ++ u ++ mark) (a + 1) : Nat) : Int)] from rfl, hstep]
        generalize minD (dists mark n (l.take i) ++ (List.range a).map (fun a => ((hamW mark (mark ++ u ++ mark) (a + 1) : Nat) : Int))) = z
        unfold updD
        by_cases h0 : z < 0
        · rw [if_pos h0, if_pos rfl, if_pos (.inl h0)]
        · rw [if_neg h0]
          by_cases h2 : ((hamW mark (mark ++ u ++ mark) (a + 1) : Nat) : Int) < z
          · rw [if_pos (decide_eq_true h2), if_pos (.inr h2)]
          · rw [if_neg (by rw [decide_eq_true_eq]; exact h2), if_neg (by omega)]
    · dsimp only
      have hwn : IntKind.wrap .i64 ((n : Int) + (mark.length : Int)) = ((n + mark.length : Nat) : Int) := by rw [w64 (by omega) (by omega)]; omega
      rw [hwn, if_neg (by omega)]
      have : dists mark n (l.take (i + 1)) = dists mark n (l.take i) ++ (List.range (n + mark.length - 1)).map (fun a => ((hamW mark (mark ++ u ++ mark) (a + 1) : Nat) : Int)) := by
        unfold dists
        rw [flatMap_take _ hi, hU]
      rw [this]
    · rw [nx (n := l.length) (by omega) hi]
  · dsimp only
    rw [if_neg (not_lt_int _), List.take_length]
theorem Damaged_eq (h : MOk54 g mark) {n : Nat} (hn : n ≤ 12) {l : List (List UInt8)} (hw : m_language_Words g (n : Int) = some (l, 0)) (hl : ∀ u ∈ l, u.length = n) (hm : l.length ≤ 1000000) : m_syncmark_Damaged g mark (n : Int) = some (if dists mark n l = [] then (0, 5) else (minD (dists mark n l), 0)) := by
 obtain ⟨e, he, hz⟩ := check54_tot g mark
 unfold m_syncmark_Damaged
 rw [he, Option.bind_some, if_neg (by rw [hz.2 h]; decide)]
 have hL := Damaged_loop (mark := mark) h.2.2.2.1 hn hl hm
 unfold jp at hL ⊢
 dsimp only at hL ⊢
 rw [if_neg (by omega), if_neg (by rw [decide_eq_true_eq]; omega), hw, Option.bind_some, if_neg (by simp), hL, Option.bind_some]
 have := minD_nil (l := dists mark n l) dists_nn
 by_cases h0 : dists mark n l = []
 ·rw [if_pos (this.2 h0), if_pos h0]
 ·rw [if_neg (fun h' => h0 (this.1 h')), if_neg h0]
theorem words_length {g : Gr} {k : Nat} : ∀ u ∈ (allW (lets g) k).filter (accB g), u.length = k := fun u hu => (mem_allW.1 (List.mem_filter.1 hu).1).1
end
end Go.AW
namespace Go.AW
open Go
set_option linter.unusedVariables false
set_option linter.unusedSimpArgs false
theorem fgo_full (mark w : List UInt8) : fgo mark w mark.length = lpM mark w := by
 refine Nat.le_antisymm ?_ ?_
 ·have h := fgo_suf mark w mark.length
  have h1 := h.length_le
  have h2 := fgo_le mark w mark.length
  rw [List.length_take] at h1
  exact fgo_max _ _ _ _ (by omega) h
 ·exact fgo_max _ _ _ _ (lpM_le _ _).2 (fgo_suf _ _ _)
theorem byte_back2 (c : UInt8) : UInt8.ofNat ((c.toNat : Int)).toNat = c := by simp
theorem suf_dec {mark w : List UInt8} {j : Nat} (hj : j ≤ mark.length) : (mark.take j).isSuffixOf w = (decide (j ≤ w.length) && decide (w.drop (w.length - j) = mark.take j)) := by
 rw [Bool.eq_iff_iff, List.isSuffixOf_iff_suffix, List.suffix_iff_eq_drop, Bool.and_eq_true, decide_eq_true_eq, decide_eq_true_eq, List.length_take, Nat.min_eq_left hj]
 constructor
 ·intro h
  have hl := congrArg List.length h
  rw [List.length_take, List.length_drop, Nat.min_eq_left hj] at hl
  exact ⟨by omega, h.symm⟩
 ·rintro ⟨_, h⟩
  exact h.symm
theorem follow_eq {mark : List UInt8} {k : Nat} (hk : k ≤ mark.length) (hm : mark.length ≤ 1000) (c : UInt8) : m_ref54_follow mark (k : Int) (c.toNat : Int) = some ((foll mark k c : Nat) : Int) := by
  unfold m_ref54_follow
  have hw : ((mark.take ((k : Int)).toNat).drop (0 : Int).toNat) ++ (([(c.toNat : Int)] : List Int).map fun (n : Int) => UInt8.ofNat n.toNat) = mark.take k ++ [c] := by
    rw [Int.toNat_natCast, List.map_cons, byte_back2]
    rfl
  rw [if_pos ⟨Int.le_refl _, Int.natCast_nonneg _, by omega⟩]
  rw [if_pos (by
    rw [List.length_drop, List.length_take, List.length_map, List.length_singleton]
    have : maxLen = 4611686018427387904 - 1 ∨ 1000000 ≤ maxLen := by right; decide
    rcases this with h | h <;> omega)]
  rw [hw, foll_lpM, ← fgo_full]
  generalize hwd : mark.take k ++ [c] = w
  have hwl : w.length ≤ 1001 := by rw [← hwd, List.length_append, List.length_take, List.length_singleton]; omega
  refine lpL (x := if fgo mark w mark.length = 0 then .go () else .ret ((fgo mark w mark.length : Nat) : Int)) ?_ ?_
  · have hgen : ∀ j : Nat, j ≤ mark.length → loopW (S := Int) (X := Ou (Unit) (Int)) (fun a3 =>
       if 0 < a3 then
        jp (fun (a7 : Bool) =>
          if a7 = true then
           some (Stp.exit (Ou.ret a3))
          else
           some (Stp.next (IntKind.wrap .i64 (a3 - 1))))
          fun k9 =>
         if a3 ≤ ((w).length : Int) then
          if 0 ≤ (IntKind.wrap .i64 (((w).length : Int) - a3) : Int) ∧ (IntKind.wrap .i64 (((w).length : Int) - a3) : Int) ≤ ((w).length : Int) ∧ ((w).length : Int) ≤ ((w).length : Int) then
           if 0 ≤ (0 : Int) ∧ (0 : Int) ≤ a3 ∧ a3 ≤ (mark.length : Int) then
            k9 (decide (((w.take (((w).length : Int)).toNat).drop (IntKind.wrap .i64 (((w).length : Int) - a3)).toNat) = ((mark.take (a3).toNat).drop (0 : Int).toNat)))
           else none
          else none
         else
          k9 false
       else
        some (Stp.exit (Ou.go ()))) (j : Int) = some (if fgo mark w j = 0 then .go () else .ret ((fgo mark w j : Nat) : Int)) := by
      intro j
      induction j with
      | zero =>
        intro _
        rw [loopW_eq]
        rw [if_neg (by omega)]
        rfl
      | succ j ih =>
        intro hj
        have hw1 : IntKind.wrap .i64 (((j + 1 : Nat) : Int) - 1) = (j : Int) := by rw [w64 (by omega) (by omega)]; omega
        have hs := suf_dec (w := w) hj
        have hF : fgo mark w (j + 1) = if (mark.take (j + 1)).isSuffixOf w = true then j + 1 else fgo mark w j := rfl
        rw [hF]
        by_cases h1 : j + 1 ≤ w.length
        · have hw2 : IntKind.wrap .i64 ((w.length : Int) - ((j + 1 : Nat) : Int)) = ((w.length - (j + 1) : Nat) : Int) := by rw [w64 (by omega) (by omega)]; omega
          rw [decide_eq_true h1, Bool.true_and] at hs
          by_cases h2 : w.drop (w.length - (j + 1)) = mark.take (j + 1)
          · have hL : decide (w.drop (w.length - (j + 1)) = (mark.take (j + 1)).drop (0 : Int).toNat) = true := decide_eq_true h2
            have hR : (mark.take (j + 1)).isSuffixOf w = true := by rw [hs]; exact decide_eq_true h2
            rw [if_pos hR, if_neg (Nat.succ_ne_zero j)]
            refine loopW_exit ?_
            unfold jp
            dsimp only
            rw [if_pos (by omega), if_pos (by omega), hw2, if_pos ⟨by omega, by omega, Int.le_refl _⟩, if_pos ⟨Int.le_refl _, by omega, by omega⟩, Int.toNat_natCast, Int.toNat_natCast, Int.toNat_natCast, List.take_length, if_pos hL]
          · have hL : ¬ decide (w.drop (w.length - (j + 1)) = (mark.take (j + 1)).drop (0 : Int).toNat) = true := by rw [decide_eq_true_eq]; exact h2
            have hR : ¬ (mark.take (j + 1)).isSuffixOf w = true := by rw [hs, decide_eq_true_eq]; exact h2
            rw [if_neg hR]
            refine (loopW_next (s' := (j : Int)) ?_).trans (ih (by omega))
            unfold jp
            dsimp only
            rw [if_pos (by omega), if_pos (by omega), hw2, if_pos ⟨by omega, by omega, Int.le_refl _⟩, if_pos ⟨Int.le_refl _, by omega, by omega⟩, Int.toNat_natCast, Int.toNat_natCast, Int.toNat_natCast, List.take_length, if_neg hL, hw1]
        · rw [decide_eq_false h1, Bool.false_and] at hs
          have hR : ¬ (mark.take (j + 1)).isSuffixOf w = true := by rw [hs]; exact Bool.false_ne_true
          rw [if_neg hR]
          refine (loopW_next (s' := (j : Int)) ?_).trans (ih (by omega))
          unfold jp
          dsimp only
          rw [if_pos (by omega), if_neg (by omega), if_neg Bool.false_ne_true, hw1]
    exact hgen mark.length (Nat.le_refl _)
  · by_cases h0 : fgo mark w mark.length = 0
    · rw [if_pos h0, h0]; rfl
    · rw [if_neg h0]; rfl
def nextT (mark : List UInt8) (q : Nat) : List (List Int) := (List.range (mark.length + 1)).map fun k => (List.range q).map fun a => ((foll mark k (letters.getD a 0) : Nat) : Int)
def earlyT (mark : List UInt8) : List Bool := (List.range (mark.length + 1)).map fun k => endsG mark mark k
theorem map_range_take {α : Type} (f : Nat → α) (k : Nat) : (List.range (k + 1)).map f = (List.range k).map f ++ [f k] := by rw [List.range_succ, List.map_append]; rfl
theorem tables54_eq {mark : List UInt8} (hm1 : mark ≠ []) (hm : mark.length ≤ 1000) {q : Nat} (hq : q ≤ 16) : m_ref54_tables mark (q : Int) = some (nextT mark q, earlyT mark) := by
  have hml := List.length_pos_iff.2 hm1
  unfold m_ref54_tables
  refine bindL (loop_is (fun k => ((k : Int), (List.range k).map (fun k => (List.range q).map fun a => ((foll mark k (letters.getD a 0) : Nat) : Int)), (List.range k).map fun k => endsG mark mark k)) (mark.length + 1) (nextT mark q, earlyT mark) (fun k hk => ?_) ?_ rfl) ?_
  · dsimp only
    rw [if_pos (by omega)]
    refine bindL (loop_is (fun a => ((a : Int), (List.range a).map fun a => ((foll mark k (letters.getD a 0) : Nat) : Int))) q ((List.range q).map fun a => ((foll mark k (letters.getD a 0) : Nat) : Int)) (fun a ha => ?_) ?_ rfl) ?_
    · dsimp only
      have hal : a < letters.length := by rw [letters_len]; omega
      have e : letters.getD a 0 = letters[a] := by rw [List.getD_eq_getElem?_getD, List.getElem?_eq_getElem hal]; rfl
      rw [if_pos (by omega)]
      refine bindL (x := letters.getD a 0) (by rw [e]; exact ix (l := letters) hal) ?_
      refine bindL (follow_eq (by omega) hm _) ?_
      rw [if_pos ⟨by simp; omega, by simp; have : 1000000 ≤ maxLen := by decide
                                     omega⟩, nx (n := 16) (by omega) (by omega), map_range_take]
    · dsimp only
      rw [if_neg (not_lt_int _)]
    · rw [if_pos ⟨by simp; omega, by simp; have : 1000000 ≤ maxLen := by decide
                                     omega⟩]
      have hgen : ∀ (d i n : Nat) (b : Bool), i + d = mark.length → n ≤ mark.length → loopW (S := Bool × Int × Int) (X := Bool) (fun a22 =>
           if (IntKind.wrap .i64 (a22.2.2 + 1)) < ((mark).length : Int) then
            jp (fun (a26 : Bool × Int) =>
              some (Stp.next (a26.1, a26.2, IntKind.wrap .i64 (a22.2.2 + 1))))
              fun k28 =>
             (idx mark a22.2.2).bind fun x29 =>
             (m_ref54_follow mark a22.2.1 (x29.toNat : Int)).bind fun x31 =>
             if a22.1 = true then
              k28 (true, x31)
             else
              k28 (decide (x31 = ((mark).length : Int)), x31)
           else
            some (Stp.exit a22.1)) (b, (n : Int), (i : Int)) = some (b || endsG mark (mark.drop i) n) := by
        intro d
        induction d with
        | zero =>
          intro i n b hi hn
          rw [loopW_eq]
          have hw : IntKind.wrap .i64 ((i : Int) + 1) = ((i + 1 : Nat) : Int) := nx (n := i + 1) (by omega) (by omega)
          dsimp only
          rw [hw, if_neg (by omega), List.drop_eq_nil_of_le (by omega)]
          dsimp only
          unfold endsG
          rw [Bool.or_false]
        | succ d ih =>
          intro i n b hi hn
          have hil : i < mark.length := by omega
          have hw : IntKind.wrap .i64 ((i : Int) + 1) = ((i + 1 : Nat) : Int) := nx (n := i + 1) (by omega) (by omega)
          have hD : mark.drop i = mark[i] :: mark.drop (i + 1) := List.drop_eq_getElem_cons hil
          rw [hD]
          have hE : endsG mark (mark[i] :: mark.drop (i + 1)) n = if foll mark n mark[i] = mark.length ∧ mark.drop (i + 1) ≠ [] then true else endsG mark (mark.drop (i + 1)) (foll mark n mark[i]) := rfl
          have hne : mark.drop (i + 1) ≠ [] ↔ i + 1 < mark.length := by rw [Ne, List.drop_eq_nil_iff]; omega
          rw [hE]
          by_cases h1 : i + 1 < mark.length
          · have hf := foll_le mark n mark[i]
            have hcast : (((foll mark n mark[i] : Nat) : Int) = (mark.length : Int)) ↔ foll mark n mark[i] = mark.length := by omega
            refine (loopW_next (s' := (b || decide (((foll mark n mark[i] : Nat) : Int) = (mark.length : Int)), ((foll mark n mark[i] : Nat) : Int), ((i + 1 : Nat) : Int))) ?_).trans ?_
            · unfold jp
              dsimp only
              rw [hw, if_pos (by omega), ix hil, Option.bind_some, follow_eq hn hm, Option.bind_some]
              cases b with
              | true => rw [if_pos rfl, Bool.true_or]
              | false => rw [if_neg Bool.false_ne_true, Bool.false_or]
            · refine (ih (i + 1) (foll mark n mark[i]) _ (by omega) hf).trans (congrArg some ?_)
              rw [Bool.or_assoc]
              congr 1
              by_cases h2 : foll mark n mark[i] = mark.length
              · rw [if_pos ⟨h2, hne.2 h1⟩, decide_eq_true (hcast.2 h2), Bool.true_or]
              · rw [if_neg (fun h => h2 h.1), decide_eq_false (fun h => h2 (hcast.1 h)), Bool.false_or]
          · rw [if_neg (fun h => h1 (hne.1 h.2)), List.drop_eq_nil_of_le (by omega)]
            refine (loopW_exit (x := b) ?_).trans ?_
            · dsimp only
              rw [hw, if_neg (by omega)]
            · unfold endsG
              rw [Bool.or_false]
      refine bindL (hgen mark.length 0 k false (by omega) (by omega)) ?_
      rw [if_pos ⟨by simp; omega, by simp; have : 1000000 ≤ maxLen := by decide
                                     omega⟩, nx (n := 1001) (by omega) (by omega), map_range_take, map_range_take, Bool.false_or, List.drop_zero]
  · dsimp only
    rw [if_neg (by omega)]
    rfl
  · rfl
end Go.AW

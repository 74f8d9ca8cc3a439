import Derived.Test.YtnjepajbbkejeaaGreatPr5
import Derived.Shelf.SlicesE.Clone
import Derived.Shelf.SlicesE.Delete
namespace Go.AW
open Go Go.Proofs
set_option linter.unusedVariables false
set_option maxHeartbeats 1600000 in
set_option maxRecDepth 100000 in
theorem w_word_known {p0 : Int} {r : Bool} (h : m_word_known p0 = some r) : Pure Tryz.prog 47 [HV.int .i64 p0] (· = HV.bool r) := by
 unfold m_word_known at h
 refine Pure.of_body Tryz.func47 rfl rfl (Nat.le_of_ble_eq_true rfl) fun hf => ?_
 unfold Tryz.f47
 dsimp only [enumS, Nat.reduceAdd]
 refine AW.rgs rfl fun K hK => ?_
 refine mv rfl rfl ?_
 refine b_fin hK (s' := ⟨[(0, HV.int .i64 p0)], []⟩) (le_q rfl rfl) ?_
 clear hK K
 refine AW.seqJ h (S := Bool) (V := Unit) (fun a v => ⟨[(2, HV.bool a)], []⟩) (fun a1 w2 h => ?_) (fun k3 h => ?_)
 ·refine AW.ret ?_
  have h := Option.some.inj h
  subst h
  exact ret_pure (hs := [HV.bool a1]) (q := HV.bool a1) (.inr rfl) (resT rfl rfl) rfl trivial
 refine AW.rg rfl fun K hK => ?_
 refine mv rfl rfl ?_
 refine bv rfl (v_bin rfl rfl b_geq) ?_
 refine mv rfl rfl ?_
 by_cases hg4 : 1 ≤ p0
 ·have h := ifT hg4 h
  refine b_T rfl rfl rfl rfl (decide_eq_true hg4) (o_val rfl (mv_val rfl rfl).2 ?_)
  refine b_T rfl rfl rfl rfl rfl (o_val rfl (v_bin rfl rfl b_leq) ?_)
  refine bv rfl (v_pickT rfl rfl rfl) ?_
  refine mv rfl rfl ?_
  refine b_nil (hK _ ?_)
  clear hK K
  exact to_le (s' := ⟨[(2, HV.bool (decide (p0 ≤ 16)))], []⟩) (AS.le_of ⟨rfl, trivial⟩ trivial) ⟨decide (p0 ≤ 16), (), h, rfl⟩
 have h := ifF hg4 h
 refine b_F rfl rfl rfl rfl rfl (decide_eq_false hg4) ?_
 refine b_F rfl rfl rfl rfl rfl rfl ?_
 refine bv rfl (v_pickF rfl rfl rfl) ?_
 refine mv rfl rfl ?_
 refine b_nil (hK _ ?_)
 clear hK K
 exact to_le (s' := ⟨[(2, HV.bool false)], []⟩) (AS.le_of ⟨rfl, trivial⟩ trivial) ⟨false, (), h, rfl⟩

set_option maxHeartbeats 1600000 in
set_option maxRecDepth 100000 in
theorem w_word_Check {p0 : Int} {p1 : List UInt8} {r : Int} (h : m_word_Check p0 p1 = some r) : Pure Tryz.prog 27 [HV.int .i64 p0, HV.str p1] (· = HV.int .i64 r) := by
 unfold m_word_Check at h
 refine Pure.of_body Tryz.func27 rfl rfl (Nat.le_of_ble_eq_true rfl) fun hf => ?_
 unfold Tryz.f27
 dsimp only [enumS, Nat.reduceAdd]
 refine AW.rgs rfl fun K hK => ?_
 refine mv rfl rfl ?_
 refine b_fin hK (s' := ⟨[(0, HV.int .i64 p0), (1, HV.str p1)], []⟩) (le_q rfl rfl) ?_
 clear hK K
 refine AW.seq (AW.block ?_)
 refine AW.rgs rfl fun K hK => ?_
 refine mv rfl rfl ?_
 obtain ⟨x1, h2, h⟩ := bS h
 refine b_op rfl (o_call rfl rfl rfl rfl (ACallD.pure0 (w_word_known h2)) ?_)
 refine bv rfl (v_not rfl) ?_
 refine mv rfl rfl ?_
 refine b_fin hK (s' := ⟨[(0, HV.int .i64 p0), (1, HV.str p1), (6, HV.bool (!x1))], []⟩) (le_q rfl rfl) ?_
 clear hK K
 refine AW.cond rfl (fun hc => ?_) (fun hc => ?_)
 ·have h := ifT hc h
  refine AW.rgs rfl fun K hK => ?_
  refine mv rfl rfl ?_
  refine b_fin hK (s' := ⟨[(4, HV.int .i64 12)], []⟩) (le_q rfl rfl) ?_
  clear hK K
  refine AW.ret ?_
  have h := Option.some.inj h
  subst h
  exact ret_pure (hs := [HV.int .i64 12]) (q := HV.int .i64 12) (.inr rfl) (resT rfl rfl) rfl trivial
 have h := ifF (bF' hc) h
 refine AW.rgs rfl fun K hK => ?_
 refine mv rfl rfl ?_
 refine bv rfl (v_lenS rfl rfl ty9 rfl) ?_
 refine bv rfl (v_bin rfl rfl b_gtr) ?_
 refine mv rfl rfl ?_
 refine b_fin hK (s' := ⟨[(0, HV.int .i64 p0), (1, HV.str p1), (10, HV.bool (decide (65536 < ((p1).length : Int))))], []⟩) (le_q rfl rfl) ?_
 clear hK K
 refine AW.cond rfl (fun hc => ?_) (fun hc => ?_)
 ·have hc := of_decide_eq_true hc
  have h := ifT hc h
  refine AW.rgs rfl fun K hK => ?_
  refine mv rfl rfl ?_
  refine b_fin hK (s' := ⟨[(4, HV.int .i64 4)], []⟩) (le_q rfl rfl) ?_
  clear hK K
  refine AW.ret ?_
  have h := Option.some.inj h
  subst h
  exact ret_pure (hs := [HV.int .i64 4]) (q := HV.int .i64 4) (.inr rfl) (resT rfl rfl) rfl trivial
 have hc := of_decide_eq_false hc
 have h := ifF hc h
 refine AW.skip ?_
 refine AW.seq ?_
 refine AW.rgs rfl fun K hK => ?_
 refine mv rfl rfl ?_
 refine bv rfl (v_lenS rfl rfl ty9 rfl) ?_
 refine mv rfl rfl ?_
 refine b_fin hK (s' := ⟨[(0, HV.int .i64 p0), (1, HV.str p1), (15, HV.int .i64 ((p1).length : Int)), (16, HV.int .i64 0)], []⟩) (le_q rfl rfl) ?_
 clear hK K
 refine AW.lpR h (by first | exact up_then | exact up_to) (S := Int) (V := Unit) (fun a v => ⟨[(0, HV.int .i64 p0), (1, HV.str p1), (15, HV.int .i64 ((p1).length : Int)), (16, HV.int .i64 a)], []⟩) ?_ (X := Unit) (W := Unit) (fun a v => ⟨[], []⟩) (fun a12 w13 h => ?_) (fun a3 w4 st5 h hr6=> ?_)
 ·exact to_le (s' := ⟨[(0, HV.int .i64 p0), (1, HV.str p1), (15, HV.int .i64 ((p1).length : Int)), (16, HV.int .i64 0)], []⟩) (AS.le_of ⟨rfl, rfl, rfl, rfl, trivial⟩ trivial) ⟨(), rfl⟩
 ·refine AW.rgs rfl fun K hK => ?_
  refine mv rfl rfl ?_
  refine b_fin hK (s' := ⟨[(4, HV.int .i64 0)], []⟩) (le_q rfl rfl) ?_
  clear hK K
  refine AW.ret ?_
  have h := Option.some.inj h
  subst h
  exact ret_pure (hs := [HV.int .i64 0]) (q := HV.int .i64 0) (.inr rfl) (resT rfl rfl) rfl trivial
 refine AW.rgs rfl fun K hK => ?_
 refine bv rfl (v_bin rfl rfl b_lss) ?_
 refine b_fin hK (s' := ⟨[(0, HV.int .i64 p0), (1, HV.str p1), (15, HV.int .i64 ((p1).length : Int)), (16, HV.int .i64 a3), (17, HV.bool (decide (a3 < ((p1).length : Int))))], []⟩) (le_q rfl rfl) ?_
 clear hK K
 refine AW.cseq rfl (fun hc => ?_) (fun hc => ?_)
 ·have hc := of_decide_eq_true hc
  have h := ifT hc h
  refine AW.skip ?_
  refine AW.seq (AW.block ?_)
  refine AW.rgs rfl fun K hK => ?_
  refine mv rfl rfl ?_
  refine mv rfl rfl ?_
  refine b_fin hK (s' := ⟨[(0, HV.int .i64 p0), (1, HV.str p1), (5, HV.int .i64 a3), (15, HV.int .i64 ((p1).length : Int)), (16, HV.int .i64 a3)], []⟩) (le_q rfl rfl) ?_
  clear hK K
  refine AW.dgs 7 follows rfl rfl fun K hK => ?_
  refine sm rfl rfl ?_
  obtain ⟨h7, h⟩ := ifN h
  refine sv rfl (v_sliceS ty9 rfl rfl rfl h7) ?_
  refine sm rfl rfl ?_
  refine sm rfl rfl ?_
  obtain ⟨x8, h9, h⟩ := bS h
  refine sv rfl (v_idxS ty9 rfl rfl h9) ?_
  obtain ⟨x10, h11, h⟩ := bS h
  refine s_op rfl rfl (ops_call rfl rfl rfl rfl (ACallD.pure0 (w_strings_IndexByte h11)) ?_)
  refine sv rfl (v_bin rfl rfl b_lss) ?_
  refine s_nil ?_
  refine b_fin hK (s' := ⟨[(0, HV.int .i64 p0), (1, HV.str p1), (15, HV.int .i64 ((p1).length : Int)), (16, HV.int .i64 a3), (25, HV.bool (decide (x10 < 0)))], []⟩) (le_q rfl rfl) ?_
  clear hK K
  refine AW.cond rfl (fun hc => ?_) (fun hc => ?_)
  ·have hc := of_decide_eq_true hc
   have h := ifT hc h
   refine AW.rgs rfl fun K hK => ?_
   refine mv rfl rfl ?_
   refine b_fin hK (s' := ⟨[(4, HV.int .i64 13)], []⟩) (le_q rfl rfl) ?_
   clear hK K
   have h := hr6 _ h
   refine AW.ret ?_
   have h := Option.some.inj h
   subst h
   exact ret_pure (hs := [HV.int .i64 13]) (q := HV.int .i64 13) (.inr rfl) (resT rfl rfl) rfl trivial
  have hc := of_decide_eq_false hc
  have h := ifF hc h
  refine AW.skip ?_
  refine AW.rg rfl fun K hK => ?_
  refine bv rfl (v_bin rfl rfl b_add) ?_
  refine mv rfl rfl ?_
  refine b_nil (hK _ ?_)
  clear hK K
  exact to_le (s' := ⟨[(0, HV.int .i64 p0), (1, HV.str p1), (15, HV.int .i64 ((p1).length : Int)), (16, HV.int .i64 (IntKind.wrap .i64 (a3 + 1)))], []⟩) (AS.le_of ⟨rfl, rfl, rfl, rfl, trivial⟩ trivial) ⟨IntKind.wrap .i64 (a3 + 1), (), h, rfl⟩
 have hc := of_decide_eq_false hc
 have h := ifF hc h
 refine AW.exit ?_
 exact to_le (s' := ⟨[], []⟩) (AS.le_of trivial trivial) ⟨(), (), h, rfl⟩

set_option maxHeartbeats 1600000 in
set_option maxRecDepth 100000 in
theorem w_syncmark_check {p0 : TLabelsStatesEdges} {p1 : List UInt8} {r : Int} (h : m_syncmark_check p0 p1 = some r) : Pure Tryz.prog 39 [HV.agg [HV.int .i64 p0.1, HV.int .i64 p0.2.1, slE eFromLabelTo p0.2.2], HV.str p1] (· = HV.int .i64 r) := by
 unfold m_syncmark_check at h
 refine Pure.of_body Tryz.func39 rfl rfl (Nat.le_of_ble_eq_true rfl) fun hf => ?_
 unfold Tryz.f39
 dsimp only [enumS, Nat.reduceAdd]
 refine AW.rgs rfl fun K hK => ?_
 refine b_op rfl (o_box rfl rfl rfl ?_)
 refine mv rfl rfl ?_
 refine b_fin hK (s' := ⟨[(1, HV.str p1), (2, HV.fptr [HV.int .i64 p0.1, HV.int .i64 p0.2.1, slE eFromLabelTo p0.2.2] 0)], []⟩) (le_q rfl rfl) ?_
 clear hK K
 refine AW.seq (AW.block ?_)
 refine AW.rgs rfl fun K hK => ?_
 refine bv rfl (v_loadF ty24 rfl (l_litA rfl (Nat.le_of_ble_eq_true rfl) rfl)) ?_
 obtain ⟨x1, h2, h⟩ := bS h
 refine b_op rfl (o_call rfl rfl rfl rfl (ACallD.pure0 (w_graph_Check h2)) ?_)
 refine bv rfl (v_bin rfl rfl b_neq) ?_
 refine mv rfl rfl ?_
 refine b_fin hK (s' := ⟨[(1, HV.str p1), (2, HV.fptr [HV.int .i64 p0.1, HV.int .i64 p0.2.1, slE eFromLabelTo p0.2.2] 0), (5, HV.bool (decide (x1 ≠ 0)))], []⟩) (le_q rfl rfl) ?_
 clear hK K
 refine AW.cond rfl (fun hc => ?_) (fun hc => ?_)
 ·have hc := of_decide_eq_true hc
  have h := ifT hc h
  refine AW.rgs rfl fun K hK => ?_
  refine mv rfl rfl ?_
  refine b_fin hK (s' := ⟨[(4, HV.int .i64 1)], []⟩) (le_q rfl rfl) ?_
  clear hK K
  refine AW.ret ?_
  have h := Option.some.inj h
  subst h
  exact ret_pure (hs := [HV.int .i64 1]) (q := HV.int .i64 1) (.inr rfl) (resT rfl rfl) rfl trivial
 have hc := of_decide_eq_false hc
 have h := ifF hc h
 refine AW.rgs rfl fun K hK => ?_
 refine bv rfl (v_fieldAddrF fo24_0 rfl) ?_
 refine bv rfl (v_loadF ty3 rfl (l_lit rfl rfl)) ?_
 refine bv rfl (v_bin rfl rfl b_gtr) ?_
 refine mv rfl rfl ?_
 refine b_fin hK (s' := ⟨[(1, HV.str p1), (2, HV.fptr [HV.int .i64 p0.1, HV.int .i64 p0.2.1, slE eFromLabelTo p0.2.2] 0), (9, HV.bool (decide (16 < p0.1)))], []⟩) (le_q rfl rfl) ?_
 clear hK K
 refine AW.cond rfl (fun hc => ?_) (fun hc => ?_)
 ·have hc := of_decide_eq_true hc
  have h := ifT hc h
  refine AW.rgs rfl fun K hK => ?_
  refine mv rfl rfl ?_
  refine b_fin hK (s' := ⟨[(4, HV.int .i64 12)], []⟩) (le_q rfl rfl) ?_
  clear hK K
  refine AW.ret ?_
  have h := Option.some.inj h
  subst h
  exact ret_pure (hs := [HV.int .i64 12]) (q := HV.int .i64 12) (.inr rfl) (resT rfl rfl) rfl trivial
 have hc := of_decide_eq_false hc
 have h := ifF hc h
 refine AW.rgs rfl fun K hK => ?_
 refine mv rfl rfl ?_
 refine bv rfl (v_bin rfl rfl b_seql) ?_
 refine mv rfl rfl ?_
 refine b_fin hK (s' := ⟨[(1, HV.str p1), (2, HV.fptr [HV.int .i64 p0.1, HV.int .i64 p0.2.1, slE eFromLabelTo p0.2.2] 0), (13, HV.bool (decide (p1 = ([] : List UInt8))))], []⟩) (le_q rfl rfl) ?_
 clear hK K
 refine AW.cond rfl (fun hc => ?_) (fun hc => ?_)
 ·have hc := of_decide_eq_true hc
  have h := ifT hc h
  refine AW.rgs rfl fun K hK => ?_
  refine mv rfl rfl ?_
  refine b_fin hK (s' := ⟨[(4, HV.int .i64 5)], []⟩) (le_q rfl rfl) ?_
  clear hK K
  refine AW.ret ?_
  have h := Option.some.inj h
  subst h
  exact ret_pure (hs := [HV.int .i64 5]) (q := HV.int .i64 5) (.inr rfl) (resT rfl rfl) rfl trivial
 have hc := of_decide_eq_false hc
 have h := ifF hc h
 refine AW.rgs rfl fun K hK => ?_
 refine mv rfl rfl ?_
 refine bv rfl (v_lenS rfl rfl ty9 rfl) ?_
 refine bv rfl (v_bin rfl rfl b_gtr) ?_
 refine mv rfl rfl ?_
 refine b_fin hK (s' := ⟨[(1, HV.str p1), (2, HV.fptr [HV.int .i64 p0.1, HV.int .i64 p0.2.1, slE eFromLabelTo p0.2.2] 0), (16, HV.bool (decide (32 < ((p1).length : Int))))], []⟩) (le_q rfl rfl) ?_
 clear hK K
 refine AW.cond rfl (fun hc => ?_) (fun hc => ?_)
 ·have hc := of_decide_eq_true hc
  have h := ifT hc h
  refine AW.rgs rfl fun K hK => ?_
  refine mv rfl rfl ?_
  refine b_fin hK (s' := ⟨[(4, HV.int .i64 4)], []⟩) (le_q rfl rfl) ?_
  clear hK K
  refine AW.ret ?_
  have h := Option.some.inj h
  subst h
  exact ret_pure (hs := [HV.int .i64 4]) (q := HV.int .i64 4) (.inr rfl) (resT rfl rfl) rfl trivial
 have hc := of_decide_eq_false hc
 have h := ifF hc h
 refine AW.skip ?_
 refine AW.rgs rfl fun K hK => ?_
 refine bv rfl (v_fieldAddrF fo24_0 rfl) ?_
 refine bv rfl (v_loadF ty3 rfl (l_lit rfl rfl)) ?_
 refine mv rfl rfl ?_
 obtain ⟨x3, h4, h⟩ := bS h
 refine b_op rfl (o_call rfl rfl rfl rfl (ACallD.pure0 (w_word_Check h4)) ?_)
 refine mv rfl rfl ?_
 refine b_fin hK (s' := ⟨[(4, HV.int .i64 x3)], []⟩) (le_q rfl rfl) ?_
 clear hK K
 refine AW.ret ?_
 have h := Option.some.inj h
 subst h
 exact ret_pure (hs := [HV.int .i64 x3]) (q := HV.int .i64 x3) (.inr rfl) (resT rfl rfl) rfl trivial

set_option maxHeartbeats 1600000 in
set_option maxRecDepth 100000 in
theorem w_syncmark_checkNumber {p0 : TLabelsStatesEdges} {p1 : List UInt8} {p2 : Int} {r : Int} (h : m_syncmark_checkNumber p0 p1 p2 = some r) : Pure Tryz.prog 37 [HV.agg [HV.int .i64 p0.1, HV.int .i64 p0.2.1, slE eFromLabelTo p0.2.2], HV.str p1, HV.int .i64 p2] (· = HV.int .i64 r) := by
 unfold m_syncmark_checkNumber at h
 refine Pure.of_body Tryz.func37 rfl rfl (Nat.le_of_ble_eq_true rfl) fun hf => ?_
 unfold Tryz.f37
 dsimp only [enumS, Nat.reduceAdd]
 refine AW.rgs rfl fun K hK => ?_
 refine b_op rfl (o_box rfl rfl rfl ?_)
 refine mv rfl rfl ?_
 refine b_fin hK (s' := ⟨[(1, HV.str p1), (2, HV.int .i64 p2), (3, HV.fptr [HV.int .i64 p0.1, HV.int .i64 p0.2.1, slE eFromLabelTo p0.2.2] 0)], []⟩) (le_q rfl rfl) ?_
 clear hK K
 refine AW.seq ?_
 refine AW.rgs rfl fun K hK => ?_
 refine bv rfl (v_loadF ty24 rfl (l_litA rfl (Nat.le_of_ble_eq_true rfl) rfl)) ?_
 refine mv rfl rfl ?_
 obtain ⟨x1, h2, h⟩ := bS h
 refine b_op rfl (o_call rfl rfl rfl rfl (ACallD.pure0 (w_syncmark_check h2)) ?_)
 refine mv rfl rfl ?_
 refine b_fin hK (s' := ⟨[(2, HV.int .i64 p2), (7, HV.int .i64 x1)], []⟩) (le_q rfl rfl) ?_
 clear hK K
 refine AW.rgs rfl fun K hK => ?_
 refine mv rfl rfl ?_
 refine bv rfl (v_bin rfl rfl b_neq) ?_
 refine b_fin hK (s' := ⟨[(2, HV.int .i64 p2), (7, HV.int .i64 x1), (12, HV.bool (decide (x1 ≠ 0)))], []⟩) (le_q rfl rfl) ?_
 clear hK K
 refine AW.cond rfl (fun hc => ?_) (fun hc => ?_)
 ·have hc := of_decide_eq_true hc
  have h := ifT hc h
  refine AW.rgs rfl fun K hK => ?_
  refine mv rfl rfl ?_
  refine mv rfl rfl ?_
  refine b_fin hK (s' := ⟨[(6, HV.int .i64 x1)], []⟩) (le_q rfl rfl) ?_
  clear hK K
  refine AW.ret ?_
  have h := Option.some.inj h
  subst h
  exact ret_pure (hs := [HV.int .i64 x1]) (q := HV.int .i64 x1) (.inr rfl) (resT rfl rfl) rfl trivial
 have hc := of_decide_eq_false hc
 have h := ifF hc h
 refine AW.skip ?_
 refine AW.seq ?_
 refine AW.seqJ h (S := Bool) (V := Unit) (fun a v => ⟨[(19, HV.bool a)], []⟩) (fun a3 w4 h => ?_) (fun k5 h => ?_)
 ·refine AW.cond rfl (fun hc => ?_) (fun hc => ?_)
  ·have h := ifT hc h
   refine AW.rgs rfl fun K hK => ?_
   refine mv rfl rfl ?_
   refine b_fin hK (s' := ⟨[(6, HV.int .i64 2)], []⟩) (le_q rfl rfl) ?_
   clear hK K
   refine AW.ret ?_
   have h := Option.some.inj h
   subst h
   exact ret_pure (hs := [HV.int .i64 2]) (q := HV.int .i64 2) (.inr rfl) (resT rfl rfl) rfl trivial
  have h := ifF (bF' hc) h
  refine AW.skip ?_
  refine AW.rgs rfl fun K hK => ?_
  refine mv rfl rfl ?_
  refine b_fin hK (s' := ⟨[(6, HV.int .i64 0)], []⟩) (le_q rfl rfl) ?_
  clear hK K
  refine AW.ret ?_
  have h := Option.some.inj h
  subst h
  exact ret_pure (hs := [HV.int .i64 0]) (q := HV.int .i64 0) (.inr rfl) (resT rfl rfl) rfl trivial
 refine AW.rg rfl fun K hK => ?_
 refine mv rfl rfl ?_
 refine bv rfl (v_bin rfl rfl b_lss) ?_
 refine mv rfl rfl ?_
 by_cases hg6 : p2 < 0
 ·have h := ifT hg6 h
  refine b_F rfl rfl rfl rfl rfl (decide_eq_true hg6) ?_
  refine b_F rfl rfl rfl rfl rfl rfl ?_
  refine bv rfl (v_pickT rfl rfl rfl) ?_
  refine b_nil (hK _ ?_)
  clear hK K
  exact to_le (s' := ⟨[(19, HV.bool true)], []⟩) (AS.le_of ⟨rfl, trivial⟩ trivial) ⟨true, (), h, rfl⟩
 have h := ifF hg6 h
 refine b_T rfl rfl rfl rfl (decide_eq_false hg6) (o_val rfl (mv_val rfl rfl).2 ?_)
 refine b_T rfl rfl rfl rfl rfl (o_val rfl (v_bin rfl rfl b_gtr) ?_)
 refine bv rfl (v_pickF rfl rfl rfl) ?_
 refine b_nil (hK _ ?_)
 clear hK K
 exact to_le (s' := ⟨[(19, HV.bool (decide (4096 < p2)))], []⟩) (AS.le_of ⟨rfl, trivial⟩ trivial) ⟨decide (4096 < p2), (), h, rfl⟩

set_option maxHeartbeats 1600000 in
set_option maxRecDepth 100000 in
theorem w_syncmark_Bad {p0 : TLabelsStatesEdges} {p1 : List UInt8} {p2 : Int} {r : (List UInt8) × Bool × Int} (h : m_syncmark_Bad p0 p1 p2 = some r) : Pure Tryz.prog 11 [HV.agg [HV.int .i64 p0.1, HV.int .i64 p0.2.1, slE eFromLabelTo p0.2.2], HV.str p1, HV.int .i64 p2] (· = HV.tup [HV.str r.1, HV.bool r.2.1, HV.int .i64 r.2.2]) := by
 unfold m_syncmark_Bad at h
 refine Pure.of_body Tryz.func11 rfl rfl (Nat.le_of_ble_eq_true rfl) fun hf => ?_
 unfold Tryz.f11
 dsimp only [enumS, Nat.reduceAdd]
 refine AW.rgs rfl fun K hK => ?_
 refine b_op rfl (o_box rfl rfl rfl ?_)
 refine mv rfl rfl ?_
 refine mv rfl rfl ?_
 refine mv rfl rfl ?_
 refine b_fin hK (s' := ⟨[(1, HV.str p1), (2, HV.int .i64 p2), (3, HV.fptr [HV.int .i64 p0.1, HV.int .i64 p0.2.1, slE eFromLabelTo p0.2.2] 0)], []⟩) (le_q rfl rfl) ?_
 clear hK K
 refine AW.seq ?_
 refine AW.rgs rfl fun K hK => ?_
 refine bv rfl (v_loadF ty24 rfl (l_litA rfl (Nat.le_of_ble_eq_true rfl) rfl)) ?_
 refine mv rfl rfl ?_
 refine mv rfl rfl ?_
 obtain ⟨x1, h2, h⟩ := bS h
 refine b_op rfl (o_call rfl rfl rfl rfl (ACallD.pure0 (w_syncmark_checkNumber h2)) ?_)
 refine mv rfl rfl ?_
 refine b_fin hK (s' := ⟨[(1, HV.str p1), (2, HV.int .i64 p2), (3, HV.fptr [HV.int .i64 p0.1, HV.int .i64 p0.2.1, slE eFromLabelTo p0.2.2] 0), (9, HV.int .i64 x1)], []⟩) (le_q rfl rfl) ?_
 clear hK K
 refine AW.rgs rfl fun K hK => ?_
 refine mv rfl rfl ?_
 refine bv rfl (v_bin rfl rfl b_neq) ?_
 refine b_fin hK (s' := ⟨[(1, HV.str p1), (2, HV.int .i64 p2), (3, HV.fptr [HV.int .i64 p0.1, HV.int .i64 p0.2.1, slE eFromLabelTo p0.2.2] 0), (9, HV.int .i64 x1), (17, HV.bool (decide (x1 ≠ 0)))], []⟩) (le_q rfl rfl) ?_
 clear hK K
 refine AW.cond rfl (fun hc => ?_) (fun hc => ?_)
 ·have hc := of_decide_eq_true hc
  have h := ifT hc h
  refine AW.rgs rfl fun K hK => ?_
  refine mv rfl rfl ?_
  refine mv rfl rfl ?_
  refine mv rfl rfl ?_
  refine mv rfl rfl ?_
  refine b_fin hK (s' := ⟨[(6, HV.str ([] : List UInt8)), (7, HV.bool false), (8, HV.int .i64 x1)], []⟩) (le_q rfl rfl) ?_
  clear hK K
  refine AW.ret ?_
  have h := Option.some.inj h
  subst h
  exact ret_pure (hs := [HV.str ([] : List UInt8), HV.bool false, HV.int .i64 x1]) (q := HV.tup [HV.str ([] : List UInt8), HV.bool false, HV.int .i64 x1]) (.inr rfl) (resT rfl (resT rfl (resT rfl rfl))) rfl ⟨trivial, trivial, trivial, trivial⟩
 have hc := of_decide_eq_false hc
 have h := ifF hc h
 refine AW.skip ?_
 refine AW.rgs rfl fun K hK => ?_
 refine bv rfl (v_loadF ty24 rfl (l_litA rfl (Nat.le_of_ble_eq_true rfl) rfl)) ?_
 refine mv rfl rfl ?_
 refine mv rfl rfl ?_
 obtain ⟨x3, h4, h⟩ := bS h
 refine b_op rfl (o_call rfl rfl rfl rfl (ACallD.pure0 (w_syncmark_bad h4)) ?_)
 refine mv rfl rfl ?_
 refine bv rfl (v_extract rfl rfl) ?_
 refine bv rfl (v_extract rfl rfl) ?_
 refine mv rfl rfl ?_
 refine mv rfl rfl ?_
 refine b_fin hK (s' := ⟨[(10, HV.str x3.1), (11, HV.bool x3.2)], []⟩) (le_q rfl rfl) ?_
 clear hK K
 refine AW.rgs rfl fun K hK => ?_
 refine mv rfl rfl ?_
 refine mv rfl rfl ?_
 refine mv rfl rfl ?_
 refine mv rfl rfl ?_
 refine mv rfl rfl ?_
 refine b_fin hK (s' := ⟨[(6, HV.str x3.1), (7, HV.bool x3.2), (8, HV.int .i64 0)], []⟩) (le_q rfl rfl) ?_
 clear hK K
 refine AW.ret ?_
 have h := Option.some.inj h
 subst h
 exact ret_pure (hs := [HV.str x3.1, HV.bool x3.2, HV.int .i64 0]) (q := HV.tup [HV.str x3.1, HV.bool x3.2, HV.int .i64 0]) (.inr rfl) (resT rfl (resT rfl (resT rfl rfl))) rfl ⟨trivial, trivial, trivial, trivial⟩

set_option maxHeartbeats 1600000 in
set_option maxRecDepth 100000 in
theorem w_syncmark_Valid {p0 : TLabelsStatesEdges} {p1 : List UInt8} {p2 : Int} {r : Bool × Int} (h : m_syncmark_Valid p0 p1 p2 = some r) : Pure Tryz.prog 12 [HV.agg [HV.int .i64 p0.1, HV.int .i64 p0.2.1, slE eFromLabelTo p0.2.2], HV.str p1, HV.int .i64 p2] (· = HV.tup [HV.bool r.1, HV.int .i64 r.2]) := by
 unfold m_syncmark_Valid at h
 refine Pure.of_body Tryz.func12 rfl rfl (Nat.le_of_ble_eq_true rfl) fun hf => ?_
 unfold Tryz.f12
 dsimp only [enumS, Nat.reduceAdd]
 refine AW.rgs rfl fun K hK => ?_
 refine b_op rfl (o_box rfl rfl rfl ?_)
 refine mv rfl rfl ?_
 refine mv rfl rfl ?_
 refine b_fin hK (s' := ⟨[(1, HV.str p1), (2, HV.int .i64 p2), (3, HV.fptr [HV.int .i64 p0.1, HV.int .i64 p0.2.1, slE eFromLabelTo p0.2.2] 0)], []⟩) (le_q rfl rfl) ?_
 clear hK K
 refine AW.seq ?_
 refine AW.rgs rfl fun K hK => ?_
 refine bv rfl (v_loadF ty24 rfl (l_litA rfl (Nat.le_of_ble_eq_true rfl) rfl)) ?_
 refine mv rfl rfl ?_
 refine mv rfl rfl ?_
 obtain ⟨x1, h2, h⟩ := bS h
 refine b_op rfl (o_call rfl rfl rfl rfl (ACallD.pure0 (w_syncmark_checkNumber h2)) ?_)
 refine mv rfl rfl ?_
 refine b_fin hK (s' := ⟨[(1, HV.str p1), (2, HV.int .i64 p2), (3, HV.fptr [HV.int .i64 p0.1, HV.int .i64 p0.2.1, slE eFromLabelTo p0.2.2] 0), (8, HV.int .i64 x1)], []⟩) (le_q rfl rfl) ?_
 clear hK K
 refine AW.rgs rfl fun K hK => ?_
 refine mv rfl rfl ?_
 refine bv rfl (v_bin rfl rfl b_neq) ?_
 refine b_fin hK (s' := ⟨[(1, HV.str p1), (2, HV.int .i64 p2), (3, HV.fptr [HV.int .i64 p0.1, HV.int .i64 p0.2.1, slE eFromLabelTo p0.2.2] 0), (8, HV.int .i64 x1), (16, HV.bool (decide (x1 ≠ 0)))], []⟩) (le_q rfl rfl) ?_
 clear hK K
 refine AW.cond rfl (fun hc => ?_) (fun hc => ?_)
 ·have hc := of_decide_eq_true hc
  have h := ifT hc h
  refine AW.rgs rfl fun K hK => ?_
  refine mv rfl rfl ?_
  refine mv rfl rfl ?_
  refine mv rfl rfl ?_
  refine b_fin hK (s' := ⟨[(6, HV.bool false), (7, HV.int .i64 x1)], []⟩) (le_q rfl rfl) ?_
  clear hK K
  refine AW.ret ?_
  have h := Option.some.inj h
  subst h
  exact ret_pure (hs := [HV.bool false, HV.int .i64 x1]) (q := HV.tup [HV.bool false, HV.int .i64 x1]) (.inr rfl) (resT rfl (resT rfl rfl)) rfl ⟨trivial, trivial, trivial⟩
 have hc := of_decide_eq_false hc
 have h := ifF hc h
 refine AW.skip ?_
 refine AW.rgs rfl fun K hK => ?_
 refine bv rfl (v_loadF ty24 rfl (l_litA rfl (Nat.le_of_ble_eq_true rfl) rfl)) ?_
 refine mv rfl rfl ?_
 refine mv rfl rfl ?_
 obtain ⟨x3, h4, h⟩ := bS h
 refine b_op rfl (o_call rfl rfl rfl rfl (ACallD.pure0 (w_syncmark_bad h4)) ?_)
 refine mv rfl rfl ?_
 refine bv rfl (v_extract rfl rfl) ?_
 refine bv rfl (v_extract rfl rfl) ?_
 refine mv rfl rfl ?_
 refine mv rfl rfl ?_
 refine b_fin hK (s' := ⟨[(10, HV.bool x3.2)], []⟩) (le_q rfl rfl) ?_
 clear hK K
 refine AW.rgs rfl fun K hK => ?_
 refine mv rfl rfl ?_
 refine bv rfl (v_not rfl) ?_
 refine mv rfl rfl ?_
 refine mv rfl rfl ?_
 refine b_fin hK (s' := ⟨[(6, HV.bool (!x3.2)), (7, HV.int .i64 0)], []⟩) (le_q rfl rfl) ?_
 clear hK K
 refine AW.ret ?_
 have h := Option.some.inj h
 subst h
 exact ret_pure (hs := [HV.bool (!x3.2), HV.int .i64 0]) (q := HV.tup [HV.bool (!x3.2), HV.int .i64 0]) (.inr rfl) (resT rfl (resT rfl rfl)) rfl ⟨trivial, trivial, trivial⟩

set_option maxHeartbeats 1600000 in
set_option maxRecDepth 100000 in
theorem w_language_spells {p0 : TLabelsStatesEdges} {p1 : List UInt8} {r : Int} (h : m_language_spells p0 p1 = some r) : Pure Tryz.prog 75 [HV.agg [HV.int .i64 p0.1, HV.int .i64 p0.2.1, slE eFromLabelTo p0.2.2], HV.str p1] (· = HV.int .i64 r) := by
 unfold m_language_spells at h
 refine Pure.of_body Tryz.func75 rfl rfl (Nat.le_of_ble_eq_true rfl) fun hf => ?_
 unfold Tryz.f75
 dsimp only [enumS, Nat.reduceAdd]
 refine AW.rgs rfl fun K hK => ?_
 refine b_op rfl (o_box rfl rfl rfl ?_)
 refine mv rfl rfl ?_
 refine b_fin hK (s' := ⟨[(1, HV.str p1), (2, HV.fptr [HV.int .i64 p0.1, HV.int .i64 p0.2.1, slE eFromLabelTo p0.2.2] 0)], []⟩) (le_q rfl rfl) ?_
 clear hK K
 refine AW.seq ?_
 refine AW.rgs rfl fun K hK => ?_
 refine bv rfl (v_loadF ty24 rfl (l_litA rfl (Nat.le_of_ble_eq_true rfl) rfl)) ?_
 obtain ⟨x1, h2, h⟩ := bS h
 refine b_op rfl (o_call rfl rfl rfl rfl (ACallD.pure0 (w_language_check h2)) ?_)
 refine mv rfl rfl ?_
 refine b_fin hK (s' := ⟨[(1, HV.str p1), (2, HV.fptr [HV.int .i64 p0.1, HV.int .i64 p0.2.1, slE eFromLabelTo p0.2.2] 0), (5, HV.int .i64 x1)], []⟩) (le_q rfl rfl) ?_
 clear hK K
 refine AW.rgs rfl fun K hK => ?_
 refine mv rfl rfl ?_
 refine bv rfl (v_bin rfl rfl b_neq) ?_
 refine b_fin hK (s' := ⟨[(1, HV.str p1), (2, HV.fptr [HV.int .i64 p0.1, HV.int .i64 p0.2.1, slE eFromLabelTo p0.2.2] 0), (5, HV.int .i64 x1), (9, HV.bool (decide (x1 ≠ 0)))], []⟩) (le_q rfl rfl) ?_
 clear hK K
 refine AW.cond rfl (fun hc => ?_) (fun hc => ?_)
 ·have hc := of_decide_eq_true hc
  have h := ifT hc h
  refine AW.rgs rfl fun K hK => ?_
  refine mv rfl rfl ?_
  refine mv rfl rfl ?_
  refine b_fin hK (s' := ⟨[(4, HV.int .i64 x1)], []⟩) (le_q rfl rfl) ?_
  clear hK K
  refine AW.ret ?_
  have h := Option.some.inj h
  subst h
  exact ret_pure (hs := [HV.int .i64 x1]) (q := HV.int .i64 x1) (.inr rfl) (resT rfl rfl) rfl trivial
 have hc := of_decide_eq_false hc
 have h := ifF hc h
 refine AW.skip ?_
 refine AW.rgs rfl fun K hK => ?_
 refine bv rfl (v_fieldAddrF fo24_0 rfl) ?_
 refine bv rfl (v_loadF ty3 rfl (l_lit rfl rfl)) ?_
 refine mv rfl rfl ?_
 obtain ⟨x3, h4, h⟩ := bS h
 refine b_op rfl (o_call rfl rfl rfl rfl (ACallD.pure0 (w_word_Check h4)) ?_)
 refine mv rfl rfl ?_
 refine b_fin hK (s' := ⟨[(4, HV.int .i64 x3)], []⟩) (le_q rfl rfl) ?_
 clear hK K
 refine AW.ret ?_
 have h := Option.some.inj h
 subst h
 exact ret_pure (hs := [HV.int .i64 x3]) (q := HV.int .i64 x3) (.inr rfl) (resT rfl rfl) rfl trivial

set_option maxHeartbeats 1600000 in
set_option maxRecDepth 100000 in
theorem w_language_ends {p0 : TLabelsStatesEdges} {p1 : List (Int)} {p2 : List UInt8} {r : (List (Int))} (h : m_language_ends p0 p1 p2 = some r) : Pure Tryz.prog 76 [HV.agg [HV.int .i64 p0.1, HV.int .i64 p0.2.1, slE eFromLabelTo p0.2.2], slE eInt p1, HV.str p2] (· = slE eInt r) := by
 unfold m_language_ends at h
 refine Pure.of_body Tryz.func76 rfl rfl (Nat.le_of_ble_eq_true rfl) fun hf => ?_
 unfold Tryz.f76
 dsimp only [enumS, Nat.reduceAdd]
 refine AW.rgs rfl fun K hK => ?_
 refine b_op rfl (o_box rfl rfl rfl ?_)
 refine mv rfl rfl ?_
 refine b_fin hK (s' := ⟨[(1, slE eInt p1), (2, HV.str p2), (3, HV.fptr [HV.int .i64 p0.1, HV.int .i64 p0.2.1, slE eFromLabelTo p0.2.2] 0)], []⟩) (le_q rfl rfl) ?_
 clear hK K
 refine AW.seq ?_
 refine AW.rgs rfl fun K hK => ?_
 refine mv rfl rfl ?_
 refine b_fin hK (s' := ⟨[(1, slE eInt p1), (2, HV.str p2), (3, HV.fptr [HV.int .i64 p0.1, HV.int .i64 p0.2.1, slE eFromLabelTo p0.2.2] 0), (7, HV.int .i64 0)], []⟩) (le_q rfl rfl) ?_
 clear hK K
 refine AW.lpX h (by first | exact up_then | exact up_to) (S := (List Int) × Int) (V := Unit) (fun a v => ⟨[(1, slE eInt a.1), (2, HV.str p2), (3, HV.fptr [HV.int .i64 p0.1, HV.int .i64 p0.2.1, slE eFromLabelTo p0.2.2] 0), (7, HV.int .i64 a.2)], []⟩) ?_ (X := (List Int)) (W := Unit) (fun a v => ⟨[(1, slE eInt a)], []⟩) (fun a13 w14 h => ?_) (fun a1 w2 st3 h => ?_)
 ·exact to_le (s' := ⟨[(1, slE eInt p1), (2, HV.str p2), (3, HV.fptr [HV.int .i64 p0.1, HV.int .i64 p0.2.1, slE eFromLabelTo p0.2.2] 0), (7, HV.int .i64 0)], []⟩) (AS.le_of ⟨rfl, rfl, rfl, rfl, trivial⟩ trivial) ⟨(), rfl⟩
 ·refine AW.rgs rfl fun K hK => ?_
  refine mv rfl rfl ?_
  refine mv rfl rfl ?_
  refine b_fin hK (s' := ⟨[(6, slE eInt a13)], []⟩) (le_q rfl rfl) ?_
  clear hK K
  refine AW.ret ?_
  have h := Option.some.inj h
  subst h
  exact ret_pure (hs := [slE eInt a13]) (q := slE eInt a13) (.inr rfl) (resT rfl rfl) rfl (clean_slE fun _ _ => ⟨trivial, trivial⟩)
 refine AW.seq ?_
 refine AW.seqJ h (S := Bool) (V := Unit) (fun a v => ⟨[(1, slE eInt a1.1), (2, HV.str p2), (3, HV.fptr [HV.int .i64 p0.1, HV.int .i64 p0.2.1, slE eFromLabelTo p0.2.2] 0), (7, HV.int .i64 a1.2), (16, HV.bool a)], []⟩) (fun a5 w6 h => ?_) (fun k7 h => ?_)
 ·refine AW.cond rfl (fun hc => ?_) (fun hc => ?_)
  ·have h := ifT hc h
   refine AW.skip ?_
   refine AW.seq (AW.block ?_)
   refine AW.dg 7 follows rfl rfl fun K hK => ?_
   refine sv rfl (v_loadF ty24 rfl (l_litA rfl (Nat.le_of_ble_eq_true rfl) rfl)) ?_
   refine sm rfl rfl ?_
   refine sm rfl rfl ?_
   refine sm rfl rfl ?_
   obtain ⟨x8, h9, h⟩ := bS h
   refine sv rfl (v_idxS ty9 rfl rfl h9) ?_
   obtain ⟨x10, h11, h⟩ := bS h
   refine s_op rfl rfl (ops_call rfl rfl rfl rfl (ACallD.pure0 (w_language_step h11)) ?_)
   refine sm rfl rfl ?_
   refine s_nil ?_
   refine b_fin hK (s' := ⟨[(1, slE eInt x10), (2, HV.str p2), (3, HV.fptr [HV.int .i64 p0.1, HV.int .i64 p0.2.1, slE eFromLabelTo p0.2.2] 0), (7, HV.int .i64 a1.2)], []⟩) (le_q rfl rfl) ?_
   clear hK K
   refine AW.rg rfl fun K hK => ?_
   refine mv rfl rfl ?_
   refine bv rfl (v_bin rfl rfl b_add) ?_
   refine mv rfl rfl ?_
   refine b_nil (hK _ ?_)
   clear hK K
   exact to_le (s' := ⟨[(1, slE eInt x10), (2, HV.str p2), (3, HV.fptr [HV.int .i64 p0.1, HV.int .i64 p0.2.1, slE eFromLabelTo p0.2.2] 0), (7, HV.int .i64 (IntKind.wrap .i64 (a1.2 + 1)))], []⟩) (AS.le_of ⟨rfl, rfl, rfl, rfl, trivial⟩ trivial) ⟨(x10, IntKind.wrap .i64 (a1.2 + 1)), (), h, rfl⟩
  have h := ifF (bF' hc) h
  refine AW.exit ?_
  exact to_le (s' := ⟨[(1, slE eInt a1.1)], []⟩) (AS.le_of ⟨rfl, trivial⟩ trivial) ⟨a1.1, (), h, rfl⟩
 refine AW.rg rfl fun K hK => ?_
 refine mv rfl rfl ?_
 refine mv rfl rfl ?_
 refine bv rfl (v_lenS rfl rfl ty9 rfl) ?_
 refine bv rfl (v_bin rfl rfl b_lss) ?_
 refine mv rfl rfl ?_
 by_cases hg12 : a1.2 < ((p2).length : Int)
 ·have h := ifT hg12 h
  refine b_T rfl rfl rfl rfl (decide_eq_true hg12) (o_val rfl (mv_val rfl rfl).2 ?_)
  refine b_T rfl rfl rfl rfl rfl (o_val rfl (v_lenF rfl rfl ty55 rfl) ?_)
  refine b_T rfl rfl rfl rfl rfl (o_val rfl (v_bin rfl rfl b_gtr) ?_)
  refine bv rfl (v_pickT rfl rfl rfl) ?_
  refine b_nil (hK _ ?_)
  clear hK K
  exact to_le (s' := ⟨[(1, slE eInt a1.1), (2, HV.str p2), (3, HV.fptr [HV.int .i64 p0.1, HV.int .i64 p0.2.1, slE eFromLabelTo p0.2.2] 0), (7, HV.int .i64 a1.2), (16, HV.bool (decide (0 < ((a1.1).length : Int))))], []⟩) (AS.le_of ⟨rfl, rfl, rfl, rfl, rfl, trivial⟩ trivial) ⟨decide (0 < ((a1.1).length : Int)), (), h, rfl⟩
 have h := ifF hg12 h
 refine b_F rfl rfl rfl rfl rfl (decide_eq_false hg12) ?_
 refine b_F rfl rfl rfl rfl rfl rfl ?_
 refine b_F rfl rfl rfl rfl rfl rfl ?_
 refine bv rfl (v_pickF rfl rfl rfl) ?_
 refine b_nil (hK _ ?_)
 clear hK K
 exact to_le (s' := ⟨[(1, slE eInt a1.1), (2, HV.str p2), (3, HV.fptr [HV.int .i64 p0.1, HV.int .i64 p0.2.1, slE eFromLabelTo p0.2.2] 0), (7, HV.int .i64 a1.2), (16, HV.bool false)], []⟩) (AS.le_of ⟨rfl, rfl, rfl, rfl, rfl, trivial⟩ trivial) ⟨false, (), h, rfl⟩

set_option maxHeartbeats 1600000 in
set_option maxRecDepth 100000 in
theorem w_language_Accepts {p0 : TLabelsStatesEdges} {p1 : List UInt8} {r : Bool × Int} (h : m_language_Accepts p0 p1 = some r) : Pure Tryz.prog 49 [HV.agg [HV.int .i64 p0.1, HV.int .i64 p0.2.1, slE eFromLabelTo p0.2.2], HV.str p1] (· = HV.tup [HV.bool r.1, HV.int .i64 r.2]) := by
 unfold m_language_Accepts at h
 refine Pure.of_body Tryz.func49 rfl rfl (Nat.le_of_ble_eq_true rfl) fun hf => ?_
 unfold Tryz.f49
 dsimp only [enumS, Nat.reduceAdd]
 refine AW.rgs rfl fun K hK => ?_
 refine b_op rfl (o_box rfl rfl rfl ?_)
 refine mv rfl rfl ?_
 refine mv rfl rfl ?_
 refine b_fin hK (s' := ⟨[(1, HV.str p1), (2, HV.fptr [HV.int .i64 p0.1, HV.int .i64 p0.2.1, slE eFromLabelTo p0.2.2] 0)], []⟩) (le_q rfl rfl) ?_
 clear hK K
 refine AW.seq ?_
 refine AW.rgs rfl fun K hK => ?_
 refine bv rfl (v_loadF ty24 rfl (l_litA rfl (Nat.le_of_ble_eq_true rfl) rfl)) ?_
 refine mv rfl rfl ?_
 obtain ⟨x1, h2, h⟩ := bS h
 refine b_op rfl (o_call rfl rfl rfl rfl (ACallD.pure0 (w_language_spells h2)) ?_)
 refine mv rfl rfl ?_
 refine b_fin hK (s' := ⟨[(1, HV.str p1), (2, HV.fptr [HV.int .i64 p0.1, HV.int .i64 p0.2.1, slE eFromLabelTo p0.2.2] 0), (6, HV.int .i64 x1)], []⟩) (le_q rfl rfl) ?_
 clear hK K
 refine AW.rgs rfl fun K hK => ?_
 refine mv rfl rfl ?_
 refine bv rfl (v_bin rfl rfl b_neq) ?_
 refine b_fin hK (s' := ⟨[(1, HV.str p1), (2, HV.fptr [HV.int .i64 p0.1, HV.int .i64 p0.2.1, slE eFromLabelTo p0.2.2] 0), (6, HV.int .i64 x1), (11, HV.bool (decide (x1 ≠ 0)))], []⟩) (le_q rfl rfl) ?_
 clear hK K
 refine AW.cond rfl (fun hc => ?_) (fun hc => ?_)
 ·have hc := of_decide_eq_true hc
  have h := ifT hc h
  refine AW.rgs rfl fun K hK => ?_
  refine mv rfl rfl ?_
  refine mv rfl rfl ?_
  refine mv rfl rfl ?_
  refine b_fin hK (s' := ⟨[(4, HV.bool false), (5, HV.int .i64 x1)], []⟩) (le_q rfl rfl) ?_
  clear hK K
  refine AW.ret ?_
  have h := Option.some.inj h
  subst h
  exact ret_pure (hs := [HV.bool false, HV.int .i64 x1]) (q := HV.tup [HV.bool false, HV.int .i64 x1]) (.inr rfl) (resT rfl (resT rfl rfl)) rfl ⟨trivial, trivial, trivial⟩
 have hc := of_decide_eq_false hc
 have h := ifF hc h
 refine AW.skip ?_
 refine AW.dgs 9 follows rfl rfl fun K hK => ?_
 refine sv rfl (v_loadF ty24 rfl (l_litA rfl (Nat.le_of_ble_eq_true rfl) rfl)) ?_
 refine sv rfl (v_loadF ty24 rfl (l_litA rfl (Nat.le_of_ble_eq_true rfl) rfl)) ?_
 obtain ⟨x3, h4, h⟩ := bS h
 refine s_op rfl rfl (ops_call rfl rfl rfl rfl (ACallD.pure0 (w_language_states h4)) ?_)
 refine sm rfl rfl ?_
 obtain ⟨x5, h6, h⟩ := bS h
 refine s_op rfl rfl (ops_call rfl rfl rfl rfl (ACallD.pure0 (w_language_ends h6)) ?_)
 refine sv rfl (v_lenF rfl rfl ty55 rfl) ?_
 refine sv rfl (v_bin rfl rfl b_gtr) ?_
 refine sm rfl rfl ?_
 refine sm rfl rfl ?_
 refine s_nil ?_
 refine b_fin hK (s' := ⟨[(4, HV.bool (decide (0 < ((x5).length : Int)))), (5, HV.int .i64 0)], []⟩) (le_q rfl rfl) ?_
 clear hK K
 refine AW.ret ?_
 have h := Option.some.inj h
 subst h
 exact ret_pure (hs := [HV.bool (decide (0 < ((x5).length : Int))), HV.int .i64 0]) (q := HV.tup [HV.bool (decide (0 < ((x5).length : Int))), HV.int .i64 0]) (.inr rfl) (resT rfl (resT rfl rfl)) rfl ⟨trivial, trivial, trivial⟩

set_option maxHeartbeats 1600000 in
set_option maxRecDepth 100000 in
theorem w_syncmark_Free {p0 : TLabelsStatesEdges} {p1 : List UInt8} {r : Bool × Int} (h : m_syncmark_Free p0 p1 = some r) : Pure Tryz.prog 28 [HV.agg [HV.int .i64 p0.1, HV.int .i64 p0.2.1, slE eFromLabelTo p0.2.2], HV.str p1] (· = HV.tup [HV.bool r.1, HV.int .i64 r.2]) := by
 unfold m_syncmark_Free at h
 refine Pure.of_body Tryz.func28 rfl rfl (Nat.le_of_ble_eq_true rfl) fun hf => ?_
 unfold Tryz.f28
 dsimp only [enumS, Nat.reduceAdd]
 refine AW.rgs rfl fun K hK => ?_
 refine b_op rfl (o_box rfl rfl rfl ?_)
 refine mv rfl rfl ?_
 refine mv rfl rfl ?_
 refine b_fin hK (s' := ⟨[(1, HV.str p1), (2, HV.fptr [HV.int .i64 p0.1, HV.int .i64 p0.2.1, slE eFromLabelTo p0.2.2] 0)], []⟩) (le_q rfl rfl) ?_
 clear hK K
 refine AW.seq ?_
 refine AW.rgs rfl fun K hK => ?_
 refine bv rfl (v_loadF ty24 rfl (l_litA rfl (Nat.le_of_ble_eq_true rfl) rfl)) ?_
 refine mv rfl rfl ?_
 obtain ⟨x1, h2, h⟩ := bS h
 refine b_op rfl (o_call rfl rfl rfl rfl (ACallD.pure0 (w_syncmark_check h2)) ?_)
 refine mv rfl rfl ?_
 refine b_fin hK (s' := ⟨[(1, HV.str p1), (2, HV.fptr [HV.int .i64 p0.1, HV.int .i64 p0.2.1, slE eFromLabelTo p0.2.2] 0), (6, HV.int .i64 x1)], []⟩) (le_q rfl rfl) ?_
 clear hK K
 refine AW.rgs rfl fun K hK => ?_
 refine mv rfl rfl ?_
 refine bv rfl (v_bin rfl rfl b_neq) ?_
 refine b_fin hK (s' := ⟨[(1, HV.str p1), (2, HV.fptr [HV.int .i64 p0.1, HV.int .i64 p0.2.1, slE eFromLabelTo p0.2.2] 0), (6, HV.int .i64 x1), (13, HV.bool (decide (x1 ≠ 0)))], []⟩) (le_q rfl rfl) ?_
 clear hK K
 refine AW.cond rfl (fun hc => ?_) (fun hc => ?_)
 ·have hc := of_decide_eq_true hc
  have h := ifT hc h
  refine AW.rgs rfl fun K hK => ?_
  refine mv rfl rfl ?_
  refine mv rfl rfl ?_
  refine mv rfl rfl ?_
  refine b_fin hK (s' := ⟨[(4, HV.bool false), (5, HV.int .i64 x1)], []⟩) (le_q rfl rfl) ?_
  clear hK K
  refine AW.ret ?_
  have h := Option.some.inj h
  subst h
  exact ret_pure (hs := [HV.bool false, HV.int .i64 x1]) (q := HV.tup [HV.bool false, HV.int .i64 x1]) (.inr rfl) (resT rfl (resT rfl rfl)) rfl ⟨trivial, trivial, trivial⟩
 have hc := of_decide_eq_false hc
 have h := ifF hc h
 refine AW.skip ?_
 refine AW.rgs rfl fun K hK => ?_
 refine bv rfl (v_loadF ty24 rfl (l_litA rfl (Nat.le_of_ble_eq_true rfl) rfl)) ?_
 refine mv rfl rfl ?_
 obtain ⟨x3, h4, h⟩ := bS h
 refine b_op rfl (o_call rfl rfl rfl rfl (ACallD.pure0 (w_language_Accepts h4)) ?_)
 refine mv rfl rfl ?_
 refine bv rfl (v_extract rfl rfl) ?_
 refine bv rfl (v_extract rfl rfl) ?_
 refine mv rfl rfl ?_
 refine mv rfl rfl ?_
 refine b_fin hK (s' := ⟨[(7, HV.bool x3.1), (8, HV.int .i64 x3.2)], []⟩) (le_q rfl rfl) ?_
 clear hK K
 refine AW.seqJ h (S := Bool) (V := Unit) (fun a v => ⟨[(4, HV.bool a), (5, HV.int .i64 x3.2)], []⟩) (fun a5 w6 h => ?_) (fun k7 h => ?_)
 ·refine AW.ret ?_
  have h := Option.some.inj h
  subst h
  exact ret_pure (hs := [HV.bool a5, HV.int .i64 x3.2]) (q := HV.tup [HV.bool a5, HV.int .i64 x3.2]) (.inr rfl) (resT rfl (resT rfl rfl)) rfl ⟨trivial, trivial, trivial⟩
 refine AW.rg rfl fun K hK => ?_
 refine mv rfl rfl ?_
 refine bv rfl (v_bin rfl rfl b_eql) ?_
 refine mv rfl rfl ?_
 by_cases hg8 : x3.2 = 0
 ·have h := ifT hg8 h
  refine b_T rfl rfl rfl rfl (decide_eq_true hg8) (o_val rfl (mv_val rfl rfl).2 ?_)
  refine b_T rfl rfl rfl rfl rfl (o_val rfl (v_not rfl) ?_)
  refine bv rfl (v_pickT rfl rfl rfl) ?_
  refine mv rfl rfl ?_
  refine mv rfl rfl ?_
  refine mv rfl rfl ?_
  refine b_nil (hK _ ?_)
  clear hK K
  exact to_le (s' := ⟨[(4, HV.bool (!x3.1)), (5, HV.int .i64 x3.2)], []⟩) (AS.le_of ⟨rfl, rfl, trivial⟩ trivial) ⟨!x3.1, (), h, rfl⟩
 have h := ifF hg8 h
 refine b_F rfl rfl rfl rfl rfl (decide_eq_false hg8) ?_
 refine b_F rfl rfl rfl rfl rfl rfl ?_
 refine bv rfl (v_pickF rfl rfl rfl) ?_
 refine mv rfl rfl ?_
 refine mv rfl rfl ?_
 refine mv rfl rfl ?_
 refine b_nil (hK _ ?_)
 clear hK K
 exact to_le (s' := ⟨[(4, HV.bool false), (5, HV.int .i64 x3.2)], []⟩) (AS.le_of ⟨rfl, rfl, trivial⟩ trivial) ⟨false, (), h, rfl⟩

set_option maxHeartbeats 1600000 in
set_option maxRecDepth 100000 in
theorem w_slices_Equal_Lint_int {p0 : List (Int)} {p1 : List (Int)} {r : Bool} (h : m_slices_Equal_Lint_int p0 p1 = some r) : Pure Tryz.prog 29 [slE eInt p0, slE eInt p1] (· = HV.bool r) := by
 unfold m_slices_Equal_Lint_int at h
 refine Pure.of_body Tryz.func29 rfl rfl (Nat.le_of_ble_eq_true rfl) fun hf => ?_
 unfold Tryz.f29
 dsimp only [enumS, Nat.reduceAdd]
 refine AW.rgs rfl fun K hK => ?_
 refine mv rfl rfl ?_
 refine b_fin hK (s' := ⟨[(0, slE eInt p0), (1, slE eInt p1)], []⟩) (le_q rfl rfl) ?_
 clear hK K
 refine AW.seq ?_
 refine AW.rgs rfl fun K hK => ?_
 refine mv rfl rfl ?_
 refine bv rfl (v_lenF rfl rfl ty55 rfl) ?_
 refine mv rfl rfl ?_
 refine bv rfl (v_lenF rfl rfl ty55 rfl) ?_
 refine bv rfl (v_bin rfl rfl b_neq) ?_
 refine b_fin hK (s' := ⟨[(0, slE eInt p0), (1, slE eInt p1), (10, HV.bool (decide (((p0).length : Int) ≠ ((p1).length : Int))))], []⟩) (le_q rfl rfl) ?_
 clear hK K
 refine AW.cond rfl (fun hc => ?_) (fun hc => ?_)
 ·have hc := of_decide_eq_true hc
  have h := ifT hc h
  refine AW.rgs rfl fun K hK => ?_
  refine mv rfl rfl ?_
  refine b_fin hK (s' := ⟨[(4, HV.bool false)], []⟩) (le_q rfl rfl) ?_
  clear hK K
  refine AW.ret ?_
  have h := Option.some.inj h
  subst h
  exact ret_pure (hs := [HV.bool false]) (q := HV.bool false) (.inr rfl) (resT rfl rfl) rfl trivial
 have hc := of_decide_eq_false hc
 have h := ifF hc h
 refine AW.skip ?_
 refine AW.seq ?_
 refine AW.rgs rfl fun K hK => ?_
 refine mv rfl rfl ?_
 refine bv rfl (v_lenF rfl rfl ty55 rfl) ?_
 refine mv rfl rfl ?_
 refine b_fin hK (s' := ⟨[(0, slE eInt p0), (1, slE eInt p1), (12, HV.int .i64 ((p0).length : Int)), (13, HV.int .i64 0)], []⟩) (le_q rfl rfl) ?_
 clear hK K
 refine AW.lpR h (by first | exact up_then | exact up_to) (S := Int) (V := Unit) (fun a v => ⟨[(0, slE eInt p0), (1, slE eInt p1), (12, HV.int .i64 ((p0).length : Int)), (13, HV.int .i64 a)], []⟩) ?_ (X := Unit) (W := Unit) (fun a v => ⟨[], []⟩) (fun a9 w10 h => ?_) (fun a1 w2 st3 h hr4=> ?_)
 ·exact to_le (s' := ⟨[(0, slE eInt p0), (1, slE eInt p1), (12, HV.int .i64 ((p0).length : Int)), (13, HV.int .i64 0)], []⟩) (AS.le_of ⟨rfl, rfl, rfl, rfl, trivial⟩ trivial) ⟨(), rfl⟩
 ·refine AW.rgs rfl fun K hK => ?_
  refine mv rfl rfl ?_
  refine b_fin hK (s' := ⟨[(4, HV.bool true)], []⟩) (le_q rfl rfl) ?_
  clear hK K
  refine AW.ret ?_
  have h := Option.some.inj h
  subst h
  exact ret_pure (hs := [HV.bool true]) (q := HV.bool true) (.inr rfl) (resT rfl rfl) rfl trivial
 refine AW.rgs rfl fun K hK => ?_
 refine bv rfl (v_bin rfl rfl b_lss) ?_
 refine b_fin hK (s' := ⟨[(0, slE eInt p0), (1, slE eInt p1), (12, HV.int .i64 ((p0).length : Int)), (13, HV.int .i64 a1), (14, HV.bool (decide (a1 < ((p0).length : Int))))], []⟩) (le_q rfl rfl) ?_
 clear hK K
 refine AW.cseq rfl (fun hc => ?_) (fun hc => ?_)
 ·have hc := of_decide_eq_true hc
  have h := ifT hc h
  refine AW.skip ?_
  refine AW.seq (AW.block ?_)
  refine AW.rgs rfl fun K hK => ?_
  refine mv rfl rfl ?_
  refine mv rfl rfl ?_
  refine b_fin hK (s' := ⟨[(0, slE eInt p0), (1, slE eInt p1), (5, HV.int .i64 a1), (12, HV.int .i64 ((p0).length : Int)), (13, HV.int .i64 a1)], []⟩) (le_q rfl rfl) ?_
  clear hK K
  refine AW.dgs 9 follows rfl rfl fun K hK => ?_
  refine sm rfl rfl ?_
  refine sm rfl rfl ?_
  obtain ⟨x5, h6, h⟩ := bS h
  refine sv rfl (v_idxF ty55 es55 rfl rfl (idx_lt h6)) ?_
  refine sv rfl (v_loadF ty3 rfl (l_cell eInt h6 (o := 0) rfl rfl)) ?_
  refine sm rfl rfl ?_
  refine sm rfl rfl ?_
  obtain ⟨x7, h8, h⟩ := bS h
  refine sv rfl (v_idxF ty55 es55 rfl rfl (idx_lt h8)) ?_
  refine sv rfl (v_loadF ty3 rfl (l_cell eInt h8 (o := 0) rfl rfl)) ?_
  refine sv rfl (v_bin rfl rfl b_neq) ?_
  refine s_nil ?_
  refine b_fin hK (s' := ⟨[(0, slE eInt p0), (1, slE eInt p1), (12, HV.int .i64 ((p0).length : Int)), (13, HV.int .i64 a1), (24, HV.bool (decide (x5 ≠ x7)))], []⟩) (le_q rfl rfl) ?_
  clear hK K
  refine AW.cond rfl (fun hc => ?_) (fun hc => ?_)
  ·have hc := of_decide_eq_true hc
   have h := ifT hc h
   refine AW.rgs rfl fun K hK => ?_
   refine mv rfl rfl ?_
   refine b_fin hK (s' := ⟨[(4, HV.bool false)], []⟩) (le_q rfl rfl) ?_
   clear hK K
   have h := hr4 _ h
   refine AW.ret ?_
   have h := Option.some.inj h
   subst h
   exact ret_pure (hs := [HV.bool false]) (q := HV.bool false) (.inr rfl) (resT rfl rfl) rfl trivial
  have hc := of_decide_eq_false hc
  have h := ifF hc h
  refine AW.skip ?_
  refine AW.rg rfl fun K hK => ?_
  refine bv rfl (v_bin rfl rfl b_add) ?_
  refine mv rfl rfl ?_
  refine b_nil (hK _ ?_)
  clear hK K
  exact to_le (s' := ⟨[(0, slE eInt p0), (1, slE eInt p1), (12, HV.int .i64 ((p0).length : Int)), (13, HV.int .i64 (IntKind.wrap .i64 (a1 + 1)))], []⟩) (AS.le_of ⟨rfl, rfl, rfl, rfl, trivial⟩ trivial) ⟨IntKind.wrap .i64 (a1 + 1), (), h, rfl⟩
 have hc := of_decide_eq_false hc
 have h := ifF hc h
 refine AW.exit ?_
 exact to_le (s' := ⟨[], []⟩) (AS.le_of trivial trivial) ⟨(), (), h, rfl⟩

set_option maxHeartbeats 1600000 in
set_option maxRecDepth 100000 in
theorem w_syncmark_Overlaps {p0 : List UInt8} {r : (List (Int))} (h : m_syncmark_Overlaps p0 = some r) : Pure Tryz.prog 30 [HV.str p0] (· = slE eInt r) := by
 unfold m_syncmark_Overlaps at h
 refine Pure.of_body Tryz.func30 rfl rfl (Nat.le_of_ble_eq_true rfl) fun hf => ?_
 unfold Tryz.f30
 dsimp only [enumS, Nat.reduceAdd]
 refine AW.rgs rfl fun K hK => ?_
 refine mv rfl rfl ?_
 refine b_fin hK (s' := ⟨[(0, HV.str p0)], []⟩) (le_q rfl rfl) ?_
 clear hK K
 refine AW.rgs rfl fun K hK => ?_
 refine mv rfl rfl ?_
 refine b_fin hK (s' := ⟨[(0, HV.str p0), (3, HV.v (.slice none 0 0))], []⟩) (le_q rfl rfl) ?_
 clear hK K
 refine AW.seq ?_
 refine AW.rgs rfl fun K hK => ?_
 refine mv rfl rfl ?_
 refine b_fin hK (s' := ⟨[(0, HV.str p0), (3, HV.v (.slice none 0 0)), (4, HV.int .i64 1)], []⟩) (le_q rfl rfl) ?_
 clear hK K
 refine AW.lpX h (by first | exact up_then | exact up_to) (S := Int × (List Int)) (V := Nat) (fun a v => ⟨[(0, HV.str p0), (3, HV.ar 30019 v eInt.k 0 ((a.2).length)), (4, HV.int .i64 a.1)], [(30019, v, .arr eInt.k 3 (eInt.E a.2))]⟩) ?_ (X := (List Int)) (W := Nat) (fun a v => ⟨[(3, HV.ar 30019 v eInt.k 0 ((a).length))], [(30019, v, .arr eInt.k 3 (eInt.E a))]⟩) (fun a14 w15 h => ?_) (fun a1 w2 st3 h => ?_)
 ·refine to_bind (to_own 30019 3 eInt.k 3 rfl fun v13 => ?_)
  exact to_le (s' := ⟨[(0, HV.str p0), (3, HV.ar 30019 v13 eInt.k 0 ((([] : List Int)).length)), (4, HV.int .i64 1)], [(30019, v13, .arr eInt.k 3 (eInt.E ([] : List Int)))]⟩) (AS.le_of ⟨rfl, arl (by first | rfl | simp only [List.length_set, sortI_len, sortS_len]), rfl, trivial⟩ ⟨rfl, trivial⟩) ⟨v13, rfl⟩
 ·refine AW.rgs rfl fun K hK => ?_
  refine mv rfl rfl ?_
  refine mv rfl rfl ?_
  refine b_fin hK (s' := ⟨[(2, HV.ar 30019 w15 eInt.k 0 ((a14).length))], [(30019, w15, .arr eInt.k 3 (eInt.E a14))]⟩) (le_q rfl rfl) ?_
  clear hK K
  refine AW.to (to_frz 2 [(30019, w15, .arr eInt.k 3 (eInt.E a14))] ⟨[(2, slE eInt a14)], []⟩ ⟨⟨_, rfl, frz_slE eInt (l := a14) rfl fun _ _ => rfl⟩, trivial⟩ trivial ⟨rfl, trivial⟩ ⟨rfl, trivial⟩ ?_)
  refine AW.ret ?_
  have h := Option.some.inj h
  subst h
  exact ret_pure (hs := [slE eInt a14]) (q := slE eInt a14) (.inr rfl) (resT rfl rfl) rfl (clean_slE fun _ _ => ⟨trivial, trivial⟩)
 refine AW.seq ?_
 refine AW.rgs rfl fun K hK => ?_
 refine mv rfl rfl ?_
 refine mv rfl rfl ?_
 refine bv rfl (v_lenS rfl rfl ty9 rfl) ?_
 refine bv rfl (v_bin rfl rfl b_lss) ?_
 refine b_fin hK (s' := ⟨[(0, HV.str p0), (3, HV.ar 30019 w2 eInt.k 0 ((a1.2).length)), (4, HV.int .i64 a1.1), (8, HV.bool (decide (a1.1 < ((p0).length : Int))))], [(30019, w2, .arr eInt.k 3 (eInt.E a1.2))]⟩) (le_q rfl rfl) ?_
 clear hK K
 refine AW.cond rfl (fun hc => ?_) (fun hc => ?_)
 ·have hc := of_decide_eq_true hc
  have h := ifT hc h
  refine AW.skip ?_
  refine AW.seqJ h (S := (List Int)) (V := Nat) (fun a v => ⟨[(0, HV.str p0), (3, HV.ar 30019 v eInt.k 0 ((a).length)), (4, HV.int .i64 a1.1)], [(30019, v, .arr eInt.k 3 (eInt.E a))]⟩) (fun a5 w6 h => ?_) (fun k7 h => ?_)
  ·refine AW.rg rfl fun K hK => ?_
   refine mv rfl rfl ?_
   refine bv rfl (v_bin rfl rfl b_add) ?_
   refine mv rfl rfl ?_
   refine b_nil (hK _ ?_)
   clear hK K
   exact to_le (s' := ⟨[(0, HV.str p0), (3, HV.ar 30019 w6 eInt.k 0 ((a5).length)), (4, HV.int .i64 (IntKind.wrap .i64 (a1.1 + 1)))], [(30019, w6, .arr eInt.k 3 (eInt.E a5))]⟩) (AS.le_of ⟨rfl, rfl, rfl, trivial⟩ ⟨rfl, trivial⟩) ⟨(IntKind.wrap .i64 (a1.1 + 1), a5), w6, h, rfl⟩
  refine AW.block ?_
  refine AW.rgs rfl fun K hK => ?_
  refine mv rfl rfl ?_
  refine mv rfl rfl ?_
  refine mv rfl rfl ?_
  obtain ⟨h8, h⟩ := ifN h
  refine bv rfl (v_sliceS ty9 rfl rfl rfl h8) ?_
  obtain ⟨x9, h10, h⟩ := bS h
  refine b_op rfl (o_call rfl rfl rfl rfl (ACallD.pure0 (w_strings_HasSuffix h10)) ?_)
  refine b_fin hK (s' := ⟨[(0, HV.str p0), (3, HV.ar 30019 w2 eInt.k 0 ((a1.2).length)), (4, HV.int .i64 a1.1), (15, HV.bool x9)], [(30019, w2, .arr eInt.k 3 (eInt.E a1.2))]⟩) (le_q rfl rfl) ?_
  clear hK K
  refine AW.cond rfl (fun hc => ?_) (fun hc => ?_)
  ·have h := ifT hc h
   refine AW.rg rfl fun K hK => ?_
   refine mv rfl rfl ?_
   refine mv rfl rfl ?_
   refine b_op rfl (o_bsl rfl rfl (as_of (cs := [HV.int .i64 a1.1]) ty55 ty3 rfl rfl rfl rfl rfl) ?_)
   obtain ⟨h12, h⟩ := ifN h
   refine b_op rfl (o_appE eInt (l := a1.2) (m := [a1.1]) rfl rfl ty55 ty55 ty3 rfl rfl rfl rfl rfl h12 (fun v11 => ?_))
   refine mv rfl rfl ?_
   refine b_nil (hK _ ?_)
   clear hK K
   exact to_le (s' := ⟨[(0, HV.str p0), (3, HV.ar 30019 v11 eInt.k 0 ((a1.2 ++ [a1.1]).length)), (4, HV.int .i64 a1.1)], [(30019, v11, .arr eInt.k 3 (eInt.E (a1.2 ++ [a1.1])))]⟩) (AS.le_of ⟨rfl, rfl, rfl, trivial⟩ ⟨rfl, trivial⟩) ⟨a1.2 ++ [a1.1], v11, h, rfl⟩
  have h := ifF (bF' hc) h
  refine AW.skip ?_
  exact to_le (s' := ⟨[(0, HV.str p0), (3, HV.ar 30019 w2 eInt.k 0 ((a1.2).length)), (4, HV.int .i64 a1.1)], [(30019, w2, .arr eInt.k 3 (eInt.E a1.2))]⟩) (AS.le_of ⟨rfl, rfl, rfl, trivial⟩ ⟨rfl, trivial⟩) ⟨a1.2, w2, h, rfl⟩
 have hc := of_decide_eq_false hc
 have h := ifF hc h
 refine AW.exit ?_
 exact to_le (s' := ⟨[(3, HV.ar 30019 w2 eInt.k 0 ((a1.2).length))], [(30019, w2, .arr eInt.k 3 (eInt.E a1.2))]⟩) (AS.le_of ⟨rfl, trivial⟩ ⟨rfl, trivial⟩) ⟨a1.2, w2, h, rfl⟩

set_option maxHeartbeats 1600000 in
set_option maxRecDepth 100000 in
theorem w_word_occurrences (p0 : List UInt8) (p1 : List UInt8) : Pure Tryz.prog 78 [HV.str p0, HV.str p1] (· = HV.fn (.func 98) [] [HV.fptr [HV.str p1] 0, HV.fptr [HV.str p0] 0]) := by
 refine Pure.of_body Tryz.func78 rfl rfl (Nat.le_of_ble_eq_true rfl) fun hf => ?_
 unfold Tryz.f78
 dsimp only [enumS, Nat.reduceAdd]
 refine AW.rgs rfl fun K hK => ?_
 refine b_op rfl (o_box rfl rfl rfl ?_)
 refine b_op rfl (o_box rfl rfl rfl ?_)
 refine mv rfl rfl ?_
 refine b_fin hK (s' := ⟨[(2, HV.fptr [HV.str p0] 0), (3, HV.fptr [HV.str p1] 0)], []⟩) (le_q rfl rfl) ?_
 clear hK K
 refine AW.rgs rfl fun K hK => ?_
 refine bv rfl (v_func rfl rfl) ?_
 refine mv rfl rfl ?_
 refine b_fin hK (s' := ⟨[(4, HV.fn (.func 98) [] [HV.fptr [HV.str p1] 0, HV.fptr [HV.str p0] 0])], []⟩) (le_q rfl rfl) ?_
 clear hK K
 refine AW.ret ?_
 exact ret_pure (hs := [HV.fn (.func 98) [] [HV.fptr [HV.str p1] 0, HV.fptr [HV.str p0] 0]]) (q := HV.fn (.func 98) [] [HV.fptr [HV.str p1] 0, HV.fptr [HV.str p0] 0]) (.inr rfl) (resT rfl rfl) rfl ⟨trivial, ⟨⟨trivial, trivial⟩, ⟨trivial, trivial⟩, trivial⟩⟩

set_option maxHeartbeats 1600000 in
set_option maxRecDepth 100000 in
theorem w_word_Find {p0 : List UInt8} {p1 : List UInt8} {r : (List (Int))} (h : m_word_Find p0 p1 = some r) : Pure Tryz.prog 51 [HV.str p0, HV.str p1] (· = slE eInt r) := by
 unfold m_word_Find at h
 refine Pure.of_body Tryz.func51 rfl rfl (Nat.le_of_ble_eq_true rfl) fun hf => ?_
 unfold Tryz.f51
 dsimp only [enumS, Nat.reduceAdd]
 refine AW.rgs rfl fun K hK => ?_
 refine mv rfl rfl ?_
 refine b_fin hK (s' := ⟨[(0, HV.str p0), (1, HV.str p1)], []⟩) (le_q rfl rfl) ?_
 clear hK K
 refine AW.rgs rfl fun K hK => ?_
 refine b_op rfl (o_alloc (fid := 51) (zs := [HV.v (.slice none 0 0)]) 51005 rfl rfl ty55 rfl (fun v1 => ?_))
 refine b_fin hK (s' := ⟨[(0, HV.str p0), (1, HV.str p1), (5, HV.ptr 51005 v1 0)], [(51005, v1, .arr 1 55 [HV.v (.slice none 0 0)])]⟩) (le_q rfl rfl) ?_
 clear hK K
 refine AW.seq ?_
 refine AW.rgs rfl fun K hK => ?_
 refine mv rfl rfl ?_
 refine mv rfl rfl ?_
 refine b_op rfl (o_call rfl rfl rfl rfl (ACallD.pure0 (w_word_occurrences p0 p1)) ?_)
 refine b_fin hK (s' := ⟨[(5, HV.ptr 51005 v1 0), (9, HV.fn (.func 98) [] [HV.fptr [HV.str p1] 0, HV.fptr [HV.str p0] 0])], [(51005, v1, .arr 1 55 [HV.v (.slice none 0 0)])]⟩) (le_q rfl rfl) ?_
 clear hK K
 refine AW.block ?_
 refine AW.to (to_ownC 51014 51005 v1 1 0 eInt.k 3 55 rfl rfl (by decide) fun v2 => ?_)
 refine AW.to (to_le (s' := ⟨[(5, HV.ptr 51005 v1 0), (9, HV.fn (.func 98) [] [HV.fptr [HV.str p1] 0, HV.fptr [HV.str p0] 0])], [(51005, v1, .arr 1 55 [HV.ar 51014 v2 eInt.k 0 ((([] : List Int)).length)]), (51014, v2, .arr eInt.k 3 (eInt.E ([] : List Int)))]⟩) (AS.le_of ⟨rfl, rfl, trivial⟩ ⟨hle rfl (by first | rfl | simp only [List.length_set, sortI_len, sortS_len]), rfl, trivial⟩) ?_)
 obtain ⟨L3, h4, h⟩ := bS h
 refine AW.rangeY (c := .ret) 51900 (fun x => [HV.int .i64 x]) h (by first | exact up_then | exact up_to) rfl (iy_word_occurrences h4) (S := (List Int)) (V := Nat) (fun a v => [(51005, v1, .arr 1 55 [HV.ar 51014 v eInt.k 0 ((a).length)]), (51014, v, .arr eInt.k 3 (eInt.E a))]) v2 (X := Unit) (W := Unit) (fun _ _ => []) (fun _ _ => rfl) (fun _ _ => rfl) rfl (fun _ => rfl) (fun a13 w14 h => ?_) (fun a15 w16 h => ?_) (fun Lo l10 v8 a5 x7 w6 st9 h => ?_)
 ·refine AW.rgs rfl fun K hK => ?_
  refine bv rfl (v_loadP ty55 rfl rfl (l_lit rfl rfl)) ?_
  refine mv rfl rfl ?_
  refine b_fin hK (s' := ⟨[(4, HV.ar 51014 w14 eInt.k 0 ((a13).length))], [(51014, w14, .arr eInt.k 3 (eInt.E a13))]⟩) (le_q rfl rfl) ?_
  clear hK K
  refine AW.to (to_frz 2 [(51014, w14, .arr eInt.k 3 (eInt.E a13))] ⟨[(4, slE eInt a13)], []⟩ ⟨⟨_, rfl, frz_slE eInt (l := a13) rfl fun _ _ => rfl⟩, trivial⟩ trivial ⟨rfl, trivial⟩ ⟨rfl, trivial⟩ ?_)
  refine AW.ret ?_
  have h := Option.some.inj h
  subst h
  exact ret_pure (hs := [slE eInt a13]) (q := slE eInt a13) (.inr rfl) (resT rfl rfl) rfl (clean_slE fun _ _ => ⟨trivial, trivial⟩)
 ·cases h
 refine AW.rg rfl fun K hK => ?_
 refine mv rfl rfl ?_
 refine b_nil (hK _ ?_)
 clear hK K
 refine ⟨rfl, rfl, ?_⟩
 refine AW.block ?_
 refine AW.rg rfl fun K hK => ?_
 refine bv rfl (v_loadP ty55 rfl rfl (l_lit rfl rfl)) ?_
 refine mv rfl rfl ?_
 refine b_op rfl (o_bsl rfl rfl (as_of (cs := [HV.int .i64 x7]) ty55 ty3 rfl rfl rfl rfl rfl) ?_)
 obtain ⟨h12, h⟩ := ifN h
 refine b_op rfl (o_appE eInt (l := a5) (m := [x7]) rfl rfl ty55 ty55 ty3 rfl rfl rfl rfl rfl h12 (fun v11 => ?_))
 refine b_op rfl (o_store (cs := [HV.ar 51014 v11 eInt.k 0 ((a5 ++ [x7]).length)]) (zs := [HV.ar 51014 v11 eInt.k 0 ((a5 ++ [x7]).length)]) rfl rfl rfl ty55 rfl rfl rfl rfl rfl ?_)
 refine b_nil (hK _ ?_)
 clear hK K
 exact ⟨a5 ++ [x7], v11, h, (AS.le_of trivial ⟨rfl, rfl, rfl, trivial⟩)⟩

set_option maxHeartbeats 1600000 in
set_option maxRecDepth 100000 in
theorem w_syncmark_Occurs {p0 : List UInt8} {p1 : List UInt8} {r : (List (Int))} (h : m_syncmark_Occurs p0 p1 = some r) : Pure Tryz.prog 31 [HV.str p0, HV.str p1] (· = slE eInt r) := by
 unfold m_syncmark_Occurs at h
 refine Pure.of_body Tryz.func31 rfl rfl (Nat.le_of_ble_eq_true rfl) fun hf => ?_
 unfold Tryz.f31
 dsimp only [enumS, Nat.reduceAdd]
 refine AW.rgs rfl fun K hK => ?_
 refine mv rfl rfl ?_
 refine b_fin hK (s' := ⟨[(0, HV.str p0), (1, HV.str p1)], []⟩) (le_q rfl rfl) ?_
 clear hK K
 refine AW.rgs rfl fun K hK => ?_
 refine mv rfl rfl ?_
 refine mv rfl rfl ?_
 obtain ⟨x1, h2, h⟩ := bS h
 refine b_op rfl (o_call rfl rfl rfl rfl (ACallD.pure0 (w_word_Find h2)) ?_)
 refine mv rfl rfl ?_
 refine b_fin hK (s' := ⟨[(4, slE eInt x1)], []⟩) (le_q rfl rfl) ?_
 clear hK K
 refine AW.ret ?_
 have h := Option.some.inj h
 subst h
 exact ret_pure (hs := [slE eInt x1]) (q := slE eInt x1) (.inr rfl) (resT rfl rfl) rfl (clean_slE fun _ _ => ⟨trivial, trivial⟩)

end Go.AW

namespace Go.AW
open Go Go.Proofs
set_option linter.unusedVariables false
set_option maxHeartbeats 1600000 in
set_option maxRecDepth 100000 in
theorem w_law54_awakeG  {r : Bool} (h : m_law54_awakeG  = some r) : Pure Tryz.prog 9 [] (· = HV.bool r) := by
 unfold m_law54_awakeG at h
 refine Pure.of_body Tryz.func9 rfl rfl (Nat.le_of_ble_eq_true rfl) fun hf => ?_
 unfold Tryz.f9
 dsimp only [enumS, Nat.reduceAdd]
 refine AW.rgs rfl fun K hK => ?_
 refine mv rfl rfl ?_
 refine b_fin hK (s' := ⟨[], []⟩) (le_q rfl rfl) ?_
 clear hK K
 refine AW.rgs rfl fun K hK => ?_
 refine b_op rfl (o_build (cs := [HV.int .i64 0, HV.int .i64 0, HV.int .i64 0]) rfl (bl_of ty44 rfl rfl rfl rfl) ?_)
 refine b_op rfl (o_build (cs := [HV.int .i64 0, HV.int .i64 1, HV.int .i64 1]) rfl (bl_of ty44 rfl rfl rfl rfl) ?_)
 refine b_op rfl (o_build (cs := [HV.int .i64 1, HV.int .i64 0, HV.int .i64 0]) rfl (bl_of ty44 rfl rfl rfl rfl) ?_)
 refine b_op rfl (o_bsl rfl rfl (as_of (cs := [HV.int .i64 0, HV.int .i64 0, HV.int .i64 0, HV.int .i64 0, HV.int .i64 1, HV.int .i64 1, HV.int .i64 1, HV.int .i64 0, HV.int .i64 0]) ty22 ty44 rfl rfl rfl rfl rfl) ?_)
 refine b_op rfl (o_build (cs := [HV.int .i64 2, HV.int .i64 2, slE eFromLabelTo [(0, 0, 0), (0, 1, 1), (1, 0, 0)]]) rfl (bl_of ty24 rfl rfl rfl rfl) ?_)
 refine b_op rfl (o_alloc (fid := 9) (zs := [HV.int .i64 0, HV.int .i64 0, HV.v (.slice none 0 0)]) 9001 rfl rfl ty24 rfl (fun v1 => ?_))
 refine b_op rfl (o_store (cs := [HV.int .i64 2, HV.int .i64 2, slE eFromLabelTo [(0, 0, 0), (0, 1, 1), (1, 0, 0)]]) (zs := [HV.int .i64 2, HV.int .i64 2, slE eFromLabelTo [(0, 0, 0), (0, 1, 1), (1, 0, 0)]]) rfl rfl rfl ty24 rfl rfl rfl rfl rfl ?_)
 refine b_fin hK (s' := ⟨[(1, HV.ptr 9001 v1 0)], [(9001, v1, .arr 3 24 [HV.int .i64 2, HV.int .i64 2, slE eFromLabelTo [(0, 0, 0), (0, 1, 1), (1, 0, 0)]])]⟩) (le_q rfl rfl) ?_
 clear hK K
 refine AW.rgs rfl fun K hK => ?_
 refine bv rfl (v_loadP ty24 rfl rfl (l_litA rfl (Nat.le_of_ble_eq_true rfl) rfl)) ?_
 obtain ⟨x2, h3, h⟩ := bS h
 refine b_op rfl (o_call rfl rfl rfl rfl (ACallD.pure0 (w_syncmark_Valid h3)) ?_)
 refine mv rfl rfl ?_
 refine bv rfl (v_extract rfl rfl) ?_
 refine bv rfl (v_extract rfl rfl) ?_
 refine mv rfl rfl ?_
 refine mv rfl rfl ?_
 refine b_fin hK (s' := ⟨[(1, HV.ptr 9001 v1 0), (2, HV.bool x2.1), (3, HV.int .i64 x2.2)], [(9001, v1, .arr 3 24 [HV.int .i64 2, HV.int .i64 2, slE eFromLabelTo [(0, 0, 0), (0, 1, 1), (1, 0, 0)]])]⟩) (le_q rfl rfl) ?_
 clear hK K
 refine AW.rgs rfl fun K hK => ?_
 refine bv rfl (v_loadP ty24 rfl rfl (l_litA rfl (Nat.le_of_ble_eq_true rfl) rfl)) ?_
 obtain ⟨x4, h5, h⟩ := bS h
 refine b_op rfl (o_call rfl rfl rfl rfl (ACallD.pure0 (w_syncmark_Bad h5)) ?_)
 refine mv rfl rfl ?_
 refine bv rfl (v_extract rfl rfl) ?_
 refine bv rfl (v_extract rfl rfl) ?_
 refine bv rfl (v_extract rfl rfl) ?_
 refine mv rfl rfl ?_
 refine mv rfl rfl ?_
 refine mv rfl rfl ?_
 refine b_fin hK (s' := ⟨[(1, HV.ptr 9001 v1 0), (2, HV.bool x2.1), (3, HV.int .i64 x2.2), (4, HV.str x4.1), (5, HV.bool x4.2.1), (6, HV.int .i64 x4.2.2)], [(9001, v1, .arr 3 24 [HV.int .i64 2, HV.int .i64 2, slE eFromLabelTo [(0, 0, 0), (0, 1, 1), (1, 0, 0)]])]⟩) (le_q rfl rfl) ?_
 clear hK K
 refine AW.rgs rfl fun K hK => ?_
 refine bv rfl (v_loadP ty24 rfl rfl (l_litA rfl (Nat.le_of_ble_eq_true rfl) rfl)) ?_
 obtain ⟨x6, h7, h⟩ := bS h
 refine b_op rfl (o_call rfl rfl rfl rfl (ACallD.pure0 (w_syncmark_Valid h7)) ?_)
 refine mv rfl rfl ?_
 refine bv rfl (v_extract rfl rfl) ?_
 refine bv rfl (v_extract rfl rfl) ?_
 refine mv rfl rfl ?_
 refine mv rfl rfl ?_
 refine b_fin hK (s' := ⟨[(1, HV.ptr 9001 v1 0), (2, HV.bool x2.1), (3, HV.int .i64 x2.2), (4, HV.str x4.1), (5, HV.bool x4.2.1), (6, HV.int .i64 x4.2.2), (7, HV.bool x6.1), (8, HV.int .i64 x6.2)], [(9001, v1, .arr 3 24 [HV.int .i64 2, HV.int .i64 2, slE eFromLabelTo [(0, 0, 0), (0, 1, 1), (1, 0, 0)]])]⟩) (le_q rfl rfl) ?_
 clear hK K
 refine AW.rgs rfl fun K hK => ?_
 refine bv rfl (v_loadP ty24 rfl rfl (l_litA rfl (Nat.le_of_ble_eq_true rfl) rfl)) ?_
 obtain ⟨x8, h9, h⟩ := bS h
 refine b_op rfl (o_call rfl rfl rfl rfl (ACallD.pure0 (w_syncmark_Free h9)) ?_)
 refine mv rfl rfl ?_
 refine bv rfl (v_extract rfl rfl) ?_
 refine bv rfl (v_extract rfl rfl) ?_
 refine mv rfl rfl ?_
 refine mv rfl rfl ?_
 refine b_fin hK (s' := ⟨[(2, HV.bool x2.1), (3, HV.int .i64 x2.2), (4, HV.str x4.1), (5, HV.bool x4.2.1), (6, HV.int .i64 x4.2.2), (7, HV.bool x6.1), (8, HV.int .i64 x6.2), (9, HV.bool x8.1), (10, HV.int .i64 x8.2)], []⟩) (le_q rfl rfl) ?_
 clear hK K
 refine AW.seqJ h (S := Bool) (V := Unit) (fun a v => ⟨[(0, HV.bool a)], []⟩) (fun a10 w11 h => ?_) (fun k12 h => ?_)
 ·refine AW.ret ?_
  have h := Option.some.inj h
  subst h
  exact ret_pure (hs := [HV.bool a10]) (q := HV.bool a10) (.inr rfl) (resT rfl rfl) rfl trivial
 refine AW.rg rfl fun K hK => ?_
 refine mv rfl rfl ?_
 refine bv rfl (v_bin rfl rfl b_eql) ?_
 refine mv rfl rfl ?_
 by_cases hg30 : x2.2 = 0
 ·have h := ifT hg30 h
  refine b_T rfl rfl rfl rfl (decide_eq_true hg30) (o_val rfl (mv_val rfl rfl).2 ?_)
  refine b_T rfl rfl rfl rfl rfl (o_val rfl (v_bin rfl rfl b_eql) ?_)
  refine bv rfl (v_pickT rfl rfl rfl) ?_
  refine mv rfl rfl ?_
  by_cases hg29 : x4.2.2 = 0
  ·have h := ifT hg29 h
   refine b_T rfl rfl rfl rfl (decide_eq_true hg29) (o_val rfl (mv_val rfl rfl).2 ?_)
   refine b_T rfl rfl rfl rfl rfl (o_val rfl (v_bin rfl rfl b_eql) ?_)
   refine bv rfl (v_pickT rfl rfl rfl) ?_
   refine mv rfl rfl ?_
   by_cases hg28 : x6.2 = 0
   ·have h := ifT hg28 h
    refine b_T rfl rfl rfl rfl (decide_eq_true hg28) (o_val rfl (mv_val rfl rfl).2 ?_)
    refine b_T rfl rfl rfl rfl rfl (o_val rfl (v_bin rfl rfl b_eql) ?_)
    refine bv rfl (v_pickT rfl rfl rfl) ?_
    refine mv rfl rfl ?_
    by_cases hg27 : x8.2 = 0
    ·have h := ifT hg27 h
     refine b_T rfl rfl rfl rfl (decide_eq_true hg27) (o_val rfl (mv_val rfl rfl).2 ?_)
     refine b_T rfl rfl rfl rfl rfl (o_val rfl (v_not rfl) ?_)
     refine bv rfl (v_pickT rfl rfl rfl) ?_
     refine mv rfl rfl ?_
     by_cases hg26 : (!x2.1) = true
     ·have h := ifT hg26 h
      refine b_T rfl rfl rfl rfl hg26 (o_val rfl (mv_val rfl rfl).2 ?_)
      refine b_T rfl rfl rfl rfl rfl (o_val rfl (v_bin rfl rfl b_seql) ?_)
      refine bv rfl (v_pickT rfl rfl rfl) ?_
      refine mv rfl rfl ?_
      by_cases hg25 : x4.1 = [49]
      ·have h := ifT hg25 h
       refine b_T rfl rfl rfl rfl (decide_eq_true hg25) (o_val rfl (mv_val rfl rfl).2 ?_)
       refine bv rfl (v_pickT rfl rfl rfl) ?_
       refine mv rfl rfl ?_
       by_cases hg24 : x4.2.1 = true
       ·have h := ifT hg24 h
        refine b_T rfl rfl rfl rfl hg24 (o_val rfl (mv_val rfl rfl).2 ?_)
        refine bv rfl (v_pickT rfl rfl rfl) ?_
        refine mv rfl rfl ?_
        by_cases hg23 : x6.1 = true
        ·have h := ifT hg23 h
         refine b_T rfl rfl rfl rfl hg23 (o_val rfl (mv_val rfl rfl).2 ?_)
         refine bv rfl (v_pickT rfl rfl rfl) ?_
         refine mv rfl rfl ?_
         by_cases hg22 : x8.1 = true
         ·have h := ifT hg22 h
          obtain ⟨x13, h14, h⟩ := bS h
          refine b_T rfl rfl rfl rfl hg22 (o_call rfl rfl rfl rfl (ACallD.pure0 (w_syncmark_Overlaps h14)) ?_)
          refine b_T rfl rfl rfl rfl rfl (o_bsl rfl rfl (as_of (cs := [HV.int .i64 1]) ty55 ty3 rfl rfl rfl rfl rfl) ?_)
          obtain ⟨x15, h16, h⟩ := bS h
          refine b_T rfl rfl rfl rfl rfl (o_call rfl rfl rfl rfl (ACallD.pure0 (w_slices_Equal_Lint_int h16)) ?_)
          refine bv rfl (v_pickT rfl rfl rfl) ?_
          refine mv rfl rfl ?_
          by_cases hg21 : x15 = true
          ·have h := ifT hg21 h
           obtain ⟨x17, h18, h⟩ := bS h
           refine b_T rfl rfl rfl rfl hg21 (o_call rfl rfl rfl rfl (ACallD.pure0 (w_syncmark_Occurs h18)) ?_)
           refine b_T rfl rfl rfl rfl rfl (o_bsl rfl rfl (as_of (cs := [HV.int .i64 0, HV.int .i64 1, HV.int .i64 2, HV.int .i64 3]) ty55 ty3 rfl rfl rfl rfl rfl) ?_)
           obtain ⟨x19, h20, h⟩ := bS h
           refine b_T rfl rfl rfl rfl rfl (o_call rfl rfl rfl rfl (ACallD.pure0 (w_slices_Equal_Lint_int h20)) ?_)
           refine bv rfl (v_pickT rfl rfl rfl) ?_
           refine mv rfl rfl ?_
           refine b_nil (hK _ ?_)
           clear hK K
           exact to_le (s' := ⟨[(0, HV.bool x19)], []⟩) (AS.le_of ⟨rfl, trivial⟩ trivial) ⟨x19, (), h, rfl⟩
          have h := ifF hg21 h
          refine b_F rfl rfl rfl rfl rfl (bF hg21) ?_
          refine b_F rfl rfl rfl rfl rfl rfl ?_
          refine b_F rfl rfl rfl rfl rfl rfl ?_
          refine bv rfl (v_pickF rfl rfl rfl) ?_
          refine mv rfl rfl ?_
          refine b_nil (hK _ ?_)
          clear hK K
          exact to_le (s' := ⟨[(0, HV.bool false)], []⟩) (AS.le_of ⟨rfl, trivial⟩ trivial) ⟨false, (), h, rfl⟩
         have h := ifF hg22 h
         refine b_F rfl rfl rfl rfl rfl (bF hg22) ?_
         refine b_F rfl rfl rfl rfl rfl rfl ?_
         refine b_F rfl rfl rfl rfl rfl rfl ?_
         refine bv rfl (v_pickF rfl rfl rfl) ?_
         refine mv rfl rfl ?_
         refine b_F rfl rfl rfl rfl rfl rfl ?_
         refine b_F rfl rfl rfl rfl rfl rfl ?_
         refine b_F rfl rfl rfl rfl rfl rfl ?_
         refine bv rfl (v_pickF rfl rfl rfl) ?_
         refine mv rfl rfl ?_
         refine b_nil (hK _ ?_)
         clear hK K
         exact to_le (s' := ⟨[(0, HV.bool false)], []⟩) (AS.le_of ⟨rfl, trivial⟩ trivial) ⟨false, (), h, rfl⟩
        have h := ifF hg23 h
        refine b_F rfl rfl rfl rfl rfl (bF hg23) ?_
        refine bv rfl (v_pickF rfl rfl rfl) ?_
        refine mv rfl rfl ?_
        refine b_F rfl rfl rfl rfl rfl rfl ?_
        refine b_F rfl rfl rfl rfl rfl rfl ?_
        refine b_F rfl rfl rfl rfl rfl rfl ?_
        refine bv rfl (v_pickF rfl rfl rfl) ?_
        refine mv rfl rfl ?_
        refine b_F rfl rfl rfl rfl rfl rfl ?_
        refine b_F rfl rfl rfl rfl rfl rfl ?_
        refine b_F rfl rfl rfl rfl rfl rfl ?_
        refine bv rfl (v_pickF rfl rfl rfl) ?_
        refine mv rfl rfl ?_
        refine b_nil (hK _ ?_)
        clear hK K
        exact to_le (s' := ⟨[(0, HV.bool false)], []⟩) (AS.le_of ⟨rfl, trivial⟩ trivial) ⟨false, (), h, rfl⟩
       have h := ifF hg24 h
       refine b_F rfl rfl rfl rfl rfl (bF hg24) ?_
       refine bv rfl (v_pickF rfl rfl rfl) ?_
       refine mv rfl rfl ?_
       refine b_F rfl rfl rfl rfl rfl rfl ?_
       refine bv rfl (v_pickF rfl rfl rfl) ?_
       refine mv rfl rfl ?_
       refine b_F rfl rfl rfl rfl rfl rfl ?_
       refine b_F rfl rfl rfl rfl rfl rfl ?_
       refine b_F rfl rfl rfl rfl rfl rfl ?_
       refine bv rfl (v_pickF rfl rfl rfl) ?_
       refine mv rfl rfl ?_
       refine b_F rfl rfl rfl rfl rfl rfl ?_
       refine b_F rfl rfl rfl rfl rfl rfl ?_
       refine b_F rfl rfl rfl rfl rfl rfl ?_
       refine bv rfl (v_pickF rfl rfl rfl) ?_
       refine mv rfl rfl ?_
       refine b_nil (hK _ ?_)
       clear hK K
       exact to_le (s' := ⟨[(0, HV.bool false)], []⟩) (AS.le_of ⟨rfl, trivial⟩ trivial) ⟨false, (), h, rfl⟩
      have h := ifF hg25 h
      refine b_F rfl rfl rfl rfl rfl (decide_eq_false hg25) ?_
      refine bv rfl (v_pickF rfl rfl rfl) ?_
      refine mv rfl rfl ?_
      refine b_F rfl rfl rfl rfl rfl rfl ?_
      refine bv rfl (v_pickF rfl rfl rfl) ?_
      refine mv rfl rfl ?_
      refine b_F rfl rfl rfl rfl rfl rfl ?_
      refine bv rfl (v_pickF rfl rfl rfl) ?_
      refine mv rfl rfl ?_
      refine b_F rfl rfl rfl rfl rfl rfl ?_
      refine b_F rfl rfl rfl rfl rfl rfl ?_
      refine b_F rfl rfl rfl rfl rfl rfl ?_
      refine bv rfl (v_pickF rfl rfl rfl) ?_
      refine mv rfl rfl ?_
      refine b_F rfl rfl rfl rfl rfl rfl ?_
      refine b_F rfl rfl rfl rfl rfl rfl ?_
      refine b_F rfl rfl rfl rfl rfl rfl ?_
      refine bv rfl (v_pickF rfl rfl rfl) ?_
      refine mv rfl rfl ?_
      refine b_nil (hK _ ?_)
      clear hK K
      exact to_le (s' := ⟨[(0, HV.bool false)], []⟩) (AS.le_of ⟨rfl, trivial⟩ trivial) ⟨false, (), h, rfl⟩
     have h := ifF hg26 h
     refine b_F rfl rfl rfl rfl rfl (bF hg26) ?_
     refine b_F rfl rfl rfl rfl rfl rfl ?_
     refine bv rfl (v_pickF rfl rfl rfl) ?_
     refine mv rfl rfl ?_
     refine b_F rfl rfl rfl rfl rfl rfl ?_
     refine bv rfl (v_pickF rfl rfl rfl) ?_
     refine mv rfl rfl ?_
     refine b_F rfl rfl rfl rfl rfl rfl ?_
     refine bv rfl (v_pickF rfl rfl rfl) ?_
     refine mv rfl rfl ?_
     refine b_F rfl rfl rfl rfl rfl rfl ?_
     refine bv rfl (v_pickF rfl rfl rfl) ?_
     refine mv rfl rfl ?_
     refine b_F rfl rfl rfl rfl rfl rfl ?_
     refine b_F rfl rfl rfl rfl rfl rfl ?_
     refine b_F rfl rfl rfl rfl rfl rfl ?_
     refine bv rfl (v_pickF rfl rfl rfl) ?_
     refine mv rfl rfl ?_
     refine b_F rfl rfl rfl rfl rfl rfl ?_
     refine b_F rfl rfl rfl rfl rfl rfl ?_
     refine b_F rfl rfl rfl rfl rfl rfl ?_
     refine bv rfl (v_pickF rfl rfl rfl) ?_
     refine mv rfl rfl ?_
     refine b_nil (hK _ ?_)
     clear hK K
     exact to_le (s' := ⟨[(0, HV.bool false)], []⟩) (AS.le_of ⟨rfl, trivial⟩ trivial) ⟨false, (), h, rfl⟩
    have h := ifF hg27 h
    refine b_F rfl rfl rfl rfl rfl (decide_eq_false hg27) ?_
    refine b_F rfl rfl rfl rfl rfl rfl ?_
    refine bv rfl (v_pickF rfl rfl rfl) ?_
    refine mv rfl rfl ?_
    refine b_F rfl rfl rfl rfl rfl rfl ?_
    refine b_F rfl rfl rfl rfl rfl rfl ?_
    refine bv rfl (v_pickF rfl rfl rfl) ?_
    refine mv rfl rfl ?_
    refine b_F rfl rfl rfl rfl rfl rfl ?_
    refine bv rfl (v_pickF rfl rfl rfl) ?_
    refine mv rfl rfl ?_
    refine b_F rfl rfl rfl rfl rfl rfl ?_
    refine bv rfl (v_pickF rfl rfl rfl) ?_
    refine mv rfl rfl ?_
    refine b_F rfl rfl rfl rfl rfl rfl ?_
    refine bv rfl (v_pickF rfl rfl rfl) ?_
    refine mv rfl rfl ?_
    refine b_F rfl rfl rfl rfl rfl rfl ?_
    refine b_F rfl rfl rfl rfl rfl rfl ?_
    refine b_F rfl rfl rfl rfl rfl rfl ?_
    refine bv rfl (v_pickF rfl rfl rfl) ?_
    refine mv rfl rfl ?_
    refine b_F rfl rfl rfl rfl rfl rfl ?_
    refine b_F rfl rfl rfl rfl rfl rfl ?_
    refine b_F rfl rfl rfl rfl rfl rfl ?_
    refine bv rfl (v_pickF rfl rfl rfl) ?_
    refine mv rfl rfl ?_
    refine b_nil (hK _ ?_)
    clear hK K
    exact to_le (s' := ⟨[(0, HV.bool false)], []⟩) (AS.le_of ⟨rfl, trivial⟩ trivial) ⟨false, (), h, rfl⟩
   have h := ifF hg28 h
   refine b_F rfl rfl rfl rfl rfl (decide_eq_false hg28) ?_
   refine b_F rfl rfl rfl rfl rfl rfl ?_
   refine bv rfl (v_pickF rfl rfl rfl) ?_
   refine mv rfl rfl ?_
   refine b_F rfl rfl rfl rfl rfl rfl ?_
   refine b_F rfl rfl rfl rfl rfl rfl ?_
   refine bv rfl (v_pickF rfl rfl rfl) ?_
   refine mv rfl rfl ?_
   refine b_F rfl rfl rfl rfl rfl rfl ?_
   refine b_F rfl rfl rfl rfl rfl rfl ?_
   refine bv rfl (v_pickF rfl rfl rfl) ?_
   refine mv rfl rfl ?_
   refine b_F rfl rfl rfl rfl rfl rfl ?_
   refine bv rfl (v_pickF rfl rfl rfl) ?_
   refine mv rfl rfl ?_
   refine b_F rfl rfl rfl rfl rfl rfl ?_
   refine bv rfl (v_pickF rfl rfl rfl) ?_
   refine mv rfl rfl ?_
   refine b_F rfl rfl rfl rfl rfl rfl ?_
   refine bv rfl (v_pickF rfl rfl rfl) ?_
   refine mv rfl rfl ?_
   refine b_F rfl rfl rfl rfl rfl rfl ?_
   refine b_F rfl rfl rfl rfl rfl rfl ?_
   refine b_F rfl rfl rfl rfl rfl rfl ?_
   refine bv rfl (v_pickF rfl rfl rfl) ?_
   refine mv rfl rfl ?_
   refine b_F rfl rfl rfl rfl rfl rfl ?_
   refine b_F rfl rfl rfl rfl rfl rfl ?_
   refine b_F rfl rfl rfl rfl rfl rfl ?_
   refine bv rfl (v_pickF rfl rfl rfl) ?_
   refine mv rfl rfl ?_
   refine b_nil (hK _ ?_)
   clear hK K
   exact to_le (s' := ⟨[(0, HV.bool false)], []⟩) (AS.le_of ⟨rfl, trivial⟩ trivial) ⟨false, (), h, rfl⟩
  have h := ifF hg29 h
  refine b_F rfl rfl rfl rfl rfl (decide_eq_false hg29) ?_
  refine b_F rfl rfl rfl rfl rfl rfl ?_
  refine bv rfl (v_pickF rfl rfl rfl) ?_
  refine mv rfl rfl ?_
  refine b_F rfl rfl rfl rfl rfl rfl ?_
  refine b_F rfl rfl rfl rfl rfl rfl ?_
  refine bv rfl (v_pickF rfl rfl rfl) ?_
  refine mv rfl rfl ?_
  refine b_F rfl rfl rfl rfl rfl rfl ?_
  refine b_F rfl rfl rfl rfl rfl rfl ?_
  refine bv rfl (v_pickF rfl rfl rfl) ?_
  refine mv rfl rfl ?_
  refine b_F rfl rfl rfl rfl rfl rfl ?_
  refine b_F rfl rfl rfl rfl rfl rfl ?_
  refine bv rfl (v_pickF rfl rfl rfl) ?_
  refine mv rfl rfl ?_
  refine b_F rfl rfl rfl rfl rfl rfl ?_
  refine bv rfl (v_pickF rfl rfl rfl) ?_
  refine mv rfl rfl ?_
  refine b_F rfl rfl rfl rfl rfl rfl ?_
  refine bv rfl (v_pickF rfl rfl rfl) ?_
  refine mv rfl rfl ?_
  refine b_F rfl rfl rfl rfl rfl rfl ?_
  refine bv rfl (v_pickF rfl rfl rfl) ?_
  refine mv rfl rfl ?_
  refine b_F rfl rfl rfl rfl rfl rfl ?_
  refine b_F rfl rfl rfl rfl rfl rfl ?_
  refine b_F rfl rfl rfl rfl rfl rfl ?_
  refine bv rfl (v_pickF rfl rfl rfl) ?_
  refine mv rfl rfl ?_
  refine b_F rfl rfl rfl rfl rfl rfl ?_
  refine b_F rfl rfl rfl rfl rfl rfl ?_
  refine b_F rfl rfl rfl rfl rfl rfl ?_
  refine bv rfl (v_pickF rfl rfl rfl) ?_
  refine mv rfl rfl ?_
  refine b_nil (hK _ ?_)
  clear hK K
  exact to_le (s' := ⟨[(0, HV.bool false)], []⟩) (AS.le_of ⟨rfl, trivial⟩ trivial) ⟨false, (), h, rfl⟩
 have h := ifF hg30 h
 refine b_F rfl rfl rfl rfl rfl (decide_eq_false hg30) ?_
 refine b_F rfl rfl rfl rfl rfl rfl ?_
 refine bv rfl (v_pickF rfl rfl rfl) ?_
 refine mv rfl rfl ?_
 refine b_F rfl rfl rfl rfl rfl rfl ?_
 refine b_F rfl rfl rfl rfl rfl rfl ?_
 refine bv rfl (v_pickF rfl rfl rfl) ?_
 refine mv rfl rfl ?_
 refine b_F rfl rfl rfl rfl rfl rfl ?_
 refine b_F rfl rfl rfl rfl rfl rfl ?_
 refine bv rfl (v_pickF rfl rfl rfl) ?_
 refine mv rfl rfl ?_
 refine b_F rfl rfl rfl rfl rfl rfl ?_
 refine b_F rfl rfl rfl rfl rfl rfl ?_
 refine bv rfl (v_pickF rfl rfl rfl) ?_
 refine mv rfl rfl ?_
 refine b_F rfl rfl rfl rfl rfl rfl ?_
 refine b_F rfl rfl rfl rfl rfl rfl ?_
 refine bv rfl (v_pickF rfl rfl rfl) ?_
 refine mv rfl rfl ?_
 refine b_F rfl rfl rfl rfl rfl rfl ?_
 refine bv rfl (v_pickF rfl rfl rfl) ?_
 refine mv rfl rfl ?_
 refine b_F rfl rfl rfl rfl rfl rfl ?_
 refine bv rfl (v_pickF rfl rfl rfl) ?_
 refine mv rfl rfl ?_
 refine b_F rfl rfl rfl rfl rfl rfl ?_
 refine bv rfl (v_pickF rfl rfl rfl) ?_
 refine mv rfl rfl ?_
 refine b_F rfl rfl rfl rfl rfl rfl ?_
 refine b_F rfl rfl rfl rfl rfl rfl ?_
 refine b_F rfl rfl rfl rfl rfl rfl ?_
 refine bv rfl (v_pickF rfl rfl rfl) ?_
 refine mv rfl rfl ?_
 refine b_F rfl rfl rfl rfl rfl rfl ?_
 refine b_F rfl rfl rfl rfl rfl rfl ?_
 refine b_F rfl rfl rfl rfl rfl rfl ?_
 refine bv rfl (v_pickF rfl rfl rfl) ?_
 refine mv rfl rfl ?_
 refine b_nil (hK _ ?_)
 clear hK K
 exact to_le (s' := ⟨[(0, HV.bool false)], []⟩) (AS.le_of ⟨rfl, trivial⟩ trivial) ⟨false, (), h, rfl⟩

end Go.AW



/- The least path that is labelled with a word. -/
namespace Go.AW
open Go
set_option linter.unusedSimpArgs false
set_option linter.unusedVariables false

section
variable {g : Gr}

def canB (g : Gr) : List UInt8 → List Bool
  | [] => List.replicate g.2.1.toNat true
  | c :: w => (upto g.2.1).map fun s => g.2.2.any fun x => decide (x.1 = s ∧ x.2.1 = lab c) && (canB g w).getD x.2.2.toNat false
def canR (g : Gr) (w : List UInt8) (s : Int) : Prop := (canB g w).getD s.toNat false = true
theorem canR_nil {s : Int} (h0 : 0 ≤ s) (h1 : s < g.2.1) : canR g [] s := by
  have : s.toNat < g.2.1.toNat := by omega
  simp [canR, canB, List.getD, this]
theorem upto_get {n : Int} {i : Nat} (h : i < (upto n).length) : (upto n)[i] = (i : Int) := by simp [upto]
theorem canR_cons {c : UInt8} {w : List UInt8} {s : Int} (h0 : 0 ≤ s) (h1 : s < g.2.1) : canR g (c :: w) s ↔ ∃ x ∈ g.2.2, x.1 = s ∧ x.2.1 = lab c ∧ canR g w x.2.2 := by
  have hs : s.toNat < (upto g.2.1).length := by rw [upto_len]; omega
  simp only [canR, canB]
  rw [List.getD_eq_getElem?_getD, List.getElem?_map, List.getElem?_eq_getElem hs, upto_get]
  simp only [Option.map_some, Option.getD_some, List.any_eq_true, Bool.and_eq_true, decide_eq_true_eq]
  have e : ((s.toNat : Nat) : Int) = s := by omega
  rw [e]
  exact ⟨fun ⟨x, hx, ⟨h2, h3⟩, h4⟩ => ⟨x, hx, h2, h3, h4⟩, fun ⟨x, hx, h2, h3, h4⟩ => ⟨x, hx, ⟨h2, h3⟩, h4⟩⟩

theorem can_iff (hv : VG g) : ∀ (w : List UInt8) {a : List Int} (ha : SetOk g a), endsL g a w ≠ [] ↔ ∃ s ∈ a, canR g w s
  | [], a, ha => by
    constructor
    · intro h
      obtain ⟨s, hs⟩ := List.exists_mem_of_ne_nil a h
      obtain ⟨h0, h1⟩ := ha.2 s hs
      exact ⟨s, hs, canR_nil h0 h1⟩
    · rintro ⟨s, hs, _⟩ h
      rw [show a = [] from h] at hs
      cases hs
  | c :: w, a, ha => by
    rw [endsL_cons, can_iff hv w (stepL_ok g a _)]
    constructor
    · rintro ⟨t, ht, hc⟩
      obtain ⟨e, he, h1, h2, h3⟩ := (mem_stepL hv).1 ht
      obtain ⟨h4, h5⟩ := ha.2 _ h3
      exact ⟨e.1, h3, (canR_cons h4 h5).2 ⟨e, he, rfl, h2, by rw [h1]; exact hc⟩⟩
    · rintro ⟨s, hs, hc⟩
      obtain ⟨h4, h5⟩ := ha.2 _ hs
      obtain ⟨x, hx, h1, h2, h3⟩ := (canR_cons h4 h5).1 hc
      exact ⟨x.2.2, (mem_stepL hv).2 ⟨x, hx, rfl, h2, by rw [h1]; exact hs⟩, h3⟩

def okE (g : Gr) (w : List UInt8) (c : UInt8) (prev : Option Int) (x : Ed) : Bool := decide (x.2.1 = lab c) && (canB g w).getD x.2.2.toNat false && (match prev with
  | none => true
  | some s => decide (x.1 = s))
def pick (g : Gr) (w : List UInt8) (c : UInt8) (prev : Option Int) : Nat := g.2.2.findIdx (okE g w c prev)
end
end Go.AW

/- language.Path gives the least path. -/
namespace Go.AW
open Go
set_option linter.unusedSimpArgs false
set_option linter.unusedVariables false
section
variable {g : Gr}

end
end Go.AW

/- language.Path: the edges; the whole function. -/
namespace Go.AW
open Go
set_option linter.unusedSimpArgs false
set_option linter.unusedVariables false
section
variable {g : Gr}

end
end Go.AW

/- All words of a length. -/
namespace Go.AW
open Go
set_option linter.unusedSimpArgs false
set_option linter.unusedVariables false

def allW (cs : List UInt8) : Nat → List (List UInt8)
  | 0 => [[]]
  | n + 1 => (allW cs n).flatMap fun w => cs.map fun c => w ++ [c]
theorem mem_allW {cs : List UInt8} : ∀ {n : Nat} {w : List UInt8}, w ∈ allW cs n ↔ w.length = n ∧ ∀ c ∈ w, c ∈ cs
  | 0, w => by
    simp only [allW, List.mem_singleton]
    constructor
    · rintro rfl; simp
    · rintro ⟨h, _⟩; exact List.eq_nil_of_length_eq_zero h
  | n + 1, w => by
    simp only [allW, List.mem_flatMap, List.mem_map]
    constructor
    · rintro ⟨u, hu, c, hc, rfl⟩
      obtain ⟨h1, h2⟩ := mem_allW.1 hu
      refine ⟨by simp [h1], fun d hd => ?_⟩
      rcases List.mem_append.1 hd with h | h
      · exact h2 d h
      · simp at h; subst h; exact hc
    · rintro ⟨h1, h2⟩
      rcases List.eq_nil_or_concat w with rfl | ⟨v, c, rfl⟩
      · simp at h1
      · rw [List.concat_eq_append] at h1 h2 ⊢
        exact ⟨v, mem_allW.2 ⟨by simpa using h1, fun d hd => h2 d (List.mem_append_left _ hd)⟩, c, h2 c (by simp), rfl⟩
theorem allW_len (cs : List UInt8) : ∀ n, (allW cs n).length = cs.length ^ n
  | 0 => rfl
  | n + 1 => by
    have h : ∀ l : List (List UInt8), (l.flatMap fun w => cs.map fun c => w ++ [c]).length = l.length * cs.length := by
      intro l
      induction l with
      | nil => simp
      | cons x l ih => rw [List.flatMap_cons, List.length_append, ih, List.length_map, List.length_cons, Nat.succ_mul]; omega
    simp only [allW]
    rw [h, allW_len cs n, Nat.pow_succ]
theorem allW_asc {cs : List UInt8} (hcs : cs.Pairwise (· < ·)) : ∀ n, (allW cs n).Pairwise (· < ·)
  | 0 => by simp [allW]
  | n + 1 => by
    simp only [allW]
    rw [List.pairwise_flatMap]
    refine ⟨fun x hx => ?_, (allW_asc hcs n).imp_of_mem fun {x y} hx hy hxy a ha b hb => ?_⟩
    · rw [List.pairwise_map]
      exact hcs.imp fun hcd => app_lt _ (List.cons_lt_cons_iff.2 (.inl hcd))
    · obtain ⟨c, _, rfl⟩ := List.mem_map.1 ha
      obtain ⟨d, _, rfl⟩ := List.mem_map.1 hb
      exact lt_app _ _ (by rw [(mem_allW.1 hx).1, (mem_allW.1 hy).1]) hxy

section
variable {g : Gr}
def accB (g : Gr) (w : List UInt8) : Bool := decide (endsL g (upto g.2.1) w ≠ [])
end
end Go.AW

/- The first missing word. -/
namespace Go.AW
open Go
set_option linter.unusedSimpArgs false
set_option linter.unusedVariables false

section
variable {β : Type}
end

section
variable {g : Gr}
end
end Go.AW

/- The words of a length, by reading; the anchor of chapter 11. -/
namespace Go.AW
open Go
set_option linter.unusedSimpArgs false
set_option linter.unusedVariables false

theorem lvl_congr {f h : List Int → UInt8 → List Int} {cs : List UInt8} {A : List Int → Prop} {set : List Int} (hs : A set) (hA : ∀ a c, A a → c ∈ cs → A (f a c)) (he : ∀ a c, A a → c ∈ cs → f a c = h a c) : ∀ n, lvl f cs set n = lvl h cs set n
  | 0 => rfl
  | n + 1 => by
    simp only [lvl]
    rw [← lvl_congr hs hA he n]
    have hall : ∀ x ∈ lvl f cs set n, A x.2 := lvl_all hs hA n
    have hcs : ∀ (cs' : List UInt8), (∀ c ∈ cs', c ∈ cs) → ∀ x ∈ lvl f cs set n, ext1 f cs' x = ext1 h cs' x := by
      intro cs' hsub x hx
      unfold ext1
      induction cs' with
      | nil => rfl
      | cons c cs' ih =>
        rw [List.filterMap_cons, List.filterMap_cons, he x.2 c (hall x hx) (hsub c (List.mem_cons_self ..)), ih fun d hd => hsub d (List.mem_cons_of_mem _ hd)]
    have : ∀ l : List WS, (∀ x ∈ l, ext1 f cs x = ext1 h cs x) → l.flatMap (ext1 f cs) = l.flatMap (ext1 h cs) := by
      intro l hl
      induction l with
      | nil => rfl
      | cons x l ih => rw [List.flatMap_cons, List.flatMap_cons, hl x (List.mem_cons_self ..), ih fun y hy => hl y (List.mem_cons_of_mem _ hy)]
    exact this _ (hcs cs fun _ h => h)

section
variable {g : Gr}
def stpL (g : Gr) (a : List Int) (c : UInt8) : List Int := stepL g a (lab c)
theorem LV_lab (hv : VG g) {set : List Int} (hs : SetOk g set) (n : Nat) : LV g set n = lvl (stpL g) (lets g) set n := by
  refine lvl_congr (A := SetOk g) hs (fun a c ha hc => stpM_ok hv ha hc) (fun a c ha hc => ?_) n
  unfold stpM
  rw [step_lab hv ha hc]
  rfl

theorem mem_LV (hv : VG g) {set : List Int} (hs : SetOk g set) : ∀ (n : Nat) (x : WS), x ∈ LV g set n ↔ x.1.length = n ∧ (∀ c ∈ x.1, c ∈ lets g) ∧ x.2 = endsL g set x.1 ∧ x.2 ≠ [] := by
  intro n
  rw [LV_lab hv hs]
  induction n with
  | zero =>
    rintro ⟨u, a⟩
    simp only [lvl]
    constructor
    · intro h
      split at h
      · cases h
      · rename_i hne
        simp only [List.mem_singleton, Prod.mk.injEq] at h
        obtain ⟨rfl, rfl⟩ := h
        exact ⟨rfl, by simp, rfl, hne⟩
    · rintro ⟨hl, _, he, hne⟩
      have hu : u = [] := List.eq_nil_of_length_eq_zero hl
      subst hu
      have : a = set := he
      subst this
      rw [if_neg hne]
      simp
  | succ n ih =>
    rintro ⟨u, a⟩
    simp only [lvl, List.mem_flatMap, mem_ext1]
    constructor
    · rintro ⟨y, hy, c, hc, hne, he⟩
      cases he
      obtain ⟨h1, h2, h3, h4⟩ := (ih y).1 hy
      refine ⟨by simp [h1], fun d hd => ?_, ?_, hne⟩
      · rcases List.mem_append.1 hd with hd | hd
        · exact h2 d hd
        · simp at hd; subst hd; exact hc
      · show stepL g y.2 (lab c) = _
        rw [endsL_app, ← h3]
        rfl
    · rintro ⟨hl, hc, he, hne⟩
      rcases List.eq_nil_or_concat u with rfl | ⟨v, c, rfl⟩
      · simp at hl
      · rw [List.concat_eq_append] at he hl hc ⊢
        rw [endsL_app] at he
        have he' : a = stepL g (endsL g set v) (lab c) := he
        have hne2 : endsL g set v ≠ [] := fun h0 => hne (by rw [he', h0, stepL_nil])
        exact ⟨(v, endsL g set v), (ih _).2 ⟨by simpa using hl, fun d hd => hc d (List.mem_append_left _ hd), rfl, hne2⟩, c, hc c (by simp), by show stepL g _ _ ≠ []; rw [← he']; exact hne, by rw [he']; rfl⟩
end

end Go.AW

/- The law of words. -/
namespace Go.AW
open Go
set_option linter.unusedSimpArgs false
set_option linter.unusedVariables false

theorem ltW_asym : ∀ {u v : List UInt8}, u < v → ¬ v < u
  | [], [], h, _ => by cases h
  | [], _ :: _, _, h => by cases h
  | _ :: _, [], h, _ => by cases h
  | a :: u, b :: v, h, h' => by
    rcases List.cons_lt_cons_iff.1 h with h1 | ⟨h1, h2⟩
    · rcases List.cons_lt_cons_iff.1 h' with h3 | ⟨h3, h4⟩
      · exact absurd (UInt8.lt_trans h1 h3) (u8_irr a)
      · subst h3; exact u8_irr _ h1
    · subst h1
      rcases List.cons_lt_cons_iff.1 h' with h3 | ⟨h3, h4⟩
      · exact u8_irr _ h3
      · exact ltW_asym h2 h4
theorem ascW_uniq {l m : List (List UInt8)} (hl : l.Pairwise (· < ·)) (hm : m.Pairwise (· < ·)) (h : ∀ x, x ∈ l ↔ x ∈ m) : l = m := by
  have nl : l.Nodup := hl.imp fun h e => by subst e; exact lt_irr _ h
  have nm : m.Nodup := hm.imp fun h e => by subst e; exact lt_irr _ h
  have hp : l.Perm m := (List.perm_ext_iff_of_nodup nl nm).2 h
  exact hp.eq_of_pairwise (fun a b _ _ h1 h2 => absurd h2 (ltW_asym h1)) hl hm

section
variable {g : Gr}
theorem lets_asc (g : Gr) : (lets g).Pairwise (· < ·) := letters_asc.sublist (List.take_sublist _ _)
theorem words_filter (hv : VG g) (n : Nat) : (LV g (upto g.2.1) n).map Prod.fst = (allW (lets g) n).filter (accB g) := by
  refine ascW_uniq (LV_asc g _ n) ((allW_asc (lets_asc g) n).filter _) fun w => ?_
  simp only [List.mem_map, List.mem_filter, mem_allW, accB, decide_eq_true_eq]
  constructor
  · rintro ⟨x, hx, rfl⟩
    obtain ⟨h1, h2, h3, h4⟩ := (mem_LV hv (upto_ok g) n x).1 hx
    exact ⟨⟨h1, h2⟩, by rw [← h3]; exact h4⟩
  · rintro ⟨⟨h1, h2⟩, h3⟩
    exact ⟨(w, endsL g (upto g.2.1) w), (mem_LV hv (upto_ok g) n _).2 ⟨h1, h2, rfl, h3⟩, rfl⟩
theorem LV_pow (hv : VG g) (h16 : g.1 ≤ 16) (n : Nat) : (LV g (upto g.2.1) n).length ≤ g.1.toNat ^ n := by
  have h := words_filter hv n
  have h2 := congrArg List.length h
  rw [List.length_map] at h2
  rw [h2]
  refine Nat.le_trans (List.length_filter_le _ _) ?_
  rw [allW_len, lets_len hv h16]
  exact Nat.le_refl _
end

end Go.AW

/- word.All; the law of words. -/
namespace Go.AW
open Go
set_option linter.unusedSimpArgs false
set_option linter.unusedVariables false

theorem Words_ok {g : Gr} (hv : VG g) (h16 : g.1 ≤ 16) {n : Nat} (hn : n ≤ 4096) (hb : ∀ j, 1 ≤ j → j ≤ n → g.1.toNat ^ j ≤ 4096) : m_language_Words g (n : Int) = some ((allW (lets g) n).filter (accB g), 0) := by
  obtain ⟨r, hr, _, h2, h3⟩ := Words_both g n
  have h0 := h3 hv h16 (by omega) (by omega) (OKL_iff.2 fun j j1 j2 => Nat.le_trans (LV_pow hv h16 j) (hb j j1 (by simpa using j2)))
  obtain ⟨_, hw⟩ := h2 h0
  obtain ⟨r1, r2⟩ := r
  dsimp only at h0 hw
  rw [hr, h0, hw]
  unfold wordsE
  rw [Int.toNat_natCast, words_filter hv]

end Go.AW

/- The law of the first missing word. -/
namespace Go.AW
open Go
set_option linter.unusedSimpArgs false
set_option linter.unusedVariables false
section
variable {g : Gr}

end

end Go.AW

/- The law of letters. -/
namespace Go.AW
open Go
set_option linter.unusedSimpArgs false
set_option linter.unusedVariables false

end Go.AW

/- Reading words, in the program and in the reference. -/
namespace Go.AW
open Go
set_option linter.unusedSimpArgs false
set_option linter.unusedVariables false

section
variable {g : Gr}
end
end Go.AW

/- The law of paths. -/
namespace Go.AW
open Go
set_option linter.unusedSimpArgs false
set_option linter.unusedVariables false
section
variable {g : Gr}

end
end Go.AW

/- The letters that can follow, and the least path, in the reference; the law of reading. -/
namespace Go.AW
open Go
set_option linter.unusedSimpArgs false
set_option linter.unusedVariables false

section
variable {g : Gr}
end

end Go.AW

/- Lists of words from a state, between states, and the first missing word: the program and the reference agree. -/
namespace Go.AW
open Go
set_option linter.unusedSimpArgs false
set_option linter.unusedVariables false

section
variable {g : Gr}
end

end Go.AW

/- Compaction of lists of texts. -/
namespace Go.AW
open Go
end Go.AW

/- Models, printed by lk.py. -/
namespace Go.AW
open Go
set_option linter.unusedVariables false
end Go.AW

/- The law of parts: words from all states, between all pairs of states. -/
namespace Go.AW
open Go
set_option linter.unusedSimpArgs false
set_option linter.unusedVariables false

section
variable {g : Gr}
end

end Go.AW

/- Marks: what has been read of a mark behind a word; bad words; the first of them. -/
namespace Go.AW
open Go
set_option linter.unusedVariables false
set_option linter.unusedSimpArgs false
def badG (mark : List UInt8) : List UInt8 → Nat → Bool → Bool
  | [], n, b => endsG mark mark n || b
  | c :: u, n, b => badG mark u (foll mark n c) (b || decide (foll mark n c = mark.length))
def badU (mark u : List UInt8) : Bool := badG mark u mark.length false
section
variable {g : Gr} {mark : List UInt8}
theorem letB_mem (hv : VG g) (h16 : g.1 ≤ 16) {a : Int} (h0 : 0 ≤ a) (h1 : a < g.1) : letB a ∈ lets g ∧ lab (letB a) = a := by
  have hl : a.toNat < letters.length := by rw [letters_len]; omega
  have e : letB a = letters[a.toNat] := by unfold letB; rw [List.getD_eq_getElem?_getD, List.getElem?_eq_getElem hl]; rfl
  rw [e]
  refine ⟨?_, ?_⟩
  · unfold lets
    exact List.mem_take_iff_getElem.2 ⟨a.toNat, by rw [letters_len] at hl ⊢; omega, rfl⟩
  · have := idx_letter hl
    unfold lab
    rw [this]
    omega
theorem lets_lab (hv : VG g) (h16 : g.1 ≤ 16) {c : UInt8} (hc : c ∈ lets g) : 0 ≤ lab c ∧ lab c < g.1 ∧ letB (lab c) = c := by
  obtain ⟨i, hi, hg, rfl, e⟩ := lab_mem hc
  rw [e]
  refine ⟨Int.natCast_nonneg _, hg, ?_⟩
  unfold letB
  rw [Int.toNat_natCast, List.getD_eq_getElem?_getD, List.getElem?_eq_getElem hi]
  rfl
theorem canF_iff (hv : VG g) (h16 : g.1 ≤ 16) : ∀ (n : Nat) (p : TStateReadBadLeft), 0 ≤ p.1 → p.1 < g.2.1 → (canF g.2.2 mark n p = true ↔ ∃ u : List UInt8, u.length = n ∧ (∀ c ∈ u, c ∈ lets g) ∧ canR g u p.1 ∧ badG mark u p.2.1.toNat p.2.2.1 = true)
  | 0, p, h0, h1 => by
    unfold canF endsF
    constructor
    · intro h; exact ⟨[], rfl, fun _ h => by simp at h, canR_nil h0 h1, h⟩
    · rintro ⟨u, hu, _, _, h⟩
      cases List.eq_nil_of_length_eq_zero hu
      exact h
  | n + 1, p, h0, h1 => by
    unfold canF
    rw [List.any_eq_true]
    constructor
    · rintro ⟨x, hx, h⟩
      obtain ⟨hxE, hxp⟩ := List.mem_filter.1 hx
      have hxp := of_decide_eq_true hxp
      obtain ⟨e1, e2, e3, e4, e5, e6⟩ := hv.ed x hxE
      obtain ⟨u, hu, hul, hc, hb⟩ := (canF_iff hv h16 n (stepF mark p x) e3 e4).1 h
      obtain ⟨l1, l2⟩ := letB_mem hv h16 e5 e6
      refine ⟨letB x.2.1 :: u, by rw [List.length_cons, hu], fun c hc => ?_, (canR_cons h0 h1).2 ⟨x, hxE, hxp, l2.symm, hc⟩, ?_⟩
      · rcases List.mem_cons.1 hc with rfl | hc
        · exact l1
        · exact hul c hc
      · unfold badG
        exact hb
    · rintro ⟨u, hu, hul, hc, hb⟩
      cases u with
      | nil => simp at hu
      | cons c u =>
        obtain ⟨x, hxE, hx1, hx2, hx3⟩ := (canR_cons h0 h1).1 hc
        obtain ⟨e1, e2, e3, e4, e5, e6⟩ := hv.ed x hxE
        obtain ⟨l1, l2, l3⟩ := lets_lab hv h16 (hul c (List.mem_cons_self ..))
        refine ⟨x, List.mem_filter.2 ⟨hxE, decide_eq_true hx1⟩, (canF_iff hv h16 n (stepF mark p x) e3 e4).2 ⟨u, by simpa using hu, fun d hd => hul d (List.mem_cons_of_mem _ hd), hx3, ?_⟩⟩
        unfold badG at hb
        have e : letB x.2.1 = c := by rw [hx2, l3]
        show badG mark u ((foll mark p.2.1.toNat (letB x.2.1) : Nat) : Int).toNat (p.2.2.1 || decide (foll mark p.2.1.toNat (letB x.2.1) = mark.length)) = true
        rw [Int.toNat_natCast, e]
        exact hb

theorem mem_aft1 {f : TStateReadBadLeft → Bool} {stp : TStateReadBadLeft → TFromLabelTo → TStateReadBadLeft} {a : Int} {p q : TStateReadBadLeft} : ∀ (l : List TFromLabelTo) (acc : List TStateReadBadLeft), q ∈ l.foldl (aft1 f stp a p) acc ↔ q ∈ acc ∨ (f q = true ∧ ∃ x ∈ l, x.2.1 = a ∧ q = stp p x)
  | [], acc => by simp
  | x :: l, acc => by
    rw [List.foldl_cons, mem_aft1 l]
    have h : q ∈ aft1 f stp a p acc x ↔ q ∈ acc ∨ (f q = true ∧ x.2.1 = a ∧ q = stp p x) := by
      unfold aft1
      split
      · rename_i h1
        split
        · rename_i h2
          exact ⟨.inl, fun h => h.elim id fun ⟨_, _, e⟩ => by rw [e]; exact h2⟩
        · split
          · rename_i h3
            rw [List.mem_append, List.mem_singleton]
            exact or_congr Iff.rfl ⟨fun e => ⟨by rw [e]; exact h3, h1, e⟩, fun h => h.2.2⟩
          · rename_i h3
            exact ⟨.inl, fun h => h.elim id fun ⟨h4, _, e⟩ => absurd (by rw [← e]; exact h4) h3⟩
      · rename_i h1
        exact ⟨.inl, fun h => h.elim id fun ⟨_, h4, _⟩ => absurd h4 h1⟩
    rw [h, or_assoc]
    refine or_congr Iff.rfl ?_
    constructor
    · rintro (⟨h1, h2, h3⟩ | ⟨h1, y, hy, h2, h3⟩)
      · exact ⟨h1, x, List.mem_cons_self .., h2, h3⟩
      · exact ⟨h1, y, List.mem_cons_of_mem _ hy, h2, h3⟩
    · rintro ⟨h1, y, hy, h2, h3⟩
      rcases List.mem_cons.1 hy with rfl | hy
      · exact .inl ⟨h1, h2, h3⟩
      · exact .inr ⟨h1, y, hy, h2, h3⟩
theorem mem_aft {f : TStateReadBadLeft → Bool} {stp : TStateReadBadLeft → TFromLabelTo → TStateReadBadLeft} {lv : Int → List TFromLabelTo} {a : Int} {q : TStateReadBadLeft} (now : List TStateReadBadLeft) : q ∈ aft f stp lv now a ↔ f q = true ∧ ∃ p ∈ now, ∃ x ∈ lv p.1, x.2.1 = a ∧ q = stp p x := by
  have h : ∀ (l acc : List TStateReadBadLeft), q ∈ l.foldl (aftP f stp lv a) acc ↔ q ∈ acc ∨ (f q = true ∧ ∃ p ∈ l, ∃ x ∈ lv p.1, x.2.1 = a ∧ q = stp p x) := by
    intro l
    induction l with
    | nil => simp
    | cons p l ih =>
      intro acc
      rw [List.foldl_cons, ih]
      unfold aftP
      rw [mem_aft1, or_assoc]
      refine or_congr Iff.rfl ?_
      constructor
      · rintro (⟨h1, x, hx, h2⟩ | ⟨h1, p', hp, h2⟩)
        · exact ⟨h1, p, List.mem_cons_self .., x, hx, h2⟩
        · exact ⟨h1, p', List.mem_cons_of_mem _ hp, h2⟩
      · rintro ⟨h1, p', hp, x, hx, h2⟩
        rcases List.mem_cons.1 hp with rfl | hp
        · exact .inl ⟨h1, x, hx, h2⟩
        · exact .inr ⟨h1, p', hp, x, hx, h2⟩
  unfold aft
  rw [h]
  simp
theorem firstA_some {f : TStateReadBadLeft → Bool} {stp : TStateReadBadLeft → TFromLabelTo → TStateReadBadLeft} {lv : Int → List TFromLabelTo} {now : List TStateReadBadLeft} : ∀ (k s : Nat), (∃ a : Nat, s ≤ a ∧ a < s + k ∧ aft f stp lv now (a : Int) ≠ []) → ∃ a : Nat, s ≤ a ∧ a < s + k ∧ aft f stp lv now (a : Int) ≠ [] ∧ firstA f stp lv now ((List.range' s k).map Int.ofNat) = some ((a : Int), aft f stp lv now (a : Int)) ∧ ∀ b : Nat, s ≤ b → b < a → aft f stp lv now (b : Int) = []
  | 0, s, ⟨a, h1, h2, _⟩ => by omega
  | k + 1, s, ⟨a, h1, h2, h3⟩ => by
    by_cases e : aft f stp lv now (s : Int) = []
    · obtain ⟨c, c1, c2, c3, c4, c5⟩ := firstA_some (f := f) (stp := stp) (lv := lv) (now := now) k (s + 1) ⟨a, by
        rcases Nat.lt_or_ge s a with h | h
        · omega
        · have : a = s := by omega
          subst this; exact absurd e h3, by omega, h3⟩
      refine ⟨c, by omega, by omega, c3, ?_, fun b hb1 hb2 => ?_⟩
      · rw [List.range'_succ, List.map_cons]
        unfold firstA
        rw [if_neg (fun hn => hn e)]
        exact c4
      · by_cases eb : b = s
        · subst eb; exact e
        · exact c5 b (by omega) hb2
    · refine ⟨s, Nat.le_refl _, by omega, e, ?_, fun b hb1 hb2 => by omega⟩
      rw [List.range'_succ, List.map_cons]
      unfold firstA
      exact if_pos e
def goes (g : Gr) (mark : List UInt8) (now : List TStateReadBadLeft) (u : List UInt8) : Prop := (∀ c ∈ u, c ∈ lets g) ∧ ∃ p ∈ now, canR g u p.1 ∧ badG mark u p.2.1.toNat p.2.2.1 = true
theorem letters_lt {i j : Nat} (hi : i < letters.length) (hj : j < letters.length) (h : i < j) : letters[i] < letters[j] := by
  have : ∀ a b : Fin 16, a.1 < b.1 → letters[a.1]'(show a.1 < letters.length from a.2) < letters[b.1]'(show b.1 < letters.length from b.2) := by decide
  exact this ⟨i, hi⟩ ⟨j, hj⟩ h
theorem lets_lt_lab (hv : VG g) (h16 : g.1 ≤ 16) {c d : UInt8} (hc : c ∈ lets g) (hd : d ∈ lets g) (h : c < d) : lab c < lab d := by
  obtain ⟨i, hi, _, rfl, e⟩ := lab_mem hc
  obtain ⟨j, hj, _, rfl, f⟩ := lab_mem hd
  rw [e, f]
  rcases Nat.lt_trichotomy i j with h1 | h1 | h1
  · omega
  · subst h1; exact absurd h (UInt8.lt_irrefl _)
  · exact absurd (UInt8.lt_trans h (letters_lt hj hi h1)) (UInt8.lt_irrefl _)
theorem goes_cons (hv : VG g) (h16 : g.1 ≤ 16) {n : Nat} {now : List TStateReadBadLeft} (hn : ∀ p ∈ now, (0 ≤ p.1 ∧ p.1 < g.2.1) ∧ 0 ≤ p.2.1 ∧ p.2.2.2 = (n : Int) + 1) {c : UInt8} (hc : c ∈ lets g) {u : List UInt8} (hu : u.length = n) :
    goes g mark now (c :: u) ↔ goes g mark (aft (canP g.2.2 mark) (stepF mark) (leav g.2.2) now (lab c)) u := by
  obtain ⟨l1, l2, l3⟩ := lets_lab hv h16 hc
  unfold goes
  constructor
  · rintro ⟨h1, p, hp, h2, h3⟩
    refine ⟨fun d hd => h1 d (List.mem_cons_of_mem _ hd), ?_⟩
    obtain ⟨⟨p0, p1⟩, p2, p3⟩ := hn p hp
    obtain ⟨x, hxE, hx1, hx2, hx3⟩ := (canR_cons p0 p1).1 h2
    obtain ⟨e1, e2, e3, e4, e5, e6⟩ := hv.ed x hxE
    have e : letB x.2.1 = c := by rw [hx2, l3]
    have hb : badG mark u (stepF mark p x).2.1.toNat (stepF mark p x).2.2.1 = true := by
      show badG mark u ((foll mark p.2.1.toNat (letB x.2.1) : Nat) : Int).toNat (p.2.2.1 || decide (foll mark p.2.1.toNat (letB x.2.1) = mark.length)) = true
      rw [Int.toNat_natCast, e]
      unfold badG at h3
      exact h3
    refine ⟨stepF mark p x, (mem_aft now).2 ⟨?_, p, hp, x, List.mem_filter.2 ⟨hxE, decide_eq_true hx1⟩, hx2, rfl⟩, hx3, hb⟩
    unfold canP
    have hl : (stepF mark p x).2.2.2.toNat = n := by show (p.2.2.2 - 1).toNat = n; omega
    rw [hl]
    exact (canF_iff hv h16 n _ e3 e4).2 ⟨u, hu, fun d hd => h1 d (List.mem_cons_of_mem _ hd), hx3, hb⟩
  · rintro ⟨h1, q, hq, h2, h3⟩
    obtain ⟨h4, p, hp, x, hx, hx2, rfl⟩ := (mem_aft now).1 hq
    obtain ⟨hxE, hx1⟩ := List.mem_filter.1 hx
    have hx1 := of_decide_eq_true hx1
    obtain ⟨⟨p0, p1⟩, p2, p3⟩ := hn p hp
    refine ⟨fun d hd => ?_, p, hp, (canR_cons p0 p1).2 ⟨x, hxE, hx1, hx2, h2⟩, ?_⟩
    · rcases List.mem_cons.1 hd with rfl | hd
      · exact hc
      · exact h1 d hd
    · have e : letB x.2.1 = c := by rw [hx2, l3]
      have h3 : badG mark u ((foll mark p.2.1.toNat (letB x.2.1) : Nat) : Int).toNat (p.2.2.1 || decide (foll mark p.2.1.toNat (letB x.2.1) = mark.length)) = true := h3
      rw [Int.toNat_natCast, e] at h3
      unfold badG
      exact h3
theorem grow_spec (hv : VG g) (h16 : g.1 ≤ 16) : ∀ (n : Nat) (now : List TStateReadBadLeft), now ≠ [] → (∀ p ∈ now, canP g.2.2 mark p = true ∧ (0 ≤ p.1 ∧ p.1 < g.2.1) ∧ 0 ≤ p.2.1 ∧ p.2.2.2 = (n : Int)) →
    (growF (canP g.2.2 mark) (stepF mark) (leav g.2.2) g.1 n now).length = n ∧ goes g mark now (growF (canP g.2.2 mark) (stepF mark) (leav g.2.2) g.1 n now) ∧ ∀ v : List UInt8, v.length = n → goes g mark now v → ¬ v < growF (canP g.2.2 mark) (stepF mark) (leav g.2.2) g.1 n now
  | 0, now, hne, hn => by
    refine ⟨rfl, ⟨fun _ h => (by cases h), ?_⟩, fun v _ _ h => (by cases h)⟩
    obtain ⟨p, hp⟩ := List.exists_mem_of_ne_nil _ hne
    obtain ⟨h1, ⟨p0, p1⟩, p2, p3⟩ := hn p hp
    unfold canP at h1
    rw [p3] at h1
    obtain ⟨u, hu, _, hc, hb⟩ := (canF_iff hv h16 _ _ p0 p1).1 h1
    cases List.eq_nil_of_length_eq_zero hu
    exact ⟨p, hp, hc, hb⟩
  | n + 1, now, hne, hn => by
    have hn1 : ∀ p ∈ now, (0 ≤ p.1 ∧ p.1 < g.2.1) ∧ 0 ≤ p.2.1 ∧ p.2.2.2 = (n : Int) + 1 := fun p hp => by
      obtain ⟨_, h2, h3, h4⟩ := hn p hp
      exact ⟨h2, h3, by omega⟩
    have hgo : ∀ a : Nat, (a : Int) < g.1 → aft (canP g.2.2 mark) (stepF mark) (leav g.2.2) now (a : Int) ≠ [] → ∀ p ∈ aft (canP g.2.2 mark) (stepF mark) (leav g.2.2) now (a : Int), canP g.2.2 mark p = true ∧ (0 ≤ p.1 ∧ p.1 < g.2.1) ∧ 0 ≤ p.2.1 ∧ p.2.2.2 = (n : Int) := by
      intro a _ _ q hq
      obtain ⟨h4, p, hp, x, hx, hx2, rfl⟩ := (mem_aft now).1 hq
      obtain ⟨hxE, hx1⟩ := List.mem_filter.1 hx
      obtain ⟨e1, e2, e3, e4, e5, e6⟩ := hv.ed x hxE
      obtain ⟨_, _, _, p3⟩ := hn p hp
      exact ⟨h4, ⟨e3, e4⟩, Int.natCast_nonneg _, by show p.2.2.2 - 1 = (n : Int); omega⟩
    obtain ⟨a, _, ha2, ha3, ha4, ha5⟩ := firstA_some (f := canP g.2.2 mark) (stp := stepF mark) (lv := leav g.2.2) (now := now) g.1.toNat 0 (by
      obtain ⟨p, hp⟩ := List.exists_mem_of_ne_nil _ hne
      obtain ⟨h1, ⟨p0, p1⟩, p2, p3⟩ := hn p hp
      have h1' := h1
      unfold canP at h1
      rw [p3, show ((n + 1 : Nat) : Int).toNat = n + 1 by omega] at h1
      obtain ⟨u, hu, hul, hc, hb⟩ := (canF_iff hv h16 _ _ p0 p1).1 h1
      cases u with
      | nil => simp at hu
      | cons c u =>
        have hcl := hul c (List.mem_cons_self ..)
        have hgc : goes g mark now (c :: u) := ⟨hul, p, hp, hc, hb⟩
        obtain ⟨_, q, hq, _⟩ := (goes_cons hv h16 hn1 hcl (by simpa using hu)).1 hgc
        obtain ⟨l1, l2, l3⟩ := lets_lab hv h16 hcl
        refine ⟨(lab c).toNat, Nat.zero_le _, by omega, fun e => ?_⟩
        rw [show (((lab c).toNat : Nat) : Int) = lab c by omega] at e
        rw [e] at hq
        cases hq)
    have haL : (a : Int) < g.1 := by omega
    obtain ⟨q1, q2, q3⟩ := grow_spec hv h16 n _ ha3 (hgo a haL ha3)
    have hG : growF (canP g.2.2 mark) (stepF mark) (leav g.2.2) g.1 (n + 1) now = letB (a : Int) :: growF (canP g.2.2 mark) (stepF mark) (leav g.2.2) g.1 n (aft (canP g.2.2 mark) (stepF mark) (leav g.2.2) now (a : Int)) := by
      conv => lhs; unfold growF
      rw [List.range_eq_range', ha4]
    rw [hG]
    obtain ⟨m1, m2⟩ := letB_mem hv h16 (Int.natCast_nonneg a) haL
    refine ⟨by rw [List.length_cons, q1], (goes_cons hv h16 hn1 m1 q1).2 (by rw [m2]; exact q2), fun v hv1 hv2 hlt => ?_⟩
    cases v with
    | nil => simp at hv1
    | cons d v =>
      have hd := hv2.1 d (List.mem_cons_self ..)
      have hv3 := (goes_cons hv h16 hn1 hd (by simpa using hv1)).1 hv2
      obtain ⟨l1, l2, l3⟩ := lets_lab hv h16 hd
      have hda : a ≤ (lab d).toNat := by
        apply Classical.byContradiction
        intro hno
        have := ha5 (lab d).toNat (Nat.zero_le _) (by omega)
        rw [show (((lab d).toNat : Nat) : Int) = lab d by omega] at this
        obtain ⟨_, q, hq, _⟩ := hv3
        rw [this] at hq
        cases hq
      rcases List.cons_lt_cons_iff.1 hlt with h | ⟨h1, h2⟩
      · have := lets_lt_lab hv h16 hd m1 h
        rw [m2] at this
        omega
      · have : lab d = (a : Int) := by rw [h1, m2]
        rw [this] at hv3
        exact q3 v (by simpa using hv1) hv3 h2
theorem mem_startF {n : Int} {p : TStateReadBadLeft} : p ∈ startF g mark n ↔ (0 ≤ p.1 ∧ p.1 < g.2.1) ∧ p.2 = ((mark.length : Int), false, n) ∧ canP g.2.2 mark p = true := by
  unfold startF
  rw [List.mem_filter, List.mem_map]
  constructor
  · rintro ⟨⟨t, ht, rfl⟩, h⟩
    rw [List.mem_range] at ht
    exact ⟨⟨Int.natCast_nonneg _, by dsimp only; omega⟩, rfl, h⟩
  · rintro ⟨⟨h0, h1⟩, h2, h3⟩
    refine ⟨⟨p.1.toNat, List.mem_range.2 (by omega), ?_⟩, h3⟩
    obtain ⟨p1, p2⟩ := p
    dsimp only at h0 h1 h2 ⊢
    rw [h2, show ((p1.toNat : Nat) : Int) = p1 by omega]
theorem goes_start (hv : VG g) (h16 : g.1 ≤ 16) {n : Nat} {u : List UInt8} (hu : u.length = n) : goes g mark (startF g mark n) u ↔ (u ∈ allW (lets g) n ∧ accB g u = true) ∧ badU mark u = true := by
  unfold goes accB badU
  rw [mem_allW, decide_eq_true_eq, can_iff hv u (upto_ok g)]
  constructor
  · rintro ⟨h1, p, hp, h2, h3⟩
    obtain ⟨⟨p0, p1⟩, p2, p3⟩ := mem_startF.1 hp
    refine ⟨⟨⟨hu, h1⟩, p.1, mem_upto.2 ⟨p0, p1⟩, h2⟩, ?_⟩
    rw [p2] at h3
    exact h3
  · rintro ⟨⟨⟨_, h1⟩, s, hs, h2⟩, h3⟩
    obtain ⟨s0, s1⟩ := mem_upto.1 hs
    refine ⟨h1, (s, (mark.length : Int), false, (n : Int)), mem_startF.2 ⟨⟨s0, s1⟩, rfl, ?_⟩, h2, h3⟩
    unfold canP
    dsimp only
    rw [Int.toNat_natCast]
    exact (canF_iff hv h16 n _ s0 s1).2 ⟨u, hu, h1, h2, h3⟩
def badsW (g : Gr) (mark : List UInt8) (n : Nat) : List (List UInt8) := ((allW (lets g) n).filter (accB g)).filter (badU mark)
theorem badF_eq (hv : VG g) (h16 : g.1 ≤ 16) (n : Nat) : badF g mark n = ((badsW g mark n).headD [], decide (badsW g mark n ≠ [])) := by
  have hmem : ∀ u, u ∈ badsW g mark n ↔ u.length = n ∧ goes g mark (startF g mark n) u := fun u => by
    unfold badsW
    rw [List.mem_filter, List.mem_filter]
    constructor
    · intro h
      have hl := (mem_allW.1 h.1.1).1
      exact ⟨hl, (goes_start hv h16 hl).2 h⟩
    · rintro ⟨hl, h⟩
      exact (goes_start hv h16 hl).1 h
  have hasc : (badsW g mark n).Pairwise (· < ·) := ((allW_asc (lets_asc g) n).filter _).filter _
  unfold badF
  by_cases hs : startF g mark n = []
  · rw [if_pos hs]
    have : badsW g mark n = [] := List.eq_nil_iff_forall_not_mem.2 fun u hu => by
      obtain ⟨_, _, p, hp, _⟩ := (hmem u).1 hu
      rw [hs] at hp
      cases hp
    rw [this]
    rfl
  · rw [if_neg hs, Int.toNat_natCast]
    obtain ⟨q1, q2, q3⟩ := grow_spec hv h16 n (startF g mark n) hs (fun p hp => by
      obtain ⟨h1, h2, h3⟩ := mem_startF.1 hp
      refine ⟨h3, h1, ?_, ?_⟩
      · rw [h2]; exact Int.natCast_nonneg _
      · rw [h2])
    generalize growF (canP g.2.2 mark) (stepF mark) (leav g.2.2) g.1 n (startF g mark n) = u at q1 q2 q3
    have hu := (hmem u).2 ⟨q1, q2⟩
    cases hb : badsW g mark n with
    | nil => rw [hb] at hu; cases hu
    | cons v l =>
      have hv1 := (hmem v).1 (by rw [hb]; exact List.mem_cons_self ..)
      have e : u = v := by
        rw [hb] at hu hasc
        rcases List.mem_cons.1 hu with e | hu
        · exact e
        · exact absurd ((List.pairwise_cons.1 hasc).1 u hu) (q3 v hv1.1 hv1.2)
      subst e
      simp
end
end Go.AW

/- What Valid, Bad and Free of the program return. -/
namespace Go.AW
open Go
set_option linter.unusedVariables false
set_option linter.unusedSimpArgs false
def MOk54 (g : Gr) (mark : List UInt8) : Prop := VG g ∧ g.1 ≤ 16 ∧ mark ≠ [] ∧ mark.length ≤ 32 ∧ ∀ c ∈ mark, c ∈ lets g
theorem check54_tot (g : Gr) (mark : List UInt8) : ∃ e, m_syncmark_check g mark = some e ∧ (e = 0 ↔ MOk54 g mark) := by
  unfold m_syncmark_check MOk54
  obtain ⟨e, he, hz⟩ := Check_tot g
  obtain ⟨f, hf, hy⟩ := wcheck g.1 mark
  rw [Check_ref, he, Option.bind_some]
  by_cases h0 : e = 0
  case neg =>
    rw [if_pos h0]
    exact ⟨1, rfl, ⟨fun h => absurd h (by decide), fun h => absurd (hz.2 h.1) h0⟩⟩
  have hv := hz.1 h0
  rw [if_neg (by omega)]
  by_cases h1 : 16 < g.1
  · rw [if_pos h1]
    exact ⟨12, rfl, ⟨fun h => absurd h (by decide), fun h => by have := h.2.1; omega⟩⟩
  rw [if_neg h1]
  by_cases h2 : mark = []
  · rw [if_pos h2]
    exact ⟨5, rfl, ⟨fun h => absurd h (by decide), fun h => absurd h2 h.2.2.1⟩⟩
  rw [if_neg h2]
  by_cases h3 : 32 < (mark.length : Int)
  · rw [if_pos h3]
    exact ⟨4, rfl, ⟨fun h => absurd h (by decide), fun h => by have := h.2.2.2.1; omega⟩⟩
  rw [if_neg h3, hf]
  refine ⟨f, rfl, hy.trans ⟨fun h => ⟨hv, by omega, h2, by omega, h.2.2⟩, fun h => ⟨⟨hv.l1, by omega⟩, by omega, h.2.2.2.2⟩⟩⟩
theorem checkNumber54_tot (g : Gr) (mark : List UInt8) (n : Int) : ∃ e, m_syncmark_checkNumber g mark n = some e ∧ (e = 0 ↔ MOk54 g mark ∧ 0 ≤ n ∧ n ≤ 4096) ∧ (∀ f, m_syncmark_check g mark = some f → f ≠ 0 → e = f) ∧ (MOk54 g mark → e = if n < 0 ∨ 4096 < n then 2 else 0) := by
  obtain ⟨e, he, hz⟩ := check54_tot g mark
  unfold m_syncmark_checkNumber
  rw [he, Option.bind_some]
  by_cases h0 : e = 0
  case neg =>
    rw [if_pos h0]
    refine ⟨e, rfl, ⟨fun h => absurd h h0, fun h => absurd (hz.2 h.1) h0⟩, fun f hf _ => (Option.some.inj hf), fun h => absurd (hz.2 h) h0⟩
  rw [if_neg (by omega)]
  have hm := hz.1 h0
  simp only [jp]
  by_cases h1 : n < 0
  · rw [if_pos h1, if_pos trivial]
    exact ⟨2, rfl, ⟨fun h => absurd h (by decide), fun h => by omega⟩, fun f hf h => absurd (Option.some.inj hf ▸ h0) h, fun _ => (if_pos (.inl h1)).symm⟩
  rw [if_neg h1]
  by_cases h2 : 4096 < n
  · rw [if_pos (decide_eq_true h2)]
    exact ⟨2, rfl, ⟨fun h => absurd h (by decide), fun h => by omega⟩, fun f hf h => absurd (Option.some.inj hf ▸ h0) h, fun _ => (if_pos (.inr h2)).symm⟩
  · rw [if_neg (by rw [decide_eq_true_eq]; exact h2)]
    exact ⟨0, rfl, ⟨fun _ => ⟨hm, by omega, by omega⟩, fun _ => rfl⟩, fun f hf h => absurd (Option.some.inj hf ▸ h0) h, fun _ => (if_neg (by omega)).symm⟩
theorem lets_sub (g : Gr) {c : UInt8} (h : c ∈ lets g) : c ∈ letters := List.mem_of_mem_take h
theorem bad_eq {g : Gr} {mark : List UInt8} (h : MOk54 g mark) {n : Nat} (hn : n ≤ 4096) : m_syncmark_bad g mark (n : Int) = some ((badsW g mark n).headD [], decide (badsW g mark n ≠ [])) := by
  obtain ⟨hv, h16, h1, h2, h3⟩ := h
  unfold m_syncmark_bad
  have hok : badOk g mark (n : Int) := by
    have := hv.l1
    have := hv.s0
    have := hv.s1
    refine ⟨⟨by omega, h16⟩, ⟨by omega, by omega⟩, hv.el, fun x hx => ?_, h1, by omega, fun c hc => lets_sub g (h3 c hc), by omega, by omega⟩
    obtain ⟨e1, e2, e3, e4, e5, e6⟩ := hv.ed x hx
    exact ⟨⟨e1, e2⟩, ⟨e5, e6⟩, e3, e4⟩
  rw [if_pos hok, badF_eq hv h16]
theorem Valid_eq {g : Gr} {mark : List UInt8} (h : MOk54 g mark) {n : Nat} (hn : n ≤ 4096) : m_syncmark_Valid g mark (n : Int) = some (decide (badsW g mark n = []), 0) := by
  obtain ⟨e, he, hz, _⟩ := checkNumber54_tot g mark n
  unfold m_syncmark_Valid
  rw [he, Option.bind_some, if_neg (by rw [hz.2 ⟨h, by omega, by omega⟩]; decide), bad_eq h hn, Option.bind_some]
  simp
theorem Bad_eq {g : Gr} {mark : List UInt8} (h : MOk54 g mark) {n : Nat} (hn : n ≤ 4096) : m_syncmark_Bad g mark (n : Int) = some ((badsW g mark n).headD [], decide (badsW g mark n ≠ []), 0) := by
  obtain ⟨e, he, hz, _⟩ := checkNumber54_tot g mark n
  unfold m_syncmark_Bad
  rw [he, Option.bind_some, if_neg (by rw [hz.2 ⟨h, by omega, by omega⟩]; decide), bad_eq h hn, Option.bind_some]
theorem Free_eq {g : Gr} {mark : List UInt8} (h : MOk54 g mark) : m_syncmark_Free g mark = some (!accB g mark, 0) := by
  obtain ⟨e, he, hz⟩ := check54_tot g mark
  unfold m_syncmark_Free
  rw [he, Option.bind_some, if_neg (by rw [hz.2 h]; decide), Accepts_eq h.1 h.2.1 (w := mark) ⟨by have := h.2.2.2.1; omega, h.2.2.2.2⟩, Option.bind_some]
  rfl
end Go.AW

/- Models, printed by lk.py. -/
namespace Go.AW
open Go
set_option linter.unusedVariables false
noncomputable def m_ref10_Great (p0 : TLabelsStatesEdges) : Option (Bool) :=
 jp (fun (a1 : Bool) =>
   some a1)
   fun k3 =>
  if 8 < p0.2.1 then
   if p0.2.1 ≤ 64 then
    k3 true
   else
    if 30 < ((p0.2.2).length : Int) then
     if ((p0.2.2).length : Int) ≤ 1024 then
      k3 true
     else
      k3 (decide (1027 < ((p0.2.2).length : Int)))
    else
     k3 (decide (1027 < ((p0.2.2).length : Int)))
  else
   if 30 < ((p0.2.2).length : Int) then
    if ((p0.2.2).length : Int) ≤ 1024 then
     k3 true
    else
     k3 (decide (1027 < ((p0.2.2).length : Int)))
   else
    k3 (decide (1027 < ((p0.2.2).length : Int)))

noncomputable def m_law54_great (p0 : TLabelsStatesEdges) : Option (Bool) :=
 jp (fun (a1 : Bool) =>
   some a1)
   fun k3 =>
  (m_ref10_Great p0).bind fun x4 =>
  if x4 = true then
   k3 true
  else
   if 3 < p0.1 then
    k3 (decide (p0.1 ≤ 16))
   else
    k3 false

noncomputable def m_law54_fine (p0 : TLabelsStatesEdges) (p1 : List UInt8) : Option (Bool) :=
 jp (fun (a1 : Bool) =>
   some a1)
   fun k3 =>
  (m_law54_great p0).bind fun x4 =>
  if (!x4) = true then
   (m_ref09_Check p0).bind fun x6 =>
   if x6 = 0 then
    if p0.1 ≤ 3 then
     if p1 ≠ ([] : List UInt8) then
      if ((p1).length : Int) ≤ 6 then
       (m_word_Check p0.1 p1).bind fun x8 =>
       k3 (decide (x8 = 0))
      else
       k3 false
     else
      k3 false
    else
     k3 false
   else
    k3 false
  else
   k3 false

end Go.AW

/- Models, printed by lk.py. -/
namespace Go.AW
open Go
set_option linter.unusedVariables false
end Go.AW

/- Which graphs and marks the statements examine; the law of marks that are no words. -/
namespace Go.AW
open Go
set_option linter.unusedVariables false
set_option linter.unusedSimpArgs false
theorem great54_tot (g : Gr) : ∃ b, m_law54_great g = some b ∧ (b = false → VG g → g.2.1 ≤ 8 ∧ g.2.2.length ≤ 30 ∧ (g.1 ≤ 16 → g.1 ≤ 3)) := by
  have h10 : ∃ b, m_ref10_Great g = some b ∧ (b = false → VG g → g.2.1 ≤ 8 ∧ g.2.2.length ≤ 30) := by
    unfold m_ref10_Great
    simp only [jp]
    by_cases h1 : 8 < g.2.1
    · rw [if_pos h1]
      by_cases h2 : g.2.1 ≤ 64
      · rw [if_pos h2]; exact ⟨true, rfl, by simp⟩
      · rw [if_neg h2]
        have hno : ¬ VG g := fun hv => h2 hv.s1
        by_cases h3 : 30 < (g.2.2.length : Int)
        · rw [if_pos h3]
          by_cases h4 : (g.2.2.length : Int) ≤ 1024
          · rw [if_pos h4]; exact ⟨_, rfl, fun _ hv => absurd hv hno⟩
          · rw [if_neg h4]; exact ⟨_, rfl, fun _ hv => absurd hv hno⟩
        · rw [if_neg h3]; exact ⟨_, rfl, fun _ hv => absurd hv hno⟩
    · rw [if_neg h1]
      by_cases h3 : 30 < (g.2.2.length : Int)
      · rw [if_pos h3]
        by_cases h4 : (g.2.2.length : Int) ≤ 1024
        · rw [if_pos h4]; exact ⟨true, rfl, by simp⟩
        · rw [if_neg h4]; exact ⟨_, rfl, fun _ hv => absurd hv.el (by omega)⟩
      · rw [if_neg h3]; exact ⟨_, rfl, fun _ _ => by omega⟩
  obtain ⟨b, hb, hb2⟩ := h10
  unfold m_law54_great
  simp only [jp, hb, Option.bind_some]
  cases b with
  | true => rw [if_pos rfl]; exact ⟨true, rfl, by simp⟩
  | false =>
    rw [if_neg Bool.false_ne_true]
    by_cases h3 : 3 < g.1
    · rw [if_pos h3]
      exact ⟨_, rfl, fun h hv => ⟨(hb2 rfl hv).1, (hb2 rfl hv).2, fun h16 => absurd h16 (of_decide_eq_false h)⟩⟩
    · rw [if_neg h3]
      exact ⟨_, rfl, fun h hv => ⟨(hb2 rfl hv).1, (hb2 rfl hv).2, fun _ => by omega⟩⟩
theorem fine54_tot (g : Gr) (mark : List UInt8) : ∃ b, m_law54_fine g mark = some b ∧ (b = true → MOk54 g mark ∧ g.1 ≤ 3 ∧ mark.length ≤ 6 ∧ g.2.1 ≤ 8 ∧ g.2.2.length ≤ 30) := by
  obtain ⟨b, hb, hb2⟩ := great54_tot g
  obtain ⟨e, he, hz⟩ := Check_tot g
  obtain ⟨f, hf, hy⟩ := wcheck g.1 mark
  unfold m_law54_fine
  simp only [jp, hb, he, hf, Option.bind_some]
  cases b with
  | true => exact ⟨false, rfl, by simp⟩
  | false =>
    rw [if_pos (by decide)]
    by_cases h0 : e = 0
    case neg => rw [if_neg h0]; exact ⟨false, rfl, by simp⟩
    rw [if_pos h0]
    have hv := hz.1 h0
    obtain ⟨g1, g2, _⟩ := hb2 rfl hv
    by_cases h1 : g.1 ≤ 3
    case neg => rw [if_neg h1]; exact ⟨false, rfl, by simp⟩
    rw [if_pos h1]
    by_cases h2 : mark = []
    · rw [if_neg (fun h => h h2)]; exact ⟨false, rfl, by simp⟩
    rw [if_pos h2]
    by_cases h3 : (mark.length : Int) ≤ 6
    case neg => rw [if_neg h3]; exact ⟨false, rfl, by simp⟩
    rw [if_pos h3]
    refine ⟨_, rfl, fun h => ?_⟩
    have := hy.1 (of_decide_eq_true h)
    exact ⟨⟨hv, by omega, h2, by omega, this.2.2⟩, h1, by omega, g1, g2⟩
end Go.AW

/- Models, printed by lk.py. -/
namespace Go.AW
open Go
set_option linter.unusedVariables false
end Go.AW

/- Overlaps, and where marks stand in a mark behind a mark. -/
namespace Go.AW
open Go
set_option linter.unusedVariables false
set_option linter.unusedSimpArgs false
def ovB (mark : List UInt8) (n : Nat) : List Int := ((List.range n).filter fun k => decide (1 ≤ k) && (mark.take k).isSuffixOf mark).map Int.ofNat
def ovL (mark : List UInt8) : List Int := ovB mark (mark.length - 1 + 1)
theorem ovB_succ (mark : List UInt8) {k : Nat} (hk : 1 ≤ k) : ovB mark (k + 1) = ovB mark k ++ if (mark.take k).isSuffixOf mark = true then [(k : Int)] else [] := by
  unfold ovB
  rw [List.range_succ, List.filter_append, List.map_append]
  congr 1
  rw [List.filter_cons, decide_eq_true hk, Bool.true_and]
  split <;> rfl
theorem ovB_len (mark : List UInt8) (n : Nat) : (ovB mark n).length ≤ n := by
  unfold ovB
  rw [List.length_map]
  have := List.length_filter_le (fun k => decide (1 ≤ k) && (mark.take k).isSuffixOf mark) (List.range n)
  rw [List.length_range] at this
  exact this
theorem Overlaps_eq {mark : List UInt8} (hm : mark.length ≤ 1000000) : m_syncmark_Overlaps mark = some (ovL mark) := by
  unfold m_syncmark_Overlaps
  refine bindL (loop_is (fun i => (((i + 1 : Nat) : Int), ovB mark (i + 1))) (mark.length - 1) (ovL mark) (fun i hi => ?_) ?_ rfl) rfl
  · dsimp only
    rw [if_pos (by omega)]
    simp only [jp]
    rw [if_pos ⟨Int.le_refl _, by omega, by omega⟩, HasSuffix_eq (by omega), Option.bind_some, Int.toNat_natCast, nx (n := 1000001) (by omega) (by omega), ovB_succ mark (k := i + 1) (by omega)]
    have hb := ovB_len mark (i + 1)
    rw [show ((mark.take (i + 1)).drop (0 : Int).toNat) = mark.take (i + 1) from rfl]
    by_cases h : (mark.take (i + 1)).isSuffixOf mark = true
    · rw [if_pos h, if_pos h, if_pos ⟨by simp; omega, by simp; have : 2000000 ≤ maxLen := by decide
                                                         omega⟩]
    · rw [if_neg h, if_neg h, List.append_nil]
  · dsimp only
    rw [if_neg (by omega)]
    rfl
theorem occL_len (w u : List UInt8) : (occL w u).length ≤ w.length + 1 := by
  unfold occL occB
  rw [List.length_map]
  have := List.length_filter_le (fun i => u.isPrefixOf (w.drop i)) (List.range (w.length + 1))
  rw [List.length_range] at this
  exact this
theorem Find_eq {w u : List UInt8} (hw : w.length ≤ 1000000) (hu : u.length ≤ 1000000) : m_word_Find w u = some (occL w u) := by
  unfold m_word_Find y_word_occurrences
  rw [if_pos ⟨by omega, by omega⟩, Option.bind_some]
  have hl := occL_len w u
  have hgen : ∀ (L acc : List Int), acc.length + L.length ≤ 1000001 → forL (S := (List Int)) (X := Unit) (fun a5 (x7 : Int) =>
     if fits 8 ((a5 : List Int).length + ([x7]).length) then
      some (Stp.next (a5 ++ [x7]))
     else none) L acc = some (.go (acc ++ L)) := by
    intro L
    induction L with
    | nil => intro acc _; rw [List.append_nil]; rfl
    | cons x L ih =>
      intro acc h
      rw [List.length_cons] at h
      unfold forL
      rw [if_pos ⟨by simp; omega, by simp; have : 2000000 ≤ maxLen := by decide
                                     omega⟩]
      dsimp only
      rw [ih (acc ++ [x]) (by rw [List.length_append, List.length_singleton]; omega), List.append_assoc]
      rfl
  rw [hgen (occL w u) [] (by rw [List.length_nil]; omega), List.nil_append]
  rfl
theorem Occurs_eq {w u : List UInt8} (hw : w.length ≤ 1000000) (hu : u.length ≤ 1000000) : m_syncmark_Occurs u w = some (occL w u) := by
  unfold m_syncmark_Occurs
  rw [Find_eq hw hu]
  rfl
end Go.AW

/- The anchor of chapter 54. -/
namespace Go.AW
open Go
set_option linter.unusedVariables false
def gEx54 : Gr := (2, 2, [(0, 0, 0), (0, 1, 1), (1, 0, 0)])
theorem gEx54_ok : VG gEx54 where
  l1 := by decide
  l2 := by decide
  s0 := by decide
  s1 := by decide
  el := by decide
  ed := by decide
  ord := fun i h => match i, h with
    | 0, _ => by show cmp3 ((0, 0, 0) : Int × Int × Int) (0, 1, 1) < 0; decide
    | 1, _ => by show cmp3 ((0, 1, 1) : Int × Int × Int) (1, 0, 0) < 0; decide
    | n + 2, h => absurd h (by show ¬ n + 2 + 1 < 3; omega)
theorem mEx54_ok {mark : List UInt8} (h1 : mark ≠ []) (h2 : mark.length ≤ 32) (h3 : ∀ c ∈ mark, c ∈ lets gEx54) : MOk54 gEx54 mark := ⟨gEx54_ok, by decide, h1, h2, h3⟩
theorem awake54_eq : m_law54_awakeG = some true := by
  unfold m_law54_awakeG
  have v1 := Valid_eq (mEx54_ok (mark := [49, 49]) (by decide) (by decide) (by decide)) (n := 1) (by decide)
  have v2 := Bad_eq (mEx54_ok (mark := [49, 49]) (by decide) (by decide) (by decide)) (n := 1) (by decide)
  have v3 := Valid_eq (mEx54_ok (mark := [49, 49, 48]) (by decide) (by decide) (by decide)) (n := 1) (by decide)
  have v4 := Free_eq (mEx54_ok (mark := [49, 49, 48]) (by decide) (by decide) (by decide))
  have b1 : badsW gEx54 [49, 49] 1 = [[49]] := by decide +kernel
  have b2 : badsW gEx54 [49, 49, 48] 1 = [] := by decide +kernel
  have b3 : accB gEx54 [49, 49, 48] = false := by decide +kernel
  rw [b1] at v1 v2
  rw [b2] at v3
  rw [b3] at v4
  rw [show m_syncmark_Valid (2, 2, [(0, 0, 0), (0, 1, 1), (1, 0, 0)]) [49, 49] 1 = some (false, 0) from v1, show m_syncmark_Bad (2, 2, [(0, 0, 0), (0, 1, 1), (1, 0, 0)]) [49, 49] 1 = some ([49], true, 0) from v2, show m_syncmark_Valid (2, 2, [(0, 0, 0), (0, 1, 1), (1, 0, 0)]) [49, 49, 48] 1 = some (true, 0) from v3, show m_syncmark_Free (2, 2, [(0, 0, 0), (0, 1, 1), (1, 0, 0)]) [49, 49, 48] = some (true, 0) from v4]
  rw [Overlaps_eq (by decide), Occurs_eq (by decide) (by decide), show ovL [48, 49, 49, 48] = [1] by decide +kernel, show occL [49, 49, 49, 49, 49] [49, 49] = [0, 1, 2, 3] by decide +kernel]
  simp only [jp, Option.bind_some]
  rw [EqI_eq (by decide), EqI_eq (by decide)]
  rfl
end Go.AW

/- The anchor of chapter 54. -/
namespace Go.AW
open Go Go.Proofs
theorem w_law54_awake {r : Bool} (h : m_law54_awake = some r) : Pure Tryz.prog 9 [] (· = HV.bool r) := by
  cases h
  exact w_law54_awakeG awake54_eq
end Go.AW

/- slices.Clone and slices.Delete of edges. -/
namespace Go.AW
open Go
def m_slices_Clone_Lapi_Edge_api_Edge (l : List TFromLabelTo) : Option (List TFromLabelTo) := if l.length ≤ 1099511627776 then some l else none
end Go.AW

/- slices.Delete and slices.Clone of edges. -/
namespace Go.Proofs
open Go Go.Shelf Go.RowKit Go.Lib Go.Sort
def Tryz.delE_ren : Go.Shelf.Ren := ⟨fun | 45 => 19 | n => n, fun | 22 => 22 | 23 => 44 | 3 => 3 | 4 => 4 | 0 => 0 | n => n, fun | n => n⟩
theorem Tryz.delE_bears : Bears Tryz.prog (Tryz.delE_ren.f 45) (SlBodyN.n45 Tryz.delE_ren) := ⟨"slices.Delete[[]groove/api.Edge,groove/api.Edge]", by decide, Tryz.func19.trans (congrArg some (by kernel_rfl))⟩
def Tryz.cloneE_ren : Go.Shelf.Ren := ⟨fun | 41 => 20 | n => n, fun | 22 => 22 | 23 => 44 | 4 => 4 | n => n, fun | n => n⟩
theorem Tryz.cloneE : Go.Proofs.SlLaysE0.n41 Tryz.prog Tryz.cloneE_ren where
  mixed := by kernel_rfl
  f41 := ⟨"slices.Clone[[]groove/api.Edge,groove/api.Edge]", by decide, Tryz.func20.trans (congrArg some (by kernel_rfl))⟩
  t4 := Tryz.underlying4
  a4 := Tryz.isAgg4
  z4 := Tryz.sizeOf4
  v4 := Tryz.zeroValue4
  t22 := Tryz.underlying22
  a22 := Tryz.isAgg22
  z22 := Tryz.sizeOf22
  v22 := Tryz.zeroValue22
set_option linter.unusedVariables false
variable {P : Program}
theorem clear3 (w : World) (t e ty : TypeId) (ht : P.underlying t = some (.slice e)) (hv : ∀ w, (zeroValue e).run P w = .ok (.agg #[.int .i64 0, .int .i64 0, .int .i64 0]) w) (b o n c : Nat) (hn : 0 < n)
    (hc : ∀ j, j < n * 3 → (w.cell? ⟨b, o + j, none⟩).isSome = true) (hf : ∀ j, j < n * 3 → w.frozen? ⟨b, o + j, none⟩ = false) :
    (Builtin.clear_ #[t] ty #[.slice (some ⟨b, o, none⟩) n c]).run P w = .ok (.tuple #[]) (w.setCells b o (List.replicate (n * 3) (.int .i64 0))) := by
  have hzc : (Builtin.zeroCells (Value.agg #[.int .i64 0, .int .i64 0, .int .i64 0]).cells n).toList = List.replicate (n * 3) (.int .i64 0) := by
    simp only [Builtin.zeroCells, Value.cells]
    apply List.ext_getElem
    · simp
    · intro i h1 h2
      simp only [Array.getElem_toList, Array.getElem_map, Array.getElem_range, List.getElem_replicate]
      have : i % 3 = 0 ∨ i % 3 = 1 ∨ i % 3 = 2 := by omega
      show (#[Value.int .i64 0, .int .i64 0, .int .i64 0] : Array Value)[i % 3]! = _
      rcases this with h | h | h <;> rw [h] <;> rfl
  have hst := run_storeCells_cells (P := P) b o (List.replicate (n * 3) (.int .i64 0)) 0 w (by simpa using hc) (by simpa using hf) (by intro v hv'; rw [List.eq_of_mem_replicate hv']; rfl)
  simp only [Nat.add_zero] at hst
  obtain ⟨m, rfl⟩ : ∃ m, n = m + 1 := ⟨n - 1, by omega⟩
  simp [Builtin.clear_, run_underlying ht, hv, hzc, hst]
variable {ρ : Ren} {α : Type} [Inhabited α]
set_option maxHeartbeats 4000000 in
set_option maxRecDepth 1000000 in
theorem del3 {celV : α → Value} (celV_one : OneCell celV) (cel0 : α) (hc0 : celV cel0 = .int .i64 0) (mixed : P.follows .mixedOrders = true) (f45 : Bears P (ρ.f 45) (SlBodyN.n45 ρ))
    (t0 : P.underlying (ρ.t 0) = some (TypeDesc.tuple #[])) (a0 : ∀ w, (isAgg (ρ.t 0)).run P w = .ok false w) (z0 : ∀ w, (Go.sizeOf (ρ.t 0)).run P w = .ok 1 w) (v0 : ∀ w, (zeroValue (ρ.t 0)).run P w = .ok (Value.tuple #[]) w)
    (t3 : P.underlying (ρ.t 3) = some (TypeDesc.int IntKind.i64)) (a3 : ∀ w, (isAgg (ρ.t 3)).run P w = .ok false w) (z3 : ∀ w, (Go.sizeOf (ρ.t 3)).run P w = .ok 1 w) (v3 : ∀ w, (zeroValue (ρ.t 3)).run P w = .ok (Value.int IntKind.i64 0) w)
    (t4 : P.underlying (ρ.t 4) = some (TypeDesc.bool)) (a4 : ∀ w, (isAgg (ρ.t 4)).run P w = .ok false w) (z4 : ∀ w, (Go.sizeOf (ρ.t 4)).run P w = .ok 1 w) (v4 : ∀ w, (zeroValue (ρ.t 4)).run P w = .ok (Value.bool false) w)
    (t22 : P.underlying (ρ.t 22) = some (TypeDesc.slice (ρ.t 23))) (a22 : ∀ w, (isAgg (ρ.t 22)).run P w = .ok false w) (z22 : ∀ w, (Go.sizeOf (ρ.t 22)).run P w = .ok 1 w) (v22 : ∀ w, (zeroValue (ρ.t 22)).run P w = .ok (Value.slice none 0 0) w)
    (z23 : ∀ w, (Go.sizeOf (ρ.t 23)).run P w = .ok 3 w) (v23 : ∀ w, (zeroValue (ρ.t 23)).run P w = .ok (.agg #[.int .i64 0, .int .i64 0, .int .i64 0]) w)
    (i0 : TypeInfo) (hi0 : P.info? (ρ.t 23) = some i0) (hz1 : i0.size = 3)
    (blk off cap n i j : Nat) (d : Array α) (w : World) (hd : d.size = n * 3) (hH : Holds celV w blk off d) (hcap : n ≤ cap) (hm : cap ≤ 9223372036854775807) (hlt : i < j) (hj : j ≤ n) :
    Calls P (ρ.f 45) #[.slice (some ⟨blk, off, none⟩) n cap, .int .i64 i, .int .i64 j] w fun e w' => e = .returned (.slice (some ⟨blk, off, none⟩) (n - (j - i)) cap) ∧ ∃ q, w' = putRow celV (Sort.ahead w q) blk off (d.toList.take (i * 3) ++ d.toList.drop (j * 3) ++ List.replicate ((j - i) * 3) cel0).toArray := by
  -- the cells that are moved to the left
  obtain ⟨news, hnews⟩ : ∃ news, news = (d.toList.drop (j * 3)).map celV := ⟨_, rfl⟩
  have hlen : news.length = (n - j) * 3 := by rw [hnews]; simp; omega
  have hget : ∀ t, t < (n - j) * 3 → news[t]? = some (celV d[j * 3 + t]!) := by
    intro t ht
    rw [hnews, List.getElem?_map, List.getElem?_drop, Array.getElem?_toList, getElem!_pos d (j * 3 + t) (by omega), Array.getElem?_eq_getElem (by omega)]
    rfl
  obtain ⟨A, hA, hsrc⟩ : ∃ A : Addr, (if cap = j then some (⟨blk, off, none⟩ : Addr) else some ⟨blk, off + j * 3, none⟩) = some A ∧ Hid (∀ t u, news[t]? = some u → w.drew.cell? (A.add t) = some u) := by
    by_cases h : cap = j
    · refine ⟨⟨blk, off, none⟩, by simp [h], fun t u hu => ?_⟩
      have h0 : news.length = 0 := by rw [hlen]; omega
      rw [List.length_eq_zero_iff.1 h0] at hu
      simp at hu
    · refine ⟨⟨blk, off + j * 3, none⟩, by simp [h], fun t u hu => ?_⟩
      have ht : t < (n - j) * 3 := by
        have := (List.getElem?_eq_some_iff.1 hu).1
        rwa [hlen] at this
      rw [hget t ht] at hu
      rw [Addr.add_lit, show off + j * 3 + t = off + (j * 3 + t) by omega]
      exact (hH (j * 3 + t) (by omega)).1.trans hu
  have s1 : Hid (news.length = (n - j) * 3) := hlen
  have s2 : Hid (∀ u ∈ news, u.oneCell' = true) := by
    intro u hu
    rw [hnews] at hu
    obtain ⟨x, _, rfl⟩ := List.mem_map.1 hu
    exact celV_one x
  have s3 : Hid (∀ t, t < news.length → (w.drew.cell? ⟨blk, off + i * 3 + t, none⟩).isSome = true ∧ w.drew.frozen? ⟨blk, off + i * 3 + t, none⟩ = false) := by
    intro t ht
    rw [hlen] at ht
    rw [Nat.add_assoc]
    exact ⟨by show (w.cell? _).isSome = true; rw [(hH (i * 3 + t) (by omega)).1]; rfl, (hH (i * 3 + t) (by omega)).2⟩
  obtain ⟨W1, hW1⟩ : ∃ W1, W1 = w.drew.setCells blk (off + i * 3) news := ⟨_, rfl⟩
  have hW1' : W1 = putRow celV (Sort.ahead w 1) blk off (lay d (i * 3) (d.toList.drop (j * 3))) := by
    rw [hW1, hnews, ← putRow_setCells celV (Sort.ahead w 1) blk off _ d (i * 3) (by simp; omega), putRow_self celV (Sort.ahead w 1) blk off d (holds_ahead celV w 1 blk off d hH)]
    rfl
  have hH1 : Holds celV W1 blk off (lay d (i * 3) (d.toList.drop (j * 3))) := by rw [hW1']; exact holds_putRow celV _ blk off d _ (holds_ahead celV w 1 blk off d hH) (lay_size _ _ _)
  have hcl : ∀ ty, (Builtin.clear_ #[ρ.t 22] ty #[.slice (some ⟨blk, off + (i + (n - j)) * 3, none⟩) (n - (i + (n - j))) (cap - (i + (n - j)))]).run P W1 = .ok (.tuple #[]) (W1.setCells blk (off + (i + (n - j)) * 3) (List.replicate ((n - (i + (n - j))) * 3) (.int .i64 0))) :=
    fun ty => clear3 W1 _ _ ty t22 v23 blk (off + (i + (n - j)) * 3) _ _ (by omega) (fun t ht => by rw [show off + (i + (n - j)) * 3 + t = off + ((i + (n - j)) * 3 + t) by omega, (hH1 _ (by rw [lay_size]; omega)).1]; rfl) (fun t ht => by rw [show off + (i + (n - j)) * 3 + t = off + ((i + (n - j)) * 3 + t) by omega]; exact (hH1 _ (by rw [lay_size]; omega)).2)
  have X : Aside (W1 = putRow celV (Sort.ahead w 1) blk off (lay d (i * 3) (d.toList.drop (j * 3)))) := hW1'
  have hW : Hid (W1 = w.drew.setCells blk (off + i * 3) news) := hW1
  have hic : i ≤ cap := by omega
  have hjc : j ≤ cap := by omega
  have heq : ¬ i = j := by omega
  clear hW1 hW1' hH1 hH hget hnews hlen
  obtain ⟨_, _, FG⟩ := f45
  go_enter FG, SlBodyN.n45_ntmps ρ
  go_wp2_with fail
  go_region_law_o (refine step_append_room rfl (.tmp 22) (.tmp 25) (ρ.t 22) rfl (ρ.t 23) i0 3 t22 hi0 hz1 blk off i cap (by simp [Act.eval, Act.put]) A (n - j) (cap - j) news (by simp [Act.eval, Act.put]) s1.out hsrc.out s2.out (by omega) s3.out ?_; rw [← hW.out])
  go_wp2
  go_ret
  refine ⟨by rw [show n - (j - i) = i + (n - j) by omega]; rfl, 1, ?_⟩
  have hda := delete_arr d (i * 3) (j * 3) cel0 (by omega) (by omega)
  rw [show j * 3 - i * 3 = (j - i) * 3 by omega, show i * 3 + (d.size - j * 3) = (i + (n - j)) * 3 by omega] at hda
  rw [← hda, ← putRow_setCells celV _ blk off _ _ ((i + (n - j)) * 3) (by rw [lay_size]; simp; omega), ← X.out, List.map_replicate, show (n - (i + (n - j))) * 3 = (j - i) * 3 by omega, hc0]
end Go.Proofs

namespace Go.AW
open Go Go.Proofs Go.Sort Go.Lib
set_option linter.unusedVariables false
def numsE (l : List TFromLabelTo) : List Int := l.flatMap fun x => [x.1, x.2.1, x.2.2]
theorem numsE_E (l : List TFromLabelTo) : eFromLabelTo.E l = (numsE l).map (HV.int .i64) := by
  rw [eFromLabelTo.hE]
  unfold numsE
  rw [List.map_flatMap]
  rfl
theorem numsE_len : ∀ l : List TFromLabelTo, (numsE l).length = l.length * 3
  | [] => rfl
  | x :: l => by
    have := numsE_len l
    unfold numsE at this ⊢
    rw [List.flatMap_cons, List.length_append, this, List.length_cons]
    simp
    omega
theorem numsE_app (l m : List TFromLabelTo) : numsE (l ++ m) = numsE l ++ numsE m := by unfold numsE; rw [List.flatMap_append]
theorem numsE_take (l : List TFromLabelTo) {i : Nat} (h : i ≤ l.length) : (numsE l).take (i * 3) = numsE (l.take i) := by
  conv => lhs; rw [← List.take_append_drop i l, numsE_app]
  exact List.take_left' (by rw [numsE_len, List.length_take]; omega)
theorem numsE_drop (l : List TFromLabelTo) {i : Nat} (h : i ≤ l.length) : (numsE l).drop (i * 3) = numsE (l.drop i) := by
  conv => lhs; rw [← List.take_append_drop i l, numsE_app]
  exact List.drop_left' (by rw [numsE_len, List.length_take]; omega)
theorem w_delE {H : Heap} {id ver i j : Nat} {e : TypeId} {l : List TFromLabelTo} {K : HV → Heap → Prop} (hg : hget H id = some (ver, .arr 3 e ((numsE l).map (HV.int .i64)))) (hij : i < j) (hj : j ≤ l.length)
    (hK : K (.ar id ver 3 0 (l.length - (j - i))) (hset H id ver (.arr 3 e ((numsE (l.take i ++ l.drop j) ++ List.replicate ((j - i) * 3) 0).map (HV.int .i64))))) : ACall Tryz.prog 19 [.ar id ver 3 0 l.length, HV.int .i64 (i : Int), HV.int .i64 (j : Int)] H K := by
  refine ⟨enters' Tryz.func19 rfl rfl, fun μ w vs hs hr _ => ?_⟩
  obtain ⟨x, xs, rfl, hr, y, ys, rfl, ⟨rfl, _⟩, z, zs, rfl, ⟨rfl, _⟩, hn⟩ := hr
  cases hn
  obtain ⟨lo, hl, hor⟩ := hs.has _ _ _ hg
  have hnl := numsE_len l
  rcases hr with ⟨lo', hl', h⟩ | ⟨hd, _⟩
  · rw [hl] at hl'
    cases hl'
    rcases h with ⟨rfl, rfl, h0, _⟩ | ⟨b, cap, cur, e', rfl, rfl, hcap, hcm, hrow, hsz⟩
    · omega
    · have hor' := hor
      obtain ⟨h0, cur', vs', rest, hrow', hcl, hrl⟩ := hor
      obtain ⟨hvs, hreps⟩ := repL_ints hrl
      subst hvs
      obtain ⟨_, i0, hi0, hz1, _⟩ := ty_spec ty44
      refine (del3 (P := Tryz.prog) (ρ := Tryz.delE_ren) (celV := Value.int .i64) (fun _ => rfl) (0 : Int) rfl (by kernel_rfl) Tryz.delE_bears Tryz.underlying0 Tryz.isAgg0 Tryz.sizeOf0 Tryz.zeroValue0 Tryz.underlying3 Tryz.isAgg3 Tryz.sizeOf3 Tryz.zeroValue3 Tryz.underlying4 Tryz.isAgg4 Tryz.sizeOf4 Tryz.zeroValue4 Tryz.underlying22 Tryz.isAgg22 Tryz.sizeOf22 Tryz.zeroValue22 Tryz.sizeOf44 Tryz.zeroValue44 i0 hi0 hz1 b 0 cap l.length i j (numsE l).toArray w (by simpa using hnl) (holds_row hrow' hcl) hcap (by have := hcm; simp only [maxLen] at this; omega) hij hj).mono ?_
      · rintro e2 w' ⟨rfl, n, rfl⟩
        have hlist : ((numsE l).toArray.toList.take (i * 3) ++ (numsE l).toArray.toList.drop (j * 3) ++ List.replicate ((j - i) * 3) (0 : Int)) = numsE (l.take i ++ l.drop j) ++ List.replicate ((j - i) * 3) 0 := by
          rw [numsE_app, ← numsE_take l (by omega), ← numsE_drop l hj]
        rw [hlist]
        have hlen : (numsE (l.take i ++ l.drop j) ++ List.replicate ((j - i) * 3) (0 : Int)).length = (numsE l).length := by
          rw [List.length_append, numsE_len, List.length_append, List.length_take, List.length_drop, List.length_replicate, hnl]; omega
        obtain ⟨h1, h2⟩ := put_world (f := HV.int .i64) (fun _ => rfl) hs hg hl (d := numsE (l.take i ++ l.drop j) ++ List.replicate ((j - i) * 3) 0) (fun x hx => by
          rcases List.mem_append.1 hx with hx | hx
          · rw [numsE_app, ← numsE_take l (by omega), ← numsE_drop l hj] at hx
            rcases List.mem_append.1 hx with hx | hx
            · exact hreps x (List.mem_of_mem_take hx)
            · exact hreps x (List.mem_of_mem_drop hx)
          · rw [List.eq_of_mem_replicate hx]; exact ⟨rfl, rfl⟩) hor' (fun vs hv => (repL_ints hv).1) hlen n
        refine ⟨_, .ar id ver 3 0 (l.length - (j - i)), _, μ, rfl, hK, h1, .inl ⟨some b, hl, .inr ⟨b, cap, putCells (Value.int .i64) 0 (numsE (l.take i ++ l.drop j) ++ List.replicate ((j - i) * 3) 0).toArray cur, e', rfl, rfl, by omega, hcm, ?_, ?_⟩⟩, h2⟩
        · obtain ⟨lo, hi, hbk, hfr⟩ := hrow
          refine ⟨lo, hi, ?_, by simpa [putCells] using hfr⟩
          show (w.heap.modify b _)[b]? = _
          rw [Array.getElem?_modify, if_pos rfl, hbk]
          rfl
        · simp only [putCells, Array.size_mapIdx]; exact hsz
  · exact absurd hl (hd.2 lo)
theorem c_delE {H H' : Heap} {id ver n i j : Nat} {e : TypeId} {l : List TFromLabelTo} {K : HV → Heap → Prop} (hn : n = l.length) (hg : hget H id = some (ver, .arr 3 e (eFromLabelTo.E l))) (hle : ∀ j x, hget H' j = some x → hget H j = some x) (hno : hget H' id = none) (hij : i < j) (hj : j ≤ l.length)
    (hK : K (slE eFromLabelTo (l.take i ++ l.drop j)) H') : ACall Tryz.prog 19 [.ar id ver 3 0 n, HV.int .i64 (i : Int), HV.int .i64 (j : Int)] H K := by
  subst hn
  rw [numsE_E] at hg
  have hlen : l.length - (j - i) = (l.take i ++ l.drop j).length := by rw [List.length_append, List.length_take, List.length_drop]; omega
  refine ACall.freeze 2 [(id, ver, .arr 3 e ((numsE (l.take i ++ l.drop j) ++ List.replicate ((j - i) * 3) 0).map (HV.int .i64)))] H' (w_delE hg hij hj ⟨fun j x hx => ?_, fun j x hx => ?_, ?_⟩)
  · rw [hget_hset, if_neg (fun e => by rw [e, hno] at hx; cases hx)]
    exact hle j x hx
  · simp only [hget] at hx
    split at hx
    · rename_i e
      subst e
      cases hx
      exact ⟨by rw [hget_hset, if_pos rfl], hno⟩
    · cases hx
  · have : frz 2 [(id, ver, .arr 3 e ((numsE (l.take i ++ l.drop j) ++ List.replicate ((j - i) * 3) 0).map (HV.int .i64)))] (.ar id ver 3 0 (l.length - (j - i))) = slE eFromLabelTo (l.take i ++ l.drop j) := by
      have h0 : hget [(id, ver, AObj.arr 3 e ((numsE (l.take i ++ l.drop j) ++ List.replicate ((j - i) * 3) 0).map (HV.int .i64)))] id = some (ver, .arr 3 e ((numsE (l.take i ++ l.drop j) ++ List.replicate ((j - i) * 3) 0).map (HV.int .i64))) := by simp only [hget, if_true]
      rw [frz, h0, hlen]
      have h1 : ver = ver ∧ 0 + (l.take i ++ l.drop j).length * 3 ≤ ((numsE (l.take i ++ l.drop j) ++ List.replicate ((j - i) * 3) (0 : Int)).map (HV.int .i64)).length := ⟨rfl, by
        have h := numsE_len (l.take i ++ l.drop j)
        have h2 : (numsE (l.take i ++ l.drop j) ++ List.replicate ((j - i) * 3) (0 : Int)).length = (numsE (l.take i ++ l.drop j)).length + (List.replicate ((j - i) * 3) (0 : Int)).length := List.length_append ..
        rw [List.length_map, h2, h]
        omega⟩
      refine (if_pos h1).trans ?_
      rw [List.drop_zero, List.map_append, List.take_left' (by rw [List.length_map, numsE_len])]
      show HV.sl 3 _ _ = HV.sl 3 _ (eFromLabelTo.E _)
      rw [numsE_E, List.map_map]
      congr 1
    rw [this]
    exact hK
theorem c_cloneE {l r : List TFromLabelTo} {H : Heap} {K : HV → Heap → Prop} (id : Nat) (h : m_slices_Clone_Lapi_Edge_api_Edge l = some r) (hK : ∀ ver, K (.ar id ver 3 0 r.length) (hset H id ver (.arr 3 44 (eFromLabelTo.E r)))) : ACall Tryz.prog 20 [slE eFromLabelTo l] H K := by
  unfold m_slices_Clone_Lapi_Edge_api_Edge at h
  split at h
  case isFalse => cases h
  rename_i hl
  cases h
  have hnl := numsE_len l
  rw [numsE_E] at hK
  refine ⟨enters' Tryz.func20 rfl rfl, fun μ w vs hs hr _ => ?_⟩
  obtain ⟨x, xs, rfl, hr, hn⟩ := hr
  cases hn
  have hr : Rep w μ (.sl 3 l.length (eFromLabelTo.E l)) x := hr
  rw [numsE_E] at hr
  obtain ⟨_, _, hm, ⟨h0, rfl⟩ | ⟨b, off, cap, vs, rfl, hcap, hno, hsg, hrl⟩⟩ := hr
  · refine (AnyE.slices_Clone_nil Tryz.cloneE _ _ w).mono ?_
    rintro e w' ⟨rfl, rfl⟩
    have hl0 : l = [] := List.eq_nil_of_length_eq_zero h0
    subst hl0
    exact ⟨_, .ar id μ.nx 3 0 0, _, μ.set id none, rfl, hK μ.nx, hs.repl id none (.arr 3 44 []) (Same.refl _) (Nat.le_refl _) (fun _ _ _ => rfl) (fun b hb => by cases hb) rfl, .inl ⟨none, by simp [Mu.set], .inl ⟨rfl, rfl, rfl, rfl⟩⟩, Evo.repl hs id none (Same.refl _) (Nat.le_refl _) (fun _ _ _ => rfl) (fun b hb => by cases hb)⟩
  · obtain ⟨hvs, hreps⟩ := repL_ints hrl
    subst hvs
    obtain ⟨_, i0, hi0, hz1, hz2, hz0⟩ := ty_spec ty44
    refine (AnyE.slices_Clone Tryz.cloneE i0 _ 3 24 hi0 hz0 hz1 hz2 rfl (by decide) (fun w => Tryz.sizeOf44 w) b off l.length cap ((numsE l).map (Value.int .i64)) w (by simpa using hnl) hm (by omega) (fun j u hj => hsg.cell hj) (fun u hu => by
      obtain ⟨x, _, rfl⟩ := List.mem_map.1 hu; rfl)).mono ?_
    rintro e w' ⟨v', rfl, ⟨_, ⟨rfl, _⟩ | ⟨g, cap', cur, rfl, hg1, hg2, hc1, hc2, hc3, hc4⟩⟩, hnn, hbel⟩
    · exact absurd rfl hnn
    · have hsame : Same w w' := ⟨hbel.os, hbel.tape, hbel.output⟩
      have hold : ∀ k, k < w.heap.size → w'.heap[k]? = w.heap[k]? := hbel.block
      have hE := Evo.repl (w' := w') hs id (some g) hsame hbel.size (fun b hb _ => hold b hb) (fun b hb => by cases hb; exact .inl hg1)
      have hrowg : Row w' g cur 44 := ⟨0, 0, hg2, .inl (Nat.le_refl _)⟩
      have hsr := hs.repl (w' := w') id (some g) (.arr 3 44 ((numsE l).map (HV.int .i64))) hsame hbel.size (fun b hb _ => hold b hb) (fun b hb => by cases hb; exact .inl hg1)
        ⟨fun c hc => by obtain ⟨x, _, rfl⟩ := List.mem_map.1 hc; rfl, cur, (numsE l).map (Value.int .i64), cur.toList.drop (l.length * 3), hrowg, by rw [← hc4, List.take_append_drop], repL_map.2 fun x hx => Rep.evo hE hs.ok _ _ (hreps x hx)⟩
      refine ⟨_, .ar id μ.nx 3 0 l.length, _, μ.set id (some g), rfl, hK μ.nx, hsr, .inl ⟨some g, by simp [Mu.set], .inr ⟨g, cap', cur, 44, rfl, rfl, hc1, hc2, hrowg, by omega⟩⟩, hE⟩
theorem c_delE' {H H' : Heap} {id ver n : Nat} {i j : Int} {e : TypeId} {l : List TFromLabelTo} {K : HV → Heap → Prop} (h : 0 ≤ i ∧ i < j ∧ j ≤ (l.length : Int)) (hn : n = l.length) (hg : hget H id = some (ver, .arr 3 e (eFromLabelTo.E l))) (hle : ∀ j x, hget H' j = some x → hget H j = some x) (hno : hget H' id = none)
    (hK : K (slE eFromLabelTo (l.take i.toNat ++ l.drop j.toNat)) H') : ACall Tryz.prog 19 [.ar id ver 3 0 n, HV.int .i64 i, HV.int .i64 j] H K := by
  obtain ⟨a, rfl⟩ := Int.eq_ofNat_of_zero_le h.1
  obtain ⟨b, rfl⟩ := Int.eq_ofNat_of_zero_le (show 0 ≤ j by omega)
  exact c_delE hn hg hle hno (by omega) (by omega) hK
end Go.AW

/- Models, printed by lk.py. -/
namespace Go.AW
open Go
set_option linter.unusedVariables false
end Go.AW

/- Models, printed by lk.py. -/
namespace Go.AW
open Go
set_option linter.unusedVariables false
noncomputable def m_syncmark_Damaged (p0 : TLabelsStatesEdges) (p1 : List UInt8) (p2 : Int) : Option (Int × Int) :=
 (m_syncmark_check p0 p1).bind fun x1 =>
 if x1 ≠ 0 then
  some (0, x1)
 else
  jp (fun (a3 : Bool) =>
    if a3 = true then
     some (0, 2)
    else
     (m_language_Words p0 p2).bind fun x6 =>
     if x6.2 ≠ 0 then
      some (0, x6.2)
     else
      (loopW (S := Int × Int) (X := Int) (fun a8 =>
          if a8.2 < ((x6.1).length : Int) then
           (idx x6.1 a8.2).bind fun x12 =>
           if p1.length + x12.length ≤ maxLen then
            if (p1 ++ x12).length + p1.length ≤ maxLen then
             (loopW (S := Int × Int) (X := Int) (fun a16 =>
                 if a16.2 < (IntKind.wrap .i64 (p2 + ((p1).length : Int))) then
                  jp (fun (a20 : Int) =>
                    some (Stp.next (a20, IntKind.wrap .i64 (a16.2 + 1))))
                    fun k22 =>
                   (loopW (S := Int × Int) (X := Int) (fun a23 =>
                       if a23.2 < ((p1).length : Int) then
                        jp (fun (a27 : Int) =>
                          some (Stp.next (a27, IntKind.wrap .i64 (a23.2 + 1))))
                          fun k29 =>
                         (idx ((p1 ++ x12) ++ p1) (IntKind.wrap .i64 (a16.2 + a23.2))).bind fun x30 =>
                         (idx p1 a23.2).bind fun x32 =>
                         if (x30.toNat : Int) ≠ (x32.toNat : Int) then
                          k29 (IntKind.wrap .i64 (a23.1 + 1))
                         else
                          k29 a23.1
                       else
                        some (Stp.exit a23.1)) (0, 0)).bind fun a34 =>
                   jp (fun (a36 : Bool) =>
                     if a36 = true then
                      k22 a34
                     else
                      k22 a16.1)
                     fun k38 =>
                    if a16.1 < 0 then
                     k38 true
                    else
                     k38 (decide (a34 < a16.1))
                 else
                  some (Stp.exit a16.1)) (a8.1, 1)).bind fun a40 =>
             some (Stp.next (a40, IntKind.wrap .i64 (a8.2 + 1)))
            else none
           else none
          else
           some (Stp.exit a8.1)) ((-1), 0)).bind fun a42 =>
      if a42 < 0 then
       some (0, 5)
      else
       some (a42, 0))
    fun k5 =>
   if p2 < 0 then
    k5 true
   else
    k5 (decide (12 < p2))

end Go.AW

/- Models, printed by lk.py. -/
namespace Go.AW
open Go
set_option linter.unusedVariables false
noncomputable def m_law54_SyncmarkParts (p0 : TLabelsStatesEdges) (p1 : List UInt8) (p2 : Int) (p3 : Int) : Option (Bool) :=
 jp (fun (a1 : Bool) =>
   if a1 = true then
    (m_law54_awake).bind fun x4 =>
    some x4
   else
    if ((p0.2.2).length : Int) ≠ 0 then
     (m_slices_Clone_Lapi_Edge_api_Edge p0.2.2).bind fun x8 =>
     if (0 ≤ (Int.tmod (IntKind.wrap .i64 p3) ((p0.2.2).length : Int)) ∧ (Int.tmod (IntKind.wrap .i64 p3) ((p0.2.2).length : Int)) < (IntKind.wrap .i64 ((Int.tmod (IntKind.wrap .i64 p3) ((p0.2.2).length : Int)) + 1)) ∧ (IntKind.wrap .i64 ((Int.tmod (IntKind.wrap .i64 p3) ((p0.2.2).length : Int)) + 1)) ≤ ((x8).length : Int)) then
      (m_syncmark_Valid p0 p1 (Int.tmod (IntKind.wrap .i64 p2) 7)).bind fun x12 =>
      (m_syncmark_Valid (p0.1, p0.2.1, (x8.take (Int.tmod (IntKind.wrap .i64 p3) ((p0.2.2).length : Int)).toNat ++ x8.drop (IntKind.wrap .i64 ((Int.tmod (IntKind.wrap .i64 p3) ((p0.2.2).length : Int)) + 1)).toNat)) p1 (Int.tmod (IntKind.wrap .i64 p2) 7)).bind fun x14 =>
      (m_syncmark_Damaged p0 p1 (Int.tmod (IntKind.wrap .i64 p2) 7)).bind fun x16 =>
      (m_syncmark_Damaged (p0.1, p0.2.1, (x8.take (Int.tmod (IntKind.wrap .i64 p3) ((p0.2.2).length : Int)).toNat ++ x8.drop (IntKind.wrap .i64 ((Int.tmod (IntKind.wrap .i64 p3) ((p0.2.2).length : Int)) + 1)).toNat)) p1 (Int.tmod (IntKind.wrap .i64 p2) 7)).bind fun x18 =>
      jp (fun (a20 : Bool) =>
        if a20 = true then
         some false
        else
         jp (fun (a23 : Bool) =>
           if a23 = true then
            jp (fun (a26 : Bool) =>
              some a26)
              fun k28 =>
             if x16.2 = 0 then
              (m_law54_awake).bind fun x29 =>
              k28 x29
             else
              if x18.2 = x16.2 then
               (m_law54_awake).bind fun x31 =>
               k28 x31
              else
               k28 false
           else
            jp (fun (a35 : Bool) =>
              some a35)
              fun k37 =>
             if x16.1 ≤ x18.1 then
              (m_law54_awake).bind fun x38 =>
              k37 x38
             else
              k37 false)
           fun k25 =>
          if x16.2 ≠ 0 then
           k25 true
          else
           k25 (decide (x18.2 ≠ 0)))
        fun k22 =>
       if x12.2 ≠ 0 then
        k22 true
       else
        if x14.2 ≠ 0 then
         k22 true
        else
         if x12.1 = true then
          k22 (!x14.1)
         else
          k22 false
     else none
    else none)
   fun k3 =>
  (m_law54_fine p0 p1).bind fun x45 =>
  if (!x45) = true then
   k3 true
  else
   k3 (decide (((p0.2.2).length : Int) = 0))

end Go.AW

namespace Go.AW
open Go Go.Proofs
set_option linter.unusedVariables false
set_option maxHeartbeats 1600000 in
set_option maxRecDepth 100000 in
theorem w_ref10_Great {p0 : TLabelsStatesEdges} {r : Bool} (h : m_ref10_Great p0 = some r) : Pure Tryz.prog 40 [HV.agg [HV.int .i64 p0.1, HV.int .i64 p0.2.1, slE eFromLabelTo p0.2.2]] (· = HV.bool r) := by
 unfold m_ref10_Great at h
 refine Pure.of_body Tryz.func40 rfl rfl (Nat.le_of_ble_eq_true rfl) fun hf => ?_
 unfold Tryz.f40
 dsimp only [enumS, Nat.reduceAdd]
 refine AW.rgs rfl fun K hK => ?_
 refine b_op rfl (o_box rfl rfl rfl ?_)
 refine mv rfl rfl ?_
 refine b_fin hK (s' := ⟨[(1, HV.fptr [HV.int .i64 p0.1, HV.int .i64 p0.2.1, slE eFromLabelTo p0.2.2] 0)], []⟩) (le_q rfl rfl) ?_
 clear hK K
 refine AW.seqJ h (S := Bool) (V := Unit) (fun a v => ⟨[(2, HV.bool a)], []⟩) (fun a1 w2 h => ?_) (fun k3 h => ?_)
 ·refine AW.ret ?_
  have h := Option.some.inj h
  subst h
  exact ret_pure (hs := [HV.bool a1]) (q := HV.bool a1) (.inr rfl) (resT rfl rfl) rfl trivial
 refine AW.rg rfl fun K hK => ?_
 refine bv rfl (v_fieldAddrF fo24_1 rfl) ?_
 refine bv rfl (v_loadF ty3 rfl (l_lit rfl rfl)) ?_
 refine bv rfl (v_bin rfl rfl b_gtr) ?_
 refine mv rfl rfl ?_
 by_cases hg9 : 8 < p0.2.1
 ·have h := ifT hg9 h
  refine b_T rfl rfl rfl rfl (decide_eq_true hg9) (o_val rfl (v_fieldAddrF fo24_1 rfl) ?_)
  refine b_T rfl rfl rfl rfl rfl (o_val rfl (v_loadF ty3 rfl (l_lit rfl rfl)) ?_)
  refine b_T rfl rfl rfl rfl rfl (o_val rfl (v_bin rfl rfl b_leq) ?_)
  refine bv rfl (v_pickT rfl rfl rfl) ?_
  refine mv rfl rfl ?_
  by_cases hg6 : p0.2.1 ≤ 64
  ·have h := ifT hg6 h
   refine b_F rfl rfl rfl rfl rfl (decide_eq_true hg6) ?_
   refine b_F rfl rfl rfl rfl rfl rfl ?_
   refine b_F rfl rfl rfl rfl rfl rfl ?_
   refine b_F rfl rfl rfl rfl rfl rfl ?_
   refine b_F rfl rfl rfl rfl rfl rfl ?_
   refine b_U rfl rfl rfl rfl rfl ?_
   refine b_U rfl rfl rfl rfl rfl ?_
   refine b_U rfl rfl rfl rfl rfl ?_
   refine b_U rfl rfl rfl rfl rfl ?_
   refine b_F rfl rfl rfl rfl rfl rfl ?_
   refine bv rfl (v_pickT rfl rfl rfl) ?_
   refine mv rfl rfl ?_
   refine b_F rfl rfl rfl rfl rfl rfl ?_
   refine b_F rfl rfl rfl rfl rfl rfl ?_
   refine b_F rfl rfl rfl rfl rfl rfl ?_
   refine b_F rfl rfl rfl rfl rfl rfl ?_
   refine bv rfl (v_pickT rfl rfl rfl) ?_
   refine mv rfl rfl ?_
   refine b_nil (hK _ ?_)
   clear hK K
   exact to_le (s' := ⟨[(2, HV.bool true)], []⟩) (AS.le_of ⟨rfl, trivial⟩ trivial) ⟨true, (), h, rfl⟩
  have h := ifF hg6 h
  refine b_T rfl rfl rfl rfl (decide_eq_false hg6) (o_val rfl (v_fieldAddrF fo24_2 rfl) ?_)
  refine b_T rfl rfl rfl rfl rfl (o_val rfl (v_loadF ty22 rfl (l_lit rfl rfl)) ?_)
  refine b_T rfl rfl rfl rfl rfl (o_val rfl (v_lenF rfl rfl ty22 rfl) ?_)
  refine b_T rfl rfl rfl rfl rfl (o_val rfl (v_bin rfl rfl b_gtr) ?_)
  refine b_T rfl rfl rfl rfl rfl (o_val rfl (mv_val rfl rfl).2 ?_)
  by_cases hg5 : 30 < ((p0.2.2).length : Int)
  ·have h := ifT hg5 h
   refine b_T rfl rfl rfl rfl (decide_eq_true hg5) (o_val rfl (v_fieldAddrF fo24_2 rfl) ?_)
   refine b_T rfl rfl rfl rfl rfl (o_val rfl (v_loadF ty22 rfl (l_lit rfl rfl)) ?_)
   refine b_T rfl rfl rfl rfl rfl (o_val rfl (v_lenF rfl rfl ty22 rfl) ?_)
   refine b_T rfl rfl rfl rfl rfl (o_val rfl (v_bin rfl rfl b_leq) ?_)
   refine b_T rfl rfl rfl rfl rfl (o_val rfl (v_pickT rfl rfl rfl) ?_)
   refine bv rfl (v_pickF rfl rfl rfl) ?_
   refine mv rfl rfl ?_
   by_cases hg4 : ((p0.2.2).length : Int) ≤ 1024
   ·have h := ifT hg4 h
    refine b_F rfl rfl rfl rfl rfl (decide_eq_true hg4) ?_
    refine b_F rfl rfl rfl rfl rfl rfl ?_
    refine b_F rfl rfl rfl rfl rfl rfl ?_
    refine b_F rfl rfl rfl rfl rfl rfl ?_
    refine bv rfl (v_pickT rfl rfl rfl) ?_
    refine mv rfl rfl ?_
    refine b_nil (hK _ ?_)
    clear hK K
    exact to_le (s' := ⟨[(2, HV.bool true)], []⟩) (AS.le_of ⟨rfl, trivial⟩ trivial) ⟨true, (), h, rfl⟩
   have h := ifF hg4 h
   refine b_T rfl rfl rfl rfl (decide_eq_false hg4) (o_val rfl (v_fieldAddrF fo24_2 rfl) ?_)
   refine b_T rfl rfl rfl rfl rfl (o_val rfl (v_loadF ty22 rfl (l_lit rfl rfl)) ?_)
   refine b_T rfl rfl rfl rfl rfl (o_val rfl (v_lenF rfl rfl ty22 rfl) ?_)
   refine b_T rfl rfl rfl rfl rfl (o_val rfl (v_bin rfl rfl b_gtr) ?_)
   refine bv rfl (v_pickF rfl rfl rfl) ?_
   refine mv rfl rfl ?_
   refine b_nil (hK _ ?_)
   clear hK K
   exact to_le (s' := ⟨[(2, HV.bool (decide (1027 < ((p0.2.2).length : Int))))], []⟩) (AS.le_of ⟨rfl, trivial⟩ trivial) ⟨decide (1027 < ((p0.2.2).length : Int)), (), h, rfl⟩
  have h := ifF hg5 h
  refine b_F rfl rfl rfl rfl rfl (decide_eq_false hg5) ?_
  refine b_F rfl rfl rfl rfl rfl rfl ?_
  refine b_F rfl rfl rfl rfl rfl rfl ?_
  refine b_F rfl rfl rfl rfl rfl rfl ?_
  refine b_T rfl rfl rfl rfl rfl (o_val rfl (v_pickF rfl rfl rfl) ?_)
  refine bv rfl (v_pickF rfl rfl rfl) ?_
  refine mv rfl rfl ?_
  refine b_T rfl rfl rfl rfl rfl (o_val rfl (v_fieldAddrF fo24_2 rfl) ?_)
  refine b_T rfl rfl rfl rfl rfl (o_val rfl (v_loadF ty22 rfl (l_lit rfl rfl)) ?_)
  refine b_T rfl rfl rfl rfl rfl (o_val rfl (v_lenF rfl rfl ty22 rfl) ?_)
  refine b_T rfl rfl rfl rfl rfl (o_val rfl (v_bin rfl rfl b_gtr) ?_)
  refine bv rfl (v_pickF rfl rfl rfl) ?_
  refine mv rfl rfl ?_
  refine b_nil (hK _ ?_)
  clear hK K
  exact to_le (s' := ⟨[(2, HV.bool (decide (1027 < ((p0.2.2).length : Int))))], []⟩) (AS.le_of ⟨rfl, trivial⟩ trivial) ⟨decide (1027 < ((p0.2.2).length : Int)), (), h, rfl⟩
 have h := ifF hg9 h
 refine b_F rfl rfl rfl rfl rfl (decide_eq_false hg9) ?_
 refine b_F rfl rfl rfl rfl rfl rfl ?_
 refine b_F rfl rfl rfl rfl rfl rfl ?_
 refine bv rfl (v_pickF rfl rfl rfl) ?_
 refine mv rfl rfl ?_
 refine b_T rfl rfl rfl rfl rfl (o_val rfl (v_fieldAddrF fo24_2 rfl) ?_)
 refine b_T rfl rfl rfl rfl rfl (o_val rfl (v_loadF ty22 rfl (l_lit rfl rfl)) ?_)
 refine b_T rfl rfl rfl rfl rfl (o_val rfl (v_lenF rfl rfl ty22 rfl) ?_)
 refine b_T rfl rfl rfl rfl rfl (o_val rfl (v_bin rfl rfl b_gtr) ?_)
 refine b_T rfl rfl rfl rfl rfl (o_val rfl (mv_val rfl rfl).2 ?_)
 by_cases hg8 : 30 < ((p0.2.2).length : Int)
 ·have h := ifT hg8 h
  refine b_T rfl rfl rfl rfl (decide_eq_true hg8) (o_val rfl (v_fieldAddrF fo24_2 rfl) ?_)
  refine b_T rfl rfl rfl rfl rfl (o_val rfl (v_loadF ty22 rfl (l_lit rfl rfl)) ?_)
  refine b_T rfl rfl rfl rfl rfl (o_val rfl (v_lenF rfl rfl ty22 rfl) ?_)
  refine b_T rfl rfl rfl rfl rfl (o_val rfl (v_bin rfl rfl b_leq) ?_)
  refine b_T rfl rfl rfl rfl rfl (o_val rfl (v_pickT rfl rfl rfl) ?_)
  refine bv rfl (v_pickF rfl rfl rfl) ?_
  refine mv rfl rfl ?_
  by_cases hg7 : ((p0.2.2).length : Int) ≤ 1024
  ·have h := ifT hg7 h
   refine b_F rfl rfl rfl rfl rfl (decide_eq_true hg7) ?_
   refine b_F rfl rfl rfl rfl rfl rfl ?_
   refine b_F rfl rfl rfl rfl rfl rfl ?_
   refine b_F rfl rfl rfl rfl rfl rfl ?_
   refine bv rfl (v_pickT rfl rfl rfl) ?_
   refine mv rfl rfl ?_
   refine b_nil (hK _ ?_)
   clear hK K
   exact to_le (s' := ⟨[(2, HV.bool true)], []⟩) (AS.le_of ⟨rfl, trivial⟩ trivial) ⟨true, (), h, rfl⟩
  have h := ifF hg7 h
  refine b_T rfl rfl rfl rfl (decide_eq_false hg7) (o_val rfl (v_fieldAddrF fo24_2 rfl) ?_)
  refine b_T rfl rfl rfl rfl rfl (o_val rfl (v_loadF ty22 rfl (l_lit rfl rfl)) ?_)
  refine b_T rfl rfl rfl rfl rfl (o_val rfl (v_lenF rfl rfl ty22 rfl) ?_)
  refine b_T rfl rfl rfl rfl rfl (o_val rfl (v_bin rfl rfl b_gtr) ?_)
  refine bv rfl (v_pickF rfl rfl rfl) ?_
  refine mv rfl rfl ?_
  refine b_nil (hK _ ?_)
  clear hK K
  exact to_le (s' := ⟨[(2, HV.bool (decide (1027 < ((p0.2.2).length : Int))))], []⟩) (AS.le_of ⟨rfl, trivial⟩ trivial) ⟨decide (1027 < ((p0.2.2).length : Int)), (), h, rfl⟩
 have h := ifF hg8 h
 refine b_F rfl rfl rfl rfl rfl (decide_eq_false hg8) ?_
 refine b_F rfl rfl rfl rfl rfl rfl ?_
 refine b_F rfl rfl rfl rfl rfl rfl ?_
 refine b_F rfl rfl rfl rfl rfl rfl ?_
 refine b_T rfl rfl rfl rfl rfl (o_val rfl (v_pickF rfl rfl rfl) ?_)
 refine bv rfl (v_pickF rfl rfl rfl) ?_
 refine mv rfl rfl ?_
 refine b_T rfl rfl rfl rfl rfl (o_val rfl (v_fieldAddrF fo24_2 rfl) ?_)
 refine b_T rfl rfl rfl rfl rfl (o_val rfl (v_loadF ty22 rfl (l_lit rfl rfl)) ?_)
 refine b_T rfl rfl rfl rfl rfl (o_val rfl (v_lenF rfl rfl ty22 rfl) ?_)
 refine b_T rfl rfl rfl rfl rfl (o_val rfl (v_bin rfl rfl b_gtr) ?_)
 refine bv rfl (v_pickF rfl rfl rfl) ?_
 refine mv rfl rfl ?_
 refine b_nil (hK _ ?_)
 clear hK K
 exact to_le (s' := ⟨[(2, HV.bool (decide (1027 < ((p0.2.2).length : Int))))], []⟩) (AS.le_of ⟨rfl, trivial⟩ trivial) ⟨decide (1027 < ((p0.2.2).length : Int)), (), h, rfl⟩

set_option maxHeartbeats 1600000 in
set_option maxRecDepth 100000 in
theorem w_law54_great {p0 : TLabelsStatesEdges} {r : Bool} (h : m_law54_great p0 = some r) : Pure Tryz.prog 21 [HV.agg [HV.int .i64 p0.1, HV.int .i64 p0.2.1, slE eFromLabelTo p0.2.2]] (· = HV.bool r) := by
 unfold m_law54_great at h
 refine Pure.of_body Tryz.func21 rfl rfl (Nat.le_of_ble_eq_true rfl) fun hf => ?_
 unfold Tryz.f21
 dsimp only [enumS, Nat.reduceAdd]
 refine AW.rgs rfl fun K hK => ?_
 refine b_op rfl (o_box rfl rfl rfl ?_)
 refine mv rfl rfl ?_
 refine b_fin hK (s' := ⟨[(1, HV.fptr [HV.int .i64 p0.1, HV.int .i64 p0.2.1, slE eFromLabelTo p0.2.2] 0)], []⟩) (le_q rfl rfl) ?_
 clear hK K
 refine AW.seqJ h (S := Bool) (V := Unit) (fun a v => ⟨[(2, HV.bool a)], []⟩) (fun a1 w2 h => ?_) (fun k3 h => ?_)
 ·refine AW.ret ?_
  have h := Option.some.inj h
  subst h
  exact ret_pure (hs := [HV.bool a1]) (q := HV.bool a1) (.inr rfl) (resT rfl rfl) rfl trivial
 refine AW.rg rfl fun K hK => ?_
 refine bv rfl (v_loadF ty24 rfl (l_litA rfl (Nat.le_of_ble_eq_true rfl) rfl)) ?_
 obtain ⟨x4, h5, h⟩ := bS h
 refine b_op rfl (o_call rfl rfl rfl rfl (ACallD.pure0 (w_ref10_Great h5)) ?_)
 refine mv rfl rfl ?_
 by_cases hg7 : x4 = true
 ·have h := ifT hg7 h
  refine b_F rfl rfl rfl rfl rfl hg7 ?_
  refine b_F rfl rfl rfl rfl rfl rfl ?_
  refine b_F rfl rfl rfl rfl rfl rfl ?_
  refine b_F rfl rfl rfl rfl rfl rfl ?_
  refine b_U rfl rfl rfl rfl rfl ?_
  refine b_U rfl rfl rfl rfl rfl ?_
  refine b_U rfl rfl rfl rfl rfl ?_
  refine b_F rfl rfl rfl rfl rfl rfl ?_
  refine bv rfl (v_pickT rfl rfl rfl) ?_
  refine mv rfl rfl ?_
  refine b_nil (hK _ ?_)
  clear hK K
  exact to_le (s' := ⟨[(2, HV.bool true)], []⟩) (AS.le_of ⟨rfl, trivial⟩ trivial) ⟨true, (), h, rfl⟩
 have h := ifF hg7 h
 refine b_T rfl rfl rfl rfl (bF hg7) (o_val rfl (v_fieldAddrF fo24_0 rfl) ?_)
 refine b_T rfl rfl rfl rfl rfl (o_val rfl (v_loadF ty3 rfl (l_lit rfl rfl)) ?_)
 refine b_T rfl rfl rfl rfl rfl (o_val rfl (v_bin rfl rfl b_gtr) ?_)
 refine b_T rfl rfl rfl rfl rfl (o_val rfl (mv_val rfl rfl).2 ?_)
 by_cases hg6 : 3 < p0.1
 ·have h := ifT hg6 h
  refine b_T rfl rfl rfl rfl (decide_eq_true hg6) (o_val rfl (v_fieldAddrF fo24_0 rfl) ?_)
  refine b_T rfl rfl rfl rfl rfl (o_val rfl (v_loadF ty3 rfl (l_lit rfl rfl)) ?_)
  refine b_T rfl rfl rfl rfl rfl (o_val rfl (v_bin rfl rfl b_leq) ?_)
  refine b_T rfl rfl rfl rfl rfl (o_val rfl (v_pickT rfl rfl rfl) ?_)
  refine bv rfl (v_pickF rfl rfl rfl) ?_
  refine mv rfl rfl ?_
  refine b_nil (hK _ ?_)
  clear hK K
  exact to_le (s' := ⟨[(2, HV.bool (decide (p0.1 ≤ 16)))], []⟩) (AS.le_of ⟨rfl, trivial⟩ trivial) ⟨decide (p0.1 ≤ 16), (), h, rfl⟩
 have h := ifF hg6 h
 refine b_F rfl rfl rfl rfl rfl (decide_eq_false hg6) ?_
 refine b_F rfl rfl rfl rfl rfl rfl ?_
 refine b_F rfl rfl rfl rfl rfl rfl ?_
 refine b_T rfl rfl rfl rfl rfl (o_val rfl (v_pickF rfl rfl rfl) ?_)
 refine bv rfl (v_pickF rfl rfl rfl) ?_
 refine mv rfl rfl ?_
 refine b_nil (hK _ ?_)
 clear hK K
 exact to_le (s' := ⟨[(2, HV.bool false)], []⟩) (AS.le_of ⟨rfl, trivial⟩ trivial) ⟨false, (), h, rfl⟩

set_option maxHeartbeats 1600000 in
set_option maxRecDepth 100000 in
theorem w_ref09_Compare {p0 : TFromLabelTo} {p1 : TFromLabelTo} {r : Int} (h : m_ref09_Compare p0 p1 = some r) : Pure Tryz.prog 46 [HV.agg [HV.int .i64 p0.1, HV.int .i64 p0.2.1, HV.int .i64 p0.2.2], HV.agg [HV.int .i64 p1.1, HV.int .i64 p1.2.1, HV.int .i64 p1.2.2]] (· = HV.int .i64 r) := by
 unfold m_ref09_Compare at h
 refine Pure.of_body Tryz.func46 rfl rfl (Nat.le_of_ble_eq_true rfl) fun hf => ?_
 unfold Tryz.f46
 dsimp only [enumS, Nat.reduceAdd]
 refine AW.rgs rfl fun K hK => ?_
 refine b_op rfl (o_box rfl rfl rfl ?_)
 refine b_op rfl (o_box rfl rfl rfl ?_)
 refine mv rfl rfl ?_
 refine b_fin hK (s' := ⟨[(2, HV.fptr [HV.int .i64 p0.1, HV.int .i64 p0.2.1, HV.int .i64 p0.2.2] 0), (3, HV.fptr [HV.int .i64 p1.1, HV.int .i64 p1.2.1, HV.int .i64 p1.2.2] 0)], []⟩) (le_q rfl rfl) ?_
 clear hK K
 refine AW.dgs 16 follows rfl rfl fun K hK => ?_
 refine sv rfl (v_fieldAddrF fo44_0 rfl) ?_
 refine sv rfl (v_loadF ty3 rfl (l_lit rfl rfl)) ?_
 refine sv rfl (v_fieldAddrF fo44_1 rfl) ?_
 refine sv rfl (v_loadF ty3 rfl (l_lit rfl rfl)) ?_
 refine sv rfl (v_fieldAddrF fo44_2 rfl) ?_
 refine sv rfl (v_loadF ty3 rfl (l_lit rfl rfl)) ?_
 refine s_op rfl rfl (ops_bsl rfl rfl (as_of (cs := [HV.int .i64 p0.1, HV.int .i64 p0.2.1, HV.int .i64 p0.2.2]) ty55 ty3 rfl rfl rfl rfl rfl) ?_)
 refine sv rfl (v_fieldAddrF fo44_0 rfl) ?_
 refine sv rfl (v_loadF ty3 rfl (l_lit rfl rfl)) ?_
 refine sv rfl (v_fieldAddrF fo44_1 rfl) ?_
 refine sv rfl (v_loadF ty3 rfl (l_lit rfl rfl)) ?_
 refine sv rfl (v_fieldAddrF fo44_2 rfl) ?_
 refine sv rfl (v_loadF ty3 rfl (l_lit rfl rfl)) ?_
 refine s_op rfl rfl (ops_bsl rfl rfl (as_of (cs := [HV.int .i64 p1.1, HV.int .i64 p1.2.1, HV.int .i64 p1.2.2]) ty55 ty3 rfl rfl rfl rfl rfl) ?_)
 refine sm rfl rfl ?_
 refine sm rfl rfl ?_
 refine s_nil ?_
 refine b_fin hK (s' := ⟨[(5, slE eInt [p0.1, p0.2.1, p0.2.2]), (6, slE eInt [p1.1, p1.2.1, p1.2.2])], []⟩) (le_q rfl rfl) ?_
 clear hK K
 refine AW.seq ?_
 refine AW.rgs rfl fun K hK => ?_
 refine mv rfl rfl ?_
 refine b_fin hK (s' := ⟨[(5, slE eInt [p0.1, p0.2.1, p0.2.2]), (6, slE eInt [p1.1, p1.2.1, p1.2.2]), (7, HV.int .i64 0)], []⟩) (le_q rfl rfl) ?_
 clear hK K
 refine AW.lpR h (by first | exact up_then | exact up_to) (S := Int) (V := Unit) (fun a v => ⟨[(5, slE eInt [p0.1, p0.2.1, p0.2.2]), (6, slE eInt [p1.1, p1.2.1, p1.2.2]), (7, HV.int .i64 a)], []⟩) ?_ (X := Unit) (W := Unit) (fun a v => ⟨[], []⟩) (fun a13 w14 h => ?_) (fun a1 w2 st3 h hr4=> ?_)
 ·exact to_le (s' := ⟨[(5, slE eInt [p0.1, p0.2.1, p0.2.2]), (6, slE eInt [p1.1, p1.2.1, p1.2.2]), (7, HV.int .i64 0)], []⟩) (AS.le_of ⟨rfl, rfl, rfl, trivial⟩ trivial) ⟨(), rfl⟩
 ·refine AW.rgs rfl fun K hK => ?_
  refine mv rfl rfl ?_
  refine b_fin hK (s' := ⟨[(4, HV.int .i64 0)], []⟩) (le_q rfl rfl) ?_
  clear hK K
  refine AW.ret ?_
  have h := Option.some.inj h
  subst h
  exact ret_pure (hs := [HV.int .i64 0]) (q := HV.int .i64 0) (.inr rfl) (resT rfl rfl) rfl trivial
 refine AW.seq ?_
 refine AW.rgs rfl fun K hK => ?_
 refine mv rfl rfl ?_
 refine bv rfl (v_bin rfl rfl b_lss) ?_
 refine b_fin hK (s' := ⟨[(5, slE eInt [p0.1, p0.2.1, p0.2.2]), (6, slE eInt [p1.1, p1.2.1, p1.2.2]), (7, HV.int .i64 a1), (23, HV.bool (decide (a1 < 3)))], []⟩) (le_q rfl rfl) ?_
 clear hK K
 refine AW.cond rfl (fun hc => ?_) (fun hc => ?_)
 ·have hc := of_decide_eq_true hc
  have h := ifT hc h
  refine AW.skip ?_
  refine AW.seq (AW.block ?_)
  refine AW.seq ?_
  refine AW.dgs 9 follows rfl rfl fun K hK => ?_
  refine sm rfl rfl ?_
  refine sm rfl rfl ?_
  obtain ⟨x5, h6, h⟩ := bS h
  refine sv rfl (v_idxF ty55 es55 rfl rfl (idx_lt h6)) ?_
  refine sv rfl (v_loadF ty3 rfl (l_cell eInt h6 (o := 0) rfl rfl)) ?_
  refine sm rfl rfl ?_
  refine sm rfl rfl ?_
  obtain ⟨x7, h8, h⟩ := bS h
  refine sv rfl (v_idxF ty55 es55 rfl rfl (idx_lt h8)) ?_
  refine sv rfl (v_loadF ty3 rfl (l_cell eInt h8 (o := 0) rfl rfl)) ?_
  refine sv rfl (v_bin rfl rfl b_lss) ?_
  refine s_nil ?_
  refine b_fin hK (s' := ⟨[(5, slE eInt [p0.1, p0.2.1, p0.2.2]), (6, slE eInt [p1.1, p1.2.1, p1.2.2]), (7, HV.int .i64 a1), (34, HV.bool (decide (x5 < x7)))], []⟩) (le_q rfl rfl) ?_
  clear hK K
  refine AW.cond rfl (fun hc => ?_) (fun hc => ?_)
  ·have hc := of_decide_eq_true hc
   have h := ifT hc h
   refine AW.rgs rfl fun K hK => ?_
   refine mv rfl rfl ?_
   refine b_fin hK (s' := ⟨[(4, HV.int .i64 (-1))], []⟩) (le_q rfl rfl) ?_
   clear hK K
   have h := hr4 _ h
   refine AW.ret ?_
   have h := Option.some.inj h
   subst h
   exact ret_pure (hs := [HV.int .i64 (-1)]) (q := HV.int .i64 (-1)) (.inr rfl) (resT rfl rfl) rfl trivial
  have hc := of_decide_eq_false hc
  have h := ifF hc h
  refine AW.skip ?_
  refine AW.dgs 9 follows rfl rfl fun K hK => ?_
  refine sm rfl rfl ?_
  refine sm rfl rfl ?_
  obtain ⟨x9, h10, h⟩ := bS h
  refine sv rfl (v_idxF ty55 es55 rfl rfl (idx_lt h10)) ?_
  refine sv rfl (v_loadF ty3 rfl (l_cell eInt h10 (o := 0) rfl rfl)) ?_
  refine sm rfl rfl ?_
  refine sm rfl rfl ?_
  obtain ⟨x11, h12, h⟩ := bS h
  refine sv rfl (v_idxF ty55 es55 rfl rfl (idx_lt h12)) ?_
  refine sv rfl (v_loadF ty3 rfl (l_cell eInt h12 (o := 0) rfl rfl)) ?_
  refine sv rfl (v_bin rfl rfl b_gtr) ?_
  refine s_nil ?_
  refine b_fin hK (s' := ⟨[(5, slE eInt [p0.1, p0.2.1, p0.2.2]), (6, slE eInt [p1.1, p1.2.1, p1.2.2]), (7, HV.int .i64 a1), (43, HV.bool (decide (x11 < x9)))], []⟩) (le_q rfl rfl) ?_
  clear hK K
  refine AW.cond rfl (fun hc => ?_) (fun hc => ?_)
  ·have hc := of_decide_eq_true hc
   have h := ifT hc h
   refine AW.rgs rfl fun K hK => ?_
   refine mv rfl rfl ?_
   refine b_fin hK (s' := ⟨[(4, HV.int .i64 1)], []⟩) (le_q rfl rfl) ?_
   clear hK K
   have h := hr4 _ h
   refine AW.ret ?_
   have h := Option.some.inj h
   subst h
   exact ret_pure (hs := [HV.int .i64 1]) (q := HV.int .i64 1) (.inr rfl) (resT rfl rfl) rfl trivial
  have hc := of_decide_eq_false hc
  have h := ifF hc h
  refine AW.skip ?_
  refine AW.rg rfl fun K hK => ?_
  refine mv rfl rfl ?_
  refine bv rfl (v_bin rfl rfl b_add) ?_
  refine mv rfl rfl ?_
  refine b_nil (hK _ ?_)
  clear hK K
  exact to_le (s' := ⟨[(5, slE eInt [p0.1, p0.2.1, p0.2.2]), (6, slE eInt [p1.1, p1.2.1, p1.2.2]), (7, HV.int .i64 (IntKind.wrap .i64 (a1 + 1)))], []⟩) (AS.le_of ⟨rfl, rfl, rfl, trivial⟩ trivial) ⟨IntKind.wrap .i64 (a1 + 1), (), h, rfl⟩
 have hc := of_decide_eq_false hc
 have h := ifF hc h
 refine AW.exit ?_
 exact to_le (s' := ⟨[], []⟩) (AS.le_of trivial trivial) ⟨(), (), h, rfl⟩

set_option maxHeartbeats 1600000 in
set_option maxRecDepth 100000 in
theorem w_ref09_Check {p0 : TLabelsStatesEdges} {r : Int} (h : m_ref09_Check p0 = some r) : Pure Tryz.prog 26 [HV.agg [HV.int .i64 p0.1, HV.int .i64 p0.2.1, slE eFromLabelTo p0.2.2]] (· = HV.int .i64 r) := by
 unfold m_ref09_Check at h
 refine Pure.of_body Tryz.func26 rfl rfl (Nat.le_of_ble_eq_true rfl) fun hf => ?_
 unfold Tryz.f26
 dsimp only [enumS, Nat.reduceAdd]
 refine AW.rgs rfl fun K hK => ?_
 refine b_op rfl (o_box rfl rfl rfl ?_)
 refine mv rfl rfl ?_
 refine b_fin hK (s' := ⟨[(1, HV.fptr [HV.int .i64 p0.1, HV.int .i64 p0.2.1, slE eFromLabelTo p0.2.2] 0)], []⟩) (le_q rfl rfl) ?_
 clear hK K
 refine AW.seq ?_
 refine AW.seqJ h (S := Bool) (V := Unit) (fun a v => ⟨[(1, HV.fptr [HV.int .i64 p0.1, HV.int .i64 p0.2.1, slE eFromLabelTo p0.2.2] 0), (12, HV.bool a)], []⟩) (fun a1 w2 h => ?_) (fun k3 h => ?_)
 ·refine AW.cond rfl (fun hc => ?_) (fun hc => ?_)
  ·have h := ifT hc h
   refine AW.rgs rfl fun K hK => ?_
   refine mv rfl rfl ?_
   refine b_fin hK (s' := ⟨[(2, HV.int .i64 12)], []⟩) (le_q rfl rfl) ?_
   clear hK K
   refine AW.ret ?_
   have h := Option.some.inj h
   subst h
   exact ret_pure (hs := [HV.int .i64 12]) (q := HV.int .i64 12) (.inr rfl) (resT rfl rfl) rfl trivial
  have h := ifF (bF' hc) h
  refine AW.skip ?_
  refine AW.seq ?_
  refine AW.rgs rfl fun K hK => ?_
  refine bv rfl (v_fieldAddrF fo24_1 rfl) ?_
  refine bv rfl (v_loadF ty3 rfl (l_lit rfl rfl)) ?_
  refine bv rfl (v_bin rfl rfl b_lss) ?_
  refine b_fin hK (s' := ⟨[(1, HV.fptr [HV.int .i64 p0.1, HV.int .i64 p0.2.1, slE eFromLabelTo p0.2.2] 0), (15, HV.bool (decide (p0.2.1 < 0)))], []⟩) (le_q rfl rfl) ?_
  clear hK K
  refine AW.cond rfl (fun hc => ?_) (fun hc => ?_)
  ·have hc := of_decide_eq_true hc
   have h := ifT hc h
   refine AW.rgs rfl fun K hK => ?_
   refine mv rfl rfl ?_
   refine b_fin hK (s' := ⟨[(2, HV.int .i64 2)], []⟩) (le_q rfl rfl) ?_
   clear hK K
   refine AW.ret ?_
   have h := Option.some.inj h
   subst h
   exact ret_pure (hs := [HV.int .i64 2]) (q := HV.int .i64 2) (.inr rfl) (resT rfl rfl) rfl trivial
  have hc := of_decide_eq_false hc
  have h := ifF hc h
  refine AW.skip ?_
  refine AW.seq ?_
  refine AW.seqJ h (S := Bool) (V := Unit) (fun a v => ⟨[(1, HV.fptr [HV.int .i64 p0.1, HV.int .i64 p0.2.1, slE eFromLabelTo p0.2.2] 0), (24, HV.bool a)], []⟩) (fun a4 w5 h => ?_) (fun k6 h => ?_)
  ·refine AW.cond rfl (fun hc => ?_) (fun hc => ?_)
   ·have h := ifT hc h
    refine AW.rgs rfl fun K hK => ?_
    refine mv rfl rfl ?_
    refine b_fin hK (s' := ⟨[(2, HV.int .i64 4)], []⟩) (le_q rfl rfl) ?_
    clear hK K
    refine AW.ret ?_
    have h := Option.some.inj h
    subst h
    exact ret_pure (hs := [HV.int .i64 4]) (q := HV.int .i64 4) (.inr rfl) (resT rfl rfl) rfl trivial
   have h := ifF (bF' hc) h
   refine AW.skip ?_
   refine AW.seq ?_
   refine AW.rgs rfl fun K hK => ?_
   refine mv rfl rfl ?_
   refine b_fin hK (s' := ⟨[(1, HV.fptr [HV.int .i64 p0.1, HV.int .i64 p0.2.1, slE eFromLabelTo p0.2.2] 0), (3, HV.int .i64 0)], []⟩) (le_q rfl rfl) ?_
   clear hK K
   refine AW.lpR h (by first | exact up_then | exact up_to) (S := Int) (V := Unit) (fun a v => ⟨[(1, HV.fptr [HV.int .i64 p0.1, HV.int .i64 p0.2.1, slE eFromLabelTo p0.2.2] 0), (3, HV.int .i64 a)], []⟩) ?_ (X := Unit) (W := Unit) (fun a v => ⟨[], []⟩) (fun a30 w31 h => ?_) (fun a7 w8 st9 h hr10=> ?_)
   ·exact to_le (s' := ⟨[(1, HV.fptr [HV.int .i64 p0.1, HV.int .i64 p0.2.1, slE eFromLabelTo p0.2.2] 0), (3, HV.int .i64 0)], []⟩) (AS.le_of ⟨rfl, rfl, trivial⟩ trivial) ⟨(), rfl⟩
   ·refine AW.rgs rfl fun K hK => ?_
    refine mv rfl rfl ?_
    refine b_fin hK (s' := ⟨[(2, HV.int .i64 0)], []⟩) (le_q rfl rfl) ?_
    clear hK K
    refine AW.ret ?_
    have h := Option.some.inj h
    subst h
    exact ret_pure (hs := [HV.int .i64 0]) (q := HV.int .i64 0) (.inr rfl) (resT rfl rfl) rfl trivial
   refine AW.seq ?_
   refine AW.rgs rfl fun K hK => ?_
   refine mv rfl rfl ?_
   refine bv rfl (v_fieldAddrF fo24_2 rfl) ?_
   refine bv rfl (v_loadF ty22 rfl (l_lit rfl rfl)) ?_
   refine bv rfl (v_lenF rfl rfl ty22 rfl) ?_
   refine bv rfl (v_bin rfl rfl b_lss) ?_
   refine b_fin hK (s' := ⟨[(1, HV.fptr [HV.int .i64 p0.1, HV.int .i64 p0.2.1, slE eFromLabelTo p0.2.2] 0), (3, HV.int .i64 a7), (29, HV.bool (decide (a7 < ((p0.2.2).length : Int))))], []⟩) (le_q rfl rfl) ?_
   clear hK K
   refine AW.cond rfl (fun hc => ?_) (fun hc => ?_)
   ·have hc := of_decide_eq_true hc
    have h := ifT hc h
    refine AW.skip ?_
    refine AW.seq (AW.block ?_)
    refine AW.rgs rfl fun K hK => ?_
    refine bv rfl (v_fieldAddrF fo24_2 rfl) ?_
    refine bv rfl (v_loadF ty22 rfl (l_lit rfl rfl)) ?_
    refine mv rfl rfl ?_
    obtain ⟨x11, h12, h⟩ := bS h
    refine bv rfl (v_idxF ty22 es22 rfl rfl (idx_lt h12)) ?_
    refine bv rfl (v_loadF ty44 rfl (l_agg eFromLabelTo h12 rfl rfl)) ?_
    refine b_op rfl (o_alloc (fid := 26) (zs := [HV.int .i64 0, HV.int .i64 0, HV.int .i64 0]) 26004 rfl rfl ty44 rfl (fun v13 => ?_))
    refine b_op rfl (o_store (cs := [HV.int .i64 x11.1, HV.int .i64 x11.2.1, HV.int .i64 x11.2.2]) (zs := [HV.int .i64 x11.1, HV.int .i64 x11.2.1, HV.int .i64 x11.2.2]) rfl rfl rfl ty44 rfl rfl rfl rfl rfl ?_)
    refine b_fin hK (s' := ⟨[(1, HV.fptr [HV.int .i64 p0.1, HV.int .i64 p0.2.1, slE eFromLabelTo p0.2.2] 0), (3, HV.int .i64 a7), (4, HV.ptr 26004 v13 0)], [(26004, v13, .arr 3 44 [HV.int .i64 x11.1, HV.int .i64 x11.2.1, HV.int .i64 x11.2.2])]⟩) (le_q rfl rfl) ?_
    clear hK K
    refine AW.seq ?_
    refine AW.seqJ h (S := Bool) (V := Unit) (fun a v => ⟨[(1, HV.fptr [HV.int .i64 p0.1, HV.int .i64 p0.2.1, slE eFromLabelTo p0.2.2] 0), (3, HV.int .i64 a7), (4, HV.ptr 26004 v13 0), (70, HV.bool a)], [(26004, v13, .arr 3 44 [HV.int .i64 x11.1, HV.int .i64 x11.2.1, HV.int .i64 x11.2.2])]⟩) (fun a14 w15 h => ?_) (fun k16 h => ?_)
    ·refine AW.cond rfl (fun hc => ?_) (fun hc => ?_)
     ·have h := ifT hc h
      refine AW.rgs rfl fun K hK => ?_
      refine mv rfl rfl ?_
      refine b_fin hK (s' := ⟨[(2, HV.int .i64 2)], []⟩) (le_q rfl rfl) ?_
      clear hK K
      have h := hr10 _ h
      refine AW.ret ?_
      have h := Option.some.inj h
      subst h
      exact ret_pure (hs := [HV.int .i64 2]) (q := HV.int .i64 2) (.inr rfl) (resT rfl rfl) rfl trivial
     have h := ifF (bF' hc) h
     refine AW.skip ?_
     refine AW.seqJ h (S := Bool) (V := Unit) (fun a v => ⟨[(1, HV.fptr [HV.int .i64 p0.1, HV.int .i64 p0.2.1, slE eFromLabelTo p0.2.2] 0), (3, HV.int .i64 a7), (83, HV.bool a)], []⟩) (fun a17 w18 h => ?_) (fun k19 h => ?_)
     ·refine AW.cond rfl (fun hc => ?_) (fun hc => ?_)
      ·have h := ifT hc h
       refine AW.rgs rfl fun K hK => ?_
       refine mv rfl rfl ?_
       refine b_fin hK (s' := ⟨[(2, HV.int .i64 10)], []⟩) (le_q rfl rfl) ?_
       clear hK K
       have h := hr10 _ h
       refine AW.ret ?_
       have h := Option.some.inj h
       subst h
       exact ret_pure (hs := [HV.int .i64 10]) (q := HV.int .i64 10) (.inr rfl) (resT rfl rfl) rfl trivial
      have h := ifF (bF' hc) h
      refine AW.skip ?_
      refine AW.rg rfl fun K hK => ?_
      refine mv rfl rfl ?_
      refine bv rfl (v_bin rfl rfl b_add) ?_
      refine mv rfl rfl ?_
      refine b_nil (hK _ ?_)
      clear hK K
      exact to_le (s' := ⟨[(1, HV.fptr [HV.int .i64 p0.1, HV.int .i64 p0.2.1, slE eFromLabelTo p0.2.2] 0), (3, HV.int .i64 (IntKind.wrap .i64 (a7 + 1)))], []⟩) (AS.le_of ⟨rfl, rfl, trivial⟩ trivial) ⟨IntKind.wrap .i64 (a7 + 1), (), h, rfl⟩
     refine AW.dg 13 follows rfl rfl fun K hK => ?_
     refine sm rfl rfl ?_
     refine sv rfl (v_bin rfl rfl b_gtr) ?_
     refine sm rfl rfl ?_
     by_cases hg24 : 0 < a7
     ·have h := ifT hg24 h
      refine s_T rfl rfl rfl rfl rfl (decide_eq_true hg24) (ops_val rfl (v_fieldAddrF fo24_2 rfl) ?_)
      refine s_T rfl rfl rfl rfl rfl rfl (ops_val rfl (v_loadF ty22 rfl (l_lit rfl rfl)) ?_)
      refine s_T rfl rfl rfl rfl rfl rfl (ops_val rfl (mv_val rfl rfl).2 ?_)
      refine s_T rfl rfl rfl rfl rfl rfl (ops_val rfl (v_bin rfl rfl b_sub) ?_)
      obtain ⟨x20, h21, h⟩ := bS h
      refine s_T rfl rfl rfl rfl rfl rfl (ops_val rfl (v_idxF ty22 es22 rfl rfl (idx_lt h21)) ?_)
      refine s_T rfl rfl rfl rfl rfl rfl (ops_val rfl (v_loadF ty44 rfl (l_agg eFromLabelTo h21 rfl rfl)) ?_)
      refine s_T rfl rfl rfl rfl rfl rfl (ops_val rfl (v_loadP ty44 rfl rfl (l_litA rfl (Nat.le_of_ble_eq_true rfl) rfl)) ?_)
      obtain ⟨x22, h23, h⟩ := bS h
      refine s_T rfl rfl rfl rfl rfl rfl (ops_call rfl rfl rfl rfl (ACallD.pure0 (w_ref09_Compare h23)) ?_)
      refine s_T rfl rfl rfl rfl rfl rfl (ops_val rfl (v_bin rfl rfl b_geq) ?_)
      refine sv rfl (v_pickT rfl rfl rfl) ?_
      refine s_nil ?_
      refine b_nil (hK _ ?_)
      clear hK K
      exact to_le (s' := ⟨[(1, HV.fptr [HV.int .i64 p0.1, HV.int .i64 p0.2.1, slE eFromLabelTo p0.2.2] 0), (3, HV.int .i64 a7), (83, HV.bool (decide (0 ≤ x22)))], []⟩) (AS.le_of ⟨rfl, rfl, rfl, trivial⟩ trivial) ⟨decide (0 ≤ x22), (), h, rfl⟩
     have h := ifF hg24 h
     refine s_F rfl rfl rfl rfl rfl (decide_eq_false hg24) ?_
     refine s_F rfl rfl rfl rfl rfl rfl ?_
     refine s_F rfl rfl rfl rfl rfl rfl ?_
     refine s_F rfl rfl rfl rfl rfl rfl ?_
     refine s_F rfl rfl rfl rfl rfl rfl ?_
     refine s_F rfl rfl rfl rfl rfl rfl ?_
     refine s_F rfl rfl rfl rfl rfl rfl ?_
     refine s_F rfl rfl rfl rfl rfl rfl ?_
     refine s_F rfl rfl rfl rfl rfl rfl ?_
     refine sv rfl (v_pickF rfl rfl rfl) ?_
     refine s_nil ?_
     refine b_nil (hK _ ?_)
     clear hK K
     exact to_le (s' := ⟨[(1, HV.fptr [HV.int .i64 p0.1, HV.int .i64 p0.2.1, slE eFromLabelTo p0.2.2] 0), (3, HV.int .i64 a7), (83, HV.bool false)], []⟩) (AS.le_of ⟨rfl, rfl, rfl, trivial⟩ trivial) ⟨false, (), h, rfl⟩
    refine AW.rg rfl fun K hK => ?_
    refine bv rfl (v_fieldAddrP fo44_0 rfl rfl) ?_
    refine bv rfl (v_loadP ty3 rfl rfl (l_lit rfl rfl)) ?_
    refine bv rfl (v_bin rfl rfl b_lss) ?_
    refine mv rfl rfl ?_
    by_cases hg29 : x11.1 < 0
    ·have h := ifT hg29 h
     refine b_F rfl rfl rfl rfl rfl (decide_eq_true hg29) ?_
     refine b_F rfl rfl rfl rfl rfl rfl ?_
     refine b_F rfl rfl rfl rfl rfl rfl ?_
     refine b_F rfl rfl rfl rfl rfl rfl ?_
     refine b_F rfl rfl rfl rfl rfl rfl ?_
     refine bv rfl (v_pickT rfl rfl rfl) ?_
     refine mv rfl rfl ?_
     refine b_F rfl rfl rfl rfl rfl rfl ?_
     refine b_F rfl rfl rfl rfl rfl rfl ?_
     refine b_F rfl rfl rfl rfl rfl rfl ?_
     refine bv rfl (v_pickT rfl rfl rfl) ?_
     refine mv rfl rfl ?_
     refine b_F rfl rfl rfl rfl rfl rfl ?_
     refine b_F rfl rfl rfl rfl rfl rfl ?_
     refine b_F rfl rfl rfl rfl rfl rfl ?_
     refine b_F rfl rfl rfl rfl rfl rfl ?_
     refine b_F rfl rfl rfl rfl rfl rfl ?_
     refine bv rfl (v_pickT rfl rfl rfl) ?_
     refine mv rfl rfl ?_
     refine b_F rfl rfl rfl rfl rfl rfl ?_
     refine b_F rfl rfl rfl rfl rfl rfl ?_
     refine b_F rfl rfl rfl rfl rfl rfl ?_
     refine bv rfl (v_pickT rfl rfl rfl) ?_
     refine mv rfl rfl ?_
     refine b_F rfl rfl rfl rfl rfl rfl ?_
     refine b_F rfl rfl rfl rfl rfl rfl ?_
     refine b_F rfl rfl rfl rfl rfl rfl ?_
     refine b_F rfl rfl rfl rfl rfl rfl ?_
     refine b_F rfl rfl rfl rfl rfl rfl ?_
     refine bv rfl (v_pickT rfl rfl rfl) ?_
     refine b_nil (hK _ ?_)
     clear hK K
     exact to_le (s' := ⟨[(1, HV.fptr [HV.int .i64 p0.1, HV.int .i64 p0.2.1, slE eFromLabelTo p0.2.2] 0), (3, HV.int .i64 a7), (4, HV.ptr 26004 v13 0), (70, HV.bool true)], [(26004, v13, .arr 3 44 [HV.int .i64 x11.1, HV.int .i64 x11.2.1, HV.int .i64 x11.2.2])]⟩) (AS.le_of ⟨rfl, rfl, rfl, rfl, trivial⟩ ⟨rfl, trivial⟩) ⟨true, (), h, rfl⟩
    have h := ifF hg29 h
    refine b_T rfl rfl rfl rfl (decide_eq_false hg29) (o_val rfl (v_fieldAddrP fo44_0 rfl rfl) ?_)
    refine b_T rfl rfl rfl rfl rfl (o_val rfl (v_loadP ty3 rfl rfl (l_lit rfl rfl)) ?_)
    refine b_T rfl rfl rfl rfl rfl (o_val rfl (v_fieldAddrF fo24_1 rfl) ?_)
    refine b_T rfl rfl rfl rfl rfl (o_val rfl (v_loadF ty3 rfl (l_lit rfl rfl)) ?_)
    refine b_T rfl rfl rfl rfl rfl (o_val rfl (v_bin rfl rfl b_geq) ?_)
    refine bv rfl (v_pickF rfl rfl rfl) ?_
    refine mv rfl rfl ?_
    by_cases hg28 : p0.2.1 ≤ x11.1
    ·have h := ifT hg28 h
     refine b_F rfl rfl rfl rfl rfl (decide_eq_true hg28) ?_
     refine b_F rfl rfl rfl rfl rfl rfl ?_
     refine b_F rfl rfl rfl rfl rfl rfl ?_
     refine bv rfl (v_pickT rfl rfl rfl) ?_
     refine mv rfl rfl ?_
     refine b_F rfl rfl rfl rfl rfl rfl ?_
     refine b_F rfl rfl rfl rfl rfl rfl ?_
     refine b_F rfl rfl rfl rfl rfl rfl ?_
     refine b_F rfl rfl rfl rfl rfl rfl ?_
     refine b_F rfl rfl rfl rfl rfl rfl ?_
     refine bv rfl (v_pickT rfl rfl rfl) ?_
     refine mv rfl rfl ?_
     refine b_F rfl rfl rfl rfl rfl rfl ?_
     refine b_F rfl rfl rfl rfl rfl rfl ?_
     refine b_F rfl rfl rfl rfl rfl rfl ?_
     refine bv rfl (v_pickT rfl rfl rfl) ?_
     refine mv rfl rfl ?_
     refine b_F rfl rfl rfl rfl rfl rfl ?_
     refine b_F rfl rfl rfl rfl rfl rfl ?_
     refine b_F rfl rfl rfl rfl rfl rfl ?_
     refine b_F rfl rfl rfl rfl rfl rfl ?_
     refine b_F rfl rfl rfl rfl rfl rfl ?_
     refine bv rfl (v_pickT rfl rfl rfl) ?_
     refine b_nil (hK _ ?_)
     clear hK K
     exact to_le (s' := ⟨[(1, HV.fptr [HV.int .i64 p0.1, HV.int .i64 p0.2.1, slE eFromLabelTo p0.2.2] 0), (3, HV.int .i64 a7), (4, HV.ptr 26004 v13 0), (70, HV.bool true)], [(26004, v13, .arr 3 44 [HV.int .i64 x11.1, HV.int .i64 x11.2.1, HV.int .i64 x11.2.2])]⟩) (AS.le_of ⟨rfl, rfl, rfl, rfl, trivial⟩ ⟨rfl, trivial⟩) ⟨true, (), h, rfl⟩
    have h := ifF hg28 h
    refine b_T rfl rfl rfl rfl (decide_eq_false hg28) (o_val rfl (v_fieldAddrP fo44_2 rfl rfl) ?_)
    refine b_T rfl rfl rfl rfl rfl (o_val rfl (v_loadP ty3 rfl rfl (l_lit rfl rfl)) ?_)
    refine b_T rfl rfl rfl rfl rfl (o_val rfl (v_bin rfl rfl b_lss) ?_)
    refine bv rfl (v_pickF rfl rfl rfl) ?_
    refine mv rfl rfl ?_
    by_cases hg27 : x11.2.2 < 0
    ·have h := ifT hg27 h
     refine b_F rfl rfl rfl rfl rfl (decide_eq_true hg27) ?_
     refine b_F rfl rfl rfl rfl rfl rfl ?_
     refine b_F rfl rfl rfl rfl rfl rfl ?_
     refine b_F rfl rfl rfl rfl rfl rfl ?_
     refine b_F rfl rfl rfl rfl rfl rfl ?_
     refine bv rfl (v_pickT rfl rfl rfl) ?_
     refine mv rfl rfl ?_
     refine b_F rfl rfl rfl rfl rfl rfl ?_
     refine b_F rfl rfl rfl rfl rfl rfl ?_
     refine b_F rfl rfl rfl rfl rfl rfl ?_
     refine bv rfl (v_pickT rfl rfl rfl) ?_
     refine mv rfl rfl ?_
     refine b_F rfl rfl rfl rfl rfl rfl ?_
     refine b_F rfl rfl rfl rfl rfl rfl ?_
     refine b_F rfl rfl rfl rfl rfl rfl ?_
     refine b_F rfl rfl rfl rfl rfl rfl ?_
     refine b_F rfl rfl rfl rfl rfl rfl ?_
     refine bv rfl (v_pickT rfl rfl rfl) ?_
     refine b_nil (hK _ ?_)
     clear hK K
     exact to_le (s' := ⟨[(1, HV.fptr [HV.int .i64 p0.1, HV.int .i64 p0.2.1, slE eFromLabelTo p0.2.2] 0), (3, HV.int .i64 a7), (4, HV.ptr 26004 v13 0), (70, HV.bool true)], [(26004, v13, .arr 3 44 [HV.int .i64 x11.1, HV.int .i64 x11.2.1, HV.int .i64 x11.2.2])]⟩) (AS.le_of ⟨rfl, rfl, rfl, rfl, trivial⟩ ⟨rfl, trivial⟩) ⟨true, (), h, rfl⟩
    have h := ifF hg27 h
    refine b_T rfl rfl rfl rfl (decide_eq_false hg27) (o_val rfl (v_fieldAddrP fo44_2 rfl rfl) ?_)
    refine b_T rfl rfl rfl rfl rfl (o_val rfl (v_loadP ty3 rfl rfl (l_lit rfl rfl)) ?_)
    refine b_T rfl rfl rfl rfl rfl (o_val rfl (v_fieldAddrF fo24_1 rfl) ?_)
    refine b_T rfl rfl rfl rfl rfl (o_val rfl (v_loadF ty3 rfl (l_lit rfl rfl)) ?_)
    refine b_T rfl rfl rfl rfl rfl (o_val rfl (v_bin rfl rfl b_geq) ?_)
    refine bv rfl (v_pickF rfl rfl rfl) ?_
    refine mv rfl rfl ?_
    by_cases hg26 : p0.2.1 ≤ x11.2.2
    ·have h := ifT hg26 h
     refine b_F rfl rfl rfl rfl rfl (decide_eq_true hg26) ?_
     refine b_F rfl rfl rfl rfl rfl rfl ?_
     refine b_F rfl rfl rfl rfl rfl rfl ?_
     refine bv rfl (v_pickT rfl rfl rfl) ?_
     refine mv rfl rfl ?_
     refine b_F rfl rfl rfl rfl rfl rfl ?_
     refine b_F rfl rfl rfl rfl rfl rfl ?_
     refine b_F rfl rfl rfl rfl rfl rfl ?_
     refine b_F rfl rfl rfl rfl rfl rfl ?_
     refine b_F rfl rfl rfl rfl rfl rfl ?_
     refine bv rfl (v_pickT rfl rfl rfl) ?_
     refine b_nil (hK _ ?_)
     clear hK K
     exact to_le (s' := ⟨[(1, HV.fptr [HV.int .i64 p0.1, HV.int .i64 p0.2.1, slE eFromLabelTo p0.2.2] 0), (3, HV.int .i64 a7), (4, HV.ptr 26004 v13 0), (70, HV.bool true)], [(26004, v13, .arr 3 44 [HV.int .i64 x11.1, HV.int .i64 x11.2.1, HV.int .i64 x11.2.2])]⟩) (AS.le_of ⟨rfl, rfl, rfl, rfl, trivial⟩ ⟨rfl, trivial⟩) ⟨true, (), h, rfl⟩
    have h := ifF hg26 h
    refine b_T rfl rfl rfl rfl (decide_eq_false hg26) (o_val rfl (v_fieldAddrP fo44_1 rfl rfl) ?_)
    refine b_T rfl rfl rfl rfl rfl (o_val rfl (v_loadP ty3 rfl rfl (l_lit rfl rfl)) ?_)
    refine b_T rfl rfl rfl rfl rfl (o_val rfl (v_bin rfl rfl b_lss) ?_)
    refine bv rfl (v_pickF rfl rfl rfl) ?_
    refine mv rfl rfl ?_
    by_cases hg25 : x11.2.1 < 0
    ·have h := ifT hg25 h
     refine b_F rfl rfl rfl rfl rfl (decide_eq_true hg25) ?_
     refine b_F rfl rfl rfl rfl rfl rfl ?_
     refine b_F rfl rfl rfl rfl rfl rfl ?_
     refine b_F rfl rfl rfl rfl rfl rfl ?_
     refine b_F rfl rfl rfl rfl rfl rfl ?_
     refine bv rfl (v_pickT rfl rfl rfl) ?_
     refine b_nil (hK _ ?_)
     clear hK K
     exact to_le (s' := ⟨[(1, HV.fptr [HV.int .i64 p0.1, HV.int .i64 p0.2.1, slE eFromLabelTo p0.2.2] 0), (3, HV.int .i64 a7), (4, HV.ptr 26004 v13 0), (70, HV.bool true)], [(26004, v13, .arr 3 44 [HV.int .i64 x11.1, HV.int .i64 x11.2.1, HV.int .i64 x11.2.2])]⟩) (AS.le_of ⟨rfl, rfl, rfl, rfl, trivial⟩ ⟨rfl, trivial⟩) ⟨true, (), h, rfl⟩
    have h := ifF hg25 h
    refine b_T rfl rfl rfl rfl (decide_eq_false hg25) (o_val rfl (v_fieldAddrP fo44_1 rfl rfl) ?_)
    refine b_T rfl rfl rfl rfl rfl (o_val rfl (v_loadP ty3 rfl rfl (l_lit rfl rfl)) ?_)
    refine b_T rfl rfl rfl rfl rfl (o_val rfl (v_fieldAddrF fo24_0 rfl) ?_)
    refine b_T rfl rfl rfl rfl rfl (o_val rfl (v_loadF ty3 rfl (l_lit rfl rfl)) ?_)
    refine b_T rfl rfl rfl rfl rfl (o_val rfl (v_bin rfl rfl b_geq) ?_)
    refine bv rfl (v_pickF rfl rfl rfl) ?_
    refine b_nil (hK _ ?_)
    clear hK K
    exact to_le (s' := ⟨[(1, HV.fptr [HV.int .i64 p0.1, HV.int .i64 p0.2.1, slE eFromLabelTo p0.2.2] 0), (3, HV.int .i64 a7), (4, HV.ptr 26004 v13 0), (70, HV.bool (decide (p0.1 ≤ x11.2.1)))], [(26004, v13, .arr 3 44 [HV.int .i64 x11.1, HV.int .i64 x11.2.1, HV.int .i64 x11.2.2])]⟩) (AS.le_of ⟨rfl, rfl, rfl, rfl, trivial⟩ ⟨rfl, trivial⟩) ⟨decide (p0.1 ≤ x11.2.1), (), h, rfl⟩
   have hc := of_decide_eq_false hc
   have h := ifF hc h
   refine AW.exit ?_
   exact to_le (s' := ⟨[], []⟩) (AS.le_of trivial trivial) ⟨(), (), h, rfl⟩
  refine AW.rg rfl fun K hK => ?_
  refine bv rfl (v_fieldAddrF fo24_1 rfl) ?_
  refine bv rfl (v_loadF ty3 rfl (l_lit rfl rfl)) ?_
  refine bv rfl (v_bin rfl rfl b_gtr) ?_
  refine mv rfl rfl ?_
  by_cases hg32 : 64 < p0.2.1
  ·have h := ifT hg32 h
   refine b_F rfl rfl rfl rfl rfl (decide_eq_true hg32) ?_
   refine b_F rfl rfl rfl rfl rfl rfl ?_
   refine b_F rfl rfl rfl rfl rfl rfl ?_
   refine b_F rfl rfl rfl rfl rfl rfl ?_
   refine bv rfl (v_pickT rfl rfl rfl) ?_
   refine b_nil (hK _ ?_)
   clear hK K
   exact to_le (s' := ⟨[(1, HV.fptr [HV.int .i64 p0.1, HV.int .i64 p0.2.1, slE eFromLabelTo p0.2.2] 0), (24, HV.bool true)], []⟩) (AS.le_of ⟨rfl, rfl, trivial⟩ trivial) ⟨true, (), h, rfl⟩
  have h := ifF hg32 h
  refine b_T rfl rfl rfl rfl (decide_eq_false hg32) (o_val rfl (v_fieldAddrF fo24_2 rfl) ?_)
  refine b_T rfl rfl rfl rfl rfl (o_val rfl (v_loadF ty22 rfl (l_lit rfl rfl)) ?_)
  refine b_T rfl rfl rfl rfl rfl (o_val rfl (v_lenF rfl rfl ty22 rfl) ?_)
  refine b_T rfl rfl rfl rfl rfl (o_val rfl (v_bin rfl rfl b_gtr) ?_)
  refine bv rfl (v_pickF rfl rfl rfl) ?_
  refine b_nil (hK _ ?_)
  clear hK K
  exact to_le (s' := ⟨[(1, HV.fptr [HV.int .i64 p0.1, HV.int .i64 p0.2.1, slE eFromLabelTo p0.2.2] 0), (24, HV.bool (decide (1024 < ((p0.2.2).length : Int))))], []⟩) (AS.le_of ⟨rfl, rfl, trivial⟩ trivial) ⟨decide (1024 < ((p0.2.2).length : Int)), (), h, rfl⟩
 refine AW.rg rfl fun K hK => ?_
 refine bv rfl (v_fieldAddrF fo24_0 rfl) ?_
 refine bv rfl (v_loadF ty3 rfl (l_lit rfl rfl)) ?_
 refine bv rfl (v_bin rfl rfl b_lss) ?_
 refine mv rfl rfl ?_
 by_cases hg33 : p0.1 < 1
 ·have h := ifT hg33 h
  refine b_F rfl rfl rfl rfl rfl (decide_eq_true hg33) ?_
  refine b_F rfl rfl rfl rfl rfl rfl ?_
  refine b_F rfl rfl rfl rfl rfl rfl ?_
  refine bv rfl (v_pickT rfl rfl rfl) ?_
  refine b_nil (hK _ ?_)
  clear hK K
  exact to_le (s' := ⟨[(1, HV.fptr [HV.int .i64 p0.1, HV.int .i64 p0.2.1, slE eFromLabelTo p0.2.2] 0), (12, HV.bool true)], []⟩) (AS.le_of ⟨rfl, rfl, trivial⟩ trivial) ⟨true, (), h, rfl⟩
 have h := ifF hg33 h
 refine b_T rfl rfl rfl rfl (decide_eq_false hg33) (o_val rfl (v_fieldAddrF fo24_0 rfl) ?_)
 refine b_T rfl rfl rfl rfl rfl (o_val rfl (v_loadF ty3 rfl (l_lit rfl rfl)) ?_)
 refine b_T rfl rfl rfl rfl rfl (o_val rfl (v_bin rfl rfl b_gtr) ?_)
 refine bv rfl (v_pickF rfl rfl rfl) ?_
 refine b_nil (hK _ ?_)
 clear hK K
 exact to_le (s' := ⟨[(1, HV.fptr [HV.int .i64 p0.1, HV.int .i64 p0.2.1, slE eFromLabelTo p0.2.2] 0), (12, HV.bool (decide (256 < p0.1)))], []⟩) (AS.le_of ⟨rfl, rfl, trivial⟩ trivial) ⟨decide (256 < p0.1), (), h, rfl⟩

set_option maxHeartbeats 1600000 in
set_option maxRecDepth 100000 in
theorem w_law54_fine {p0 : TLabelsStatesEdges} {p1 : List UInt8} {r : Bool} (h : m_law54_fine p0 p1 = some r) : Pure Tryz.prog 8 [HV.agg [HV.int .i64 p0.1, HV.int .i64 p0.2.1, slE eFromLabelTo p0.2.2], HV.str p1] (· = HV.bool r) := by
 unfold m_law54_fine at h
 refine Pure.of_body Tryz.func8 rfl rfl (Nat.le_of_ble_eq_true rfl) fun hf => ?_
 unfold Tryz.f8
 dsimp only [enumS, Nat.reduceAdd]
 refine AW.rgs rfl fun K hK => ?_
 refine b_op rfl (o_box rfl rfl rfl ?_)
 refine mv rfl rfl ?_
 refine b_fin hK (s' := ⟨[(1, HV.str p1), (2, HV.fptr [HV.int .i64 p0.1, HV.int .i64 p0.2.1, slE eFromLabelTo p0.2.2] 0)], []⟩) (le_q rfl rfl) ?_
 clear hK K
 refine AW.seqJ h (S := Bool) (V := Unit) (fun a v => ⟨[(4, HV.bool a)], []⟩) (fun a1 w2 h => ?_) (fun k3 h => ?_)
 ·refine AW.ret ?_
  have h := Option.some.inj h
  subst h
  exact ret_pure (hs := [HV.bool a1]) (q := HV.bool a1) (.inr rfl) (resT rfl rfl) rfl trivial
 refine AW.rg rfl fun K hK => ?_
 refine bv rfl (v_loadF ty24 rfl (l_litA rfl (Nat.le_of_ble_eq_true rfl) rfl)) ?_
 obtain ⟨x4, h5, h⟩ := bS h
 refine b_op rfl (o_call rfl rfl rfl rfl (ACallD.pure0 (w_law54_great h5)) ?_)
 refine bv rfl (v_not rfl) ?_
 refine mv rfl rfl ?_
 by_cases hg14 : (!x4) = true
 ·have h := ifT hg14 h
  refine b_T rfl rfl rfl rfl hg14 (o_val rfl (v_loadF ty24 rfl (l_litA rfl (Nat.le_of_ble_eq_true rfl) rfl)) ?_)
  obtain ⟨x6, h7, h⟩ := bS h
  refine b_T rfl rfl rfl rfl rfl (o_call rfl rfl rfl rfl (ACallD.pure0 (w_ref09_Check h7)) ?_)
  refine b_T rfl rfl rfl rfl rfl (o_val rfl (v_bin rfl rfl b_eql) ?_)
  refine bv rfl (v_pickT rfl rfl rfl) ?_
  refine mv rfl rfl ?_
  by_cases hg13 : x6 = 0
  ·have h := ifT hg13 h
   refine b_T rfl rfl rfl rfl (decide_eq_true hg13) (o_val rfl (v_fieldAddrF fo24_0 rfl) ?_)
   refine b_T rfl rfl rfl rfl rfl (o_val rfl (v_loadF ty3 rfl (l_lit rfl rfl)) ?_)
   refine b_T rfl rfl rfl rfl rfl (o_val rfl (v_bin rfl rfl b_leq) ?_)
   refine bv rfl (v_pickT rfl rfl rfl) ?_
   refine mv rfl rfl ?_
   by_cases hg12 : p0.1 ≤ 3
   ·have h := ifT hg12 h
    refine b_T rfl rfl rfl rfl (decide_eq_true hg12) (o_val rfl (mv_val rfl rfl).2 ?_)
    refine b_T rfl rfl rfl rfl rfl (o_val rfl (v_bin rfl rfl b_sneq) ?_)
    refine bv rfl (v_pickT rfl rfl rfl) ?_
    refine mv rfl rfl ?_
    by_cases hg11 : p1 ≠ ([] : List UInt8)
    ·have h := ifT hg11 h
     refine b_T rfl rfl rfl rfl (decide_eq_true hg11) (o_val rfl (mv_val rfl rfl).2 ?_)
     refine b_T rfl rfl rfl rfl rfl (o_val rfl (v_lenS rfl rfl ty9 rfl) ?_)
     refine b_T rfl rfl rfl rfl rfl (o_val rfl (v_bin rfl rfl b_leq) ?_)
     refine bv rfl (v_pickT rfl rfl rfl) ?_
     refine mv rfl rfl ?_
     by_cases hg10 : ((p1).length : Int) ≤ 6
     ·have h := ifT hg10 h
      refine b_T rfl rfl rfl rfl (decide_eq_true hg10) (o_val rfl (v_fieldAddrF fo24_0 rfl) ?_)
      refine b_T rfl rfl rfl rfl rfl (o_val rfl (v_loadF ty3 rfl (l_lit rfl rfl)) ?_)
      refine b_T rfl rfl rfl rfl rfl (o_val rfl (mv_val rfl rfl).2 ?_)
      obtain ⟨x8, h9, h⟩ := bS h
      refine b_T rfl rfl rfl rfl rfl (o_call rfl rfl rfl rfl (ACallD.pure0 (w_word_Check h9)) ?_)
      refine b_T rfl rfl rfl rfl rfl (o_val rfl (v_bin rfl rfl b_eql) ?_)
      refine bv rfl (v_pickT rfl rfl rfl) ?_
      refine mv rfl rfl ?_
      refine b_nil (hK _ ?_)
      clear hK K
      exact to_le (s' := ⟨[(4, HV.bool (decide (x8 = 0)))], []⟩) (AS.le_of ⟨rfl, trivial⟩ trivial) ⟨decide (x8 = 0), (), h, rfl⟩
     have h := ifF hg10 h
     refine b_F rfl rfl rfl rfl rfl (decide_eq_false hg10) ?_
     refine b_F rfl rfl rfl rfl rfl rfl ?_
     refine b_F rfl rfl rfl rfl rfl rfl ?_
     refine b_F rfl rfl rfl rfl rfl rfl ?_
     refine b_F rfl rfl rfl rfl rfl rfl ?_
     refine bv rfl (v_pickF rfl rfl rfl) ?_
     refine mv rfl rfl ?_
     refine b_nil (hK _ ?_)
     clear hK K
     exact to_le (s' := ⟨[(4, HV.bool false)], []⟩) (AS.le_of ⟨rfl, trivial⟩ trivial) ⟨false, (), h, rfl⟩
    have h := ifF hg11 h
    refine b_F rfl rfl rfl rfl rfl (decide_eq_false hg11) ?_
    refine b_F rfl rfl rfl rfl rfl rfl ?_
    refine b_F rfl rfl rfl rfl rfl rfl ?_
    refine bv rfl (v_pickF rfl rfl rfl) ?_
    refine mv rfl rfl ?_
    refine b_F rfl rfl rfl rfl rfl rfl ?_
    refine b_F rfl rfl rfl rfl rfl rfl ?_
    refine b_F rfl rfl rfl rfl rfl rfl ?_
    refine b_F rfl rfl rfl rfl rfl rfl ?_
    refine b_F rfl rfl rfl rfl rfl rfl ?_
    refine bv rfl (v_pickF rfl rfl rfl) ?_
    refine mv rfl rfl ?_
    refine b_nil (hK _ ?_)
    clear hK K
    exact to_le (s' := ⟨[(4, HV.bool false)], []⟩) (AS.le_of ⟨rfl, trivial⟩ trivial) ⟨false, (), h, rfl⟩
   have h := ifF hg12 h
   refine b_F rfl rfl rfl rfl rfl (decide_eq_false hg12) ?_
   refine b_F rfl rfl rfl rfl rfl rfl ?_
   refine bv rfl (v_pickF rfl rfl rfl) ?_
   refine mv rfl rfl ?_
   refine b_F rfl rfl rfl rfl rfl rfl ?_
   refine b_F rfl rfl rfl rfl rfl rfl ?_
   refine b_F rfl rfl rfl rfl rfl rfl ?_
   refine bv rfl (v_pickF rfl rfl rfl) ?_
   refine mv rfl rfl ?_
   refine b_F rfl rfl rfl rfl rfl rfl ?_
   refine b_F rfl rfl rfl rfl rfl rfl ?_
   refine b_F rfl rfl rfl rfl rfl rfl ?_
   refine b_F rfl rfl rfl rfl rfl rfl ?_
   refine b_F rfl rfl rfl rfl rfl rfl ?_
   refine bv rfl (v_pickF rfl rfl rfl) ?_
   refine mv rfl rfl ?_
   refine b_nil (hK _ ?_)
   clear hK K
   exact to_le (s' := ⟨[(4, HV.bool false)], []⟩) (AS.le_of ⟨rfl, trivial⟩ trivial) ⟨false, (), h, rfl⟩
  have h := ifF hg13 h
  refine b_F rfl rfl rfl rfl rfl (decide_eq_false hg13) ?_
  refine b_F rfl rfl rfl rfl rfl rfl ?_
  refine b_F rfl rfl rfl rfl rfl rfl ?_
  refine bv rfl (v_pickF rfl rfl rfl) ?_
  refine mv rfl rfl ?_
  refine b_F rfl rfl rfl rfl rfl rfl ?_
  refine b_F rfl rfl rfl rfl rfl rfl ?_
  refine bv rfl (v_pickF rfl rfl rfl) ?_
  refine mv rfl rfl ?_
  refine b_F rfl rfl rfl rfl rfl rfl ?_
  refine b_F rfl rfl rfl rfl rfl rfl ?_
  refine b_F rfl rfl rfl rfl rfl rfl ?_
  refine bv rfl (v_pickF rfl rfl rfl) ?_
  refine mv rfl rfl ?_
  refine b_F rfl rfl rfl rfl rfl rfl ?_
  refine b_F rfl rfl rfl rfl rfl rfl ?_
  refine b_F rfl rfl rfl rfl rfl rfl ?_
  refine b_F rfl rfl rfl rfl rfl rfl ?_
  refine b_F rfl rfl rfl rfl rfl rfl ?_
  refine bv rfl (v_pickF rfl rfl rfl) ?_
  refine mv rfl rfl ?_
  refine b_nil (hK _ ?_)
  clear hK K
  exact to_le (s' := ⟨[(4, HV.bool false)], []⟩) (AS.le_of ⟨rfl, trivial⟩ trivial) ⟨false, (), h, rfl⟩
 have h := ifF hg14 h
 refine b_F rfl rfl rfl rfl rfl (bF hg14) ?_
 refine b_F rfl rfl rfl rfl rfl rfl ?_
 refine b_F rfl rfl rfl rfl rfl rfl ?_
 refine bv rfl (v_pickF rfl rfl rfl) ?_
 refine mv rfl rfl ?_
 refine b_F rfl rfl rfl rfl rfl rfl ?_
 refine b_F rfl rfl rfl rfl rfl rfl ?_
 refine b_F rfl rfl rfl rfl rfl rfl ?_
 refine bv rfl (v_pickF rfl rfl rfl) ?_
 refine mv rfl rfl ?_
 refine b_F rfl rfl rfl rfl rfl rfl ?_
 refine b_F rfl rfl rfl rfl rfl rfl ?_
 refine bv rfl (v_pickF rfl rfl rfl) ?_
 refine mv rfl rfl ?_
 refine b_F rfl rfl rfl rfl rfl rfl ?_
 refine b_F rfl rfl rfl rfl rfl rfl ?_
 refine b_F rfl rfl rfl rfl rfl rfl ?_
 refine bv rfl (v_pickF rfl rfl rfl) ?_
 refine mv rfl rfl ?_
 refine b_F rfl rfl rfl rfl rfl rfl ?_
 refine b_F rfl rfl rfl rfl rfl rfl ?_
 refine b_F rfl rfl rfl rfl rfl rfl ?_
 refine b_F rfl rfl rfl rfl rfl rfl ?_
 refine b_F rfl rfl rfl rfl rfl rfl ?_
 refine bv rfl (v_pickF rfl rfl rfl) ?_
 refine mv rfl rfl ?_
 refine b_nil (hK _ ?_)
 clear hK K
 exact to_le (s' := ⟨[(4, HV.bool false)], []⟩) (AS.le_of ⟨rfl, trivial⟩ trivial) ⟨false, (), h, rfl⟩

set_option maxHeartbeats 1600000 in
set_option maxRecDepth 100000 in
theorem w_language_Words {p0 : TLabelsStatesEdges} {p1 : Int} {r : (List (List UInt8)) × Int} (h : m_language_Words p0 p1 = some r) : Pure Tryz.prog 10 [HV.agg [HV.int .i64 p0.1, HV.int .i64 p0.2.1, slE eFromLabelTo p0.2.2], HV.int .i64 p1] (· = HV.tup [slE eStr r.1, HV.int .i64 r.2]) := by
 unfold m_language_Words at h
 refine Pure.of_body Tryz.func10 rfl rfl (Nat.le_of_ble_eq_true rfl) fun hf => ?_
 unfold Tryz.f10
 dsimp only [enumS, Nat.reduceAdd]
 refine AW.rgs rfl fun K hK => ?_
 refine b_op rfl (o_box rfl rfl rfl ?_)
 refine mv rfl rfl ?_
 refine mv rfl rfl ?_
 refine b_fin hK (s' := ⟨[(1, HV.int .i64 p1), (2, HV.fptr [HV.int .i64 p0.1, HV.int .i64 p0.2.1, slE eFromLabelTo p0.2.2] 0)], []⟩) (le_q rfl rfl) ?_
 clear hK K
 refine AW.seq ?_
 refine AW.rgs rfl fun K hK => ?_
 refine bv rfl (v_loadF ty24 rfl (l_litA rfl (Nat.le_of_ble_eq_true rfl) rfl)) ?_
 refine mv rfl rfl ?_
 obtain ⟨x1, h2, h⟩ := bS h
 refine b_op rfl (o_call rfl rfl rfl rfl (ACallD.pure0 (w_language_lengths h2)) ?_)
 refine mv rfl rfl ?_
 refine b_fin hK (s' := ⟨[(1, HV.int .i64 p1), (2, HV.fptr [HV.int .i64 p0.1, HV.int .i64 p0.2.1, slE eFromLabelTo p0.2.2] 0), (6, HV.int .i64 x1)], []⟩) (le_q rfl rfl) ?_
 clear hK K
 refine AW.rgs rfl fun K hK => ?_
 refine mv rfl rfl ?_
 refine bv rfl (v_bin rfl rfl b_neq) ?_
 refine b_fin hK (s' := ⟨[(1, HV.int .i64 p1), (2, HV.fptr [HV.int .i64 p0.1, HV.int .i64 p0.2.1, slE eFromLabelTo p0.2.2] 0), (6, HV.int .i64 x1), (13, HV.bool (decide (x1 ≠ 0)))], []⟩) (le_q rfl rfl) ?_
 clear hK K
 refine AW.cond rfl (fun hc => ?_) (fun hc => ?_)
 ·have hc := of_decide_eq_true hc
  have h := ifT hc h
  refine AW.rgs rfl fun K hK => ?_
  refine mv rfl rfl ?_
  refine mv rfl rfl ?_
  refine mv rfl rfl ?_
  refine b_fin hK (s' := ⟨[(4, HV.v (.slice none 0 0)), (5, HV.int .i64 x1)], []⟩) (le_q rfl rfl) ?_
  clear hK K
  refine AW.to (to_weak ⟨[(4, slE eStr ([] : List (List UInt8))), (5, HV.int .i64 x1)], []⟩ ⟨⟨_, rfl, .nil _⟩, ⟨_, rfl, .refl _⟩, trivial⟩ trivial ?_)
  refine AW.ret ?_
  have h := Option.some.inj h
  subst h
  exact ret_pure (hs := [slE eStr ([] : List (List UInt8)), HV.int .i64 x1]) (q := HV.tup [slE eStr ([] : List (List UInt8)), HV.int .i64 x1]) (.inr rfl) (resT rfl (resT rfl rfl)) rfl ⟨(clean_slE fun _ _ => ⟨trivial, trivial⟩), trivial, trivial⟩
 have hc := of_decide_eq_false hc
 have h := ifF hc h
 refine AW.skip ?_
 refine AW.dys follows fun K hK => ?_
 refine y_st 4 rfl rfl ?_
 refine sv rfl (v_loadF ty24 rfl (l_litA rfl (Nat.le_of_ble_eq_true rfl) rfl)) ?_
 refine sv rfl (v_loadF ty24 rfl (l_litA rfl (Nat.le_of_ble_eq_true rfl) rfl)) ?_
 obtain ⟨x3, h4, h⟩ := bS h
 refine s_op rfl rfl (ops_call rfl rfl rfl rfl (ACallD.pure0 (w_language_states h4)) ?_)
 refine sm rfl rfl ?_
 refine s_nil ?_
 obtain ⟨x5, h6, h⟩ := bS h
 by_cases hg7 : x5.2 = true
 ·have h := ifT hg7 h
  refine y_op rfl rfl rfl rfl (o_callA rfl rfl rfl rfl (c_listT h6 hg7 fun i8 v9 es10 hes11 => ?_) )
  refine b_nil ?_
  refine y_st 10 rfl rfl ?_
  refine sm rfl rfl ?_
  refine sv rfl (v_extract rfl rfl) ?_
  refine sv rfl (v_extract rfl rfl) ?_
  refine sm rfl rfl ?_
  refine sm rfl rfl ?_
  refine s_nil ?_
  refine y_nil rfl (hK _ (AW.to (to_le (s' := ⟨[(7, HV.mp i8 v9), (8, HV.bool true)], [(i8, v9, .map es10)]⟩) (AS.le_of ⟨rfl, rfl, trivial⟩ ⟨hget_0, trivial⟩) ?_)))
  clear hK K
  refine AW.seq ?_
  refine AW.rgs rfl fun K hK => ?_
  refine mv rfl rfl ?_
  refine bv rfl (v_not rfl) ?_
  refine b_fin hK (s' := ⟨[(7, HV.mp i8 v9), (24, HV.bool false)], [(i8, v9, .map es10)]⟩) (AS.le_of ⟨rfl, rfl, trivial⟩ ⟨hget_0, trivial⟩) ?_
  clear hK K
  refine AW.cond rfl (fun hc => by cases hc) (fun _ => ?_)
  refine AW.skip ?_
  refine AW.rgs rfl fun K hK => ?_
  refine mv rfl rfl ?_
  refine b_op rfl (o_callK [(i8, v9, .map es10)] rfl rfl rfl rfl (fun K hK => w82 hK) ?_)
  refine b_op rfl (o_callK (q := slE eStr (sortS ((x5.1).map Prod.fst))) [] rfl rfl rfl rfl (fun K hK => c_sortedKeys hes11 hK) ?_)
  refine mv rfl rfl ?_
  refine mv rfl rfl ?_
  refine b_fin hK (s' := ⟨[(4, slE eStr (sortS ((x5.1).map Prod.fst))), (5, HV.int .i64 0)], []⟩) (le_q rfl rfl) ?_
  clear hK K
  refine AW.ret ?_
  have h := Option.some.inj h
  subst h
  exact ret_pure (hs := [slE eStr (sortS ((x5.1).map Prod.fst)), HV.int .i64 0]) (q := HV.tup [slE eStr (sortS ((x5.1).map Prod.fst)), HV.int .i64 0]) (.inr rfl) (resT rfl (resT rfl rfl)) rfl ⟨(clean_slE fun _ _ => ⟨trivial, trivial⟩), trivial, trivial⟩
 have h := ifF hg7 h
 refine y_op rfl rfl rfl rfl (o_callA rfl rfl rfl rfl (c_listF h6 hg7 ?_) )
 refine b_nil ?_
 refine y_st 10 rfl rfl ?_
 refine sm rfl rfl ?_
 refine sv rfl (v_extract rfl rfl) ?_
 refine sv rfl (v_extract rfl rfl) ?_
 refine sm rfl rfl ?_
 refine sm rfl rfl ?_
 refine s_nil ?_
 refine y_nil rfl (hK _ (AW.to (to_le (s' := ⟨[(7, HV.v (.map none)), (8, HV.bool false)], []⟩) (le_q rfl rfl) ?_)))
 clear hK K
 refine AW.seq ?_
 refine AW.rgs rfl fun K hK => ?_
 refine mv rfl rfl ?_
 refine bv rfl (v_not rfl) ?_
 refine b_fin hK (s' := ⟨[(7, HV.v (.map none)), (24, HV.bool true)], []⟩) (le_q rfl rfl) ?_
 clear hK K
 refine AW.cond rfl (fun _ => ?_) (fun hc => by cases hc)
 refine AW.rgs rfl fun K hK => ?_
 refine mv rfl rfl ?_
 refine mv rfl rfl ?_
 refine b_fin hK (s' := ⟨[(4, HV.v (.slice none 0 0)), (5, HV.int .i64 4)], []⟩) (le_q rfl rfl) ?_
 clear hK K
 refine AW.to (to_weak ⟨[(4, slE eStr ([] : List (List UInt8))), (5, HV.int .i64 4)], []⟩ ⟨⟨_, rfl, .nil _⟩, ⟨_, rfl, .refl _⟩, trivial⟩ trivial ?_)
 refine AW.ret ?_
 have h := Option.some.inj h
 subst h
 exact ret_pure (hs := [slE eStr ([] : List (List UInt8)), HV.int .i64 4]) (q := HV.tup [slE eStr ([] : List (List UInt8)), HV.int .i64 4]) (.inr rfl) (resT rfl (resT rfl rfl)) rfl ⟨(clean_slE fun _ _ => ⟨trivial, trivial⟩), trivial, trivial⟩

end Go.AW

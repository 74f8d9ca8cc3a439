/- SyncmarkSearch: for every input the law's function returns true, and the input reads as it did. -/
import Derived.Test.YtnjepajbbkejeaaSe5
import Derived.ChangeMaps5
import Derived.HandedShaped
import Derived.OpenShut
import Derived.ProofKit
import Derived.SliceStrings
import Derived.Test.YtnjepajbbkejeaaRows
import Derived.WalkKit
import Derived.WideKeyArgs
namespace Go.AW
open Go Go.Proofs
set_option linter.unusedVariables false
set_option maxHeartbeats 1600000 in
set_option maxRecDepth 100000 in
theorem w_ref10_Great {p0 : TLabelsStatesEdges} {r : Bool} (h : m_ref10_Great p0 = some r) : Pure Try.prog 31 [HV.agg [HV.int .i64 p0.1, HV.int .i64 p0.2.1, slE eFromLabelTo p0.2.2]] (· = HV.bool r) := by
 unfold m_ref10_Great at h
 refine Pure.of_body Try.func31 rfl rfl (Nat.le_of_ble_eq_true rfl) fun hf => ?_
 unfold Try.f31
 dsimp only [enumS, Nat.reduceAdd]
 refine AW.rgs rfl fun K hK => ?_
 refine b_op rfl (o_box rfl rfl rfl ?_)
 refine mv rfl rfl ?_
 refine b_fin hK (s' := ⟨[(1, HV.fptr [HV.int .i64 p0.1, HV.int .i64 p0.2.1, slE eFromLabelTo p0.2.2] 0)], []⟩) (le_q rfl rfl) ?_
 clear hK K
 refine AW.seqJ h (S := Bool) (V := Unit) (fun a v => ⟨[(2, HV.bool a)], []⟩) (fun a1 w2 h => ?_) (fun k3 h => ?_)
 ·refine AW.ret ?_
  have h := Option.some.inj h
  subst h
  exact ret_pure (hs := [HV.bool a1]) (q := HV.bool a1) (.inr rfl) (resT rfl rfl) rfl trivial
 refine AW.rg rfl fun K hK => ?_
 refine bv rfl (v_fieldAddrF fo24_1 rfl) ?_
 refine bv rfl (v_loadF ty3 rfl (l_lit rfl rfl)) ?_
 refine bv rfl (v_bin rfl rfl b_gtr) ?_
 refine mv rfl rfl ?_
 by_cases hg9 : 8 < p0.2.1
 ·have h := ifT hg9 h
  refine b_T rfl rfl rfl rfl (decide_eq_true hg9) (o_val rfl (v_fieldAddrF fo24_1 rfl) ?_)
  refine b_T rfl rfl rfl rfl rfl (o_val rfl (v_loadF ty3 rfl (l_lit rfl rfl)) ?_)
  refine b_T rfl rfl rfl rfl rfl (o_val rfl (v_bin rfl rfl b_leq) ?_)
  refine bv rfl (v_pickT rfl rfl rfl) ?_
  refine mv rfl rfl ?_
  by_cases hg6 : p0.2.1 ≤ 64
  ·have h := ifT hg6 h
   refine b_F rfl rfl rfl rfl rfl (decide_eq_true hg6) ?_
   refine b_F rfl rfl rfl rfl rfl rfl ?_
   refine b_F rfl rfl rfl rfl rfl rfl ?_
   refine b_F rfl rfl rfl rfl rfl rfl ?_
   refine b_F rfl rfl rfl rfl rfl rfl ?_
   refine b_U rfl rfl rfl rfl rfl ?_
   refine b_U rfl rfl rfl rfl rfl ?_
   refine b_U rfl rfl rfl rfl rfl ?_
   refine b_U rfl rfl rfl rfl rfl ?_
   refine b_F rfl rfl rfl rfl rfl rfl ?_
   refine bv rfl (v_pickT rfl rfl rfl) ?_
   refine mv rfl rfl ?_
   refine b_F rfl rfl rfl rfl rfl rfl ?_
   refine b_F rfl rfl rfl rfl rfl rfl ?_
   refine b_F rfl rfl rfl rfl rfl rfl ?_
   refine b_F rfl rfl rfl rfl rfl rfl ?_
   refine bv rfl (v_pickT rfl rfl rfl) ?_
   refine mv rfl rfl ?_
   refine b_nil (hK _ ?_)
   clear hK K
   exact to_le (s' := ⟨[(2, HV.bool true)], []⟩) (AS.le_of ⟨rfl, trivial⟩ trivial) ⟨true, (), h, rfl⟩
  have h := ifF hg6 h
  refine b_T rfl rfl rfl rfl (decide_eq_false hg6) (o_val rfl (v_fieldAddrF fo24_2 rfl) ?_)
  refine b_T rfl rfl rfl rfl rfl (o_val rfl (v_loadF ty22 rfl (l_lit rfl rfl)) ?_)
  refine b_T rfl rfl rfl rfl rfl (o_val rfl (v_lenF rfl rfl ty22 rfl) ?_)
  refine b_T rfl rfl rfl rfl rfl (o_val rfl (v_bin rfl rfl b_gtr) ?_)
  refine b_T rfl rfl rfl rfl rfl (o_val rfl (mv_val rfl rfl).2 ?_)
  by_cases hg5 : 30 < ((p0.2.2).length : Int)
  ·have h := ifT hg5 h
   refine b_T rfl rfl rfl rfl (decide_eq_true hg5) (o_val rfl (v_fieldAddrF fo24_2 rfl) ?_)
   refine b_T rfl rfl rfl rfl rfl (o_val rfl (v_loadF ty22 rfl (l_lit rfl rfl)) ?_)
   refine b_T rfl rfl rfl rfl rfl (o_val rfl (v_lenF rfl rfl ty22 rfl) ?_)
   refine b_T rfl rfl rfl rfl rfl (o_val rfl (v_bin rfl rfl b_leq) ?_)
   refine b_T rfl rfl rfl rfl rfl (o_val rfl (v_pickT rfl rfl rfl) ?_)
   refine bv rfl (v_pickF rfl rfl rfl) ?_
   refine mv rfl rfl ?_
   by_cases hg4 : ((p0.2.2).length : Int) ≤ 1024
   ·have h := ifT hg4 h
    refine b_F rfl rfl rfl rfl rfl (decide_eq_true hg4) ?_
    refine b_F rfl rfl rfl rfl rfl rfl ?_
    refine b_F rfl rfl rfl rfl rfl rfl ?_
    refine b_F rfl rfl rfl rfl rfl rfl ?_
    refine bv rfl (v_pickT rfl rfl rfl) ?_
    refine mv rfl rfl ?_
    refine b_nil (hK _ ?_)
    clear hK K
    exact to_le (s' := ⟨[(2, HV.bool true)], []⟩) (AS.le_of ⟨rfl, trivial⟩ trivial) ⟨true, (), h, rfl⟩
   have h := ifF hg4 h
   refine b_T rfl rfl rfl rfl (decide_eq_false hg4) (o_val rfl (v_fieldAddrF fo24_2 rfl) ?_)
   refine b_T rfl rfl rfl rfl rfl (o_val rfl (v_loadF ty22 rfl (l_lit rfl rfl)) ?_)
   refine b_T rfl rfl rfl rfl rfl (o_val rfl (v_lenF rfl rfl ty22 rfl) ?_)
   refine b_T rfl rfl rfl rfl rfl (o_val rfl (v_bin rfl rfl b_gtr) ?_)
   refine bv rfl (v_pickF rfl rfl rfl) ?_
   refine mv rfl rfl ?_
   refine b_nil (hK _ ?_)
   clear hK K
   exact to_le (s' := ⟨[(2, HV.bool (decide (1027 < ((p0.2.2).length : Int))))], []⟩) (AS.le_of ⟨rfl, trivial⟩ trivial) ⟨decide (1027 < ((p0.2.2).length : Int)), (), h, rfl⟩
  have h := ifF hg5 h
  refine b_F rfl rfl rfl rfl rfl (decide_eq_false hg5) ?_
  refine b_F rfl rfl rfl rfl rfl rfl ?_
  refine b_F rfl rfl rfl rfl rfl rfl ?_
  refine b_F rfl rfl rfl rfl rfl rfl ?_
  refine b_T rfl rfl rfl rfl rfl (o_val rfl (v_pickF rfl rfl rfl) ?_)
  refine bv rfl (v_pickF rfl rfl rfl) ?_
  refine mv rfl rfl ?_
  refine b_T rfl rfl rfl rfl rfl (o_val rfl (v_fieldAddrF fo24_2 rfl) ?_)
  refine b_T rfl rfl rfl rfl rfl (o_val rfl (v_loadF ty22 rfl (l_lit rfl rfl)) ?_)
  refine b_T rfl rfl rfl rfl rfl (o_val rfl (v_lenF rfl rfl ty22 rfl) ?_)
  refine b_T rfl rfl rfl rfl rfl (o_val rfl (v_bin rfl rfl b_gtr) ?_)
  refine bv rfl (v_pickF rfl rfl rfl) ?_
  refine mv rfl rfl ?_
  refine b_nil (hK _ ?_)
  clear hK K
  exact to_le (s' := ⟨[(2, HV.bool (decide (1027 < ((p0.2.2).length : Int))))], []⟩) (AS.le_of ⟨rfl, trivial⟩ trivial) ⟨decide (1027 < ((p0.2.2).length : Int)), (), h, rfl⟩
 have h := ifF hg9 h
 refine b_F rfl rfl rfl rfl rfl (decide_eq_false hg9) ?_
 refine b_F rfl rfl rfl rfl rfl rfl ?_
 refine b_F rfl rfl rfl rfl rfl rfl ?_
 refine bv rfl (v_pickF rfl rfl rfl) ?_
 refine mv rfl rfl ?_
 refine b_T rfl rfl rfl rfl rfl (o_val rfl (v_fieldAddrF fo24_2 rfl) ?_)
 refine b_T rfl rfl rfl rfl rfl (o_val rfl (v_loadF ty22 rfl (l_lit rfl rfl)) ?_)
 refine b_T rfl rfl rfl rfl rfl (o_val rfl (v_lenF rfl rfl ty22 rfl) ?_)
 refine b_T rfl rfl rfl rfl rfl (o_val rfl (v_bin rfl rfl b_gtr) ?_)
 refine b_T rfl rfl rfl rfl rfl (o_val rfl (mv_val rfl rfl).2 ?_)
 by_cases hg8 : 30 < ((p0.2.2).length : Int)
 ·have h := ifT hg8 h
  refine b_T rfl rfl rfl rfl (decide_eq_true hg8) (o_val rfl (v_fieldAddrF fo24_2 rfl) ?_)
  refine b_T rfl rfl rfl rfl rfl (o_val rfl (v_loadF ty22 rfl (l_lit rfl rfl)) ?_)
  refine b_T rfl rfl rfl rfl rfl (o_val rfl (v_lenF rfl rfl ty22 rfl) ?_)
  refine b_T rfl rfl rfl rfl rfl (o_val rfl (v_bin rfl rfl b_leq) ?_)
  refine b_T rfl rfl rfl rfl rfl (o_val rfl (v_pickT rfl rfl rfl) ?_)
  refine bv rfl (v_pickF rfl rfl rfl) ?_
  refine mv rfl rfl ?_
  by_cases hg7 : ((p0.2.2).length : Int) ≤ 1024
  ·have h := ifT hg7 h
   refine b_F rfl rfl rfl rfl rfl (decide_eq_true hg7) ?_
   refine b_F rfl rfl rfl rfl rfl rfl ?_
   refine b_F rfl rfl rfl rfl rfl rfl ?_
   refine b_F rfl rfl rfl rfl rfl rfl ?_
   refine bv rfl (v_pickT rfl rfl rfl) ?_
   refine mv rfl rfl ?_
   refine b_nil (hK _ ?_)
   clear hK K
   exact to_le (s' := ⟨[(2, HV.bool true)], []⟩) (AS.le_of ⟨rfl, trivial⟩ trivial) ⟨true, (), h, rfl⟩
  have h := ifF hg7 h
  refine b_T rfl rfl rfl rfl (decide_eq_false hg7) (o_val rfl (v_fieldAddrF fo24_2 rfl) ?_)
  refine b_T rfl rfl rfl rfl rfl (o_val rfl (v_loadF ty22 rfl (l_lit rfl rfl)) ?_)
  refine b_T rfl rfl rfl rfl rfl (o_val rfl (v_lenF rfl rfl ty22 rfl) ?_)
  refine b_T rfl rfl rfl rfl rfl (o_val rfl (v_bin rfl rfl b_gtr) ?_)
  refine bv rfl (v_pickF rfl rfl rfl) ?_
  refine mv rfl rfl ?_
  refine b_nil (hK _ ?_)
  clear hK K
  exact to_le (s' := ⟨[(2, HV.bool (decide (1027 < ((p0.2.2).length : Int))))], []⟩) (AS.le_of ⟨rfl, trivial⟩ trivial) ⟨decide (1027 < ((p0.2.2).length : Int)), (), h, rfl⟩
 have h := ifF hg8 h
 refine b_F rfl rfl rfl rfl rfl (decide_eq_false hg8) ?_
 refine b_F rfl rfl rfl rfl rfl rfl ?_
 refine b_F rfl rfl rfl rfl rfl rfl ?_
 refine b_F rfl rfl rfl rfl rfl rfl ?_
 refine b_T rfl rfl rfl rfl rfl (o_val rfl (v_pickF rfl rfl rfl) ?_)
 refine bv rfl (v_pickF rfl rfl rfl) ?_
 refine mv rfl rfl ?_
 refine b_T rfl rfl rfl rfl rfl (o_val rfl (v_fieldAddrF fo24_2 rfl) ?_)
 refine b_T rfl rfl rfl rfl rfl (o_val rfl (v_loadF ty22 rfl (l_lit rfl rfl)) ?_)
 refine b_T rfl rfl rfl rfl rfl (o_val rfl (v_lenF rfl rfl ty22 rfl) ?_)
 refine b_T rfl rfl rfl rfl rfl (o_val rfl (v_bin rfl rfl b_gtr) ?_)
 refine bv rfl (v_pickF rfl rfl rfl) ?_
 refine mv rfl rfl ?_
 refine b_nil (hK _ ?_)
 clear hK K
 exact to_le (s' := ⟨[(2, HV.bool (decide (1027 < ((p0.2.2).length : Int))))], []⟩) (AS.le_of ⟨rfl, trivial⟩ trivial) ⟨decide (1027 < ((p0.2.2).length : Int)), (), h, rfl⟩

set_option maxHeartbeats 1600000 in
set_option maxRecDepth 100000 in
theorem w_law54_great {p0 : TLabelsStatesEdges} {r : Bool} (h : m_law54_great p0 = some r) : Pure Try.prog 7 [HV.agg [HV.int .i64 p0.1, HV.int .i64 p0.2.1, slE eFromLabelTo p0.2.2]] (· = HV.bool r) := by
 unfold m_law54_great at h
 refine Pure.of_body Try.func7 rfl rfl (Nat.le_of_ble_eq_true rfl) fun hf => ?_
 unfold Try.f7
 dsimp only [enumS, Nat.reduceAdd]
 refine AW.rgs rfl fun K hK => ?_
 refine b_op rfl (o_box rfl rfl rfl ?_)
 refine mv rfl rfl ?_
 refine b_fin hK (s' := ⟨[(1, HV.fptr [HV.int .i64 p0.1, HV.int .i64 p0.2.1, slE eFromLabelTo p0.2.2] 0)], []⟩) (le_q rfl rfl) ?_
 clear hK K
 refine AW.seqJ h (S := Bool) (V := Unit) (fun a v => ⟨[(2, HV.bool a)], []⟩) (fun a1 w2 h => ?_) (fun k3 h => ?_)
 ·refine AW.ret ?_
  have h := Option.some.inj h
  subst h
  exact ret_pure (hs := [HV.bool a1]) (q := HV.bool a1) (.inr rfl) (resT rfl rfl) rfl trivial
 refine AW.rg rfl fun K hK => ?_
 refine bv rfl (v_loadF ty24 rfl (l_litA rfl (Nat.le_of_ble_eq_true rfl) rfl)) ?_
 obtain ⟨x4, h5, h⟩ := bS h
 refine b_op rfl (o_call rfl rfl rfl rfl (ACallD.pure0 (w_ref10_Great h5)) ?_)
 refine mv rfl rfl ?_
 by_cases hg7 : x4 = true
 ·have h := ifT hg7 h
  refine b_F rfl rfl rfl rfl rfl hg7 ?_
  refine b_F rfl rfl rfl rfl rfl rfl ?_
  refine b_F rfl rfl rfl rfl rfl rfl ?_
  refine b_F rfl rfl rfl rfl rfl rfl ?_
  refine b_U rfl rfl rfl rfl rfl ?_
  refine b_U rfl rfl rfl rfl rfl ?_
  refine b_U rfl rfl rfl rfl rfl ?_
  refine b_F rfl rfl rfl rfl rfl rfl ?_
  refine bv rfl (v_pickT rfl rfl rfl) ?_
  refine mv rfl rfl ?_
  refine b_nil (hK _ ?_)
  clear hK K
  exact to_le (s' := ⟨[(2, HV.bool true)], []⟩) (AS.le_of ⟨rfl, trivial⟩ trivial) ⟨true, (), h, rfl⟩
 have h := ifF hg7 h
 refine b_T rfl rfl rfl rfl (bF hg7) (o_val rfl (v_fieldAddrF fo24_0 rfl) ?_)
 refine b_T rfl rfl rfl rfl rfl (o_val rfl (v_loadF ty3 rfl (l_lit rfl rfl)) ?_)
 refine b_T rfl rfl rfl rfl rfl (o_val rfl (v_bin rfl rfl b_gtr) ?_)
 refine b_T rfl rfl rfl rfl rfl (o_val rfl (mv_val rfl rfl).2 ?_)
 by_cases hg6 : 3 < p0.1
 ·have h := ifT hg6 h
  refine b_T rfl rfl rfl rfl (decide_eq_true hg6) (o_val rfl (v_fieldAddrF fo24_0 rfl) ?_)
  refine b_T rfl rfl rfl rfl rfl (o_val rfl (v_loadF ty3 rfl (l_lit rfl rfl)) ?_)
  refine b_T rfl rfl rfl rfl rfl (o_val rfl (v_bin rfl rfl b_leq) ?_)
  refine b_T rfl rfl rfl rfl rfl (o_val rfl (v_pickT rfl rfl rfl) ?_)
  refine bv rfl (v_pickF rfl rfl rfl) ?_
  refine mv rfl rfl ?_
  refine b_nil (hK _ ?_)
  clear hK K
  exact to_le (s' := ⟨[(2, HV.bool (decide (p0.1 ≤ 16)))], []⟩) (AS.le_of ⟨rfl, trivial⟩ trivial) ⟨decide (p0.1 ≤ 16), (), h, rfl⟩
 have h := ifF hg6 h
 refine b_F rfl rfl rfl rfl rfl (decide_eq_false hg6) ?_
 refine b_F rfl rfl rfl rfl rfl rfl ?_
 refine b_F rfl rfl rfl rfl rfl rfl ?_
 refine b_T rfl rfl rfl rfl rfl (o_val rfl (v_pickF rfl rfl rfl) ?_)
 refine bv rfl (v_pickF rfl rfl rfl) ?_
 refine mv rfl rfl ?_
 refine b_nil (hK _ ?_)
 clear hK K
 exact to_le (s' := ⟨[(2, HV.bool false)], []⟩) (AS.le_of ⟨rfl, trivial⟩ trivial) ⟨false, (), h, rfl⟩

set_option maxHeartbeats 1600000 in
set_option maxRecDepth 100000 in
theorem w_ref09_Compare {p0 : TFromLabelTo} {p1 : TFromLabelTo} {r : Int} (h : m_ref09_Compare p0 p1 = some r) : Pure Try.prog 50 [HV.agg [HV.int .i64 p0.1, HV.int .i64 p0.2.1, HV.int .i64 p0.2.2], HV.agg [HV.int .i64 p1.1, HV.int .i64 p1.2.1, HV.int .i64 p1.2.2]] (· = HV.int .i64 r) := by
 unfold m_ref09_Compare at h
 refine Pure.of_body Try.func50 rfl rfl (Nat.le_of_ble_eq_true rfl) fun hf => ?_
 unfold Try.f50
 dsimp only [enumS, Nat.reduceAdd]
 refine AW.rgs rfl fun K hK => ?_
 refine b_op rfl (o_box rfl rfl rfl ?_)
 refine b_op rfl (o_box rfl rfl rfl ?_)
 refine mv rfl rfl ?_
 refine b_fin hK (s' := ⟨[(2, HV.fptr [HV.int .i64 p0.1, HV.int .i64 p0.2.1, HV.int .i64 p0.2.2] 0), (3, HV.fptr [HV.int .i64 p1.1, HV.int .i64 p1.2.1, HV.int .i64 p1.2.2] 0)], []⟩) (le_q rfl rfl) ?_
 clear hK K
 refine AW.dgs 16 follows rfl rfl fun K hK => ?_
 refine sv rfl (v_fieldAddrF fo53_0 rfl) ?_
 refine sv rfl (v_loadF ty3 rfl (l_lit rfl rfl)) ?_
 refine sv rfl (v_fieldAddrF fo53_1 rfl) ?_
 refine sv rfl (v_loadF ty3 rfl (l_lit rfl rfl)) ?_
 refine sv rfl (v_fieldAddrF fo53_2 rfl) ?_
 refine sv rfl (v_loadF ty3 rfl (l_lit rfl rfl)) ?_
 refine s_op rfl rfl (ops_bsl rfl rfl (as_of (cs := [HV.int .i64 p0.1, HV.int .i64 p0.2.1, HV.int .i64 p0.2.2]) ty35 ty3 rfl rfl rfl rfl rfl) ?_)
 refine sv rfl (v_fieldAddrF fo53_0 rfl) ?_
 refine sv rfl (v_loadF ty3 rfl (l_lit rfl rfl)) ?_
 refine sv rfl (v_fieldAddrF fo53_1 rfl) ?_
 refine sv rfl (v_loadF ty3 rfl (l_lit rfl rfl)) ?_
 refine sv rfl (v_fieldAddrF fo53_2 rfl) ?_
 refine sv rfl (v_loadF ty3 rfl (l_lit rfl rfl)) ?_
 refine s_op rfl rfl (ops_bsl rfl rfl (as_of (cs := [HV.int .i64 p1.1, HV.int .i64 p1.2.1, HV.int .i64 p1.2.2]) ty35 ty3 rfl rfl rfl rfl rfl) ?_)
 refine sm rfl rfl ?_
 refine sm rfl rfl ?_
 refine s_nil ?_
 refine b_fin hK (s' := ⟨[(5, slE eInt [p0.1, p0.2.1, p0.2.2]), (6, slE eInt [p1.1, p1.2.1, p1.2.2])], []⟩) (le_q rfl rfl) ?_
 clear hK K
 refine AW.seq ?_
 refine AW.rgs rfl fun K hK => ?_
 refine mv rfl rfl ?_
 refine b_fin hK (s' := ⟨[(5, slE eInt [p0.1, p0.2.1, p0.2.2]), (6, slE eInt [p1.1, p1.2.1, p1.2.2]), (7, HV.int .i64 0)], []⟩) (le_q rfl rfl) ?_
 clear hK K
 refine AW.lpR h (by first | exact up_then | exact up_to) (S := Int) (V := Unit) (fun a v => ⟨[(5, slE eInt [p0.1, p0.2.1, p0.2.2]), (6, slE eInt [p1.1, p1.2.1, p1.2.2]), (7, HV.int .i64 a)], []⟩) ?_ (X := Unit) (W := Unit) (fun a v => ⟨[], []⟩) (fun a13 w14 h => ?_) (fun a1 w2 st3 h hr4=> ?_)
 ·exact to_le (s' := ⟨[(5, slE eInt [p0.1, p0.2.1, p0.2.2]), (6, slE eInt [p1.1, p1.2.1, p1.2.2]), (7, HV.int .i64 0)], []⟩) (AS.le_of ⟨rfl, rfl, rfl, trivial⟩ trivial) ⟨(), rfl⟩
 ·refine AW.rgs rfl fun K hK => ?_
  refine mv rfl rfl ?_
  refine b_fin hK (s' := ⟨[(4, HV.int .i64 0)], []⟩) (le_q rfl rfl) ?_
  clear hK K
  refine AW.ret ?_
  have h := Option.some.inj h
  subst h
  exact ret_pure (hs := [HV.int .i64 0]) (q := HV.int .i64 0) (.inr rfl) (resT rfl rfl) rfl trivial
 refine AW.seq ?_
 refine AW.rgs rfl fun K hK => ?_
 refine mv rfl rfl ?_
 refine bv rfl (v_bin rfl rfl b_lss) ?_
 refine b_fin hK (s' := ⟨[(5, slE eInt [p0.1, p0.2.1, p0.2.2]), (6, slE eInt [p1.1, p1.2.1, p1.2.2]), (7, HV.int .i64 a1), (23, HV.bool (decide (a1 < 3)))], []⟩) (le_q rfl rfl) ?_
 clear hK K
 refine AW.cond rfl (fun hc => ?_) (fun hc => ?_)
 ·have hc := of_decide_eq_true hc
  have h := ifT hc h
  refine AW.skip ?_
  refine AW.seq (AW.block ?_)
  refine AW.seq ?_
  refine AW.dgs 9 follows rfl rfl fun K hK => ?_
  refine sm rfl rfl ?_
  refine sm rfl rfl ?_
  obtain ⟨x5, h6, h⟩ := bS h
  refine sv rfl (v_idxF ty35 es35 rfl rfl (idx_lt h6)) ?_
  refine sv rfl (v_loadF ty3 rfl (l_cell eInt h6 (o := 0) rfl rfl)) ?_
  refine sm rfl rfl ?_
  refine sm rfl rfl ?_
  obtain ⟨x7, h8, h⟩ := bS h
  refine sv rfl (v_idxF ty35 es35 rfl rfl (idx_lt h8)) ?_
  refine sv rfl (v_loadF ty3 rfl (l_cell eInt h8 (o := 0) rfl rfl)) ?_
  refine sv rfl (v_bin rfl rfl b_lss) ?_
  refine s_nil ?_
  refine b_fin hK (s' := ⟨[(5, slE eInt [p0.1, p0.2.1, p0.2.2]), (6, slE eInt [p1.1, p1.2.1, p1.2.2]), (7, HV.int .i64 a1), (34, HV.bool (decide (x5 < x7)))], []⟩) (le_q rfl rfl) ?_
  clear hK K
  refine AW.cond rfl (fun hc => ?_) (fun hc => ?_)
  ·have hc := of_decide_eq_true hc
   have h := ifT hc h
   refine AW.rgs rfl fun K hK => ?_
   refine mv rfl rfl ?_
   refine b_fin hK (s' := ⟨[(4, HV.int .i64 (-1))], []⟩) (le_q rfl rfl) ?_
   clear hK K
   have h := hr4 _ h
   refine AW.ret ?_
   have h := Option.some.inj h
   subst h
   exact ret_pure (hs := [HV.int .i64 (-1)]) (q := HV.int .i64 (-1)) (.inr rfl) (resT rfl rfl) rfl trivial
  have hc := of_decide_eq_false hc
  have h := ifF hc h
  refine AW.skip ?_
  refine AW.dgs 9 follows rfl rfl fun K hK => ?_
  refine sm rfl rfl ?_
  refine sm rfl rfl ?_
  obtain ⟨x9, h10, h⟩ := bS h
  refine sv rfl (v_idxF ty35 es35 rfl rfl (idx_lt h10)) ?_
  refine sv rfl (v_loadF ty3 rfl (l_cell eInt h10 (o := 0) rfl rfl)) ?_
  refine sm rfl rfl ?_
  refine sm rfl rfl ?_
  obtain ⟨x11, h12, h⟩ := bS h
  refine sv rfl (v_idxF ty35 es35 rfl rfl (idx_lt h12)) ?_
  refine sv rfl (v_loadF ty3 rfl (l_cell eInt h12 (o := 0) rfl rfl)) ?_
  refine sv rfl (v_bin rfl rfl b_gtr) ?_
  refine s_nil ?_
  refine b_fin hK (s' := ⟨[(5, slE eInt [p0.1, p0.2.1, p0.2.2]), (6, slE eInt [p1.1, p1.2.1, p1.2.2]), (7, HV.int .i64 a1), (43, HV.bool (decide (x11 < x9)))], []⟩) (le_q rfl rfl) ?_
  clear hK K
  refine AW.cond rfl (fun hc => ?_) (fun hc => ?_)
  ·have hc := of_decide_eq_true hc
   have h := ifT hc h
   refine AW.rgs rfl fun K hK => ?_
   refine mv rfl rfl ?_
   refine b_fin hK (s' := ⟨[(4, HV.int .i64 1)], []⟩) (le_q rfl rfl) ?_
   clear hK K
   have h := hr4 _ h
   refine AW.ret ?_
   have h := Option.some.inj h
   subst h
   exact ret_pure (hs := [HV.int .i64 1]) (q := HV.int .i64 1) (.inr rfl) (resT rfl rfl) rfl trivial
  have hc := of_decide_eq_false hc
  have h := ifF hc h
  refine AW.skip ?_
  refine AW.rg rfl fun K hK => ?_
  refine mv rfl rfl ?_
  refine bv rfl (v_bin rfl rfl b_add) ?_
  refine mv rfl rfl ?_
  refine b_nil (hK _ ?_)
  clear hK K
  exact to_le (s' := ⟨[(5, slE eInt [p0.1, p0.2.1, p0.2.2]), (6, slE eInt [p1.1, p1.2.1, p1.2.2]), (7, HV.int .i64 (IntKind.wrap .i64 (a1 + 1)))], []⟩) (AS.le_of ⟨rfl, rfl, rfl, trivial⟩ trivial) ⟨IntKind.wrap .i64 (a1 + 1), (), h, rfl⟩
 have hc := of_decide_eq_false hc
 have h := ifF hc h
 refine AW.exit ?_
 exact to_le (s' := ⟨[], []⟩) (AS.le_of trivial trivial) ⟨(), (), h, rfl⟩

set_option maxHeartbeats 1600000 in
set_option maxRecDepth 100000 in
theorem w_ref09_Check {p0 : TLabelsStatesEdges} {r : Int} (h : m_ref09_Check p0 = some r) : Pure Try.prog 28 [HV.agg [HV.int .i64 p0.1, HV.int .i64 p0.2.1, slE eFromLabelTo p0.2.2]] (· = HV.int .i64 r) := by
 unfold m_ref09_Check at h
 refine Pure.of_body Try.func28 rfl rfl (Nat.le_of_ble_eq_true rfl) fun hf => ?_
 unfold Try.f28
 dsimp only [enumS, Nat.reduceAdd]
 refine AW.rgs rfl fun K hK => ?_
 refine b_op rfl (o_box rfl rfl rfl ?_)
 refine mv rfl rfl ?_
 refine b_fin hK (s' := ⟨[(1, HV.fptr [HV.int .i64 p0.1, HV.int .i64 p0.2.1, slE eFromLabelTo p0.2.2] 0)], []⟩) (le_q rfl rfl) ?_
 clear hK K
 refine AW.seq ?_
 refine AW.seqJ h (S := Bool) (V := Unit) (fun a v => ⟨[(1, HV.fptr [HV.int .i64 p0.1, HV.int .i64 p0.2.1, slE eFromLabelTo p0.2.2] 0), (12, HV.bool a)], []⟩) (fun a1 w2 h => ?_) (fun k3 h => ?_)
 ·refine AW.cond rfl (fun hc => ?_) (fun hc => ?_)
  ·have h := ifT hc h
   refine AW.rgs rfl fun K hK => ?_
   refine mv rfl rfl ?_
   refine b_fin hK (s' := ⟨[(2, HV.int .i64 12)], []⟩) (le_q rfl rfl) ?_
   clear hK K
   refine AW.ret ?_
   have h := Option.some.inj h
   subst h
   exact ret_pure (hs := [HV.int .i64 12]) (q := HV.int .i64 12) (.inr rfl) (resT rfl rfl) rfl trivial
  have h := ifF (bF' hc) h
  refine AW.skip ?_
  refine AW.seq ?_
  refine AW.rgs rfl fun K hK => ?_
  refine bv rfl (v_fieldAddrF fo24_1 rfl) ?_
  refine bv rfl (v_loadF ty3 rfl (l_lit rfl rfl)) ?_
  refine bv rfl (v_bin rfl rfl b_lss) ?_
  refine b_fin hK (s' := ⟨[(1, HV.fptr [HV.int .i64 p0.1, HV.int .i64 p0.2.1, slE eFromLabelTo p0.2.2] 0), (15, HV.bool (decide (p0.2.1 < 0)))], []⟩) (le_q rfl rfl) ?_
  clear hK K
  refine AW.cond rfl (fun hc => ?_) (fun hc => ?_)
  ·have hc := of_decide_eq_true hc
   have h := ifT hc h
   refine AW.rgs rfl fun K hK => ?_
   refine mv rfl rfl ?_
   refine b_fin hK (s' := ⟨[(2, HV.int .i64 2)], []⟩) (le_q rfl rfl) ?_
   clear hK K
   refine AW.ret ?_
   have h := Option.some.inj h
   subst h
   exact ret_pure (hs := [HV.int .i64 2]) (q := HV.int .i64 2) (.inr rfl) (resT rfl rfl) rfl trivial
  have hc := of_decide_eq_false hc
  have h := ifF hc h
  refine AW.skip ?_
  refine AW.seq ?_
  refine AW.seqJ h (S := Bool) (V := Unit) (fun a v => ⟨[(1, HV.fptr [HV.int .i64 p0.1, HV.int .i64 p0.2.1, slE eFromLabelTo p0.2.2] 0), (24, HV.bool a)], []⟩) (fun a4 w5 h => ?_) (fun k6 h => ?_)
  ·refine AW.cond rfl (fun hc => ?_) (fun hc => ?_)
   ·have h := ifT hc h
    refine AW.rgs rfl fun K hK => ?_
    refine mv rfl rfl ?_
    refine b_fin hK (s' := ⟨[(2, HV.int .i64 4)], []⟩) (le_q rfl rfl) ?_
    clear hK K
    refine AW.ret ?_
    have h := Option.some.inj h
    subst h
    exact ret_pure (hs := [HV.int .i64 4]) (q := HV.int .i64 4) (.inr rfl) (resT rfl rfl) rfl trivial
   have h := ifF (bF' hc) h
   refine AW.skip ?_
   refine AW.seq ?_
   refine AW.rgs rfl fun K hK => ?_
   refine mv rfl rfl ?_
   refine b_fin hK (s' := ⟨[(1, HV.fptr [HV.int .i64 p0.1, HV.int .i64 p0.2.1, slE eFromLabelTo p0.2.2] 0), (3, HV.int .i64 0)], []⟩) (le_q rfl rfl) ?_
   clear hK K
   refine AW.lpR h (by first | exact up_then | exact up_to) (S := Int) (V := Unit) (fun a v => ⟨[(1, HV.fptr [HV.int .i64 p0.1, HV.int .i64 p0.2.1, slE eFromLabelTo p0.2.2] 0), (3, HV.int .i64 a)], []⟩) ?_ (X := Unit) (W := Unit) (fun a v => ⟨[], []⟩) (fun a30 w31 h => ?_) (fun a7 w8 st9 h hr10=> ?_)
   ·exact to_le (s' := ⟨[(1, HV.fptr [HV.int .i64 p0.1, HV.int .i64 p0.2.1, slE eFromLabelTo p0.2.2] 0), (3, HV.int .i64 0)], []⟩) (AS.le_of ⟨rfl, rfl, trivial⟩ trivial) ⟨(), rfl⟩
   ·refine AW.rgs rfl fun K hK => ?_
    refine mv rfl rfl ?_
    refine b_fin hK (s' := ⟨[(2, HV.int .i64 0)], []⟩) (le_q rfl rfl) ?_
    clear hK K
    refine AW.ret ?_
    have h := Option.some.inj h
    subst h
    exact ret_pure (hs := [HV.int .i64 0]) (q := HV.int .i64 0) (.inr rfl) (resT rfl rfl) rfl trivial
   refine AW.seq ?_
   refine AW.rgs rfl fun K hK => ?_
   refine mv rfl rfl ?_
   refine bv rfl (v_fieldAddrF fo24_2 rfl) ?_
   refine bv rfl (v_loadF ty22 rfl (l_lit rfl rfl)) ?_
   refine bv rfl (v_lenF rfl rfl ty22 rfl) ?_
   refine bv rfl (v_bin rfl rfl b_lss) ?_
   refine b_fin hK (s' := ⟨[(1, HV.fptr [HV.int .i64 p0.1, HV.int .i64 p0.2.1, slE eFromLabelTo p0.2.2] 0), (3, HV.int .i64 a7), (29, HV.bool (decide (a7 < ((p0.2.2).length : Int))))], []⟩) (le_q rfl rfl) ?_
   clear hK K
   refine AW.cond rfl (fun hc => ?_) (fun hc => ?_)
   ·have hc := of_decide_eq_true hc
    have h := ifT hc h
    refine AW.skip ?_
    refine AW.seq (AW.block ?_)
    refine AW.rgs rfl fun K hK => ?_
    refine bv rfl (v_fieldAddrF fo24_2 rfl) ?_
    refine bv rfl (v_loadF ty22 rfl (l_lit rfl rfl)) ?_
    refine mv rfl rfl ?_
    obtain ⟨x11, h12, h⟩ := bS h
    refine bv rfl (v_idxF ty22 es22 rfl rfl (idx_lt h12)) ?_
    refine bv rfl (v_loadF ty53 rfl (l_agg eFromLabelTo h12 rfl rfl)) ?_
    refine b_op rfl (o_alloc (fid := 28) (zs := [HV.int .i64 0, HV.int .i64 0, HV.int .i64 0]) 28004 rfl rfl ty53 rfl (fun v13 => ?_))
    refine b_op rfl (o_store (cs := [HV.int .i64 x11.1, HV.int .i64 x11.2.1, HV.int .i64 x11.2.2]) (zs := [HV.int .i64 x11.1, HV.int .i64 x11.2.1, HV.int .i64 x11.2.2]) rfl rfl rfl ty53 rfl rfl rfl rfl rfl ?_)
    refine b_fin hK (s' := ⟨[(1, HV.fptr [HV.int .i64 p0.1, HV.int .i64 p0.2.1, slE eFromLabelTo p0.2.2] 0), (3, HV.int .i64 a7), (4, HV.ptr 28004 v13 0)], [(28004, v13, .arr 3 53 [HV.int .i64 x11.1, HV.int .i64 x11.2.1, HV.int .i64 x11.2.2])]⟩) (le_q rfl rfl) ?_
    clear hK K
    refine AW.seq ?_
    refine AW.seqJ h (S := Bool) (V := Unit) (fun a v => ⟨[(1, HV.fptr [HV.int .i64 p0.1, HV.int .i64 p0.2.1, slE eFromLabelTo p0.2.2] 0), (3, HV.int .i64 a7), (4, HV.ptr 28004 v13 0), (70, HV.bool a)], [(28004, v13, .arr 3 53 [HV.int .i64 x11.1, HV.int .i64 x11.2.1, HV.int .i64 x11.2.2])]⟩) (fun a14 w15 h => ?_) (fun k16 h => ?_)
    ·refine AW.cond rfl (fun hc => ?_) (fun hc => ?_)
     ·have h := ifT hc h
      refine AW.rgs rfl fun K hK => ?_
      refine mv rfl rfl ?_
      refine b_fin hK (s' := ⟨[(2, HV.int .i64 2)], []⟩) (le_q rfl rfl) ?_
      clear hK K
      have h := hr10 _ h
      refine AW.ret ?_
      have h := Option.some.inj h
      subst h
      exact ret_pure (hs := [HV.int .i64 2]) (q := HV.int .i64 2) (.inr rfl) (resT rfl rfl) rfl trivial
     have h := ifF (bF' hc) h
     refine AW.skip ?_
     refine AW.seqJ h (S := Bool) (V := Unit) (fun a v => ⟨[(1, HV.fptr [HV.int .i64 p0.1, HV.int .i64 p0.2.1, slE eFromLabelTo p0.2.2] 0), (3, HV.int .i64 a7), (83, HV.bool a)], []⟩) (fun a17 w18 h => ?_) (fun k19 h => ?_)
     ·refine AW.cond rfl (fun hc => ?_) (fun hc => ?_)
      ·have h := ifT hc h
       refine AW.rgs rfl fun K hK => ?_
       refine mv rfl rfl ?_
       refine b_fin hK (s' := ⟨[(2, HV.int .i64 10)], []⟩) (le_q rfl rfl) ?_
       clear hK K
       have h := hr10 _ h
       refine AW.ret ?_
       have h := Option.some.inj h
       subst h
       exact ret_pure (hs := [HV.int .i64 10]) (q := HV.int .i64 10) (.inr rfl) (resT rfl rfl) rfl trivial
      have h := ifF (bF' hc) h
      refine AW.skip ?_
      refine AW.rg rfl fun K hK => ?_
      refine mv rfl rfl ?_
      refine bv rfl (v_bin rfl rfl b_add) ?_
      refine mv rfl rfl ?_
      refine b_nil (hK _ ?_)
      clear hK K
      exact to_le (s' := ⟨[(1, HV.fptr [HV.int .i64 p0.1, HV.int .i64 p0.2.1, slE eFromLabelTo p0.2.2] 0), (3, HV.int .i64 (IntKind.wrap .i64 (a7 + 1)))], []⟩) (AS.le_of ⟨rfl, rfl, trivial⟩ trivial) ⟨IntKind.wrap .i64 (a7 + 1), (), h, rfl⟩
     refine AW.dg 13 follows rfl rfl fun K hK => ?_
     refine sm rfl rfl ?_
     refine sv rfl (v_bin rfl rfl b_gtr) ?_
     refine sm rfl rfl ?_
     by_cases hg24 : 0 < a7
     ·have h := ifT hg24 h
      refine s_T rfl rfl rfl rfl rfl (decide_eq_true hg24) (ops_val rfl (v_fieldAddrF fo24_2 rfl) ?_)
      refine s_T rfl rfl rfl rfl rfl rfl (ops_val rfl (v_loadF ty22 rfl (l_lit rfl rfl)) ?_)
      refine s_T rfl rfl rfl rfl rfl rfl (ops_val rfl (mv_val rfl rfl).2 ?_)
      refine s_T rfl rfl rfl rfl rfl rfl (ops_val rfl (v_bin rfl rfl b_sub) ?_)
      obtain ⟨x20, h21, h⟩ := bS h
      refine s_T rfl rfl rfl rfl rfl rfl (ops_val rfl (v_idxF ty22 es22 rfl rfl (idx_lt h21)) ?_)
      refine s_T rfl rfl rfl rfl rfl rfl (ops_val rfl (v_loadF ty53 rfl (l_agg eFromLabelTo h21 rfl rfl)) ?_)
      refine s_T rfl rfl rfl rfl rfl rfl (ops_val rfl (v_loadP ty53 rfl rfl (l_litA rfl (Nat.le_of_ble_eq_true rfl) rfl)) ?_)
      obtain ⟨x22, h23, h⟩ := bS h
      refine s_T rfl rfl rfl rfl rfl rfl (ops_call rfl rfl rfl rfl (ACallD.pure0 (w_ref09_Compare h23)) ?_)
      refine s_T rfl rfl rfl rfl rfl rfl (ops_val rfl (v_bin rfl rfl b_geq) ?_)
      refine sv rfl (v_pickT rfl rfl rfl) ?_
      refine s_nil ?_
      refine b_nil (hK _ ?_)
      clear hK K
      exact to_le (s' := ⟨[(1, HV.fptr [HV.int .i64 p0.1, HV.int .i64 p0.2.1, slE eFromLabelTo p0.2.2] 0), (3, HV.int .i64 a7), (83, HV.bool (decide (0 ≤ x22)))], []⟩) (AS.le_of ⟨rfl, rfl, rfl, trivial⟩ trivial) ⟨decide (0 ≤ x22), (), h, rfl⟩
     have h := ifF hg24 h
     refine s_F rfl rfl rfl rfl rfl (decide_eq_false hg24) ?_
     refine s_F rfl rfl rfl rfl rfl rfl ?_
     refine s_F rfl rfl rfl rfl rfl rfl ?_
     refine s_F rfl rfl rfl rfl rfl rfl ?_
     refine s_F rfl rfl rfl rfl rfl rfl ?_
     refine s_F rfl rfl rfl rfl rfl rfl ?_
     refine s_F rfl rfl rfl rfl rfl rfl ?_
     refine s_F rfl rfl rfl rfl rfl rfl ?_
     refine s_F rfl rfl rfl rfl rfl rfl ?_
     refine sv rfl (v_pickF rfl rfl rfl) ?_
     refine s_nil ?_
     refine b_nil (hK _ ?_)
     clear hK K
     exact to_le (s' := ⟨[(1, HV.fptr [HV.int .i64 p0.1, HV.int .i64 p0.2.1, slE eFromLabelTo p0.2.2] 0), (3, HV.int .i64 a7), (83, HV.bool false)], []⟩) (AS.le_of ⟨rfl, rfl, rfl, trivial⟩ trivial) ⟨false, (), h, rfl⟩
    refine AW.rg rfl fun K hK => ?_
    refine bv rfl (v_fieldAddrP fo53_0 rfl rfl) ?_
    refine bv rfl (v_loadP ty3 rfl rfl (l_lit rfl rfl)) ?_
    refine bv rfl (v_bin rfl rfl b_lss) ?_
    refine mv rfl rfl ?_
    by_cases hg29 : x11.1 < 0
    ·have h := ifT hg29 h
     refine b_F rfl rfl rfl rfl rfl (decide_eq_true hg29) ?_
     refine b_F rfl rfl rfl rfl rfl rfl ?_
     refine b_F rfl rfl rfl rfl rfl rfl ?_
     refine b_F rfl rfl rfl rfl rfl rfl ?_
     refine b_F rfl rfl rfl rfl rfl rfl ?_
     refine bv rfl (v_pickT rfl rfl rfl) ?_
     refine mv rfl rfl ?_
     refine b_F rfl rfl rfl rfl rfl rfl ?_
     refine b_F rfl rfl rfl rfl rfl rfl ?_
     refine b_F rfl rfl rfl rfl rfl rfl ?_
     refine bv rfl (v_pickT rfl rfl rfl) ?_
     refine mv rfl rfl ?_
     refine b_F rfl rfl rfl rfl rfl rfl ?_
     refine b_F rfl rfl rfl rfl rfl rfl ?_
     refine b_F rfl rfl rfl rfl rfl rfl ?_
     refine b_F rfl rfl rfl rfl rfl rfl ?_
     refine b_F rfl rfl rfl rfl rfl rfl ?_
     refine bv rfl (v_pickT rfl rfl rfl) ?_
     refine mv rfl rfl ?_
     refine b_F rfl rfl rfl rfl rfl rfl ?_
     refine b_F rfl rfl rfl rfl rfl rfl ?_
     refine b_F rfl rfl rfl rfl rfl rfl ?_
     refine bv rfl (v_pickT rfl rfl rfl) ?_
     refine mv rfl rfl ?_
     refine b_F rfl rfl rfl rfl rfl rfl ?_
     refine b_F rfl rfl rfl rfl rfl rfl ?_
     refine b_F rfl rfl rfl rfl rfl rfl ?_
     refine b_F rfl rfl rfl rfl rfl rfl ?_
     refine b_F rfl rfl rfl rfl rfl rfl ?_
     refine bv rfl (v_pickT rfl rfl rfl) ?_
     refine b_nil (hK _ ?_)
     clear hK K
     exact to_le (s' := ⟨[(1, HV.fptr [HV.int .i64 p0.1, HV.int .i64 p0.2.1, slE eFromLabelTo p0.2.2] 0), (3, HV.int .i64 a7), (4, HV.ptr 28004 v13 0), (70, HV.bool true)], [(28004, v13, .arr 3 53 [HV.int .i64 x11.1, HV.int .i64 x11.2.1, HV.int .i64 x11.2.2])]⟩) (AS.le_of ⟨rfl, rfl, rfl, rfl, trivial⟩ ⟨rfl, trivial⟩) ⟨true, (), h, rfl⟩
    have h := ifF hg29 h
    refine b_T rfl rfl rfl rfl (decide_eq_false hg29) (o_val rfl (v_fieldAddrP fo53_0 rfl rfl) ?_)
    refine b_T rfl rfl rfl rfl rfl (o_val rfl (v_loadP ty3 rfl rfl (l_lit rfl rfl)) ?_)
    refine b_T rfl rfl rfl rfl rfl (o_val rfl (v_fieldAddrF fo24_1 rfl) ?_)
    refine b_T rfl rfl rfl rfl rfl (o_val rfl (v_loadF ty3 rfl (l_lit rfl rfl)) ?_)
    refine b_T rfl rfl rfl rfl rfl (o_val rfl (v_bin rfl rfl b_geq) ?_)
    refine bv rfl (v_pickF rfl rfl rfl) ?_
    refine mv rfl rfl ?_
    by_cases hg28 : p0.2.1 ≤ x11.1
    ·have h := ifT hg28 h
     refine b_F rfl rfl rfl rfl rfl (decide_eq_true hg28) ?_
     refine b_F rfl rfl rfl rfl rfl rfl ?_
     refine b_F rfl rfl rfl rfl rfl rfl ?_
     refine bv rfl (v_pickT rfl rfl rfl) ?_
     refine mv rfl rfl ?_
     refine b_F rfl rfl rfl rfl rfl rfl ?_
     refine b_F rfl rfl rfl rfl rfl rfl ?_
     refine b_F rfl rfl rfl rfl rfl rfl ?_
     refine b_F rfl rfl rfl rfl rfl rfl ?_
     refine b_F rfl rfl rfl rfl rfl rfl ?_
     refine bv rfl (v_pickT rfl rfl rfl) ?_
     refine mv rfl rfl ?_
     refine b_F rfl rfl rfl rfl rfl rfl ?_
     refine b_F rfl rfl rfl rfl rfl rfl ?_
     refine b_F rfl rfl rfl rfl rfl rfl ?_
     refine bv rfl (v_pickT rfl rfl rfl) ?_
     refine mv rfl rfl ?_
     refine b_F rfl rfl rfl rfl rfl rfl ?_
     refine b_F rfl rfl rfl rfl rfl rfl ?_
     refine b_F rfl rfl rfl rfl rfl rfl ?_
     refine b_F rfl rfl rfl rfl rfl rfl ?_
     refine b_F rfl rfl rfl rfl rfl rfl ?_
     refine bv rfl (v_pickT rfl rfl rfl) ?_
     refine b_nil (hK _ ?_)
     clear hK K
     exact to_le (s' := ⟨[(1, HV.fptr [HV.int .i64 p0.1, HV.int .i64 p0.2.1, slE eFromLabelTo p0.2.2] 0), (3, HV.int .i64 a7), (4, HV.ptr 28004 v13 0), (70, HV.bool true)], [(28004, v13, .arr 3 53 [HV.int .i64 x11.1, HV.int .i64 x11.2.1, HV.int .i64 x11.2.2])]⟩) (AS.le_of ⟨rfl, rfl, rfl, rfl, trivial⟩ ⟨rfl, trivial⟩) ⟨true, (), h, rfl⟩
    have h := ifF hg28 h
    refine b_T rfl rfl rfl rfl (decide_eq_false hg28) (o_val rfl (v_fieldAddrP fo53_2 rfl rfl) ?_)
    refine b_T rfl rfl rfl rfl rfl (o_val rfl (v_loadP ty3 rfl rfl (l_lit rfl rfl)) ?_)
    refine b_T rfl rfl rfl rfl rfl (o_val rfl (v_bin rfl rfl b_lss) ?_)
    refine bv rfl (v_pickF rfl rfl rfl) ?_
    refine mv rfl rfl ?_
    by_cases hg27 : x11.2.2 < 0
    ·have h := ifT hg27 h
     refine b_F rfl rfl rfl rfl rfl (decide_eq_true hg27) ?_
     refine b_F rfl rfl rfl rfl rfl rfl ?_
     refine b_F rfl rfl rfl rfl rfl rfl ?_
     refine b_F rfl rfl rfl rfl rfl rfl ?_
     refine b_F rfl rfl rfl rfl rfl rfl ?_
     refine bv rfl (v_pickT rfl rfl rfl) ?_
     refine mv rfl rfl ?_
     refine b_F rfl rfl rfl rfl rfl rfl ?_
     refine b_F rfl rfl rfl rfl rfl rfl ?_
     refine b_F rfl rfl rfl rfl rfl rfl ?_
     refine bv rfl (v_pickT rfl rfl rfl) ?_
     refine mv rfl rfl ?_
     refine b_F rfl rfl rfl rfl rfl rfl ?_
     refine b_F rfl rfl rfl rfl rfl rfl ?_
     refine b_F rfl rfl rfl rfl rfl rfl ?_
     refine b_F rfl rfl rfl rfl rfl rfl ?_
     refine b_F rfl rfl rfl rfl rfl rfl ?_
     refine bv rfl (v_pickT rfl rfl rfl) ?_
     refine b_nil (hK _ ?_)
     clear hK K
     exact to_le (s' := ⟨[(1, HV.fptr [HV.int .i64 p0.1, HV.int .i64 p0.2.1, slE eFromLabelTo p0.2.2] 0), (3, HV.int .i64 a7), (4, HV.ptr 28004 v13 0), (70, HV.bool true)], [(28004, v13, .arr 3 53 [HV.int .i64 x11.1, HV.int .i64 x11.2.1, HV.int .i64 x11.2.2])]⟩) (AS.le_of ⟨rfl, rfl, rfl, rfl, trivial⟩ ⟨rfl, trivial⟩) ⟨true, (), h, rfl⟩
    have h := ifF hg27 h
    refine b_T rfl rfl rfl rfl (decide_eq_false hg27) (o_val rfl (v_fieldAddrP fo53_2 rfl rfl) ?_)
    refine b_T rfl rfl rfl rfl rfl (o_val rfl (v_loadP ty3 rfl rfl (l_lit rfl rfl)) ?_)
    refine b_T rfl rfl rfl rfl rfl (o_val rfl (v_fieldAddrF fo24_1 rfl) ?_)
    refine b_T rfl rfl rfl rfl rfl (o_val rfl (v_loadF ty3 rfl (l_lit rfl rfl)) ?_)
    refine b_T rfl rfl rfl rfl rfl (o_val rfl (v_bin rfl rfl b_geq) ?_)
    refine bv rfl (v_pickF rfl rfl rfl) ?_
    refine mv rfl rfl ?_
    by_cases hg26 : p0.2.1 ≤ x11.2.2
    ·have h := ifT hg26 h
     refine b_F rfl rfl rfl rfl rfl (decide_eq_true hg26) ?_
     refine b_F rfl rfl rfl rfl rfl rfl ?_
     refine b_F rfl rfl rfl rfl rfl rfl ?_
     refine bv rfl (v_pickT rfl rfl rfl) ?_
     refine mv rfl rfl ?_
     refine b_F rfl rfl rfl rfl rfl rfl ?_
     refine b_F rfl rfl rfl rfl rfl rfl ?_
     refine b_F rfl rfl rfl rfl rfl rfl ?_
     refine b_F rfl rfl rfl rfl rfl rfl ?_
     refine b_F rfl rfl rfl rfl rfl rfl ?_
     refine bv rfl (v_pickT rfl rfl rfl) ?_
     refine b_nil (hK _ ?_)
     clear hK K
     exact to_le (s' := ⟨[(1, HV.fptr [HV.int .i64 p0.1, HV.int .i64 p0.2.1, slE eFromLabelTo p0.2.2] 0), (3, HV.int .i64 a7), (4, HV.ptr 28004 v13 0), (70, HV.bool true)], [(28004, v13, .arr 3 53 [HV.int .i64 x11.1, HV.int .i64 x11.2.1, HV.int .i64 x11.2.2])]⟩) (AS.le_of ⟨rfl, rfl, rfl, rfl, trivial⟩ ⟨rfl, trivial⟩) ⟨true, (), h, rfl⟩
    have h := ifF hg26 h
    refine b_T rfl rfl rfl rfl (decide_eq_false hg26) (o_val rfl (v_fieldAddrP fo53_1 rfl rfl) ?_)
    refine b_T rfl rfl rfl rfl rfl (o_val rfl (v_loadP ty3 rfl rfl (l_lit rfl rfl)) ?_)
    refine b_T rfl rfl rfl rfl rfl (o_val rfl (v_bin rfl rfl b_lss) ?_)
    refine bv rfl (v_pickF rfl rfl rfl) ?_
    refine mv rfl rfl ?_
    by_cases hg25 : x11.2.1 < 0
    ·have h := ifT hg25 h
     refine b_F rfl rfl rfl rfl rfl (decide_eq_true hg25) ?_
     refine b_F rfl rfl rfl rfl rfl rfl ?_
     refine b_F rfl rfl rfl rfl rfl rfl ?_
     refine b_F rfl rfl rfl rfl rfl rfl ?_
     refine b_F rfl rfl rfl rfl rfl rfl ?_
     refine bv rfl (v_pickT rfl rfl rfl) ?_
     refine b_nil (hK _ ?_)
     clear hK K
     exact to_le (s' := ⟨[(1, HV.fptr [HV.int .i64 p0.1, HV.int .i64 p0.2.1, slE eFromLabelTo p0.2.2] 0), (3, HV.int .i64 a7), (4, HV.ptr 28004 v13 0), (70, HV.bool true)], [(28004, v13, .arr 3 53 [HV.int .i64 x11.1, HV.int .i64 x11.2.1, HV.int .i64 x11.2.2])]⟩) (AS.le_of ⟨rfl, rfl, rfl, rfl, trivial⟩ ⟨rfl, trivial⟩) ⟨true, (), h, rfl⟩
    have h := ifF hg25 h
    refine b_T rfl rfl rfl rfl (decide_eq_false hg25) (o_val rfl (v_fieldAddrP fo53_1 rfl rfl) ?_)
    refine b_T rfl rfl rfl rfl rfl (o_val rfl (v_loadP ty3 rfl rfl (l_lit rfl rfl)) ?_)
    refine b_T rfl rfl rfl rfl rfl (o_val rfl (v_fieldAddrF fo24_0 rfl) ?_)
    refine b_T rfl rfl rfl rfl rfl (o_val rfl (v_loadF ty3 rfl (l_lit rfl rfl)) ?_)
    refine b_T rfl rfl rfl rfl rfl (o_val rfl (v_bin rfl rfl b_geq) ?_)
    refine bv rfl (v_pickF rfl rfl rfl) ?_
    refine b_nil (hK _ ?_)
    clear hK K
    exact to_le (s' := ⟨[(1, HV.fptr [HV.int .i64 p0.1, HV.int .i64 p0.2.1, slE eFromLabelTo p0.2.2] 0), (3, HV.int .i64 a7), (4, HV.ptr 28004 v13 0), (70, HV.bool (decide (p0.1 ≤ x11.2.1)))], [(28004, v13, .arr 3 53 [HV.int .i64 x11.1, HV.int .i64 x11.2.1, HV.int .i64 x11.2.2])]⟩) (AS.le_of ⟨rfl, rfl, rfl, rfl, trivial⟩ ⟨rfl, trivial⟩) ⟨decide (p0.1 ≤ x11.2.1), (), h, rfl⟩
   have hc := of_decide_eq_false hc
   have h := ifF hc h
   refine AW.exit ?_
   exact to_le (s' := ⟨[], []⟩) (AS.le_of trivial trivial) ⟨(), (), h, rfl⟩
  refine AW.rg rfl fun K hK => ?_
  refine bv rfl (v_fieldAddrF fo24_1 rfl) ?_
  refine bv rfl (v_loadF ty3 rfl (l_lit rfl rfl)) ?_
  refine bv rfl (v_bin rfl rfl b_gtr) ?_
  refine mv rfl rfl ?_
  by_cases hg32 : 64 < p0.2.1
  ·have h := ifT hg32 h
   refine b_F rfl rfl rfl rfl rfl (decide_eq_true hg32) ?_
   refine b_F rfl rfl rfl rfl rfl rfl ?_
   refine b_F rfl rfl rfl rfl rfl rfl ?_
   refine b_F rfl rfl rfl rfl rfl rfl ?_
   refine bv rfl (v_pickT rfl rfl rfl) ?_
   refine b_nil (hK _ ?_)
   clear hK K
   exact to_le (s' := ⟨[(1, HV.fptr [HV.int .i64 p0.1, HV.int .i64 p0.2.1, slE eFromLabelTo p0.2.2] 0), (24, HV.bool true)], []⟩) (AS.le_of ⟨rfl, rfl, trivial⟩ trivial) ⟨true, (), h, rfl⟩
  have h := ifF hg32 h
  refine b_T rfl rfl rfl rfl (decide_eq_false hg32) (o_val rfl (v_fieldAddrF fo24_2 rfl) ?_)
  refine b_T rfl rfl rfl rfl rfl (o_val rfl (v_loadF ty22 rfl (l_lit rfl rfl)) ?_)
  refine b_T rfl rfl rfl rfl rfl (o_val rfl (v_lenF rfl rfl ty22 rfl) ?_)
  refine b_T rfl rfl rfl rfl rfl (o_val rfl (v_bin rfl rfl b_gtr) ?_)
  refine bv rfl (v_pickF rfl rfl rfl) ?_
  refine b_nil (hK _ ?_)
  clear hK K
  exact to_le (s' := ⟨[(1, HV.fptr [HV.int .i64 p0.1, HV.int .i64 p0.2.1, slE eFromLabelTo p0.2.2] 0), (24, HV.bool (decide (1024 < ((p0.2.2).length : Int))))], []⟩) (AS.le_of ⟨rfl, rfl, trivial⟩ trivial) ⟨decide (1024 < ((p0.2.2).length : Int)), (), h, rfl⟩
 refine AW.rg rfl fun K hK => ?_
 refine bv rfl (v_fieldAddrF fo24_0 rfl) ?_
 refine bv rfl (v_loadF ty3 rfl (l_lit rfl rfl)) ?_
 refine bv rfl (v_bin rfl rfl b_lss) ?_
 refine mv rfl rfl ?_
 by_cases hg33 : p0.1 < 1
 ·have h := ifT hg33 h
  refine b_F rfl rfl rfl rfl rfl (decide_eq_true hg33) ?_
  refine b_F rfl rfl rfl rfl rfl rfl ?_
  refine b_F rfl rfl rfl rfl rfl rfl ?_
  refine bv rfl (v_pickT rfl rfl rfl) ?_
  refine b_nil (hK _ ?_)
  clear hK K
  exact to_le (s' := ⟨[(1, HV.fptr [HV.int .i64 p0.1, HV.int .i64 p0.2.1, slE eFromLabelTo p0.2.2] 0), (12, HV.bool true)], []⟩) (AS.le_of ⟨rfl, rfl, trivial⟩ trivial) ⟨true, (), h, rfl⟩
 have h := ifF hg33 h
 refine b_T rfl rfl rfl rfl (decide_eq_false hg33) (o_val rfl (v_fieldAddrF fo24_0 rfl) ?_)
 refine b_T rfl rfl rfl rfl rfl (o_val rfl (v_loadF ty3 rfl (l_lit rfl rfl)) ?_)
 refine b_T rfl rfl rfl rfl rfl (o_val rfl (v_bin rfl rfl b_gtr) ?_)
 refine bv rfl (v_pickF rfl rfl rfl) ?_
 refine b_nil (hK _ ?_)
 clear hK K
 exact to_le (s' := ⟨[(1, HV.fptr [HV.int .i64 p0.1, HV.int .i64 p0.2.1, slE eFromLabelTo p0.2.2] 0), (12, HV.bool (decide (256 < p0.1)))], []⟩) (AS.le_of ⟨rfl, rfl, trivial⟩ trivial) ⟨decide (256 < p0.1), (), h, rfl⟩

set_option maxHeartbeats 1600000 in
set_option maxRecDepth 100000 in
theorem w_syncmark_marks (p0 : Int) (p1 : Int) (p2 : Int) : Pure Try.prog 52 [HV.int .i64 p0, HV.int .i64 p1, HV.int .i64 p2] (· = HV.fn (.func 73) [] [HV.fptr [HV.int .i64 p1] 0, HV.fptr [HV.int .i64 p2] 0, HV.fptr [HV.int .i64 p0] 0]) := by
 refine Pure.of_body Try.func52 rfl rfl (Nat.le_of_ble_eq_true rfl) fun hf => ?_
 unfold Try.f52
 dsimp only [enumS, Nat.reduceAdd]
 refine AW.rgs rfl fun K hK => ?_
 refine b_op rfl (o_box rfl rfl rfl ?_)
 refine b_op rfl (o_box rfl rfl rfl ?_)
 refine b_op rfl (o_box rfl rfl rfl ?_)
 refine mv rfl rfl ?_
 refine b_fin hK (s' := ⟨[(3, HV.fptr [HV.int .i64 p0] 0), (4, HV.fptr [HV.int .i64 p1] 0), (5, HV.fptr [HV.int .i64 p2] 0)], []⟩) (le_q rfl rfl) ?_
 clear hK K
 refine AW.rgs rfl fun K hK => ?_
 refine bv rfl (v_func rfl rfl) ?_
 refine mv rfl rfl ?_
 refine b_fin hK (s' := ⟨[(6, HV.fn (.func 73) [] [HV.fptr [HV.int .i64 p1] 0, HV.fptr [HV.int .i64 p2] 0, HV.fptr [HV.int .i64 p0] 0])], []⟩) (le_q rfl rfl) ?_
 clear hK K
 refine AW.ret ?_
 exact ret_pure (hs := [HV.fn (.func 73) [] [HV.fptr [HV.int .i64 p1] 0, HV.fptr [HV.int .i64 p2] 0, HV.fptr [HV.int .i64 p0] 0]]) (q := HV.fn (.func 73) [] [HV.fptr [HV.int .i64 p1] 0, HV.fptr [HV.int .i64 p2] 0, HV.fptr [HV.int .i64 p0] 0]) (.inr rfl) (resT rfl rfl) rfl ⟨trivial, ⟨⟨trivial, trivial⟩, ⟨trivial, trivial⟩, ⟨trivial, trivial⟩, trivial⟩⟩

end Go.AW

namespace Go.AW
open Go Go.Proofs
set_option linter.unusedVariables false
set_option maxHeartbeats 1600000 in
set_option maxRecDepth 100000 in
theorem w_syncmark_Search {p0 : TLabelsStatesEdges} {p1 : Int} {p2 : Int} {p3 : Int} {r : (List UInt8) × Int} (h : m_syncmark_Search p0 p1 p2 p3 = some r) : Pure Try.prog 29 [HV.agg [HV.int .i64 p0.1, HV.int .i64 p0.2.1, slE eFromLabelTo p0.2.2], HV.int .i64 p1, HV.int .i64 p2, HV.int .i64 p3] (· = HV.tup [HV.str r.1, HV.int .i64 r.2]) := by
 unfold m_syncmark_Search at h
 refine Pure.of_body Try.func29 rfl rfl (Nat.le_of_ble_eq_true rfl) fun hf => ?_
 unfold Try.f29
 dsimp only [enumS, Nat.reduceAdd]
 refine AW.rgs rfl fun K hK => ?_
 refine b_op rfl (o_box rfl rfl rfl ?_)
 refine b_op rfl (o_box rfl rfl rfl ?_)
 refine b_op rfl (o_alloc (fid := 29) (zs := [HV.str ([] : List UInt8)]) 29008 rfl rfl ty9 rfl (fun v1 => ?_))
 refine b_op rfl (o_alloc (fid := 29) (zs := [HV.int .i64 0]) 29009 rfl rfl ty28 rfl (fun v2 => ?_))
 refine b_fin hK (s' := ⟨[(2, HV.int .i64 p2), (3, HV.int .i64 p3), (4, HV.fptr [HV.int .i64 p0.1, HV.int .i64 p0.2.1, slE eFromLabelTo p0.2.2] 0), (5, HV.fptr [HV.int .i64 p1] 0), (8, HV.ptr 29008 v1 0), (9, HV.ptr 29009 v2 0)], [(29008, v1, .arr 1 9 [HV.str ([] : List UInt8)]), (29009, v2, .arr 1 28 [HV.int .i64 0])]⟩) (le_q rfl rfl) ?_
 clear hK K
 refine AW.seq (AW.block ?_)
 refine AW.rgs rfl fun K hK => ?_
 refine bv rfl (v_loadF ty24 rfl (l_litA rfl (Nat.le_of_ble_eq_true rfl) rfl)) ?_
 obtain ⟨x3, h4, h⟩ := bS h
 refine b_op rfl (o_call rfl rfl rfl rfl (ACallD.pure0 (w_graph_Check h4)) ?_)
 refine bv rfl (v_bin rfl rfl b_neq) ?_
 refine mv rfl rfl ?_
 refine b_fin hK (s' := ⟨[(2, HV.int .i64 p2), (3, HV.int .i64 p3), (4, HV.fptr [HV.int .i64 p0.1, HV.int .i64 p0.2.1, slE eFromLabelTo p0.2.2] 0), (5, HV.fptr [HV.int .i64 p1] 0), (8, HV.ptr 29008 v1 0), (9, HV.ptr 29009 v2 0), (14, HV.bool (decide (x3 ≠ 0)))], [(29008, v1, .arr 1 9 [HV.str ([] : List UInt8)]), (29009, v2, .arr 1 28 [HV.int .i64 0])]⟩) (le_q rfl rfl) ?_
 clear hK K
 refine AW.cond rfl (fun hc => ?_) (fun hc => ?_)
 ·have hc := of_decide_eq_true hc
  have h := ifT hc h
  refine AW.rgs rfl fun K hK => ?_
  refine b_op rfl (o_store (cs := [HV.str ([] : List UInt8)]) (zs := [HV.str ([] : List UInt8)]) rfl rfl rfl ty9 rfl rfl rfl rfl rfl ?_)
  refine b_op rfl (o_store (cs := [HV.int .i64 1]) (zs := [HV.int .i64 1]) rfl rfl rfl ty28 rfl rfl rfl rfl rfl ?_)
  refine b_fin hK (s' := ⟨[(8, HV.ptr 29008 v1 0), (9, HV.ptr 29009 v2 0)], [(29008, v1, .arr 1 9 [HV.str ([] : List UInt8)]), (29009, v2, .arr 1 28 [HV.int .i64 1])]⟩) (le_q rfl rfl) ?_
  clear hK K
  refine AW.ret ?_
  have h := Option.some.inj h
  subst h
  exact ret_pure (hs := [HV.str ([] : List UInt8), HV.int .i64 1]) (q := HV.tup [HV.str ([] : List UInt8), HV.int .i64 1]) (.inr rfl) (resP ty9 rfl rfl (l_lit rfl rfl) (resP ty28 rfl rfl (l_lit rfl rfl) rfl)) rfl ⟨trivial, trivial, trivial⟩
 have hc := of_decide_eq_false hc
 have h := ifF hc h
 refine AW.rgs rfl fun K hK => ?_
 refine bv rfl (v_fieldAddrF fo24_0 rfl) ?_
 refine bv rfl (v_loadF ty3 rfl (l_lit rfl rfl)) ?_
 refine bv rfl (v_bin rfl rfl b_gtr) ?_
 refine mv rfl rfl ?_
 refine b_fin hK (s' := ⟨[(2, HV.int .i64 p2), (3, HV.int .i64 p3), (4, HV.fptr [HV.int .i64 p0.1, HV.int .i64 p0.2.1, slE eFromLabelTo p0.2.2] 0), (5, HV.fptr [HV.int .i64 p1] 0), (8, HV.ptr 29008 v1 0), (9, HV.ptr 29009 v2 0), (18, HV.bool (decide (16 < p0.1)))], [(29008, v1, .arr 1 9 [HV.str ([] : List UInt8)]), (29009, v2, .arr 1 28 [HV.int .i64 0])]⟩) (le_q rfl rfl) ?_
 clear hK K
 refine AW.cond rfl (fun hc => ?_) (fun hc => ?_)
 ·have hc := of_decide_eq_true hc
  have h := ifT hc h
  refine AW.rgs rfl fun K hK => ?_
  refine b_op rfl (o_store (cs := [HV.str ([] : List UInt8)]) (zs := [HV.str ([] : List UInt8)]) rfl rfl rfl ty9 rfl rfl rfl rfl rfl ?_)
  refine b_op rfl (o_store (cs := [HV.int .i64 12]) (zs := [HV.int .i64 12]) rfl rfl rfl ty28 rfl rfl rfl rfl rfl ?_)
  refine b_fin hK (s' := ⟨[(8, HV.ptr 29008 v1 0), (9, HV.ptr 29009 v2 0)], [(29008, v1, .arr 1 9 [HV.str ([] : List UInt8)]), (29009, v2, .arr 1 28 [HV.int .i64 12])]⟩) (le_q rfl rfl) ?_
  clear hK K
  refine AW.ret ?_
  have h := Option.some.inj h
  subst h
  exact ret_pure (hs := [HV.str ([] : List UInt8), HV.int .i64 12]) (q := HV.tup [HV.str ([] : List UInt8), HV.int .i64 12]) (.inr rfl) (resP ty9 rfl rfl (l_lit rfl rfl) (resP ty28 rfl rfl (l_lit rfl rfl) rfl)) rfl ⟨trivial, trivial, trivial⟩
 have hc := of_decide_eq_false hc
 have h := ifF hc h
 refine AW.seqJ h (S := Bool) (V := Unit) (fun a v => ⟨[(2, HV.int .i64 p2), (3, HV.int .i64 p3), (4, HV.fptr [HV.int .i64 p0.1, HV.int .i64 p0.2.1, slE eFromLabelTo p0.2.2] 0), (5, HV.fptr [HV.int .i64 p1] 0), (8, HV.ptr 29008 v1 0), (9, HV.ptr 29009 v2 0), (22, HV.bool a)], [(29008, v1, .arr 1 9 [HV.str ([] : List UInt8)]), (29009, v2, .arr 1 28 [HV.int .i64 0])]⟩) (fun a5 w6 h => ?_) (fun k7 h => ?_)
 ·refine AW.cond rfl (fun hc => ?_) (fun hc => ?_)
  ·have h := ifT hc h
   refine AW.rgs rfl fun K hK => ?_
   refine b_op rfl (o_store (cs := [HV.str ([] : List UInt8)]) (zs := [HV.str ([] : List UInt8)]) rfl rfl rfl ty9 rfl rfl rfl rfl rfl ?_)
   refine b_op rfl (o_store (cs := [HV.int .i64 2]) (zs := [HV.int .i64 2]) rfl rfl rfl ty28 rfl rfl rfl rfl rfl ?_)
   refine b_fin hK (s' := ⟨[(8, HV.ptr 29008 v1 0), (9, HV.ptr 29009 v2 0)], [(29008, v1, .arr 1 9 [HV.str ([] : List UInt8)]), (29009, v2, .arr 1 28 [HV.int .i64 2])]⟩) (le_q rfl rfl) ?_
   clear hK K
   refine AW.ret ?_
   have h := Option.some.inj h
   subst h
   exact ret_pure (hs := [HV.str ([] : List UInt8), HV.int .i64 2]) (q := HV.tup [HV.str ([] : List UInt8), HV.int .i64 2]) (.inr rfl) (resP ty9 rfl rfl (l_lit rfl rfl) (resP ty28 rfl rfl (l_lit rfl rfl) rfl)) rfl ⟨trivial, trivial, trivial⟩
  have h := ifF (bF' hc) h
  refine AW.rgs rfl fun K hK => ?_
  refine mv rfl rfl ?_
  refine bv rfl (v_bin rfl rfl b_gtr) ?_
  refine mv rfl rfl ?_
  refine b_fin hK (s' := ⟨[(2, HV.int .i64 p2), (3, HV.int .i64 p3), (4, HV.fptr [HV.int .i64 p0.1, HV.int .i64 p0.2.1, slE eFromLabelTo p0.2.2] 0), (5, HV.fptr [HV.int .i64 p1] 0), (8, HV.ptr 29008 v1 0), (9, HV.ptr 29009 v2 0), (38, HV.bool (decide (16 < p3)))], [(29008, v1, .arr 1 9 [HV.str ([] : List UInt8)]), (29009, v2, .arr 1 28 [HV.int .i64 0])]⟩) (le_q rfl rfl) ?_
  clear hK K
  refine AW.cond rfl (fun hc => ?_) (fun hc => ?_)
  ·have hc := of_decide_eq_true hc
   have h := ifT hc h
   refine AW.rgs rfl fun K hK => ?_
   refine b_op rfl (o_store (cs := [HV.str ([] : List UInt8)]) (zs := [HV.str ([] : List UInt8)]) rfl rfl rfl ty9 rfl rfl rfl rfl rfl ?_)
   refine b_op rfl (o_store (cs := [HV.int .i64 4]) (zs := [HV.int .i64 4]) rfl rfl rfl ty28 rfl rfl rfl rfl rfl ?_)
   refine b_fin hK (s' := ⟨[(8, HV.ptr 29008 v1 0), (9, HV.ptr 29009 v2 0)], [(29008, v1, .arr 1 9 [HV.str ([] : List UInt8)]), (29009, v2, .arr 1 28 [HV.int .i64 4])]⟩) (le_q rfl rfl) ?_
   clear hK K
   refine AW.ret ?_
   have h := Option.some.inj h
   subst h
   exact ret_pure (hs := [HV.str ([] : List UInt8), HV.int .i64 4]) (q := HV.tup [HV.str ([] : List UInt8), HV.int .i64 4]) (.inr rfl) (resP ty9 rfl rfl (l_lit rfl rfl) (resP ty28 rfl rfl (l_lit rfl rfl) rfl)) rfl ⟨trivial, trivial, trivial⟩
  have hc := of_decide_eq_false hc
  have h := ifF hc h
  refine AW.skip ?_
  refine AW.rgs rfl fun K hK => ?_
  refine mv rfl rfl ?_
  refine b_fin hK (s' := ⟨[(2, HV.int .i64 p2), (3, HV.int .i64 p3), (4, HV.fptr [HV.int .i64 p0.1, HV.int .i64 p0.2.1, slE eFromLabelTo p0.2.2] 0), (5, HV.fptr [HV.int .i64 p1] 0), (8, HV.ptr 29008 v1 0), (9, HV.ptr 29009 v2 0), (10, HV.int .i64 1)], [(29008, v1, .arr 1 9 [HV.str ([] : List UInt8)]), (29009, v2, .arr 1 28 [HV.int .i64 0])]⟩) (le_q rfl rfl) ?_
  clear hK K
  refine AW.seq ?_
  refine AW.rgs rfl fun K hK => ?_
  refine mv rfl rfl ?_
  refine mv rfl rfl ?_
  refine b_fin hK (s' := ⟨[(2, HV.int .i64 p2), (3, HV.int .i64 p3), (4, HV.fptr [HV.int .i64 p0.1, HV.int .i64 p0.2.1, slE eFromLabelTo p0.2.2] 0), (5, HV.fptr [HV.int .i64 p1] 0), (8, HV.ptr 29008 v1 0), (9, HV.ptr 29009 v2 0), (10, HV.int .i64 1), (41, HV.int .i64 p3), (42, HV.int .i64 0)], [(29008, v1, .arr 1 9 [HV.str ([] : List UInt8)]), (29009, v2, .arr 1 28 [HV.int .i64 0])]⟩) (le_q rfl rfl) ?_
  clear hK K
  refine AW.lpR h (by first | exact up_then | exact up_to) (S := Int × Int) (V := Unit) (fun a v => ⟨[(2, HV.int .i64 p2), (3, HV.int .i64 p3), (4, HV.fptr [HV.int .i64 p0.1, HV.int .i64 p0.2.1, slE eFromLabelTo p0.2.2] 0), (5, HV.fptr [HV.int .i64 p1] 0), (8, HV.ptr 29008 v1 0), (9, HV.ptr 29009 v2 0), (10, HV.int .i64 a.1), (41, HV.int .i64 p3), (42, HV.int .i64 a.2)], [(29008, v1, .arr 1 9 [HV.str ([] : List UInt8)]), (29009, v2, .arr 1 28 [HV.int .i64 0])]⟩) ?_ (X := Unit) (W := Unit) (fun a v => ⟨[(2, HV.int .i64 p2), (3, HV.int .i64 p3), (4, HV.fptr [HV.int .i64 p0.1, HV.int .i64 p0.2.1, slE eFromLabelTo p0.2.2] 0), (5, HV.fptr [HV.int .i64 p1] 0), (8, HV.ptr 29008 v1 0), (9, HV.ptr 29009 v2 0)], [(29008, v1, .arr 1 9 [HV.str ([] : List UInt8)]), (29009, v2, .arr 1 28 [HV.int .i64 0])]⟩) (fun a12 w13 h => ?_) (fun a8 w9 st10 h hr11=> ?_)
  ·exact to_le (s' := ⟨[(2, HV.int .i64 p2), (3, HV.int .i64 p3), (4, HV.fptr [HV.int .i64 p0.1, HV.int .i64 p0.2.1, slE eFromLabelTo p0.2.2] 0), (5, HV.fptr [HV.int .i64 p1] 0), (8, HV.ptr 29008 v1 0), (9, HV.ptr 29009 v2 0), (10, HV.int .i64 1), (41, HV.int .i64 p3), (42, HV.int .i64 0)], [(29008, v1, .arr 1 9 [HV.str ([] : List UInt8)]), (29009, v2, .arr 1 28 [HV.int .i64 0])]⟩) (AS.le_of ⟨rfl, rfl, rfl, rfl, rfl, rfl, rfl, rfl, rfl, trivial⟩ ⟨rfl, rfl, trivial⟩) ⟨(), rfl⟩
  ·refine AW.seq ?_
   refine AW.rgs rfl fun K hK => ?_
   refine bv rfl (v_fieldAddrF fo24_0 rfl) ?_
   refine bv rfl (v_loadF ty3 rfl (l_lit rfl rfl)) ?_
   refine mv rfl rfl ?_
   refine mv rfl rfl ?_
   refine b_op rfl (o_call rfl rfl rfl rfl (ACallD.pure0 (w_syncmark_marks p0.1 p2 p3)) ?_)
   refine b_fin hK (s' := ⟨[(4, HV.fptr [HV.int .i64 p0.1, HV.int .i64 p0.2.1, slE eFromLabelTo p0.2.2] 0), (5, HV.fptr [HV.int .i64 p1] 0), (8, HV.ptr 29008 v1 0), (9, HV.ptr 29009 v2 0), (55, HV.fn (.func 73) [] [HV.fptr [HV.int .i64 p2] 0, HV.fptr [HV.int .i64 p3] 0, HV.fptr [HV.int .i64 p0.1] 0])], [(29008, v1, .arr 1 9 [HV.str ([] : List UInt8)]), (29009, v2, .arr 1 28 [HV.int .i64 0])]⟩) (le_q rfl rfl) ?_
   clear hK K
   refine AW.block ?_
   refine AW.to (to_le (s' := ⟨[(4, HV.fptr [HV.int .i64 p0.1, HV.int .i64 p0.2.1, slE eFromLabelTo p0.2.2] 0), (5, HV.fptr [HV.int .i64 p1] 0), (8, HV.ptr 29008 v1 0), (9, HV.ptr 29009 v2 0), (55, HV.fn (.func 73) [] [HV.fptr [HV.int .i64 p2] 0, HV.fptr [HV.int .i64 p3] 0, HV.fptr [HV.int .i64 p0.1] 0])], [(29008, v1, .arr 1 9 [HV.str ([] : List UInt8)]), (29009, v2, .arr 1 28 [HV.int .i64 0])]⟩) (le_q rfl rfl) ?_)
   obtain ⟨L14, h15, h⟩ := bS h
   refine AW.rangeY (c := .ret) 29900 (fun x => [HV.str x]) h (by first | exact up_then | exact up_to) rfl (iy_syncmark_marks h15) (S := Unit) (V := Unit) (fun a v => [(29008, v1, .arr 1 9 [HV.str ([] : List UInt8)]), (29009, v2, .arr 1 28 [HV.int .i64 0])]) () (X := (List UInt8)) (W := Unit) (fun a v => [(29008, v1, .arr 1 9 [HV.str a]), (29009, v2, .arr 1 28 [HV.int .i64 0])]) (fun _ _ => rfl) (fun _ _ => rfl) rfl (fun _ => rfl) (fun a24 w25 h => ?_) (fun a26 w27 h => ?_) (fun Lo l21 v19 a16 x18 w17 st20 h => ?_)
   ·refine AW.rgs rfl fun K hK => ?_
    refine b_op rfl (o_store (cs := [HV.str ([] : List UInt8)]) (zs := [HV.str ([] : List UInt8)]) rfl rfl rfl ty9 rfl rfl rfl rfl rfl ?_)
    refine b_op rfl (o_store (cs := [HV.int .i64 20]) (zs := [HV.int .i64 20]) rfl rfl rfl ty28 rfl rfl rfl rfl rfl ?_)
    refine b_fin hK (s' := ⟨[(8, HV.ptr 29008 v1 0), (9, HV.ptr 29009 v2 0)], [(29008, v1, .arr 1 9 [HV.str ([] : List UInt8)]), (29009, v2, .arr 1 28 [HV.int .i64 20])]⟩) (le_q rfl rfl) ?_
    clear hK K
    refine AW.ret ?_
    have h := Option.some.inj h
    subst h
    exact ret_pure (hs := [HV.str ([] : List UInt8), HV.int .i64 20]) (q := HV.tup [HV.str ([] : List UInt8), HV.int .i64 20]) (.inr rfl) (resP ty9 rfl rfl (l_lit rfl rfl) (resP ty28 rfl rfl (l_lit rfl rfl) rfl)) rfl ⟨trivial, trivial, trivial⟩
   ·refine AW.ret ?_
    have h := Option.some.inj h
    subst h
    exact ret_pure (hs := [HV.str a26, HV.int .i64 0]) (q := HV.tup [HV.str a26, HV.int .i64 0]) (.inr rfl) (resP ty9 rfl rfl (l_lit rfl rfl) (resP ty28 rfl rfl (l_lit rfl rfl) rfl)) rfl ⟨trivial, trivial, trivial⟩
   refine AW.rg rfl fun K hK => ?_
   refine mv rfl rfl ?_
   refine b_nil (hK _ ?_)
   clear hK K
   refine ⟨rfl, rfl, ?_⟩
   refine AW.block ?_
   refine AW.rgs rfl fun K hK => ?_
   refine bv rfl (v_loadF ty24 rfl (l_litA rfl (Nat.le_of_ble_eq_true rfl) rfl)) ?_
   refine mv rfl rfl ?_
   refine bv rfl (v_loadF ty3 rfl (l_lit rfl rfl)) ?_
   obtain ⟨x22, h23, h⟩ := bS h
   refine b_op rfl (o_call rfl rfl rfl rfl (ACallD.pure0 (w_syncmark_bad h23)) ?_)
   refine mv rfl rfl ?_
   refine bv rfl (v_extract rfl rfl) ?_
   refine bv rfl (v_extract rfl rfl) ?_
   refine mv rfl rfl ?_
   refine mv rfl rfl ?_
   refine b_fin hK (s' := ⟨[(4, HV.fptr [HV.int .i64 p0.1, HV.int .i64 p0.2.1, slE eFromLabelTo p0.2.2] 0), (5, HV.fptr [HV.int .i64 p1] 0), (8, HV.ptr 29008 v1 0), (9, HV.ptr 29009 v2 0), (11, HV.str x18), (13, HV.bool x22.2), (56, HV.str x18)], [(29900, v19, Lo .busy none), (29008, v1, .arr 1 9 [HV.str ([] : List UInt8)]), (29009, v2, .arr 1 28 [HV.int .i64 0])]⟩) (le_q rfl rfl) ?_
   clear hK K
   refine AW.rgs rfl fun K hK => ?_
   refine mv rfl rfl ?_
   refine bv rfl (v_not rfl) ?_
   refine b_fin hK (s' := ⟨[(4, HV.fptr [HV.int .i64 p0.1, HV.int .i64 p0.2.1, slE eFromLabelTo p0.2.2] 0), (5, HV.fptr [HV.int .i64 p1] 0), (8, HV.ptr 29008 v1 0), (9, HV.ptr 29009 v2 0), (11, HV.str x18), (56, HV.str x18), (65, HV.bool (!x22.2))], [(29900, v19, Lo .busy none), (29008, v1, .arr 1 9 [HV.str ([] : List UInt8)]), (29009, v2, .arr 1 28 [HV.int .i64 0])]⟩) (le_q rfl rfl) ?_
   clear hK K
   refine AW.cond rfl (fun hc => ?_) (fun hc => ?_)
   ·have h := ifT hc h
    refine AW.rgs rfl fun K hK => ?_
    refine mv rfl rfl ?_
    refine b_op rfl (o_store (cs := [HV.str x18]) (zs := [HV.str x18]) rfl rfl rfl ty9 rfl rfl rfl rfl rfl ?_)
    refine b_op rfl (o_store (cs := [HV.int .i64 0]) (zs := [HV.int .i64 0]) rfl rfl rfl ty28 rfl rfl rfl rfl rfl ?_)
    refine b_fin hK (s' := ⟨[(8, HV.ptr 29008 v1 0), (9, HV.ptr 29009 v2 0)], [(29900, v19, Lo .busy none), (29008, v1, .arr 1 9 [HV.str x18]), (29009, v2, .arr 1 28 [HV.int .i64 0])]⟩) (le_q rfl rfl) ?_
    clear hK K
    refine AW.ret ?_
    exact ⟨rfl, x18, (), h, (AS.le_of trivial ⟨rfl, rfl, rfl, trivial⟩)⟩
   have h := ifF (bF' hc) h
   refine AW.skip ?_
   exact ⟨(), (), h, (AS.le_of trivial ⟨rfl, rfl, rfl, trivial⟩)⟩
  refine AW.rgs rfl fun K hK => ?_
  refine bv rfl (v_bin rfl rfl b_lss) ?_
  refine b_fin hK (s' := ⟨[(2, HV.int .i64 p2), (3, HV.int .i64 p3), (4, HV.fptr [HV.int .i64 p0.1, HV.int .i64 p0.2.1, slE eFromLabelTo p0.2.2] 0), (5, HV.fptr [HV.int .i64 p1] 0), (8, HV.ptr 29008 v1 0), (9, HV.ptr 29009 v2 0), (10, HV.int .i64 a8.1), (41, HV.int .i64 p3), (42, HV.int .i64 a8.2), (43, HV.bool (decide (a8.2 < p3)))], [(29008, v1, .arr 1 9 [HV.str ([] : List UInt8)]), (29009, v2, .arr 1 28 [HV.int .i64 0])]⟩) (le_q rfl rfl) ?_
  clear hK K
  refine AW.cseq rfl (fun hc => ?_) (fun hc => ?_)
  ·have hc := of_decide_eq_true hc
   have h := ifT hc h
   refine AW.skip ?_
   refine AW.seq (AW.block ?_)
   refine AW.rgs rfl fun K hK => ?_
   refine mv rfl rfl ?_
   refine bv rfl (v_fieldAddrF fo24_0 rfl) ?_
   refine bv rfl (v_loadF ty3 rfl (l_lit rfl rfl)) ?_
   refine bv rfl (v_bin rfl rfl b_mul) ?_
   refine mv rfl rfl ?_
   refine b_fin hK (s' := ⟨[(2, HV.int .i64 p2), (3, HV.int .i64 p3), (4, HV.fptr [HV.int .i64 p0.1, HV.int .i64 p0.2.1, slE eFromLabelTo p0.2.2] 0), (5, HV.fptr [HV.int .i64 p1] 0), (8, HV.ptr 29008 v1 0), (9, HV.ptr 29009 v2 0), (10, HV.int .i64 (IntKind.wrap .i64 (a8.1 * p0.1))), (41, HV.int .i64 p3), (42, HV.int .i64 a8.2)], [(29008, v1, .arr 1 9 [HV.str ([] : List UInt8)]), (29009, v2, .arr 1 28 [HV.int .i64 0])]⟩) (le_q rfl rfl) ?_
   clear hK K
   refine AW.rgs rfl fun K hK => ?_
   refine mv rfl rfl ?_
   refine bv rfl (v_bin rfl rfl b_gtr) ?_
   refine b_fin hK (s' := ⟨[(2, HV.int .i64 p2), (3, HV.int .i64 p3), (4, HV.fptr [HV.int .i64 p0.1, HV.int .i64 p0.2.1, slE eFromLabelTo p0.2.2] 0), (5, HV.fptr [HV.int .i64 p1] 0), (8, HV.ptr 29008 v1 0), (9, HV.ptr 29009 v2 0), (10, HV.int .i64 (IntKind.wrap .i64 (a8.1 * p0.1))), (41, HV.int .i64 p3), (42, HV.int .i64 a8.2), (49, HV.bool (decide (65536 < (IntKind.wrap .i64 (a8.1 * p0.1)))))], [(29008, v1, .arr 1 9 [HV.str ([] : List UInt8)]), (29009, v2, .arr 1 28 [HV.int .i64 0])]⟩) (le_q rfl rfl) ?_
   clear hK K
   refine AW.cond rfl (fun hc => ?_) (fun hc => ?_)
   ·have hc := of_decide_eq_true hc
    have h := ifT hc h
    refine AW.rgs rfl fun K hK => ?_
    refine b_op rfl (o_store (cs := [HV.str ([] : List UInt8)]) (zs := [HV.str ([] : List UInt8)]) rfl rfl rfl ty9 rfl rfl rfl rfl rfl ?_)
    refine b_op rfl (o_store (cs := [HV.int .i64 4]) (zs := [HV.int .i64 4]) rfl rfl rfl ty28 rfl rfl rfl rfl rfl ?_)
    refine b_fin hK (s' := ⟨[(8, HV.ptr 29008 v1 0), (9, HV.ptr 29009 v2 0)], [(29008, v1, .arr 1 9 [HV.str ([] : List UInt8)]), (29009, v2, .arr 1 28 [HV.int .i64 4])]⟩) (le_q rfl rfl) ?_
    clear hK K
    have h := hr11 _ h
    refine AW.ret ?_
    have h := Option.some.inj h
    subst h
    exact ret_pure (hs := [HV.str ([] : List UInt8), HV.int .i64 4]) (q := HV.tup [HV.str ([] : List UInt8), HV.int .i64 4]) (.inr rfl) (resP ty9 rfl rfl (l_lit rfl rfl) (resP ty28 rfl rfl (l_lit rfl rfl) rfl)) rfl ⟨trivial, trivial, trivial⟩
   have hc := of_decide_eq_false hc
   have h := ifF hc h
   refine AW.skip ?_
   refine AW.rg rfl fun K hK => ?_
   refine bv rfl (v_bin rfl rfl b_add) ?_
   refine mv rfl rfl ?_
   refine b_nil (hK _ ?_)
   clear hK K
   exact to_le (s' := ⟨[(2, HV.int .i64 p2), (3, HV.int .i64 p3), (4, HV.fptr [HV.int .i64 p0.1, HV.int .i64 p0.2.1, slE eFromLabelTo p0.2.2] 0), (5, HV.fptr [HV.int .i64 p1] 0), (8, HV.ptr 29008 v1 0), (9, HV.ptr 29009 v2 0), (10, HV.int .i64 (IntKind.wrap .i64 (a8.1 * p0.1))), (41, HV.int .i64 p3), (42, HV.int .i64 (IntKind.wrap .i64 (a8.2 + 1)))], [(29008, v1, .arr 1 9 [HV.str ([] : List UInt8)]), (29009, v2, .arr 1 28 [HV.int .i64 0])]⟩) (AS.le_of ⟨rfl, rfl, rfl, rfl, rfl, rfl, rfl, rfl, rfl, trivial⟩ ⟨rfl, rfl, trivial⟩) ⟨(IntKind.wrap .i64 (a8.1 * p0.1), IntKind.wrap .i64 (a8.2 + 1)), (), h, rfl⟩
  have hc := of_decide_eq_false hc
  have h := ifF hc h
  refine AW.exit ?_
  exact to_le (s' := ⟨[(2, HV.int .i64 p2), (3, HV.int .i64 p3), (4, HV.fptr [HV.int .i64 p0.1, HV.int .i64 p0.2.1, slE eFromLabelTo p0.2.2] 0), (5, HV.fptr [HV.int .i64 p1] 0), (8, HV.ptr 29008 v1 0), (9, HV.ptr 29009 v2 0)], [(29008, v1, .arr 1 9 [HV.str ([] : List UInt8)]), (29009, v2, .arr 1 28 [HV.int .i64 0])]⟩) (AS.le_of ⟨rfl, rfl, rfl, rfl, rfl, rfl, trivial⟩ ⟨rfl, rfl, trivial⟩) ⟨(), (), h, rfl⟩
 refine AW.rg rfl fun K hK => ?_
 refine bv rfl (v_loadF ty3 rfl (l_lit rfl rfl)) ?_
 refine bv rfl (v_bin rfl rfl b_lss) ?_
 refine mv rfl rfl ?_
 by_cases hg30 : p1 < 0
 ·have h := ifT hg30 h
  refine b_F rfl rfl rfl rfl rfl (decide_eq_true hg30) ?_
  refine b_F rfl rfl rfl rfl rfl rfl ?_
  refine bv rfl (v_pickT rfl rfl rfl) ?_
  refine mv rfl rfl ?_
  refine b_F rfl rfl rfl rfl rfl rfl ?_
  refine b_F rfl rfl rfl rfl rfl rfl ?_
  refine bv rfl (v_pickT rfl rfl rfl) ?_
  refine mv rfl rfl ?_
  refine b_F rfl rfl rfl rfl rfl rfl ?_
  refine b_F rfl rfl rfl rfl rfl rfl ?_
  refine b_F rfl rfl rfl rfl rfl rfl ?_
  refine bv rfl (v_pickT rfl rfl rfl) ?_
  refine mv rfl rfl ?_
  refine b_nil (hK _ ?_)
  clear hK K
  exact to_le (s' := ⟨[(2, HV.int .i64 p2), (3, HV.int .i64 p3), (4, HV.fptr [HV.int .i64 p0.1, HV.int .i64 p0.2.1, slE eFromLabelTo p0.2.2] 0), (5, HV.fptr [HV.int .i64 p1] 0), (8, HV.ptr 29008 v1 0), (9, HV.ptr 29009 v2 0), (22, HV.bool true)], [(29008, v1, .arr 1 9 [HV.str ([] : List UInt8)]), (29009, v2, .arr 1 28 [HV.int .i64 0])]⟩) (AS.le_of ⟨rfl, rfl, rfl, rfl, rfl, rfl, rfl, trivial⟩ ⟨rfl, rfl, trivial⟩) ⟨true, (), h, rfl⟩
 have h := ifF hg30 h
 refine b_T rfl rfl rfl rfl (decide_eq_false hg30) (o_val rfl (v_loadF ty3 rfl (l_lit rfl rfl)) ?_)
 refine b_T rfl rfl rfl rfl rfl (o_val rfl (v_bin rfl rfl b_gtr) ?_)
 refine bv rfl (v_pickF rfl rfl rfl) ?_
 refine mv rfl rfl ?_
 by_cases hg29 : 4096 < p1
 ·have h := ifT hg29 h
  refine b_F rfl rfl rfl rfl rfl (decide_eq_true hg29) ?_
  refine b_F rfl rfl rfl rfl rfl rfl ?_
  refine bv rfl (v_pickT rfl rfl rfl) ?_
  refine mv rfl rfl ?_
  refine b_F rfl rfl rfl rfl rfl rfl ?_
  refine b_F rfl rfl rfl rfl rfl rfl ?_
  refine b_F rfl rfl rfl rfl rfl rfl ?_
  refine bv rfl (v_pickT rfl rfl rfl) ?_
  refine mv rfl rfl ?_
  refine b_nil (hK _ ?_)
  clear hK K
  exact to_le (s' := ⟨[(2, HV.int .i64 p2), (3, HV.int .i64 p3), (4, HV.fptr [HV.int .i64 p0.1, HV.int .i64 p0.2.1, slE eFromLabelTo p0.2.2] 0), (5, HV.fptr [HV.int .i64 p1] 0), (8, HV.ptr 29008 v1 0), (9, HV.ptr 29009 v2 0), (22, HV.bool true)], [(29008, v1, .arr 1 9 [HV.str ([] : List UInt8)]), (29009, v2, .arr 1 28 [HV.int .i64 0])]⟩) (AS.le_of ⟨rfl, rfl, rfl, rfl, rfl, rfl, rfl, trivial⟩ ⟨rfl, rfl, trivial⟩) ⟨true, (), h, rfl⟩
 have h := ifF hg29 h
 refine b_T rfl rfl rfl rfl (decide_eq_false hg29) (o_val rfl (mv_val rfl rfl).2 ?_)
 refine b_T rfl rfl rfl rfl rfl (o_val rfl (v_bin rfl rfl b_lss) ?_)
 refine bv rfl (v_pickF rfl rfl rfl) ?_
 refine mv rfl rfl ?_
 by_cases hg28 : p2 < 1
 ·have h := ifT hg28 h
  refine b_F rfl rfl rfl rfl rfl (decide_eq_true hg28) ?_
  refine b_F rfl rfl rfl rfl rfl rfl ?_
  refine b_F rfl rfl rfl rfl rfl rfl ?_
  refine bv rfl (v_pickT rfl rfl rfl) ?_
  refine mv rfl rfl ?_
  refine b_nil (hK _ ?_)
  clear hK K
  exact to_le (s' := ⟨[(2, HV.int .i64 p2), (3, HV.int .i64 p3), (4, HV.fptr [HV.int .i64 p0.1, HV.int .i64 p0.2.1, slE eFromLabelTo p0.2.2] 0), (5, HV.fptr [HV.int .i64 p1] 0), (8, HV.ptr 29008 v1 0), (9, HV.ptr 29009 v2 0), (22, HV.bool true)], [(29008, v1, .arr 1 9 [HV.str ([] : List UInt8)]), (29009, v2, .arr 1 28 [HV.int .i64 0])]⟩) (AS.le_of ⟨rfl, rfl, rfl, rfl, rfl, rfl, rfl, trivial⟩ ⟨rfl, rfl, trivial⟩) ⟨true, (), h, rfl⟩
 have h := ifF hg28 h
 refine b_T rfl rfl rfl rfl (decide_eq_false hg28) (o_val rfl (mv_val rfl rfl).2 ?_)
 refine b_T rfl rfl rfl rfl rfl (o_val rfl (mv_val rfl rfl).2 ?_)
 refine b_T rfl rfl rfl rfl rfl (o_val rfl (v_bin rfl rfl b_gtr) ?_)
 refine bv rfl (v_pickF rfl rfl rfl) ?_
 refine mv rfl rfl ?_
 refine b_nil (hK _ ?_)
 clear hK K
 exact to_le (s' := ⟨[(2, HV.int .i64 p2), (3, HV.int .i64 p3), (4, HV.fptr [HV.int .i64 p0.1, HV.int .i64 p0.2.1, slE eFromLabelTo p0.2.2] 0), (5, HV.fptr [HV.int .i64 p1] 0), (8, HV.ptr 29008 v1 0), (9, HV.ptr 29009 v2 0), (22, HV.bool (decide (p3 < p2)))], [(29008, v1, .arr 1 9 [HV.str ([] : List UInt8)]), (29009, v2, .arr 1 28 [HV.int .i64 0])]⟩) (AS.le_of ⟨rfl, rfl, rfl, rfl, rfl, rfl, rfl, trivial⟩ ⟨rfl, rfl, trivial⟩) ⟨decide (p3 < p2), (), h, rfl⟩

set_option maxHeartbeats 1600000 in
set_option maxRecDepth 100000 in
theorem w_word_All {p0 : Int} {p1 : Int} {r : (List (List UInt8)) × Int} (h : m_word_All p0 p1 = some r) : Pure Try.prog 30 [HV.int .i64 p0, HV.int .i64 p1] (· = HV.tup [slE eStr r.1, HV.int .i64 r.2]) := by
 unfold m_word_All at h
 refine Pure.of_body Try.func30 rfl rfl (Nat.le_of_ble_eq_true rfl) fun hf => ?_
 unfold Try.f30
 dsimp only [enumS, Nat.reduceAdd]
 refine AW.rgs rfl fun K hK => ?_
 refine mv rfl rfl ?_
 refine mv rfl rfl ?_
 refine b_fin hK (s' := ⟨[(0, HV.int .i64 p0), (1, HV.int .i64 p1)], []⟩) (le_q rfl rfl) ?_
 clear hK K
 refine AW.seq (AW.block ?_)
 refine AW.rgs rfl fun K hK => ?_
 refine mv rfl rfl ?_
 obtain ⟨x1, h2, h⟩ := bS h
 refine b_op rfl (o_call rfl rfl rfl rfl (ACallD.pure0 (w_word_known h2)) ?_)
 refine bv rfl (v_not rfl) ?_
 refine mv rfl rfl ?_
 refine b_fin hK (s' := ⟨[(0, HV.int .i64 p0), (1, HV.int .i64 p1), (11, HV.bool (!x1))], []⟩) (le_q rfl rfl) ?_
 clear hK K
 refine AW.cond rfl (fun hc => ?_) (fun hc => ?_)
 ·have h := ifT hc h
  refine AW.rgs rfl fun K hK => ?_
  refine mv rfl rfl ?_
  refine mv rfl rfl ?_
  refine b_fin hK (s' := ⟨[(4, HV.v (.slice none 0 0)), (5, HV.int .i64 12)], []⟩) (le_q rfl rfl) ?_
  clear hK K
  refine AW.to (to_weak ⟨[(4, slE eStr ([] : List (List UInt8))), (5, HV.int .i64 12)], []⟩ ⟨⟨_, rfl, .nil _⟩, ⟨_, rfl, .refl _⟩, trivial⟩ trivial ?_)
  refine AW.ret ?_
  have h := Option.some.inj h
  subst h
  exact ret_pure (hs := [slE eStr ([] : List (List UInt8)), HV.int .i64 12]) (q := HV.tup [slE eStr ([] : List (List UInt8)), HV.int .i64 12]) (.inr rfl) (resT rfl (resT rfl rfl)) rfl ⟨(clean_slE fun _ _ => ⟨trivial, trivial⟩), trivial, trivial⟩
 have h := ifF (bF' hc) h
 refine AW.rgs rfl fun K hK => ?_
 refine mv rfl rfl ?_
 refine bv rfl (v_bin rfl rfl b_lss) ?_
 refine mv rfl rfl ?_
 refine b_fin hK (s' := ⟨[(0, HV.int .i64 p0), (1, HV.int .i64 p1), (15, HV.bool (decide (p1 < 0)))], []⟩) (le_q rfl rfl) ?_
 clear hK K
 refine AW.cond rfl (fun hc => ?_) (fun hc => ?_)
 ·have hc := of_decide_eq_true hc
  have h := ifT hc h
  refine AW.rgs rfl fun K hK => ?_
  refine mv rfl rfl ?_
  refine mv rfl rfl ?_
  refine b_fin hK (s' := ⟨[(4, HV.v (.slice none 0 0)), (5, HV.int .i64 2)], []⟩) (le_q rfl rfl) ?_
  clear hK K
  refine AW.to (to_weak ⟨[(4, slE eStr ([] : List (List UInt8))), (5, HV.int .i64 2)], []⟩ ⟨⟨_, rfl, .nil _⟩, ⟨_, rfl, .refl _⟩, trivial⟩ trivial ?_)
  refine AW.ret ?_
  have h := Option.some.inj h
  subst h
  exact ret_pure (hs := [slE eStr ([] : List (List UInt8)), HV.int .i64 2]) (q := HV.tup [slE eStr ([] : List (List UInt8)), HV.int .i64 2]) (.inr rfl) (resT rfl (resT rfl rfl)) rfl ⟨(clean_slE fun _ _ => ⟨trivial, trivial⟩), trivial, trivial⟩
 have hc := of_decide_eq_false hc
 have h := ifF hc h
 refine AW.rgs rfl fun K hK => ?_
 refine mv rfl rfl ?_
 refine bv rfl (v_bin rfl rfl b_gtr) ?_
 refine mv rfl rfl ?_
 refine b_fin hK (s' := ⟨[(0, HV.int .i64 p0), (1, HV.int .i64 p1), (18, HV.bool (decide (65536 < p1)))], []⟩) (le_q rfl rfl) ?_
 clear hK K
 refine AW.cond rfl (fun hc => ?_) (fun hc => ?_)
 ·have hc := of_decide_eq_true hc
  have h := ifT hc h
  refine AW.rgs rfl fun K hK => ?_
  refine mv rfl rfl ?_
  refine mv rfl rfl ?_
  refine b_fin hK (s' := ⟨[(4, HV.v (.slice none 0 0)), (5, HV.int .i64 4)], []⟩) (le_q rfl rfl) ?_
  clear hK K
  refine AW.to (to_weak ⟨[(4, slE eStr ([] : List (List UInt8))), (5, HV.int .i64 4)], []⟩ ⟨⟨_, rfl, .nil _⟩, ⟨_, rfl, .refl _⟩, trivial⟩ trivial ?_)
  refine AW.ret ?_
  have h := Option.some.inj h
  subst h
  exact ret_pure (hs := [slE eStr ([] : List (List UInt8)), HV.int .i64 4]) (q := HV.tup [slE eStr ([] : List (List UInt8)), HV.int .i64 4]) (.inr rfl) (resT rfl (resT rfl rfl)) rfl ⟨(clean_slE fun _ _ => ⟨trivial, trivial⟩), trivial, trivial⟩
 have hc := of_decide_eq_false hc
 have h := ifF hc h
 refine AW.skip ?_
 refine AW.seq ?_
 refine AW.rgs rfl fun K hK => ?_
 refine mv rfl rfl ?_
 refine bv rfl (v_bin rfl rfl b_eql) ?_
 refine b_fin hK (s' := ⟨[(0, HV.int .i64 p0), (1, HV.int .i64 p1), (22, HV.bool (decide (p0 = 1)))], []⟩) (le_q rfl rfl) ?_
 clear hK K
 refine AW.cond rfl (fun hc => ?_) (fun hc => ?_)
 ·have hc := of_decide_eq_true hc
  have h := ifT hc h
  refine AW.rgs rfl fun K hK => ?_
  refine mv rfl rfl ?_
  obtain ⟨x3, h4, h⟩ := bS h
  refine b_op rfl (o_call rfl rfl rfl rfl (ACallD.pure0 (w_strings_Repeat h4)) ?_)
  refine b_op rfl (o_bsl rfl rfl (as_of (cs := [HV.str x3]) ty48 ty9 rfl rfl rfl rfl rfl) ?_)
  refine mv rfl rfl ?_
  refine mv rfl rfl ?_
  refine b_fin hK (s' := ⟨[(4, slE eStr [x3]), (5, HV.int .i64 0)], []⟩) (le_q rfl rfl) ?_
  clear hK K
  refine AW.ret ?_
  have h := Option.some.inj h
  subst h
  exact ret_pure (hs := [slE eStr [x3], HV.int .i64 0]) (q := HV.tup [slE eStr [x3], HV.int .i64 0]) (.inr rfl) (resT rfl (resT rfl rfl)) rfl ⟨(clean_slE fun _ _ => ⟨trivial, trivial⟩), trivial, trivial⟩
 have hc := of_decide_eq_false hc
 have h := ifF hc h
 refine AW.skip ?_
 refine AW.rgs rfl fun K hK => ?_
 refine b_op rfl (o_bsl rfl rfl (as_of (cs := [HV.str ([] : List UInt8)]) ty48 ty9 rfl rfl rfl rfl rfl) ?_)
 refine mv rfl rfl ?_
 refine b_fin hK (s' := ⟨[(0, HV.int .i64 p0), (1, HV.int .i64 p1), (6, slE eStr [([] : List UInt8)])], []⟩) (le_q rfl rfl) ?_
 clear hK K
 refine AW.seq ?_
 refine AW.rgs rfl fun K hK => ?_
 refine mv rfl rfl ?_
 refine mv rfl rfl ?_
 refine b_fin hK (s' := ⟨[(0, HV.int .i64 p0), (6, slE eStr [([] : List UInt8)]), (27, HV.int .i64 p1), (28, HV.int .i64 0)], []⟩) (le_q rfl rfl) ?_
 clear hK K
 refine AW.lpR h (by first | exact up_then | exact up_to) (S := (List (List UInt8)) × Int) (V := Unit) (fun a v => ⟨[(0, HV.int .i64 p0), (6, slE eStr a.1), (27, HV.int .i64 p1), (28, HV.int .i64 a.2)], []⟩) ?_ (X := (List (List UInt8))) (W := Unit) (fun a v => ⟨[(6, slE eStr a)], []⟩) (fun a29 w30 h => ?_) (fun a5 w6 st7 h hr8=> ?_)
 ·exact to_le (s' := ⟨[(0, HV.int .i64 p0), (6, slE eStr [([] : List UInt8)]), (27, HV.int .i64 p1), (28, HV.int .i64 0)], []⟩) (AS.le_of ⟨rfl, rfl, rfl, rfl, trivial⟩ trivial) ⟨(), rfl⟩
 ·refine AW.rgs rfl fun K hK => ?_
  refine mv rfl rfl ?_
  refine mv rfl rfl ?_
  refine mv rfl rfl ?_
  refine b_fin hK (s' := ⟨[(4, slE eStr a29), (5, HV.int .i64 0)], []⟩) (le_q rfl rfl) ?_
  clear hK K
  refine AW.ret ?_
  have h := Option.some.inj h
  subst h
  exact ret_pure (hs := [slE eStr a29, HV.int .i64 0]) (q := HV.tup [slE eStr a29, HV.int .i64 0]) (.inr rfl) (resT rfl (resT rfl rfl)) rfl ⟨(clean_slE fun _ _ => ⟨trivial, trivial⟩), trivial, trivial⟩
 refine AW.rgs rfl fun K hK => ?_
 refine bv rfl (v_bin rfl rfl b_lss) ?_
 refine b_fin hK (s' := ⟨[(0, HV.int .i64 p0), (6, slE eStr a5.1), (27, HV.int .i64 p1), (28, HV.int .i64 a5.2), (29, HV.bool (decide (a5.2 < p1)))], []⟩) (le_q rfl rfl) ?_
 clear hK K
 refine AW.cseq rfl (fun hc => ?_) (fun hc => ?_)
 ·have hc := of_decide_eq_true hc
  have h := ifT hc h
  refine AW.skip ?_
  refine AW.seq (AW.block ?_)
  refine AW.seq ?_
  refine AW.rgs rfl fun K hK => ?_
  refine mv rfl rfl ?_
  refine bv rfl (v_lenF rfl rfl ty48 rfl) ?_
  refine mv rfl rfl ?_
  refine bv rfl (v_bin rfl rfl b_mul) ?_
  refine bv rfl (v_bin rfl rfl b_gtr) ?_
  refine b_fin hK (s' := ⟨[(0, HV.int .i64 p0), (6, slE eStr a5.1), (27, HV.int .i64 p1), (28, HV.int .i64 a5.2), (34, HV.bool (decide (4096 < (IntKind.wrap .i64 (((a5.1).length : Int) * p0)))))], []⟩) (le_q rfl rfl) ?_
  clear hK K
  refine AW.cond rfl (fun hc => ?_) (fun hc => ?_)
  ·have hc := of_decide_eq_true hc
   have h := ifT hc h
   refine AW.rgs rfl fun K hK => ?_
   refine mv rfl rfl ?_
   refine mv rfl rfl ?_
   refine b_fin hK (s' := ⟨[(4, HV.v (.slice none 0 0)), (5, HV.int .i64 4)], []⟩) (le_q rfl rfl) ?_
   clear hK K
   have h := hr8 _ h
   refine AW.to (to_weak ⟨[(4, slE eStr ([] : List (List UInt8))), (5, HV.int .i64 4)], []⟩ ⟨⟨_, rfl, .nil _⟩, ⟨_, rfl, .refl _⟩, trivial⟩ trivial ?_)
   refine AW.ret ?_
   have h := Option.some.inj h
   subst h
   exact ret_pure (hs := [slE eStr ([] : List (List UInt8)), HV.int .i64 4]) (q := HV.tup [slE eStr ([] : List (List UInt8)), HV.int .i64 4]) (.inr rfl) (resT rfl (resT rfl rfl)) rfl ⟨(clean_slE fun _ _ => ⟨trivial, trivial⟩), trivial, trivial⟩
  have hc := of_decide_eq_false hc
  have h := ifF hc h
  refine AW.skip ?_
  refine AW.rgs rfl fun K hK => ?_
  refine mv rfl rfl ?_
  refine bv rfl (v_lenF rfl rfl ty48 rfl) ?_
  refine mv rfl rfl ?_
  refine bv rfl (v_bin rfl rfl b_mul) ?_
  obtain ⟨h10, h⟩ := ifN h
  refine b_op rfl (o_makeE (fid := 30) eStr (([] : List UInt8) : List UInt8) 30039 rfl rfl ty48 rfl rfl ty9 rfl rfl h10 (fun v9 => ?_))
  refine mv rfl rfl ?_
  refine b_fin hK (s' := ⟨[(0, HV.int .i64 p0), (6, slE eStr a5.1), (7, HV.ar 30039 v9 eStr.k 0 ((List.replicate (0 : Int).toNat (([] : List UInt8) : List UInt8)).length)), (27, HV.int .i64 p1), (28, HV.int .i64 a5.2)], [(30039, v9, .arr eStr.k 9 (eStr.E (List.replicate (0 : Int).toNat (([] : List UInt8) : List UInt8))))]⟩) (le_q rfl rfl) ?_
  clear hK K
  refine AW.seq ?_
  refine AW.rgs rfl fun K hK => ?_
  refine mv rfl rfl ?_
  refine bv rfl (v_lenF rfl rfl ty48 rfl) ?_
  refine mv rfl rfl ?_
  refine b_fin hK (s' := ⟨[(0, HV.int .i64 p0), (7, HV.ar 30039 v9 eStr.k 0 ((List.replicate (0 : Int).toNat (([] : List UInt8) : List UInt8)).length)), (27, HV.int .i64 p1), (28, HV.int .i64 a5.2), (40, slE eStr a5.1), (41, HV.int .i64 ((a5.1).length : Int)), (42, HV.int .i64 0)], [(30039, v9, .arr eStr.k 9 (eStr.E (List.replicate (0 : Int).toNat (([] : List UInt8) : List UInt8))))]⟩) (le_q rfl rfl) ?_
  clear hK K
  refine AW.lpX h (by first | exact up_then | exact up_to) (S := Int × (List (List UInt8))) (V := Nat) (fun a v => ⟨[(0, HV.int .i64 p0), (7, HV.ar 30039 v eStr.k 0 ((a.2).length)), (27, HV.int .i64 p1), (28, HV.int .i64 a5.2), (40, slE eStr a5.1), (41, HV.int .i64 ((a5.1).length : Int)), (42, HV.int .i64 a.1)], [(30039, v, .arr eStr.k 9 (eStr.E a.2))]⟩) ?_ (X := (List (List UInt8))) (W := Nat) (fun a v => ⟨[(0, HV.int .i64 p0), (7, HV.ar 30039 v eStr.k 0 ((a).length)), (27, HV.int .i64 p1), (28, HV.int .i64 a5.2)], [(30039, v, .arr eStr.k 9 (eStr.E a))]⟩) (fun a27 w28 h => ?_) (fun a11 w12 st13 h => ?_)
  ·exact to_le (s' := ⟨[(0, HV.int .i64 p0), (7, HV.ar 30039 v9 eStr.k 0 ((List.replicate (0 : Int).toNat (([] : List UInt8) : List UInt8)).length)), (27, HV.int .i64 p1), (28, HV.int .i64 a5.2), (40, slE eStr a5.1), (41, HV.int .i64 ((a5.1).length : Int)), (42, HV.int .i64 0)], [(30039, v9, .arr eStr.k 9 (eStr.E (List.replicate (0 : Int).toNat (([] : List UInt8) : List UInt8))))]⟩) (AS.le_of ⟨rfl, rfl, rfl, rfl, rfl, rfl, rfl, trivial⟩ ⟨rfl, trivial⟩) ⟨v9, rfl⟩
  ·refine AW.rg rfl fun K hK => ?_
   refine mv rfl rfl ?_
   refine mv rfl rfl ?_
   refine b_fin hK (s' := ⟨[(0, HV.int .i64 p0), (6, HV.ar 30039 w28 eStr.k 0 ((a27).length)), (27, HV.int .i64 p1), (28, HV.int .i64 a5.2)], [(30039, w28, .arr eStr.k 9 (eStr.E a27))]⟩) (le_q rfl rfl) ?_
   clear hK K
   refine AW.rg rfl fun K hK => ?_
   refine bv rfl (v_bin rfl rfl b_add) ?_
   refine mv rfl rfl ?_
   refine b_nil (hK _ ?_)
   clear hK K
   refine to_bind (to_frz 2 [(30039, w28, .arr eStr.k 9 (eStr.E a27))] ⟨[(0, HV.int .i64 p0), (6, slE eStr a27), (27, HV.int .i64 p1), (28, HV.int .i64 (IntKind.wrap .i64 (a5.2 + 1)))], []⟩ ⟨⟨_, rfl, rfl⟩, ⟨_, rfl, frz_slE eStr (l := a27) rfl fun _ _ => rfl⟩, ⟨_, rfl, rfl⟩, ⟨_, rfl, rfl⟩, trivial⟩ trivial ⟨rfl, trivial⟩ ⟨rfl, trivial⟩ ?_)
   exact to_le (s' := ⟨[(0, HV.int .i64 p0), (6, slE eStr a27), (27, HV.int .i64 p1), (28, HV.int .i64 (IntKind.wrap .i64 (a5.2 + 1)))], []⟩) (AS.le_of ⟨rfl, rfl, rfl, rfl, trivial⟩ trivial) ⟨(a27, IntKind.wrap .i64 (a5.2 + 1)), (), h, rfl⟩
  refine AW.rgs rfl fun K hK => ?_
  refine bv rfl (v_bin rfl rfl b_lss) ?_
  refine b_fin hK (s' := ⟨[(0, HV.int .i64 p0), (7, HV.ar 30039 w12 eStr.k 0 ((a11.2).length)), (27, HV.int .i64 p1), (28, HV.int .i64 a5.2), (40, slE eStr a5.1), (41, HV.int .i64 ((a5.1).length : Int)), (42, HV.int .i64 a11.1), (43, HV.bool (decide (a11.1 < ((a5.1).length : Int))))], [(30039, w12, .arr eStr.k 9 (eStr.E a11.2))]⟩) (le_q rfl rfl) ?_
  clear hK K
  refine AW.cseq rfl (fun hc => ?_) (fun hc => ?_)
  ·have hc := of_decide_eq_true hc
   have h := ifT hc h
   refine AW.skip ?_
   refine AW.seq (AW.block ?_)
   refine AW.rgs rfl fun K hK => ?_
   obtain ⟨x15, h16, h⟩ := bS h
   refine bv rfl (v_idxF ty48 es48 rfl rfl (idx_lt h16)) ?_
   refine bv rfl (v_loadF ty9 rfl (l_cell eStr h16 (o := 0) rfl rfl)) ?_
   refine mv rfl rfl ?_
   refine b_fin hK (s' := ⟨[(0, HV.int .i64 p0), (7, HV.ar 30039 w12 eStr.k 0 ((a11.2).length)), (9, HV.str x15), (27, HV.int .i64 p1), (28, HV.int .i64 a5.2), (40, slE eStr a5.1), (41, HV.int .i64 ((a5.1).length : Int)), (42, HV.int .i64 a11.1)], [(30039, w12, .arr eStr.k 9 (eStr.E a11.2))]⟩) (le_q rfl rfl) ?_
   clear hK K
   refine AW.rgs rfl fun K hK => ?_
   refine mv rfl rfl ?_
   refine mv rfl rfl ?_
   refine b_fin hK (s' := ⟨[(0, HV.int .i64 p0), (7, HV.ar 30039 w12 eStr.k 0 ((a11.2).length)), (9, HV.str x15), (27, HV.int .i64 p1), (28, HV.int .i64 a5.2), (40, slE eStr a5.1), (41, HV.int .i64 ((a5.1).length : Int)), (42, HV.int .i64 a11.1), (46, HV.int .i64 p0), (47, HV.int .i64 0)], [(30039, w12, .arr eStr.k 9 (eStr.E a11.2))]⟩) (le_q rfl rfl) ?_
   clear hK K
   refine AW.lpX h (by first | exact up_then | exact up_to) (S := Int × (List (List UInt8))) (V := Nat) (fun a v => ⟨[(0, HV.int .i64 p0), (7, HV.ar 30039 v eStr.k 0 ((a.2).length)), (9, HV.str x15), (27, HV.int .i64 p1), (28, HV.int .i64 a5.2), (40, slE eStr a5.1), (41, HV.int .i64 ((a5.1).length : Int)), (42, HV.int .i64 a11.1), (46, HV.int .i64 p0), (47, HV.int .i64 a.1)], [(30039, v, .arr eStr.k 9 (eStr.E a.2))]⟩) ?_ (X := (List (List UInt8))) (W := Nat) (fun a v => ⟨[(0, HV.int .i64 p0), (7, HV.ar 30039 v eStr.k 0 ((a).length)), (27, HV.int .i64 p1), (28, HV.int .i64 a5.2), (40, slE eStr a5.1), (41, HV.int .i64 ((a5.1).length : Int)), (42, HV.int .i64 a11.1)], [(30039, v, .arr eStr.k 9 (eStr.E a))]⟩) (fun a25 w26 h => ?_) (fun a17 w18 st19 h => ?_)
   ·exact to_le (s' := ⟨[(0, HV.int .i64 p0), (7, HV.ar 30039 w12 eStr.k 0 ((a11.2).length)), (9, HV.str x15), (27, HV.int .i64 p1), (28, HV.int .i64 a5.2), (40, slE eStr a5.1), (41, HV.int .i64 ((a5.1).length : Int)), (42, HV.int .i64 a11.1), (46, HV.int .i64 p0), (47, HV.int .i64 0)], [(30039, w12, .arr eStr.k 9 (eStr.E a11.2))]⟩) (AS.le_of ⟨rfl, rfl, rfl, rfl, rfl, rfl, rfl, rfl, rfl, rfl, trivial⟩ ⟨rfl, trivial⟩) ⟨w12, rfl⟩
   ·refine AW.rg rfl fun K hK => ?_
    refine bv rfl (v_bin rfl rfl b_add) ?_
    refine mv rfl rfl ?_
    refine b_nil (hK _ ?_)
    clear hK K
    exact to_le (s' := ⟨[(0, HV.int .i64 p0), (7, HV.ar 30039 w26 eStr.k 0 ((a25).length)), (27, HV.int .i64 p1), (28, HV.int .i64 a5.2), (40, slE eStr a5.1), (41, HV.int .i64 ((a5.1).length : Int)), (42, HV.int .i64 (IntKind.wrap .i64 (a11.1 + 1)))], [(30039, w26, .arr eStr.k 9 (eStr.E a25))]⟩) (AS.le_of ⟨rfl, rfl, rfl, rfl, rfl, rfl, rfl, trivial⟩ ⟨rfl, trivial⟩) ⟨(IntKind.wrap .i64 (a11.1 + 1), a25), w26, h, rfl⟩
   refine AW.rgs rfl fun K hK => ?_
   refine bv rfl (v_bin rfl rfl b_lss) ?_
   refine b_fin hK (s' := ⟨[(0, HV.int .i64 p0), (7, HV.ar 30039 w18 eStr.k 0 ((a17.2).length)), (9, HV.str x15), (27, HV.int .i64 p1), (28, HV.int .i64 a5.2), (40, slE eStr a5.1), (41, HV.int .i64 ((a5.1).length : Int)), (42, HV.int .i64 a11.1), (46, HV.int .i64 p0), (47, HV.int .i64 a17.1), (48, HV.bool (decide (a17.1 < p0)))], [(30039, w18, .arr eStr.k 9 (eStr.E a17.2))]⟩) (le_q rfl rfl) ?_
   clear hK K
   refine AW.cseq rfl (fun hc => ?_) (fun hc => ?_)
   ·have hc := of_decide_eq_true hc
    have h := ifT hc h
    refine AW.skip ?_
    refine AW.seq (AW.block ?_)
    refine AW.rgs rfl fun K hK => ?_
    refine mv rfl rfl ?_
    refine mv rfl rfl ?_
    refine b_fin hK (s' := ⟨[(0, HV.int .i64 p0), (7, HV.ar 30039 w18 eStr.k 0 ((a17.2).length)), (9, HV.str x15), (10, HV.int .i64 a17.1), (27, HV.int .i64 p1), (28, HV.int .i64 a5.2), (40, slE eStr a5.1), (41, HV.int .i64 ((a5.1).length : Int)), (42, HV.int .i64 a11.1), (46, HV.int .i64 p0), (47, HV.int .i64 a17.1)], [(30039, w18, .arr eStr.k 9 (eStr.E a17.2))]⟩) (le_q rfl rfl) ?_
    clear hK K
    refine AW.rg rfl fun K hK => ?_
    refine mv rfl rfl ?_
    refine mv rfl rfl ?_
    refine mv rfl rfl ?_
    refine mv rfl rfl ?_
    refine bv rfl (v_bin rfl rfl b_add) ?_
    obtain ⟨h21, h⟩ := ifN h
    refine bv rfl (v_sliceS ty9 rfl rfl rfl h21) ?_
    obtain ⟨h22, h⟩ := ifN h
    refine bv rfl (v_bin rfl rfl (b_sadd h22)) ?_
    refine b_op rfl (o_bsl rfl rfl (as_of (cs := [HV.str (x15 ++ ((([48, 49, 50, 51, 52, 53, 54, 55, 56, 57, 97, 98, 99, 100, 101, 102] : List UInt8).take (IntKind.wrap .i64 (a17.1 + 1)).toNat).drop (a17.1).toNat))]) ty48 ty9 rfl rfl rfl rfl rfl) ?_)
    obtain ⟨h24, h⟩ := ifN h
    refine b_op rfl (o_appE eStr (l := a17.2) (m := [x15 ++ ((([48, 49, 50, 51, 52, 53, 54, 55, 56, 57, 97, 98, 99, 100, 101, 102] : List UInt8).take (IntKind.wrap .i64 (a17.1 + 1)).toNat).drop (a17.1).toNat)]) rfl rfl ty48 ty48 ty9 rfl rfl rfl rfl rfl h24 (fun v23 => ?_))
    refine mv rfl rfl ?_
    refine b_fin hK (s' := ⟨[(0, HV.int .i64 p0), (7, HV.ar 30039 v23 eStr.k 0 ((a17.2 ++ [x15 ++ ((([48, 49, 50, 51, 52, 53, 54, 55, 56, 57, 97, 98, 99, 100, 101, 102] : List UInt8).take (IntKind.wrap .i64 (a17.1 + 1)).toNat).drop (a17.1).toNat)]).length)), (9, HV.str x15), (27, HV.int .i64 p1), (28, HV.int .i64 a5.2), (40, slE eStr a5.1), (41, HV.int .i64 ((a5.1).length : Int)), (42, HV.int .i64 a11.1), (46, HV.int .i64 p0), (47, HV.int .i64 a17.1)], [(30039, v23, .arr eStr.k 9 (eStr.E (a17.2 ++ [x15 ++ ((([48, 49, 50, 51, 52, 53, 54, 55, 56, 57, 97, 98, 99, 100, 101, 102] : List UInt8).take (IntKind.wrap .i64 (a17.1 + 1)).toNat).drop (a17.1).toNat)])))]⟩) (le_q rfl rfl) ?_
    clear hK K
    refine AW.rg rfl fun K hK => ?_
    refine bv rfl (v_bin rfl rfl b_add) ?_
    refine mv rfl rfl ?_
    refine b_nil (hK _ ?_)
    clear hK K
    exact to_le (s' := ⟨[(0, HV.int .i64 p0), (7, HV.ar 30039 v23 eStr.k 0 ((a17.2 ++ [x15 ++ ((([48, 49, 50, 51, 52, 53, 54, 55, 56, 57, 97, 98, 99, 100, 101, 102] : List UInt8).take (IntKind.wrap .i64 (a17.1 + 1)).toNat).drop (a17.1).toNat)]).length)), (9, HV.str x15), (27, HV.int .i64 p1), (28, HV.int .i64 a5.2), (40, slE eStr a5.1), (41, HV.int .i64 ((a5.1).length : Int)), (42, HV.int .i64 a11.1), (46, HV.int .i64 p0), (47, HV.int .i64 (IntKind.wrap .i64 (a17.1 + 1)))], [(30039, v23, .arr eStr.k 9 (eStr.E (a17.2 ++ [x15 ++ ((([48, 49, 50, 51, 52, 53, 54, 55, 56, 57, 97, 98, 99, 100, 101, 102] : List UInt8).take (IntKind.wrap .i64 (a17.1 + 1)).toNat).drop (a17.1).toNat)])))]⟩) (AS.le_of ⟨rfl, rfl, rfl, rfl, rfl, rfl, rfl, rfl, rfl, rfl, trivial⟩ ⟨rfl, trivial⟩) ⟨(IntKind.wrap .i64 (a17.1 + 1), a17.2 ++ [x15 ++ ((([48, 49, 50, 51, 52, 53, 54, 55, 56, 57, 97, 98, 99, 100, 101, 102] : List UInt8).take (IntKind.wrap .i64 (a17.1 + 1)).toNat).drop (a17.1).toNat)]), v23, h, rfl⟩
   have hc := of_decide_eq_false hc
   have h := ifF hc h
   refine AW.exit ?_
   exact to_le (s' := ⟨[(0, HV.int .i64 p0), (7, HV.ar 30039 w18 eStr.k 0 ((a17.2).length)), (27, HV.int .i64 p1), (28, HV.int .i64 a5.2), (40, slE eStr a5.1), (41, HV.int .i64 ((a5.1).length : Int)), (42, HV.int .i64 a11.1)], [(30039, w18, .arr eStr.k 9 (eStr.E a17.2))]⟩) (AS.le_of ⟨rfl, rfl, rfl, rfl, rfl, rfl, rfl, trivial⟩ ⟨rfl, trivial⟩) ⟨a17.2, w18, h, rfl⟩
  have hc := of_decide_eq_false hc
  have h := ifF hc h
  refine AW.exit ?_
  exact to_le (s' := ⟨[(0, HV.int .i64 p0), (7, HV.ar 30039 w12 eStr.k 0 ((a11.2).length)), (27, HV.int .i64 p1), (28, HV.int .i64 a5.2)], [(30039, w12, .arr eStr.k 9 (eStr.E a11.2))]⟩) (AS.le_of ⟨rfl, rfl, rfl, rfl, trivial⟩ ⟨rfl, trivial⟩) ⟨a11.2, w12, h, rfl⟩
 have hc := of_decide_eq_false hc
 have h := ifF hc h
 refine AW.exit ?_
 exact to_le (s' := ⟨[(6, slE eStr a5.1)], []⟩) (AS.le_of ⟨rfl, trivial⟩ trivial) ⟨a5.1, (), h, rfl⟩

end Go.AW

namespace Go.AW
open Go Go.Proofs
set_option linter.unusedVariables false
set_option maxHeartbeats 1600000 in
set_option maxRecDepth 100000 in
theorem w_law54_SyncmarkSearch {p0 : TLabelsStatesEdges} {p1 : Int} {p2 : Int} {p3 : Int} {r : Bool} (h : m_law54_SyncmarkSearch p0 p1 p2 p3 = some r) : Pure Try.prog 6 [HV.agg [HV.int .i64 p0.1, HV.int .i64 p0.2.1, slE eFromLabelTo p0.2.2], HV.int .u8 p1, HV.int .u8 p2, HV.int .u8 p3] (· = HV.bool r) := by
 unfold m_law54_SyncmarkSearch at h
 refine Pure.of_body Try.func6 rfl rfl (Nat.le_of_ble_eq_true rfl) fun hf => ?_
 unfold Try.f6
 dsimp only [enumS, Nat.reduceAdd]
 refine AW.rgs rfl fun K hK => ?_
 refine b_op rfl (o_box rfl rfl rfl ?_)
 refine mv rfl rfl ?_
 refine b_fin hK (s' := ⟨[(1, HV.int .u8 p1), (2, HV.int .u8 p2), (3, HV.int .u8 p3), (4, HV.fptr [HV.int .i64 p0.1, HV.int .i64 p0.2.1, slE eFromLabelTo p0.2.2] 0)], []⟩) (le_q rfl rfl) ?_
 clear hK K
 refine AW.rgs rfl fun K hK => ?_
 refine mv rfl rfl ?_
 refine bv rfl (v_convI ty5 ty3 rfl) ?_
 refine bv rfl (v_bin rfl rfl (b_rem (by decide))) ?_
 refine mv rfl rfl ?_
 refine bv rfl (v_convI ty5 ty3 rfl) ?_
 refine bv rfl (v_bin rfl rfl (b_rem (by decide))) ?_
 refine bv rfl (v_bin rfl rfl b_add) ?_
 refine mv rfl rfl ?_
 refine bv rfl (v_convI ty5 ty3 rfl) ?_
 refine bv rfl (v_bin rfl rfl (b_rem (by decide))) ?_
 refine bv rfl (v_bin rfl rfl b_add) ?_
 refine mv rfl rfl ?_
 refine mv rfl rfl ?_
 refine mv rfl rfl ?_
 refine b_fin hK (s' := ⟨[(4, HV.fptr [HV.int .i64 p0.1, HV.int .i64 p0.2.1, slE eFromLabelTo p0.2.2] 0), (9, HV.int .i64 (Int.tmod (IntKind.wrap .i64 p1) 6)), (10, HV.int .i64 (IntKind.wrap .i64 (1 + (Int.tmod (IntKind.wrap .i64 p2) 3)))), (11, HV.int .i64 (IntKind.wrap .i64 (1 + (Int.tmod (IntKind.wrap .i64 p3) 4))))], []⟩) (le_q rfl rfl) ?_
 clear hK K
 refine AW.seq ?_
 refine AW.seqJ h (S := Bool) (V := Unit) (fun a v => ⟨[(4, HV.fptr [HV.int .i64 p0.1, HV.int .i64 p0.2.1, slE eFromLabelTo p0.2.2] 0), (9, HV.int .i64 (Int.tmod (IntKind.wrap .i64 p1) 6)), (10, HV.int .i64 (IntKind.wrap .i64 (1 + (Int.tmod (IntKind.wrap .i64 p2) 3)))), (11, HV.int .i64 (IntKind.wrap .i64 (1 + (Int.tmod (IntKind.wrap .i64 p3) 4)))), (43, HV.bool a)], []⟩) (fun a1 w2 h => ?_) (fun k3 h => ?_)
 ·refine AW.cond rfl (fun hc => ?_) (fun hc => ?_)
  ·have h := ifT hc h
   refine AW.rgs rfl fun K hK => ?_
   obtain ⟨x4, h5, h⟩ := bS h
   refine b_op rfl (o_call rfl rfl rfl rfl (ACallD.pure0 (w_law54_awake h5)) ?_)
   refine mv rfl rfl ?_
   refine b_fin hK (s' := ⟨[(8, HV.bool x4)], []⟩) (le_q rfl rfl) ?_
   clear hK K
   refine AW.ret ?_
   have h := Option.some.inj h
   subst h
   exact ret_pure (hs := [HV.bool x4]) (q := HV.bool x4) (.inr rfl) (resT rfl rfl) rfl trivial
  have h := ifF (bF' hc) h
  refine AW.skip ?_
  refine AW.rgs rfl fun K hK => ?_
  refine bv rfl (v_loadF ty24 rfl (l_litA rfl (Nat.le_of_ble_eq_true rfl) rfl)) ?_
  refine mv rfl rfl ?_
  refine mv rfl rfl ?_
  refine mv rfl rfl ?_
  obtain ⟨x6, h7, h⟩ := bS h
  refine b_op rfl (o_call rfl rfl rfl rfl (ACallD.pure0 (w_syncmark_Search h7)) ?_)
  refine mv rfl rfl ?_
  refine bv rfl (v_extract rfl rfl) ?_
  refine bv rfl (v_extract rfl rfl) ?_
  refine mv rfl rfl ?_
  refine mv rfl rfl ?_
  refine b_fin hK (s' := ⟨[(4, HV.fptr [HV.int .i64 p0.1, HV.int .i64 p0.2.1, slE eFromLabelTo p0.2.2] 0), (9, HV.int .i64 (Int.tmod (IntKind.wrap .i64 p1) 6)), (10, HV.int .i64 (IntKind.wrap .i64 (1 + (Int.tmod (IntKind.wrap .i64 p2) 3)))), (11, HV.int .i64 (IntKind.wrap .i64 (1 + (Int.tmod (IntKind.wrap .i64 p3) 4)))), (12, HV.str x6.1), (13, HV.int .i64 x6.2)], []⟩) (le_q rfl rfl) ?_
  clear hK K
  refine AW.seq ?_
  refine AW.rgs rfl fun K hK => ?_
  refine mv rfl rfl ?_
  refine mv rfl rfl ?_
  refine bv rfl (v_bin rfl rfl b_gtr) ?_
  refine b_fin hK (s' := ⟨[(4, HV.fptr [HV.int .i64 p0.1, HV.int .i64 p0.2.1, slE eFromLabelTo p0.2.2] 0), (9, HV.int .i64 (Int.tmod (IntKind.wrap .i64 p1) 6)), (10, HV.int .i64 (IntKind.wrap .i64 (1 + (Int.tmod (IntKind.wrap .i64 p2) 3)))), (11, HV.int .i64 (IntKind.wrap .i64 (1 + (Int.tmod (IntKind.wrap .i64 p3) 4)))), (12, HV.str x6.1), (13, HV.int .i64 x6.2), (55, HV.bool (decide ((IntKind.wrap .i64 (1 + (Int.tmod (IntKind.wrap .i64 p3) 4))) < (IntKind.wrap .i64 (1 + (Int.tmod (IntKind.wrap .i64 p2) 3))))))], []⟩) (le_q rfl rfl) ?_
  clear hK K
  refine AW.cond rfl (fun hc => ?_) (fun hc => ?_)
  ·have hc := of_decide_eq_true hc
   have h := ifT hc h
   refine AW.seqJ h (S := Bool) (V := Unit) (fun a v => ⟨[(8, HV.bool a)], []⟩) (fun a8 w9 h => ?_) (fun k10 h => ?_)
   ·refine AW.ret ?_
    have h := Option.some.inj h
    subst h
    exact ret_pure (hs := [HV.bool a8]) (q := HV.bool a8) (.inr rfl) (resT rfl rfl) rfl trivial
   refine AW.rg rfl fun K hK => ?_
   refine mv rfl rfl ?_
   refine bv rfl (v_bin rfl rfl b_eql) ?_
   refine mv rfl rfl ?_
   by_cases hg14 : x6.2 = 2
   ·have h := ifT hg14 h
    refine b_T rfl rfl rfl rfl (decide_eq_true hg14) (o_val rfl (mv_val rfl rfl).2 ?_)
    refine b_T rfl rfl rfl rfl rfl (o_val rfl (v_bin rfl rfl b_seql) ?_)
    refine bv rfl (v_pickT rfl rfl rfl) ?_
    refine mv rfl rfl ?_
    by_cases hg13 : x6.1 = ([] : List UInt8)
    ·have h := ifT hg13 h
     obtain ⟨x11, h12, h⟩ := bS h
     refine b_T rfl rfl rfl rfl (decide_eq_true hg13) (o_call rfl rfl rfl rfl (ACallD.pure0 (w_law54_awake h12)) ?_)
     refine bv rfl (v_pickT rfl rfl rfl) ?_
     refine mv rfl rfl ?_
     refine b_nil (hK _ ?_)
     clear hK K
     exact to_le (s' := ⟨[(8, HV.bool x11)], []⟩) (AS.le_of ⟨rfl, trivial⟩ trivial) ⟨x11, (), h, rfl⟩
    have h := ifF hg13 h
    refine b_F rfl rfl rfl rfl rfl (decide_eq_false hg13) ?_
    refine bv rfl (v_pickF rfl rfl rfl) ?_
    refine mv rfl rfl ?_
    refine b_nil (hK _ ?_)
    clear hK K
    exact to_le (s' := ⟨[(8, HV.bool false)], []⟩) (AS.le_of ⟨rfl, trivial⟩ trivial) ⟨false, (), h, rfl⟩
   have h := ifF hg14 h
   refine b_F rfl rfl rfl rfl rfl (decide_eq_false hg14) ?_
   refine b_F rfl rfl rfl rfl rfl rfl ?_
   refine bv rfl (v_pickF rfl rfl rfl) ?_
   refine mv rfl rfl ?_
   refine b_F rfl rfl rfl rfl rfl rfl ?_
   refine bv rfl (v_pickF rfl rfl rfl) ?_
   refine mv rfl rfl ?_
   refine b_nil (hK _ ?_)
   clear hK K
   exact to_le (s' := ⟨[(8, HV.bool false)], []⟩) (AS.le_of ⟨rfl, trivial⟩ trivial) ⟨false, (), h, rfl⟩
  have hc := of_decide_eq_false hc
  have h := ifF hc h
  refine AW.skip ?_
  refine AW.seq ?_
  refine AW.rgs rfl fun K hK => ?_
  refine mv rfl rfl ?_
  refine mv rfl rfl ?_
  refine b_fin hK (s' := ⟨[(4, HV.fptr [HV.int .i64 p0.1, HV.int .i64 p0.2.1, slE eFromLabelTo p0.2.2] 0), (9, HV.int .i64 (Int.tmod (IntKind.wrap .i64 p1) 6)), (11, HV.int .i64 (IntKind.wrap .i64 (1 + (Int.tmod (IntKind.wrap .i64 p3) 4)))), (12, HV.str x6.1), (13, HV.int .i64 x6.2), (14, HV.int .i64 (IntKind.wrap .i64 (1 + (Int.tmod (IntKind.wrap .i64 p2) 3))))], []⟩) (le_q rfl rfl) ?_
  clear hK K
  refine AW.lpR h (by first | exact up_then | exact up_to) (S := Int) (V := Unit) (fun a v => ⟨[(4, HV.fptr [HV.int .i64 p0.1, HV.int .i64 p0.2.1, slE eFromLabelTo p0.2.2] 0), (9, HV.int .i64 (Int.tmod (IntKind.wrap .i64 p1) 6)), (11, HV.int .i64 (IntKind.wrap .i64 (1 + (Int.tmod (IntKind.wrap .i64 p3) 4)))), (12, HV.str x6.1), (13, HV.int .i64 x6.2), (14, HV.int .i64 a)], []⟩) ?_ (X := Unit) (W := Unit) (fun a v => ⟨[(12, HV.str x6.1), (13, HV.int .i64 x6.2)], []⟩) (fun a38 w39 h => ?_) (fun a15 w16 st17 h hr18=> ?_)
  ·exact to_le (s' := ⟨[(4, HV.fptr [HV.int .i64 p0.1, HV.int .i64 p0.2.1, slE eFromLabelTo p0.2.2] 0), (9, HV.int .i64 (Int.tmod (IntKind.wrap .i64 p1) 6)), (11, HV.int .i64 (IntKind.wrap .i64 (1 + (Int.tmod (IntKind.wrap .i64 p3) 4)))), (12, HV.str x6.1), (13, HV.int .i64 x6.2), (14, HV.int .i64 (IntKind.wrap .i64 (1 + (Int.tmod (IntKind.wrap .i64 p2) 3))))], []⟩) (AS.le_of ⟨rfl, rfl, rfl, rfl, rfl, rfl, trivial⟩ trivial) ⟨(), rfl⟩
  ·refine AW.seqJ h (S := Bool) (V := Unit) (fun a v => ⟨[(8, HV.bool a)], []⟩) (fun a40 w41 h => ?_) (fun k42 h => ?_)
   ·refine AW.ret ?_
    have h := Option.some.inj h
    subst h
    exact ret_pure (hs := [HV.bool a40]) (q := HV.bool a40) (.inr rfl) (resT rfl rfl) rfl trivial
   refine AW.rg rfl fun K hK => ?_
   refine mv rfl rfl ?_
   refine bv rfl (v_bin rfl rfl b_eql) ?_
   refine mv rfl rfl ?_
   by_cases hg46 : x6.2 = 20
   ·have h := ifT hg46 h
    refine b_T rfl rfl rfl rfl (decide_eq_true hg46) (o_val rfl (mv_val rfl rfl).2 ?_)
    refine b_T rfl rfl rfl rfl rfl (o_val rfl (v_bin rfl rfl b_seql) ?_)
    refine bv rfl (v_pickT rfl rfl rfl) ?_
    refine mv rfl rfl ?_
    by_cases hg45 : x6.1 = ([] : List UInt8)
    ·have h := ifT hg45 h
     obtain ⟨x43, h44, h⟩ := bS h
     refine b_T rfl rfl rfl rfl (decide_eq_true hg45) (o_call rfl rfl rfl rfl (ACallD.pure0 (w_law54_awake h44)) ?_)
     refine bv rfl (v_pickT rfl rfl rfl) ?_
     refine mv rfl rfl ?_
     refine b_nil (hK _ ?_)
     clear hK K
     exact to_le (s' := ⟨[(8, HV.bool x43)], []⟩) (AS.le_of ⟨rfl, trivial⟩ trivial) ⟨x43, (), h, rfl⟩
    have h := ifF hg45 h
    refine b_F rfl rfl rfl rfl rfl (decide_eq_false hg45) ?_
    refine bv rfl (v_pickF rfl rfl rfl) ?_
    refine mv rfl rfl ?_
    refine b_nil (hK _ ?_)
    clear hK K
    exact to_le (s' := ⟨[(8, HV.bool false)], []⟩) (AS.le_of ⟨rfl, trivial⟩ trivial) ⟨false, (), h, rfl⟩
   have h := ifF hg46 h
   refine b_F rfl rfl rfl rfl rfl (decide_eq_false hg46) ?_
   refine b_F rfl rfl rfl rfl rfl rfl ?_
   refine bv rfl (v_pickF rfl rfl rfl) ?_
   refine mv rfl rfl ?_
   refine b_F rfl rfl rfl rfl rfl rfl ?_
   refine bv rfl (v_pickF rfl rfl rfl) ?_
   refine mv rfl rfl ?_
   refine b_nil (hK _ ?_)
   clear hK K
   exact to_le (s' := ⟨[(8, HV.bool false)], []⟩) (AS.le_of ⟨rfl, trivial⟩ trivial) ⟨false, (), h, rfl⟩
  refine AW.seq ?_
  refine AW.rgs rfl fun K hK => ?_
  refine mv rfl rfl ?_
  refine mv rfl rfl ?_
  refine bv rfl (v_bin rfl rfl b_leq) ?_
  refine b_fin hK (s' := ⟨[(4, HV.fptr [HV.int .i64 p0.1, HV.int .i64 p0.2.1, slE eFromLabelTo p0.2.2] 0), (9, HV.int .i64 (Int.tmod (IntKind.wrap .i64 p1) 6)), (11, HV.int .i64 (IntKind.wrap .i64 (1 + (Int.tmod (IntKind.wrap .i64 p3) 4)))), (12, HV.str x6.1), (13, HV.int .i64 x6.2), (14, HV.int .i64 a15), (68, HV.bool (decide (a15 ≤ (IntKind.wrap .i64 (1 + (Int.tmod (IntKind.wrap .i64 p3) 4))))))], []⟩) (le_q rfl rfl) ?_
  clear hK K
  refine AW.cond rfl (fun hc => ?_) (fun hc => ?_)
  ·have hc := of_decide_eq_true hc
   have h := ifT hc h
   refine AW.skip ?_
   refine AW.seq (AW.block ?_)
   refine AW.rgs rfl fun K hK => ?_
   refine bv rfl (v_fieldAddrF fo24_0 rfl) ?_
   refine bv rfl (v_loadF ty3 rfl (l_lit rfl rfl)) ?_
   refine mv rfl rfl ?_
   obtain ⟨x19, h20, h⟩ := bS h
   refine b_op rfl (o_call rfl rfl rfl rfl (ACallD.pure0 (w_word_All h20)) ?_)
   refine mv rfl rfl ?_
   refine bv rfl (v_extract rfl rfl) ?_
   refine bv rfl (v_extract rfl rfl) ?_
   refine mv rfl rfl ?_
   refine mv rfl rfl ?_
   refine b_fin hK (s' := ⟨[(4, HV.fptr [HV.int .i64 p0.1, HV.int .i64 p0.2.1, slE eFromLabelTo p0.2.2] 0), (9, HV.int .i64 (Int.tmod (IntKind.wrap .i64 p1) 6)), (11, HV.int .i64 (IntKind.wrap .i64 (1 + (Int.tmod (IntKind.wrap .i64 p3) 4)))), (12, HV.str x6.1), (13, HV.int .i64 x6.2), (14, HV.int .i64 a15), (15, slE eStr x19.1), (16, HV.int .i64 x19.2)], []⟩) (le_q rfl rfl) ?_
   clear hK K
   refine AW.seq ?_
   refine AW.rgs rfl fun K hK => ?_
   refine mv rfl rfl ?_
   refine bv rfl (v_bin rfl rfl b_neq) ?_
   refine b_fin hK (s' := ⟨[(4, HV.fptr [HV.int .i64 p0.1, HV.int .i64 p0.2.1, slE eFromLabelTo p0.2.2] 0), (9, HV.int .i64 (Int.tmod (IntKind.wrap .i64 p1) 6)), (11, HV.int .i64 (IntKind.wrap .i64 (1 + (Int.tmod (IntKind.wrap .i64 p3) 4)))), (12, HV.str x6.1), (13, HV.int .i64 x6.2), (14, HV.int .i64 a15), (15, slE eStr x19.1), (79, HV.bool (decide (x19.2 ≠ 0)))], []⟩) (le_q rfl rfl) ?_
   clear hK K
   refine AW.cond rfl (fun hc => ?_) (fun hc => ?_)
   ·have hc := of_decide_eq_true hc
    have h := ifT hc h
    refine AW.rgs rfl fun K hK => ?_
    refine mv rfl rfl ?_
    refine b_fin hK (s' := ⟨[(8, HV.bool false)], []⟩) (le_q rfl rfl) ?_
    clear hK K
    have h := hr18 _ h
    refine AW.ret ?_
    have h := Option.some.inj h
    subst h
    exact ret_pure (hs := [HV.bool false]) (q := HV.bool false) (.inr rfl) (resT rfl rfl) rfl trivial
   have hc := of_decide_eq_false hc
   have h := ifF hc h
   refine AW.skip ?_
   refine AW.rgs rfl fun K hK => ?_
   refine mv rfl rfl ?_
   refine bv rfl (v_lenF rfl rfl ty48 rfl) ?_
   refine mv rfl rfl ?_
   refine b_fin hK (s' := ⟨[(4, HV.fptr [HV.int .i64 p0.1, HV.int .i64 p0.2.1, slE eFromLabelTo p0.2.2] 0), (9, HV.int .i64 (Int.tmod (IntKind.wrap .i64 p1) 6)), (11, HV.int .i64 (IntKind.wrap .i64 (1 + (Int.tmod (IntKind.wrap .i64 p3) 4)))), (12, HV.str x6.1), (13, HV.int .i64 x6.2), (14, HV.int .i64 a15), (80, slE eStr x19.1), (81, HV.int .i64 ((x19.1).length : Int)), (82, HV.int .i64 0)], []⟩) (le_q rfl rfl) ?_
   clear hK K
   refine AW.lpR h (by first | exact up_then | exact up_to) (S := Int) (V := Unit) (fun a v => ⟨[(4, HV.fptr [HV.int .i64 p0.1, HV.int .i64 p0.2.1, slE eFromLabelTo p0.2.2] 0), (9, HV.int .i64 (Int.tmod (IntKind.wrap .i64 p1) 6)), (11, HV.int .i64 (IntKind.wrap .i64 (1 + (Int.tmod (IntKind.wrap .i64 p3) 4)))), (12, HV.str x6.1), (13, HV.int .i64 x6.2), (14, HV.int .i64 a15), (80, slE eStr x19.1), (81, HV.int .i64 ((x19.1).length : Int)), (82, HV.int .i64 a)], []⟩) ?_ (X := Unit) (W := Unit) (fun a v => ⟨[(4, HV.fptr [HV.int .i64 p0.1, HV.int .i64 p0.2.1, slE eFromLabelTo p0.2.2] 0), (9, HV.int .i64 (Int.tmod (IntKind.wrap .i64 p1) 6)), (11, HV.int .i64 (IntKind.wrap .i64 (1 + (Int.tmod (IntKind.wrap .i64 p3) 4)))), (12, HV.str x6.1), (13, HV.int .i64 x6.2), (14, HV.int .i64 a15)], []⟩) (fun a36 w37 h => ?_) (fun a21 w22 st23 h hr24=> ?_)
   ·exact to_le (s' := ⟨[(4, HV.fptr [HV.int .i64 p0.1, HV.int .i64 p0.2.1, slE eFromLabelTo p0.2.2] 0), (9, HV.int .i64 (Int.tmod (IntKind.wrap .i64 p1) 6)), (11, HV.int .i64 (IntKind.wrap .i64 (1 + (Int.tmod (IntKind.wrap .i64 p3) 4)))), (12, HV.str x6.1), (13, HV.int .i64 x6.2), (14, HV.int .i64 a15), (80, slE eStr x19.1), (81, HV.int .i64 ((x19.1).length : Int)), (82, HV.int .i64 0)], []⟩) (AS.le_of ⟨rfl, rfl, rfl, rfl, rfl, rfl, rfl, rfl, rfl, trivial⟩ trivial) ⟨(), rfl⟩
   ·refine AW.rg rfl fun K hK => ?_
    refine mv rfl rfl ?_
    refine bv rfl (v_bin rfl rfl b_add) ?_
    refine mv rfl rfl ?_
    refine b_nil (hK _ ?_)
    clear hK K
    exact to_le (s' := ⟨[(4, HV.fptr [HV.int .i64 p0.1, HV.int .i64 p0.2.1, slE eFromLabelTo p0.2.2] 0), (9, HV.int .i64 (Int.tmod (IntKind.wrap .i64 p1) 6)), (11, HV.int .i64 (IntKind.wrap .i64 (1 + (Int.tmod (IntKind.wrap .i64 p3) 4)))), (12, HV.str x6.1), (13, HV.int .i64 x6.2), (14, HV.int .i64 (IntKind.wrap .i64 (a15 + 1)))], []⟩) (AS.le_of ⟨rfl, rfl, rfl, rfl, rfl, rfl, trivial⟩ trivial) ⟨IntKind.wrap .i64 (a15 + 1), (), h, rfl⟩
   refine AW.rgs rfl fun K hK => ?_
   refine bv rfl (v_bin rfl rfl b_lss) ?_
   refine b_fin hK (s' := ⟨[(4, HV.fptr [HV.int .i64 p0.1, HV.int .i64 p0.2.1, slE eFromLabelTo p0.2.2] 0), (9, HV.int .i64 (Int.tmod (IntKind.wrap .i64 p1) 6)), (11, HV.int .i64 (IntKind.wrap .i64 (1 + (Int.tmod (IntKind.wrap .i64 p3) 4)))), (12, HV.str x6.1), (13, HV.int .i64 x6.2), (14, HV.int .i64 a15), (80, slE eStr x19.1), (81, HV.int .i64 ((x19.1).length : Int)), (82, HV.int .i64 a21), (83, HV.bool (decide (a21 < ((x19.1).length : Int))))], []⟩) (le_q rfl rfl) ?_
   clear hK K
   refine AW.cseq rfl (fun hc => ?_) (fun hc => ?_)
   ·have hc := of_decide_eq_true hc
    have h := ifT hc h
    refine AW.skip ?_
    refine AW.seq (AW.block ?_)
    refine AW.rgs rfl fun K hK => ?_
    obtain ⟨x25, h26, h⟩ := bS h
    refine bv rfl (v_idxF ty48 es48 rfl rfl (idx_lt h26)) ?_
    refine bv rfl (v_loadF ty9 rfl (l_cell eStr h26 (o := 0) rfl rfl)) ?_
    refine mv rfl rfl ?_
    refine b_fin hK (s' := ⟨[(4, HV.fptr [HV.int .i64 p0.1, HV.int .i64 p0.2.1, slE eFromLabelTo p0.2.2] 0), (9, HV.int .i64 (Int.tmod (IntKind.wrap .i64 p1) 6)), (11, HV.int .i64 (IntKind.wrap .i64 (1 + (Int.tmod (IntKind.wrap .i64 p3) 4)))), (12, HV.str x6.1), (13, HV.int .i64 x6.2), (14, HV.int .i64 a15), (18, HV.str x25), (80, slE eStr x19.1), (81, HV.int .i64 ((x19.1).length : Int)), (82, HV.int .i64 a21)], []⟩) (le_q rfl rfl) ?_
    clear hK K
    refine AW.rgs rfl fun K hK => ?_
    refine bv rfl (v_loadF ty24 rfl (l_litA rfl (Nat.le_of_ble_eq_true rfl) rfl)) ?_
    refine mv rfl rfl ?_
    refine mv rfl rfl ?_
    obtain ⟨x27, h28, h⟩ := bS h
    refine b_op rfl (o_call rfl rfl rfl rfl (ACallD.pure0 (w_syncmark_Valid h28)) ?_)
    refine mv rfl rfl ?_
    refine bv rfl (v_extract rfl rfl) ?_
    refine bv rfl (v_extract rfl rfl) ?_
    refine mv rfl rfl ?_
    refine mv rfl rfl ?_
    refine b_fin hK (s' := ⟨[(4, HV.fptr [HV.int .i64 p0.1, HV.int .i64 p0.2.1, slE eFromLabelTo p0.2.2] 0), (9, HV.int .i64 (Int.tmod (IntKind.wrap .i64 p1) 6)), (11, HV.int .i64 (IntKind.wrap .i64 (1 + (Int.tmod (IntKind.wrap .i64 p3) 4)))), (12, HV.str x6.1), (13, HV.int .i64 x6.2), (14, HV.int .i64 a15), (18, HV.str x25), (19, HV.bool x27.1), (20, HV.int .i64 x27.2), (80, slE eStr x19.1), (81, HV.int .i64 ((x19.1).length : Int)), (82, HV.int .i64 a21)], []⟩) (le_q rfl rfl) ?_
    clear hK K
    refine AW.seq ?_
    refine AW.rgs rfl fun K hK => ?_
    refine mv rfl rfl ?_
    refine bv rfl (v_bin rfl rfl b_neq) ?_
    refine b_fin hK (s' := ⟨[(4, HV.fptr [HV.int .i64 p0.1, HV.int .i64 p0.2.1, slE eFromLabelTo p0.2.2] 0), (9, HV.int .i64 (Int.tmod (IntKind.wrap .i64 p1) 6)), (11, HV.int .i64 (IntKind.wrap .i64 (1 + (Int.tmod (IntKind.wrap .i64 p3) 4)))), (12, HV.str x6.1), (13, HV.int .i64 x6.2), (14, HV.int .i64 a15), (18, HV.str x25), (19, HV.bool x27.1), (80, slE eStr x19.1), (81, HV.int .i64 ((x19.1).length : Int)), (82, HV.int .i64 a21), (94, HV.bool (decide (x27.2 ≠ 0)))], []⟩) (le_q rfl rfl) ?_
    clear hK K
    refine AW.cond rfl (fun hc => ?_) (fun hc => ?_)
    ·have hc := of_decide_eq_true hc
     have h := ifT hc h
     refine AW.rgs rfl fun K hK => ?_
     refine mv rfl rfl ?_
     refine b_fin hK (s' := ⟨[(8, HV.bool false)], []⟩) (le_q rfl rfl) ?_
     clear hK K
     have h := hr24 _ h
     have h := hr18 _ h
     refine AW.ret ?_
     have h := Option.some.inj h
     subst h
     exact ret_pure (hs := [HV.bool false]) (q := HV.bool false) (.inr rfl) (resT rfl rfl) rfl trivial
    have hc := of_decide_eq_false hc
    have h := ifF hc h
    refine AW.skip ?_
    refine AW.rgs rfl fun K hK => ?_
    refine mv rfl rfl ?_
    refine b_fin hK (s' := ⟨[(4, HV.fptr [HV.int .i64 p0.1, HV.int .i64 p0.2.1, slE eFromLabelTo p0.2.2] 0), (9, HV.int .i64 (Int.tmod (IntKind.wrap .i64 p1) 6)), (11, HV.int .i64 (IntKind.wrap .i64 (1 + (Int.tmod (IntKind.wrap .i64 p3) 4)))), (12, HV.str x6.1), (13, HV.int .i64 x6.2), (14, HV.int .i64 a15), (18, HV.str x25), (80, slE eStr x19.1), (81, HV.int .i64 ((x19.1).length : Int)), (82, HV.int .i64 a21), (95, HV.bool x27.1)], []⟩) (le_q rfl rfl) ?_
    clear hK K
    refine AW.cond rfl (fun hc => ?_) (fun hc => ?_)
    ·have h := ifT hc h
     refine AW.seqJ h (S := Bool) (V := Unit) (fun a v => ⟨[(8, HV.bool a)], []⟩) (fun a29 w30 h => ?_) (fun k31 h => ?_)
     ·have h := hr24 _ h
      have h := hr18 _ h
      refine AW.ret ?_
      have h := Option.some.inj h
      subst h
      exact ret_pure (hs := [HV.bool a29]) (q := HV.bool a29) (.inr rfl) (resT rfl rfl) rfl trivial
     refine AW.rg rfl fun K hK => ?_
     refine mv rfl rfl ?_
     refine bv rfl (v_bin rfl rfl b_eql) ?_
     refine mv rfl rfl ?_
     by_cases hg35 : x6.2 = 0
     ·have h := ifT hg35 h
      refine b_T rfl rfl rfl rfl (decide_eq_true hg35) (o_val rfl (mv_val rfl rfl).2 ?_)
      refine b_T rfl rfl rfl rfl rfl (o_val rfl (mv_val rfl rfl).2 ?_)
      refine b_T rfl rfl rfl rfl rfl (o_val rfl (v_bin rfl rfl b_seql) ?_)
      refine bv rfl (v_pickT rfl rfl rfl) ?_
      refine mv rfl rfl ?_
      by_cases hg34 : x6.1 = x25
      ·have h := ifT hg34 h
       obtain ⟨x32, h33, h⟩ := bS h
       refine b_T rfl rfl rfl rfl (decide_eq_true hg34) (o_call rfl rfl rfl rfl (ACallD.pure0 (w_law54_awake h33)) ?_)
       refine bv rfl (v_pickT rfl rfl rfl) ?_
       refine mv rfl rfl ?_
       refine b_nil (hK _ ?_)
       clear hK K
       exact to_le (s' := ⟨[(8, HV.bool x32)], []⟩) (AS.le_of ⟨rfl, trivial⟩ trivial) ⟨x32, (), h, rfl⟩
      have h := ifF hg34 h
      refine b_F rfl rfl rfl rfl rfl (decide_eq_false hg34) ?_
      refine bv rfl (v_pickF rfl rfl rfl) ?_
      refine mv rfl rfl ?_
      refine b_nil (hK _ ?_)
      clear hK K
      exact to_le (s' := ⟨[(8, HV.bool false)], []⟩) (AS.le_of ⟨rfl, trivial⟩ trivial) ⟨false, (), h, rfl⟩
     have h := ifF hg35 h
     refine b_F rfl rfl rfl rfl rfl (decide_eq_false hg35) ?_
     refine b_F rfl rfl rfl rfl rfl rfl ?_
     refine b_F rfl rfl rfl rfl rfl rfl ?_
     refine bv rfl (v_pickF rfl rfl rfl) ?_
     refine mv rfl rfl ?_
     refine b_F rfl rfl rfl rfl rfl rfl ?_
     refine bv rfl (v_pickF rfl rfl rfl) ?_
     refine mv rfl rfl ?_
     refine b_nil (hK _ ?_)
     clear hK K
     exact to_le (s' := ⟨[(8, HV.bool false)], []⟩) (AS.le_of ⟨rfl, trivial⟩ trivial) ⟨false, (), h, rfl⟩
    have h := ifF (bF' hc) h
    refine AW.skip ?_
    refine AW.rg rfl fun K hK => ?_
    refine bv rfl (v_bin rfl rfl b_add) ?_
    refine mv rfl rfl ?_
    refine b_nil (hK _ ?_)
    clear hK K
    exact to_le (s' := ⟨[(4, HV.fptr [HV.int .i64 p0.1, HV.int .i64 p0.2.1, slE eFromLabelTo p0.2.2] 0), (9, HV.int .i64 (Int.tmod (IntKind.wrap .i64 p1) 6)), (11, HV.int .i64 (IntKind.wrap .i64 (1 + (Int.tmod (IntKind.wrap .i64 p3) 4)))), (12, HV.str x6.1), (13, HV.int .i64 x6.2), (14, HV.int .i64 a15), (80, slE eStr x19.1), (81, HV.int .i64 ((x19.1).length : Int)), (82, HV.int .i64 (IntKind.wrap .i64 (a21 + 1)))], []⟩) (AS.le_of ⟨rfl, rfl, rfl, rfl, rfl, rfl, rfl, rfl, rfl, trivial⟩ trivial) ⟨IntKind.wrap .i64 (a21 + 1), (), h, rfl⟩
   have hc := of_decide_eq_false hc
   have h := ifF hc h
   refine AW.exit ?_
   exact to_le (s' := ⟨[(4, HV.fptr [HV.int .i64 p0.1, HV.int .i64 p0.2.1, slE eFromLabelTo p0.2.2] 0), (9, HV.int .i64 (Int.tmod (IntKind.wrap .i64 p1) 6)), (11, HV.int .i64 (IntKind.wrap .i64 (1 + (Int.tmod (IntKind.wrap .i64 p3) 4)))), (12, HV.str x6.1), (13, HV.int .i64 x6.2), (14, HV.int .i64 a15)], []⟩) (AS.le_of ⟨rfl, rfl, rfl, rfl, rfl, rfl, trivial⟩ trivial) ⟨(), (), h, rfl⟩
  have hc := of_decide_eq_false hc
  have h := ifF hc h
  refine AW.exit ?_
  exact to_le (s' := ⟨[(12, HV.str x6.1), (13, HV.int .i64 x6.2)], []⟩) (AS.le_of ⟨rfl, rfl, trivial⟩ trivial) ⟨(), (), h, rfl⟩
 refine AW.rg rfl fun K hK => ?_
 refine bv rfl (v_loadF ty24 rfl (l_litA rfl (Nat.le_of_ble_eq_true rfl) rfl)) ?_
 obtain ⟨x47, h48, h⟩ := bS h
 refine b_op rfl (o_call rfl rfl rfl rfl (ACallD.pure0 (w_law54_great h48)) ?_)
 refine mv rfl rfl ?_
 by_cases hg52 : x47 = true
 ·have h := ifT hg52 h
  refine b_F rfl rfl rfl rfl rfl hg52 ?_
  refine b_F rfl rfl rfl rfl rfl rfl ?_
  refine b_F rfl rfl rfl rfl rfl rfl ?_
  refine bv rfl (v_pickT rfl rfl rfl) ?_
  refine mv rfl rfl ?_
  refine b_F rfl rfl rfl rfl rfl rfl ?_
  refine b_F rfl rfl rfl rfl rfl rfl ?_
  refine b_F rfl rfl rfl rfl rfl rfl ?_
  refine bv rfl (v_pickT rfl rfl rfl) ?_
  refine b_nil (hK _ ?_)
  clear hK K
  exact to_le (s' := ⟨[(4, HV.fptr [HV.int .i64 p0.1, HV.int .i64 p0.2.1, slE eFromLabelTo p0.2.2] 0), (9, HV.int .i64 (Int.tmod (IntKind.wrap .i64 p1) 6)), (10, HV.int .i64 (IntKind.wrap .i64 (1 + (Int.tmod (IntKind.wrap .i64 p2) 3)))), (11, HV.int .i64 (IntKind.wrap .i64 (1 + (Int.tmod (IntKind.wrap .i64 p3) 4)))), (43, HV.bool true)], []⟩) (AS.le_of ⟨rfl, rfl, rfl, rfl, rfl, trivial⟩ trivial) ⟨true, (), h, rfl⟩
 have h := ifF hg52 h
 refine b_T rfl rfl rfl rfl (bF hg52) (o_val rfl (v_loadF ty24 rfl (l_litA rfl (Nat.le_of_ble_eq_true rfl) rfl)) ?_)
 obtain ⟨x49, h50, h⟩ := bS h
 refine b_T rfl rfl rfl rfl rfl (o_call rfl rfl rfl rfl (ACallD.pure0 (w_ref09_Check h50)) ?_)
 refine b_T rfl rfl rfl rfl rfl (o_val rfl (v_bin rfl rfl b_neq) ?_)
 refine bv rfl (v_pickF rfl rfl rfl) ?_
 refine mv rfl rfl ?_
 by_cases hg51 : x49 ≠ 0
 ·have h := ifT hg51 h
  refine b_F rfl rfl rfl rfl rfl (decide_eq_true hg51) ?_
  refine b_F rfl rfl rfl rfl rfl rfl ?_
  refine b_F rfl rfl rfl rfl rfl rfl ?_
  refine bv rfl (v_pickT rfl rfl rfl) ?_
  refine b_nil (hK _ ?_)
  clear hK K
  exact to_le (s' := ⟨[(4, HV.fptr [HV.int .i64 p0.1, HV.int .i64 p0.2.1, slE eFromLabelTo p0.2.2] 0), (9, HV.int .i64 (Int.tmod (IntKind.wrap .i64 p1) 6)), (10, HV.int .i64 (IntKind.wrap .i64 (1 + (Int.tmod (IntKind.wrap .i64 p2) 3)))), (11, HV.int .i64 (IntKind.wrap .i64 (1 + (Int.tmod (IntKind.wrap .i64 p3) 4)))), (43, HV.bool true)], []⟩) (AS.le_of ⟨rfl, rfl, rfl, rfl, rfl, trivial⟩ trivial) ⟨true, (), h, rfl⟩
 have h := ifF hg51 h
 refine b_T rfl rfl rfl rfl (decide_eq_false hg51) (o_val rfl (v_fieldAddrF fo24_0 rfl) ?_)
 refine b_T rfl rfl rfl rfl rfl (o_val rfl (v_loadF ty3 rfl (l_lit rfl rfl)) ?_)
 refine b_T rfl rfl rfl rfl rfl (o_val rfl (v_bin rfl rfl b_gtr) ?_)
 refine bv rfl (v_pickF rfl rfl rfl) ?_
 refine b_nil (hK _ ?_)
 clear hK K
 exact to_le (s' := ⟨[(4, HV.fptr [HV.int .i64 p0.1, HV.int .i64 p0.2.1, slE eFromLabelTo p0.2.2] 0), (9, HV.int .i64 (Int.tmod (IntKind.wrap .i64 p1) 6)), (10, HV.int .i64 (IntKind.wrap .i64 (1 + (Int.tmod (IntKind.wrap .i64 p2) 3)))), (11, HV.int .i64 (IntKind.wrap .i64 (1 + (Int.tmod (IntKind.wrap .i64 p3) 4)))), (43, HV.bool (decide (3 < p0.1)))], []⟩) (AS.le_of ⟨rfl, rfl, rfl, rfl, rfl, trivial⟩ trivial) ⟨decide (3 < p0.1), (), h, rfl⟩

end Go.AW



/- Models, printed by lk.py. -/
namespace Go.AW
open Go
set_option linter.unusedVariables false
end Go.AW

/- The laws of valid marks and of first bad words. -/
namespace Go.AW
open Go
set_option linter.unusedVariables false
set_option linter.unusedSimpArgs false
theorem pow_small {L : Nat} (h : L ≤ 3) {j : Nat} (hj : j ≤ 6) : L ^ j ≤ 4096 := by
  have h1 : L ^ j ≤ 3 ^ j := Nat.pow_le_pow_left h j
  have h2 : 3 ^ j ≤ 3 ^ 6 := Nat.pow_le_pow_right (by decide) hj
  omega
section
variable {g : Gr} {mark : List UInt8}
end
end Go.AW

/- The first valid mark. -/
namespace Go.AW
open Go
set_option linter.unusedVariables false
set_option linter.unusedSimpArgs false
section
variable {g : Gr}
def validB (g : Gr) (k : Nat) (w : List UInt8) : Bool := decide (badsW g w k = [])
def firstV (g : Gr) (k : Nat) (l : List (List UInt8)) : List UInt8 × Int := match l.find? (validB g k) with
  | some w => (w, 0)
  | none => ([], 20)
theorem forL_find {body : Unit → List UInt8 → Option (Stp Unit (List UInt8))} {p : List UInt8 → Bool} : ∀ (l : List (List UInt8)), (∀ x ∈ l, body () x = if p x = true then some (.exit x) else some (.next ())) → forL body l () = some (match l.find? p with
    | some w => .ret w
    | none => .go ())
  | [], _ => rfl
  | x :: l, h => by
    unfold forL
    rw [h x (List.mem_cons_self ..)]
    by_cases hp : p x = true
    · rw [if_pos hp, List.find?_cons_of_pos hp]
    · rw [if_neg hp, List.find?_cons_of_neg hp]
      exact forL_find l fun y hy => h y (List.mem_cons_of_mem _ hy)
theorem mem_marks {q least most : Nat} {x : List UInt8} : x ∈ marksL q least most ↔ (least ≤ x.length ∧ x.length ≤ most) ∧ ∀ c ∈ x, c ∈ letters.take q := by
  unfold marksL
  rw [List.mem_flatMap]
  constructor
  · rintro ⟨j, hj, hx⟩
    obtain ⟨h1, h2⟩ := mem_allW.1 hx
    rw [List.mem_range] at hj
    exact ⟨⟨by omega, by omega⟩, h2⟩
  · rintro ⟨⟨h1, h2⟩, h3⟩
    exact ⟨x.length - least, List.mem_range.2 (by omega), mem_allW.2 ⟨by omega, h3⟩⟩
theorem mark_ok (hv : VG g) (h16 : g.1 ≤ 16) {w : List UInt8} (h1 : 1 ≤ w.length) (h2 : w.length ≤ 16) (h3 : ∀ c ∈ w, c ∈ letters.take g.1.toNat) : MOk54 g w := ⟨hv, h16, List.length_pos_iff.1 h1, by omega, h3⟩
theorem Search_eq (hv : VG g) (h16 : g.1 ≤ 16) {k least most : Nat} (hk : k ≤ 4096) (h1 : 1 ≤ least) (h2 : least ≤ most) (h3 : most ≤ 16) (hb : ∀ j, j ≤ most → g.1.toNat ^ j ≤ 65536) : m_syncmark_Search g (k : Int) (least : Int) (most : Int) = some (firstV g k (marksL g.1.toNat least most)) := by
  obtain ⟨e, he, hz⟩ := Check_tot g
  have h0 := hz.2 hv
  have hl1 := hv.l1
  obtain ⟨L, hL⟩ := Int.eq_ofNat_of_zero_le (show 0 ≤ g.1 by omega)
  unfold m_syncmark_Search
  rw [Check_ref, he, Option.bind_some, if_neg (by omega), if_neg (by omega)]
  unfold jp
  dsimp only
  rw [if_neg (by omega), if_neg (by omega), if_neg (by omega), if_neg (by rw [decide_eq_true_eq]; omega), if_neg (by omega)]
  have hLt : g.1.toNat = L := by omega
  have hL1 : 1 ≤ L := by omega
  have hL16 : L ≤ 16 := by omega
  rw [hLt] at hb ⊢
  rw [hL]
  refine lpL (loop_is (fun i => (((L ^ i : Nat) : Int), (i : Int))) most (.go ()) (fun i hi => ?_) ?_ rfl) ?_
  · dsimp only
    have hp := hb (i + 1) (by omega)
    have hw : IntKind.wrap .i64 (((L ^ i : Nat) : Int) * (L : Int)) = ((L ^ (i + 1) : Nat) : Int) := by
      have e : ((L ^ i : Nat) : Int) * (L : Int) = ((L ^ (i + 1) : Nat) : Int) := by rw [Nat.pow_succ, Int.natCast_mul]
      rw [e, w64 (by omega) (by omega)]
    rw [if_pos (by omega), hw, if_neg (by omega), nx (n := 16) (by omega) (by omega)]
  · dsimp only
    rw [if_neg (not_lt_int _)]
  · simp only [lpO]
    unfold y_syncmark_marks
    rw [if_pos ⟨⟨by omega, by omega⟩, by omega, by omega, by omega⟩, Option.bind_some, Int.toNat_natCast, Int.toNat_natCast, Int.toNat_natCast]
    refine lpL (forL_find (p := validB g k) _ fun x hx => ?_) ?_
    · obtain ⟨⟨m1, m2⟩, m3⟩ := mem_marks.1 hx
      rw [bad_eq (mark_ok hv (by omega) (by omega) (by omega) (by rw [hLt]; exact m3)) hk, Option.bind_some]
      unfold validB
      simp
    · unfold firstV
      cases List.find? (validB g k) (marksL L least most) <;> rfl
theorem Search_range (hv : VG g) (h16 : g.1 ≤ 16) {n least most : Int} (h : n < 0 ∨ 4096 < n ∨ least < 1 ∨ most < least) : m_syncmark_Search g n least most = some ([], 2) := by
  obtain ⟨e, he, hz⟩ := Check_tot g
  have h0 := hz.2 hv
  unfold m_syncmark_Search
  rw [Check_ref, he, Option.bind_some, if_neg (by omega), if_neg (by omega)]
  unfold jp
  dsimp only
  by_cases a1 : n < 0
  · rw [if_pos a1, if_pos rfl]
  rw [if_neg a1]
  by_cases a2 : 4096 < n
  · rw [if_pos a2, if_pos rfl]
  rw [if_neg a2]
  by_cases a3 : least < 1
  · rw [if_pos a3, if_pos rfl]
  rw [if_neg a3, if_pos (decide_eq_true (by omega))]
theorem smod {p m : Int} (a0 : 0 ≤ p) (a1 : p ≤ 255) (m0 : 0 < m) (m1 : m ≤ 100) : 0 ≤ Int.tmod (IntKind.wrap .i64 p) m ∧ Int.tmod (IntKind.wrap .i64 p) m < m := by
  rw [w64 (by omega) (by omega), Int.tmod_eq_emod_of_nonneg a0]
  exact ⟨Int.emod_nonneg _ (by omega), Int.emod_lt_of_pos _ m0⟩
theorem find_at {q : Nat} {p : List UInt8 → Bool} {least most j i : Nat} (hj : j < most + 1 - least) (h1 : ∀ j' < j, ∀ w ∈ allW (letters.take q) (least + j'), p w = false) {w : List UInt8} (hi : (allW (letters.take q) (least + j))[i]? = some w) (h2 : ∀ i' < i, ∀ v, (allW (letters.take q) (least + j))[i']? = some v → p v = false) (hp : p w = true) : (marksL q least most).find? p = some w := by
  rw [List.find?_eq_some_iff_append]
  refine ⟨hp, ((List.range j).flatMap fun j => allW (letters.take q) (least + j)) ++ (allW (letters.take q) (least + j)).take i, (allW (letters.take q) (least + j)).drop (i + 1) ++ ((List.range' (j + 1) (most + 1 - least - (j + 1))).flatMap fun j => allW (letters.take q) (least + j)), ?_, ?_⟩
  · obtain ⟨hil, hiw⟩ := List.getElem?_eq_some_iff.1 hi
    unfold marksL
    have e : List.range (most + 1 - least) = List.range j ++ j :: List.range' (j + 1) (most + 1 - least - (j + 1)) := by
      have h0 := List.range'_append_1 (s := 0) (m := j) (n := most + 1 - least - (j + 1) + 1)
      rw [Nat.zero_add] at h0
      rw [List.range_eq_range', List.range_eq_range', ← List.range'_succ, h0]
      congr 1
      omega
    have e2 : allW (letters.take q) (least + j) = (allW (letters.take q) (least + j)).take i ++ w :: (allW (letters.take q) (least + j)).drop (i + 1) := by
      rw [← hiw, ← List.drop_eq_getElem_cons hil, List.take_append_drop]
    rw [e, List.flatMap_append, List.flatMap_cons]
    conv => lhs; rw [e2]
    simp only [List.append_assoc, List.cons_append]
  · intro a ha
    rw [Bool.not_eq_true', ← Bool.not_eq_true]
    rcases List.mem_append.1 ha with ha | ha
    · obtain ⟨j', hj', hm⟩ := List.mem_flatMap.1 ha
      rw [h1 j' (List.mem_range.1 hj') a hm]
      decide
    · obtain ⟨i', hi', rfl⟩ := List.mem_take_iff_getElem.1 ha
      rw [h2 i' (by omega) _ (List.getElem?_eq_getElem (by omega))]
      decide
theorem law54_search (g : Gr) (p1 p2 p3 : Int) (a0 : 0 ≤ p1) (a1 : p1 ≤ 255) (b0 : 0 ≤ p2) (b1 : p2 ≤ 255) (c0 : 0 ≤ p3) (c1 : p3 ≤ 255) : m_law54_SyncmarkSearch g p1 p2 p3 = some true := by
  obtain ⟨b, hb, hb2⟩ := great54_tot g
  obtain ⟨e, he, hz⟩ := Check_tot g
  obtain ⟨k0, k1⟩ := smod a0 a1 (m := 6) (by decide) (by decide)
  obtain ⟨l0, l1⟩ := smod b0 b1 (m := 3) (by decide) (by decide)
  obtain ⟨m0, m1⟩ := smod c0 c1 (m := 4) (by decide) (by decide)
  unfold m_law54_SyncmarkSearch
  generalize Int.tmod (IntKind.wrap .i64 p1) 6 = kk at k0 k1
  generalize Int.tmod (IntKind.wrap .i64 p2) 3 = ll at l0 l1
  generalize Int.tmod (IntKind.wrap .i64 p3) 4 = mm at m0 m1
  obtain ⟨k, rfl⟩ := Int.eq_ofNat_of_zero_le k0
  obtain ⟨l, rfl⟩ := Int.eq_ofNat_of_zero_le l0
  obtain ⟨m, rfl⟩ := Int.eq_ofNat_of_zero_le m0
  have w1 : IntKind.wrap .i64 (1 + (l : Int)) = ((l + 1 : Nat) : Int) := by rw [w64 (by omega) (by omega)]; omega
  have w2 : IntKind.wrap .i64 (1 + (m : Int)) = ((m + 1 : Nat) : Int) := by rw [w64 (by omega) (by omega)]; omega
  rw [w1, w2]
  unfold jp
  dsimp only
  rw [hb, Option.bind_some]
  cases b with
  | true => rw [if_pos rfl, if_pos rfl]; rfl
  | false =>
    rw [if_neg Bool.false_ne_true, he, Option.bind_some]
    by_cases h0 : e = 0
    case neg => rw [if_pos h0, if_pos rfl]; rfl
    have hv := hz.1 h0
    rw [if_neg (by omega)]
    by_cases h3 : 3 < g.1
    · rw [if_pos (decide_eq_true h3)]; rfl
    rw [if_neg (by rw [decide_eq_true_eq]; exact h3)]
    have hl1 := hv.l1
    by_cases hlm : m < l
    · rw [Search_range hv (by omega) (by omega), Option.bind_some, if_pos (by omega)]
      rfl
    have hS := Search_eq hv (by omega) (k := k) (least := l + 1) (most := m + 1) (by omega) (by omega) (by omega) (by omega) (fun j hj => Nat.le_trans (pow_small (by omega) (by omega)) (by decide))
    rw [hS, Option.bind_some, if_neg (by omega)]
    have hpw : ∀ n : Nat, n ≤ 4 → (allW (lets g) n).length ≤ 4096 := fun n hn => by
      rw [allW_len, lets_len hv (by omega)]
      exact pow_small (by omega) (by omega)
    obtain ⟨x, hx, hq⟩ := loopN (Q := fun x => x = Ou.ret true ∨ (x = Ou.go () ∧ ∀ w ∈ marksL g.1.toNat (l + 1) (m + 1), validB g k w = false)) (body := fun a15 =>
         if a15 ≤ ((m + 1 : Nat) : Int) then
          (m_word_All g.1 a15).bind fun x19 =>
          if x19.2 ≠ 0 then
           some (Stp.exit (Ou.ret false))
          else
           lpO (loopW (S := Int) (X := Ou (Unit) (Bool)) (fun a21 =>
               if a21 < ((x19.1).length : Int) then
                (idx x19.1 a21).bind fun x25 =>
                (m_syncmark_Valid g x25 (k : Int)).bind fun x27 =>
                if x27.2 ≠ 0 then
                 some (Stp.exit (Ou.ret false))
                else
                 if x27.1 = true then
                   if (firstV g k (marksL g.1.toNat (l + 1) (m + 1))).2 = 0 then
                    if (firstV g k (marksL g.1.toNat (l + 1) (m + 1))).1 = x25 then
                     (m_law54_awake).bind fun x32 =>
                     some (Stp.exit (Ou.ret x32))
                    else
                     some (Stp.exit (Ou.ret false))
                   else
                    some (Stp.exit (Ou.ret false))
                 else
                  some (Stp.next (IntKind.wrap .i64 (a21 + 1)))
               else
                some (Stp.exit (Ou.go ()))) 0) (fun a36 =>
               some (Stp.next (IntKind.wrap .i64 (a15 + 1)))) (fun r => some (Stp.exit (Ou.ret r)))
         else
          some (Stp.exit (Ou.go ()))) (m + 1 - l) (fun j s => s = ((l + 1 + j : Nat) : Int) ∧ ∀ j' < j, ∀ w ∈ allW (letters.take g.1.toNat) (l + 1 + j'), validB g k w = false) (fun j s hj ⟨hs, hno⟩ => by
      subst hs
      have hA := All_eq11 (L := g.1.toNat) (n := l + 1 + j) (by omega) (by omega) (by omega) fun i _ hi => pow_small (by omega) (by omega)
      rw [show ((g.1.toNat : Nat) : Int) = g.1 by omega] at hA
      have hlen : (allW (letters.take g.1.toNat) (l + 1 + j)).length ≤ 4096 := hpw (l + 1 + j) (by omega)
      rw [if_pos (by omega), hA, Option.bind_some, if_neg (by simp)]
      dsimp only
      obtain ⟨y, hy, hyq⟩ := loopN (Q := fun y => y = Ou.ret true ∨ (y = Ou.go () ∧ ∀ w ∈ allW (letters.take g.1.toNat) (l + 1 + j), validB g k w = false)) (body := fun a21 =>
               if a21 < ((allW (letters.take g.1.toNat) (l + 1 + j)).length : Int) then
                (idx (allW (letters.take g.1.toNat) (l + 1 + j)) a21).bind fun x25 =>
                (m_syncmark_Valid g x25 (k : Int)).bind fun x27 =>
                if x27.2 ≠ 0 then
                 some (Stp.exit (Ou.ret false))
                else
                 if x27.1 = true then
                   if (firstV g k (marksL g.1.toNat (l + 1) (m + 1))).2 = 0 then
                    if (firstV g k (marksL g.1.toNat (l + 1) (m + 1))).1 = x25 then
                     (m_law54_awake).bind fun x32 =>
                     some (Stp.exit (Ou.ret x32))
                    else
                     some (Stp.exit (Ou.ret false))
                   else
                    some (Stp.exit (Ou.ret false))
                 else
                  some (Stp.next (IntKind.wrap .i64 (a21 + 1)))
               else
                some (Stp.exit (Ou.go ()))) (allW (letters.take g.1.toNat) (l + 1 + j)).length (fun i s => s = (i : Int) ∧ ∀ i' < i, ∀ v, (allW (letters.take g.1.toNat) (l + 1 + j))[i']? = some v → validB g k v = false) (fun i s hi ⟨hs, hno2⟩ => by
          subst hs
          have hmem := List.getElem_mem hi
          obtain ⟨w1, w2⟩ := mem_allW.1 hmem
          rw [if_pos (lt_int hi), ix hi, Option.bind_some, Valid_eq (mark_ok hv (by omega) (by omega) (by omega) w2) (by omega), Option.bind_some, if_neg (by simp)]
          dsimp only
          by_cases hV : badsW g (allW (letters.take g.1.toNat) (l + 1 + j))[i] k = []
          · have hf := find_at (p := validB g k) (most := m + 1) (by omega) hno (List.getElem?_eq_getElem hi) hno2 (decide_eq_true hV)
            have hfv : firstV g k (marksL g.1.toNat (l + 1) (m + 1)) = ((allW (letters.take g.1.toNat) (l + 1 + j))[i], 0) := by unfold firstV; rw [hf]
            right
            refine ⟨.ret true, ?_, .inl rfl⟩
            rw [if_pos (decide_eq_true hV), hfv, if_pos rfl, if_pos rfl]
            rfl
          · left
            refine ⟨((i + 1 : Nat) : Int), ?_, rfl, fun i' hi' v hv' => ?_⟩
            · rw [if_neg (by rw [decide_eq_true_eq]; exact hV), nx (n := 4096) (by omega) (by omega)]
            · by_cases ei : i' = i
              · subst ei
                rw [List.getElem?_eq_getElem hi] at hv'
                cases Option.some.inj hv'
                exact decide_eq_false hV
              · exact hno2 i' (by omega) v hv') (fun s ⟨hs, hno2⟩ => by
          subst hs
          refine ⟨.go (), by rw [if_neg (not_lt_int _)], .inr ⟨rfl, fun w hw => ?_⟩⟩
          obtain ⟨i, hi, rfl⟩ := List.getElem_of_mem hw
          exact hno2 i hi _ (List.getElem?_eq_getElem hi)) 0 0 (Nat.zero_le _) ⟨rfl, fun _ h => by omega⟩
      rw [hy]
      rcases hyq with rfl | ⟨rfl, hall⟩
      · right
        exact ⟨.ret true, rfl, .inl rfl⟩
      · left
        refine ⟨((l + 1 + (j + 1) : Nat) : Int), ?_, rfl, fun j' hj' w hw => ?_⟩
        · simp only [lpO]
          rw [nx (n := 100) (by omega) (by omega)]
          rfl
        · by_cases ej : j' = j
          · subst ej; exact hall w hw
          · exact hno j' (by omega) w hw) (fun s ⟨hs, hno⟩ => by
      subst hs
      refine ⟨.go (), by rw [if_neg (by omega)], .inr ⟨rfl, fun w hw => ?_⟩⟩
      obtain ⟨j, hj, hw⟩ := List.mem_flatMap.1 hw
      exact hno j (by rw [List.mem_range] at hj; omega) w hw) 0 _ (Nat.zero_le _) ⟨rfl, fun _ h => by omega⟩
    refine lpL hx ?_
    rcases hq with rfl | ⟨rfl, hall⟩
    · rfl
    · have hfv : firstV g k (marksL g.1.toNat (l + 1) (m + 1)) = ([], 20) := by
        unfold firstV
        rw [List.find?_eq_none.2 fun w hw => by rw [hall w hw]; decide]
      simp only [lpO]
      rw [hfv]
      rfl
end
end Go.AW

namespace Go.AW
open Go Go.ChangeShapes Go.WideShapes Go.ChangeAt Go.RowKit

def Kept (W W' : World) : Prop := W'.os = W.os ∧ W'.output = W.output ∧ W.heap.size ≤ W'.heap.size ∧ ∀ b : Nat, b < W.heap.size → W'.heap[b]? = W.heap[b]?

theorem Kept.frame {W W' : World} (h : Kept W W') (may : MemPlace → Prop) : W.keptBut W' may := by
  refine ⟨h.1, h.2.1, fun i hi => ?_⟩
  rw [h.2.2.2 i hi]
  cases W.heap[i]? with
  | none => rfl
  | some o => cases o with
    | cells c t fr => exact ⟨rfl, rfl, rfl, fun _ _ => rfl⟩
    | map es clock => exact .inr ⟨rfl, rfl⟩
    | _ => rfl

theorem Kept.frozen {W W' : World} (h : Kept W W') (a : Addr) (ha : a.block < W.heap.size) : W'.frozen? a = W.frozen? a := by
  simp only [World.frozen?, h.2.2.2 _ ha]

def Mu.zero : Mu := { nx := 0, loc := fun _ => none, held := fun _ => False }

theorem SR.zero (W : World) : SR W Mu.zero [] :=
  ⟨(fun _ _ _ h => by cases h), (fun _ _ _ h => by cases h), (fun _ _ h => by cases h), (fun _ _ _ _ _ h => by cases h), (fun _ h => h.elim)⟩

theorem calls_of_pure {P : Program} {f : FuncId} {args : List HV} {vs : List Value} {W : World} (hp : Pure P f args (· = .bool true)) (hr : RepL W Mu.zero args vs) (hgl : GlOk W Mu.zero := by exact fun _ h => by cases h) :
    Calls P f vs.toArray W fun e W' => e = .returned (.bool true) ∧ Kept W W' := by
  refine (hp.2 Mu.zero W vs (SR.zero W) hr hgl).mono ?_
  rintro e W' ⟨v, r, H', μ', rfl, ⟨rfl, _, _⟩, hs, hv, E⟩
  have hv' : v = .bool true := hv
  subst hv'
  exact ⟨rfl, E.os, E.output, E.size, fun b hb => E.keep b hb fun ⟨_, _, hl⟩ => by cases hl⟩

theorem post_of_kept {H : Type} {enc : TypeId × Value → H} {P : Program} {f : Func} {s : ChangeSpec} {apart fresh handsOn again : Bool} {W W' : World} {args : Array Value} {v : Value} {ds gs : List (DataW H)} {before pa pv : List MemPlace}
    (hW : DataW.Whole enc P f.params.toList s.vars apart W args.toList ds gs before)
    (hres : ∀ (b : Nat) (sp : Nat → Bool) (hd : Bool), DataW.TrodAll enc P W' b sp hd f.resultTypes.toList (v.resultList f.resultTypes.size) (s.fn H (ds ++ gs)).results [])
    (hargs : ∀ sp : Nat → Bool, (∀ p ∈ before, sp p.block = true) → DataW.TrodAll enc P W' 0 sp true f.params.toList args.toList (s.fn H (ds ++ gs)).args pa)
    (hvars : ∀ sp : Nat → Bool, (∀ p ∈ before, sp p.block = true) → DataW.TrodVars enc P W' sp s.vars (s.fn H (ds ++ gs)).vars pv)
    (hps : before = pa ++ pv) (hk : Kept W W')
    (hok : ∀ (j : Nat) (t : TypeId) (r : Value), f.resultTypes[j]? = some t → (v.resultList f.resultTypes.size)[j]? = some r → Value.okWide P W' .any 0 t r) :
    s.post enc P f apart fresh handsOn again W args v W' := by
  have hold : ∀ p ∈ before, (fun b => decide (b < W.heap.size)) p.block = true := fun p hp => by simpa using hW.lt p hp
  refine ⟨ds, gs, before, [], pa, pv, hW, hres _ _ _, hargs _ hold, hvars _ hold, World.keptBut_mono (fun p hp => ⟨hp, ?_⟩) (hk.frame (· ∈ before)), fun _ => ?_⟩
  · rw [hps, List.mem_append] at hp
    exact Or.inr hp
  · have hlt := hW.lt
    obtain ⟨_, _, _, _, _, hz, hn⟩ := hW
    refine ⟨hok, _, _, ([] ++ pa) ++ pv, ⟨[] ++ pa, pv, trodAll_append (hargs _ (fun _ _ => rfl)) (hres _ _ _), hvars _ (fun _ _ => rfl), rfl, ?_, ?_⟩, ?_⟩
    · intro b off hp
      have hp' : MemPlace.cell b off ∈ before := by rw [hps]; simpa using hp
      rw [hk.frozen _ (hlt _ hp')]
      exact hz b off hp'
    · intro ha
      have := hn ha
      rw [hps] at this
      simpa using this
    · intro p hp _
      rw [hps]
      simpa using hp
end Go.AW

/- Arguments: from what is read of them to what the layer says of them; and the law's end for any arguments. -/
namespace Go.AW
open Go Go.ChangeShapes Go.WideShapes Go.ChangeAt Go.RowKit

theorem rowAt_le {p : Program} {fits : TypeId → Bool} {d : Nat} {e : TypeId} {count off n : Nat} (h : rowAt p fits d e count off n = true) : off ≤ count * p.cellsOf e := by
  cases d with
  | zero => simp [rowAt] at h
  | succ d =>
    unfold rowAt at h
    simp only at h
    split at h
    · cases h
    · rename_i hs
      have hs' : 0 < p.cellsOf e := Nat.pos_of_ne_zero hs
      have hd := Nat.div_add_mod off (p.cellsOf e)
      rw [Nat.mul_comm] at hd
      simp only [Bool.or_eq_true, Bool.and_eq_true, beq_iff_eq, decide_eq_true_eq] at h
      rcases h with ⟨⟨h0, h1⟩, _⟩ | ⟨h1, _⟩
      · rw [← hd, h0, Nat.add_zero]
        exact Nat.mul_le_mul_right _ (by omega)
      · have hm := Nat.mod_lt off hs'
        have : (off / p.cellsOf e + 1) * p.cellsOf e ≤ count * p.cellsOf e := Nat.mul_le_mul_right _ h1
        rw [Nat.add_mul] at this
        omega

theorem liesAt_le {p : Program} {d : Nat} {e u : TypeId} {count off n : Nat} (h : liesAt p d e count off u n = true) : off ≤ count * p.cellsOf e := by
  induction d generalizing u n with
  | zero => simp [liesAt] at h
  | succ d ih =>
    unfold liesAt at h
    rw [Bool.or_eq_true] at h
    rcases h with h | h
    · exact rowAt_le h
    · split at h
      · exact ih h
      · cases h

theorem has_seg {P : Program} {W : World} {r : Reach} {base : Nat} {a : Addr} {e : TypeId} {cap : Nat} (h : W.has P r base a e cap) {vs : List Value} (hc : ∀ i (hi : i < vs.length), W.cell? (a.add i) = some vs[i]) :
    ∃ b off, a = ⟨b, off, none⟩ ∧ Seg W b off vs := by
  obtain ⟨_, hsp, row, cells, hsh, hl⟩ := h
  obtain ⟨b, off, spot⟩ := a
  dsimp only at hsp hsh hl
  subst hsp
  refine ⟨b, off, rfl, ?_⟩
  unfold World.shape? at hsh
  split at hsh
  · rename_i cur e' fr hb
    simp only [Option.some.injEq, Prod.mk.injEq] at hsh
    obtain ⟨rfl, rfl⟩ := hsh
    have hoff : off ≤ cur.size := Nat.le_trans (liesAt_le hl) (Nat.div_mul_le_self _ _)
    have hget : ∀ i (hi : i < vs.length), cur.toList[off + i]? = some vs[i] := fun i hi => by
      have := hc i hi
      rw [add_plain] at this
      unfold World.cell? at this
      rw [hb] at this
      simpa using this
    refine ⟨cur, e', fr, cur.toList.take off, cur.toList.drop (off + vs.length), hb, ?_, by simp [hoff]⟩
    have hvs : vs = (cur.toList.drop off).take vs.length := by
      apply List.ext_getElem?
      intro i
      rcases Nat.lt_or_ge i vs.length with hi | hi
      · rw [List.getElem?_take_of_lt hi, List.getElem?_drop, hget i hi, List.getElem?_eq_getElem hi]
      · rw [List.getElem?_eq_none hi, List.getElem?_eq_none (by simp; omega)]
    have : vs ++ cur.toList.drop (off + vs.length) = cur.toList.drop off := by
      conv => lhs; arg 1; rw [hvs]
      rw [← List.drop_drop]
      exact List.take_append_drop _ _
    rw [List.append_assoc, this, List.take_append_drop]
  · cases hsh

theorem nown (b : Nat) : ¬ Mu.zero.owns b := fun h => h.elim (fun ⟨_, _, h⟩ => by cases h) id

theorem open_num {H : Type} {enc : TypeId × Value → H} {P : Program} {W : World} {base : Nat} {t : TypeId} {k : IntKind} {v : Value} {d : DataW H} {ps : List MemPlace} (ht : P.underlying t = some (.int k))
    (hval : Value.okWide P W .any base t v) (h : DataW.Trod enc P W 0 (fun _ => true) true t v d ps) : ∃ n : Int, (Lit.int k n).wf = true ∧ Rep W Mu.zero (.int k n) v := by
  obtain ⟨n, rfl, _, _, hw⟩ := open_int ht hval h
  exact ⟨n, hw, rfl, hw⟩

theorem open_u8 {H : Type} {enc : TypeId × Value → H} {P : Program} {W : World} {base : Nat} {t : TypeId} {v : Value} {d : DataW H} {ps : List MemPlace} (ht : P.underlying t = some (.int .u8))
    (hval : Value.okWide P W .any base t v) (h : DataW.Trod enc P W 0 (fun _ => true) true t v d ps) : ∃ b : UInt8, Rep W Mu.zero (.int .u8 (b.toNat : Int)) v := by
  obtain ⟨n, hw, hr⟩ := open_num ht hval h
  have hw' : (0 : Int) ≤ n ∧ n ≤ 255 := by
    simp only [Lit.wf, Bool.and_eq_true, decide_eq_true_eq] at hw
    exact hw
  refine ⟨UInt8.ofNat n.toNat, ?_⟩
  have : ((UInt8.ofNat n.toNat).toNat : Int) = n := by
    rw [UInt8.toNat_ofNat']
    omega
  rw [this]
  exact hr

theorem trodAll_stays {H : Type} {enc : TypeId × Value → H} {P : Program} (hl : laidOutB P = true) {W W' : World} {sp : Nat → Bool} : ∀ {ts : List TypeId} {vs : List Value} {ds : List (DataW H)} {ps : List MemPlace},
    (ts.all fun t => P.readableRec t && decide (t < P.types.size)) = true → DataW.TrodAll enc P W 0 (fun _ => true) true ts vs ds ps → (∀ p ∈ ps, W.sameAt W' p) → (∀ p ∈ ps, sp p.block = true) → DataW.TrodAll enc P W' 0 sp true ts vs ds ps
  | [], vs, ds, ps, _, h, _, _ => by
    obtain ⟨rfl, rfl, rfl⟩ := trodAll_nil h
    exact trodAll_mk0
  | t :: ts, vs, ds, ps, ht, h, h1, h2 => by
    obtain ⟨v, vs', d, ds', p, q, rfl, rfl, rfl, h3, h4⟩ := trodAll_cons h
    simp only [List.all_cons, Bool.and_eq_true, decide_eq_true_eq] at ht
    exact trodAll_cons_mk (WideElems.Trod_stays hl ht.1.1 ht.1.2 h3 (fun x hx => h1 x (List.mem_append_left _ hx)) (fun x hx => h2 x (List.mem_append_left _ hx)))
      (trodAll_stays hl ht.2 h4 (fun x hx => h1 x (List.mem_append_right _ hx)) (fun x hx => h2 x (List.mem_append_right _ hx)))

theorem Kept.same {W W' : World} (h : Kept W W') (p : MemPlace) (hp : p.block < W.heap.size) : W.sameAt W' p := by
  cases p with
  | cell b off =>
    show W'.cell? ⟨b, off, none⟩ = W.cell? ⟨b, off, none⟩
    unfold World.cell?
    rw [h.2.2.2 b hp]
  | map b => exact h.2.2.2 b hp

theorem post_of_true {H : Type} {enc : TypeId × Value → H} {P : Program} {f : Func} {s : ChangeSpec} {apart fresh handsOn again : Bool} {W W' : World} {args : Array Value} {ds gs : List (DataW H)} {before : List MemPlace} {t : TypeId}
    (hl : laidOutB P = true) (hps : (f.params.toList.all fun t => P.readableRec t && decide (t < P.types.size)) = true) (hres : f.resultTypes = #[t]) (ht : P.underlying t = some .bool) (hv : s.vars = [])
    (hW : DataW.Whole enc P f.params.toList s.vars apart W args.toList ds gs before) (hk : Kept W W')
    (h1 : (s.fn H (ds ++ gs)).results = [.lit (.bool true)]) (h2 : (s.fn H (ds ++ gs)).args = ds) (h3 : (s.fn H (ds ++ gs)).vars = []) :
    s.post enc P f apart fresh handsOn again W args (.bool true) W' := by
  have hlt := hW.lt
  have hW' := hW
  obtain ⟨p, q, hA, hV, rfl, _, _⟩ := hW
  rw [hv] at hV
  obtain ⟨rfl, rfl⟩ := trodVars_none hV
  refine post_of_kept (pa := p) (pv := []) hW' (fun _ _ _ => ?_) (fun sp hsp => ?_) (fun _ _ => ?_) (by simp) hk (ok_one hres rfl (okWide_bool_mk ht _))
  · rw [hres, h1]
    exact trodAll_cons_mk (shut_bool ht _) trodAll_mk0
  · rw [h2]
    exact trodAll_stays hl hps hA (fun x hx => hk.same x (hlt x (by simpa using hx))) (fun x hx => hsp x (by simpa using hx))
  · rw [h3, hv]
    rfl
end Go.AW

/- Arguments that are graphs: what is read of them, and what the layer says of them. -/
namespace Go.AW
open Go Go.ChangeShapes Go.WideShapes Go.ChangeAt Go.RowKit

section
variable {H : Type} {enc : TypeId × Value → H} {P : Program} {W : World} {base : Nat}

theorem repL_app {μ : Mu} : ∀ {hs ks : List HV} {vs us : List Value}, RepL W μ hs vs → RepL W μ ks us → RepL W μ (hs ++ ks) (vs ++ us)
  | [], _, _, _, h, h' => by cases h; exact h'
  | _ :: _, _, _, _, ⟨x, xs, rfl, h1, h2⟩, h' => ⟨x, _, rfl, h1, repL_app h2 h'⟩

theorem add_adds (a : Addr) (i j : Nat) : (a.add i).add j = a.add (i + j) := by
  unfold Addr.add
  repeat' split
  all_goals simp_all [Nat.add_assoc]

theorem open_rows {α : Type} (c : EncL α) {fuel : Nat} {t e : TypeId} {cs : List Value} {x : DataW H × List MemPlace} (ht : P.underlying t = some (.slice e)) (hk : P.cellsOf e = c.k) (hone : ∀ x, ones (c.C x))
    (hel : ∀ n cs y, DataW.trod enc P W 0 (fun _ => true) true n e cs = some y → ∃ x : α, RepL W Mu.zero (c.C x) cs)
    (hhas : ∀ a len cap, cs = [.slice (some a) len cap] → W.has P .any base a e cap) (h : DataW.trod enc P W 0 (fun _ => true) true fuel t cs = some x) : ∃ l : List α, RepL W Mu.zero [slE c l] cs := by
  rcases DataW.trod_slice ht h with ⟨rfl, _⟩ | ⟨a, len, cap, elems, rest, n, _, rfl, _, _, hl, hm, hlen, hel', _, _⟩
  · refine ⟨[], _, _, rfl, ?_, rfl⟩
    show _ ∧ _
    exact ⟨(by rw [c.nil]; exact fun _ h => nomatch h), (by rw [c.nil]; simp), Nat.zero_le _, .inl ⟨rfl, rfl⟩⟩
  · have each : ∀ i, i < len → ∃ cs' x, W.cells? 0 (a.add (i * c.k)) c.k = some cs' ∧ RepL W Mu.zero (c.C x) cs' := fun i hi => by
      have h1 := hel' i hi
      rw [List.getElem?_eq_getElem (by omega), Option.bind_eq_some_iff, hk] at h1
      obtain ⟨cs', h2, h3⟩ := h1
      obtain ⟨x, hx⟩ := hel _ _ _ h3
      exact ⟨cs', x, h2, hx⟩
    have build : ∀ m, m ≤ len → ∃ (l : List α) (vs : List Value), l.length = m ∧ vs.length = m * c.k ∧ RepL W Mu.zero (c.E l) vs ∧ ∀ i (hi : i < vs.length), W.cell? (a.add i) = some vs[i] := by
      intro m
      induction m with
      | zero => exact fun _ => ⟨[], [], rfl, by simp, by rw [c.nil]; rfl, fun i hi => by simp at hi⟩
      | succ m ih =>
        intro hm
        obtain ⟨l, vs, h1, h2, h3, h4⟩ := ih (by omega)
        obtain ⟨cs', x, h5, h6⟩ := each m (by omega)
        obtain ⟨_, h7, h8⟩ := World.cells?_some h5
        refine ⟨l ++ [x], vs ++ cs', by simp [h1], by rw [List.length_append, h2, h7, Nat.succ_mul], by rw [c.append, c.one]; exact repL_app h3 h6, fun i hi => ?_⟩
        rcases Nat.lt_or_ge i vs.length with hi' | hi'
        · rw [List.getElem_append_left hi']; exact h4 i hi'
        · rw [List.getElem_append_right hi']
          rw [List.length_append] at hi
          have := h8 (i - vs.length) (by omega)
          rw [add_adds, h2, show m * c.k + (i - m * c.k) = i by omega] at this
          rw [this, List.getElem?_eq_getElem (by omega)]
          simp only [h2]
    obtain ⟨l, vs, h1, h2, h3, h4⟩ := build len (Nat.le_refl _)
    obtain ⟨b, off, rfl, hseg⟩ := has_seg (hhas _ _ _ rfl) h4
    refine ⟨l, _, _, rfl, ?_, rfl⟩
    show _ ∧ _
    refine ⟨fun d hd => ?_, c.len l, by omega, .inr ⟨b, off, cap, vs, by rw [h1], by omega, nown b, hseg, h3⟩⟩
    rw [c.hE] at hd
    obtain ⟨x, _, hdx⟩ := List.mem_flatMap.1 hd
    exact hone x d hdx

theorem open3 {t : TypeId} {f0 f1 f2 : Field} {fuel : Nat} {cs : List Value} {x : DataW H × List MemPlace} (ht : P.underlying t = some (.struct #[f0, f1, f2])) (o0 : f0.offset = 0) (o1 : f1.offset = 1) (o2 : f2.offset = 2) (c : P.cellsOf t = 3)
    (c0 : P.cellsOf f0.type = 1) (c1 : P.cellsOf f1.type = 1) (c2 : P.cellsOf f2.type = 1) (h : DataW.trod enc P W 0 (fun _ => true) true fuel t cs = some x) :
    ∃ v0 v1 v2 y0 y1 y2 n, cs = [v0, v1, v2] ∧ DataW.trod enc P W 0 (fun _ => true) true n f0.type [v0] = some y0 ∧ DataW.trod enc P W 0 (fun _ => true) true n f1.type [v1] = some y1 ∧ DataW.trod enc P W 0 (fun _ => true) true n f2.type [v2] = some y2 := by
  obtain ⟨xs, n, _, rfl, hl, hlen, hf⟩ := DataW.trod_struct ht h
  rw [c] at hl
  match cs, hl with
  | [v0, v1, v2], _ =>
    match xs, hlen with
    | [y0, y1, y2], _ =>
      refine ⟨v0, v1, v2, y0, y1, y2, n, rfl, ?_, ?_, ?_⟩
      · have := hf 0 f0 rfl; rw [o0, c0] at this; exact this
      · have := hf 1 f1 rfl; rw [o1, c1] at this; exact this
      · have := hf 2 f2 rfl; rw [o2, c2] at this; exact this

theorem rep_i64 {n : Int} {ti : TypeId} {m : Nat} {v : Value} {y : DataW H × List MemPlace} (hti : P.underlying ti = some (.int .i64)) (h : DataW.trod enc P W 0 (fun _ => true) true m ti [v] = some y) : ∃ n : Int, Rep W Mu.zero (.int .i64 n) v := by
  obtain ⟨n, hv, _, hw⟩ := DataW.trod_int hti h
  cases hv
  exact ⟨n, rfl, hw⟩

theorem open_graph {t ti ts te : TypeId} {f0 f1 f2 e0 e1 e2 : Field} {v : Value} {d : DataW H} {ps : List MemPlace} (ht : P.underlying t = some (.struct #[f0, f1, f2])) (o : f0.offset = 0 ∧ f1.offset = 1 ∧ f2.offset = 2) (y : f0.type = ti ∧ f1.type = ti ∧ f2.type = ts)
    (c : P.cellsOf t = 3) (ci : P.cellsOf ti = 1) (cs : P.cellsOf ts = 1) (ct : P.cellTypes P.depth t = some [ti, ti, ts]) (hti : P.underlying ti = some (.int .i64)) (hts : P.underlying ts = some (.slice te))
    (hte : P.underlying te = some (.struct #[e0, e1, e2])) (oe : e0.offset = 0 ∧ e1.offset = 1 ∧ e2.offset = 2) (ye : e0.type = ti ∧ e1.type = ti ∧ e2.type = ti) (ce : P.cellsOf te = 3)
    (hval : Value.okWide P W .any base t v) (h : DataW.Trod enc P W 0 (fun _ => true) true t v d ps) : ∃ g : TLabelsStatesEdges, Rep W Mu.zero (.agg [.int .i64 g.1, .int .i64 g.2.1, slE eFromLabelTo g.2.2]) v := by
  obtain ⟨y0, y1, y2⟩ := y
  obtain ⟨z0, z1, z2⟩ := ye
  simp only [Value.okWide, ht] at hval
  obtain ⟨arr, rfl, _, hrow⟩ := hval
  obtain ⟨fuel, hf⟩ := h
  obtain ⟨v0, v1, v2, a0, a1, a2, n, hcs, h0, h1, h2⟩ := open3 ht o.1 o.2.1 o.2.2 c (by rw [y0]; exact ci) (by rw [y1]; exact ci) (by rw [y2]; exact cs) hf
  have harr : arr = #[v0, v1, v2] := by
    have : arr.toList = [v0, v1, v2] := hcs
    cases arr
    simp_all
  subst harr
  rw [y0] at h0
  rw [y1] at h1
  rw [y2] at h2
  obtain ⟨l, r0⟩ := rep_i64 (n := 0) hti h0
  obtain ⟨s, r1⟩ := rep_i64 (n := 0) hti h1
  obtain ⟨es, _, _, r2, r2', r2''⟩ := open_rows (base := base) eFromLabelTo hts ce (fun x d hd => by
      have hd : d ∈ [HV.int .i64 x.1, HV.int .i64 x.2.1, HV.int .i64 x.2.2] := hd
      simp only [List.mem_cons, List.not_mem_nil, or_false] at hd
      rcases hd with rfl | rfl | rfl <;> rfl) (fun m cs' y hy => by
      obtain ⟨w0, w1, w2, b0, b1, b2, n', rfl, k0, k1, k2⟩ := open3 hte oe.1 oe.2.1 oe.2.2 ce (by rw [z0]; exact ci) (by rw [z1]; exact ci) (by rw [z2]; exact ci) hy
      rw [z0] at k0
      rw [z1] at k1
      rw [z2] at k2
      obtain ⟨p0, q0⟩ := rep_i64 (n := 0) hti k0
      obtain ⟨p1, q1⟩ := rep_i64 (n := 0) hti k1
      obtain ⟨p2, q2⟩ := rep_i64 (n := 0) hti k2
      exact ⟨(p0, p1, p2), _, _, rfl, q0, _, _, rfl, q1, _, _, rfl, q2, rfl⟩) (fun a len cap e => by
      cases e
      obtain ⟨tys, ht1, _, hcell⟩ := hrow
      rw [ct] at ht1
      cases ht1
      obtain ⟨u, hu, hok⟩ := hcell 2 (.slice (some a) len cap) rfl
      cases hu
      simp only [Cell.okWide, hts, Cell.ok] at hok
      exact hok.2.2) h2
  cases r2
  refine ⟨(l, s, es), ?_⟩
  show _ ∧ _
  refine ⟨fun d hd => ?_, _, rfl, _, _, rfl, r0, _, _, rfl, r1, _, _, rfl, r2', rfl⟩
  simp only [List.mem_cons, List.not_mem_nil, or_false] at hd
  rcases hd with rfl | rfl | rfl <;> rfl
end
end Go.AW

/- Arguments that are lists of numbers. -/
namespace Go.AW
open Go Go.ChangeShapes Go.WideShapes Go.ChangeAt Go.RowKit
section
variable {H : Type} {enc : TypeId × Value → H} {P : Program} {W : World} {base : Nat}
end
end Go.AW

/- Arguments that are lists of bytes. -/
namespace Go.AW
open Go Go.ChangeShapes Go.WideShapes Go.ChangeAt Go.RowKit
section
variable {H : Type} {enc : TypeId × Value → H} {P : Program} {W : World} {base : Nat}
end
end Go.AW

/- A parameter that is a struct of two lists of strings. -/
namespace Go.AW
open Go Go.ChangeShapes Go.WideShapes Go.ChangeAt Go.RowKit
section
variable {H : Type} {enc : TypeId × Value → H} {P : Program} {W : World} {base : Nat}
end
end Go.AW

namespace Go.Proofs.Ytnjepajbbkejeaa
open Go Go.AW Go.ChangeShapes Go.WideShapes Go.ChangeAt Go.RowKit Go.ChangeMaps
set_option linter.unusedVariables false

theorem ownM : ownKnob Try.prog.godebug = none := by kernel_rfl
theorem laidB : laidOutB Try.prog = true := by kernel_rfl

theorem wLaw (a0 : TLabelsStatesEdges) (a1 : UInt8) (a2 : UInt8) (a3 : UInt8) : Pure Try.prog 6 [HV.agg [HV.int .i64 a0.1, HV.int .i64 a0.2.1, slE eFromLabelTo a0.2.2], .int .u8 a1.toNat, .int .u8 a2.toNat, .int .u8 a3.toNat] (· = .bool true) := w_law54_SyncmarkSearch (law54_search a0 a1.toNat a2.toNat a3.toNat (Int.natCast_nonneg _) (by have := a1.toNat_lt; omega) (Int.natCast_nonneg _) (by have := a2.toNat_lt; omega) (Int.natCast_nonneg _) (by have := a3.toNat_lt; omega))

set_option maxRecDepth 100000 in
theorem liftedL (os : Os) (started : os.Started) (H : Type) (enc : TypeId × Value → H) :
    ReturnsInHanded {} Try.checked os 6 .any (Rows.syncmarkSearchSpec.pre6 enc Try.prog Try.f6 Rows.syncmarkSearchRow.domain false) (Rows.syncmarkSearchSpec.post enc Try.prog Try.f6 false true false false) := by
  refine returnsInHanded_of_change_shaped (C := Try.checked) ownM started (by kernel_rfl) Try.func6
    (ChangeSpec.witness6 (enc := enc) (C := Try.checked) false ⟨#[], #[.agg #[.int .i64 0, .int .i64 0, .slice none 0 0], .int .u8 0, .int .u8 0, .int .u8 0], []⟩ 8 (by kernel_rfl) (by kernel_rfl) (by kernel_rfl) (by kernel_rfl)) ?_
  intro W base args ds gs before hval0 hW hcnd _ hsh _
  have hval : ∀ (j : Nat) t v, Try.f6.params[j]? = some t → args[j]? = some v → Value.okWide Try.prog W .any base t v := hval0
  have hW' := hW
  obtain ⟨p, q, hA0, hV, rfl, hfz, hnd⟩ := hW
  have hA : DataW.TrodAll enc Try.prog W 0 (fun _ => true) true Try.f6.params.toList args.toList ds p := hA0
  rw [Try.params6] at hA hval
  obtain ⟨v0, vs0, d0, ds0, p0, q0, hargs, rfl, rfl, h0, r0⟩ := trodAll_cons hA
  obtain ⟨v1, vs1, d1, ds1, p1, q1, rfl, rfl, rfl, h1, r1⟩ := trodAll_cons r0
  obtain ⟨v2, vs2, d2, ds2, p2, q2, rfl, rfl, rfl, h2, r2⟩ := trodAll_cons r1
  obtain ⟨v3, vs3, d3, ds3, p3, q3, rfl, rfl, rfl, h3, r3⟩ := trodAll_cons r2
  obtain ⟨rfl, rfl, rfl⟩ := trodAll_nil r3
  obtain rfl : args = #[v0, v1, v2, v3] := by cases args; simp_all
  obtain ⟨rfl, rfl⟩ := trodVars_none hV
  obtain ⟨a0, hr0⟩ := open_graph Try.underlying24 ⟨rfl, rfl, rfl⟩ ⟨rfl, rfl, rfl⟩ (by kernel_rfl) (by kernel_rfl) (by kernel_rfl) (by kernel_rfl) Try.underlying3 Try.underlying22 Try.underlying53 ⟨rfl, rfl, rfl⟩ ⟨rfl, rfl, rfl⟩ (by kernel_rfl) (hval 0 24 v0 rfl rfl) h0
  obtain ⟨a1, hr1⟩ := open_u8 Try.underlying5 (hval 1 5 v1 rfl rfl) h1
  obtain ⟨a2, hr2⟩ := open_u8 Try.underlying5 (hval 2 5 v2 rfl rfl) h2
  obtain ⟨a3, hr3⟩ := open_u8 Try.underlying5 (hval 3 5 v3 rfl rfl) h3
  have hgl : GlOk W Mu.zero := fun g hg => by
    obtain rfl : g = 0 := by simpa [gNos] using hg
    exact ⟨Try.index.s1_3 W hsh, fun ⟨_, _, h⟩ => by cases h⟩
  refine (calls_of_pure (hgl := hgl) (vs := [v0, v1, v2, v3]) (wLaw a0 a1 a2 a3) ⟨_, _, rfl, hr0, _, _, rfl, hr1, _, _, rfl, hr2, _, _, rfl, hr3, rfl⟩).mono fun e W' ⟨he, hk⟩ => ?_
  subst he
  exact ⟨_, rfl, post_of_true laidB (by kernel_rfl) rfl Try.underlying4 rfl hW' hk rfl rfl rfl⟩

theorem syncmarkSearchProved : Rows.SyncmarkSearchSaid :=
  OpenClaim.holds_of_wide 6 Try.f6 rfl rfl rfl rfl rfl rfl rfl ⟨rfl, rfl, rfl, rfl, rfl⟩ rfl rfl rfl rfl rfl (by kernel_rfl) Try.func6 (by kernel_rfl)
    (of_decide_eq_true (by kernel_rfl)) (by unfold Func.isWrapper; first | (rw [if_pos (by decide +kernel)]; kernel_rfl) | (rw [if_neg (by decide +kernel)]; exact ⟨rfl, rfl⟩))
    (fun os started H enc _ => liftedL os started H enc)
#print axioms syncmarkSearchProved
end Go.Proofs.Ytnjepajbbkejeaa

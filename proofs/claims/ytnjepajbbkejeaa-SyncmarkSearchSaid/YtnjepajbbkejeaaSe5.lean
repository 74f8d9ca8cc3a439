import Derived.Test.YtnjepajbbkejeaaSe4
import Derived.Lib.ConvBytes
import Derived.Shelf.Strings.Repeat
import Derived.Test.YtnjepajbbkejeaaChecked
namespace Go.AW
open Go Go.Proofs
set_option linter.unusedVariables false
set_option maxHeartbeats 1600000 in
set_option maxRecDepth 100000 in
theorem w_word_known {p0 : Int} {r : Bool} (h : m_word_known p0 = some r) : Pure Try.prog 41 [HV.int .i64 p0] (· = HV.bool r) := by
 unfold m_word_known at h
 refine Pure.of_body Try.func41 rfl rfl (Nat.le_of_ble_eq_true rfl) fun hf => ?_
 unfold Try.f41
 dsimp only [enumS, Nat.reduceAdd]
 refine AW.rgs rfl fun K hK => ?_
 refine mv rfl rfl ?_
 refine b_fin hK (s' := ⟨[(0, HV.int .i64 p0)], []⟩) (le_q rfl rfl) ?_
 clear hK K
 refine AW.seqJ h (S := Bool) (V := Unit) (fun a v => ⟨[(2, HV.bool a)], []⟩) (fun a1 w2 h => ?_) (fun k3 h => ?_)
 ·refine AW.ret ?_
  have h := Option.some.inj h
  subst h
  exact ret_pure (hs := [HV.bool a1]) (q := HV.bool a1) (.inr rfl) (resT rfl rfl) rfl trivial
 refine AW.rg rfl fun K hK => ?_
 refine mv rfl rfl ?_
 refine bv rfl (v_bin rfl rfl b_geq) ?_
 refine mv rfl rfl ?_
 by_cases hg4 : 1 ≤ p0
 ·have h := ifT hg4 h
  refine b_T rfl rfl rfl rfl (decide_eq_true hg4) (o_val rfl (mv_val rfl rfl).2 ?_)
  refine b_T rfl rfl rfl rfl rfl (o_val rfl (v_bin rfl rfl b_leq) ?_)
  refine bv rfl (v_pickT rfl rfl rfl) ?_
  refine mv rfl rfl ?_
  refine b_nil (hK _ ?_)
  clear hK K
  exact to_le (s' := ⟨[(2, HV.bool (decide (p0 ≤ 16)))], []⟩) (AS.le_of ⟨rfl, trivial⟩ trivial) ⟨decide (p0 ≤ 16), (), h, rfl⟩
 have h := ifF hg4 h
 refine b_F rfl rfl rfl rfl rfl (decide_eq_false hg4) ?_
 refine b_F rfl rfl rfl rfl rfl rfl ?_
 refine bv rfl (v_pickF rfl rfl rfl) ?_
 refine mv rfl rfl ?_
 refine b_nil (hK _ ?_)
 clear hK K
 exact to_le (s' := ⟨[(2, HV.bool false)], []⟩) (AS.le_of ⟨rfl, trivial⟩ trivial) ⟨false, (), h, rfl⟩

set_option maxHeartbeats 1600000 in
set_option maxRecDepth 100000 in
theorem w_word_Check {p0 : Int} {p1 : List UInt8} {r : Int} (h : m_word_Check p0 p1 = some r) : Pure Try.prog 22 [HV.int .i64 p0, HV.str p1] (· = HV.int .i64 r) := by
 unfold m_word_Check at h
 refine Pure.of_body Try.func22 rfl rfl (Nat.le_of_ble_eq_true rfl) fun hf => ?_
 unfold Try.f22
 dsimp only [enumS, Nat.reduceAdd]
 refine AW.rgs rfl fun K hK => ?_
 refine mv rfl rfl ?_
 refine b_fin hK (s' := ⟨[(0, HV.int .i64 p0), (1, HV.str p1)], []⟩) (le_q rfl rfl) ?_
 clear hK K
 refine AW.seq (AW.block ?_)
 refine AW.rgs rfl fun K hK => ?_
 refine mv rfl rfl ?_
 obtain ⟨x1, h2, h⟩ := bS h
 refine b_op rfl (o_call rfl rfl rfl rfl (ACallD.pure0 (w_word_known h2)) ?_)
 refine bv rfl (v_not rfl) ?_
 refine mv rfl rfl ?_
 refine b_fin hK (s' := ⟨[(0, HV.int .i64 p0), (1, HV.str p1), (6, HV.bool (!x1))], []⟩) (le_q rfl rfl) ?_
 clear hK K
 refine AW.cond rfl (fun hc => ?_) (fun hc => ?_)
 ·have h := ifT hc h
  refine AW.rgs rfl fun K hK => ?_
  refine mv rfl rfl ?_
  refine b_fin hK (s' := ⟨[(4, HV.int .i64 12)], []⟩) (le_q rfl rfl) ?_
  clear hK K
  refine AW.ret ?_
  have h := Option.some.inj h
  subst h
  exact ret_pure (hs := [HV.int .i64 12]) (q := HV.int .i64 12) (.inr rfl) (resT rfl rfl) rfl trivial
 have h := ifF (bF' hc) h
 refine AW.rgs rfl fun K hK => ?_
 refine mv rfl rfl ?_
 refine bv rfl (v_lenS rfl rfl ty9 rfl) ?_
 refine bv rfl (v_bin rfl rfl b_gtr) ?_
 refine mv rfl rfl ?_
 refine b_fin hK (s' := ⟨[(0, HV.int .i64 p0), (1, HV.str p1), (10, HV.bool (decide (65536 < ((p1).length : Int))))], []⟩) (le_q rfl rfl) ?_
 clear hK K
 refine AW.cond rfl (fun hc => ?_) (fun hc => ?_)
 ·have hc := of_decide_eq_true hc
  have h := ifT hc h
  refine AW.rgs rfl fun K hK => ?_
  refine mv rfl rfl ?_
  refine b_fin hK (s' := ⟨[(4, HV.int .i64 4)], []⟩) (le_q rfl rfl) ?_
  clear hK K
  refine AW.ret ?_
  have h := Option.some.inj h
  subst h
  exact ret_pure (hs := [HV.int .i64 4]) (q := HV.int .i64 4) (.inr rfl) (resT rfl rfl) rfl trivial
 have hc := of_decide_eq_false hc
 have h := ifF hc h
 refine AW.skip ?_
 refine AW.seq ?_
 refine AW.rgs rfl fun K hK => ?_
 refine mv rfl rfl ?_
 refine bv rfl (v_lenS rfl rfl ty9 rfl) ?_
 refine mv rfl rfl ?_
 refine b_fin hK (s' := ⟨[(0, HV.int .i64 p0), (1, HV.str p1), (15, HV.int .i64 ((p1).length : Int)), (16, HV.int .i64 0)], []⟩) (le_q rfl rfl) ?_
 clear hK K
 refine AW.lpR h (by first | exact up_then | exact up_to) (S := Int) (V := Unit) (fun a v => ⟨[(0, HV.int .i64 p0), (1, HV.str p1), (15, HV.int .i64 ((p1).length : Int)), (16, HV.int .i64 a)], []⟩) ?_ (X := Unit) (W := Unit) (fun a v => ⟨[], []⟩) (fun a12 w13 h => ?_) (fun a3 w4 st5 h hr6=> ?_)
 ·exact to_le (s' := ⟨[(0, HV.int .i64 p0), (1, HV.str p1), (15, HV.int .i64 ((p1).length : Int)), (16, HV.int .i64 0)], []⟩) (AS.le_of ⟨rfl, rfl, rfl, rfl, trivial⟩ trivial) ⟨(), rfl⟩
 ·refine AW.rgs rfl fun K hK => ?_
  refine mv rfl rfl ?_
  refine b_fin hK (s' := ⟨[(4, HV.int .i64 0)], []⟩) (le_q rfl rfl) ?_
  clear hK K
  refine AW.ret ?_
  have h := Option.some.inj h
  subst h
  exact ret_pure (hs := [HV.int .i64 0]) (q := HV.int .i64 0) (.inr rfl) (resT rfl rfl) rfl trivial
 refine AW.rgs rfl fun K hK => ?_
 refine bv rfl (v_bin rfl rfl b_lss) ?_
 refine b_fin hK (s' := ⟨[(0, HV.int .i64 p0), (1, HV.str p1), (15, HV.int .i64 ((p1).length : Int)), (16, HV.int .i64 a3), (17, HV.bool (decide (a3 < ((p1).length : Int))))], []⟩) (le_q rfl rfl) ?_
 clear hK K
 refine AW.cseq rfl (fun hc => ?_) (fun hc => ?_)
 ·have hc := of_decide_eq_true hc
  have h := ifT hc h
  refine AW.skip ?_
  refine AW.seq (AW.block ?_)
  refine AW.rgs rfl fun K hK => ?_
  refine mv rfl rfl ?_
  refine mv rfl rfl ?_
  refine b_fin hK (s' := ⟨[(0, HV.int .i64 p0), (1, HV.str p1), (5, HV.int .i64 a3), (15, HV.int .i64 ((p1).length : Int)), (16, HV.int .i64 a3)], []⟩) (le_q rfl rfl) ?_
  clear hK K
  refine AW.dgs 7 follows rfl rfl fun K hK => ?_
  refine sm rfl rfl ?_
  obtain ⟨h7, h⟩ := ifN h
  refine sv rfl (v_sliceS ty9 rfl rfl rfl h7) ?_
  refine sm rfl rfl ?_
  refine sm rfl rfl ?_
  obtain ⟨x8, h9, h⟩ := bS h
  refine sv rfl (v_idxS ty9 rfl rfl h9) ?_
  obtain ⟨x10, h11, h⟩ := bS h
  refine s_op rfl rfl (ops_call rfl rfl rfl rfl (ACallD.pure0 (w_strings_IndexByte h11)) ?_)
  refine sv rfl (v_bin rfl rfl b_lss) ?_
  refine s_nil ?_
  refine b_fin hK (s' := ⟨[(0, HV.int .i64 p0), (1, HV.str p1), (15, HV.int .i64 ((p1).length : Int)), (16, HV.int .i64 a3), (25, HV.bool (decide (x10 < 0)))], []⟩) (le_q rfl rfl) ?_
  clear hK K
  refine AW.cond rfl (fun hc => ?_) (fun hc => ?_)
  ·have hc := of_decide_eq_true hc
   have h := ifT hc h
   refine AW.rgs rfl fun K hK => ?_
   refine mv rfl rfl ?_
   refine b_fin hK (s' := ⟨[(4, HV.int .i64 13)], []⟩) (le_q rfl rfl) ?_
   clear hK K
   have h := hr6 _ h
   refine AW.ret ?_
   have h := Option.some.inj h
   subst h
   exact ret_pure (hs := [HV.int .i64 13]) (q := HV.int .i64 13) (.inr rfl) (resT rfl rfl) rfl trivial
  have hc := of_decide_eq_false hc
  have h := ifF hc h
  refine AW.skip ?_
  refine AW.rg rfl fun K hK => ?_
  refine bv rfl (v_bin rfl rfl b_add) ?_
  refine mv rfl rfl ?_
  refine b_nil (hK _ ?_)
  clear hK K
  exact to_le (s' := ⟨[(0, HV.int .i64 p0), (1, HV.str p1), (15, HV.int .i64 ((p1).length : Int)), (16, HV.int .i64 (IntKind.wrap .i64 (a3 + 1)))], []⟩) (AS.le_of ⟨rfl, rfl, rfl, rfl, trivial⟩ trivial) ⟨IntKind.wrap .i64 (a3 + 1), (), h, rfl⟩
 have hc := of_decide_eq_false hc
 have h := ifF hc h
 refine AW.exit ?_
 exact to_le (s' := ⟨[], []⟩) (AS.le_of trivial trivial) ⟨(), (), h, rfl⟩

set_option maxHeartbeats 1600000 in
set_option maxRecDepth 100000 in
theorem w_graph_list {p0 : TFromLabelTo} {r : (List (Int))} (h : m_graph_list p0 = some r) : Pure Try.prog 72 [HV.agg [HV.int .i64 p0.1, HV.int .i64 p0.2.1, HV.int .i64 p0.2.2]] (· = slE eInt r) := by
 unfold m_graph_list at h
 refine Pure.of_body Try.func72 rfl rfl (Nat.le_of_ble_eq_true rfl) fun hf => ?_
 unfold Try.f72
 dsimp only [enumS, Nat.reduceAdd]
 refine AW.rgs rfl fun K hK => ?_
 refine b_op rfl (o_box rfl rfl rfl ?_)
 refine mv rfl rfl ?_
 refine b_fin hK (s' := ⟨[(1, HV.fptr [HV.int .i64 p0.1, HV.int .i64 p0.2.1, HV.int .i64 p0.2.2] 0)], []⟩) (le_q rfl rfl) ?_
 clear hK K
 refine AW.rgs rfl fun K hK => ?_
 refine bv rfl (v_fieldAddrF fo53_0 rfl) ?_
 refine bv rfl (v_loadF ty3 rfl (l_lit rfl rfl)) ?_
 refine bv rfl (v_fieldAddrF fo53_1 rfl) ?_
 refine bv rfl (v_loadF ty3 rfl (l_lit rfl rfl)) ?_
 refine bv rfl (v_fieldAddrF fo53_2 rfl) ?_
 refine bv rfl (v_loadF ty3 rfl (l_lit rfl rfl)) ?_
 refine b_op rfl (o_bsl rfl rfl (as_of (cs := [HV.int .i64 p0.1, HV.int .i64 p0.2.1, HV.int .i64 p0.2.2]) ty35 ty3 rfl rfl rfl rfl rfl) ?_)
 refine mv rfl rfl ?_
 refine b_fin hK (s' := ⟨[(2, slE eInt [p0.1, p0.2.1, p0.2.2])], []⟩) (le_q rfl rfl) ?_
 clear hK K
 refine AW.ret ?_
 have h := Option.some.inj h
 subst h
 exact ret_pure (hs := [slE eInt [p0.1, p0.2.1, p0.2.2]]) (q := slE eInt [p0.1, p0.2.1, p0.2.2]) (.inr rfl) (resT rfl rfl) rfl (clean_slE fun _ _ => ⟨trivial, trivial⟩)

set_option maxHeartbeats 1600000 in
set_option maxRecDepth 100000 in
theorem w_cmp_isNaN_int {p0 : Int} {r : Bool} (h : m_cmp_isNaN_int p0 = some r) : Pure Try.prog 70 [HV.int .i64 p0] (· = HV.bool r) := by
 unfold m_cmp_isNaN_int at h
 refine Pure.of_body Try.func70 rfl rfl (Nat.le_of_ble_eq_true rfl) fun hf => ?_
 unfold Try.f70
 dsimp only [enumS, Nat.reduceAdd]
 refine AW.rgs rfl fun K hK => ?_
 refine mv rfl rfl ?_
 refine b_fin hK (s' := ⟨[(0, HV.int .i64 p0)], []⟩) (le_q rfl rfl) ?_
 clear hK K
 refine AW.rgs rfl fun K hK => ?_
 refine mv rfl rfl ?_
 refine mv rfl rfl ?_
 refine bv rfl (v_bin rfl rfl b_neq) ?_
 refine mv rfl rfl ?_
 refine b_fin hK (s' := ⟨[(2, HV.bool (decide (p0 ≠ p0)))], []⟩) (le_q rfl rfl) ?_
 clear hK K
 refine AW.ret ?_
 have h := Option.some.inj h
 subst h
 exact ret_pure (hs := [HV.bool (decide (p0 ≠ p0))]) (q := HV.bool (decide (p0 ≠ p0))) (.inr rfl) (resT rfl rfl) rfl trivial

set_option maxHeartbeats 1600000 in
set_option maxRecDepth 100000 in
theorem w_cmp_Compare_int {p0 : Int} {p1 : Int} {r : Int} (h : m_cmp_Compare_int p0 p1 = some r) : Pure Try.prog 105 [HV.int .i64 p0, HV.int .i64 p1] (· = HV.int .i64 r) := by
 unfold m_cmp_Compare_int at h
 refine Pure.of_body Try.func105 rfl rfl (Nat.le_of_ble_eq_true rfl) fun hf => ?_
 unfold Try.f105
 dsimp only [enumS, Nat.reduceAdd]
 refine AW.rgs rfl fun K hK => ?_
 refine mv rfl rfl ?_
 refine b_fin hK (s' := ⟨[(0, HV.int .i64 p0), (1, HV.int .i64 p1)], []⟩) (le_q rfl rfl) ?_
 clear hK K
 refine AW.rgs rfl fun K hK => ?_
 refine mv rfl rfl ?_
 obtain ⟨x1, h2, h⟩ := bS h
 refine b_op rfl (o_call rfl rfl rfl rfl (ACallD.pure0 (w_cmp_isNaN_int h2)) ?_)
 refine mv rfl rfl ?_
 refine b_fin hK (s' := ⟨[(0, HV.int .i64 p0), (1, HV.int .i64 p1), (5, HV.bool x1)], []⟩) (le_q rfl rfl) ?_
 clear hK K
 refine AW.rgs rfl fun K hK => ?_
 refine mv rfl rfl ?_
 obtain ⟨x3, h4, h⟩ := bS h
 refine b_op rfl (o_call rfl rfl rfl rfl (ACallD.pure0 (w_cmp_isNaN_int h4)) ?_)
 refine mv rfl rfl ?_
 refine b_fin hK (s' := ⟨[(0, HV.int .i64 p0), (1, HV.int .i64 p1), (5, HV.bool x1), (6, HV.bool x3)], []⟩) (le_q rfl rfl) ?_
 clear hK K
 refine AW.seq ?_
 refine AW.rgs rfl fun K hK => ?_
 refine mv rfl rfl ?_
 refine b_fin hK (s' := ⟨[(0, HV.int .i64 p0), (1, HV.int .i64 p1), (6, HV.bool x3), (11, HV.bool x1)], []⟩) (le_q rfl rfl) ?_
 clear hK K
 refine AW.cond rfl (fun hc => ?_) (fun hc => ?_)
 ·have h := ifT hc h
  refine AW.seq ?_
  refine AW.rgs rfl fun K hK => ?_
  refine mv rfl rfl ?_
  refine b_fin hK (s' := ⟨[(12, HV.bool x3)], []⟩) (le_q rfl rfl) ?_
  clear hK K
  refine AW.cond rfl (fun hc => ?_) (fun hc => ?_)
  ·have h := ifT hc h
   refine AW.rgs rfl fun K hK => ?_
   refine mv rfl rfl ?_
   refine b_fin hK (s' := ⟨[(4, HV.int .i64 0)], []⟩) (le_q rfl rfl) ?_
   clear hK K
   refine AW.ret ?_
   have h := Option.some.inj h
   subst h
   exact ret_pure (hs := [HV.int .i64 0]) (q := HV.int .i64 0) (.inr rfl) (resT rfl rfl) rfl trivial
  have h := ifF (bF' hc) h
  refine AW.skip ?_
  refine AW.rgs rfl fun K hK => ?_
  refine mv rfl rfl ?_
  refine b_fin hK (s' := ⟨[(4, HV.int .i64 (-1))], []⟩) (le_q rfl rfl) ?_
  clear hK K
  refine AW.ret ?_
  have h := Option.some.inj h
  subst h
  exact ret_pure (hs := [HV.int .i64 (-1)]) (q := HV.int .i64 (-1)) (.inr rfl) (resT rfl rfl) rfl trivial
 have h := ifF (bF' hc) h
 refine AW.skip ?_
 refine AW.seq ?_
 refine AW.rgs rfl fun K hK => ?_
 refine mv rfl rfl ?_
 refine b_fin hK (s' := ⟨[(0, HV.int .i64 p0), (1, HV.int .i64 p1), (13, HV.bool x3)], []⟩) (le_q rfl rfl) ?_
 clear hK K
 refine AW.cond rfl (fun hc => ?_) (fun hc => ?_)
 ·have h := ifT hc h
  refine AW.rgs rfl fun K hK => ?_
  refine mv rfl rfl ?_
  refine b_fin hK (s' := ⟨[(4, HV.int .i64 1)], []⟩) (le_q rfl rfl) ?_
  clear hK K
  refine AW.ret ?_
  have h := Option.some.inj h
  subst h
  exact ret_pure (hs := [HV.int .i64 1]) (q := HV.int .i64 1) (.inr rfl) (resT rfl rfl) rfl trivial
 have h := ifF (bF' hc) h
 refine AW.skip ?_
 refine AW.seq ?_
 refine AW.rgs rfl fun K hK => ?_
 refine mv rfl rfl ?_
 refine mv rfl rfl ?_
 refine bv rfl (v_bin rfl rfl b_lss) ?_
 refine b_fin hK (s' := ⟨[(0, HV.int .i64 p0), (1, HV.int .i64 p1), (16, HV.bool (decide (p0 < p1)))], []⟩) (le_q rfl rfl) ?_
 clear hK K
 refine AW.cond rfl (fun hc => ?_) (fun hc => ?_)
 ·have hc := of_decide_eq_true hc
  have h := ifT hc h
  refine AW.rgs rfl fun K hK => ?_
  refine mv rfl rfl ?_
  refine b_fin hK (s' := ⟨[(4, HV.int .i64 (-1))], []⟩) (le_q rfl rfl) ?_
  clear hK K
  refine AW.ret ?_
  have h := Option.some.inj h
  subst h
  exact ret_pure (hs := [HV.int .i64 (-1)]) (q := HV.int .i64 (-1)) (.inr rfl) (resT rfl rfl) rfl trivial
 have hc := of_decide_eq_false hc
 have h := ifF hc h
 refine AW.skip ?_
 refine AW.seq ?_
 refine AW.rgs rfl fun K hK => ?_
 refine mv rfl rfl ?_
 refine mv rfl rfl ?_
 refine bv rfl (v_bin rfl rfl b_gtr) ?_
 refine b_fin hK (s' := ⟨[(19, HV.bool (decide (p1 < p0)))], []⟩) (le_q rfl rfl) ?_
 clear hK K
 refine AW.cond rfl (fun hc => ?_) (fun hc => ?_)
 ·have hc := of_decide_eq_true hc
  have h := ifT hc h
  refine AW.rgs rfl fun K hK => ?_
  refine mv rfl rfl ?_
  refine b_fin hK (s' := ⟨[(4, HV.int .i64 1)], []⟩) (le_q rfl rfl) ?_
  clear hK K
  refine AW.ret ?_
  have h := Option.some.inj h
  subst h
  exact ret_pure (hs := [HV.int .i64 1]) (q := HV.int .i64 1) (.inr rfl) (resT rfl rfl) rfl trivial
 have hc := of_decide_eq_false hc
 have h := ifF hc h
 refine AW.skip ?_
 refine AW.rgs rfl fun K hK => ?_
 refine mv rfl rfl ?_
 refine b_fin hK (s' := ⟨[(4, HV.int .i64 0)], []⟩) (le_q rfl rfl) ?_
 clear hK K
 refine AW.ret ?_
 have h := Option.some.inj h
 subst h
 exact ret_pure (hs := [HV.int .i64 0]) (q := HV.int .i64 0) (.inr rfl) (resT rfl rfl) rfl trivial

set_option maxHeartbeats 1600000 in
set_option maxRecDepth 100000 in
theorem w_slices_Compare_Lint_int {p0 : List (Int)} {p1 : List (Int)} {r : Int} (h : m_slices_Compare_Lint_int p0 p1 = some r) : Pure Try.prog 93 [slE eInt p0, slE eInt p1] (· = HV.int .i64 r) := by
 unfold m_slices_Compare_Lint_int at h
 refine Pure.of_body Try.func93 rfl rfl (Nat.le_of_ble_eq_true rfl) fun hf => ?_
 unfold Try.f93
 dsimp only [enumS, Nat.reduceAdd]
 refine AW.rgs rfl fun K hK => ?_
 refine mv rfl rfl ?_
 refine b_fin hK (s' := ⟨[(0, slE eInt p0), (1, slE eInt p1)], []⟩) (le_q rfl rfl) ?_
 clear hK K
 refine AW.seq ?_
 refine AW.rgs rfl fun K hK => ?_
 refine mv rfl rfl ?_
 refine bv rfl (v_lenF rfl rfl ty35 rfl) ?_
 refine mv rfl rfl ?_
 refine b_fin hK (s' := ⟨[(0, slE eInt p0), (1, slE eInt p1), (9, slE eInt p0), (10, HV.int .i64 ((p0).length : Int)), (11, HV.int .i64 0)], []⟩) (le_q rfl rfl) ?_
 clear hK K
 refine AW.lpR h (by first | exact up_then | exact up_to) (S := Int) (V := Unit) (fun a v => ⟨[(0, slE eInt p0), (1, slE eInt p1), (9, slE eInt p0), (10, HV.int .i64 ((p0).length : Int)), (11, HV.int .i64 a)], []⟩) ?_ (X := Unit) (W := Unit) (fun a v => ⟨[(0, slE eInt p0), (1, slE eInt p1)], []⟩) (fun a11 w12 h => ?_) (fun a1 w2 st3 h hr4=> ?_)
 ·exact to_le (s' := ⟨[(0, slE eInt p0), (1, slE eInt p1), (9, slE eInt p0), (10, HV.int .i64 ((p0).length : Int)), (11, HV.int .i64 0)], []⟩) (AS.le_of ⟨rfl, rfl, rfl, rfl, rfl, trivial⟩ trivial) ⟨(), rfl⟩
 ·refine AW.seq ?_
  refine AW.rgs rfl fun K hK => ?_
  refine mv rfl rfl ?_
  refine bv rfl (v_lenF rfl rfl ty35 rfl) ?_
  refine mv rfl rfl ?_
  refine bv rfl (v_lenF rfl rfl ty35 rfl) ?_
  refine bv rfl (v_bin rfl rfl b_lss) ?_
  refine b_fin hK (s' := ⟨[(35, HV.bool (decide (((p0).length : Int) < ((p1).length : Int))))], []⟩) (le_q rfl rfl) ?_
  clear hK K
  refine AW.cond rfl (fun hc => ?_) (fun hc => ?_)
  ·have hc := of_decide_eq_true hc
   have h := ifT hc h
   refine AW.rgs rfl fun K hK => ?_
   refine mv rfl rfl ?_
   refine b_fin hK (s' := ⟨[(4, HV.int .i64 (-1))], []⟩) (le_q rfl rfl) ?_
   clear hK K
   refine AW.ret ?_
   have h := Option.some.inj h
   subst h
   exact ret_pure (hs := [HV.int .i64 (-1)]) (q := HV.int .i64 (-1)) (.inr rfl) (resT rfl rfl) rfl trivial
  have hc := of_decide_eq_false hc
  have h := ifF hc h
  refine AW.skip ?_
  refine AW.rgs rfl fun K hK => ?_
  refine mv rfl rfl ?_
  refine b_fin hK (s' := ⟨[(4, HV.int .i64 0)], []⟩) (le_q rfl rfl) ?_
  clear hK K
  refine AW.ret ?_
  have h := Option.some.inj h
  subst h
  exact ret_pure (hs := [HV.int .i64 0]) (q := HV.int .i64 0) (.inr rfl) (resT rfl rfl) rfl trivial
 refine AW.rgs rfl fun K hK => ?_
 refine bv rfl (v_bin rfl rfl b_lss) ?_
 refine b_fin hK (s' := ⟨[(0, slE eInt p0), (1, slE eInt p1), (9, slE eInt p0), (10, HV.int .i64 ((p0).length : Int)), (11, HV.int .i64 a1), (12, HV.bool (decide (a1 < ((p0).length : Int))))], []⟩) (le_q rfl rfl) ?_
 clear hK K
 refine AW.cseq rfl (fun hc => ?_) (fun hc => ?_)
 ·have hc := of_decide_eq_true hc
  have h := ifT hc h
  refine AW.skip ?_
  refine AW.seq (AW.block ?_)
  refine AW.rgs rfl fun K hK => ?_
  refine mv rfl rfl ?_
  obtain ⟨x5, h6, h⟩ := bS h
  refine bv rfl (v_idxF ty35 es35 rfl rfl (idx_lt h6)) ?_
  refine bv rfl (v_loadF ty3 rfl (l_cell eInt h6 (o := 0) rfl rfl)) ?_
  refine mv rfl rfl ?_
  refine mv rfl rfl ?_
  refine b_fin hK (s' := ⟨[(0, slE eInt p0), (1, slE eInt p1), (5, HV.int .i64 a1), (6, HV.int .i64 x5), (9, slE eInt p0), (10, HV.int .i64 ((p0).length : Int)), (11, HV.int .i64 a1)], []⟩) (le_q rfl rfl) ?_
  clear hK K
  refine AW.seq ?_
  refine AW.rgs rfl fun K hK => ?_
  refine mv rfl rfl ?_
  refine mv rfl rfl ?_
  refine bv rfl (v_lenF rfl rfl ty35 rfl) ?_
  refine bv rfl (v_bin rfl rfl b_geq) ?_
  refine b_fin hK (s' := ⟨[(0, slE eInt p0), (1, slE eInt p1), (5, HV.int .i64 a1), (6, HV.int .i64 x5), (9, slE eInt p0), (10, HV.int .i64 ((p0).length : Int)), (11, HV.int .i64 a1), (19, HV.bool (decide (((p1).length : Int) ≤ a1)))], []⟩) (le_q rfl rfl) ?_
  clear hK K
  refine AW.cond rfl (fun hc => ?_) (fun hc => ?_)
  ·have hc := of_decide_eq_true hc
   have h := ifT hc h
   refine AW.rgs rfl fun K hK => ?_
   refine mv rfl rfl ?_
   refine b_fin hK (s' := ⟨[(4, HV.int .i64 1)], []⟩) (le_q rfl rfl) ?_
   clear hK K
   have h := hr4 _ h
   refine AW.ret ?_
   have h := Option.some.inj h
   subst h
   exact ret_pure (hs := [HV.int .i64 1]) (q := HV.int .i64 1) (.inr rfl) (resT rfl rfl) rfl trivial
  have hc := of_decide_eq_false hc
  have h := ifF hc h
  refine AW.skip ?_
  refine AW.rgs rfl fun K hK => ?_
  refine mv rfl rfl ?_
  refine mv rfl rfl ?_
  obtain ⟨x7, h8, h⟩ := bS h
  refine bv rfl (v_idxF ty35 es35 rfl rfl (idx_lt h8)) ?_
  refine bv rfl (v_loadF ty3 rfl (l_cell eInt h8 (o := 0) rfl rfl)) ?_
  refine mv rfl rfl ?_
  refine b_fin hK (s' := ⟨[(0, slE eInt p0), (1, slE eInt p1), (6, HV.int .i64 x5), (7, HV.int .i64 x7), (9, slE eInt p0), (10, HV.int .i64 ((p0).length : Int)), (11, HV.int .i64 a1)], []⟩) (le_q rfl rfl) ?_
  clear hK K
  refine AW.rgs rfl fun K hK => ?_
  refine mv rfl rfl ?_
  refine mv rfl rfl ?_
  obtain ⟨x9, h10, h⟩ := bS h
  refine b_op rfl (o_call rfl rfl rfl rfl (ACallD.pure0 (w_cmp_Compare_int h10)) ?_)
  refine mv rfl rfl ?_
  refine b_fin hK (s' := ⟨[(0, slE eInt p0), (1, slE eInt p1), (8, HV.int .i64 x9), (9, slE eInt p0), (10, HV.int .i64 ((p0).length : Int)), (11, HV.int .i64 a1)], []⟩) (le_q rfl rfl) ?_
  clear hK K
  refine AW.rgs rfl fun K hK => ?_
  refine mv rfl rfl ?_
  refine bv rfl (v_bin rfl rfl b_neq) ?_
  refine b_fin hK (s' := ⟨[(0, slE eInt p0), (1, slE eInt p1), (8, HV.int .i64 x9), (9, slE eInt p0), (10, HV.int .i64 ((p0).length : Int)), (11, HV.int .i64 a1), (28, HV.bool (decide (x9 ≠ 0)))], []⟩) (le_q rfl rfl) ?_
  clear hK K
  refine AW.cond rfl (fun hc => ?_) (fun hc => ?_)
  ·have hc := of_decide_eq_true hc
   have h := ifT hc h
   refine AW.rgs rfl fun K hK => ?_
   refine mv rfl rfl ?_
   refine mv rfl rfl ?_
   refine b_fin hK (s' := ⟨[(4, HV.int .i64 x9)], []⟩) (le_q rfl rfl) ?_
   clear hK K
   have h := hr4 _ h
   refine AW.ret ?_
   have h := Option.some.inj h
   subst h
   exact ret_pure (hs := [HV.int .i64 x9]) (q := HV.int .i64 x9) (.inr rfl) (resT rfl rfl) rfl trivial
  have hc := of_decide_eq_false hc
  have h := ifF hc h
  refine AW.skip ?_
  refine AW.rg rfl fun K hK => ?_
  refine bv rfl (v_bin rfl rfl b_add) ?_
  refine mv rfl rfl ?_
  refine b_nil (hK _ ?_)
  clear hK K
  exact to_le (s' := ⟨[(0, slE eInt p0), (1, slE eInt p1), (9, slE eInt p0), (10, HV.int .i64 ((p0).length : Int)), (11, HV.int .i64 (IntKind.wrap .i64 (a1 + 1)))], []⟩) (AS.le_of ⟨rfl, rfl, rfl, rfl, rfl, trivial⟩ trivial) ⟨IntKind.wrap .i64 (a1 + 1), (), h, rfl⟩
 have hc := of_decide_eq_false hc
 have h := ifF hc h
 refine AW.exit ?_
 exact to_le (s' := ⟨[(0, slE eInt p0), (1, slE eInt p1)], []⟩) (AS.le_of ⟨rfl, rfl, trivial⟩ trivial) ⟨(), (), h, rfl⟩

set_option maxHeartbeats 1600000 in
set_option maxRecDepth 100000 in
theorem w_graph_by_api_Edge_1 {p0 : TFromLabelTo} {p1 : TFromLabelTo} {r : Int} (h : m_graph_by_api_Edge_1 p0 p1 = some r) : Pure Try.prog 92 [HV.agg [HV.int .i64 p0.1, HV.int .i64 p0.2.1, HV.int .i64 p0.2.2], HV.agg [HV.int .i64 p1.1, HV.int .i64 p1.2.1, HV.int .i64 p1.2.2], HV.fptr [HV.fn (.func 72) [] []] 0] (· = HV.int .i64 r) := by
 unfold m_graph_by_api_Edge_1 at h
 refine Pure.of_body Try.func92 rfl rfl (Nat.le_of_ble_eq_true rfl) fun hf => ?_
 unfold Try.f92
 dsimp only [enumS, Nat.reduceAdd]
 refine AW.rgs rfl fun K hK => ?_
 refine b_op rfl (o_box rfl rfl rfl ?_)
 refine b_op rfl (o_box rfl rfl rfl ?_)
 refine mv rfl rfl ?_
 refine b_fin hK (s' := ⟨[(2, HV.fptr [HV.fn (.func 72) [] []] 0), (3, HV.fptr [HV.int .i64 p0.1, HV.int .i64 p0.2.1, HV.int .i64 p0.2.2] 0), (4, HV.fptr [HV.int .i64 p1.1, HV.int .i64 p1.2.1, HV.int .i64 p1.2.2] 0)], []⟩) (le_q rfl rfl) ?_
 clear hK K
 refine AW.dgs 8 follows rfl rfl fun K hK => ?_
 refine sv rfl (v_loadF ty102 rfl (l_lit rfl rfl)) ?_
 refine sv rfl (v_loadF ty53 rfl (l_litA rfl (Nat.le_of_ble_eq_true rfl) rfl)) ?_
 obtain ⟨x1, h2, h⟩ := bS h
 refine s_op rfl rfl (ops_call rfl rfl rfl rfl (ACallD.pure0 (w_graph_list h2)) ?_)
 refine sv rfl (v_loadF ty102 rfl (l_lit rfl rfl)) ?_
 refine sv rfl (v_loadF ty53 rfl (l_litA rfl (Nat.le_of_ble_eq_true rfl) rfl)) ?_
 obtain ⟨x3, h4, h⟩ := bS h
 refine s_op rfl rfl (ops_call rfl rfl rfl rfl (ACallD.pure0 (w_graph_list h4)) ?_)
 obtain ⟨x5, h6, h⟩ := bS h
 refine s_op rfl rfl (ops_call rfl rfl rfl rfl (ACallD.pure0 (w_slices_Compare_Lint_int h6)) ?_)
 refine sm rfl rfl ?_
 refine s_nil ?_
 refine b_fin hK (s' := ⟨[(5, HV.int .i64 x5)], []⟩) (le_q rfl rfl) ?_
 clear hK K
 refine AW.ret ?_
 have h := Option.some.inj h
 subst h
 exact ret_pure (hs := [HV.int .i64 x5]) (q := HV.int .i64 x5) (.inr rfl) (resT rfl rfl) rfl trivial

set_option maxHeartbeats 1600000 in
set_option maxRecDepth 100000 in
theorem w_graph_by_api_Edge  : Pure Try.prog 71 [HV.fn (.func 72) [] []] (· = HV.fn (.func 92) [] [HV.fptr [HV.fn (.func 72) [] []] 0]) := by
 refine Pure.of_body Try.func71 rfl rfl (Nat.le_of_ble_eq_true rfl) fun hf => ?_
 unfold Try.f71
 dsimp only [enumS, Nat.reduceAdd]
 refine AW.rgs rfl fun K hK => ?_
 refine b_op rfl (o_box rfl rfl rfl ?_)
 refine mv rfl rfl ?_
 refine b_fin hK (s' := ⟨[(1, HV.fptr [HV.fn (.func 72) [] []] 0)], []⟩) (le_q rfl rfl) ?_
 clear hK K
 refine AW.rgs rfl fun K hK => ?_
 refine bv rfl (v_func rfl rfl) ?_
 refine mv rfl rfl ?_
 refine b_fin hK (s' := ⟨[(2, HV.fn (.func 92) [] [HV.fptr [HV.fn (.func 72) [] []] 0])], []⟩) (le_q rfl rfl) ?_
 clear hK K
 refine AW.ret ?_
 exact ret_pure (hs := [HV.fn (.func 92) [] [HV.fptr [HV.fn (.func 72) [] []] 0]]) (q := HV.fn (.func 92) [] [HV.fptr [HV.fn (.func 72) [] []] 0]) (.inr rfl) (resT rfl rfl) rfl ⟨trivial, ⟨⟨⟨trivial, trivial⟩, trivial⟩, trivial⟩⟩

set_option maxHeartbeats 1600000 in
set_option maxRecDepth 100000 in
theorem w_graph_Check {p0 : TLabelsStatesEdges} {r : Int} (h : m_graph_Check p0 = some r) : Pure Try.prog 51 [HV.agg [HV.int .i64 p0.1, HV.int .i64 p0.2.1, slE eFromLabelTo p0.2.2]] (· = HV.int .i64 r) := by
 unfold m_graph_Check at h
 refine Pure.of_body Try.func51 rfl rfl (Nat.le_of_ble_eq_true rfl) fun hf => ?_
 unfold Try.f51
 dsimp only [enumS, Nat.reduceAdd]
 refine AW.rgs rfl fun K hK => ?_
 refine b_op rfl (o_box rfl rfl rfl ?_)
 refine mv rfl rfl ?_
 refine b_fin hK (s' := ⟨[(1, HV.fptr [HV.int .i64 p0.1, HV.int .i64 p0.2.1, slE eFromLabelTo p0.2.2] 0)], []⟩) (le_q rfl rfl) ?_
 clear hK K
 refine AW.seq (AW.block ?_)
 refine AW.seqJ h (S := Bool) (V := Unit) (fun a v => ⟨[(1, HV.fptr [HV.int .i64 p0.1, HV.int .i64 p0.2.1, slE eFromLabelTo p0.2.2] 0), (6, HV.bool a)], []⟩) (fun a1 w2 h => ?_) (fun k3 h => ?_)
 ·refine AW.cond rfl (fun hc => ?_) (fun hc => ?_)
  ·have h := ifT hc h
   refine AW.rgs rfl fun K hK => ?_
   refine mv rfl rfl ?_
   refine b_fin hK (s' := ⟨[(2, HV.int .i64 12)], []⟩) (le_q rfl rfl) ?_
   clear hK K
   refine AW.ret ?_
   have h := Option.some.inj h
   subst h
   exact ret_pure (hs := [HV.int .i64 12]) (q := HV.int .i64 12) (.inr rfl) (resT rfl rfl) rfl trivial
  have h := ifF (bF' hc) h
  refine AW.rgs rfl fun K hK => ?_
  refine bv rfl (v_fieldAddrF fo24_1 rfl) ?_
  refine bv rfl (v_loadF ty3 rfl (l_lit rfl rfl)) ?_
  refine bv rfl (v_bin rfl rfl b_lss) ?_
  refine mv rfl rfl ?_
  refine b_fin hK (s' := ⟨[(1, HV.fptr [HV.int .i64 p0.1, HV.int .i64 p0.2.1, slE eFromLabelTo p0.2.2] 0), (15, HV.bool (decide (p0.2.1 < 0)))], []⟩) (le_q rfl rfl) ?_
  clear hK K
  refine AW.cond rfl (fun hc => ?_) (fun hc => ?_)
  ·have hc := of_decide_eq_true hc
   have h := ifT hc h
   refine AW.rgs rfl fun K hK => ?_
   refine mv rfl rfl ?_
   refine b_fin hK (s' := ⟨[(2, HV.int .i64 2)], []⟩) (le_q rfl rfl) ?_
   clear hK K
   refine AW.ret ?_
   have h := Option.some.inj h
   subst h
   exact ret_pure (hs := [HV.int .i64 2]) (q := HV.int .i64 2) (.inr rfl) (resT rfl rfl) rfl trivial
  have hc := of_decide_eq_false hc
  have h := ifF hc h
  refine AW.seqJ h (S := Bool) (V := Unit) (fun a v => ⟨[(1, HV.fptr [HV.int .i64 p0.1, HV.int .i64 p0.2.1, slE eFromLabelTo p0.2.2] 0), (19, HV.bool a)], []⟩) (fun a4 w5 h => ?_) (fun k6 h => ?_)
  ·refine AW.cond rfl (fun hc => ?_) (fun hc => ?_)
   ·have h := ifT hc h
    refine AW.rgs rfl fun K hK => ?_
    refine mv rfl rfl ?_
    refine b_fin hK (s' := ⟨[(2, HV.int .i64 4)], []⟩) (le_q rfl rfl) ?_
    clear hK K
    refine AW.ret ?_
    have h := Option.some.inj h
    subst h
    exact ret_pure (hs := [HV.int .i64 4]) (q := HV.int .i64 4) (.inr rfl) (resT rfl rfl) rfl trivial
   have h := ifF (bF' hc) h
   refine AW.skip ?_
   refine AW.rgs rfl fun K hK => ?_
   refine b_op rfl (o_call rfl rfl rfl rfl (ACallD.pure0 (w_graph_by_api_Edge )) ?_)
   refine mv rfl rfl ?_
   refine b_fin hK (s' := ⟨[(1, HV.fptr [HV.int .i64 p0.1, HV.int .i64 p0.2.1, slE eFromLabelTo p0.2.2] 0), (3, HV.fn (.func 92) [] [HV.fptr [HV.fn (.func 72) [] []] 0])], []⟩) (le_q rfl rfl) ?_
   clear hK K
   refine AW.seq ?_
   refine AW.rgs rfl fun K hK => ?_
   refine bv rfl (v_fieldAddrF fo24_2 rfl) ?_
   refine bv rfl (v_loadF ty22 rfl (l_lit rfl rfl)) ?_
   refine bv rfl (v_lenF rfl rfl ty22 rfl) ?_
   refine mv rfl rfl ?_
   refine b_fin hK (s' := ⟨[(1, HV.fptr [HV.int .i64 p0.1, HV.int .i64 p0.2.1, slE eFromLabelTo p0.2.2] 0), (3, HV.fn (.func 92) [] [HV.fptr [HV.fn (.func 72) [] []] 0]), (31, slE eFromLabelTo p0.2.2), (32, HV.int .i64 ((p0.2.2).length : Int)), (33, HV.int .i64 0)], []⟩) (le_q rfl rfl) ?_
   clear hK K
   refine AW.lpR h (by first | exact up_then | exact up_to) (S := Int) (V := Unit) (fun a v => ⟨[(1, HV.fptr [HV.int .i64 p0.1, HV.int .i64 p0.2.1, slE eFromLabelTo p0.2.2] 0), (3, HV.fn (.func 92) [] [HV.fptr [HV.fn (.func 72) [] []] 0]), (31, slE eFromLabelTo p0.2.2), (32, HV.int .i64 ((p0.2.2).length : Int)), (33, HV.int .i64 a)], []⟩) ?_ (X := Unit) (W := Unit) (fun a v => ⟨[], []⟩) (fun a27 w28 h => ?_) (fun a7 w8 st9 h hr10=> ?_)
   ·exact to_le (s' := ⟨[(1, HV.fptr [HV.int .i64 p0.1, HV.int .i64 p0.2.1, slE eFromLabelTo p0.2.2] 0), (3, HV.fn (.func 92) [] [HV.fptr [HV.fn (.func 72) [] []] 0]), (31, slE eFromLabelTo p0.2.2), (32, HV.int .i64 ((p0.2.2).length : Int)), (33, HV.int .i64 0)], []⟩) (AS.le_of ⟨rfl, rfl, rfl, rfl, rfl, trivial⟩ trivial) ⟨(), rfl⟩
   ·refine AW.rgs rfl fun K hK => ?_
    refine mv rfl rfl ?_
    refine b_fin hK (s' := ⟨[(2, HV.int .i64 0)], []⟩) (le_q rfl rfl) ?_
    clear hK K
    refine AW.ret ?_
    have h := Option.some.inj h
    subst h
    exact ret_pure (hs := [HV.int .i64 0]) (q := HV.int .i64 0) (.inr rfl) (resT rfl rfl) rfl trivial
   refine AW.rgs rfl fun K hK => ?_
   refine bv rfl (v_bin rfl rfl b_lss) ?_
   refine b_fin hK (s' := ⟨[(1, HV.fptr [HV.int .i64 p0.1, HV.int .i64 p0.2.1, slE eFromLabelTo p0.2.2] 0), (3, HV.fn (.func 92) [] [HV.fptr [HV.fn (.func 72) [] []] 0]), (31, slE eFromLabelTo p0.2.2), (32, HV.int .i64 ((p0.2.2).length : Int)), (33, HV.int .i64 a7), (34, HV.bool (decide (a7 < ((p0.2.2).length : Int))))], []⟩) (le_q rfl rfl) ?_
   clear hK K
   refine AW.cseq rfl (fun hc => ?_) (fun hc => ?_)
   ·have hc := of_decide_eq_true hc
    have h := ifT hc h
    refine AW.skip ?_
    refine AW.seq (AW.block ?_)
    refine AW.rgs rfl fun K hK => ?_
    refine mv rfl rfl ?_
    obtain ⟨x11, h12, h⟩ := bS h
    refine bv rfl (v_idxF ty22 es22 rfl rfl (idx_lt h12)) ?_
    refine bv rfl (v_loadF ty53 rfl (l_agg eFromLabelTo h12 rfl rfl)) ?_
    refine b_op rfl (o_alloc (fid := 51) (zs := [HV.int .i64 0, HV.int .i64 0, HV.int .i64 0]) 51005 rfl rfl ty53 rfl (fun v13 => ?_))
    refine mv rfl rfl ?_
    refine b_op rfl (o_store (cs := [HV.int .i64 x11.1, HV.int .i64 x11.2.1, HV.int .i64 x11.2.2]) (zs := [HV.int .i64 x11.1, HV.int .i64 x11.2.1, HV.int .i64 x11.2.2]) rfl rfl rfl ty53 rfl rfl rfl rfl rfl ?_)
    refine b_fin hK (s' := ⟨[(1, HV.fptr [HV.int .i64 p0.1, HV.int .i64 p0.2.1, slE eFromLabelTo p0.2.2] 0), (3, HV.fn (.func 92) [] [HV.fptr [HV.fn (.func 72) [] []] 0]), (4, HV.int .i64 a7), (5, HV.ptr 51005 v13 0), (31, slE eFromLabelTo p0.2.2), (32, HV.int .i64 ((p0.2.2).length : Int)), (33, HV.int .i64 a7)], [(51005, v13, .arr 3 53 [HV.int .i64 x11.1, HV.int .i64 x11.2.1, HV.int .i64 x11.2.2])]⟩) (le_q rfl rfl) ?_
    clear hK K
    refine AW.seq ?_
    refine AW.seqJ h (S := Bool) (V := Unit) (fun a v => ⟨[(1, HV.fptr [HV.int .i64 p0.1, HV.int .i64 p0.2.1, slE eFromLabelTo p0.2.2] 0), (3, HV.fn (.func 92) [] [HV.fptr [HV.fn (.func 72) [] []] 0]), (4, HV.int .i64 a7), (5, HV.ptr 51005 v13 0), (31, slE eFromLabelTo p0.2.2), (32, HV.int .i64 ((p0.2.2).length : Int)), (33, HV.int .i64 a7), (62, HV.bool a)], [(51005, v13, .arr 3 53 [HV.int .i64 x11.1, HV.int .i64 x11.2.1, HV.int .i64 x11.2.2])]⟩) (fun a14 w15 h => ?_) (fun k16 h => ?_)
    ·refine AW.cond rfl (fun hc => ?_) (fun hc => ?_)
     ·have h := ifT hc h
      refine AW.rgs rfl fun K hK => ?_
      refine mv rfl rfl ?_
      refine b_fin hK (s' := ⟨[(2, HV.int .i64 2)], []⟩) (le_q rfl rfl) ?_
      clear hK K
      have h := hr10 _ h
      refine AW.ret ?_
      have h := Option.some.inj h
      subst h
      exact ret_pure (hs := [HV.int .i64 2]) (q := HV.int .i64 2) (.inr rfl) (resT rfl rfl) rfl trivial
     have h := ifF (bF' hc) h
     refine AW.skip ?_
     refine AW.seqJ h (S := Bool) (V := Unit) (fun a v => ⟨[(1, HV.fptr [HV.int .i64 p0.1, HV.int .i64 p0.2.1, slE eFromLabelTo p0.2.2] 0), (3, HV.fn (.func 92) [] [HV.fptr [HV.fn (.func 72) [] []] 0]), (31, slE eFromLabelTo p0.2.2), (32, HV.int .i64 ((p0.2.2).length : Int)), (33, HV.int .i64 a7), (76, HV.bool a)], []⟩) (fun a17 w18 h => ?_) (fun k19 h => ?_)
     ·refine AW.cond rfl (fun hc => ?_) (fun hc => ?_)
      ·have h := ifT hc h
       refine AW.rgs rfl fun K hK => ?_
       refine mv rfl rfl ?_
       refine b_fin hK (s' := ⟨[(2, HV.int .i64 10)], []⟩) (le_q rfl rfl) ?_
       clear hK K
       have h := hr10 _ h
       refine AW.ret ?_
       have h := Option.some.inj h
       subst h
       exact ret_pure (hs := [HV.int .i64 10]) (q := HV.int .i64 10) (.inr rfl) (resT rfl rfl) rfl trivial
      have h := ifF (bF' hc) h
      refine AW.skip ?_
      refine AW.rg rfl fun K hK => ?_
      refine bv rfl (v_bin rfl rfl b_add) ?_
      refine mv rfl rfl ?_
      refine b_nil (hK _ ?_)
      clear hK K
      exact to_le (s' := ⟨[(1, HV.fptr [HV.int .i64 p0.1, HV.int .i64 p0.2.1, slE eFromLabelTo p0.2.2] 0), (3, HV.fn (.func 92) [] [HV.fptr [HV.fn (.func 72) [] []] 0]), (31, slE eFromLabelTo p0.2.2), (32, HV.int .i64 ((p0.2.2).length : Int)), (33, HV.int .i64 (IntKind.wrap .i64 (a7 + 1)))], []⟩) (AS.le_of ⟨rfl, rfl, rfl, rfl, rfl, trivial⟩ trivial) ⟨IntKind.wrap .i64 (a7 + 1), (), h, rfl⟩
     refine AW.dg 14 follows rfl rfl fun K hK => ?_
     refine sm rfl rfl ?_
     refine sv rfl (v_bin rfl rfl b_gtr) ?_
     refine sm rfl rfl ?_
     by_cases hg24 : 0 < a7
     ·have h := ifT hg24 h
      refine s_T rfl rfl rfl rfl rfl (decide_eq_true hg24) (ops_val rfl (mv_val rfl rfl).2 ?_)
      refine s_T rfl rfl rfl rfl rfl rfl (ops_val rfl (v_fieldAddrF fo24_2 rfl) ?_)
      refine s_T rfl rfl rfl rfl rfl rfl (ops_val rfl (v_loadF ty22 rfl (l_lit rfl rfl)) ?_)
      refine s_T rfl rfl rfl rfl rfl rfl (ops_val rfl (mv_val rfl rfl).2 ?_)
      refine s_T rfl rfl rfl rfl rfl rfl (ops_val rfl (v_bin rfl rfl b_sub) ?_)
      obtain ⟨x20, h21, h⟩ := bS h
      refine s_T rfl rfl rfl rfl rfl rfl (ops_val rfl (v_idxF ty22 es22 rfl rfl (idx_lt h21)) ?_)
      refine s_T rfl rfl rfl rfl rfl rfl (ops_val rfl (v_loadF ty53 rfl (l_agg eFromLabelTo h21 rfl rfl)) ?_)
      refine s_T rfl rfl rfl rfl rfl rfl (ops_val rfl (v_loadP ty53 rfl rfl (l_litA rfl (Nat.le_of_ble_eq_true rfl) rfl)) ?_)
      obtain ⟨x22, h23, h⟩ := bS h
      refine s_T rfl rfl rfl rfl rfl rfl (ops_call rfl rfl rfl rfl (ACallD.pure0 (w_graph_by_api_Edge_1 h23)) ?_)
      refine s_T rfl rfl rfl rfl rfl rfl (ops_val rfl (v_bin rfl rfl b_geq) ?_)
      refine sv rfl (v_pickT rfl rfl rfl) ?_
      refine s_nil ?_
      refine b_nil (hK _ ?_)
      clear hK K
      exact to_le (s' := ⟨[(1, HV.fptr [HV.int .i64 p0.1, HV.int .i64 p0.2.1, slE eFromLabelTo p0.2.2] 0), (3, HV.fn (.func 92) [] [HV.fptr [HV.fn (.func 72) [] []] 0]), (31, slE eFromLabelTo p0.2.2), (32, HV.int .i64 ((p0.2.2).length : Int)), (33, HV.int .i64 a7), (76, HV.bool (decide (0 ≤ x22)))], []⟩) (AS.le_of ⟨rfl, rfl, rfl, rfl, rfl, rfl, trivial⟩ trivial) ⟨decide (0 ≤ x22), (), h, rfl⟩
     have h := ifF hg24 h
     refine s_F rfl rfl rfl rfl rfl (decide_eq_false hg24) ?_
     refine s_F rfl rfl rfl rfl rfl rfl ?_
     refine s_F rfl rfl rfl rfl rfl rfl ?_
     refine s_F rfl rfl rfl rfl rfl rfl ?_
     refine s_F rfl rfl rfl rfl rfl rfl ?_
     refine s_F rfl rfl rfl rfl rfl rfl ?_
     refine s_F rfl rfl rfl rfl rfl rfl ?_
     refine s_F rfl rfl rfl rfl rfl rfl ?_
     refine s_F rfl rfl rfl rfl rfl rfl ?_
     refine s_F rfl rfl rfl rfl rfl rfl ?_
     refine sv rfl (v_pickF rfl rfl rfl) ?_
     refine s_nil ?_
     refine b_nil (hK _ ?_)
     clear hK K
     exact to_le (s' := ⟨[(1, HV.fptr [HV.int .i64 p0.1, HV.int .i64 p0.2.1, slE eFromLabelTo p0.2.2] 0), (3, HV.fn (.func 92) [] [HV.fptr [HV.fn (.func 72) [] []] 0]), (31, slE eFromLabelTo p0.2.2), (32, HV.int .i64 ((p0.2.2).length : Int)), (33, HV.int .i64 a7), (76, HV.bool false)], []⟩) (AS.le_of ⟨rfl, rfl, rfl, rfl, rfl, rfl, trivial⟩ trivial) ⟨false, (), h, rfl⟩
    refine AW.rg rfl fun K hK => ?_
    refine bv rfl (v_fieldAddrP fo53_0 rfl rfl) ?_
    refine bv rfl (v_loadP ty3 rfl rfl (l_lit rfl rfl)) ?_
    refine bv rfl (v_fieldAddrP fo53_1 rfl rfl) ?_
    refine bv rfl (v_loadP ty3 rfl rfl (l_lit rfl rfl)) ?_
    refine bv rfl (v_fieldAddrP fo53_2 rfl rfl) ?_
    refine bv rfl (v_loadP ty3 rfl rfl (l_lit rfl rfl)) ?_
    refine bv rfl (v_min3 rfl rfl rfl rfl) ?_
    refine bv rfl (v_bin rfl rfl b_lss) ?_
    refine mv rfl rfl ?_
    by_cases hg26 : (min (min x11.1 x11.2.1) x11.2.2) < 0
    ·have h := ifT hg26 h
     refine b_F rfl rfl rfl rfl rfl (decide_eq_true hg26) ?_
     refine b_F rfl rfl rfl rfl rfl rfl ?_
     refine b_F rfl rfl rfl rfl rfl rfl ?_
     refine b_F rfl rfl rfl rfl rfl rfl ?_
     refine b_F rfl rfl rfl rfl rfl rfl ?_
     refine b_F rfl rfl rfl rfl rfl rfl ?_
     refine b_F rfl rfl rfl rfl rfl rfl ?_
     refine b_F rfl rfl rfl rfl rfl rfl ?_
     refine bv rfl (v_pickT rfl rfl rfl) ?_
     refine mv rfl rfl ?_
     refine b_F rfl rfl rfl rfl rfl rfl ?_
     refine b_F rfl rfl rfl rfl rfl rfl ?_
     refine b_F rfl rfl rfl rfl rfl rfl ?_
     refine b_F rfl rfl rfl rfl rfl rfl ?_
     refine b_F rfl rfl rfl rfl rfl rfl ?_
     refine bv rfl (v_pickT rfl rfl rfl) ?_
     refine b_nil (hK _ ?_)
     clear hK K
     exact to_le (s' := ⟨[(1, HV.fptr [HV.int .i64 p0.1, HV.int .i64 p0.2.1, slE eFromLabelTo p0.2.2] 0), (3, HV.fn (.func 92) [] [HV.fptr [HV.fn (.func 72) [] []] 0]), (4, HV.int .i64 a7), (5, HV.ptr 51005 v13 0), (31, slE eFromLabelTo p0.2.2), (32, HV.int .i64 ((p0.2.2).length : Int)), (33, HV.int .i64 a7), (62, HV.bool true)], [(51005, v13, .arr 3 53 [HV.int .i64 x11.1, HV.int .i64 x11.2.1, HV.int .i64 x11.2.2])]⟩) (AS.le_of ⟨rfl, rfl, rfl, rfl, rfl, rfl, rfl, rfl, trivial⟩ ⟨rfl, trivial⟩) ⟨true, (), h, rfl⟩
    have h := ifF hg26 h
    refine b_T rfl rfl rfl rfl (decide_eq_false hg26) (o_val rfl (v_fieldAddrP fo53_0 rfl rfl) ?_)
    refine b_T rfl rfl rfl rfl rfl (o_val rfl (v_loadP ty3 rfl rfl (l_lit rfl rfl)) ?_)
    refine b_T rfl rfl rfl rfl rfl (o_val rfl (v_fieldAddrP fo53_2 rfl rfl) ?_)
    refine b_T rfl rfl rfl rfl rfl (o_val rfl (v_loadP ty3 rfl rfl (l_lit rfl rfl)) ?_)
    refine b_T rfl rfl rfl rfl rfl (o_val rfl (v_max rfl rfl rfl) ?_)
    refine b_T rfl rfl rfl rfl rfl (o_val rfl (v_fieldAddrF fo24_1 rfl) ?_)
    refine b_T rfl rfl rfl rfl rfl (o_val rfl (v_loadF ty3 rfl (l_lit rfl rfl)) ?_)
    refine b_T rfl rfl rfl rfl rfl (o_val rfl (v_bin rfl rfl b_geq) ?_)
    refine bv rfl (v_pickF rfl rfl rfl) ?_
    refine mv rfl rfl ?_
    by_cases hg25 : p0.2.1 ≤ (max x11.1 x11.2.2)
    ·have h := ifT hg25 h
     refine b_F rfl rfl rfl rfl rfl (decide_eq_true hg25) ?_
     refine b_F rfl rfl rfl rfl rfl rfl ?_
     refine b_F rfl rfl rfl rfl rfl rfl ?_
     refine b_F rfl rfl rfl rfl rfl rfl ?_
     refine b_F rfl rfl rfl rfl rfl rfl ?_
     refine bv rfl (v_pickT rfl rfl rfl) ?_
     refine b_nil (hK _ ?_)
     clear hK K
     exact to_le (s' := ⟨[(1, HV.fptr [HV.int .i64 p0.1, HV.int .i64 p0.2.1, slE eFromLabelTo p0.2.2] 0), (3, HV.fn (.func 92) [] [HV.fptr [HV.fn (.func 72) [] []] 0]), (4, HV.int .i64 a7), (5, HV.ptr 51005 v13 0), (31, slE eFromLabelTo p0.2.2), (32, HV.int .i64 ((p0.2.2).length : Int)), (33, HV.int .i64 a7), (62, HV.bool true)], [(51005, v13, .arr 3 53 [HV.int .i64 x11.1, HV.int .i64 x11.2.1, HV.int .i64 x11.2.2])]⟩) (AS.le_of ⟨rfl, rfl, rfl, rfl, rfl, rfl, rfl, rfl, trivial⟩ ⟨rfl, trivial⟩) ⟨true, (), h, rfl⟩
    have h := ifF hg25 h
    refine b_T rfl rfl rfl rfl (decide_eq_false hg25) (o_val rfl (v_fieldAddrP fo53_1 rfl rfl) ?_)
    refine b_T rfl rfl rfl rfl rfl (o_val rfl (v_loadP ty3 rfl rfl (l_lit rfl rfl)) ?_)
    refine b_T rfl rfl rfl rfl rfl (o_val rfl (v_fieldAddrF fo24_0 rfl) ?_)
    refine b_T rfl rfl rfl rfl rfl (o_val rfl (v_loadF ty3 rfl (l_lit rfl rfl)) ?_)
    refine b_T rfl rfl rfl rfl rfl (o_val rfl (v_bin rfl rfl b_geq) ?_)
    refine bv rfl (v_pickF rfl rfl rfl) ?_
    refine b_nil (hK _ ?_)
    clear hK K
    exact to_le (s' := ⟨[(1, HV.fptr [HV.int .i64 p0.1, HV.int .i64 p0.2.1, slE eFromLabelTo p0.2.2] 0), (3, HV.fn (.func 92) [] [HV.fptr [HV.fn (.func 72) [] []] 0]), (4, HV.int .i64 a7), (5, HV.ptr 51005 v13 0), (31, slE eFromLabelTo p0.2.2), (32, HV.int .i64 ((p0.2.2).length : Int)), (33, HV.int .i64 a7), (62, HV.bool (decide (p0.1 ≤ x11.2.1)))], [(51005, v13, .arr 3 53 [HV.int .i64 x11.1, HV.int .i64 x11.2.1, HV.int .i64 x11.2.2])]⟩) (AS.le_of ⟨rfl, rfl, rfl, rfl, rfl, rfl, rfl, rfl, trivial⟩ ⟨rfl, trivial⟩) ⟨decide (p0.1 ≤ x11.2.1), (), h, rfl⟩
   have hc := of_decide_eq_false hc
   have h := ifF hc h
   refine AW.exit ?_
   exact to_le (s' := ⟨[], []⟩) (AS.le_of trivial trivial) ⟨(), (), h, rfl⟩
  refine AW.rg rfl fun K hK => ?_
  refine bv rfl (v_fieldAddrF fo24_1 rfl) ?_
  refine bv rfl (v_loadF ty3 rfl (l_lit rfl rfl)) ?_
  refine bv rfl (v_bin rfl rfl b_gtr) ?_
  refine mv rfl rfl ?_
  by_cases hg29 : 64 < p0.2.1
  ·have h := ifT hg29 h
   refine b_F rfl rfl rfl rfl rfl (decide_eq_true hg29) ?_
   refine b_F rfl rfl rfl rfl rfl rfl ?_
   refine b_F rfl rfl rfl rfl rfl rfl ?_
   refine b_F rfl rfl rfl rfl rfl rfl ?_
   refine bv rfl (v_pickT rfl rfl rfl) ?_
   refine mv rfl rfl ?_
   refine b_nil (hK _ ?_)
   clear hK K
   exact to_le (s' := ⟨[(1, HV.fptr [HV.int .i64 p0.1, HV.int .i64 p0.2.1, slE eFromLabelTo p0.2.2] 0), (19, HV.bool true)], []⟩) (AS.le_of ⟨rfl, rfl, trivial⟩ trivial) ⟨true, (), h, rfl⟩
  have h := ifF hg29 h
  refine b_T rfl rfl rfl rfl (decide_eq_false hg29) (o_val rfl (v_fieldAddrF fo24_2 rfl) ?_)
  refine b_T rfl rfl rfl rfl rfl (o_val rfl (v_loadF ty22 rfl (l_lit rfl rfl)) ?_)
  refine b_T rfl rfl rfl rfl rfl (o_val rfl (v_lenF rfl rfl ty22 rfl) ?_)
  refine b_T rfl rfl rfl rfl rfl (o_val rfl (v_bin rfl rfl b_gtr) ?_)
  refine bv rfl (v_pickF rfl rfl rfl) ?_
  refine mv rfl rfl ?_
  refine b_nil (hK _ ?_)
  clear hK K
  exact to_le (s' := ⟨[(1, HV.fptr [HV.int .i64 p0.1, HV.int .i64 p0.2.1, slE eFromLabelTo p0.2.2] 0), (19, HV.bool (decide (1024 < ((p0.2.2).length : Int))))], []⟩) (AS.le_of ⟨rfl, rfl, trivial⟩ trivial) ⟨decide (1024 < ((p0.2.2).length : Int)), (), h, rfl⟩
 refine AW.rg rfl fun K hK => ?_
 refine bv rfl (v_fieldAddrF fo24_0 rfl) ?_
 refine bv rfl (v_loadF ty3 rfl (l_lit rfl rfl)) ?_
 refine bv rfl (v_bin rfl rfl b_lss) ?_
 refine mv rfl rfl ?_
 by_cases hg30 : p0.1 < 1
 ·have h := ifT hg30 h
  refine b_F rfl rfl rfl rfl rfl (decide_eq_true hg30) ?_
  refine b_F rfl rfl rfl rfl rfl rfl ?_
  refine b_F rfl rfl rfl rfl rfl rfl ?_
  refine bv rfl (v_pickT rfl rfl rfl) ?_
  refine mv rfl rfl ?_
  refine b_nil (hK _ ?_)
  clear hK K
  exact to_le (s' := ⟨[(1, HV.fptr [HV.int .i64 p0.1, HV.int .i64 p0.2.1, slE eFromLabelTo p0.2.2] 0), (6, HV.bool true)], []⟩) (AS.le_of ⟨rfl, rfl, trivial⟩ trivial) ⟨true, (), h, rfl⟩
 have h := ifF hg30 h
 refine b_T rfl rfl rfl rfl (decide_eq_false hg30) (o_val rfl (v_fieldAddrF fo24_0 rfl) ?_)
 refine b_T rfl rfl rfl rfl rfl (o_val rfl (v_loadF ty3 rfl (l_lit rfl rfl)) ?_)
 refine b_T rfl rfl rfl rfl rfl (o_val rfl (v_bin rfl rfl b_gtr) ?_)
 refine bv rfl (v_pickF rfl rfl rfl) ?_
 refine mv rfl rfl ?_
 refine b_nil (hK _ ?_)
 clear hK K
 exact to_le (s' := ⟨[(1, HV.fptr [HV.int .i64 p0.1, HV.int .i64 p0.2.1, slE eFromLabelTo p0.2.2] 0), (6, HV.bool (decide (256 < p0.1)))], []⟩) (AS.le_of ⟨rfl, rfl, trivial⟩ trivial) ⟨decide (256 < p0.1), (), h, rfl⟩

set_option maxHeartbeats 1600000 in
set_option maxRecDepth 100000 in
theorem w_syncmark_check {p0 : TLabelsStatesEdges} {p1 : List UInt8} {r : Int} (h : m_syncmark_check p0 p1 = some r) : Pure Try.prog 37 [HV.agg [HV.int .i64 p0.1, HV.int .i64 p0.2.1, slE eFromLabelTo p0.2.2], HV.str p1] (· = HV.int .i64 r) := by
 unfold m_syncmark_check at h
 refine Pure.of_body Try.func37 rfl rfl (Nat.le_of_ble_eq_true rfl) fun hf => ?_
 unfold Try.f37
 dsimp only [enumS, Nat.reduceAdd]
 refine AW.rgs rfl fun K hK => ?_
 refine b_op rfl (o_box rfl rfl rfl ?_)
 refine mv rfl rfl ?_
 refine b_fin hK (s' := ⟨[(1, HV.str p1), (2, HV.fptr [HV.int .i64 p0.1, HV.int .i64 p0.2.1, slE eFromLabelTo p0.2.2] 0)], []⟩) (le_q rfl rfl) ?_
 clear hK K
 refine AW.seq (AW.block ?_)
 refine AW.rgs rfl fun K hK => ?_
 refine bv rfl (v_loadF ty24 rfl (l_litA rfl (Nat.le_of_ble_eq_true rfl) rfl)) ?_
 obtain ⟨x1, h2, h⟩ := bS h
 refine b_op rfl (o_call rfl rfl rfl rfl (ACallD.pure0 (w_graph_Check h2)) ?_)
 refine bv rfl (v_bin rfl rfl b_neq) ?_
 refine mv rfl rfl ?_
 refine b_fin hK (s' := ⟨[(1, HV.str p1), (2, HV.fptr [HV.int .i64 p0.1, HV.int .i64 p0.2.1, slE eFromLabelTo p0.2.2] 0), (5, HV.bool (decide (x1 ≠ 0)))], []⟩) (le_q rfl rfl) ?_
 clear hK K
 refine AW.cond rfl (fun hc => ?_) (fun hc => ?_)
 ·have hc := of_decide_eq_true hc
  have h := ifT hc h
  refine AW.rgs rfl fun K hK => ?_
  refine mv rfl rfl ?_
  refine b_fin hK (s' := ⟨[(4, HV.int .i64 1)], []⟩) (le_q rfl rfl) ?_
  clear hK K
  refine AW.ret ?_
  have h := Option.some.inj h
  subst h
  exact ret_pure (hs := [HV.int .i64 1]) (q := HV.int .i64 1) (.inr rfl) (resT rfl rfl) rfl trivial
 have hc := of_decide_eq_false hc
 have h := ifF hc h
 refine AW.rgs rfl fun K hK => ?_
 refine bv rfl (v_fieldAddrF fo24_0 rfl) ?_
 refine bv rfl (v_loadF ty3 rfl (l_lit rfl rfl)) ?_
 refine bv rfl (v_bin rfl rfl b_gtr) ?_
 refine mv rfl rfl ?_
 refine b_fin hK (s' := ⟨[(1, HV.str p1), (2, HV.fptr [HV.int .i64 p0.1, HV.int .i64 p0.2.1, slE eFromLabelTo p0.2.2] 0), (9, HV.bool (decide (16 < p0.1)))], []⟩) (le_q rfl rfl) ?_
 clear hK K
 refine AW.cond rfl (fun hc => ?_) (fun hc => ?_)
 ·have hc := of_decide_eq_true hc
  have h := ifT hc h
  refine AW.rgs rfl fun K hK => ?_
  refine mv rfl rfl ?_
  refine b_fin hK (s' := ⟨[(4, HV.int .i64 12)], []⟩) (le_q rfl rfl) ?_
  clear hK K
  refine AW.ret ?_
  have h := Option.some.inj h
  subst h
  exact ret_pure (hs := [HV.int .i64 12]) (q := HV.int .i64 12) (.inr rfl) (resT rfl rfl) rfl trivial
 have hc := of_decide_eq_false hc
 have h := ifF hc h
 refine AW.rgs rfl fun K hK => ?_
 refine mv rfl rfl ?_
 refine bv rfl (v_bin rfl rfl b_seql) ?_
 refine mv rfl rfl ?_
 refine b_fin hK (s' := ⟨[(1, HV.str p1), (2, HV.fptr [HV.int .i64 p0.1, HV.int .i64 p0.2.1, slE eFromLabelTo p0.2.2] 0), (13, HV.bool (decide (p1 = ([] : List UInt8))))], []⟩) (le_q rfl rfl) ?_
 clear hK K
 refine AW.cond rfl (fun hc => ?_) (fun hc => ?_)
 ·have hc := of_decide_eq_true hc
  have h := ifT hc h
  refine AW.rgs rfl fun K hK => ?_
  refine mv rfl rfl ?_
  refine b_fin hK (s' := ⟨[(4, HV.int .i64 5)], []⟩) (le_q rfl rfl) ?_
  clear hK K
  refine AW.ret ?_
  have h := Option.some.inj h
  subst h
  exact ret_pure (hs := [HV.int .i64 5]) (q := HV.int .i64 5) (.inr rfl) (resT rfl rfl) rfl trivial
 have hc := of_decide_eq_false hc
 have h := ifF hc h
 refine AW.rgs rfl fun K hK => ?_
 refine mv rfl rfl ?_
 refine bv rfl (v_lenS rfl rfl ty9 rfl) ?_
 refine bv rfl (v_bin rfl rfl b_gtr) ?_
 refine mv rfl rfl ?_
 refine b_fin hK (s' := ⟨[(1, HV.str p1), (2, HV.fptr [HV.int .i64 p0.1, HV.int .i64 p0.2.1, slE eFromLabelTo p0.2.2] 0), (16, HV.bool (decide (32 < ((p1).length : Int))))], []⟩) (le_q rfl rfl) ?_
 clear hK K
 refine AW.cond rfl (fun hc => ?_) (fun hc => ?_)
 ·have hc := of_decide_eq_true hc
  have h := ifT hc h
  refine AW.rgs rfl fun K hK => ?_
  refine mv rfl rfl ?_
  refine b_fin hK (s' := ⟨[(4, HV.int .i64 4)], []⟩) (le_q rfl rfl) ?_
  clear hK K
  refine AW.ret ?_
  have h := Option.some.inj h
  subst h
  exact ret_pure (hs := [HV.int .i64 4]) (q := HV.int .i64 4) (.inr rfl) (resT rfl rfl) rfl trivial
 have hc := of_decide_eq_false hc
 have h := ifF hc h
 refine AW.skip ?_
 refine AW.rgs rfl fun K hK => ?_
 refine bv rfl (v_fieldAddrF fo24_0 rfl) ?_
 refine bv rfl (v_loadF ty3 rfl (l_lit rfl rfl)) ?_
 refine mv rfl rfl ?_
 obtain ⟨x3, h4, h⟩ := bS h
 refine b_op rfl (o_call rfl rfl rfl rfl (ACallD.pure0 (w_word_Check h4)) ?_)
 refine mv rfl rfl ?_
 refine b_fin hK (s' := ⟨[(4, HV.int .i64 x3)], []⟩) (le_q rfl rfl) ?_
 clear hK K
 refine AW.ret ?_
 have h := Option.some.inj h
 subst h
 exact ret_pure (hs := [HV.int .i64 x3]) (q := HV.int .i64 x3) (.inr rfl) (resT rfl rfl) rfl trivial

set_option maxHeartbeats 1600000 in
set_option maxRecDepth 100000 in
theorem w_syncmark_checkNumber {p0 : TLabelsStatesEdges} {p1 : List UInt8} {p2 : Int} {r : Int} (h : m_syncmark_checkNumber p0 p1 p2 = some r) : Pure Try.prog 32 [HV.agg [HV.int .i64 p0.1, HV.int .i64 p0.2.1, slE eFromLabelTo p0.2.2], HV.str p1, HV.int .i64 p2] (· = HV.int .i64 r) := by
 unfold m_syncmark_checkNumber at h
 refine Pure.of_body Try.func32 rfl rfl (Nat.le_of_ble_eq_true rfl) fun hf => ?_
 unfold Try.f32
 dsimp only [enumS, Nat.reduceAdd]
 refine AW.rgs rfl fun K hK => ?_
 refine b_op rfl (o_box rfl rfl rfl ?_)
 refine mv rfl rfl ?_
 refine b_fin hK (s' := ⟨[(1, HV.str p1), (2, HV.int .i64 p2), (3, HV.fptr [HV.int .i64 p0.1, HV.int .i64 p0.2.1, slE eFromLabelTo p0.2.2] 0)], []⟩) (le_q rfl rfl) ?_
 clear hK K
 refine AW.seq ?_
 refine AW.rgs rfl fun K hK => ?_
 refine bv rfl (v_loadF ty24 rfl (l_litA rfl (Nat.le_of_ble_eq_true rfl) rfl)) ?_
 refine mv rfl rfl ?_
 obtain ⟨x1, h2, h⟩ := bS h
 refine b_op rfl (o_call rfl rfl rfl rfl (ACallD.pure0 (w_syncmark_check h2)) ?_)
 refine mv rfl rfl ?_
 refine b_fin hK (s' := ⟨[(2, HV.int .i64 p2), (7, HV.int .i64 x1)], []⟩) (le_q rfl rfl) ?_
 clear hK K
 refine AW.rgs rfl fun K hK => ?_
 refine mv rfl rfl ?_
 refine bv rfl (v_bin rfl rfl b_neq) ?_
 refine b_fin hK (s' := ⟨[(2, HV.int .i64 p2), (7, HV.int .i64 x1), (12, HV.bool (decide (x1 ≠ 0)))], []⟩) (le_q rfl rfl) ?_
 clear hK K
 refine AW.cond rfl (fun hc => ?_) (fun hc => ?_)
 ·have hc := of_decide_eq_true hc
  have h := ifT hc h
  refine AW.rgs rfl fun K hK => ?_
  refine mv rfl rfl ?_
  refine mv rfl rfl ?_
  refine b_fin hK (s' := ⟨[(6, HV.int .i64 x1)], []⟩) (le_q rfl rfl) ?_
  clear hK K
  refine AW.ret ?_
  have h := Option.some.inj h
  subst h
  exact ret_pure (hs := [HV.int .i64 x1]) (q := HV.int .i64 x1) (.inr rfl) (resT rfl rfl) rfl trivial
 have hc := of_decide_eq_false hc
 have h := ifF hc h
 refine AW.skip ?_
 refine AW.seq ?_
 refine AW.seqJ h (S := Bool) (V := Unit) (fun a v => ⟨[(19, HV.bool a)], []⟩) (fun a3 w4 h => ?_) (fun k5 h => ?_)
 ·refine AW.cond rfl (fun hc => ?_) (fun hc => ?_)
  ·have h := ifT hc h
   refine AW.rgs rfl fun K hK => ?_
   refine mv rfl rfl ?_
   refine b_fin hK (s' := ⟨[(6, HV.int .i64 2)], []⟩) (le_q rfl rfl) ?_
   clear hK K
   refine AW.ret ?_
   have h := Option.some.inj h
   subst h
   exact ret_pure (hs := [HV.int .i64 2]) (q := HV.int .i64 2) (.inr rfl) (resT rfl rfl) rfl trivial
  have h := ifF (bF' hc) h
  refine AW.skip ?_
  refine AW.rgs rfl fun K hK => ?_
  refine mv rfl rfl ?_
  refine b_fin hK (s' := ⟨[(6, HV.int .i64 0)], []⟩) (le_q rfl rfl) ?_
  clear hK K
  refine AW.ret ?_
  have h := Option.some.inj h
  subst h
  exact ret_pure (hs := [HV.int .i64 0]) (q := HV.int .i64 0) (.inr rfl) (resT rfl rfl) rfl trivial
 refine AW.rg rfl fun K hK => ?_
 refine mv rfl rfl ?_
 refine bv rfl (v_bin rfl rfl b_lss) ?_
 refine mv rfl rfl ?_
 by_cases hg6 : p2 < 0
 ·have h := ifT hg6 h
  refine b_F rfl rfl rfl rfl rfl (decide_eq_true hg6) ?_
  refine b_F rfl rfl rfl rfl rfl rfl ?_
  refine bv rfl (v_pickT rfl rfl rfl) ?_
  refine b_nil (hK _ ?_)
  clear hK K
  exact to_le (s' := ⟨[(19, HV.bool true)], []⟩) (AS.le_of ⟨rfl, trivial⟩ trivial) ⟨true, (), h, rfl⟩
 have h := ifF hg6 h
 refine b_T rfl rfl rfl rfl (decide_eq_false hg6) (o_val rfl (mv_val rfl rfl).2 ?_)
 refine b_T rfl rfl rfl rfl rfl (o_val rfl (v_bin rfl rfl b_gtr) ?_)
 refine bv rfl (v_pickF rfl rfl rfl) ?_
 refine b_nil (hK _ ?_)
 clear hK K
 exact to_le (s' := ⟨[(19, HV.bool (decide (4096 < p2)))], []⟩) (AS.le_of ⟨rfl, trivial⟩ trivial) ⟨decide (4096 < p2), (), h, rfl⟩

set_option maxHeartbeats 1600000 in
set_option maxRecDepth 100000 in
theorem w_syncmark_Valid {p0 : TLabelsStatesEdges} {p1 : List UInt8} {p2 : Int} {r : Bool × Int} (h : m_syncmark_Valid p0 p1 p2 = some r) : Pure Try.prog 10 [HV.agg [HV.int .i64 p0.1, HV.int .i64 p0.2.1, slE eFromLabelTo p0.2.2], HV.str p1, HV.int .i64 p2] (· = HV.tup [HV.bool r.1, HV.int .i64 r.2]) := by
 unfold m_syncmark_Valid at h
 refine Pure.of_body Try.func10 rfl rfl (Nat.le_of_ble_eq_true rfl) fun hf => ?_
 unfold Try.f10
 dsimp only [enumS, Nat.reduceAdd]
 refine AW.rgs rfl fun K hK => ?_
 refine b_op rfl (o_box rfl rfl rfl ?_)
 refine mv rfl rfl ?_
 refine mv rfl rfl ?_
 refine b_fin hK (s' := ⟨[(1, HV.str p1), (2, HV.int .i64 p2), (3, HV.fptr [HV.int .i64 p0.1, HV.int .i64 p0.2.1, slE eFromLabelTo p0.2.2] 0)], []⟩) (le_q rfl rfl) ?_
 clear hK K
 refine AW.seq ?_
 refine AW.rgs rfl fun K hK => ?_
 refine bv rfl (v_loadF ty24 rfl (l_litA rfl (Nat.le_of_ble_eq_true rfl) rfl)) ?_
 refine mv rfl rfl ?_
 refine mv rfl rfl ?_
 obtain ⟨x1, h2, h⟩ := bS h
 refine b_op rfl (o_call rfl rfl rfl rfl (ACallD.pure0 (w_syncmark_checkNumber h2)) ?_)
 refine mv rfl rfl ?_
 refine b_fin hK (s' := ⟨[(1, HV.str p1), (2, HV.int .i64 p2), (3, HV.fptr [HV.int .i64 p0.1, HV.int .i64 p0.2.1, slE eFromLabelTo p0.2.2] 0), (8, HV.int .i64 x1)], []⟩) (le_q rfl rfl) ?_
 clear hK K
 refine AW.rgs rfl fun K hK => ?_
 refine mv rfl rfl ?_
 refine bv rfl (v_bin rfl rfl b_neq) ?_
 refine b_fin hK (s' := ⟨[(1, HV.str p1), (2, HV.int .i64 p2), (3, HV.fptr [HV.int .i64 p0.1, HV.int .i64 p0.2.1, slE eFromLabelTo p0.2.2] 0), (8, HV.int .i64 x1), (16, HV.bool (decide (x1 ≠ 0)))], []⟩) (le_q rfl rfl) ?_
 clear hK K
 refine AW.cond rfl (fun hc => ?_) (fun hc => ?_)
 ·have hc := of_decide_eq_true hc
  have h := ifT hc h
  refine AW.rgs rfl fun K hK => ?_
  refine mv rfl rfl ?_
  refine mv rfl rfl ?_
  refine mv rfl rfl ?_
  refine b_fin hK (s' := ⟨[(6, HV.bool false), (7, HV.int .i64 x1)], []⟩) (le_q rfl rfl) ?_
  clear hK K
  refine AW.ret ?_
  have h := Option.some.inj h
  subst h
  exact ret_pure (hs := [HV.bool false, HV.int .i64 x1]) (q := HV.tup [HV.bool false, HV.int .i64 x1]) (.inr rfl) (resT rfl (resT rfl rfl)) rfl ⟨trivial, trivial, trivial⟩
 have hc := of_decide_eq_false hc
 have h := ifF hc h
 refine AW.skip ?_
 refine AW.rgs rfl fun K hK => ?_
 refine bv rfl (v_loadF ty24 rfl (l_litA rfl (Nat.le_of_ble_eq_true rfl) rfl)) ?_
 refine mv rfl rfl ?_
 refine mv rfl rfl ?_
 obtain ⟨x3, h4, h⟩ := bS h
 refine b_op rfl (o_call rfl rfl rfl rfl (ACallD.pure0 (w_syncmark_bad h4)) ?_)
 refine mv rfl rfl ?_
 refine bv rfl (v_extract rfl rfl) ?_
 refine bv rfl (v_extract rfl rfl) ?_
 refine mv rfl rfl ?_
 refine mv rfl rfl ?_
 refine b_fin hK (s' := ⟨[(10, HV.bool x3.2)], []⟩) (le_q rfl rfl) ?_
 clear hK K
 refine AW.rgs rfl fun K hK => ?_
 refine mv rfl rfl ?_
 refine bv rfl (v_not rfl) ?_
 refine mv rfl rfl ?_
 refine mv rfl rfl ?_
 refine b_fin hK (s' := ⟨[(6, HV.bool (!x3.2)), (7, HV.int .i64 0)], []⟩) (le_q rfl rfl) ?_
 clear hK K
 refine AW.ret ?_
 have h := Option.some.inj h
 subst h
 exact ret_pure (hs := [HV.bool (!x3.2), HV.int .i64 0]) (q := HV.tup [HV.bool (!x3.2), HV.int .i64 0]) (.inr rfl) (resT rfl (resT rfl rfl)) rfl ⟨trivial, trivial, trivial⟩

set_option maxHeartbeats 1600000 in
set_option maxRecDepth 100000 in
theorem w_syncmark_Bad {p0 : TLabelsStatesEdges} {p1 : List UInt8} {p2 : Int} {r : (List UInt8) × Bool × Int} (h : m_syncmark_Bad p0 p1 p2 = some r) : Pure Try.prog 12 [HV.agg [HV.int .i64 p0.1, HV.int .i64 p0.2.1, slE eFromLabelTo p0.2.2], HV.str p1, HV.int .i64 p2] (· = HV.tup [HV.str r.1, HV.bool r.2.1, HV.int .i64 r.2.2]) := by
 unfold m_syncmark_Bad at h
 refine Pure.of_body Try.func12 rfl rfl (Nat.le_of_ble_eq_true rfl) fun hf => ?_
 unfold Try.f12
 dsimp only [enumS, Nat.reduceAdd]
 refine AW.rgs rfl fun K hK => ?_
 refine b_op rfl (o_box rfl rfl rfl ?_)
 refine mv rfl rfl ?_
 refine mv rfl rfl ?_
 refine mv rfl rfl ?_
 refine b_fin hK (s' := ⟨[(1, HV.str p1), (2, HV.int .i64 p2), (3, HV.fptr [HV.int .i64 p0.1, HV.int .i64 p0.2.1, slE eFromLabelTo p0.2.2] 0)], []⟩) (le_q rfl rfl) ?_
 clear hK K
 refine AW.seq ?_
 refine AW.rgs rfl fun K hK => ?_
 refine bv rfl (v_loadF ty24 rfl (l_litA rfl (Nat.le_of_ble_eq_true rfl) rfl)) ?_
 refine mv rfl rfl ?_
 refine mv rfl rfl ?_
 obtain ⟨x1, h2, h⟩ := bS h
 refine b_op rfl (o_call rfl rfl rfl rfl (ACallD.pure0 (w_syncmark_checkNumber h2)) ?_)
 refine mv rfl rfl ?_
 refine b_fin hK (s' := ⟨[(1, HV.str p1), (2, HV.int .i64 p2), (3, HV.fptr [HV.int .i64 p0.1, HV.int .i64 p0.2.1, slE eFromLabelTo p0.2.2] 0), (9, HV.int .i64 x1)], []⟩) (le_q rfl rfl) ?_
 clear hK K
 refine AW.rgs rfl fun K hK => ?_
 refine mv rfl rfl ?_
 refine bv rfl (v_bin rfl rfl b_neq) ?_
 refine b_fin hK (s' := ⟨[(1, HV.str p1), (2, HV.int .i64 p2), (3, HV.fptr [HV.int .i64 p0.1, HV.int .i64 p0.2.1, slE eFromLabelTo p0.2.2] 0), (9, HV.int .i64 x1), (17, HV.bool (decide (x1 ≠ 0)))], []⟩) (le_q rfl rfl) ?_
 clear hK K
 refine AW.cond rfl (fun hc => ?_) (fun hc => ?_)
 ·have hc := of_decide_eq_true hc
  have h := ifT hc h
  refine AW.rgs rfl fun K hK => ?_
  refine mv rfl rfl ?_
  refine mv rfl rfl ?_
  refine mv rfl rfl ?_
  refine mv rfl rfl ?_
  refine b_fin hK (s' := ⟨[(6, HV.str ([] : List UInt8)), (7, HV.bool false), (8, HV.int .i64 x1)], []⟩) (le_q rfl rfl) ?_
  clear hK K
  refine AW.ret ?_
  have h := Option.some.inj h
  subst h
  exact ret_pure (hs := [HV.str ([] : List UInt8), HV.bool false, HV.int .i64 x1]) (q := HV.tup [HV.str ([] : List UInt8), HV.bool false, HV.int .i64 x1]) (.inr rfl) (resT rfl (resT rfl (resT rfl rfl))) rfl ⟨trivial, trivial, trivial, trivial⟩
 have hc := of_decide_eq_false hc
 have h := ifF hc h
 refine AW.skip ?_
 refine AW.rgs rfl fun K hK => ?_
 refine bv rfl (v_loadF ty24 rfl (l_litA rfl (Nat.le_of_ble_eq_true rfl) rfl)) ?_
 refine mv rfl rfl ?_
 refine mv rfl rfl ?_
 obtain ⟨x3, h4, h⟩ := bS h
 refine b_op rfl (o_call rfl rfl rfl rfl (ACallD.pure0 (w_syncmark_bad h4)) ?_)
 refine mv rfl rfl ?_
 refine bv rfl (v_extract rfl rfl) ?_
 refine bv rfl (v_extract rfl rfl) ?_
 refine mv rfl rfl ?_
 refine mv rfl rfl ?_
 refine b_fin hK (s' := ⟨[(10, HV.str x3.1), (11, HV.bool x3.2)], []⟩) (le_q rfl rfl) ?_
 clear hK K
 refine AW.rgs rfl fun K hK => ?_
 refine mv rfl rfl ?_
 refine mv rfl rfl ?_
 refine mv rfl rfl ?_
 refine mv rfl rfl ?_
 refine mv rfl rfl ?_
 refine b_fin hK (s' := ⟨[(6, HV.str x3.1), (7, HV.bool x3.2), (8, HV.int .i64 0)], []⟩) (le_q rfl rfl) ?_
 clear hK K
 refine AW.ret ?_
 have h := Option.some.inj h
 subst h
 exact ret_pure (hs := [HV.str x3.1, HV.bool x3.2, HV.int .i64 0]) (q := HV.tup [HV.str x3.1, HV.bool x3.2, HV.int .i64 0]) (.inr rfl) (resT rfl (resT rfl (resT rfl rfl))) rfl ⟨trivial, trivial, trivial, trivial⟩

end Go.AW

namespace Go.AW
open Go Go.Proofs
set_option linter.unusedVariables false
set_option maxHeartbeats 1600000 in
set_option maxRecDepth 100000 in
theorem w_language_check {p0 : TLabelsStatesEdges} {r : Int} (h : m_language_check p0 = some r) : Pure Try.prog 67 [HV.agg [HV.int .i64 p0.1, HV.int .i64 p0.2.1, slE eFromLabelTo p0.2.2]] (· = HV.int .i64 r) := by
 unfold m_language_check at h
 refine Pure.of_body Try.func67 rfl rfl (Nat.le_of_ble_eq_true rfl) fun hf => ?_
 unfold Try.f67
 dsimp only [enumS, Nat.reduceAdd]
 refine AW.rgs rfl fun K hK => ?_
 refine b_op rfl (o_box rfl rfl rfl ?_)
 refine mv rfl rfl ?_
 refine b_fin hK (s' := ⟨[(1, HV.fptr [HV.int .i64 p0.1, HV.int .i64 p0.2.1, slE eFromLabelTo p0.2.2] 0)], []⟩) (le_q rfl rfl) ?_
 clear hK K
 refine AW.seq (AW.block ?_)
 refine AW.rgs rfl fun K hK => ?_
 refine bv rfl (v_loadF ty24 rfl (l_litA rfl (Nat.le_of_ble_eq_true rfl) rfl)) ?_
 obtain ⟨x1, h2, h⟩ := bS h
 refine b_op rfl (o_call rfl rfl rfl rfl (ACallD.pure0 (w_graph_Check h2)) ?_)
 refine bv rfl (v_bin rfl rfl b_neq) ?_
 refine mv rfl rfl ?_
 refine b_fin hK (s' := ⟨[(1, HV.fptr [HV.int .i64 p0.1, HV.int .i64 p0.2.1, slE eFromLabelTo p0.2.2] 0), (3, HV.bool (decide (x1 ≠ 0)))], []⟩) (le_q rfl rfl) ?_
 clear hK K
 refine AW.cond rfl (fun hc => ?_) (fun hc => ?_)
 ·have hc := of_decide_eq_true hc
  have h := ifT hc h
  refine AW.rgs rfl fun K hK => ?_
  refine mv rfl rfl ?_
  refine b_fin hK (s' := ⟨[(2, HV.int .i64 1)], []⟩) (le_q rfl rfl) ?_
  clear hK K
  refine AW.ret ?_
  have h := Option.some.inj h
  subst h
  exact ret_pure (hs := [HV.int .i64 1]) (q := HV.int .i64 1) (.inr rfl) (resT rfl rfl) rfl trivial
 have hc := of_decide_eq_false hc
 have h := ifF hc h
 refine AW.rgs rfl fun K hK => ?_
 refine bv rfl (v_fieldAddrF fo24_0 rfl) ?_
 refine bv rfl (v_loadF ty3 rfl (l_lit rfl rfl)) ?_
 refine bv rfl (v_bin rfl rfl b_gtr) ?_
 refine mv rfl rfl ?_
 refine b_fin hK (s' := ⟨[(7, HV.bool (decide (16 < p0.1)))], []⟩) (le_q rfl rfl) ?_
 clear hK K
 refine AW.cond rfl (fun hc => ?_) (fun hc => ?_)
 ·have hc := of_decide_eq_true hc
  have h := ifT hc h
  refine AW.rgs rfl fun K hK => ?_
  refine mv rfl rfl ?_
  refine b_fin hK (s' := ⟨[(2, HV.int .i64 12)], []⟩) (le_q rfl rfl) ?_
  clear hK K
  refine AW.ret ?_
  have h := Option.some.inj h
  subst h
  exact ret_pure (hs := [HV.int .i64 12]) (q := HV.int .i64 12) (.inr rfl) (resT rfl rfl) rfl trivial
 have hc := of_decide_eq_false hc
 have h := ifF hc h
 refine AW.skip ?_
 refine AW.rgs rfl fun K hK => ?_
 refine mv rfl rfl ?_
 refine b_fin hK (s' := ⟨[(2, HV.int .i64 0)], []⟩) (le_q rfl rfl) ?_
 clear hK K
 refine AW.ret ?_
 have h := Option.some.inj h
 subst h
 exact ret_pure (hs := [HV.int .i64 0]) (q := HV.int .i64 0) (.inr rfl) (resT rfl rfl) rfl trivial

set_option maxHeartbeats 1600000 in
set_option maxRecDepth 100000 in
theorem w_language_spells {p0 : TLabelsStatesEdges} {p1 : List UInt8} {r : Int} (h : m_language_spells p0 p1 = some r) : Pure Try.prog 43 [HV.agg [HV.int .i64 p0.1, HV.int .i64 p0.2.1, slE eFromLabelTo p0.2.2], HV.str p1] (· = HV.int .i64 r) := by
 unfold m_language_spells at h
 refine Pure.of_body Try.func43 rfl rfl (Nat.le_of_ble_eq_true rfl) fun hf => ?_
 unfold Try.f43
 dsimp only [enumS, Nat.reduceAdd]
 refine AW.rgs rfl fun K hK => ?_
 refine b_op rfl (o_box rfl rfl rfl ?_)
 refine mv rfl rfl ?_
 refine b_fin hK (s' := ⟨[(1, HV.str p1), (2, HV.fptr [HV.int .i64 p0.1, HV.int .i64 p0.2.1, slE eFromLabelTo p0.2.2] 0)], []⟩) (le_q rfl rfl) ?_
 clear hK K
 refine AW.seq ?_
 refine AW.rgs rfl fun K hK => ?_
 refine bv rfl (v_loadF ty24 rfl (l_litA rfl (Nat.le_of_ble_eq_true rfl) rfl)) ?_
 obtain ⟨x1, h2, h⟩ := bS h
 refine b_op rfl (o_call rfl rfl rfl rfl (ACallD.pure0 (w_language_check h2)) ?_)
 refine mv rfl rfl ?_
 refine b_fin hK (s' := ⟨[(1, HV.str p1), (2, HV.fptr [HV.int .i64 p0.1, HV.int .i64 p0.2.1, slE eFromLabelTo p0.2.2] 0), (5, HV.int .i64 x1)], []⟩) (le_q rfl rfl) ?_
 clear hK K
 refine AW.rgs rfl fun K hK => ?_
 refine mv rfl rfl ?_
 refine bv rfl (v_bin rfl rfl b_neq) ?_
 refine b_fin hK (s' := ⟨[(1, HV.str p1), (2, HV.fptr [HV.int .i64 p0.1, HV.int .i64 p0.2.1, slE eFromLabelTo p0.2.2] 0), (5, HV.int .i64 x1), (9, HV.bool (decide (x1 ≠ 0)))], []⟩) (le_q rfl rfl) ?_
 clear hK K
 refine AW.cond rfl (fun hc => ?_) (fun hc => ?_)
 ·have hc := of_decide_eq_true hc
  have h := ifT hc h
  refine AW.rgs rfl fun K hK => ?_
  refine mv rfl rfl ?_
  refine mv rfl rfl ?_
  refine b_fin hK (s' := ⟨[(4, HV.int .i64 x1)], []⟩) (le_q rfl rfl) ?_
  clear hK K
  refine AW.ret ?_
  have h := Option.some.inj h
  subst h
  exact ret_pure (hs := [HV.int .i64 x1]) (q := HV.int .i64 x1) (.inr rfl) (resT rfl rfl) rfl trivial
 have hc := of_decide_eq_false hc
 have h := ifF hc h
 refine AW.skip ?_
 refine AW.rgs rfl fun K hK => ?_
 refine bv rfl (v_fieldAddrF fo24_0 rfl) ?_
 refine bv rfl (v_loadF ty3 rfl (l_lit rfl rfl)) ?_
 refine mv rfl rfl ?_
 obtain ⟨x3, h4, h⟩ := bS h
 refine b_op rfl (o_call rfl rfl rfl rfl (ACallD.pure0 (w_word_Check h4)) ?_)
 refine mv rfl rfl ?_
 refine b_fin hK (s' := ⟨[(4, HV.int .i64 x3)], []⟩) (le_q rfl rfl) ?_
 clear hK K
 refine AW.ret ?_
 have h := Option.some.inj h
 subst h
 exact ret_pure (hs := [HV.int .i64 x3]) (q := HV.int .i64 x3) (.inr rfl) (resT rfl rfl) rfl trivial

set_option maxHeartbeats 1600000 in
set_option maxRecDepth 100000 in
theorem w_graph_checkSet {p0 : TLabelsStatesEdges} {p1 : List (Int)} {r : Int} (h : m_graph_checkSet p0 p1 = some r) : Pure Try.prog 100 [HV.agg [HV.int .i64 p0.1, HV.int .i64 p0.2.1, slE eFromLabelTo p0.2.2], slE eInt p1] (· = HV.int .i64 r) := by
 unfold m_graph_checkSet at h
 refine Pure.of_body Try.func100 rfl rfl (Nat.le_of_ble_eq_true rfl) fun hf => ?_
 unfold Try.f100
 dsimp only [enumS, Nat.reduceAdd]
 refine AW.rgs rfl fun K hK => ?_
 refine b_op rfl (o_box rfl rfl rfl ?_)
 refine mv rfl rfl ?_
 refine b_fin hK (s' := ⟨[(1, slE eInt p1), (2, HV.fptr [HV.int .i64 p0.1, HV.int .i64 p0.2.1, slE eFromLabelTo p0.2.2] 0)], []⟩) (le_q rfl rfl) ?_
 clear hK K
 refine AW.seq ?_
 refine AW.rgs rfl fun K hK => ?_
 refine mv rfl rfl ?_
 refine bv rfl (v_lenF rfl rfl ty35 rfl) ?_
 refine mv rfl rfl ?_
 refine b_fin hK (s' := ⟨[(1, slE eInt p1), (2, HV.fptr [HV.int .i64 p0.1, HV.int .i64 p0.2.1, slE eFromLabelTo p0.2.2] 0), (7, slE eInt p1), (8, HV.int .i64 ((p1).length : Int)), (9, HV.int .i64 0)], []⟩) (le_q rfl rfl) ?_
 clear hK K
 refine AW.lpR h (by first | exact up_then | exact up_to) (S := Int) (V := Unit) (fun a v => ⟨[(1, slE eInt p1), (2, HV.fptr [HV.int .i64 p0.1, HV.int .i64 p0.2.1, slE eFromLabelTo p0.2.2] 0), (7, slE eInt p1), (8, HV.int .i64 ((p1).length : Int)), (9, HV.int .i64 a)], []⟩) ?_ (X := Unit) (W := Unit) (fun a v => ⟨[], []⟩) (fun a17 w18 h => ?_) (fun a1 w2 st3 h hr4=> ?_)
 ·exact to_le (s' := ⟨[(1, slE eInt p1), (2, HV.fptr [HV.int .i64 p0.1, HV.int .i64 p0.2.1, slE eFromLabelTo p0.2.2] 0), (7, slE eInt p1), (8, HV.int .i64 ((p1).length : Int)), (9, HV.int .i64 0)], []⟩) (AS.le_of ⟨rfl, rfl, rfl, rfl, rfl, trivial⟩ trivial) ⟨(), rfl⟩
 ·refine AW.rgs rfl fun K hK => ?_
  refine mv rfl rfl ?_
  refine b_fin hK (s' := ⟨[(4, HV.int .i64 0)], []⟩) (le_q rfl rfl) ?_
  clear hK K
  refine AW.ret ?_
  have h := Option.some.inj h
  subst h
  exact ret_pure (hs := [HV.int .i64 0]) (q := HV.int .i64 0) (.inr rfl) (resT rfl rfl) rfl trivial
 refine AW.rgs rfl fun K hK => ?_
 refine bv rfl (v_bin rfl rfl b_lss) ?_
 refine b_fin hK (s' := ⟨[(1, slE eInt p1), (2, HV.fptr [HV.int .i64 p0.1, HV.int .i64 p0.2.1, slE eFromLabelTo p0.2.2] 0), (7, slE eInt p1), (8, HV.int .i64 ((p1).length : Int)), (9, HV.int .i64 a1), (10, HV.bool (decide (a1 < ((p1).length : Int))))], []⟩) (le_q rfl rfl) ?_
 clear hK K
 refine AW.cseq rfl (fun hc => ?_) (fun hc => ?_)
 ·have hc := of_decide_eq_true hc
  have h := ifT hc h
  refine AW.skip ?_
  refine AW.seq (AW.block ?_)
  refine AW.rgs rfl fun K hK => ?_
  refine mv rfl rfl ?_
  obtain ⟨x5, h6, h⟩ := bS h
  refine bv rfl (v_idxF ty35 es35 rfl rfl (idx_lt h6)) ?_
  refine bv rfl (v_loadF ty3 rfl (l_cell eInt h6 (o := 0) rfl rfl)) ?_
  refine mv rfl rfl ?_
  refine mv rfl rfl ?_
  refine b_fin hK (s' := ⟨[(1, slE eInt p1), (2, HV.fptr [HV.int .i64 p0.1, HV.int .i64 p0.2.1, slE eFromLabelTo p0.2.2] 0), (5, HV.int .i64 a1), (6, HV.int .i64 x5), (7, slE eInt p1), (8, HV.int .i64 ((p1).length : Int)), (9, HV.int .i64 a1)], []⟩) (le_q rfl rfl) ?_
  clear hK K
  refine AW.seq ?_
  refine AW.seqJ h (S := Bool) (V := Unit) (fun a v => ⟨[(1, slE eInt p1), (2, HV.fptr [HV.int .i64 p0.1, HV.int .i64 p0.2.1, slE eFromLabelTo p0.2.2] 0), (5, HV.int .i64 a1), (6, HV.int .i64 x5), (7, slE eInt p1), (8, HV.int .i64 ((p1).length : Int)), (9, HV.int .i64 a1), (21, HV.bool a)], []⟩) (fun a7 w8 h => ?_) (fun k9 h => ?_)
  ·refine AW.cond rfl (fun hc => ?_) (fun hc => ?_)
   ·have h := ifT hc h
    refine AW.rgs rfl fun K hK => ?_
    refine mv rfl rfl ?_
    refine b_fin hK (s' := ⟨[(4, HV.int .i64 25)], []⟩) (le_q rfl rfl) ?_
    clear hK K
    have h := hr4 _ h
    refine AW.ret ?_
    have h := Option.some.inj h
    subst h
    exact ret_pure (hs := [HV.int .i64 25]) (q := HV.int .i64 25) (.inr rfl) (resT rfl rfl) rfl trivial
   have h := ifF (bF' hc) h
   refine AW.skip ?_
   refine AW.seqJ h (S := Bool) (V := Unit) (fun a v => ⟨[(1, slE eInt p1), (2, HV.fptr [HV.int .i64 p0.1, HV.int .i64 p0.2.1, slE eFromLabelTo p0.2.2] 0), (7, slE eInt p1), (8, HV.int .i64 ((p1).length : Int)), (9, HV.int .i64 a1), (32, HV.bool a)], []⟩) (fun a10 w11 h => ?_) (fun k12 h => ?_)
   ·refine AW.cond rfl (fun hc => ?_) (fun hc => ?_)
    ·have h := ifT hc h
     refine AW.rgs rfl fun K hK => ?_
     refine mv rfl rfl ?_
     refine b_fin hK (s' := ⟨[(4, HV.int .i64 10)], []⟩) (le_q rfl rfl) ?_
     clear hK K
     have h := hr4 _ h
     refine AW.ret ?_
     have h := Option.some.inj h
     subst h
     exact ret_pure (hs := [HV.int .i64 10]) (q := HV.int .i64 10) (.inr rfl) (resT rfl rfl) rfl trivial
    have h := ifF (bF' hc) h
    refine AW.skip ?_
    refine AW.rg rfl fun K hK => ?_
    refine bv rfl (v_bin rfl rfl b_add) ?_
    refine mv rfl rfl ?_
    refine b_nil (hK _ ?_)
    clear hK K
    exact to_le (s' := ⟨[(1, slE eInt p1), (2, HV.fptr [HV.int .i64 p0.1, HV.int .i64 p0.2.1, slE eFromLabelTo p0.2.2] 0), (7, slE eInt p1), (8, HV.int .i64 ((p1).length : Int)), (9, HV.int .i64 (IntKind.wrap .i64 (a1 + 1)))], []⟩) (AS.le_of ⟨rfl, rfl, rfl, rfl, rfl, trivial⟩ trivial) ⟨IntKind.wrap .i64 (a1 + 1), (), h, rfl⟩
   refine AW.rg rfl fun K hK => ?_
   refine mv rfl rfl ?_
   refine bv rfl (v_bin rfl rfl b_gtr) ?_
   refine mv rfl rfl ?_
   by_cases hg15 : 0 < a1
   ·have h := ifT hg15 h
    refine b_T rfl rfl rfl rfl (decide_eq_true hg15) (o_val rfl (mv_val rfl rfl).2 ?_)
    refine b_T rfl rfl rfl rfl rfl (o_val rfl (mv_val rfl rfl).2 ?_)
    refine b_T rfl rfl rfl rfl rfl (o_val rfl (mv_val rfl rfl).2 ?_)
    refine b_T rfl rfl rfl rfl rfl (o_val rfl (v_bin rfl rfl b_sub) ?_)
    obtain ⟨x13, h14, h⟩ := bS h
    refine b_T rfl rfl rfl rfl rfl (o_val rfl (v_idxF ty35 es35 rfl rfl (idx_lt h14)) ?_)
    refine b_T rfl rfl rfl rfl rfl (o_val rfl (v_loadF ty3 rfl (l_cell eInt h14 (o := 0) rfl rfl)) ?_)
    refine b_T rfl rfl rfl rfl rfl (o_val rfl (v_bin rfl rfl b_leq) ?_)
    refine bv rfl (v_pickT rfl rfl rfl) ?_
    refine b_nil (hK _ ?_)
    clear hK K
    exact to_le (s' := ⟨[(1, slE eInt p1), (2, HV.fptr [HV.int .i64 p0.1, HV.int .i64 p0.2.1, slE eFromLabelTo p0.2.2] 0), (7, slE eInt p1), (8, HV.int .i64 ((p1).length : Int)), (9, HV.int .i64 a1), (32, HV.bool (decide (x5 ≤ x13)))], []⟩) (AS.le_of ⟨rfl, rfl, rfl, rfl, rfl, rfl, trivial⟩ trivial) ⟨decide (x5 ≤ x13), (), h, rfl⟩
   have h := ifF hg15 h
   refine b_F rfl rfl rfl rfl rfl (decide_eq_false hg15) ?_
   refine b_F rfl rfl rfl rfl rfl rfl ?_
   refine b_F rfl rfl rfl rfl rfl rfl ?_
   refine b_F rfl rfl rfl rfl rfl rfl ?_
   refine b_F rfl rfl rfl rfl rfl rfl ?_
   refine b_F rfl rfl rfl rfl rfl rfl ?_
   refine b_F rfl rfl rfl rfl rfl rfl ?_
   refine bv rfl (v_pickF rfl rfl rfl) ?_
   refine b_nil (hK _ ?_)
   clear hK K
   exact to_le (s' := ⟨[(1, slE eInt p1), (2, HV.fptr [HV.int .i64 p0.1, HV.int .i64 p0.2.1, slE eFromLabelTo p0.2.2] 0), (7, slE eInt p1), (8, HV.int .i64 ((p1).length : Int)), (9, HV.int .i64 a1), (32, HV.bool false)], []⟩) (AS.le_of ⟨rfl, rfl, rfl, rfl, rfl, rfl, trivial⟩ trivial) ⟨false, (), h, rfl⟩
  refine AW.rg rfl fun K hK => ?_
  refine mv rfl rfl ?_
  refine bv rfl (v_bin rfl rfl b_lss) ?_
  refine mv rfl rfl ?_
  by_cases hg16 : x5 < 0
  ·have h := ifT hg16 h
   refine b_F rfl rfl rfl rfl rfl (decide_eq_true hg16) ?_
   refine b_F rfl rfl rfl rfl rfl rfl ?_
   refine b_F rfl rfl rfl rfl rfl rfl ?_
   refine b_F rfl rfl rfl rfl rfl rfl ?_
   refine bv rfl (v_pickT rfl rfl rfl) ?_
   refine b_nil (hK _ ?_)
   clear hK K
   exact to_le (s' := ⟨[(1, slE eInt p1), (2, HV.fptr [HV.int .i64 p0.1, HV.int .i64 p0.2.1, slE eFromLabelTo p0.2.2] 0), (5, HV.int .i64 a1), (6, HV.int .i64 x5), (7, slE eInt p1), (8, HV.int .i64 ((p1).length : Int)), (9, HV.int .i64 a1), (21, HV.bool true)], []⟩) (AS.le_of ⟨rfl, rfl, rfl, rfl, rfl, rfl, rfl, rfl, trivial⟩ trivial) ⟨true, (), h, rfl⟩
  have h := ifF hg16 h
  refine b_T rfl rfl rfl rfl (decide_eq_false hg16) (o_val rfl (mv_val rfl rfl).2 ?_)
  refine b_T rfl rfl rfl rfl rfl (o_val rfl (v_fieldAddrF fo24_1 rfl) ?_)
  refine b_T rfl rfl rfl rfl rfl (o_val rfl (v_loadF ty3 rfl (l_lit rfl rfl)) ?_)
  refine b_T rfl rfl rfl rfl rfl (o_val rfl (v_bin rfl rfl b_geq) ?_)
  refine bv rfl (v_pickF rfl rfl rfl) ?_
  refine b_nil (hK _ ?_)
  clear hK K
  exact to_le (s' := ⟨[(1, slE eInt p1), (2, HV.fptr [HV.int .i64 p0.1, HV.int .i64 p0.2.1, slE eFromLabelTo p0.2.2] 0), (5, HV.int .i64 a1), (6, HV.int .i64 x5), (7, slE eInt p1), (8, HV.int .i64 ((p1).length : Int)), (9, HV.int .i64 a1), (21, HV.bool (decide (p0.2.1 ≤ x5)))], []⟩) (AS.le_of ⟨rfl, rfl, rfl, rfl, rfl, rfl, rfl, rfl, trivial⟩ trivial) ⟨decide (p0.2.1 ≤ x5), (), h, rfl⟩
 have hc := of_decide_eq_false hc
 have h := ifF hc h
 refine AW.exit ?_
 exact to_le (s' := ⟨[], []⟩) (AS.le_of trivial trivial) ⟨(), (), h, rfl⟩

set_option maxHeartbeats 1600000 in
set_option maxRecDepth 100000 in
theorem w_graph_leaving (p0 : TLabelsStatesEdges) (p1 : Int) : Pure Try.prog 101 [HV.agg [HV.int .i64 p0.1, HV.int .i64 p0.2.1, slE eFromLabelTo p0.2.2], HV.int .i64 p1] (· = HV.fn (.func 107) [] [HV.fptr [HV.int .i64 p0.1, HV.int .i64 p0.2.1, slE eFromLabelTo p0.2.2] 0, HV.fptr [HV.int .i64 p1] 0]) := by
 refine Pure.of_body Try.func101 rfl rfl (Nat.le_of_ble_eq_true rfl) fun hf => ?_
 unfold Try.f101
 dsimp only [enumS, Nat.reduceAdd]
 refine AW.rgs rfl fun K hK => ?_
 refine b_op rfl (o_box rfl rfl rfl ?_)
 refine b_op rfl (o_box rfl rfl rfl ?_)
 refine mv rfl rfl ?_
 refine b_fin hK (s' := ⟨[(2, HV.fptr [HV.int .i64 p0.1, HV.int .i64 p0.2.1, slE eFromLabelTo p0.2.2] 0), (3, HV.fptr [HV.int .i64 p1] 0)], []⟩) (le_q rfl rfl) ?_
 clear hK K
 refine AW.rgs rfl fun K hK => ?_
 refine bv rfl (v_func rfl rfl) ?_
 refine mv rfl rfl ?_
 refine b_fin hK (s' := ⟨[(4, HV.fn (.func 107) [] [HV.fptr [HV.int .i64 p0.1, HV.int .i64 p0.2.1, slE eFromLabelTo p0.2.2] 0, HV.fptr [HV.int .i64 p1] 0])], []⟩) (le_q rfl rfl) ?_
 clear hK K
 refine AW.ret ?_
 exact ret_pure (hs := [HV.fn (.func 107) [] [HV.fptr [HV.int .i64 p0.1, HV.int .i64 p0.2.1, slE eFromLabelTo p0.2.2] 0, HV.fptr [HV.int .i64 p1] 0]]) (q := HV.fn (.func 107) [] [HV.fptr [HV.int .i64 p0.1, HV.int .i64 p0.2.1, slE eFromLabelTo p0.2.2] 0, HV.fptr [HV.int .i64 p1] 0]) (.inr rfl) (resT rfl rfl) rfl ⟨trivial, ⟨⟨trivial, trivial, (clean_slE fun _ _ => ⟨trivial, trivial, trivial, trivial⟩), trivial⟩, ⟨trivial, trivial⟩, trivial⟩⟩

set_option maxHeartbeats 1600000 in
set_option maxRecDepth 100000 in
theorem w_graph_Step {p0 : TLabelsStatesEdges} {p1 : List (Int)} {p2 : Int} {r : (List (Int)) × Int} (h : m_graph_Step p0 p1 p2 = some r) : Pure Try.prog 88 [HV.agg [HV.int .i64 p0.1, HV.int .i64 p0.2.1, slE eFromLabelTo p0.2.2], slE eInt p1, HV.int .i64 p2] (· = HV.tup [slE eInt r.1, HV.int .i64 r.2]) := by
 unfold m_graph_Step at h
 refine Pure.of_body Try.func88 rfl rfl (Nat.le_of_ble_eq_true rfl) fun hf => ?_
 unfold Try.f88
 dsimp only [enumS, Nat.reduceAdd]
 refine AW.rgs rfl fun K hK => ?_
 refine b_op rfl (o_box rfl rfl rfl ?_)
 refine b_op rfl (o_box rfl rfl rfl ?_)
 refine mv rfl rfl ?_
 refine mv rfl rfl ?_
 refine b_fin hK (s' := ⟨[(1, slE eInt p1), (3, HV.fptr [HV.int .i64 p0.1, HV.int .i64 p0.2.1, slE eFromLabelTo p0.2.2] 0), (5, HV.fptr [HV.int .i64 p2] 0)], []⟩) (le_q rfl rfl) ?_
 clear hK K
 refine AW.seq ?_
 refine AW.rgs rfl fun K hK => ?_
 refine bv rfl (v_loadF ty24 rfl (l_litA rfl (Nat.le_of_ble_eq_true rfl) rfl)) ?_
 obtain ⟨x1, h2, h⟩ := bS h
 refine b_op rfl (o_call rfl rfl rfl rfl (ACallD.pure0 (w_graph_Check h2)) ?_)
 refine bv rfl (v_bin rfl rfl b_neq) ?_
 refine b_fin hK (s' := ⟨[(1, slE eInt p1), (3, HV.fptr [HV.int .i64 p0.1, HV.int .i64 p0.2.1, slE eFromLabelTo p0.2.2] 0), (5, HV.fptr [HV.int .i64 p2] 0), (16, HV.bool (decide (x1 ≠ 0)))], []⟩) (le_q rfl rfl) ?_
 clear hK K
 refine AW.cond rfl (fun hc => ?_) (fun hc => ?_)
 ·have hc := of_decide_eq_true hc
  have h := ifT hc h
  refine AW.rgs rfl fun K hK => ?_
  refine mv rfl rfl ?_
  refine mv rfl rfl ?_
  refine b_fin hK (s' := ⟨[(6, HV.v (.slice none 0 0)), (7, HV.int .i64 1)], []⟩) (le_q rfl rfl) ?_
  clear hK K
  refine AW.to (to_weak ⟨[(6, slE eInt ([] : List Int)), (7, HV.int .i64 1)], []⟩ ⟨⟨_, rfl, .nil _⟩, ⟨_, rfl, .refl _⟩, trivial⟩ trivial ?_)
  refine AW.ret ?_
  have h := Option.some.inj h
  subst h
  exact ret_pure (hs := [slE eInt ([] : List Int), HV.int .i64 1]) (q := HV.tup [slE eInt ([] : List Int), HV.int .i64 1]) (.inr rfl) (resT rfl (resT rfl rfl)) rfl ⟨(clean_slE fun _ _ => ⟨trivial, trivial⟩), trivial, trivial⟩
 have hc := of_decide_eq_false hc
 have h := ifF hc h
 refine AW.skip ?_
 refine AW.seq ?_
 refine AW.rgs rfl fun K hK => ?_
 refine bv rfl (v_loadF ty24 rfl (l_litA rfl (Nat.le_of_ble_eq_true rfl) rfl)) ?_
 refine mv rfl rfl ?_
 obtain ⟨x3, h4, h⟩ := bS h
 refine b_op rfl (o_call rfl rfl rfl rfl (ACallD.pure0 (w_graph_checkSet h4)) ?_)
 refine mv rfl rfl ?_
 refine b_fin hK (s' := ⟨[(1, slE eInt p1), (3, HV.fptr [HV.int .i64 p0.1, HV.int .i64 p0.2.1, slE eFromLabelTo p0.2.2] 0), (5, HV.fptr [HV.int .i64 p2] 0), (8, HV.int .i64 x3)], []⟩) (le_q rfl rfl) ?_
 clear hK K
 refine AW.rgs rfl fun K hK => ?_
 refine mv rfl rfl ?_
 refine bv rfl (v_bin rfl rfl b_neq) ?_
 refine b_fin hK (s' := ⟨[(1, slE eInt p1), (3, HV.fptr [HV.int .i64 p0.1, HV.int .i64 p0.2.1, slE eFromLabelTo p0.2.2] 0), (5, HV.fptr [HV.int .i64 p2] 0), (8, HV.int .i64 x3), (21, HV.bool (decide (x3 ≠ 0)))], []⟩) (le_q rfl rfl) ?_
 clear hK K
 refine AW.cond rfl (fun hc => ?_) (fun hc => ?_)
 ·have hc := of_decide_eq_true hc
  have h := ifT hc h
  refine AW.rgs rfl fun K hK => ?_
  refine mv rfl rfl ?_
  refine mv rfl rfl ?_
  refine mv rfl rfl ?_
  refine b_fin hK (s' := ⟨[(6, HV.v (.slice none 0 0)), (7, HV.int .i64 x3)], []⟩) (le_q rfl rfl) ?_
  clear hK K
  refine AW.to (to_weak ⟨[(6, slE eInt ([] : List Int)), (7, HV.int .i64 x3)], []⟩ ⟨⟨_, rfl, .nil _⟩, ⟨_, rfl, .refl _⟩, trivial⟩ trivial ?_)
  refine AW.ret ?_
  have h := Option.some.inj h
  subst h
  exact ret_pure (hs := [slE eInt ([] : List Int), HV.int .i64 x3]) (q := HV.tup [slE eInt ([] : List Int), HV.int .i64 x3]) (.inr rfl) (resT rfl (resT rfl rfl)) rfl ⟨(clean_slE fun _ _ => ⟨trivial, trivial⟩), trivial, trivial⟩
 have hc := of_decide_eq_false hc
 have h := ifF hc h
 refine AW.skip ?_
 refine AW.seq ?_
 refine AW.seqJ h (S := Bool) (V := Unit) (fun a v => ⟨[(1, slE eInt p1), (3, HV.fptr [HV.int .i64 p0.1, HV.int .i64 p0.2.1, slE eFromLabelTo p0.2.2] 0), (5, HV.fptr [HV.int .i64 p2] 0), (30, HV.bool a)], []⟩) (fun a5 w6 h => ?_) (fun k7 h => ?_)
 ·refine AW.cond rfl (fun hc => ?_) (fun hc => ?_)
  ·have h := ifT hc h
   refine AW.rgs rfl fun K hK => ?_
   refine mv rfl rfl ?_
   refine mv rfl rfl ?_
   refine b_fin hK (s' := ⟨[(6, HV.v (.slice none 0 0)), (7, HV.int .i64 2)], []⟩) (le_q rfl rfl) ?_
   clear hK K
   refine AW.to (to_weak ⟨[(6, slE eInt ([] : List Int)), (7, HV.int .i64 2)], []⟩ ⟨⟨_, rfl, .nil _⟩, ⟨_, rfl, .refl _⟩, trivial⟩ trivial ?_)
   refine AW.ret ?_
   have h := Option.some.inj h
   subst h
   exact ret_pure (hs := [slE eInt ([] : List Int), HV.int .i64 2]) (q := HV.tup [slE eInt ([] : List Int), HV.int .i64 2]) (.inr rfl) (resT rfl (resT rfl rfl)) rfl ⟨(clean_slE fun _ _ => ⟨trivial, trivial⟩), trivial, trivial⟩
  have h := ifF (bF' hc) h
  refine AW.skip ?_
  refine AW.rgs rfl fun K hK => ?_
  refine b_op rfl (o_alloc (fid := 88) (zs := [HV.v (.slice none 0 0)]) 88009 rfl rfl ty35 rfl (fun v8 => ?_))
  refine b_fin hK (s' := ⟨[(1, slE eInt p1), (3, HV.fptr [HV.int .i64 p0.1, HV.int .i64 p0.2.1, slE eFromLabelTo p0.2.2] 0), (5, HV.fptr [HV.int .i64 p2] 0), (9, HV.ptr 88009 v8 0)], [(88009, v8, .arr 1 35 [HV.v (.slice none 0 0)])]⟩) (le_q rfl rfl) ?_
  clear hK K
  refine AW.seq ?_
  refine AW.rgs rfl fun K hK => ?_
  refine mv rfl rfl ?_
  refine bv rfl (v_lenF rfl rfl ty35 rfl) ?_
  refine mv rfl rfl ?_
  refine b_fin hK (s' := ⟨[(3, HV.fptr [HV.int .i64 p0.1, HV.int .i64 p0.2.1, slE eFromLabelTo p0.2.2] 0), (5, HV.fptr [HV.int .i64 p2] 0), (9, HV.ptr 88009 v8 0), (31, slE eInt p1), (32, HV.int .i64 ((p1).length : Int)), (33, HV.int .i64 0)], [(88009, v8, .arr 1 35 [HV.v (.slice none 0 0)])]⟩) (le_q rfl rfl) ?_
  clear hK K
  refine AW.lpX h (by first | exact up_then | exact up_to) (S := Int × (List Int)) (V := Nat) (fun a v => ⟨[(3, HV.fptr [HV.int .i64 p0.1, HV.int .i64 p0.2.1, slE eFromLabelTo p0.2.2] 0), (5, HV.fptr [HV.int .i64 p2] 0), (9, HV.ptr 88009 v8 0), (31, slE eInt p1), (32, HV.int .i64 ((p1).length : Int)), (33, HV.int .i64 a.1)], [(88009, v8, .arr 1 35 [HV.ar 88050 v eInt.k 0 ((a.2).length)]), (88050, v, .arr eInt.k 3 (eInt.E a.2))]⟩) ?_ (X := (List Int)) (W := Nat) (fun a v => ⟨[(9, HV.ptr 88009 v8 0)], [(88009, v8, .arr 1 35 [HV.ar 88050 v eInt.k 0 ((a).length)]), (88050, v, .arr eInt.k 3 (eInt.E a))]⟩) (fun a31 w32 h => ?_) (fun a9 w10 st11 h => ?_)
  ·refine to_bind (to_ownC 88050 88009 v8 1 0 eInt.k 3 35 rfl rfl (by decide) fun v30 => ?_)
   exact to_le (s' := ⟨[(3, HV.fptr [HV.int .i64 p0.1, HV.int .i64 p0.2.1, slE eFromLabelTo p0.2.2] 0), (5, HV.fptr [HV.int .i64 p2] 0), (9, HV.ptr 88009 v8 0), (31, slE eInt p1), (32, HV.int .i64 ((p1).length : Int)), (33, HV.int .i64 0)], [(88009, v8, .arr 1 35 [HV.ar 88050 v30 eInt.k 0 ((([] : List Int)).length)]), (88050, v30, .arr eInt.k 3 (eInt.E ([] : List Int)))]⟩) (AS.le_of ⟨rfl, rfl, rfl, rfl, rfl, rfl, trivial⟩ ⟨hle rfl (by first | rfl | simp only [List.length_set, sortI_len, sortS_len]), rfl, trivial⟩) ⟨v30, rfl⟩
  ·refine AW.rgs rfl fun K hK => ?_
   refine bv rfl (v_loadP ty35 rfl rfl (l_lit rfl rfl)) ?_
   obtain ⟨h33, h⟩ := ifN h
   refine b_op rfl (o_sortI c_sortI (l := a31) rfl rfl rfl rfl h33 ?_)
   refine b_fin hK (s' := ⟨[(9, HV.ptr 88009 v8 0)], [(88009, v8, .arr 1 35 [HV.ar 88050 w32 eInt.k 0 ((sortI a31).length)]), (88050, w32, .arr eInt.k 3 (eInt.E (sortI a31)))]⟩) (AS.le_of ⟨rfl, trivial⟩ ⟨hle rfl (by first | rfl | simp only [List.length_set, sortI_len, sortS_len]), rfl, trivial⟩) ?_
   clear hK K
   refine AW.rgs rfl fun K hK => ?_
   refine bv rfl (v_loadP ty35 rfl rfl (l_lit rfl rfl)) ?_
   refine b_op rfl (o_callK (q := slE eInt (compact_ (sortI a31))) [(88009, v8, .arr 1 35 [HV.ar 88050 w32 eInt.k 0 ((sortI a31).length)])] rfl rfl rfl rfl (fun K hK => c_compactI (H' := [(88009, v8, .arr 1 35 [HV.ar 88050 w32 eInt.k 0 ((sortI a31).length)])]) (l := sortI a31) rfl rfl (leH_get ⟨rfl, trivial⟩) rfl hK) ?_)
   refine mv rfl rfl ?_
   refine mv rfl rfl ?_
   refine b_fin hK (s' := ⟨[(6, slE eInt (compact_ (sortI a31))), (7, HV.int .i64 0)], []⟩) (le_q rfl rfl) ?_
   clear hK K
   refine AW.ret ?_
   have h := Option.some.inj h
   subst h
   exact ret_pure (hs := [slE eInt (compact_ (sortI a31)), HV.int .i64 0]) (q := HV.tup [slE eInt (compact_ (sortI a31)), HV.int .i64 0]) (.inr rfl) (resT rfl (resT rfl rfl)) rfl ⟨(clean_slE fun _ _ => ⟨trivial, trivial⟩), trivial, trivial⟩
  refine AW.rgs rfl fun K hK => ?_
  refine bv rfl (v_bin rfl rfl b_lss) ?_
  refine b_fin hK (s' := ⟨[(3, HV.fptr [HV.int .i64 p0.1, HV.int .i64 p0.2.1, slE eFromLabelTo p0.2.2] 0), (5, HV.fptr [HV.int .i64 p2] 0), (9, HV.ptr 88009 v8 0), (31, slE eInt p1), (32, HV.int .i64 ((p1).length : Int)), (33, HV.int .i64 a9.1), (34, HV.bool (decide (a9.1 < ((p1).length : Int))))], [(88009, v8, .arr 1 35 [HV.ar 88050 w10 eInt.k 0 ((a9.2).length)]), (88050, w10, .arr eInt.k 3 (eInt.E a9.2))]⟩) (le_q rfl rfl) ?_
  clear hK K
  refine AW.cseq rfl (fun hc => ?_) (fun hc => ?_)
  ·have hc := of_decide_eq_true hc
   have h := ifT hc h
   refine AW.skip ?_
   refine AW.seq (AW.block ?_)
   refine AW.rgs rfl fun K hK => ?_
   obtain ⟨x13, h14, h⟩ := bS h
   refine bv rfl (v_idxF ty35 es35 rfl rfl (idx_lt h14)) ?_
   refine bv rfl (v_loadF ty3 rfl (l_cell eInt h14 (o := 0) rfl rfl)) ?_
   refine mv rfl rfl ?_
   refine b_fin hK (s' := ⟨[(3, HV.fptr [HV.int .i64 p0.1, HV.int .i64 p0.2.1, slE eFromLabelTo p0.2.2] 0), (5, HV.fptr [HV.int .i64 p2] 0), (9, HV.ptr 88009 v8 0), (11, HV.int .i64 x13), (31, slE eInt p1), (32, HV.int .i64 ((p1).length : Int)), (33, HV.int .i64 a9.1)], [(88009, v8, .arr 1 35 [HV.ar 88050 w10 eInt.k 0 ((a9.2).length)]), (88050, w10, .arr eInt.k 3 (eInt.E a9.2))]⟩) (le_q rfl rfl) ?_
   clear hK K
   refine AW.rgs rfl fun K hK => ?_
   refine bv rfl (v_loadF ty24 rfl (l_litA rfl (Nat.le_of_ble_eq_true rfl) rfl)) ?_
   refine mv rfl rfl ?_
   refine b_op rfl (o_call rfl rfl rfl rfl (ACallD.pure0 (w_graph_leaving p0 x13)) ?_)
   refine b_fin hK (s' := ⟨[(3, HV.fptr [HV.int .i64 p0.1, HV.int .i64 p0.2.1, slE eFromLabelTo p0.2.2] 0), (5, HV.fptr [HV.int .i64 p2] 0), (9, HV.ptr 88009 v8 0), (31, slE eInt p1), (32, HV.int .i64 ((p1).length : Int)), (33, HV.int .i64 a9.1), (39, HV.fn (.func 107) [] [HV.fptr [HV.int .i64 p0.1, HV.int .i64 p0.2.1, slE eFromLabelTo p0.2.2] 0, HV.fptr [HV.int .i64 x13] 0])], [(88009, v8, .arr 1 35 [HV.ar 88050 w10 eInt.k 0 ((a9.2).length)]), (88050, w10, .arr eInt.k 3 (eInt.E a9.2))]⟩) (le_q rfl rfl) ?_
   clear hK K
   refine AW.block ?_
   refine AW.to (to_le (s' := ⟨[(3, HV.fptr [HV.int .i64 p0.1, HV.int .i64 p0.2.1, slE eFromLabelTo p0.2.2] 0), (5, HV.fptr [HV.int .i64 p2] 0), (9, HV.ptr 88009 v8 0), (31, slE eInt p1), (32, HV.int .i64 ((p1).length : Int)), (33, HV.int .i64 a9.1), (39, HV.fn (.func 107) [] [HV.fptr [HV.int .i64 p0.1, HV.int .i64 p0.2.1, slE eFromLabelTo p0.2.2] 0, HV.fptr [HV.int .i64 x13] 0])], [(88009, v8, .arr 1 35 [HV.ar 88050 w10 eInt.k 0 ((a9.2).length)]), (88050, w10, .arr eInt.k 3 (eInt.E a9.2))]⟩) (le_q rfl rfl) ?_)
   obtain ⟨L15, h16, h⟩ := bS h
   refine AW.rangeY (c := .ret) 88900 (fun x => [HV.int .i64 x.1, HV.agg [HV.int .i64 x.2.1, HV.int .i64 x.2.2.1, HV.int .i64 x.2.2.2]]) h (by first | exact up_then | exact up_to) rfl (iy_graph_leaving h16) (S := (List Int)) (V := Nat) (fun a v => [(88009, v8, .arr 1 35 [HV.ar 88050 v eInt.k 0 ((a).length)]), (88050, v, .arr eInt.k 3 (eInt.E a))]) w10 (X := Unit) (W := Unit) (fun _ _ => []) (fun _ _ => rfl) (fun _ _ => rfl) rfl (fun _ => rfl) (fun a26 w27 h => ?_) (fun a28 w29 h => ?_) (fun Lo l22 v20 a17 x19 w18 st21 h => ?_)
   ·refine AW.rg rfl fun K hK => ?_
    refine bv rfl (v_bin rfl rfl b_add) ?_
    refine mv rfl rfl ?_
    refine b_nil (hK _ ?_)
    clear hK K
    exact to_le (s' := ⟨[(3, HV.fptr [HV.int .i64 p0.1, HV.int .i64 p0.2.1, slE eFromLabelTo p0.2.2] 0), (5, HV.fptr [HV.int .i64 p2] 0), (9, HV.ptr 88009 v8 0), (31, slE eInt p1), (32, HV.int .i64 ((p1).length : Int)), (33, HV.int .i64 (IntKind.wrap .i64 (a9.1 + 1)))], [(88009, v8, .arr 1 35 [HV.ar 88050 w27 eInt.k 0 ((a26).length)]), (88050, w27, .arr eInt.k 3 (eInt.E a26))]⟩) (AS.le_of ⟨rfl, rfl, rfl, rfl, rfl, rfl, trivial⟩ ⟨rfl, rfl, trivial⟩) ⟨(IntKind.wrap .i64 (a9.1 + 1), a26), w27, h, rfl⟩
   ·cases h
   refine AW.rg rfl fun K hK => ?_
   refine b_op rfl (o_alloc (fid := 88) (zs := [HV.int .i64 0, HV.int .i64 0, HV.int .i64 0]) 88013 rfl rfl ty53 rfl (fun v23 => ?_))
   refine b_op rfl (o_store (cs := [HV.int .i64 x19.2.1, HV.int .i64 x19.2.2.1, HV.int .i64 x19.2.2.2]) (zs := [HV.int .i64 x19.2.1, HV.int .i64 x19.2.2.1, HV.int .i64 x19.2.2.2]) rfl rfl rfl ty53 rfl rfl rfl rfl rfl ?_)
   refine b_nil (hK _ ?_)
   clear hK K
   refine ⟨rfl, rfl, ?_⟩
   refine AW.block ?_
   refine AW.rgs rfl fun K hK => ?_
   refine bv rfl (v_fieldAddrP fo53_1 rfl rfl) ?_
   refine bv rfl (v_loadP ty3 rfl rfl (l_lit rfl rfl)) ?_
   refine bv rfl (v_loadF ty3 rfl (l_lit rfl rfl)) ?_
   refine bv rfl (v_bin rfl rfl b_eql) ?_
   refine b_fin hK (s' := ⟨[(3, HV.fptr [HV.int .i64 p0.1, HV.int .i64 p0.2.1, slE eFromLabelTo p0.2.2] 0), (5, HV.fptr [HV.int .i64 p2] 0), (9, HV.ptr 88009 v8 0), (13, HV.ptr 88013 v23 0), (31, slE eInt p1), (32, HV.int .i64 ((p1).length : Int)), (33, HV.int .i64 a9.1), (41, HV.agg [HV.int .i64 x19.2.1, HV.int .i64 x19.2.2.1, HV.int .i64 x19.2.2.2]), (45, HV.bool (decide (x19.2.2.1 = p2)))], [(88900, v20, Lo .busy none), (88009, v8, .arr 1 35 [HV.ar 88050 w18 eInt.k 0 ((a17).length)]), (88050, w18, .arr eInt.k 3 (eInt.E a17)), (88013, v23, .arr 3 53 [HV.int .i64 x19.2.1, HV.int .i64 x19.2.2.1, HV.int .i64 x19.2.2.2])]⟩) (le_q rfl rfl) ?_
   clear hK K
   refine AW.cond rfl (fun hc => ?_) (fun hc => ?_)
   ·have hc := of_decide_eq_true hc
    have h := ifT hc h
    refine AW.rg rfl fun K hK => ?_
    refine bv rfl (v_loadP ty35 rfl rfl (l_lit rfl rfl)) ?_
    refine bv rfl (v_fieldAddrP fo53_2 rfl rfl) ?_
    refine bv rfl (v_loadP ty3 rfl rfl (l_lit rfl rfl)) ?_
    refine b_op rfl (o_bsl rfl rfl (as_of (cs := [HV.int .i64 x19.2.2.2]) ty35 ty3 rfl rfl rfl rfl rfl) ?_)
    obtain ⟨h25, h⟩ := ifN h
    refine b_op rfl (o_appE eInt (l := a17) (m := [x19.2.2.2]) rfl rfl ty35 ty35 ty3 rfl rfl rfl rfl rfl h25 (fun v24 => ?_))
    refine b_op rfl (o_store (cs := [HV.ar 88050 v24 eInt.k 0 ((a17 ++ [x19.2.2.2]).length)]) (zs := [HV.ar 88050 v24 eInt.k 0 ((a17 ++ [x19.2.2.2]).length)]) rfl rfl rfl ty35 rfl rfl rfl rfl rfl ?_)
    refine b_nil (hK _ ?_)
    clear hK K
    exact ⟨a17 ++ [x19.2.2.2], v24, h, (AS.le_of trivial ⟨rfl, rfl, rfl, trivial⟩)⟩
   have hc := of_decide_eq_false hc
   have h := ifF hc h
   refine AW.skip ?_
   exact ⟨a17, w18, h, (AS.le_of trivial ⟨rfl, rfl, rfl, trivial⟩)⟩
  have hc := of_decide_eq_false hc
  have h := ifF hc h
  refine AW.exit ?_
  exact to_le (s' := ⟨[(9, HV.ptr 88009 v8 0)], [(88009, v8, .arr 1 35 [HV.ar 88050 w10 eInt.k 0 ((a9.2).length)]), (88050, w10, .arr eInt.k 3 (eInt.E a9.2))]⟩) (AS.le_of ⟨rfl, trivial⟩ ⟨rfl, rfl, trivial⟩) ⟨a9.2, w10, h, rfl⟩
 refine AW.rg rfl fun K hK => ?_
 refine bv rfl (v_loadF ty3 rfl (l_lit rfl rfl)) ?_
 refine bv rfl (v_bin rfl rfl b_lss) ?_
 refine mv rfl rfl ?_
 by_cases hg34 : p2 < 0
 ·have h := ifT hg34 h
  refine b_F rfl rfl rfl rfl rfl (decide_eq_true hg34) ?_
  refine b_F rfl rfl rfl rfl rfl rfl ?_
  refine b_F rfl rfl rfl rfl rfl rfl ?_
  refine b_F rfl rfl rfl rfl rfl rfl ?_
  refine bv rfl (v_pickT rfl rfl rfl) ?_
  refine b_nil (hK _ ?_)
  clear hK K
  exact to_le (s' := ⟨[(1, slE eInt p1), (3, HV.fptr [HV.int .i64 p0.1, HV.int .i64 p0.2.1, slE eFromLabelTo p0.2.2] 0), (5, HV.fptr [HV.int .i64 p2] 0), (30, HV.bool true)], []⟩) (AS.le_of ⟨rfl, rfl, rfl, rfl, trivial⟩ trivial) ⟨true, (), h, rfl⟩
 have h := ifF hg34 h
 refine b_T rfl rfl rfl rfl (decide_eq_false hg34) (o_val rfl (v_loadF ty3 rfl (l_lit rfl rfl)) ?_)
 refine b_T rfl rfl rfl rfl rfl (o_val rfl (v_fieldAddrF fo24_0 rfl) ?_)
 refine b_T rfl rfl rfl rfl rfl (o_val rfl (v_loadF ty3 rfl (l_lit rfl rfl)) ?_)
 refine b_T rfl rfl rfl rfl rfl (o_val rfl (v_bin rfl rfl b_geq) ?_)
 refine bv rfl (v_pickF rfl rfl rfl) ?_
 refine b_nil (hK _ ?_)
 clear hK K
 exact to_le (s' := ⟨[(1, slE eInt p1), (3, HV.fptr [HV.int .i64 p0.1, HV.int .i64 p0.2.1, slE eFromLabelTo p0.2.2] 0), (5, HV.fptr [HV.int .i64 p2] 0), (30, HV.bool (decide (p0.1 ≤ p2)))], []⟩) (AS.le_of ⟨rfl, rfl, rfl, rfl, trivial⟩ trivial) ⟨decide (p0.1 ≤ p2), (), h, rfl⟩

set_option maxHeartbeats 1600000 in
set_option maxRecDepth 100000 in
theorem w_language_step {p0 : TLabelsStatesEdges} {p1 : List (Int)} {p2 : Int} {r : (List (Int))} (h : m_language_step p0 p1 p2 = some r) : Pure Try.prog 68 [HV.agg [HV.int .i64 p0.1, HV.int .i64 p0.2.1, slE eFromLabelTo p0.2.2], slE eInt p1, HV.int .u8 p2] (· = slE eInt r) := by
 unfold m_language_step at h
 refine Pure.of_body Try.func68 rfl rfl (Nat.le_of_ble_eq_true rfl) fun hf => ?_
 unfold Try.f68
 dsimp only [enumS, Nat.reduceAdd]
 refine AW.rgs rfl fun K hK => ?_
 refine b_op rfl (o_box rfl rfl rfl ?_)
 refine mv rfl rfl ?_
 refine b_fin hK (s' := ⟨[(1, slE eInt p1), (2, HV.int .u8 p2), (3, HV.fptr [HV.int .i64 p0.1, HV.int .i64 p0.2.1, slE eFromLabelTo p0.2.2] 0)], []⟩) (le_q rfl rfl) ?_
 clear hK K
 refine AW.dgs 10 follows rfl rfl fun K hK => ?_
 refine sv rfl (v_loadF ty24 rfl (l_litA rfl (Nat.le_of_ble_eq_true rfl) rfl)) ?_
 refine sm rfl rfl ?_
 refine sm rfl rfl ?_
 obtain ⟨x1, h2, h⟩ := bS h
 refine s_op rfl rfl (ops_call rfl rfl rfl rfl (ACallD.pure0 (w_strings_IndexByte h2)) ?_)
 obtain ⟨x3, h4, h⟩ := bS h
 refine s_op rfl rfl (ops_call rfl rfl rfl rfl (ACallD.pure0 (w_graph_Step h4)) ?_)
 refine sm rfl rfl ?_
 refine sv rfl (v_extract rfl rfl) ?_
 refine sv rfl (v_extract rfl rfl) ?_
 refine sm rfl rfl ?_
 refine sm rfl rfl ?_
 refine s_nil ?_
 refine b_fin hK (s' := ⟨[(7, slE eInt x3.1)], []⟩) (le_q rfl rfl) ?_
 clear hK K
 refine AW.rgs rfl fun K hK => ?_
 refine mv rfl rfl ?_
 refine mv rfl rfl ?_
 refine b_fin hK (s' := ⟨[(6, slE eInt x3.1)], []⟩) (le_q rfl rfl) ?_
 clear hK K
 refine AW.ret ?_
 have h := Option.some.inj h
 subst h
 exact ret_pure (hs := [slE eInt x3.1]) (q := slE eInt x3.1) (.inr rfl) (resT rfl rfl) rfl (clean_slE fun _ _ => ⟨trivial, trivial⟩)

set_option maxHeartbeats 1600000 in
set_option maxRecDepth 100000 in
theorem w_language_ends {p0 : TLabelsStatesEdges} {p1 : List (Int)} {p2 : List UInt8} {r : (List (Int))} (h : m_language_ends p0 p1 p2 = some r) : Pure Try.prog 44 [HV.agg [HV.int .i64 p0.1, HV.int .i64 p0.2.1, slE eFromLabelTo p0.2.2], slE eInt p1, HV.str p2] (· = slE eInt r) := by
 unfold m_language_ends at h
 refine Pure.of_body Try.func44 rfl rfl (Nat.le_of_ble_eq_true rfl) fun hf => ?_
 unfold Try.f44
 dsimp only [enumS, Nat.reduceAdd]
 refine AW.rgs rfl fun K hK => ?_
 refine b_op rfl (o_box rfl rfl rfl ?_)
 refine mv rfl rfl ?_
 refine b_fin hK (s' := ⟨[(1, slE eInt p1), (2, HV.str p2), (3, HV.fptr [HV.int .i64 p0.1, HV.int .i64 p0.2.1, slE eFromLabelTo p0.2.2] 0)], []⟩) (le_q rfl rfl) ?_
 clear hK K
 refine AW.seq ?_
 refine AW.rgs rfl fun K hK => ?_
 refine mv rfl rfl ?_
 refine b_fin hK (s' := ⟨[(1, slE eInt p1), (2, HV.str p2), (3, HV.fptr [HV.int .i64 p0.1, HV.int .i64 p0.2.1, slE eFromLabelTo p0.2.2] 0), (7, HV.int .i64 0)], []⟩) (le_q rfl rfl) ?_
 clear hK K
 refine AW.lpX h (by first | exact up_then | exact up_to) (S := (List Int) × Int) (V := Unit) (fun a v => ⟨[(1, slE eInt a.1), (2, HV.str p2), (3, HV.fptr [HV.int .i64 p0.1, HV.int .i64 p0.2.1, slE eFromLabelTo p0.2.2] 0), (7, HV.int .i64 a.2)], []⟩) ?_ (X := (List Int)) (W := Unit) (fun a v => ⟨[(1, slE eInt a)], []⟩) (fun a13 w14 h => ?_) (fun a1 w2 st3 h => ?_)
 ·exact to_le (s' := ⟨[(1, slE eInt p1), (2, HV.str p2), (3, HV.fptr [HV.int .i64 p0.1, HV.int .i64 p0.2.1, slE eFromLabelTo p0.2.2] 0), (7, HV.int .i64 0)], []⟩) (AS.le_of ⟨rfl, rfl, rfl, rfl, trivial⟩ trivial) ⟨(), rfl⟩
 ·refine AW.rgs rfl fun K hK => ?_
  refine mv rfl rfl ?_
  refine mv rfl rfl ?_
  refine b_fin hK (s' := ⟨[(6, slE eInt a13)], []⟩) (le_q rfl rfl) ?_
  clear hK K
  refine AW.ret ?_
  have h := Option.some.inj h
  subst h
  exact ret_pure (hs := [slE eInt a13]) (q := slE eInt a13) (.inr rfl) (resT rfl rfl) rfl (clean_slE fun _ _ => ⟨trivial, trivial⟩)
 refine AW.seq ?_
 refine AW.seqJ h (S := Bool) (V := Unit) (fun a v => ⟨[(1, slE eInt a1.1), (2, HV.str p2), (3, HV.fptr [HV.int .i64 p0.1, HV.int .i64 p0.2.1, slE eFromLabelTo p0.2.2] 0), (7, HV.int .i64 a1.2), (16, HV.bool a)], []⟩) (fun a5 w6 h => ?_) (fun k7 h => ?_)
 ·refine AW.cond rfl (fun hc => ?_) (fun hc => ?_)
  ·have h := ifT hc h
   refine AW.skip ?_
   refine AW.seq (AW.block ?_)
   refine AW.dg 7 follows rfl rfl fun K hK => ?_
   refine sv rfl (v_loadF ty24 rfl (l_litA rfl (Nat.le_of_ble_eq_true rfl) rfl)) ?_
   refine sm rfl rfl ?_
   refine sm rfl rfl ?_
   refine sm rfl rfl ?_
   obtain ⟨x8, h9, h⟩ := bS h
   refine sv rfl (v_idxS ty9 rfl rfl h9) ?_
   obtain ⟨x10, h11, h⟩ := bS h
   refine s_op rfl rfl (ops_call rfl rfl rfl rfl (ACallD.pure0 (w_language_step h11)) ?_)
   refine sm rfl rfl ?_
   refine s_nil ?_
   refine b_fin hK (s' := ⟨[(1, slE eInt x10), (2, HV.str p2), (3, HV.fptr [HV.int .i64 p0.1, HV.int .i64 p0.2.1, slE eFromLabelTo p0.2.2] 0), (7, HV.int .i64 a1.2)], []⟩) (le_q rfl rfl) ?_
   clear hK K
   refine AW.rg rfl fun K hK => ?_
   refine mv rfl rfl ?_
   refine bv rfl (v_bin rfl rfl b_add) ?_
   refine mv rfl rfl ?_
   refine b_nil (hK _ ?_)
   clear hK K
   exact to_le (s' := ⟨[(1, slE eInt x10), (2, HV.str p2), (3, HV.fptr [HV.int .i64 p0.1, HV.int .i64 p0.2.1, slE eFromLabelTo p0.2.2] 0), (7, HV.int .i64 (IntKind.wrap .i64 (a1.2 + 1)))], []⟩) (AS.le_of ⟨rfl, rfl, rfl, rfl, trivial⟩ trivial) ⟨(x10, IntKind.wrap .i64 (a1.2 + 1)), (), h, rfl⟩
  have h := ifF (bF' hc) h
  refine AW.exit ?_
  exact to_le (s' := ⟨[(1, slE eInt a1.1)], []⟩) (AS.le_of ⟨rfl, trivial⟩ trivial) ⟨a1.1, (), h, rfl⟩
 refine AW.rg rfl fun K hK => ?_
 refine mv rfl rfl ?_
 refine mv rfl rfl ?_
 refine bv rfl (v_lenS rfl rfl ty9 rfl) ?_
 refine bv rfl (v_bin rfl rfl b_lss) ?_
 refine mv rfl rfl ?_
 by_cases hg12 : a1.2 < ((p2).length : Int)
 ·have h := ifT hg12 h
  refine b_T rfl rfl rfl rfl (decide_eq_true hg12) (o_val rfl (mv_val rfl rfl).2 ?_)
  refine b_T rfl rfl rfl rfl rfl (o_val rfl (v_lenF rfl rfl ty35 rfl) ?_)
  refine b_T rfl rfl rfl rfl rfl (o_val rfl (v_bin rfl rfl b_gtr) ?_)
  refine bv rfl (v_pickT rfl rfl rfl) ?_
  refine b_nil (hK _ ?_)
  clear hK K
  exact to_le (s' := ⟨[(1, slE eInt a1.1), (2, HV.str p2), (3, HV.fptr [HV.int .i64 p0.1, HV.int .i64 p0.2.1, slE eFromLabelTo p0.2.2] 0), (7, HV.int .i64 a1.2), (16, HV.bool (decide (0 < ((a1.1).length : Int))))], []⟩) (AS.le_of ⟨rfl, rfl, rfl, rfl, rfl, trivial⟩ trivial) ⟨decide (0 < ((a1.1).length : Int)), (), h, rfl⟩
 have h := ifF hg12 h
 refine b_F rfl rfl rfl rfl rfl (decide_eq_false hg12) ?_
 refine b_F rfl rfl rfl rfl rfl rfl ?_
 refine b_F rfl rfl rfl rfl rfl rfl ?_
 refine bv rfl (v_pickF rfl rfl rfl) ?_
 refine b_nil (hK _ ?_)
 clear hK K
 exact to_le (s' := ⟨[(1, slE eInt a1.1), (2, HV.str p2), (3, HV.fptr [HV.int .i64 p0.1, HV.int .i64 p0.2.1, slE eFromLabelTo p0.2.2] 0), (7, HV.int .i64 a1.2), (16, HV.bool false)], []⟩) (AS.le_of ⟨rfl, rfl, rfl, rfl, rfl, trivial⟩ trivial) ⟨false, (), h, rfl⟩

set_option maxHeartbeats 1600000 in
set_option maxRecDepth 100000 in
theorem w_language_states {p0 : TLabelsStatesEdges} {r : (List (Int))} (h : m_language_states p0 = some r) : Pure Try.prog 45 [HV.agg [HV.int .i64 p0.1, HV.int .i64 p0.2.1, slE eFromLabelTo p0.2.2]] (· = slE eInt r) := by
 unfold m_language_states at h
 refine Pure.of_body Try.func45 rfl rfl (Nat.le_of_ble_eq_true rfl) fun hf => ?_
 unfold Try.f45
 dsimp only [enumS, Nat.reduceAdd]
 refine AW.rgs rfl fun K hK => ?_
 refine b_op rfl (o_box rfl rfl rfl ?_)
 refine mv rfl rfl ?_
 refine b_fin hK (s' := ⟨[(1, HV.fptr [HV.int .i64 p0.1, HV.int .i64 p0.2.1, slE eFromLabelTo p0.2.2] 0)], []⟩) (le_q rfl rfl) ?_
 clear hK K
 refine AW.rgs rfl fun K hK => ?_
 refine bv rfl (v_fieldAddrF fo24_1 rfl) ?_
 refine bv rfl (v_loadF ty3 rfl (l_lit rfl rfl)) ?_
 obtain ⟨h2, h⟩ := ifN h
 refine b_op rfl (o_makeE (fid := 45) eInt (0 : Int) 45007 rfl rfl ty35 rfl rfl ty3 rfl rfl h2 (fun v1 => ?_))
 refine mv rfl rfl ?_
 refine b_fin hK (s' := ⟨[(3, HV.ar 45007 v1 eInt.k 0 ((List.replicate (p0.2.1).toNat (0 : Int)).length))], [(45007, v1, .arr eInt.k 3 (eInt.E (List.replicate (p0.2.1).toNat (0 : Int))))]⟩) (le_q rfl rfl) ?_
 clear hK K
 refine AW.seq ?_
 refine AW.rgs rfl fun K hK => ?_
 refine mv rfl rfl ?_
 refine bv rfl (v_lenA rfl rfl ty35 rfl rfl) ?_
 refine mv rfl rfl ?_
 refine b_fin hK (s' := ⟨[(3, HV.ar 45007 v1 eInt.k 0 ((List.replicate (p0.2.1).toNat (0 : Int)).length)), (9, HV.int .i64 (((List.replicate (p0.2.1).toNat (0 : Int)).length : Nat) : Int)), (10, HV.int .i64 0)], [(45007, v1, .arr eInt.k 3 (eInt.E (List.replicate (p0.2.1).toNat (0 : Int))))]⟩) (le_q rfl rfl) ?_
 clear hK K
 refine AW.lpX h (by first | exact up_then | exact up_to) (S := Int × (List Int)) (V := Unit) (fun a v => ⟨[(3, HV.ar 45007 v1 eInt.k 0 ((a.2).length)), (9, HV.int .i64 (((List.replicate (p0.2.1).toNat (0 : Int)).length : Nat) : Int)), (10, HV.int .i64 a.1)], [(45007, v1, .arr eInt.k 3 (eInt.E a.2))]⟩) ?_ (X := (List Int)) (W := Unit) (fun a v => ⟨[(3, HV.ar 45007 v1 eInt.k 0 ((a).length))], [(45007, v1, .arr eInt.k 3 (eInt.E a))]⟩) (fun a9 w10 h => ?_) (fun a3 w4 st5 h => ?_)
 ·exact to_le (s' := ⟨[(3, HV.ar 45007 v1 eInt.k 0 ((List.replicate (p0.2.1).toNat (0 : Int)).length)), (9, HV.int .i64 (((List.replicate (p0.2.1).toNat (0 : Int)).length : Nat) : Int)), (10, HV.int .i64 0)], [(45007, v1, .arr eInt.k 3 (eInt.E (List.replicate (p0.2.1).toNat (0 : Int))))]⟩) (AS.le_of ⟨rfl, rfl, rfl, trivial⟩ ⟨rfl, trivial⟩) ⟨(), rfl⟩
 ·refine AW.rgs rfl fun K hK => ?_
  refine mv rfl rfl ?_
  refine mv rfl rfl ?_
  refine b_fin hK (s' := ⟨[(2, HV.ar 45007 v1 eInt.k 0 ((a9).length))], [(45007, v1, .arr eInt.k 3 (eInt.E a9))]⟩) (le_q rfl rfl) ?_
  clear hK K
  refine AW.to (to_frz 2 [(45007, v1, .arr eInt.k 3 (eInt.E a9))] ⟨[(2, slE eInt a9)], []⟩ ⟨⟨_, rfl, frz_slE eInt (l := a9) rfl fun _ _ => rfl⟩, trivial⟩ trivial ⟨rfl, trivial⟩ ⟨rfl, trivial⟩ ?_)
  refine AW.ret ?_
  have h := Option.some.inj h
  subst h
  exact ret_pure (hs := [slE eInt a9]) (q := slE eInt a9) (.inr rfl) (resT rfl rfl) rfl (clean_slE fun _ _ => ⟨trivial, trivial⟩)
 refine AW.rgs rfl fun K hK => ?_
 refine bv rfl (v_bin rfl rfl b_lss) ?_
 refine b_fin hK (s' := ⟨[(3, HV.ar 45007 v1 eInt.k 0 ((a3.2).length)), (9, HV.int .i64 (((List.replicate (p0.2.1).toNat (0 : Int)).length : Nat) : Int)), (10, HV.int .i64 a3.1), (11, HV.bool (decide (a3.1 < (((List.replicate (p0.2.1).toNat (0 : Int)).length : Nat) : Int))))], [(45007, v1, .arr eInt.k 3 (eInt.E a3.2))]⟩) (le_q rfl rfl) ?_
 clear hK K
 refine AW.cseq rfl (fun hc => ?_) (fun hc => ?_)
 ·have hc := of_decide_eq_true hc
  have h := ifT hc h
  refine AW.skip ?_
  refine AW.seq (AW.block ?_)
  refine AW.rgs rfl fun K hK => ?_
  refine mv rfl rfl ?_
  refine mv rfl rfl ?_
  refine b_fin hK (s' := ⟨[(3, HV.ar 45007 v1 eInt.k 0 ((a3.2).length)), (4, HV.int .i64 a3.1), (9, HV.int .i64 (((List.replicate (p0.2.1).toNat (0 : Int)).length : Nat) : Int)), (10, HV.int .i64 a3.1)], [(45007, v1, .arr eInt.k 3 (eInt.E a3.2))]⟩) (le_q rfl rfl) ?_
  clear hK K
  refine AW.rg rfl fun K hK => ?_
  refine mv rfl rfl ?_
  refine mv rfl rfl ?_
  refine mv rfl rfl ?_
  obtain ⟨x7, h8, h⟩ := bS h
  refine bv rfl (v_idxA ty35 es35 rfl rfl (idx_lt h8) rfl) ?_
  refine b_op rfl (o_storeE eInt (l := a3.2) (j := a3.1) (v := a3.1) rfl rfl rfl ty3 rfl rfl rfl (idx_lt h8) ?_)
  refine b_fin hK (s' := ⟨[(3, HV.ar 45007 v1 eInt.k 0 (((a3.2).set (a3.1).toNat a3.1).length)), (9, HV.int .i64 (((List.replicate (p0.2.1).toNat (0 : Int)).length : Nat) : Int)), (10, HV.int .i64 a3.1)], [(45007, v1, .arr eInt.k 3 (eInt.E ((a3.2).set (a3.1).toNat a3.1)))]⟩) (AS.le_of ⟨arl (by first | rfl | simp only [List.length_set, sortI_len, sortS_len]), rfl, rfl, trivial⟩ ⟨rfl, trivial⟩) ?_
  clear hK K
  refine AW.rg rfl fun K hK => ?_
  refine bv rfl (v_bin rfl rfl b_add) ?_
  refine mv rfl rfl ?_
  refine b_nil (hK _ ?_)
  clear hK K
  exact to_le (s' := ⟨[(3, HV.ar 45007 v1 eInt.k 0 (((a3.2).set (a3.1).toNat a3.1).length)), (9, HV.int .i64 (((List.replicate (p0.2.1).toNat (0 : Int)).length : Nat) : Int)), (10, HV.int .i64 (IntKind.wrap .i64 (a3.1 + 1)))], [(45007, v1, .arr eInt.k 3 (eInt.E ((a3.2).set (a3.1).toNat a3.1)))]⟩) (AS.le_of ⟨rfl, rfl, rfl, trivial⟩ ⟨rfl, trivial⟩) ⟨(IntKind.wrap .i64 (a3.1 + 1), (a3.2).set (a3.1).toNat a3.1), (), h, rfl⟩
 have hc := of_decide_eq_false hc
 have h := ifF hc h
 refine AW.exit ?_
 exact to_le (s' := ⟨[(3, HV.ar 45007 v1 eInt.k 0 ((a3.2).length))], [(45007, v1, .arr eInt.k 3 (eInt.E a3.2))]⟩) (AS.le_of ⟨rfl, trivial⟩ ⟨rfl, trivial⟩) ⟨a3.2, (), h, rfl⟩

set_option maxHeartbeats 1600000 in
set_option maxRecDepth 100000 in
theorem w_language_Accepts {p0 : TLabelsStatesEdges} {p1 : List UInt8} {r : Bool × Int} (h : m_language_Accepts p0 p1 = some r) : Pure Try.prog 23 [HV.agg [HV.int .i64 p0.1, HV.int .i64 p0.2.1, slE eFromLabelTo p0.2.2], HV.str p1] (· = HV.tup [HV.bool r.1, HV.int .i64 r.2]) := by
 unfold m_language_Accepts at h
 refine Pure.of_body Try.func23 rfl rfl (Nat.le_of_ble_eq_true rfl) fun hf => ?_
 unfold Try.f23
 dsimp only [enumS, Nat.reduceAdd]
 refine AW.rgs rfl fun K hK => ?_
 refine b_op rfl (o_box rfl rfl rfl ?_)
 refine mv rfl rfl ?_
 refine mv rfl rfl ?_
 refine b_fin hK (s' := ⟨[(1, HV.str p1), (2, HV.fptr [HV.int .i64 p0.1, HV.int .i64 p0.2.1, slE eFromLabelTo p0.2.2] 0)], []⟩) (le_q rfl rfl) ?_
 clear hK K
 refine AW.seq ?_
 refine AW.rgs rfl fun K hK => ?_
 refine bv rfl (v_loadF ty24 rfl (l_litA rfl (Nat.le_of_ble_eq_true rfl) rfl)) ?_
 refine mv rfl rfl ?_
 obtain ⟨x1, h2, h⟩ := bS h
 refine b_op rfl (o_call rfl rfl rfl rfl (ACallD.pure0 (w_language_spells h2)) ?_)
 refine mv rfl rfl ?_
 refine b_fin hK (s' := ⟨[(1, HV.str p1), (2, HV.fptr [HV.int .i64 p0.1, HV.int .i64 p0.2.1, slE eFromLabelTo p0.2.2] 0), (6, HV.int .i64 x1)], []⟩) (le_q rfl rfl) ?_
 clear hK K
 refine AW.rgs rfl fun K hK => ?_
 refine mv rfl rfl ?_
 refine bv rfl (v_bin rfl rfl b_neq) ?_
 refine b_fin hK (s' := ⟨[(1, HV.str p1), (2, HV.fptr [HV.int .i64 p0.1, HV.int .i64 p0.2.1, slE eFromLabelTo p0.2.2] 0), (6, HV.int .i64 x1), (11, HV.bool (decide (x1 ≠ 0)))], []⟩) (le_q rfl rfl) ?_
 clear hK K
 refine AW.cond rfl (fun hc => ?_) (fun hc => ?_)
 ·have hc := of_decide_eq_true hc
  have h := ifT hc h
  refine AW.rgs rfl fun K hK => ?_
  refine mv rfl rfl ?_
  refine mv rfl rfl ?_
  refine mv rfl rfl ?_
  refine b_fin hK (s' := ⟨[(4, HV.bool false), (5, HV.int .i64 x1)], []⟩) (le_q rfl rfl) ?_
  clear hK K
  refine AW.ret ?_
  have h := Option.some.inj h
  subst h
  exact ret_pure (hs := [HV.bool false, HV.int .i64 x1]) (q := HV.tup [HV.bool false, HV.int .i64 x1]) (.inr rfl) (resT rfl (resT rfl rfl)) rfl ⟨trivial, trivial, trivial⟩
 have hc := of_decide_eq_false hc
 have h := ifF hc h
 refine AW.skip ?_
 refine AW.dgs 9 follows rfl rfl fun K hK => ?_
 refine sv rfl (v_loadF ty24 rfl (l_litA rfl (Nat.le_of_ble_eq_true rfl) rfl)) ?_
 refine sv rfl (v_loadF ty24 rfl (l_litA rfl (Nat.le_of_ble_eq_true rfl) rfl)) ?_
 obtain ⟨x3, h4, h⟩ := bS h
 refine s_op rfl rfl (ops_call rfl rfl rfl rfl (ACallD.pure0 (w_language_states h4)) ?_)
 refine sm rfl rfl ?_
 obtain ⟨x5, h6, h⟩ := bS h
 refine s_op rfl rfl (ops_call rfl rfl rfl rfl (ACallD.pure0 (w_language_ends h6)) ?_)
 refine sv rfl (v_lenF rfl rfl ty35 rfl) ?_
 refine sv rfl (v_bin rfl rfl b_gtr) ?_
 refine sm rfl rfl ?_
 refine sm rfl rfl ?_
 refine s_nil ?_
 refine b_fin hK (s' := ⟨[(4, HV.bool (decide (0 < ((x5).length : Int)))), (5, HV.int .i64 0)], []⟩) (le_q rfl rfl) ?_
 clear hK K
 refine AW.ret ?_
 have h := Option.some.inj h
 subst h
 exact ret_pure (hs := [HV.bool (decide (0 < ((x5).length : Int))), HV.int .i64 0]) (q := HV.tup [HV.bool (decide (0 < ((x5).length : Int))), HV.int .i64 0]) (.inr rfl) (resT rfl (resT rfl rfl)) rfl ⟨trivial, trivial, trivial⟩

set_option maxHeartbeats 1600000 in
set_option maxRecDepth 100000 in
theorem w_syncmark_Free {p0 : TLabelsStatesEdges} {p1 : List UInt8} {r : Bool × Int} (h : m_syncmark_Free p0 p1 = some r) : Pure Try.prog 14 [HV.agg [HV.int .i64 p0.1, HV.int .i64 p0.2.1, slE eFromLabelTo p0.2.2], HV.str p1] (· = HV.tup [HV.bool r.1, HV.int .i64 r.2]) := by
 unfold m_syncmark_Free at h
 refine Pure.of_body Try.func14 rfl rfl (Nat.le_of_ble_eq_true rfl) fun hf => ?_
 unfold Try.f14
 dsimp only [enumS, Nat.reduceAdd]
 refine AW.rgs rfl fun K hK => ?_
 refine b_op rfl (o_box rfl rfl rfl ?_)
 refine mv rfl rfl ?_
 refine mv rfl rfl ?_
 refine b_fin hK (s' := ⟨[(1, HV.str p1), (2, HV.fptr [HV.int .i64 p0.1, HV.int .i64 p0.2.1, slE eFromLabelTo p0.2.2] 0)], []⟩) (le_q rfl rfl) ?_
 clear hK K
 refine AW.seq ?_
 refine AW.rgs rfl fun K hK => ?_
 refine bv rfl (v_loadF ty24 rfl (l_litA rfl (Nat.le_of_ble_eq_true rfl) rfl)) ?_
 refine mv rfl rfl ?_
 obtain ⟨x1, h2, h⟩ := bS h
 refine b_op rfl (o_call rfl rfl rfl rfl (ACallD.pure0 (w_syncmark_check h2)) ?_)
 refine mv rfl rfl ?_
 refine b_fin hK (s' := ⟨[(1, HV.str p1), (2, HV.fptr [HV.int .i64 p0.1, HV.int .i64 p0.2.1, slE eFromLabelTo p0.2.2] 0), (6, HV.int .i64 x1)], []⟩) (le_q rfl rfl) ?_
 clear hK K
 refine AW.rgs rfl fun K hK => ?_
 refine mv rfl rfl ?_
 refine bv rfl (v_bin rfl rfl b_neq) ?_
 refine b_fin hK (s' := ⟨[(1, HV.str p1), (2, HV.fptr [HV.int .i64 p0.1, HV.int .i64 p0.2.1, slE eFromLabelTo p0.2.2] 0), (6, HV.int .i64 x1), (13, HV.bool (decide (x1 ≠ 0)))], []⟩) (le_q rfl rfl) ?_
 clear hK K
 refine AW.cond rfl (fun hc => ?_) (fun hc => ?_)
 ·have hc := of_decide_eq_true hc
  have h := ifT hc h
  refine AW.rgs rfl fun K hK => ?_
  refine mv rfl rfl ?_
  refine mv rfl rfl ?_
  refine mv rfl rfl ?_
  refine b_fin hK (s' := ⟨[(4, HV.bool false), (5, HV.int .i64 x1)], []⟩) (le_q rfl rfl) ?_
  clear hK K
  refine AW.ret ?_
  have h := Option.some.inj h
  subst h
  exact ret_pure (hs := [HV.bool false, HV.int .i64 x1]) (q := HV.tup [HV.bool false, HV.int .i64 x1]) (.inr rfl) (resT rfl (resT rfl rfl)) rfl ⟨trivial, trivial, trivial⟩
 have hc := of_decide_eq_false hc
 have h := ifF hc h
 refine AW.skip ?_
 refine AW.rgs rfl fun K hK => ?_
 refine bv rfl (v_loadF ty24 rfl (l_litA rfl (Nat.le_of_ble_eq_true rfl) rfl)) ?_
 refine mv rfl rfl ?_
 obtain ⟨x3, h4, h⟩ := bS h
 refine b_op rfl (o_call rfl rfl rfl rfl (ACallD.pure0 (w_language_Accepts h4)) ?_)
 refine mv rfl rfl ?_
 refine bv rfl (v_extract rfl rfl) ?_
 refine bv rfl (v_extract rfl rfl) ?_
 refine mv rfl rfl ?_
 refine mv rfl rfl ?_
 refine b_fin hK (s' := ⟨[(7, HV.bool x3.1), (8, HV.int .i64 x3.2)], []⟩) (le_q rfl rfl) ?_
 clear hK K
 refine AW.seqJ h (S := Bool) (V := Unit) (fun a v => ⟨[(4, HV.bool a), (5, HV.int .i64 x3.2)], []⟩) (fun a5 w6 h => ?_) (fun k7 h => ?_)
 ·refine AW.ret ?_
  have h := Option.some.inj h
  subst h
  exact ret_pure (hs := [HV.bool a5, HV.int .i64 x3.2]) (q := HV.tup [HV.bool a5, HV.int .i64 x3.2]) (.inr rfl) (resT rfl (resT rfl rfl)) rfl ⟨trivial, trivial, trivial⟩
 refine AW.rg rfl fun K hK => ?_
 refine mv rfl rfl ?_
 refine bv rfl (v_bin rfl rfl b_eql) ?_
 refine mv rfl rfl ?_
 by_cases hg8 : x3.2 = 0
 ·have h := ifT hg8 h
  refine b_T rfl rfl rfl rfl (decide_eq_true hg8) (o_val rfl (mv_val rfl rfl).2 ?_)
  refine b_T rfl rfl rfl rfl rfl (o_val rfl (v_not rfl) ?_)
  refine bv rfl (v_pickT rfl rfl rfl) ?_
  refine mv rfl rfl ?_
  refine mv rfl rfl ?_
  refine mv rfl rfl ?_
  refine b_nil (hK _ ?_)
  clear hK K
  exact to_le (s' := ⟨[(4, HV.bool (!x3.1)), (5, HV.int .i64 x3.2)], []⟩) (AS.le_of ⟨rfl, rfl, trivial⟩ trivial) ⟨!x3.1, (), h, rfl⟩
 have h := ifF hg8 h
 refine b_F rfl rfl rfl rfl rfl (decide_eq_false hg8) ?_
 refine b_F rfl rfl rfl rfl rfl rfl ?_
 refine bv rfl (v_pickF rfl rfl rfl) ?_
 refine mv rfl rfl ?_
 refine mv rfl rfl ?_
 refine mv rfl rfl ?_
 refine b_nil (hK _ ?_)
 clear hK K
 exact to_le (s' := ⟨[(4, HV.bool false), (5, HV.int .i64 x3.2)], []⟩) (AS.le_of ⟨rfl, rfl, trivial⟩ trivial) ⟨false, (), h, rfl⟩

set_option maxHeartbeats 1600000 in
set_option maxRecDepth 100000 in
theorem w_slices_Equal_Lint_int {p0 : List (Int)} {p1 : List (Int)} {r : Bool} (h : m_slices_Equal_Lint_int p0 p1 = some r) : Pure Try.prog 16 [slE eInt p0, slE eInt p1] (· = HV.bool r) := by
 unfold m_slices_Equal_Lint_int at h
 refine Pure.of_body Try.func16 rfl rfl (Nat.le_of_ble_eq_true rfl) fun hf => ?_
 unfold Try.f16
 dsimp only [enumS, Nat.reduceAdd]
 refine AW.rgs rfl fun K hK => ?_
 refine mv rfl rfl ?_
 refine b_fin hK (s' := ⟨[(0, slE eInt p0), (1, slE eInt p1)], []⟩) (le_q rfl rfl) ?_
 clear hK K
 refine AW.seq ?_
 refine AW.rgs rfl fun K hK => ?_
 refine mv rfl rfl ?_
 refine bv rfl (v_lenF rfl rfl ty35 rfl) ?_
 refine mv rfl rfl ?_
 refine bv rfl (v_lenF rfl rfl ty35 rfl) ?_
 refine bv rfl (v_bin rfl rfl b_neq) ?_
 refine b_fin hK (s' := ⟨[(0, slE eInt p0), (1, slE eInt p1), (10, HV.bool (decide (((p0).length : Int) ≠ ((p1).length : Int))))], []⟩) (le_q rfl rfl) ?_
 clear hK K
 refine AW.cond rfl (fun hc => ?_) (fun hc => ?_)
 ·have hc := of_decide_eq_true hc
  have h := ifT hc h
  refine AW.rgs rfl fun K hK => ?_
  refine mv rfl rfl ?_
  refine b_fin hK (s' := ⟨[(4, HV.bool false)], []⟩) (le_q rfl rfl) ?_
  clear hK K
  refine AW.ret ?_
  have h := Option.some.inj h
  subst h
  exact ret_pure (hs := [HV.bool false]) (q := HV.bool false) (.inr rfl) (resT rfl rfl) rfl trivial
 have hc := of_decide_eq_false hc
 have h := ifF hc h
 refine AW.skip ?_
 refine AW.seq ?_
 refine AW.rgs rfl fun K hK => ?_
 refine mv rfl rfl ?_
 refine bv rfl (v_lenF rfl rfl ty35 rfl) ?_
 refine mv rfl rfl ?_
 refine b_fin hK (s' := ⟨[(0, slE eInt p0), (1, slE eInt p1), (12, HV.int .i64 ((p0).length : Int)), (13, HV.int .i64 0)], []⟩) (le_q rfl rfl) ?_
 clear hK K
 refine AW.lpR h (by first | exact up_then | exact up_to) (S := Int) (V := Unit) (fun a v => ⟨[(0, slE eInt p0), (1, slE eInt p1), (12, HV.int .i64 ((p0).length : Int)), (13, HV.int .i64 a)], []⟩) ?_ (X := Unit) (W := Unit) (fun a v => ⟨[], []⟩) (fun a9 w10 h => ?_) (fun a1 w2 st3 h hr4=> ?_)
 ·exact to_le (s' := ⟨[(0, slE eInt p0), (1, slE eInt p1), (12, HV.int .i64 ((p0).length : Int)), (13, HV.int .i64 0)], []⟩) (AS.le_of ⟨rfl, rfl, rfl, rfl, trivial⟩ trivial) ⟨(), rfl⟩
 ·refine AW.rgs rfl fun K hK => ?_
  refine mv rfl rfl ?_
  refine b_fin hK (s' := ⟨[(4, HV.bool true)], []⟩) (le_q rfl rfl) ?_
  clear hK K
  refine AW.ret ?_
  have h := Option.some.inj h
  subst h
  exact ret_pure (hs := [HV.bool true]) (q := HV.bool true) (.inr rfl) (resT rfl rfl) rfl trivial
 refine AW.rgs rfl fun K hK => ?_
 refine bv rfl (v_bin rfl rfl b_lss) ?_
 refine b_fin hK (s' := ⟨[(0, slE eInt p0), (1, slE eInt p1), (12, HV.int .i64 ((p0).length : Int)), (13, HV.int .i64 a1), (14, HV.bool (decide (a1 < ((p0).length : Int))))], []⟩) (le_q rfl rfl) ?_
 clear hK K
 refine AW.cseq rfl (fun hc => ?_) (fun hc => ?_)
 ·have hc := of_decide_eq_true hc
  have h := ifT hc h
  refine AW.skip ?_
  refine AW.seq (AW.block ?_)
  refine AW.rgs rfl fun K hK => ?_
  refine mv rfl rfl ?_
  refine mv rfl rfl ?_
  refine b_fin hK (s' := ⟨[(0, slE eInt p0), (1, slE eInt p1), (5, HV.int .i64 a1), (12, HV.int .i64 ((p0).length : Int)), (13, HV.int .i64 a1)], []⟩) (le_q rfl rfl) ?_
  clear hK K
  refine AW.dgs 9 follows rfl rfl fun K hK => ?_
  refine sm rfl rfl ?_
  refine sm rfl rfl ?_
  obtain ⟨x5, h6, h⟩ := bS h
  refine sv rfl (v_idxF ty35 es35 rfl rfl (idx_lt h6)) ?_
  refine sv rfl (v_loadF ty3 rfl (l_cell eInt h6 (o := 0) rfl rfl)) ?_
  refine sm rfl rfl ?_
  refine sm rfl rfl ?_
  obtain ⟨x7, h8, h⟩ := bS h
  refine sv rfl (v_idxF ty35 es35 rfl rfl (idx_lt h8)) ?_
  refine sv rfl (v_loadF ty3 rfl (l_cell eInt h8 (o := 0) rfl rfl)) ?_
  refine sv rfl (v_bin rfl rfl b_neq) ?_
  refine s_nil ?_
  refine b_fin hK (s' := ⟨[(0, slE eInt p0), (1, slE eInt p1), (12, HV.int .i64 ((p0).length : Int)), (13, HV.int .i64 a1), (24, HV.bool (decide (x5 ≠ x7)))], []⟩) (le_q rfl rfl) ?_
  clear hK K
  refine AW.cond rfl (fun hc => ?_) (fun hc => ?_)
  ·have hc := of_decide_eq_true hc
   have h := ifT hc h
   refine AW.rgs rfl fun K hK => ?_
   refine mv rfl rfl ?_
   refine b_fin hK (s' := ⟨[(4, HV.bool false)], []⟩) (le_q rfl rfl) ?_
   clear hK K
   have h := hr4 _ h
   refine AW.ret ?_
   have h := Option.some.inj h
   subst h
   exact ret_pure (hs := [HV.bool false]) (q := HV.bool false) (.inr rfl) (resT rfl rfl) rfl trivial
  have hc := of_decide_eq_false hc
  have h := ifF hc h
  refine AW.skip ?_
  refine AW.rg rfl fun K hK => ?_
  refine bv rfl (v_bin rfl rfl b_add) ?_
  refine mv rfl rfl ?_
  refine b_nil (hK _ ?_)
  clear hK K
  exact to_le (s' := ⟨[(0, slE eInt p0), (1, slE eInt p1), (12, HV.int .i64 ((p0).length : Int)), (13, HV.int .i64 (IntKind.wrap .i64 (a1 + 1)))], []⟩) (AS.le_of ⟨rfl, rfl, rfl, rfl, trivial⟩ trivial) ⟨IntKind.wrap .i64 (a1 + 1), (), h, rfl⟩
 have hc := of_decide_eq_false hc
 have h := ifF hc h
 refine AW.exit ?_
 exact to_le (s' := ⟨[], []⟩) (AS.le_of trivial trivial) ⟨(), (), h, rfl⟩

set_option maxHeartbeats 1600000 in
set_option maxRecDepth 100000 in
theorem w_word_occurrences (p0 : List UInt8) (p1 : List UInt8) : Pure Try.prog 65 [HV.str p0, HV.str p1] (· = HV.fn (.func 86) [] [HV.fptr [HV.str p1] 0, HV.fptr [HV.str p0] 0]) := by
 refine Pure.of_body Try.func65 rfl rfl (Nat.le_of_ble_eq_true rfl) fun hf => ?_
 unfold Try.f65
 dsimp only [enumS, Nat.reduceAdd]
 refine AW.rgs rfl fun K hK => ?_
 refine b_op rfl (o_box rfl rfl rfl ?_)
 refine b_op rfl (o_box rfl rfl rfl ?_)
 refine mv rfl rfl ?_
 refine b_fin hK (s' := ⟨[(2, HV.fptr [HV.str p0] 0), (3, HV.fptr [HV.str p1] 0)], []⟩) (le_q rfl rfl) ?_
 clear hK K
 refine AW.rgs rfl fun K hK => ?_
 refine bv rfl (v_func rfl rfl) ?_
 refine mv rfl rfl ?_
 refine b_fin hK (s' := ⟨[(4, HV.fn (.func 86) [] [HV.fptr [HV.str p1] 0, HV.fptr [HV.str p0] 0])], []⟩) (le_q rfl rfl) ?_
 clear hK K
 refine AW.ret ?_
 exact ret_pure (hs := [HV.fn (.func 86) [] [HV.fptr [HV.str p1] 0, HV.fptr [HV.str p0] 0]]) (q := HV.fn (.func 86) [] [HV.fptr [HV.str p1] 0, HV.fptr [HV.str p0] 0]) (.inr rfl) (resT rfl rfl) rfl ⟨trivial, ⟨⟨trivial, trivial⟩, ⟨trivial, trivial⟩, trivial⟩⟩

end Go.AW

namespace Go.AW
open Go Go.Proofs
set_option linter.unusedVariables false
set_option maxHeartbeats 1600000 in
set_option maxRecDepth 100000 in
theorem w_word_Find {p0 : List UInt8} {p1 : List UInt8} {r : (List (Int))} (h : m_word_Find p0 p1 = some r) : Pure Try.prog 39 [HV.str p0, HV.str p1] (· = slE eInt r) := by
 unfold m_word_Find at h
 refine Pure.of_body Try.func39 rfl rfl (Nat.le_of_ble_eq_true rfl) fun hf => ?_
 unfold Try.f39
 dsimp only [enumS, Nat.reduceAdd]
 refine AW.rgs rfl fun K hK => ?_
 refine mv rfl rfl ?_
 refine b_fin hK (s' := ⟨[(0, HV.str p0), (1, HV.str p1)], []⟩) (le_q rfl rfl) ?_
 clear hK K
 refine AW.rgs rfl fun K hK => ?_
 refine b_op rfl (o_alloc (fid := 39) (zs := [HV.v (.slice none 0 0)]) 39005 rfl rfl ty35 rfl (fun v1 => ?_))
 refine b_fin hK (s' := ⟨[(0, HV.str p0), (1, HV.str p1), (5, HV.ptr 39005 v1 0)], [(39005, v1, .arr 1 35 [HV.v (.slice none 0 0)])]⟩) (le_q rfl rfl) ?_
 clear hK K
 refine AW.seq ?_
 refine AW.rgs rfl fun K hK => ?_
 refine mv rfl rfl ?_
 refine mv rfl rfl ?_
 refine b_op rfl (o_call rfl rfl rfl rfl (ACallD.pure0 (w_word_occurrences p0 p1)) ?_)
 refine b_fin hK (s' := ⟨[(5, HV.ptr 39005 v1 0), (9, HV.fn (.func 86) [] [HV.fptr [HV.str p1] 0, HV.fptr [HV.str p0] 0])], [(39005, v1, .arr 1 35 [HV.v (.slice none 0 0)])]⟩) (le_q rfl rfl) ?_
 clear hK K
 refine AW.block ?_
 refine AW.to (to_ownC 39014 39005 v1 1 0 eInt.k 3 35 rfl rfl (by decide) fun v2 => ?_)
 refine AW.to (to_le (s' := ⟨[(5, HV.ptr 39005 v1 0), (9, HV.fn (.func 86) [] [HV.fptr [HV.str p1] 0, HV.fptr [HV.str p0] 0])], [(39005, v1, .arr 1 35 [HV.ar 39014 v2 eInt.k 0 ((([] : List Int)).length)]), (39014, v2, .arr eInt.k 3 (eInt.E ([] : List Int)))]⟩) (AS.le_of ⟨rfl, rfl, trivial⟩ ⟨hle rfl (by first | rfl | simp only [List.length_set, sortI_len, sortS_len]), rfl, trivial⟩) ?_)
 obtain ⟨L3, h4, h⟩ := bS h
 refine AW.rangeY (c := .ret) 39900 (fun x => [HV.int .i64 x]) h (by first | exact up_then | exact up_to) rfl (iy_word_occurrences h4) (S := (List Int)) (V := Nat) (fun a v => [(39005, v1, .arr 1 35 [HV.ar 39014 v eInt.k 0 ((a).length)]), (39014, v, .arr eInt.k 3 (eInt.E a))]) v2 (X := Unit) (W := Unit) (fun _ _ => []) (fun _ _ => rfl) (fun _ _ => rfl) rfl (fun _ => rfl) (fun a13 w14 h => ?_) (fun a15 w16 h => ?_) (fun Lo l10 v8 a5 x7 w6 st9 h => ?_)
 ·refine AW.rgs rfl fun K hK => ?_
  refine bv rfl (v_loadP ty35 rfl rfl (l_lit rfl rfl)) ?_
  refine mv rfl rfl ?_
  refine b_fin hK (s' := ⟨[(4, HV.ar 39014 w14 eInt.k 0 ((a13).length))], [(39014, w14, .arr eInt.k 3 (eInt.E a13))]⟩) (le_q rfl rfl) ?_
  clear hK K
  refine AW.to (to_frz 2 [(39014, w14, .arr eInt.k 3 (eInt.E a13))] ⟨[(4, slE eInt a13)], []⟩ ⟨⟨_, rfl, frz_slE eInt (l := a13) rfl fun _ _ => rfl⟩, trivial⟩ trivial ⟨rfl, trivial⟩ ⟨rfl, trivial⟩ ?_)
  refine AW.ret ?_
  have h := Option.some.inj h
  subst h
  exact ret_pure (hs := [slE eInt a13]) (q := slE eInt a13) (.inr rfl) (resT rfl rfl) rfl (clean_slE fun _ _ => ⟨trivial, trivial⟩)
 ·cases h
 refine AW.rg rfl fun K hK => ?_
 refine mv rfl rfl ?_
 refine b_nil (hK _ ?_)
 clear hK K
 refine ⟨rfl, rfl, ?_⟩
 refine AW.block ?_
 refine AW.rg rfl fun K hK => ?_
 refine bv rfl (v_loadP ty35 rfl rfl (l_lit rfl rfl)) ?_
 refine mv rfl rfl ?_
 refine b_op rfl (o_bsl rfl rfl (as_of (cs := [HV.int .i64 x7]) ty35 ty3 rfl rfl rfl rfl rfl) ?_)
 obtain ⟨h12, h⟩ := ifN h
 refine b_op rfl (o_appE eInt (l := a5) (m := [x7]) rfl rfl ty35 ty35 ty3 rfl rfl rfl rfl rfl h12 (fun v11 => ?_))
 refine b_op rfl (o_store (cs := [HV.ar 39014 v11 eInt.k 0 ((a5 ++ [x7]).length)]) (zs := [HV.ar 39014 v11 eInt.k 0 ((a5 ++ [x7]).length)]) rfl rfl rfl ty35 rfl rfl rfl rfl rfl ?_)
 refine b_nil (hK _ ?_)
 clear hK K
 exact ⟨a5 ++ [x7], v11, h, (AS.le_of trivial ⟨rfl, rfl, rfl, trivial⟩)⟩

set_option maxHeartbeats 1600000 in
set_option maxRecDepth 100000 in
theorem w_syncmark_Occurs {p0 : List UInt8} {p1 : List UInt8} {r : (List (Int))} (h : m_syncmark_Occurs p0 p1 = some r) : Pure Try.prog 17 [HV.str p0, HV.str p1] (· = slE eInt r) := by
 unfold m_syncmark_Occurs at h
 refine Pure.of_body Try.func17 rfl rfl (Nat.le_of_ble_eq_true rfl) fun hf => ?_
 unfold Try.f17
 dsimp only [enumS, Nat.reduceAdd]
 refine AW.rgs rfl fun K hK => ?_
 refine mv rfl rfl ?_
 refine b_fin hK (s' := ⟨[(0, HV.str p0), (1, HV.str p1)], []⟩) (le_q rfl rfl) ?_
 clear hK K
 refine AW.rgs rfl fun K hK => ?_
 refine mv rfl rfl ?_
 refine mv rfl rfl ?_
 obtain ⟨x1, h2, h⟩ := bS h
 refine b_op rfl (o_call rfl rfl rfl rfl (ACallD.pure0 (w_word_Find h2)) ?_)
 refine mv rfl rfl ?_
 refine b_fin hK (s' := ⟨[(4, slE eInt x1)], []⟩) (le_q rfl rfl) ?_
 clear hK K
 refine AW.ret ?_
 have h := Option.some.inj h
 subst h
 exact ret_pure (hs := [slE eInt x1]) (q := slE eInt x1) (.inr rfl) (resT rfl rfl) rfl (clean_slE fun _ _ => ⟨trivial, trivial⟩)

set_option maxHeartbeats 1600000 in
set_option maxRecDepth 100000 in
theorem w_syncmark_Overlaps {p0 : List UInt8} {r : (List (Int))} (h : m_syncmark_Overlaps p0 = some r) : Pure Try.prog 19 [HV.str p0] (· = slE eInt r) := by
 unfold m_syncmark_Overlaps at h
 refine Pure.of_body Try.func19 rfl rfl (Nat.le_of_ble_eq_true rfl) fun hf => ?_
 unfold Try.f19
 dsimp only [enumS, Nat.reduceAdd]
 refine AW.rgs rfl fun K hK => ?_
 refine mv rfl rfl ?_
 refine b_fin hK (s' := ⟨[(0, HV.str p0)], []⟩) (le_q rfl rfl) ?_
 clear hK K
 refine AW.rgs rfl fun K hK => ?_
 refine mv rfl rfl ?_
 refine b_fin hK (s' := ⟨[(0, HV.str p0), (3, HV.v (.slice none 0 0))], []⟩) (le_q rfl rfl) ?_
 clear hK K
 refine AW.seq ?_
 refine AW.rgs rfl fun K hK => ?_
 refine mv rfl rfl ?_
 refine b_fin hK (s' := ⟨[(0, HV.str p0), (3, HV.v (.slice none 0 0)), (4, HV.int .i64 1)], []⟩) (le_q rfl rfl) ?_
 clear hK K
 refine AW.lpX h (by first | exact up_then | exact up_to) (S := Int × (List Int)) (V := Nat) (fun a v => ⟨[(0, HV.str p0), (3, HV.ar 19019 v eInt.k 0 ((a.2).length)), (4, HV.int .i64 a.1)], [(19019, v, .arr eInt.k 3 (eInt.E a.2))]⟩) ?_ (X := (List Int)) (W := Nat) (fun a v => ⟨[(3, HV.ar 19019 v eInt.k 0 ((a).length))], [(19019, v, .arr eInt.k 3 (eInt.E a))]⟩) (fun a14 w15 h => ?_) (fun a1 w2 st3 h => ?_)
 ·refine to_bind (to_own 19019 3 eInt.k 3 rfl fun v13 => ?_)
  exact to_le (s' := ⟨[(0, HV.str p0), (3, HV.ar 19019 v13 eInt.k 0 ((([] : List Int)).length)), (4, HV.int .i64 1)], [(19019, v13, .arr eInt.k 3 (eInt.E ([] : List Int)))]⟩) (AS.le_of ⟨rfl, arl (by first | rfl | simp only [List.length_set, sortI_len, sortS_len]), rfl, trivial⟩ ⟨rfl, trivial⟩) ⟨v13, rfl⟩
 ·refine AW.rgs rfl fun K hK => ?_
  refine mv rfl rfl ?_
  refine mv rfl rfl ?_
  refine b_fin hK (s' := ⟨[(2, HV.ar 19019 w15 eInt.k 0 ((a14).length))], [(19019, w15, .arr eInt.k 3 (eInt.E a14))]⟩) (le_q rfl rfl) ?_
  clear hK K
  refine AW.to (to_frz 2 [(19019, w15, .arr eInt.k 3 (eInt.E a14))] ⟨[(2, slE eInt a14)], []⟩ ⟨⟨_, rfl, frz_slE eInt (l := a14) rfl fun _ _ => rfl⟩, trivial⟩ trivial ⟨rfl, trivial⟩ ⟨rfl, trivial⟩ ?_)
  refine AW.ret ?_
  have h := Option.some.inj h
  subst h
  exact ret_pure (hs := [slE eInt a14]) (q := slE eInt a14) (.inr rfl) (resT rfl rfl) rfl (clean_slE fun _ _ => ⟨trivial, trivial⟩)
 refine AW.seq ?_
 refine AW.rgs rfl fun K hK => ?_
 refine mv rfl rfl ?_
 refine mv rfl rfl ?_
 refine bv rfl (v_lenS rfl rfl ty9 rfl) ?_
 refine bv rfl (v_bin rfl rfl b_lss) ?_
 refine b_fin hK (s' := ⟨[(0, HV.str p0), (3, HV.ar 19019 w2 eInt.k 0 ((a1.2).length)), (4, HV.int .i64 a1.1), (8, HV.bool (decide (a1.1 < ((p0).length : Int))))], [(19019, w2, .arr eInt.k 3 (eInt.E a1.2))]⟩) (le_q rfl rfl) ?_
 clear hK K
 refine AW.cond rfl (fun hc => ?_) (fun hc => ?_)
 ·have hc := of_decide_eq_true hc
  have h := ifT hc h
  refine AW.skip ?_
  refine AW.seqJ h (S := (List Int)) (V := Nat) (fun a v => ⟨[(0, HV.str p0), (3, HV.ar 19019 v eInt.k 0 ((a).length)), (4, HV.int .i64 a1.1)], [(19019, v, .arr eInt.k 3 (eInt.E a))]⟩) (fun a5 w6 h => ?_) (fun k7 h => ?_)
  ·refine AW.rg rfl fun K hK => ?_
   refine mv rfl rfl ?_
   refine bv rfl (v_bin rfl rfl b_add) ?_
   refine mv rfl rfl ?_
   refine b_nil (hK _ ?_)
   clear hK K
   exact to_le (s' := ⟨[(0, HV.str p0), (3, HV.ar 19019 w6 eInt.k 0 ((a5).length)), (4, HV.int .i64 (IntKind.wrap .i64 (a1.1 + 1)))], [(19019, w6, .arr eInt.k 3 (eInt.E a5))]⟩) (AS.le_of ⟨rfl, rfl, rfl, trivial⟩ ⟨rfl, trivial⟩) ⟨(IntKind.wrap .i64 (a1.1 + 1), a5), w6, h, rfl⟩
  refine AW.block ?_
  refine AW.rgs rfl fun K hK => ?_
  refine mv rfl rfl ?_
  refine mv rfl rfl ?_
  refine mv rfl rfl ?_
  obtain ⟨h8, h⟩ := ifN h
  refine bv rfl (v_sliceS ty9 rfl rfl rfl h8) ?_
  obtain ⟨x9, h10, h⟩ := bS h
  refine b_op rfl (o_call rfl rfl rfl rfl (ACallD.pure0 (w_strings_HasSuffix h10)) ?_)
  refine b_fin hK (s' := ⟨[(0, HV.str p0), (3, HV.ar 19019 w2 eInt.k 0 ((a1.2).length)), (4, HV.int .i64 a1.1), (15, HV.bool x9)], [(19019, w2, .arr eInt.k 3 (eInt.E a1.2))]⟩) (le_q rfl rfl) ?_
  clear hK K
  refine AW.cond rfl (fun hc => ?_) (fun hc => ?_)
  ·have h := ifT hc h
   refine AW.rg rfl fun K hK => ?_
   refine mv rfl rfl ?_
   refine mv rfl rfl ?_
   refine b_op rfl (o_bsl rfl rfl (as_of (cs := [HV.int .i64 a1.1]) ty35 ty3 rfl rfl rfl rfl rfl) ?_)
   obtain ⟨h12, h⟩ := ifN h
   refine b_op rfl (o_appE eInt (l := a1.2) (m := [a1.1]) rfl rfl ty35 ty35 ty3 rfl rfl rfl rfl rfl h12 (fun v11 => ?_))
   refine mv rfl rfl ?_
   refine b_nil (hK _ ?_)
   clear hK K
   exact to_le (s' := ⟨[(0, HV.str p0), (3, HV.ar 19019 v11 eInt.k 0 ((a1.2 ++ [a1.1]).length)), (4, HV.int .i64 a1.1)], [(19019, v11, .arr eInt.k 3 (eInt.E (a1.2 ++ [a1.1])))]⟩) (AS.le_of ⟨rfl, rfl, rfl, trivial⟩ ⟨rfl, trivial⟩) ⟨a1.2 ++ [a1.1], v11, h, rfl⟩
  have h := ifF (bF' hc) h
  refine AW.skip ?_
  exact to_le (s' := ⟨[(0, HV.str p0), (3, HV.ar 19019 w2 eInt.k 0 ((a1.2).length)), (4, HV.int .i64 a1.1)], [(19019, w2, .arr eInt.k 3 (eInt.E a1.2))]⟩) (AS.le_of ⟨rfl, rfl, rfl, trivial⟩ ⟨rfl, trivial⟩) ⟨a1.2, w2, h, rfl⟩
 have hc := of_decide_eq_false hc
 have h := ifF hc h
 refine AW.exit ?_
 exact to_le (s' := ⟨[(3, HV.ar 19019 w2 eInt.k 0 ((a1.2).length))], [(19019, w2, .arr eInt.k 3 (eInt.E a1.2))]⟩) (AS.le_of ⟨rfl, trivial⟩ ⟨rfl, trivial⟩) ⟨a1.2, w2, h, rfl⟩

set_option maxHeartbeats 1600000 in
set_option maxRecDepth 100000 in
theorem w_law54_awakeG  {r : Bool} (h : m_law54_awakeG  = some r) : Pure Try.prog 9 [] (· = HV.bool r) := by
 unfold m_law54_awakeG at h
 refine Pure.of_body Try.func9 rfl rfl (Nat.le_of_ble_eq_true rfl) fun hf => ?_
 unfold Try.f9
 dsimp only [enumS, Nat.reduceAdd]
 refine AW.rgs rfl fun K hK => ?_
 refine mv rfl rfl ?_
 refine b_fin hK (s' := ⟨[], []⟩) (le_q rfl rfl) ?_
 clear hK K
 refine AW.rgs rfl fun K hK => ?_
 refine b_op rfl (o_build (cs := [HV.int .i64 0, HV.int .i64 0, HV.int .i64 0]) rfl (bl_of ty53 rfl rfl rfl rfl) ?_)
 refine b_op rfl (o_build (cs := [HV.int .i64 0, HV.int .i64 1, HV.int .i64 1]) rfl (bl_of ty53 rfl rfl rfl rfl) ?_)
 refine b_op rfl (o_build (cs := [HV.int .i64 1, HV.int .i64 0, HV.int .i64 0]) rfl (bl_of ty53 rfl rfl rfl rfl) ?_)
 refine b_op rfl (o_bsl rfl rfl (as_of (cs := [HV.int .i64 0, HV.int .i64 0, HV.int .i64 0, HV.int .i64 0, HV.int .i64 1, HV.int .i64 1, HV.int .i64 1, HV.int .i64 0, HV.int .i64 0]) ty22 ty53 rfl rfl rfl rfl rfl) ?_)
 refine b_op rfl (o_build (cs := [HV.int .i64 2, HV.int .i64 2, slE eFromLabelTo [(0, 0, 0), (0, 1, 1), (1, 0, 0)]]) rfl (bl_of ty24 rfl rfl rfl rfl) ?_)
 refine b_op rfl (o_alloc (fid := 9) (zs := [HV.int .i64 0, HV.int .i64 0, HV.v (.slice none 0 0)]) 9001 rfl rfl ty24 rfl (fun v1 => ?_))
 refine b_op rfl (o_store (cs := [HV.int .i64 2, HV.int .i64 2, slE eFromLabelTo [(0, 0, 0), (0, 1, 1), (1, 0, 0)]]) (zs := [HV.int .i64 2, HV.int .i64 2, slE eFromLabelTo [(0, 0, 0), (0, 1, 1), (1, 0, 0)]]) rfl rfl rfl ty24 rfl rfl rfl rfl rfl ?_)
 refine b_fin hK (s' := ⟨[(1, HV.ptr 9001 v1 0)], [(9001, v1, .arr 3 24 [HV.int .i64 2, HV.int .i64 2, slE eFromLabelTo [(0, 0, 0), (0, 1, 1), (1, 0, 0)]])]⟩) (le_q rfl rfl) ?_
 clear hK K
 refine AW.rgs rfl fun K hK => ?_
 refine bv rfl (v_loadP ty24 rfl rfl (l_litA rfl (Nat.le_of_ble_eq_true rfl) rfl)) ?_
 obtain ⟨x2, h3, h⟩ := bS h
 refine b_op rfl (o_call rfl rfl rfl rfl (ACallD.pure0 (w_syncmark_Valid h3)) ?_)
 refine mv rfl rfl ?_
 refine bv rfl (v_extract rfl rfl) ?_
 refine bv rfl (v_extract rfl rfl) ?_
 refine mv rfl rfl ?_
 refine mv rfl rfl ?_
 refine b_fin hK (s' := ⟨[(1, HV.ptr 9001 v1 0), (2, HV.bool x2.1), (3, HV.int .i64 x2.2)], [(9001, v1, .arr 3 24 [HV.int .i64 2, HV.int .i64 2, slE eFromLabelTo [(0, 0, 0), (0, 1, 1), (1, 0, 0)]])]⟩) (le_q rfl rfl) ?_
 clear hK K
 refine AW.rgs rfl fun K hK => ?_
 refine bv rfl (v_loadP ty24 rfl rfl (l_litA rfl (Nat.le_of_ble_eq_true rfl) rfl)) ?_
 obtain ⟨x4, h5, h⟩ := bS h
 refine b_op rfl (o_call rfl rfl rfl rfl (ACallD.pure0 (w_syncmark_Bad h5)) ?_)
 refine mv rfl rfl ?_
 refine bv rfl (v_extract rfl rfl) ?_
 refine bv rfl (v_extract rfl rfl) ?_
 refine bv rfl (v_extract rfl rfl) ?_
 refine mv rfl rfl ?_
 refine mv rfl rfl ?_
 refine mv rfl rfl ?_
 refine b_fin hK (s' := ⟨[(1, HV.ptr 9001 v1 0), (2, HV.bool x2.1), (3, HV.int .i64 x2.2), (4, HV.str x4.1), (5, HV.bool x4.2.1), (6, HV.int .i64 x4.2.2)], [(9001, v1, .arr 3 24 [HV.int .i64 2, HV.int .i64 2, slE eFromLabelTo [(0, 0, 0), (0, 1, 1), (1, 0, 0)]])]⟩) (le_q rfl rfl) ?_
 clear hK K
 refine AW.rgs rfl fun K hK => ?_
 refine bv rfl (v_loadP ty24 rfl rfl (l_litA rfl (Nat.le_of_ble_eq_true rfl) rfl)) ?_
 obtain ⟨x6, h7, h⟩ := bS h
 refine b_op rfl (o_call rfl rfl rfl rfl (ACallD.pure0 (w_syncmark_Valid h7)) ?_)
 refine mv rfl rfl ?_
 refine bv rfl (v_extract rfl rfl) ?_
 refine bv rfl (v_extract rfl rfl) ?_
 refine mv rfl rfl ?_
 refine mv rfl rfl ?_
 refine b_fin hK (s' := ⟨[(1, HV.ptr 9001 v1 0), (2, HV.bool x2.1), (3, HV.int .i64 x2.2), (4, HV.str x4.1), (5, HV.bool x4.2.1), (6, HV.int .i64 x4.2.2), (7, HV.bool x6.1), (8, HV.int .i64 x6.2)], [(9001, v1, .arr 3 24 [HV.int .i64 2, HV.int .i64 2, slE eFromLabelTo [(0, 0, 0), (0, 1, 1), (1, 0, 0)]])]⟩) (le_q rfl rfl) ?_
 clear hK K
 refine AW.rgs rfl fun K hK => ?_
 refine bv rfl (v_loadP ty24 rfl rfl (l_litA rfl (Nat.le_of_ble_eq_true rfl) rfl)) ?_
 obtain ⟨x8, h9, h⟩ := bS h
 refine b_op rfl (o_call rfl rfl rfl rfl (ACallD.pure0 (w_syncmark_Free h9)) ?_)
 refine mv rfl rfl ?_
 refine bv rfl (v_extract rfl rfl) ?_
 refine bv rfl (v_extract rfl rfl) ?_
 refine mv rfl rfl ?_
 refine mv rfl rfl ?_
 refine b_fin hK (s' := ⟨[(2, HV.bool x2.1), (3, HV.int .i64 x2.2), (4, HV.str x4.1), (5, HV.bool x4.2.1), (6, HV.int .i64 x4.2.2), (7, HV.bool x6.1), (8, HV.int .i64 x6.2), (9, HV.bool x8.1), (10, HV.int .i64 x8.2)], []⟩) (le_q rfl rfl) ?_
 clear hK K
 refine AW.seqJ h (S := Bool) (V := Unit) (fun a v => ⟨[(0, HV.bool a)], []⟩) (fun a10 w11 h => ?_) (fun k12 h => ?_)
 ·refine AW.ret ?_
  have h := Option.some.inj h
  subst h
  exact ret_pure (hs := [HV.bool a10]) (q := HV.bool a10) (.inr rfl) (resT rfl rfl) rfl trivial
 refine AW.rg rfl fun K hK => ?_
 refine mv rfl rfl ?_
 refine bv rfl (v_bin rfl rfl b_eql) ?_
 refine mv rfl rfl ?_
 by_cases hg30 : x2.2 = 0
 ·have h := ifT hg30 h
  refine b_T rfl rfl rfl rfl (decide_eq_true hg30) (o_val rfl (mv_val rfl rfl).2 ?_)
  refine b_T rfl rfl rfl rfl rfl (o_val rfl (v_bin rfl rfl b_eql) ?_)
  refine bv rfl (v_pickT rfl rfl rfl) ?_
  refine mv rfl rfl ?_
  by_cases hg29 : x4.2.2 = 0
  ·have h := ifT hg29 h
   refine b_T rfl rfl rfl rfl (decide_eq_true hg29) (o_val rfl (mv_val rfl rfl).2 ?_)
   refine b_T rfl rfl rfl rfl rfl (o_val rfl (v_bin rfl rfl b_eql) ?_)
   refine bv rfl (v_pickT rfl rfl rfl) ?_
   refine mv rfl rfl ?_
   by_cases hg28 : x6.2 = 0
   ·have h := ifT hg28 h
    refine b_T rfl rfl rfl rfl (decide_eq_true hg28) (o_val rfl (mv_val rfl rfl).2 ?_)
    refine b_T rfl rfl rfl rfl rfl (o_val rfl (v_bin rfl rfl b_eql) ?_)
    refine bv rfl (v_pickT rfl rfl rfl) ?_
    refine mv rfl rfl ?_
    by_cases hg27 : x8.2 = 0
    ·have h := ifT hg27 h
     refine b_T rfl rfl rfl rfl (decide_eq_true hg27) (o_val rfl (mv_val rfl rfl).2 ?_)
     refine b_T rfl rfl rfl rfl rfl (o_val rfl (v_not rfl) ?_)
     refine bv rfl (v_pickT rfl rfl rfl) ?_
     refine mv rfl rfl ?_
     by_cases hg26 : (!x2.1) = true
     ·have h := ifT hg26 h
      refine b_T rfl rfl rfl rfl hg26 (o_val rfl (mv_val rfl rfl).2 ?_)
      refine b_T rfl rfl rfl rfl rfl (o_val rfl (v_bin rfl rfl b_seql) ?_)
      refine bv rfl (v_pickT rfl rfl rfl) ?_
      refine mv rfl rfl ?_
      by_cases hg25 : x4.1 = [49]
      ·have h := ifT hg25 h
       refine b_T rfl rfl rfl rfl (decide_eq_true hg25) (o_val rfl (mv_val rfl rfl).2 ?_)
       refine bv rfl (v_pickT rfl rfl rfl) ?_
       refine mv rfl rfl ?_
       by_cases hg24 : x4.2.1 = true
       ·have h := ifT hg24 h
        refine b_T rfl rfl rfl rfl hg24 (o_val rfl (mv_val rfl rfl).2 ?_)
        refine bv rfl (v_pickT rfl rfl rfl) ?_
        refine mv rfl rfl ?_
        by_cases hg23 : x6.1 = true
        ·have h := ifT hg23 h
         refine b_T rfl rfl rfl rfl hg23 (o_val rfl (mv_val rfl rfl).2 ?_)
         refine bv rfl (v_pickT rfl rfl rfl) ?_
         refine mv rfl rfl ?_
         by_cases hg22 : x8.1 = true
         ·have h := ifT hg22 h
          obtain ⟨x13, h14, h⟩ := bS h
          refine b_T rfl rfl rfl rfl hg22 (o_call rfl rfl rfl rfl (ACallD.pure0 (w_syncmark_Overlaps h14)) ?_)
          refine b_T rfl rfl rfl rfl rfl (o_bsl rfl rfl (as_of (cs := [HV.int .i64 1]) ty35 ty3 rfl rfl rfl rfl rfl) ?_)
          obtain ⟨x15, h16, h⟩ := bS h
          refine b_T rfl rfl rfl rfl rfl (o_call rfl rfl rfl rfl (ACallD.pure0 (w_slices_Equal_Lint_int h16)) ?_)
          refine bv rfl (v_pickT rfl rfl rfl) ?_
          refine mv rfl rfl ?_
          by_cases hg21 : x15 = true
          ·have h := ifT hg21 h
           obtain ⟨x17, h18, h⟩ := bS h
           refine b_T rfl rfl rfl rfl hg21 (o_call rfl rfl rfl rfl (ACallD.pure0 (w_syncmark_Occurs h18)) ?_)
           refine b_T rfl rfl rfl rfl rfl (o_bsl rfl rfl (as_of (cs := [HV.int .i64 0, HV.int .i64 1, HV.int .i64 2, HV.int .i64 3]) ty35 ty3 rfl rfl rfl rfl rfl) ?_)
           obtain ⟨x19, h20, h⟩ := bS h
           refine b_T rfl rfl rfl rfl rfl (o_call rfl rfl rfl rfl (ACallD.pure0 (w_slices_Equal_Lint_int h20)) ?_)
           refine bv rfl (v_pickT rfl rfl rfl) ?_
           refine mv rfl rfl ?_
           refine b_nil (hK _ ?_)
           clear hK K
           exact to_le (s' := ⟨[(0, HV.bool x19)], []⟩) (AS.le_of ⟨rfl, trivial⟩ trivial) ⟨x19, (), h, rfl⟩
          have h := ifF hg21 h
          refine b_F rfl rfl rfl rfl rfl (bF hg21) ?_
          refine b_F rfl rfl rfl rfl rfl rfl ?_
          refine b_F rfl rfl rfl rfl rfl rfl ?_
          refine bv rfl (v_pickF rfl rfl rfl) ?_
          refine mv rfl rfl ?_
          refine b_nil (hK _ ?_)
          clear hK K
          exact to_le (s' := ⟨[(0, HV.bool false)], []⟩) (AS.le_of ⟨rfl, trivial⟩ trivial) ⟨false, (), h, rfl⟩
         have h := ifF hg22 h
         refine b_F rfl rfl rfl rfl rfl (bF hg22) ?_
         refine b_F rfl rfl rfl rfl rfl rfl ?_
         refine b_F rfl rfl rfl rfl rfl rfl ?_
         refine bv rfl (v_pickF rfl rfl rfl) ?_
         refine mv rfl rfl ?_
         refine b_F rfl rfl rfl rfl rfl rfl ?_
         refine b_F rfl rfl rfl rfl rfl rfl ?_
         refine b_F rfl rfl rfl rfl rfl rfl ?_
         refine bv rfl (v_pickF rfl rfl rfl) ?_
         refine mv rfl rfl ?_
         refine b_nil (hK _ ?_)
         clear hK K
         exact to_le (s' := ⟨[(0, HV.bool false)], []⟩) (AS.le_of ⟨rfl, trivial⟩ trivial) ⟨false, (), h, rfl⟩
        have h := ifF hg23 h
        refine b_F rfl rfl rfl rfl rfl (bF hg23) ?_
        refine bv rfl (v_pickF rfl rfl rfl) ?_
        refine mv rfl rfl ?_
        refine b_F rfl rfl rfl rfl rfl rfl ?_
        refine b_F rfl rfl rfl rfl rfl rfl ?_
        refine b_F rfl rfl rfl rfl rfl rfl ?_
        refine bv rfl (v_pickF rfl rfl rfl) ?_
        refine mv rfl rfl ?_
        refine b_F rfl rfl rfl rfl rfl rfl ?_
        refine b_F rfl rfl rfl rfl rfl rfl ?_
        refine b_F rfl rfl rfl rfl rfl rfl ?_
        refine bv rfl (v_pickF rfl rfl rfl) ?_
        refine mv rfl rfl ?_
        refine b_nil (hK _ ?_)
        clear hK K
        exact to_le (s' := ⟨[(0, HV.bool false)], []⟩) (AS.le_of ⟨rfl, trivial⟩ trivial) ⟨false, (), h, rfl⟩
       have h := ifF hg24 h
       refine b_F rfl rfl rfl rfl rfl (bF hg24) ?_
       refine bv rfl (v_pickF rfl rfl rfl) ?_
       refine mv rfl rfl ?_
       refine b_F rfl rfl rfl rfl rfl rfl ?_
       refine bv rfl (v_pickF rfl rfl rfl) ?_
       refine mv rfl rfl ?_
       refine b_F rfl rfl rfl rfl rfl rfl ?_
       refine b_F rfl rfl rfl rfl rfl rfl ?_
       refine b_F rfl rfl rfl rfl rfl rfl ?_
       refine bv rfl (v_pickF rfl rfl rfl) ?_
       refine mv rfl rfl ?_
       refine b_F rfl rfl rfl rfl rfl rfl ?_
       refine b_F rfl rfl rfl rfl rfl rfl ?_
       refine b_F rfl rfl rfl rfl rfl rfl ?_
       refine bv rfl (v_pickF rfl rfl rfl) ?_
       refine mv rfl rfl ?_
       refine b_nil (hK _ ?_)
       clear hK K
       exact to_le (s' := ⟨[(0, HV.bool false)], []⟩) (AS.le_of ⟨rfl, trivial⟩ trivial) ⟨false, (), h, rfl⟩
      have h := ifF hg25 h
      refine b_F rfl rfl rfl rfl rfl (decide_eq_false hg25) ?_
      refine bv rfl (v_pickF rfl rfl rfl) ?_
      refine mv rfl rfl ?_
      refine b_F rfl rfl rfl rfl rfl rfl ?_
      refine bv rfl (v_pickF rfl rfl rfl) ?_
      refine mv rfl rfl ?_
      refine b_F rfl rfl rfl rfl rfl rfl ?_
      refine bv rfl (v_pickF rfl rfl rfl) ?_
      refine mv rfl rfl ?_
      refine b_F rfl rfl rfl rfl rfl rfl ?_
      refine b_F rfl rfl rfl rfl rfl rfl ?_
      refine b_F rfl rfl rfl rfl rfl rfl ?_
      refine bv rfl (v_pickF rfl rfl rfl) ?_
      refine mv rfl rfl ?_
      refine b_F rfl rfl rfl rfl rfl rfl ?_
      refine b_F rfl rfl rfl rfl rfl rfl ?_
      refine b_F rfl rfl rfl rfl rfl rfl ?_
      refine bv rfl (v_pickF rfl rfl rfl) ?_
      refine mv rfl rfl ?_
      refine b_nil (hK _ ?_)
      clear hK K
      exact to_le (s' := ⟨[(0, HV.bool false)], []⟩) (AS.le_of ⟨rfl, trivial⟩ trivial) ⟨false, (), h, rfl⟩
     have h := ifF hg26 h
     refine b_F rfl rfl rfl rfl rfl (bF hg26) ?_
     refine b_F rfl rfl rfl rfl rfl rfl ?_
     refine bv rfl (v_pickF rfl rfl rfl) ?_
     refine mv rfl rfl ?_
     refine b_F rfl rfl rfl rfl rfl rfl ?_
     refine bv rfl (v_pickF rfl rfl rfl) ?_
     refine mv rfl rfl ?_
     refine b_F rfl rfl rfl rfl rfl rfl ?_
     refine bv rfl (v_pickF rfl rfl rfl) ?_
     refine mv rfl rfl ?_
     refine b_F rfl rfl rfl rfl rfl rfl ?_
     refine bv rfl (v_pickF rfl rfl rfl) ?_
     refine mv rfl rfl ?_
     refine b_F rfl rfl rfl rfl rfl rfl ?_
     refine b_F rfl rfl rfl rfl rfl rfl ?_
     refine b_F rfl rfl rfl rfl rfl rfl ?_
     refine bv rfl (v_pickF rfl rfl rfl) ?_
     refine mv rfl rfl ?_
     refine b_F rfl rfl rfl rfl rfl rfl ?_
     refine b_F rfl rfl rfl rfl rfl rfl ?_
     refine b_F rfl rfl rfl rfl rfl rfl ?_
     refine bv rfl (v_pickF rfl rfl rfl) ?_
     refine mv rfl rfl ?_
     refine b_nil (hK _ ?_)
     clear hK K
     exact to_le (s' := ⟨[(0, HV.bool false)], []⟩) (AS.le_of ⟨rfl, trivial⟩ trivial) ⟨false, (), h, rfl⟩
    have h := ifF hg27 h
    refine b_F rfl rfl rfl rfl rfl (decide_eq_false hg27) ?_
    refine b_F rfl rfl rfl rfl rfl rfl ?_
    refine bv rfl (v_pickF rfl rfl rfl) ?_
    refine mv rfl rfl ?_
    refine b_F rfl rfl rfl rfl rfl rfl ?_
    refine b_F rfl rfl rfl rfl rfl rfl ?_
    refine bv rfl (v_pickF rfl rfl rfl) ?_
    refine mv rfl rfl ?_
    refine b_F rfl rfl rfl rfl rfl rfl ?_
    refine bv rfl (v_pickF rfl rfl rfl) ?_
    refine mv rfl rfl ?_
    refine b_F rfl rfl rfl rfl rfl rfl ?_
    refine bv rfl (v_pickF rfl rfl rfl) ?_
    refine mv rfl rfl ?_
    refine b_F rfl rfl rfl rfl rfl rfl ?_
    refine bv rfl (v_pickF rfl rfl rfl) ?_
    refine mv rfl rfl ?_
    refine b_F rfl rfl rfl rfl rfl rfl ?_
    refine b_F rfl rfl rfl rfl rfl rfl ?_
    refine b_F rfl rfl rfl rfl rfl rfl ?_
    refine bv rfl (v_pickF rfl rfl rfl) ?_
    refine mv rfl rfl ?_
    refine b_F rfl rfl rfl rfl rfl rfl ?_
    refine b_F rfl rfl rfl rfl rfl rfl ?_
    refine b_F rfl rfl rfl rfl rfl rfl ?_
    refine bv rfl (v_pickF rfl rfl rfl) ?_
    refine mv rfl rfl ?_
    refine b_nil (hK _ ?_)
    clear hK K
    exact to_le (s' := ⟨[(0, HV.bool false)], []⟩) (AS.le_of ⟨rfl, trivial⟩ trivial) ⟨false, (), h, rfl⟩
   have h := ifF hg28 h
   refine b_F rfl rfl rfl rfl rfl (decide_eq_false hg28) ?_
   refine b_F rfl rfl rfl rfl rfl rfl ?_
   refine bv rfl (v_pickF rfl rfl rfl) ?_
   refine mv rfl rfl ?_
   refine b_F rfl rfl rfl rfl rfl rfl ?_
   refine b_F rfl rfl rfl rfl rfl rfl ?_
   refine bv rfl (v_pickF rfl rfl rfl) ?_
   refine mv rfl rfl ?_
   refine b_F rfl rfl rfl rfl rfl rfl ?_
   refine b_F rfl rfl rfl rfl rfl rfl ?_
   refine bv rfl (v_pickF rfl rfl rfl) ?_
   refine mv rfl rfl ?_
   refine b_F rfl rfl rfl rfl rfl rfl ?_
   refine bv rfl (v_pickF rfl rfl rfl) ?_
   refine mv rfl rfl ?_
   refine b_F rfl rfl rfl rfl rfl rfl ?_
   refine bv rfl (v_pickF rfl rfl rfl) ?_
   refine mv rfl rfl ?_
   refine b_F rfl rfl rfl rfl rfl rfl ?_
   refine bv rfl (v_pickF rfl rfl rfl) ?_
   refine mv rfl rfl ?_
   refine b_F rfl rfl rfl rfl rfl rfl ?_
   refine b_F rfl rfl rfl rfl rfl rfl ?_
   refine b_F rfl rfl rfl rfl rfl rfl ?_
   refine bv rfl (v_pickF rfl rfl rfl) ?_
   refine mv rfl rfl ?_
   refine b_F rfl rfl rfl rfl rfl rfl ?_
   refine b_F rfl rfl rfl rfl rfl rfl ?_
   refine b_F rfl rfl rfl rfl rfl rfl ?_
   refine bv rfl (v_pickF rfl rfl rfl) ?_
   refine mv rfl rfl ?_
   refine b_nil (hK _ ?_)
   clear hK K
   exact to_le (s' := ⟨[(0, HV.bool false)], []⟩) (AS.le_of ⟨rfl, trivial⟩ trivial) ⟨false, (), h, rfl⟩
  have h := ifF hg29 h
  refine b_F rfl rfl rfl rfl rfl (decide_eq_false hg29) ?_
  refine b_F rfl rfl rfl rfl rfl rfl ?_
  refine bv rfl (v_pickF rfl rfl rfl) ?_
  refine mv rfl rfl ?_
  refine b_F rfl rfl rfl rfl rfl rfl ?_
  refine b_F rfl rfl rfl rfl rfl rfl ?_
  refine bv rfl (v_pickF rfl rfl rfl) ?_
  refine mv rfl rfl ?_
  refine b_F rfl rfl rfl rfl rfl rfl ?_
  refine b_F rfl rfl rfl rfl rfl rfl ?_
  refine bv rfl (v_pickF rfl rfl rfl) ?_
  refine mv rfl rfl ?_
  refine b_F rfl rfl rfl rfl rfl rfl ?_
  refine b_F rfl rfl rfl rfl rfl rfl ?_
  refine bv rfl (v_pickF rfl rfl rfl) ?_
  refine mv rfl rfl ?_
  refine b_F rfl rfl rfl rfl rfl rfl ?_
  refine bv rfl (v_pickF rfl rfl rfl) ?_
  refine mv rfl rfl ?_
  refine b_F rfl rfl rfl rfl rfl rfl ?_
  refine bv rfl (v_pickF rfl rfl rfl) ?_
  refine mv rfl rfl ?_
  refine b_F rfl rfl rfl rfl rfl rfl ?_
  refine bv rfl (v_pickF rfl rfl rfl) ?_
  refine mv rfl rfl ?_
  refine b_F rfl rfl rfl rfl rfl rfl ?_
  refine b_F rfl rfl rfl rfl rfl rfl ?_
  refine b_F rfl rfl rfl rfl rfl rfl ?_
  refine bv rfl (v_pickF rfl rfl rfl) ?_
  refine mv rfl rfl ?_
  refine b_F rfl rfl rfl rfl rfl rfl ?_
  refine b_F rfl rfl rfl rfl rfl rfl ?_
  refine b_F rfl rfl rfl rfl rfl rfl ?_
  refine bv rfl (v_pickF rfl rfl rfl) ?_
  refine mv rfl rfl ?_
  refine b_nil (hK _ ?_)
  clear hK K
  exact to_le (s' := ⟨[(0, HV.bool false)], []⟩) (AS.le_of ⟨rfl, trivial⟩ trivial) ⟨false, (), h, rfl⟩
 have h := ifF hg30 h
 refine b_F rfl rfl rfl rfl rfl (decide_eq_false hg30) ?_
 refine b_F rfl rfl rfl rfl rfl rfl ?_
 refine bv rfl (v_pickF rfl rfl rfl) ?_
 refine mv rfl rfl ?_
 refine b_F rfl rfl rfl rfl rfl rfl ?_
 refine b_F rfl rfl rfl rfl rfl rfl ?_
 refine bv rfl (v_pickF rfl rfl rfl) ?_
 refine mv rfl rfl ?_
 refine b_F rfl rfl rfl rfl rfl rfl ?_
 refine b_F rfl rfl rfl rfl rfl rfl ?_
 refine bv rfl (v_pickF rfl rfl rfl) ?_
 refine mv rfl rfl ?_
 refine b_F rfl rfl rfl rfl rfl rfl ?_
 refine b_F rfl rfl rfl rfl rfl rfl ?_
 refine bv rfl (v_pickF rfl rfl rfl) ?_
 refine mv rfl rfl ?_
 refine b_F rfl rfl rfl rfl rfl rfl ?_
 refine b_F rfl rfl rfl rfl rfl rfl ?_
 refine bv rfl (v_pickF rfl rfl rfl) ?_
 refine mv rfl rfl ?_
 refine b_F rfl rfl rfl rfl rfl rfl ?_
 refine bv rfl (v_pickF rfl rfl rfl) ?_
 refine mv rfl rfl ?_
 refine b_F rfl rfl rfl rfl rfl rfl ?_
 refine bv rfl (v_pickF rfl rfl rfl) ?_
 refine mv rfl rfl ?_
 refine b_F rfl rfl rfl rfl rfl rfl ?_
 refine bv rfl (v_pickF rfl rfl rfl) ?_
 refine mv rfl rfl ?_
 refine b_F rfl rfl rfl rfl rfl rfl ?_
 refine b_F rfl rfl rfl rfl rfl rfl ?_
 refine b_F rfl rfl rfl rfl rfl rfl ?_
 refine bv rfl (v_pickF rfl rfl rfl) ?_
 refine mv rfl rfl ?_
 refine b_F rfl rfl rfl rfl rfl rfl ?_
 refine b_F rfl rfl rfl rfl rfl rfl ?_
 refine b_F rfl rfl rfl rfl rfl rfl ?_
 refine bv rfl (v_pickF rfl rfl rfl) ?_
 refine mv rfl rfl ?_
 refine b_nil (hK _ ?_)
 clear hK K
 exact to_le (s' := ⟨[(0, HV.bool false)], []⟩) (AS.le_of ⟨rfl, trivial⟩ trivial) ⟨false, (), h, rfl⟩

end Go.AW



/- The least path that is labelled with a word. -/
namespace Go.AW
open Go
set_option linter.unusedSimpArgs false
set_option linter.unusedVariables false

section
variable {g : Gr}

def canB (g : Gr) : List UInt8 → List Bool
  | [] => List.replicate g.2.1.toNat true
  | c :: w => (upto g.2.1).map fun s => g.2.2.any fun x => decide (x.1 = s ∧ x.2.1 = lab c) && (canB g w).getD x.2.2.toNat false
def canR (g : Gr) (w : List UInt8) (s : Int) : Prop := (canB g w).getD s.toNat false = true
theorem canR_nil {s : Int} (h0 : 0 ≤ s) (h1 : s < g.2.1) : canR g [] s := by
  have : s.toNat < g.2.1.toNat := by omega
  simp [canR, canB, List.getD, this]
theorem upto_get {n : Int} {i : Nat} (h : i < (upto n).length) : (upto n)[i] = (i : Int) := by simp [upto]
theorem canR_cons {c : UInt8} {w : List UInt8} {s : Int} (h0 : 0 ≤ s) (h1 : s < g.2.1) : canR g (c :: w) s ↔ ∃ x ∈ g.2.2, x.1 = s ∧ x.2.1 = lab c ∧ canR g w x.2.2 := by
  have hs : s.toNat < (upto g.2.1).length := by rw [upto_len]; omega
  simp only [canR, canB]
  rw [List.getD_eq_getElem?_getD, List.getElem?_map, List.getElem?_eq_getElem hs, upto_get]
  simp only [Option.map_some, Option.getD_some, List.any_eq_true, Bool.and_eq_true, decide_eq_true_eq]
  have e : ((s.toNat : Nat) : Int) = s := by omega
  rw [e]
  exact ⟨fun ⟨x, hx, ⟨h2, h3⟩, h4⟩ => ⟨x, hx, h2, h3, h4⟩, fun ⟨x, hx, h2, h3, h4⟩ => ⟨x, hx, ⟨h2, h3⟩, h4⟩⟩

theorem can_iff (hv : VG g) : ∀ (w : List UInt8) {a : List Int} (ha : SetOk g a), endsL g a w ≠ [] ↔ ∃ s ∈ a, canR g w s
  | [], a, ha => by
    constructor
    · intro h
      obtain ⟨s, hs⟩ := List.exists_mem_of_ne_nil a h
      obtain ⟨h0, h1⟩ := ha.2 s hs
      exact ⟨s, hs, canR_nil h0 h1⟩
    · rintro ⟨s, hs, _⟩ h
      rw [show a = [] from h] at hs
      cases hs
  | c :: w, a, ha => by
    rw [endsL_cons, can_iff hv w (stepL_ok g a _)]
    constructor
    · rintro ⟨t, ht, hc⟩
      obtain ⟨e, he, h1, h2, h3⟩ := (mem_stepL hv).1 ht
      obtain ⟨h4, h5⟩ := ha.2 _ h3
      exact ⟨e.1, h3, (canR_cons h4 h5).2 ⟨e, he, rfl, h2, by rw [h1]; exact hc⟩⟩
    · rintro ⟨s, hs, hc⟩
      obtain ⟨h4, h5⟩ := ha.2 _ hs
      obtain ⟨x, hx, h1, h2, h3⟩ := (canR_cons h4 h5).1 hc
      exact ⟨x.2.2, (mem_stepL hv).2 ⟨x, hx, rfl, h2, by rw [h1]; exact hs⟩, h3⟩

def okE (g : Gr) (w : List UInt8) (c : UInt8) (prev : Option Int) (x : Ed) : Bool := decide (x.2.1 = lab c) && (canB g w).getD x.2.2.toNat false && (match prev with
  | none => true
  | some s => decide (x.1 = s))
def pick (g : Gr) (w : List UInt8) (c : UInt8) (prev : Option Int) : Nat := g.2.2.findIdx (okE g w c prev)
end
end Go.AW

/- language.Path gives the least path. -/
namespace Go.AW
open Go
set_option linter.unusedSimpArgs false
set_option linter.unusedVariables false
section
variable {g : Gr}

end
end Go.AW

/- language.Path: the edges; the whole function. -/
namespace Go.AW
open Go
set_option linter.unusedSimpArgs false
set_option linter.unusedVariables false
section
variable {g : Gr}

end
end Go.AW

/- All words of a length. -/
namespace Go.AW
open Go
set_option linter.unusedSimpArgs false
set_option linter.unusedVariables false

def allW (cs : List UInt8) : Nat → List (List UInt8)
  | 0 => [[]]
  | n + 1 => (allW cs n).flatMap fun w => cs.map fun c => w ++ [c]
theorem mem_allW {cs : List UInt8} : ∀ {n : Nat} {w : List UInt8}, w ∈ allW cs n ↔ w.length = n ∧ ∀ c ∈ w, c ∈ cs
  | 0, w => by
    simp only [allW, List.mem_singleton]
    constructor
    · rintro rfl; simp
    · rintro ⟨h, _⟩; exact List.eq_nil_of_length_eq_zero h
  | n + 1, w => by
    simp only [allW, List.mem_flatMap, List.mem_map]
    constructor
    · rintro ⟨u, hu, c, hc, rfl⟩
      obtain ⟨h1, h2⟩ := mem_allW.1 hu
      refine ⟨by simp [h1], fun d hd => ?_⟩
      rcases List.mem_append.1 hd with h | h
      · exact h2 d h
      · simp at h; subst h; exact hc
    · rintro ⟨h1, h2⟩
      rcases List.eq_nil_or_concat w with rfl | ⟨v, c, rfl⟩
      · simp at h1
      · rw [List.concat_eq_append] at h1 h2 ⊢
        exact ⟨v, mem_allW.2 ⟨by simpa using h1, fun d hd => h2 d (List.mem_append_left _ hd)⟩, c, h2 c (by simp), rfl⟩
theorem allW_len (cs : List UInt8) : ∀ n, (allW cs n).length = cs.length ^ n
  | 0 => rfl
  | n + 1 => by
    have h : ∀ l : List (List UInt8), (l.flatMap fun w => cs.map fun c => w ++ [c]).length = l.length * cs.length := by
      intro l
      induction l with
      | nil => simp
      | cons x l ih => rw [List.flatMap_cons, List.length_append, ih, List.length_map, List.length_cons, Nat.succ_mul]; omega
    simp only [allW]
    rw [h, allW_len cs n, Nat.pow_succ]
theorem allW_asc {cs : List UInt8} (hcs : cs.Pairwise (· < ·)) : ∀ n, (allW cs n).Pairwise (· < ·)
  | 0 => by simp [allW]
  | n + 1 => by
    simp only [allW]
    rw [List.pairwise_flatMap]
    refine ⟨fun x hx => ?_, (allW_asc hcs n).imp_of_mem fun {x y} hx hy hxy a ha b hb => ?_⟩
    · rw [List.pairwise_map]
      exact hcs.imp fun hcd => app_lt _ (List.cons_lt_cons_iff.2 (.inl hcd))
    · obtain ⟨c, _, rfl⟩ := List.mem_map.1 ha
      obtain ⟨d, _, rfl⟩ := List.mem_map.1 hb
      exact lt_app _ _ (by rw [(mem_allW.1 hx).1, (mem_allW.1 hy).1]) hxy

section
variable {g : Gr}
def accB (g : Gr) (w : List UInt8) : Bool := decide (endsL g (upto g.2.1) w ≠ [])
end
end Go.AW

/- The first missing word. -/
namespace Go.AW
open Go
set_option linter.unusedSimpArgs false
set_option linter.unusedVariables false

section
variable {β : Type}
end

section
variable {g : Gr}
end
end Go.AW

/- The words of a length, by reading; the anchor of chapter 11. -/
namespace Go.AW
open Go
set_option linter.unusedSimpArgs false
set_option linter.unusedVariables false

section
variable {g : Gr}
end

end Go.AW

/- The law of words. -/
namespace Go.AW
open Go
set_option linter.unusedSimpArgs false
set_option linter.unusedVariables false

section
variable {g : Gr}
theorem lets_asc (g : Gr) : (lets g).Pairwise (· < ·) := letters_asc.sublist (List.take_sublist _ _)
end

end Go.AW

/- word.All; the law of words. -/
namespace Go.AW
open Go
set_option linter.unusedSimpArgs false
set_option linter.unusedVariables false

theorem allW_one : ∀ n, allW [48] n = [List.replicate n 48]
  | 0 => rfl
  | n + 1 => by
    simp only [allW, allW_one n, List.flatMap_cons, List.flatMap_nil, List.map_cons, List.map_nil, List.append_nil]
    rw [← List.replicate_succ']

theorem All_eq11 {L : Nat} (h1 : 1 ≤ L) (h16 : L ≤ 16) {n : Nat} (hn : n ≤ 4096) (hb : ∀ j, 1 ≤ j → j ≤ n → L ^ j ≤ 4096) : m_word_All (L : Int) (n : Int) = some (allW (letters.take L) n, 0) := by
  unfold m_word_All
  rw [known_eq]
  simp only [Option.bind_some]
  rw [if_neg (by rw [decide_eq_true (by omega)]; decide), if_neg (by omega), if_neg (by omega)]
  by_cases hL : L = 1
  · subst hL
    rw [if_pos (show ((1 : Nat) : Int) = 1 from rfl)]
    unfold m_strings_Repeat
    rw [if_pos ⟨by omega, by omega, by simp; omega⟩]
    have e : letters.take 1 = [48] := rfl
    rw [e, allW_one]
    simp only [Option.bind_some, Int.toNat_natCast]
    congr 3
    clear hb hn
    induction n with
    | zero => rfl
    | succ n ih => rw [List.replicate_succ, List.flatten_cons, ih]; rfl
  rw [if_neg (by omega)]
  have hLl : (letters.take L).length = L := by rw [List.length_take, letters_len]; omega
  have hlen : ∀ j, (allW (letters.take L) j).length = L ^ j := fun j => by rw [allW_len, hLl]
  have hpow : ∀ j, j ≤ n → L ^ j ≤ 4096 := fun j hj => by
    by_cases h0 : j = 0
    · subst h0; simp
    · exact hb j (by omega) hj
  refine lpL (loop_is (fun i => (allW (letters.take L) i, (i : Int))) n (Ou.go (allW (letters.take L) n)) (fun i hi => ?_) (by dsimp only; rw [if_neg (not_lt_int _)]) rfl) rfl
  dsimp only
  rw [if_pos (lt_int hi), hlen]
  have hs : L ^ (i + 1) ≤ 4096 := hpow (i + 1) hi
  have hi4 : L ^ i ≤ 4096 := hpow i (by omega)
  have hm : ((L ^ i : Nat) : Int) * (L : Int) = ((L ^ (i + 1) : Nat) : Int) := by rw [Nat.pow_succ]; push_cast; rfl
  rw [hm, w64 (n := ((L ^ (i + 1) : Nat) : Int)) (by omega) (by omega), if_neg (by omega), if_pos (by omega)]
  have hfl : ∀ l : List (List UInt8), (l.flatMap fun w => (letters.take L).map fun c => w ++ [c]).length = l.length * L := by
    intro l
    induction l with
    | nil => simp
    | cons x l ih => rw [List.flatMap_cons, List.length_append, ih, List.length_map, hLl, List.length_cons, Nat.succ_mul]; omega
  refine bindL (loop_is (fun k => ((k : Int), ((allW (letters.take L) i).take k).flatMap fun w => (letters.take L).map fun c => w ++ [c])) (L ^ i) (allW (letters.take L) (i + 1)) (fun k hk => ?_) ?_ (by simp)) (by rw [nx (by omega : n ≤ _) hi])
  · dsimp only
    have hkl : k < (allW (letters.take L) i).length := by rw [hlen]; exact hk
    rw [if_pos (by omega), ix hkl]
    simp only [Option.bind_some]
    have hwl : ((allW (letters.take L) i)[k]).length = i := (mem_allW.1 (List.getElem_mem hkl)).1
    have hbk : (((allW (letters.take L) i).take k).flatMap fun w => (letters.take L).map fun c => w ++ [c]).length ≤ 65536 := by
      rw [hfl, List.length_take, hlen]
      refine Nat.le_trans (Nat.mul_le_mul (Nat.min_le_right _ _) h16) ?_
      omega
    refine bindL (loop_is (fun m => ((m : Int), (((allW (letters.take L) i).take k).flatMap fun w => (letters.take L).map fun c => w ++ [c]) ++ (letters.take m).map fun c => (allW (letters.take L) i)[k] ++ [c])) L ((((allW (letters.take L) i).take k).flatMap fun w => (letters.take L).map fun c => w ++ [c]) ++ (letters.take L).map fun c => (allW (letters.take L) i)[k] ++ [c]) (fun m hm => ?_) ?_ (by simp)) ?_
    · dsimp only
      have hm16 : m < letters.length := by rw [letters_len]; omega
      have e16 : ([48, 49, 50, 51, 52, 53, 54, 55, 56, 57, 97, 98, 99, 100, 101, 102] : List UInt8) = letters := rfl
      rw [if_pos (by omega), nx (by omega : L ≤ _) hm, e16, if_pos (by rw [letters_len]; omega)]
      simp only [Int.toNat_natCast, one_letter hm16]
      rw [if_pos (by simp only [hwl, List.length_cons, List.length_nil, maxLen]; omega), if_pos (fits_le (by simp only [List.length_append, List.length_map, List.length_take, List.length_cons, List.length_nil]; omega) (by simp only [List.length_append, List.length_map, List.length_take, List.length_cons, List.length_nil]; omega))]
      rw [List.append_assoc, List.take_add_one, List.getElem?_eq_getElem hm16, List.map_append]
      rfl
    · dsimp only
      rw [if_neg (not_lt_int _)]
    · rw [nx (by omega : L ^ i ≤ _) hk, List.take_add_one, List.getElem?_eq_getElem hkl]
      simp only [Option.toList_some, List.flatMap_append, List.flatMap_cons, List.flatMap_nil, List.append_nil]
  · dsimp only
    rw [if_neg (not_lt_int _), ← hlen i, List.take_length]
    rfl

end Go.AW

/- The law of the first missing word. -/
namespace Go.AW
open Go
set_option linter.unusedSimpArgs false
set_option linter.unusedVariables false
section
variable {g : Gr}

end

end Go.AW

/- The law of letters. -/
namespace Go.AW
open Go
set_option linter.unusedSimpArgs false
set_option linter.unusedVariables false

end Go.AW

/- Reading words, in the program and in the reference. -/
namespace Go.AW
open Go
set_option linter.unusedSimpArgs false
set_option linter.unusedVariables false

section
variable {g : Gr}
end
end Go.AW

/- The law of paths. -/
namespace Go.AW
open Go
set_option linter.unusedSimpArgs false
set_option linter.unusedVariables false
section
variable {g : Gr}

end
end Go.AW

/- The letters that can follow, and the least path, in the reference; the law of reading. -/
namespace Go.AW
open Go
set_option linter.unusedSimpArgs false
set_option linter.unusedVariables false

section
variable {g : Gr}
end

end Go.AW

/- Lists of words from a state, between states, and the first missing word: the program and the reference agree. -/
namespace Go.AW
open Go
set_option linter.unusedSimpArgs false
set_option linter.unusedVariables false

section
variable {g : Gr}
end

end Go.AW

/- Compaction of lists of texts. -/
namespace Go.AW
open Go
end Go.AW

/- Models, printed by lk.py. -/
namespace Go.AW
open Go
set_option linter.unusedVariables false
end Go.AW

/- The law of parts: words from all states, between all pairs of states. -/
namespace Go.AW
open Go
set_option linter.unusedSimpArgs false
set_option linter.unusedVariables false

section
variable {g : Gr}
end

end Go.AW

/- Marks: what has been read of a mark behind a word; bad words; the first of them. -/
namespace Go.AW
open Go
set_option linter.unusedVariables false
set_option linter.unusedSimpArgs false
def badG (mark : List UInt8) : List UInt8 → Nat → Bool → Bool
  | [], n, b => endsG mark mark n || b
  | c :: u, n, b => badG mark u (foll mark n c) (b || decide (foll mark n c = mark.length))
def badU (mark u : List UInt8) : Bool := badG mark u mark.length false
section
variable {g : Gr} {mark : List UInt8}
theorem letB_mem (hv : VG g) (h16 : g.1 ≤ 16) {a : Int} (h0 : 0 ≤ a) (h1 : a < g.1) : letB a ∈ lets g ∧ lab (letB a) = a := by
  have hl : a.toNat < letters.length := by rw [letters_len]; omega
  have e : letB a = letters[a.toNat] := by unfold letB; rw [List.getD_eq_getElem?_getD, List.getElem?_eq_getElem hl]; rfl
  rw [e]
  refine ⟨?_, ?_⟩
  · unfold lets
    exact List.mem_take_iff_getElem.2 ⟨a.toNat, by rw [letters_len] at hl ⊢; omega, rfl⟩
  · have := idx_letter hl
    unfold lab
    rw [this]
    omega
theorem lets_lab (hv : VG g) (h16 : g.1 ≤ 16) {c : UInt8} (hc : c ∈ lets g) : 0 ≤ lab c ∧ lab c < g.1 ∧ letB (lab c) = c := by
  obtain ⟨i, hi, hg, rfl, e⟩ := lab_mem hc
  rw [e]
  refine ⟨Int.natCast_nonneg _, hg, ?_⟩
  unfold letB
  rw [Int.toNat_natCast, List.getD_eq_getElem?_getD, List.getElem?_eq_getElem hi]
  rfl
theorem canF_iff (hv : VG g) (h16 : g.1 ≤ 16) : ∀ (n : Nat) (p : TStateReadBadLeft), 0 ≤ p.1 → p.1 < g.2.1 → (canF g.2.2 mark n p = true ↔ ∃ u : List UInt8, u.length = n ∧ (∀ c ∈ u, c ∈ lets g) ∧ canR g u p.1 ∧ badG mark u p.2.1.toNat p.2.2.1 = true)
  | 0, p, h0, h1 => by
    unfold canF endsF
    constructor
    · intro h; exact ⟨[], rfl, fun _ h => by simp at h, canR_nil h0 h1, h⟩
    · rintro ⟨u, hu, _, _, h⟩
      cases List.eq_nil_of_length_eq_zero hu
      exact h
  | n + 1, p, h0, h1 => by
    unfold canF
    rw [List.any_eq_true]
    constructor
    · rintro ⟨x, hx, h⟩
      obtain ⟨hxE, hxp⟩ := List.mem_filter.1 hx
      have hxp := of_decide_eq_true hxp
      obtain ⟨e1, e2, e3, e4, e5, e6⟩ := hv.ed x hxE
      obtain ⟨u, hu, hul, hc, hb⟩ := (canF_iff hv h16 n (stepF mark p x) e3 e4).1 h
      obtain ⟨l1, l2⟩ := letB_mem hv h16 e5 e6
      refine ⟨letB x.2.1 :: u, by rw [List.length_cons, hu], fun c hc => ?_, (canR_cons h0 h1).2 ⟨x, hxE, hxp, l2.symm, hc⟩, ?_⟩
      · rcases List.mem_cons.1 hc with rfl | hc
        · exact l1
        · exact hul c hc
      · unfold badG
        exact hb
    · rintro ⟨u, hu, hul, hc, hb⟩
      cases u with
      | nil => simp at hu
      | cons c u =>
        obtain ⟨x, hxE, hx1, hx2, hx3⟩ := (canR_cons h0 h1).1 hc
        obtain ⟨e1, e2, e3, e4, e5, e6⟩ := hv.ed x hxE
        obtain ⟨l1, l2, l3⟩ := lets_lab hv h16 (hul c (List.mem_cons_self ..))
        refine ⟨x, List.mem_filter.2 ⟨hxE, decide_eq_true hx1⟩, (canF_iff hv h16 n (stepF mark p x) e3 e4).2 ⟨u, by simpa using hu, fun d hd => hul d (List.mem_cons_of_mem _ hd), hx3, ?_⟩⟩
        unfold badG at hb
        have e : letB x.2.1 = c := by rw [hx2, l3]
        show badG mark u ((foll mark p.2.1.toNat (letB x.2.1) : Nat) : Int).toNat (p.2.2.1 || decide (foll mark p.2.1.toNat (letB x.2.1) = mark.length)) = true
        rw [Int.toNat_natCast, e]
        exact hb

theorem mem_aft1 {f : TStateReadBadLeft → Bool} {stp : TStateReadBadLeft → TFromLabelTo → TStateReadBadLeft} {a : Int} {p q : TStateReadBadLeft} : ∀ (l : List TFromLabelTo) (acc : List TStateReadBadLeft), q ∈ l.foldl (aft1 f stp a p) acc ↔ q ∈ acc ∨ (f q = true ∧ ∃ x ∈ l, x.2.1 = a ∧ q = stp p x)
  | [], acc => by simp
  | x :: l, acc => by
    rw [List.foldl_cons, mem_aft1 l]
    have h : q ∈ aft1 f stp a p acc x ↔ q ∈ acc ∨ (f q = true ∧ x.2.1 = a ∧ q = stp p x) := by
      unfold aft1
      split
      · rename_i h1
        split
        · rename_i h2
          exact ⟨.inl, fun h => h.elim id fun ⟨_, _, e⟩ => by rw [e]; exact h2⟩
        · split
          · rename_i h3
            rw [List.mem_append, List.mem_singleton]
            exact or_congr Iff.rfl ⟨fun e => ⟨by rw [e]; exact h3, h1, e⟩, fun h => h.2.2⟩
          · rename_i h3
            exact ⟨.inl, fun h => h.elim id fun ⟨h4, _, e⟩ => absurd (by rw [← e]; exact h4) h3⟩
      · rename_i h1
        exact ⟨.inl, fun h => h.elim id fun ⟨_, h4, _⟩ => absurd h4 h1⟩
    rw [h, or_assoc]
    refine or_congr Iff.rfl ?_
    constructor
    · rintro (⟨h1, h2, h3⟩ | ⟨h1, y, hy, h2, h3⟩)
      · exact ⟨h1, x, List.mem_cons_self .., h2, h3⟩
      · exact ⟨h1, y, List.mem_cons_of_mem _ hy, h2, h3⟩
    · rintro ⟨h1, y, hy, h2, h3⟩
      rcases List.mem_cons.1 hy with rfl | hy
      · exact .inl ⟨h1, h2, h3⟩
      · exact .inr ⟨h1, y, hy, h2, h3⟩
theorem mem_aft {f : TStateReadBadLeft → Bool} {stp : TStateReadBadLeft → TFromLabelTo → TStateReadBadLeft} {lv : Int → List TFromLabelTo} {a : Int} {q : TStateReadBadLeft} (now : List TStateReadBadLeft) : q ∈ aft f stp lv now a ↔ f q = true ∧ ∃ p ∈ now, ∃ x ∈ lv p.1, x.2.1 = a ∧ q = stp p x := by
  have h : ∀ (l acc : List TStateReadBadLeft), q ∈ l.foldl (aftP f stp lv a) acc ↔ q ∈ acc ∨ (f q = true ∧ ∃ p ∈ l, ∃ x ∈ lv p.1, x.2.1 = a ∧ q = stp p x) := by
    intro l
    induction l with
    | nil => simp
    | cons p l ih =>
      intro acc
      rw [List.foldl_cons, ih]
      unfold aftP
      rw [mem_aft1, or_assoc]
      refine or_congr Iff.rfl ?_
      constructor
      · rintro (⟨h1, x, hx, h2⟩ | ⟨h1, p', hp, h2⟩)
        · exact ⟨h1, p, List.mem_cons_self .., x, hx, h2⟩
        · exact ⟨h1, p', List.mem_cons_of_mem _ hp, h2⟩
      · rintro ⟨h1, p', hp, x, hx, h2⟩
        rcases List.mem_cons.1 hp with rfl | hp
        · exact .inl ⟨h1, x, hx, h2⟩
        · exact .inr ⟨h1, p', hp, x, hx, h2⟩
  unfold aft
  rw [h]
  simp
theorem firstA_some {f : TStateReadBadLeft → Bool} {stp : TStateReadBadLeft → TFromLabelTo → TStateReadBadLeft} {lv : Int → List TFromLabelTo} {now : List TStateReadBadLeft} : ∀ (k s : Nat), (∃ a : Nat, s ≤ a ∧ a < s + k ∧ aft f stp lv now (a : Int) ≠ []) → ∃ a : Nat, s ≤ a ∧ a < s + k ∧ aft f stp lv now (a : Int) ≠ [] ∧ firstA f stp lv now ((List.range' s k).map Int.ofNat) = some ((a : Int), aft f stp lv now (a : Int)) ∧ ∀ b : Nat, s ≤ b → b < a → aft f stp lv now (b : Int) = []
  | 0, s, ⟨a, h1, h2, _⟩ => by omega
  | k + 1, s, ⟨a, h1, h2, h3⟩ => by
    by_cases e : aft f stp lv now (s : Int) = []
    · obtain ⟨c, c1, c2, c3, c4, c5⟩ := firstA_some (f := f) (stp := stp) (lv := lv) (now := now) k (s + 1) ⟨a, by
        rcases Nat.lt_or_ge s a with h | h
        · omega
        · have : a = s := by omega
          subst this; exact absurd e h3, by omega, h3⟩
      refine ⟨c, by omega, by omega, c3, ?_, fun b hb1 hb2 => ?_⟩
      · rw [List.range'_succ, List.map_cons]
        unfold firstA
        rw [if_neg (fun hn => hn e)]
        exact c4
      · by_cases eb : b = s
        · subst eb; exact e
        · exact c5 b (by omega) hb2
    · refine ⟨s, Nat.le_refl _, by omega, e, ?_, fun b hb1 hb2 => by omega⟩
      rw [List.range'_succ, List.map_cons]
      unfold firstA
      exact if_pos e
def goes (g : Gr) (mark : List UInt8) (now : List TStateReadBadLeft) (u : List UInt8) : Prop := (∀ c ∈ u, c ∈ lets g) ∧ ∃ p ∈ now, canR g u p.1 ∧ badG mark u p.2.1.toNat p.2.2.1 = true
theorem letters_lt {i j : Nat} (hi : i < letters.length) (hj : j < letters.length) (h : i < j) : letters[i] < letters[j] := by
  have : ∀ a b : Fin 16, a.1 < b.1 → letters[a.1]'(show a.1 < letters.length from a.2) < letters[b.1]'(show b.1 < letters.length from b.2) := by decide
  exact this ⟨i, hi⟩ ⟨j, hj⟩ h
theorem lets_lt_lab (hv : VG g) (h16 : g.1 ≤ 16) {c d : UInt8} (hc : c ∈ lets g) (hd : d ∈ lets g) (h : c < d) : lab c < lab d := by
  obtain ⟨i, hi, _, rfl, e⟩ := lab_mem hc
  obtain ⟨j, hj, _, rfl, f⟩ := lab_mem hd
  rw [e, f]
  rcases Nat.lt_trichotomy i j with h1 | h1 | h1
  · omega
  · subst h1; exact absurd h (UInt8.lt_irrefl _)
  · exact absurd (UInt8.lt_trans h (letters_lt hj hi h1)) (UInt8.lt_irrefl _)
theorem goes_cons (hv : VG g) (h16 : g.1 ≤ 16) {n : Nat} {now : List TStateReadBadLeft} (hn : ∀ p ∈ now, (0 ≤ p.1 ∧ p.1 < g.2.1) ∧ 0 ≤ p.2.1 ∧ p.2.2.2 = (n : Int) + 1) {c : UInt8} (hc : c ∈ lets g) {u : List UInt8} (hu : u.length = n) :
    goes g mark now (c :: u) ↔ goes g mark (aft (canP g.2.2 mark) (stepF mark) (leav g.2.2) now (lab c)) u := by
  obtain ⟨l1, l2, l3⟩ := lets_lab hv h16 hc
  unfold goes
  constructor
  · rintro ⟨h1, p, hp, h2, h3⟩
    refine ⟨fun d hd => h1 d (List.mem_cons_of_mem _ hd), ?_⟩
    obtain ⟨⟨p0, p1⟩, p2, p3⟩ := hn p hp
    obtain ⟨x, hxE, hx1, hx2, hx3⟩ := (canR_cons p0 p1).1 h2
    obtain ⟨e1, e2, e3, e4, e5, e6⟩ := hv.ed x hxE
    have e : letB x.2.1 = c := by rw [hx2, l3]
    have hb : badG mark u (stepF mark p x).2.1.toNat (stepF mark p x).2.2.1 = true := by
      show badG mark u ((foll mark p.2.1.toNat (letB x.2.1) : Nat) : Int).toNat (p.2.2.1 || decide (foll mark p.2.1.toNat (letB x.2.1) = mark.length)) = true
      rw [Int.toNat_natCast, e]
      unfold badG at h3
      exact h3
    refine ⟨stepF mark p x, (mem_aft now).2 ⟨?_, p, hp, x, List.mem_filter.2 ⟨hxE, decide_eq_true hx1⟩, hx2, rfl⟩, hx3, hb⟩
    unfold canP
    have hl : (stepF mark p x).2.2.2.toNat = n := by show (p.2.2.2 - 1).toNat = n; omega
    rw [hl]
    exact (canF_iff hv h16 n _ e3 e4).2 ⟨u, hu, fun d hd => h1 d (List.mem_cons_of_mem _ hd), hx3, hb⟩
  · rintro ⟨h1, q, hq, h2, h3⟩
    obtain ⟨h4, p, hp, x, hx, hx2, rfl⟩ := (mem_aft now).1 hq
    obtain ⟨hxE, hx1⟩ := List.mem_filter.1 hx
    have hx1 := of_decide_eq_true hx1
    obtain ⟨⟨p0, p1⟩, p2, p3⟩ := hn p hp
    refine ⟨fun d hd => ?_, p, hp, (canR_cons p0 p1).2 ⟨x, hxE, hx1, hx2, h2⟩, ?_⟩
    · rcases List.mem_cons.1 hd with rfl | hd
      · exact hc
      · exact h1 d hd
    · have e : letB x.2.1 = c := by rw [hx2, l3]
      have h3 : badG mark u ((foll mark p.2.1.toNat (letB x.2.1) : Nat) : Int).toNat (p.2.2.1 || decide (foll mark p.2.1.toNat (letB x.2.1) = mark.length)) = true := h3
      rw [Int.toNat_natCast, e] at h3
      unfold badG
      exact h3
theorem grow_spec (hv : VG g) (h16 : g.1 ≤ 16) : ∀ (n : Nat) (now : List TStateReadBadLeft), now ≠ [] → (∀ p ∈ now, canP g.2.2 mark p = true ∧ (0 ≤ p.1 ∧ p.1 < g.2.1) ∧ 0 ≤ p.2.1 ∧ p.2.2.2 = (n : Int)) →
    (growF (canP g.2.2 mark) (stepF mark) (leav g.2.2) g.1 n now).length = n ∧ goes g mark now (growF (canP g.2.2 mark) (stepF mark) (leav g.2.2) g.1 n now) ∧ ∀ v : List UInt8, v.length = n → goes g mark now v → ¬ v < growF (canP g.2.2 mark) (stepF mark) (leav g.2.2) g.1 n now
  | 0, now, hne, hn => by
    refine ⟨rfl, ⟨fun _ h => (by cases h), ?_⟩, fun v _ _ h => (by cases h)⟩
    obtain ⟨p, hp⟩ := List.exists_mem_of_ne_nil _ hne
    obtain ⟨h1, ⟨p0, p1⟩, p2, p3⟩ := hn p hp
    unfold canP at h1
    rw [p3] at h1
    obtain ⟨u, hu, _, hc, hb⟩ := (canF_iff hv h16 _ _ p0 p1).1 h1
    cases List.eq_nil_of_length_eq_zero hu
    exact ⟨p, hp, hc, hb⟩
  | n + 1, now, hne, hn => by
    have hn1 : ∀ p ∈ now, (0 ≤ p.1 ∧ p.1 < g.2.1) ∧ 0 ≤ p.2.1 ∧ p.2.2.2 = (n : Int) + 1 := fun p hp => by
      obtain ⟨_, h2, h3, h4⟩ := hn p hp
      exact ⟨h2, h3, by omega⟩
    have hgo : ∀ a : Nat, (a : Int) < g.1 → aft (canP g.2.2 mark) (stepF mark) (leav g.2.2) now (a : Int) ≠ [] → ∀ p ∈ aft (canP g.2.2 mark) (stepF mark) (leav g.2.2) now (a : Int), canP g.2.2 mark p = true ∧ (0 ≤ p.1 ∧ p.1 < g.2.1) ∧ 0 ≤ p.2.1 ∧ p.2.2.2 = (n : Int) := by
      intro a _ _ q hq
      obtain ⟨h4, p, hp, x, hx, hx2, rfl⟩ := (mem_aft now).1 hq
      obtain ⟨hxE, hx1⟩ := List.mem_filter.1 hx
      obtain ⟨e1, e2, e3, e4, e5, e6⟩ := hv.ed x hxE
      obtain ⟨_, _, _, p3⟩ := hn p hp
      exact ⟨h4, ⟨e3, e4⟩, Int.natCast_nonneg _, by show p.2.2.2 - 1 = (n : Int); omega⟩
    obtain ⟨a, _, ha2, ha3, ha4, ha5⟩ := firstA_some (f := canP g.2.2 mark) (stp := stepF mark) (lv := leav g.2.2) (now := now) g.1.toNat 0 (by
      obtain ⟨p, hp⟩ := List.exists_mem_of_ne_nil _ hne
      obtain ⟨h1, ⟨p0, p1⟩, p2, p3⟩ := hn p hp
      have h1' := h1
      unfold canP at h1
      rw [p3, show ((n + 1 : Nat) : Int).toNat = n + 1 by omega] at h1
      obtain ⟨u, hu, hul, hc, hb⟩ := (canF_iff hv h16 _ _ p0 p1).1 h1
      cases u with
      | nil => simp at hu
      | cons c u =>
        have hcl := hul c (List.mem_cons_self ..)
        have hgc : goes g mark now (c :: u) := ⟨hul, p, hp, hc, hb⟩
        obtain ⟨_, q, hq, _⟩ := (goes_cons hv h16 hn1 hcl (by simpa using hu)).1 hgc
        obtain ⟨l1, l2, l3⟩ := lets_lab hv h16 hcl
        refine ⟨(lab c).toNat, Nat.zero_le _, by omega, fun e => ?_⟩
        rw [show (((lab c).toNat : Nat) : Int) = lab c by omega] at e
        rw [e] at hq
        cases hq)
    have haL : (a : Int) < g.1 := by omega
    obtain ⟨q1, q2, q3⟩ := grow_spec hv h16 n _ ha3 (hgo a haL ha3)
    have hG : growF (canP g.2.2 mark) (stepF mark) (leav g.2.2) g.1 (n + 1) now = letB (a : Int) :: growF (canP g.2.2 mark) (stepF mark) (leav g.2.2) g.1 n (aft (canP g.2.2 mark) (stepF mark) (leav g.2.2) now (a : Int)) := by
      conv => lhs; unfold growF
      rw [List.range_eq_range', ha4]
    rw [hG]
    obtain ⟨m1, m2⟩ := letB_mem hv h16 (Int.natCast_nonneg a) haL
    refine ⟨by rw [List.length_cons, q1], (goes_cons hv h16 hn1 m1 q1).2 (by rw [m2]; exact q2), fun v hv1 hv2 hlt => ?_⟩
    cases v with
    | nil => simp at hv1
    | cons d v =>
      have hd := hv2.1 d (List.mem_cons_self ..)
      have hv3 := (goes_cons hv h16 hn1 hd (by simpa using hv1)).1 hv2
      obtain ⟨l1, l2, l3⟩ := lets_lab hv h16 hd
      have hda : a ≤ (lab d).toNat := by
        apply Classical.byContradiction
        intro hno
        have := ha5 (lab d).toNat (Nat.zero_le _) (by omega)
        rw [show (((lab d).toNat : Nat) : Int) = lab d by omega] at this
        obtain ⟨_, q, hq, _⟩ := hv3
        rw [this] at hq
        cases hq
      rcases List.cons_lt_cons_iff.1 hlt with h | ⟨h1, h2⟩
      · have := lets_lt_lab hv h16 hd m1 h
        rw [m2] at this
        omega
      · have : lab d = (a : Int) := by rw [h1, m2]
        rw [this] at hv3
        exact q3 v (by simpa using hv1) hv3 h2
theorem mem_startF {n : Int} {p : TStateReadBadLeft} : p ∈ startF g mark n ↔ (0 ≤ p.1 ∧ p.1 < g.2.1) ∧ p.2 = ((mark.length : Int), false, n) ∧ canP g.2.2 mark p = true := by
  unfold startF
  rw [List.mem_filter, List.mem_map]
  constructor
  · rintro ⟨⟨t, ht, rfl⟩, h⟩
    rw [List.mem_range] at ht
    exact ⟨⟨Int.natCast_nonneg _, by dsimp only; omega⟩, rfl, h⟩
  · rintro ⟨⟨h0, h1⟩, h2, h3⟩
    refine ⟨⟨p.1.toNat, List.mem_range.2 (by omega), ?_⟩, h3⟩
    obtain ⟨p1, p2⟩ := p
    dsimp only at h0 h1 h2 ⊢
    rw [h2, show ((p1.toNat : Nat) : Int) = p1 by omega]
theorem goes_start (hv : VG g) (h16 : g.1 ≤ 16) {n : Nat} {u : List UInt8} (hu : u.length = n) : goes g mark (startF g mark n) u ↔ (u ∈ allW (lets g) n ∧ accB g u = true) ∧ badU mark u = true := by
  unfold goes accB badU
  rw [mem_allW, decide_eq_true_eq, can_iff hv u (upto_ok g)]
  constructor
  · rintro ⟨h1, p, hp, h2, h3⟩
    obtain ⟨⟨p0, p1⟩, p2, p3⟩ := mem_startF.1 hp
    refine ⟨⟨⟨hu, h1⟩, p.1, mem_upto.2 ⟨p0, p1⟩, h2⟩, ?_⟩
    rw [p2] at h3
    exact h3
  · rintro ⟨⟨⟨_, h1⟩, s, hs, h2⟩, h3⟩
    obtain ⟨s0, s1⟩ := mem_upto.1 hs
    refine ⟨h1, (s, (mark.length : Int), false, (n : Int)), mem_startF.2 ⟨⟨s0, s1⟩, rfl, ?_⟩, h2, h3⟩
    unfold canP
    dsimp only
    rw [Int.toNat_natCast]
    exact (canF_iff hv h16 n _ s0 s1).2 ⟨u, hu, h1, h2, h3⟩
def badsW (g : Gr) (mark : List UInt8) (n : Nat) : List (List UInt8) := ((allW (lets g) n).filter (accB g)).filter (badU mark)
theorem badF_eq (hv : VG g) (h16 : g.1 ≤ 16) (n : Nat) : badF g mark n = ((badsW g mark n).headD [], decide (badsW g mark n ≠ [])) := by
  have hmem : ∀ u, u ∈ badsW g mark n ↔ u.length = n ∧ goes g mark (startF g mark n) u := fun u => by
    unfold badsW
    rw [List.mem_filter, List.mem_filter]
    constructor
    · intro h
      have hl := (mem_allW.1 h.1.1).1
      exact ⟨hl, (goes_start hv h16 hl).2 h⟩
    · rintro ⟨hl, h⟩
      exact (goes_start hv h16 hl).1 h
  have hasc : (badsW g mark n).Pairwise (· < ·) := ((allW_asc (lets_asc g) n).filter _).filter _
  unfold badF
  by_cases hs : startF g mark n = []
  · rw [if_pos hs]
    have : badsW g mark n = [] := List.eq_nil_iff_forall_not_mem.2 fun u hu => by
      obtain ⟨_, _, p, hp, _⟩ := (hmem u).1 hu
      rw [hs] at hp
      cases hp
    rw [this]
    rfl
  · rw [if_neg hs, Int.toNat_natCast]
    obtain ⟨q1, q2, q3⟩ := grow_spec hv h16 n (startF g mark n) hs (fun p hp => by
      obtain ⟨h1, h2, h3⟩ := mem_startF.1 hp
      refine ⟨h3, h1, ?_, ?_⟩
      · rw [h2]; exact Int.natCast_nonneg _
      · rw [h2])
    generalize growF (canP g.2.2 mark) (stepF mark) (leav g.2.2) g.1 n (startF g mark n) = u at q1 q2 q3
    have hu := (hmem u).2 ⟨q1, q2⟩
    cases hb : badsW g mark n with
    | nil => rw [hb] at hu; cases hu
    | cons v l =>
      have hv1 := (hmem v).1 (by rw [hb]; exact List.mem_cons_self ..)
      have e : u = v := by
        rw [hb] at hu hasc
        rcases List.mem_cons.1 hu with e | hu
        · exact e
        · exact absurd ((List.pairwise_cons.1 hasc).1 u hu) (q3 v hv1.1 hv1.2)
      subst e
      simp
end
end Go.AW

/- What Valid, Bad and Free of the program return. -/
namespace Go.AW
open Go
set_option linter.unusedVariables false
set_option linter.unusedSimpArgs false
def MOk54 (g : Gr) (mark : List UInt8) : Prop := VG g ∧ g.1 ≤ 16 ∧ mark ≠ [] ∧ mark.length ≤ 32 ∧ ∀ c ∈ mark, c ∈ lets g
theorem check54_tot (g : Gr) (mark : List UInt8) : ∃ e, m_syncmark_check g mark = some e ∧ (e = 0 ↔ MOk54 g mark) := by
  unfold m_syncmark_check MOk54
  obtain ⟨e, he, hz⟩ := Check_tot g
  obtain ⟨f, hf, hy⟩ := wcheck g.1 mark
  rw [Check_ref, he, Option.bind_some]
  by_cases h0 : e = 0
  case neg =>
    rw [if_pos h0]
    exact ⟨1, rfl, ⟨fun h => absurd h (by decide), fun h => absurd (hz.2 h.1) h0⟩⟩
  have hv := hz.1 h0
  rw [if_neg (by omega)]
  by_cases h1 : 16 < g.1
  · rw [if_pos h1]
    exact ⟨12, rfl, ⟨fun h => absurd h (by decide), fun h => by have := h.2.1; omega⟩⟩
  rw [if_neg h1]
  by_cases h2 : mark = []
  · rw [if_pos h2]
    exact ⟨5, rfl, ⟨fun h => absurd h (by decide), fun h => absurd h2 h.2.2.1⟩⟩
  rw [if_neg h2]
  by_cases h3 : 32 < (mark.length : Int)
  · rw [if_pos h3]
    exact ⟨4, rfl, ⟨fun h => absurd h (by decide), fun h => by have := h.2.2.2.1; omega⟩⟩
  rw [if_neg h3, hf]
  refine ⟨f, rfl, hy.trans ⟨fun h => ⟨hv, by omega, h2, by omega, h.2.2⟩, fun h => ⟨⟨hv.l1, by omega⟩, by omega, h.2.2.2.2⟩⟩⟩
theorem checkNumber54_tot (g : Gr) (mark : List UInt8) (n : Int) : ∃ e, m_syncmark_checkNumber g mark n = some e ∧ (e = 0 ↔ MOk54 g mark ∧ 0 ≤ n ∧ n ≤ 4096) ∧ (∀ f, m_syncmark_check g mark = some f → f ≠ 0 → e = f) ∧ (MOk54 g mark → e = if n < 0 ∨ 4096 < n then 2 else 0) := by
  obtain ⟨e, he, hz⟩ := check54_tot g mark
  unfold m_syncmark_checkNumber
  rw [he, Option.bind_some]
  by_cases h0 : e = 0
  case neg =>
    rw [if_pos h0]
    refine ⟨e, rfl, ⟨fun h => absurd h h0, fun h => absurd (hz.2 h.1) h0⟩, fun f hf _ => (Option.some.inj hf), fun h => absurd (hz.2 h) h0⟩
  rw [if_neg (by omega)]
  have hm := hz.1 h0
  simp only [jp]
  by_cases h1 : n < 0
  · rw [if_pos h1, if_pos trivial]
    exact ⟨2, rfl, ⟨fun h => absurd h (by decide), fun h => by omega⟩, fun f hf h => absurd (Option.some.inj hf ▸ h0) h, fun _ => (if_pos (.inl h1)).symm⟩
  rw [if_neg h1]
  by_cases h2 : 4096 < n
  · rw [if_pos (decide_eq_true h2)]
    exact ⟨2, rfl, ⟨fun h => absurd h (by decide), fun h => by omega⟩, fun f hf h => absurd (Option.some.inj hf ▸ h0) h, fun _ => (if_pos (.inr h2)).symm⟩
  · rw [if_neg (by rw [decide_eq_true_eq]; exact h2)]
    exact ⟨0, rfl, ⟨fun _ => ⟨hm, by omega, by omega⟩, fun _ => rfl⟩, fun f hf h => absurd (Option.some.inj hf ▸ h0) h, fun _ => (if_neg (by omega)).symm⟩
theorem lets_sub (g : Gr) {c : UInt8} (h : c ∈ lets g) : c ∈ letters := List.mem_of_mem_take h
theorem bad_eq {g : Gr} {mark : List UInt8} (h : MOk54 g mark) {n : Nat} (hn : n ≤ 4096) : m_syncmark_bad g mark (n : Int) = some ((badsW g mark n).headD [], decide (badsW g mark n ≠ [])) := by
  obtain ⟨hv, h16, h1, h2, h3⟩ := h
  unfold m_syncmark_bad
  have hok : badOk g mark (n : Int) := by
    have := hv.l1
    have := hv.s0
    have := hv.s1
    refine ⟨⟨by omega, h16⟩, ⟨by omega, by omega⟩, hv.el, fun x hx => ?_, h1, by omega, fun c hc => lets_sub g (h3 c hc), by omega, by omega⟩
    obtain ⟨e1, e2, e3, e4, e5, e6⟩ := hv.ed x hx
    exact ⟨⟨e1, e2⟩, ⟨e5, e6⟩, e3, e4⟩
  rw [if_pos hok, badF_eq hv h16]
theorem Valid_eq {g : Gr} {mark : List UInt8} (h : MOk54 g mark) {n : Nat} (hn : n ≤ 4096) : m_syncmark_Valid g mark (n : Int) = some (decide (badsW g mark n = []), 0) := by
  obtain ⟨e, he, hz, _⟩ := checkNumber54_tot g mark n
  unfold m_syncmark_Valid
  rw [he, Option.bind_some, if_neg (by rw [hz.2 ⟨h, by omega, by omega⟩]; decide), bad_eq h hn, Option.bind_some]
  simp
theorem Bad_eq {g : Gr} {mark : List UInt8} (h : MOk54 g mark) {n : Nat} (hn : n ≤ 4096) : m_syncmark_Bad g mark (n : Int) = some ((badsW g mark n).headD [], decide (badsW g mark n ≠ []), 0) := by
  obtain ⟨e, he, hz, _⟩ := checkNumber54_tot g mark n
  unfold m_syncmark_Bad
  rw [he, Option.bind_some, if_neg (by rw [hz.2 ⟨h, by omega, by omega⟩]; decide), bad_eq h hn, Option.bind_some]
theorem Free_eq {g : Gr} {mark : List UInt8} (h : MOk54 g mark) : m_syncmark_Free g mark = some (!accB g mark, 0) := by
  obtain ⟨e, he, hz⟩ := check54_tot g mark
  unfold m_syncmark_Free
  rw [he, Option.bind_some, if_neg (by rw [hz.2 h]; decide), Accepts_eq h.1 h.2.1 (w := mark) ⟨by have := h.2.2.2.1; omega, h.2.2.2.2⟩, Option.bind_some]
  rfl
end Go.AW

/- Models, printed by lk.py. -/
namespace Go.AW
open Go
set_option linter.unusedVariables false
noncomputable def m_ref10_Great (p0 : TLabelsStatesEdges) : Option (Bool) :=
 jp (fun (a1 : Bool) =>
   some a1)
   fun k3 =>
  if 8 < p0.2.1 then
   if p0.2.1 ≤ 64 then
    k3 true
   else
    if 30 < ((p0.2.2).length : Int) then
     if ((p0.2.2).length : Int) ≤ 1024 then
      k3 true
     else
      k3 (decide (1027 < ((p0.2.2).length : Int)))
    else
     k3 (decide (1027 < ((p0.2.2).length : Int)))
  else
   if 30 < ((p0.2.2).length : Int) then
    if ((p0.2.2).length : Int) ≤ 1024 then
     k3 true
    else
     k3 (decide (1027 < ((p0.2.2).length : Int)))
   else
    k3 (decide (1027 < ((p0.2.2).length : Int)))

noncomputable def m_law54_great (p0 : TLabelsStatesEdges) : Option (Bool) :=
 jp (fun (a1 : Bool) =>
   some a1)
   fun k3 =>
  (m_ref10_Great p0).bind fun x4 =>
  if x4 = true then
   k3 true
  else
   if 3 < p0.1 then
    k3 (decide (p0.1 ≤ 16))
   else
    k3 false

end Go.AW

/- Models, printed by lk.py. -/
namespace Go.AW
open Go
set_option linter.unusedVariables false
end Go.AW

/- Which graphs and marks the statements examine; the law of marks that are no words. -/
namespace Go.AW
open Go
set_option linter.unusedVariables false
set_option linter.unusedSimpArgs false
theorem great54_tot (g : Gr) : ∃ b, m_law54_great g = some b ∧ (b = false → VG g → g.2.1 ≤ 8 ∧ g.2.2.length ≤ 30 ∧ (g.1 ≤ 16 → g.1 ≤ 3)) := by
  have h10 : ∃ b, m_ref10_Great g = some b ∧ (b = false → VG g → g.2.1 ≤ 8 ∧ g.2.2.length ≤ 30) := by
    unfold m_ref10_Great
    simp only [jp]
    by_cases h1 : 8 < g.2.1
    · rw [if_pos h1]
      by_cases h2 : g.2.1 ≤ 64
      · rw [if_pos h2]; exact ⟨true, rfl, by simp⟩
      · rw [if_neg h2]
        have hno : ¬ VG g := fun hv => h2 hv.s1
        by_cases h3 : 30 < (g.2.2.length : Int)
        · rw [if_pos h3]
          by_cases h4 : (g.2.2.length : Int) ≤ 1024
          · rw [if_pos h4]; exact ⟨_, rfl, fun _ hv => absurd hv hno⟩
          · rw [if_neg h4]; exact ⟨_, rfl, fun _ hv => absurd hv hno⟩
        · rw [if_neg h3]; exact ⟨_, rfl, fun _ hv => absurd hv hno⟩
    · rw [if_neg h1]
      by_cases h3 : 30 < (g.2.2.length : Int)
      · rw [if_pos h3]
        by_cases h4 : (g.2.2.length : Int) ≤ 1024
        · rw [if_pos h4]; exact ⟨true, rfl, by simp⟩
        · rw [if_neg h4]; exact ⟨_, rfl, fun _ hv => absurd hv.el (by omega)⟩
      · rw [if_neg h3]; exact ⟨_, rfl, fun _ _ => by omega⟩
  obtain ⟨b, hb, hb2⟩ := h10
  unfold m_law54_great
  simp only [jp, hb, Option.bind_some]
  cases b with
  | true => rw [if_pos rfl]; exact ⟨true, rfl, by simp⟩
  | false =>
    rw [if_neg Bool.false_ne_true]
    by_cases h3 : 3 < g.1
    · rw [if_pos h3]
      exact ⟨_, rfl, fun h hv => ⟨(hb2 rfl hv).1, (hb2 rfl hv).2, fun h16 => absurd h16 (of_decide_eq_false h)⟩⟩
    · rw [if_neg h3]
      exact ⟨_, rfl, fun h hv => ⟨(hb2 rfl hv).1, (hb2 rfl hv).2, fun _ => by omega⟩⟩
end Go.AW

/- Models, printed by lk.py. -/
namespace Go.AW
open Go
set_option linter.unusedVariables false
end Go.AW

/- Overlaps, and where marks stand in a mark behind a mark. -/
namespace Go.AW
open Go
set_option linter.unusedVariables false
set_option linter.unusedSimpArgs false
def ovB (mark : List UInt8) (n : Nat) : List Int := ((List.range n).filter fun k => decide (1 ≤ k) && (mark.take k).isSuffixOf mark).map Int.ofNat
def ovL (mark : List UInt8) : List Int := ovB mark (mark.length - 1 + 1)
theorem ovB_succ (mark : List UInt8) {k : Nat} (hk : 1 ≤ k) : ovB mark (k + 1) = ovB mark k ++ if (mark.take k).isSuffixOf mark = true then [(k : Int)] else [] := by
  unfold ovB
  rw [List.range_succ, List.filter_append, List.map_append]
  congr 1
  rw [List.filter_cons, decide_eq_true hk, Bool.true_and]
  split <;> rfl
theorem ovB_len (mark : List UInt8) (n : Nat) : (ovB mark n).length ≤ n := by
  unfold ovB
  rw [List.length_map]
  have := List.length_filter_le (fun k => decide (1 ≤ k) && (mark.take k).isSuffixOf mark) (List.range n)
  rw [List.length_range] at this
  exact this
theorem Overlaps_eq {mark : List UInt8} (hm : mark.length ≤ 1000000) : m_syncmark_Overlaps mark = some (ovL mark) := by
  unfold m_syncmark_Overlaps
  refine bindL (loop_is (fun i => (((i + 1 : Nat) : Int), ovB mark (i + 1))) (mark.length - 1) (ovL mark) (fun i hi => ?_) ?_ rfl) rfl
  · dsimp only
    rw [if_pos (by omega)]
    simp only [jp]
    rw [if_pos ⟨Int.le_refl _, by omega, by omega⟩, HasSuffix_eq (by omega), Option.bind_some, Int.toNat_natCast, nx (n := 1000001) (by omega) (by omega), ovB_succ mark (k := i + 1) (by omega)]
    have hb := ovB_len mark (i + 1)
    rw [show ((mark.take (i + 1)).drop (0 : Int).toNat) = mark.take (i + 1) from rfl]
    by_cases h : (mark.take (i + 1)).isSuffixOf mark = true
    · rw [if_pos h, if_pos h, if_pos ⟨by simp; omega, by simp; have : 2000000 ≤ maxLen := by decide
                                                         omega⟩]
    · rw [if_neg h, if_neg h, List.append_nil]
  · dsimp only
    rw [if_neg (by omega)]
    rfl
theorem occL_len (w u : List UInt8) : (occL w u).length ≤ w.length + 1 := by
  unfold occL occB
  rw [List.length_map]
  have := List.length_filter_le (fun i => u.isPrefixOf (w.drop i)) (List.range (w.length + 1))
  rw [List.length_range] at this
  exact this
theorem Find_eq {w u : List UInt8} (hw : w.length ≤ 1000000) (hu : u.length ≤ 1000000) : m_word_Find w u = some (occL w u) := by
  unfold m_word_Find y_word_occurrences
  rw [if_pos ⟨by omega, by omega⟩, Option.bind_some]
  have hl := occL_len w u
  have hgen : ∀ (L acc : List Int), acc.length + L.length ≤ 1000001 → forL (S := (List Int)) (X := Unit) (fun a5 (x7 : Int) =>
     if fits 8 ((a5 : List Int).length + ([x7]).length) then
      some (Stp.next (a5 ++ [x7]))
     else none) L acc = some (.go (acc ++ L)) := by
    intro L
    induction L with
    | nil => intro acc _; rw [List.append_nil]; rfl
    | cons x L ih =>
      intro acc h
      rw [List.length_cons] at h
      unfold forL
      rw [if_pos ⟨by simp; omega, by simp; have : 2000000 ≤ maxLen := by decide
                                     omega⟩]
      dsimp only
      rw [ih (acc ++ [x]) (by rw [List.length_append, List.length_singleton]; omega), List.append_assoc]
      rfl
  rw [hgen (occL w u) [] (by rw [List.length_nil]; omega), List.nil_append]
  rfl
theorem Occurs_eq {w u : List UInt8} (hw : w.length ≤ 1000000) (hu : u.length ≤ 1000000) : m_syncmark_Occurs u w = some (occL w u) := by
  unfold m_syncmark_Occurs
  rw [Find_eq hw hu]
  rfl
end Go.AW

/- The anchor of chapter 54. -/
namespace Go.AW
open Go
set_option linter.unusedVariables false
def gEx54 : Gr := (2, 2, [(0, 0, 0), (0, 1, 1), (1, 0, 0)])
theorem gEx54_ok : VG gEx54 where
  l1 := by decide
  l2 := by decide
  s0 := by decide
  s1 := by decide
  el := by decide
  ed := by decide
  ord := fun i h => match i, h with
    | 0, _ => by show cmp3 ((0, 0, 0) : Int × Int × Int) (0, 1, 1) < 0; decide
    | 1, _ => by show cmp3 ((0, 1, 1) : Int × Int × Int) (1, 0, 0) < 0; decide
    | n + 2, h => absurd h (by show ¬ n + 2 + 1 < 3; omega)
theorem mEx54_ok {mark : List UInt8} (h1 : mark ≠ []) (h2 : mark.length ≤ 32) (h3 : ∀ c ∈ mark, c ∈ lets gEx54) : MOk54 gEx54 mark := ⟨gEx54_ok, by decide, h1, h2, h3⟩
theorem awake54_eq : m_law54_awakeG = some true := by
  unfold m_law54_awakeG
  have v1 := Valid_eq (mEx54_ok (mark := [49, 49]) (by decide) (by decide) (by decide)) (n := 1) (by decide)
  have v2 := Bad_eq (mEx54_ok (mark := [49, 49]) (by decide) (by decide) (by decide)) (n := 1) (by decide)
  have v3 := Valid_eq (mEx54_ok (mark := [49, 49, 48]) (by decide) (by decide) (by decide)) (n := 1) (by decide)
  have v4 := Free_eq (mEx54_ok (mark := [49, 49, 48]) (by decide) (by decide) (by decide))
  have b1 : badsW gEx54 [49, 49] 1 = [[49]] := by decide +kernel
  have b2 : badsW gEx54 [49, 49, 48] 1 = [] := by decide +kernel
  have b3 : accB gEx54 [49, 49, 48] = false := by decide +kernel
  rw [b1] at v1 v2
  rw [b2] at v3
  rw [b3] at v4
  rw [show m_syncmark_Valid (2, 2, [(0, 0, 0), (0, 1, 1), (1, 0, 0)]) [49, 49] 1 = some (false, 0) from v1, show m_syncmark_Bad (2, 2, [(0, 0, 0), (0, 1, 1), (1, 0, 0)]) [49, 49] 1 = some ([49], true, 0) from v2, show m_syncmark_Valid (2, 2, [(0, 0, 0), (0, 1, 1), (1, 0, 0)]) [49, 49, 48] 1 = some (true, 0) from v3, show m_syncmark_Free (2, 2, [(0, 0, 0), (0, 1, 1), (1, 0, 0)]) [49, 49, 48] = some (true, 0) from v4]
  rw [Overlaps_eq (by decide), Occurs_eq (by decide) (by decide), show ovL [48, 49, 49, 48] = [1] by decide +kernel, show occL [49, 49, 49, 49, 49] [49, 49] = [0, 1, 2, 3] by decide +kernel]
  simp only [jp, Option.bind_some]
  rw [EqI_eq (by decide), EqI_eq (by decide)]
  rfl
end Go.AW

/- The anchor of chapter 54. -/
namespace Go.AW
open Go Go.Proofs
theorem w_law54_awake {r : Bool} (h : m_law54_awake = some r) : Pure Try.prog 9 [] (· = HV.bool r) := by
  cases h
  exact w_law54_awakeG awake54_eq
end Go.AW

namespace Go.Proofs
open Go
def Try.strRep_ren : Go.Shelf.Ren := ⟨fun | 105 => 53 | 212 => 75 | 99 => 76 | 165 => 77 | 166 => 78 | 170 => 79 | 169 => 59 | 263 => 94 | 264 => 95 | 206 => 96 | 240 => 82 | 241 => 97 | 276 => 98 | 277 => 106 | n => n, fun | 9 => 9 | 3 => 3 | 4 => 4 | 20 => 20 | 0 => 0 | 46 => 104 | 109 => 105 | 5 => 5 | 72 => 85 | 76 => 108 | 51 => 122 | 146 => 123 | 53 => 125 | 148 => 126 | 70 => 83 | 37 => 64 | 75 => 93 | 127 => 115 | 164 => 128 | 80 => 95 | n => n, fun | n => n⟩
theorem Try.strRep : Go.Proofs.Lays.n105 Try.prog Try.strRep_ren where
  mixed := by kernel_rfl
  f99 := Try.func76.trans (congrArg some (by kernel_rfl))
  f105 := Try.func53.trans (congrArg some (by kernel_rfl))
  f165 := Try.func77.trans (congrArg some (by kernel_rfl))
  f166 := Try.func78.trans (congrArg some (by kernel_rfl))
  f169 := Try.func59.trans (congrArg some (by kernel_rfl))
  f170 := Try.func79.trans (congrArg some (by kernel_rfl))
  f206 := Try.func96.trans (congrArg some (by kernel_rfl))
  f212 := Try.func75.trans (congrArg some (by kernel_rfl))
  f240 := Try.func82.trans (congrArg some (by kernel_rfl))
  f241 := Try.func97.trans (congrArg some (by kernel_rfl))
  f263 := Try.func94.trans (congrArg some (by kernel_rfl))
  f264 := Try.func95.trans (congrArg some (by kernel_rfl))
  f276 := Try.func98.trans (congrArg some (by kernel_rfl))
  f277 := Try.func106.trans (congrArg some (by kernel_rfl))
  t0 := Try.underlying0
  a0 := Try.isAgg0
  z0 := Try.sizeOf0
  v0 := Try.zeroValue0
  t3 := Try.underlying3
  a3 := Try.isAgg3
  z3 := Try.sizeOf3
  v3 := Try.zeroValue3
  t4 := Try.underlying4
  a4 := Try.isAgg4
  z4 := Try.sizeOf4
  v4 := Try.zeroValue4
  t5 := Try.underlying5
  a5 := Try.isAgg5
  z5 := Try.sizeOf5
  v5 := Try.zeroValue5
  t9 := Try.underlying9
  a9 := Try.isAgg9
  z9 := Try.sizeOf9
  v9 := Try.zeroValue9
  t20 := Try.underlying20
  a20 := Try.isAgg20
  z20 := Try.sizeOf20
  v20 := Try.zeroValue20
  t37 := Try.underlying64
  a37 := Try.isAgg64
  z37 := Try.sizeOf64
  v37 := Try.zeroValue64
  t46 := Try.underlying104
  a46 := Try.isAgg104
  z46 := Try.sizeOf104
  v46 := Try.zeroValue104
  t51 := Try.underlying122
  a51 := Try.isAgg122
  z51 := Try.sizeOf122
  v51 := Try.zeroValue122
  t53 := Try.underlying125
  a53 := Try.isAgg125
  z53 := Try.sizeOf125
  v53 := Try.zeroValue125
  t70 := Try.underlying83
  a70 := Try.isAgg83
  z70 := Try.sizeOf83
  v70 := Try.zeroValue83
  t72 := Try.underlying85
  a72 := Try.isAgg85
  z72 := Try.sizeOf85
  v72 := Try.zeroValue85
  t75 := Try.underlying93
  a75 := Try.isAgg93
  z75 := Try.sizeOf93
  v75 := Try.zeroValue93
  t76 := Try.underlying108
  a76 := Try.isAgg108
  z76 := Try.sizeOf108
  v76 := Try.zeroValue108
  t109 := Try.underlying105
  a109 := Try.isAgg105
  z109 := Try.sizeOf105
  v109 := Try.zeroValue105
  t127 := Try.underlying115
  a127 := Try.isAgg115
  z127 := Try.sizeOf115
  v127 := Try.zeroValue115
  t146 := Try.underlying123
  a146 := Try.isAgg123
  z146 := Try.sizeOf123
  v146 := Try.zeroValue123
  t148 := Try.underlying126
  a148 := Try.isAgg126
  z148 := Try.sizeOf126
  v148 := Try.zeroValue126
  t164 := Try.underlying128
  a164 := Try.isAgg128
  z164 := Try.sizeOf128
  v164 := Try.zeroValue128
end Go.Proofs

/- strings.Repeat, by the kit's contract. -/
namespace Go.Proofs
open Go
theorem Try.bldX : Go.Proofs.Builder.Extra Try.prog Try.strRep_ren where
  sizeBuilder := by kernel_rfl
  liesBuilder := by kernel_rfl
  t5 := Try.underlying5
  a5 := Try.isAgg5
  z5 := Try.sizeOf5
  v5 := Try.zeroValue5
  infoByte := by kernel_rfl
  cellsByte := by kernel_rfl
  sizeByte := by kernel_rfl
  neB5 := by decide
end Go.Proofs
namespace Go.AW
open Go Go.Proofs Go.Lib
theorem rep_flat : ∀ (s : List UInt8) (n : Nat), Lib.repeatL s n = (List.replicate n s).flatten
  | s, 0 => rfl
  | s, n + 1 => by rw [List.replicate_succ, List.flatten_cons, ← rep_flat s n]; rfl
theorem flat_repl (s : List UInt8) : ∀ m : Nat, (List.replicate m s).flatten.length = m * s.length
  | 0 => by simp
  | m + 1 => by rw [List.replicate_succ, List.flatten_cons, List.length_append, flat_repl s m, Nat.succ_mul]; omega
theorem w_strings_Repeat {s r : List UInt8} {n : Int} (h : m_strings_Repeat s n = some r) : Pure Try.prog 53 [HV.str s, HV.int .i64 n] (· = HV.str r) := by
  unfold m_strings_Repeat at h
  split at h
  · rename_i hc
    obtain ⟨h0, h1, h2⟩ := hc
    cases h
    obtain ⟨m, rfl⟩ := Int.eq_ofNat_of_zero_le h0
    simp only [Int.toNat_natCast] at h2 ⊢
    refine ⟨enters' Try.func53 rfl rfl, fun μ w vs hs hr _ => ?_⟩
    obtain ⟨x, xs, rfl, ⟨rfl, hl⟩, y, ys, rfl, ⟨rfl, _⟩, hn⟩ := hr
    cases hn
    refine (Any.strings_Repeat Try.strRep Try.bldX ⟨s.toArray⟩ m w (by omega) (by simpa [ByteArray.size] using h2)).mono ?_
    rintro e w' ⟨rfl, hbel⟩
    have hg : Grow w w' := ⟨⟨hbel.os, hbel.tape, hbel.output⟩, hbel.size, hbel.block⟩
    refine ⟨_, .str (List.replicate m s).flatten, [], μ, rfl, ⟨rfl, trivial, rfl⟩, hs.grow hg, ⟨?_, ?_⟩, Evo.grow hs hg⟩
    · rw [← rep_flat]
    · rw [flat_repl, Nat.mul_comm]
      simp only [maxLen]
      omega
  · cases h
end Go.AW

/- Models, printed by lk.py. -/
namespace Go.AW
open Go
set_option linter.unusedVariables false
noncomputable def m_word_Next (p0 : Int) (p1 : List UInt8) : Option ((List UInt8) × Int) :=
 (m_word_Check p0 p1).bind fun x1 =>
 if x1 ≠ 0 then
  some (([] : List UInt8), x1)
 else
  lpO (loopW (S := Int × (List Int)) (X := Ou ((List Int)) ((List UInt8) × Int)) (fun a4 =>
      if 0 ≤ a4.1 then
       (idx a4.2 a4.1).bind fun x8 =>
       (idx a4.2 a4.1).bind fun x10 =>
       (m_strings_IndexByte [48, 49, 50, 51, 52, 53, 54, 55, 56, 57, 97, 98, 99, 100, 101, 102] x10).bind fun x12 =>
       if x12 < (IntKind.wrap .i64 (p0 - 1)) then
        (idx ([48, 49, 50, 51, 52, 53, 54, 55, 56, 57, 97, 98, 99, 100, 101, 102] : List UInt8) (IntKind.wrap .i64 (x12 + 1))).bind fun x14 =>
        (idx a4.2 a4.1).bind fun x16 =>
        some (Stp.exit (Ou.ret (((a4.2).set (a4.1).toNat (x14.toNat : Int)).map fun (n : Int) => UInt8.ofNat n.toNat, 0)))
       else
        (idx a4.2 a4.1).bind fun x18 =>
        some (Stp.next (IntKind.wrap .i64 (a4.1 - 1), (a4.2).set (a4.1).toNat 48))
      else
       some (Stp.exit (Ou.go a4.2))) (IntKind.wrap .i64 (((((p1.map fun c => (c.toNat : Int))).length : Nat) : Int) - 1), (p1.map fun c => (c.toNat : Int)))) (fun a20 =>
      if (((a20).length : Nat) : Int) = 65536 then
       some (([] : List UInt8), 4)
      else
       if (a20.map fun (n : Int) => UInt8.ofNat n.toNat).length + [48].length ≤ maxLen then
        some ((a20.map fun (n : Int) => UInt8.ofNat n.toNat) ++ [48], 0)
       else none) some

end Go.AW

/- Lockstep walks: []byte(s) of a string, as an owned array. -/
namespace Go.AW
open Go
section
variable {w w' : World} {μ : Mu} {H : Heap}
theorem SR.allocR (h : SR w μ H) (id k : Nat) (e : TypeId) {cs : List HV} {vs rest : List Value} (ho : ones cs) (hc : RepL w μ cs vs) (g : Grow w w') (hr : Row w' w.heap.size (vs ++ rest).toArray e) :
    SR w' (μ.set id (some w.heap.size)) (hset H id μ.nx (.arr k e cs)) ∧ Evo w μ w' (μ.set id (some w.heap.size)) := by
  have hE := Evo.repl h id (some w.heap.size) g.toSame g.size (fun b hb _ => g.old b hb) (fun b hb => by cases hb; exact .inl (Nat.le_refl _))
  refine ⟨h.repl id (some w.heap.size) _ g.toSame g.size (fun b hb _ => g.old b hb) (fun b hb => by cases hb; exact .inl (Nat.le_refl _)) ?_, hE⟩
  exact ⟨ho, (vs ++ rest).toArray, vs, rest, hr, by simp, RepL.evo hE h.ok _ _ hc⟩
theorem grow_bytes (w : World) (e : TypeId) (s : ByteArray) : Grow w (Lib.bytesWorld w e s) where
  os := rfl
  tape := rfl
  output := rfl
  size := by rw [Lib.bytesWorld_size]; omega
  old := fun b hb => Lib.bytesWorld_at_old w e s b hb
theorem row_bytes (w : World) (e : TypeId) (s : ByteArray) : Row (Lib.bytesWorld w e s) w.heap.size (Lib.bytesCells w e s) e := ⟨_, _, Lib.bytesWorld_at_new w e s, .inr (Nat.le_refl _)⟩
end
section
variable {P : Program} {ro : Option Nat} {N B : Nat} {s : AS} {all : Array Oper} {rest : List Oper} {o : Oper} {K : AS → Prop} {sl : List (Nat × HV)} {H : Heap}
theorem bytes_rep {w : World} {μ : Mu} : ∀ l : List UInt8, RepL w μ (l.map fun c => HV.int .u8 (c.toNat : Int)) (l.map fun c => Value.int .u8 (c.toNat : Int))
  | [] => rfl
  | c :: l => by
    refine ⟨_, _, rfl, ⟨rfl, ?_⟩, bytes_rep l⟩
    have := c.toNat_lt
    simp only [Lit.wf, IntKind.min, IntKind.max, IntKind.signed, IntKind.bits, Bool.and_eq_true, decide_eq_true_eq]
    simp
    omega
theorem bytes_ones : ∀ l : List UInt8, ones (l.map fun c => HV.int .u8 (c.toNat : Int))
  | [] => by simp [ones]
  | c :: l => by
    have h := bytes_ones l
    simp only [ones, List.map_cons, List.mem_cons, forall_eq_or_imp] at h ⊢
    exact ⟨rfl, h⟩
theorem AOp.convSB {src dst e : TypeId} {a b a2 b2 a3 b3 : Nat} {z z2 z3 : Value} {x : Operand} {l : List UInt8} (id : Nat) (hop : o.op = .convert src dst x) (hN : okd N o.dst = true) (hS : ty P src = some ⟨.string, a, b, z⟩) (hD : ty P dst = some ⟨.slice e, a2, b2, z2⟩) (hE : ty P e = some ⟨.int .u8, a3, b3, z3⟩) (hx : s.ev x = some (.str l))
    (h : ∀ ver, K (({ s with heap := hset s.heap id ver (.arr 1 e (l.map fun c => HV.int .u8 (c.toNat : Int))) } : AS).put o.dst (.ar id ver 1 0 l.length))) : AOp P ro N o K s := by
  refine AOp.value (fun c e => by rw [hop] at e; cases e) hN fun B μ a w hs => ?_
  obtain ⟨hx1, hxl⟩ := hs.ev hx
  have hsz : (⟨l.toArray⟩ : ByteArray).size = l.length := by simp [ByteArray.size]
  have hge := grownCap_ge w l.length 0 e
  have hle := grownCap_le_maxLen w l.length 0 e hxl
  have hcells : Lib.bytesCells w e ⟨l.toArray⟩ = (List.map (fun c : UInt8 => Value.int .u8 (c.toNat : Int)) l ++ List.replicate (grownCap w l.length 0 e - l.length) (Value.int .u8 0)).toArray := by
    unfold Lib.bytesCells
    rw [hsz]
    apply Array.ext'
    simp
  have hrow := row_bytes w e ⟨l.toArray⟩
  rw [hcells] at hrow
  obtain ⟨hsr, hEv⟩ := hs.sr.allocR id 1 e (bytes_ones l) (bytes_rep l) (grow_bytes w e ⟨l.toArray⟩) hrow
  have hrun := Lib.run_convert_string_bytes (P := P) w src dst e ⟨l.toArray⟩ (ty_spec hS).1 (ty_spec hD).1 (ty_spec hE).1
  rw [hsz] at hrun
  refine ⟨_, .ar id μ.nx 1 0 l.length, _, _, _, by simp only [execOp, hop, hx1, Sem.run_bind, hrun, Result.andThen_ok, Sem.run_pure], hsr, hEv, .inl ⟨some w.heap.size, by simp [Mu.set], .inr ⟨w.heap.size, grownCap w l.length 0 e, _, e, rfl, rfl, hge, hle, hrow, ?_⟩⟩, h μ.nx⟩
  simp
  omega
theorem b_convSB {d : Nat} {src dst e : TypeId} {a b a2 b2 a3 b3 : Nat} {z z2 z3 : Value} {x : Operand} {l : List UInt8} (id : Nat) (h0 : (o.guard, o.dst, o.op) = (none, some d, .convert src dst x)) (hS : ty P src = some ⟨.string, a, b, z⟩) (hD : ty P dst = some ⟨.slice e, a2, b2, z2⟩) (hE : ty P e = some ⟨.int .u8, a3, b3, z3⟩) (hx : (⟨sl, H⟩ : AS).ev x = some (.str l))
    (kk : ∀ ver, bops P ro N all rest K ⟨(d, .ar id ver eU8.k 0 (l.map fun c => (c.toNat : Int)).length) :: sl, (id, ver, .arr eU8.k e (eU8.E (l.map fun c => (c.toNat : Int)))) :: H⟩) : bops P ro N all (o :: rest) K ⟨sl, H⟩ := by
  obtain ⟨h1, h2⟩ := Prod.mk.inj h0
  obtain ⟨h2, h3⟩ := Prod.mk.inj h2
  refine b_opX h1 fun hN => AOp.convSB id h3 hN hS hD hE hx fun ver => ?_
  rw [h2]
  have k := kk ver
  rw [List.length_map] at k
  have hE : eU8.E (l.map fun c => (c.toNat : Int)) = l.map fun c => HV.int .u8 (c.toNat : Int) := by
    show (l.map fun c => (c.toNat : Int)).map (HV.int .u8) = _
    rw [List.map_map]
    rfl
  rw [hE] at k
  exact bops_le (putH_le (s := ⟨sl, H⟩) id ver (.arr 1 e (l.map fun c => HV.int .u8 (c.toNat : Int))) d (.ar id ver 1 0 l.length)) k
end
end Go.AW

namespace Go.AW
open Go Go.Proofs
set_option linter.unusedVariables false
set_option maxHeartbeats 1600000 in
set_option maxRecDepth 100000 in
theorem w_word_Next {p0 : Int} {p1 : List UInt8} {r : (List UInt8) × Int} (h : m_word_Next p0 p1 = some r) : Pure Try.prog 74 [HV.int .i64 p0, HV.str p1] (· = HV.tup [HV.str r.1, HV.int .i64 r.2]) := by
 unfold m_word_Next at h
 refine Pure.of_body Try.func74 rfl rfl (Nat.le_of_ble_eq_true rfl) fun hf => ?_
 unfold Try.f74
 dsimp only [enumS, Nat.reduceAdd]
 refine AW.rgs rfl fun K hK => ?_
 refine mv rfl rfl ?_
 refine mv rfl rfl ?_
 refine b_fin hK (s' := ⟨[(0, HV.int .i64 p0), (1, HV.str p1)], []⟩) (le_q rfl rfl) ?_
 clear hK K
 refine AW.seq ?_
 refine AW.rgs rfl fun K hK => ?_
 refine mv rfl rfl ?_
 refine mv rfl rfl ?_
 obtain ⟨x1, h2, h⟩ := bS h
 refine b_op rfl (o_call rfl rfl rfl rfl (ACallD.pure0 (w_word_Check h2)) ?_)
 refine mv rfl rfl ?_
 refine b_fin hK (s' := ⟨[(0, HV.int .i64 p0), (1, HV.str p1), (6, HV.int .i64 x1)], []⟩) (le_q rfl rfl) ?_
 clear hK K
 refine AW.rgs rfl fun K hK => ?_
 refine mv rfl rfl ?_
 refine bv rfl (v_bin rfl rfl b_neq) ?_
 refine b_fin hK (s' := ⟨[(0, HV.int .i64 p0), (1, HV.str p1), (6, HV.int .i64 x1), (14, HV.bool (decide (x1 ≠ 0)))], []⟩) (le_q rfl rfl) ?_
 clear hK K
 refine AW.cond rfl (fun hc => ?_) (fun hc => ?_)
 ·have hc := of_decide_eq_true hc
  have h := ifT hc h
  refine AW.rgs rfl fun K hK => ?_
  refine mv rfl rfl ?_
  refine mv rfl rfl ?_
  refine mv rfl rfl ?_
  refine b_fin hK (s' := ⟨[(4, HV.str ([] : List UInt8)), (5, HV.int .i64 x1)], []⟩) (le_q rfl rfl) ?_
  clear hK K
  refine AW.ret ?_
  have h := Option.some.inj h
  subst h
  exact ret_pure (hs := [HV.str ([] : List UInt8), HV.int .i64 x1]) (q := HV.tup [HV.str ([] : List UInt8), HV.int .i64 x1]) (.inr rfl) (resT rfl (resT rfl rfl)) rfl ⟨trivial, trivial, trivial⟩
 have hc := of_decide_eq_false hc
 have h := ifF hc h
 refine AW.skip ?_
 refine AW.rgs rfl fun K hK => ?_
 refine mv rfl rfl ?_
 refine b_convSB 74017 rfl ty9 ty64 ty5 rfl fun v3 => ?_
 refine mv rfl rfl ?_
 refine b_fin hK (s' := ⟨[(0, HV.int .i64 p0), (7, HV.ar 74017 v3 eU8.k 0 (((p1.map fun c => (c.toNat : Int))).length))], [(74017, v3, .arr eU8.k 5 (eU8.E (p1.map fun c => (c.toNat : Int))))]⟩) (le_q rfl rfl) ?_
 clear hK K
 refine AW.seq ?_
 refine AW.rgs rfl fun K hK => ?_
 refine mv rfl rfl ?_
 refine bv rfl (v_lenA rfl rfl ty64 rfl rfl) ?_
 refine bv rfl (v_bin rfl rfl b_sub) ?_
 refine mv rfl rfl ?_
 refine b_fin hK (s' := ⟨[(0, HV.int .i64 p0), (7, HV.ar 74017 v3 eU8.k 0 (((p1.map fun c => (c.toNat : Int))).length)), (8, HV.int .i64 (IntKind.wrap .i64 (((((p1.map fun c => (c.toNat : Int))).length : Nat) : Int) - 1)))], [(74017, v3, .arr eU8.k 5 (eU8.E (p1.map fun c => (c.toNat : Int))))]⟩) (le_q rfl rfl) ?_
 clear hK K
 refine AW.lpR h (by first | exact up_then | exact up_to) (S := Int × (List Int)) (V := Unit) (fun a v => ⟨[(0, HV.int .i64 p0), (7, HV.ar 74017 v3 eU8.k 0 ((a.2).length)), (8, HV.int .i64 a.1)], [(74017, v3, .arr eU8.k 5 (eU8.E a.2))]⟩) ?_ (X := (List Int)) (W := Unit) (fun a v => ⟨[(7, HV.ar 74017 v3 eU8.k 0 ((a).length))], [(74017, v3, .arr eU8.k 5 (eU8.E a))]⟩) (fun a20 w21 h => ?_) (fun a4 w5 st6 h hr7=> ?_)
 ·exact to_le (s' := ⟨[(0, HV.int .i64 p0), (7, HV.ar 74017 v3 eU8.k 0 (((p1.map fun c => (c.toNat : Int))).length)), (8, HV.int .i64 (IntKind.wrap .i64 (((((p1.map fun c => (c.toNat : Int))).length : Nat) : Int) - 1)))], [(74017, v3, .arr eU8.k 5 (eU8.E (p1.map fun c => (c.toNat : Int))))]⟩) (AS.le_of ⟨rfl, rfl, rfl, trivial⟩ ⟨rfl, trivial⟩) ⟨(), rfl⟩
 ·refine AW.seq ?_
  refine AW.rgs rfl fun K hK => ?_
  refine mv rfl rfl ?_
  refine bv rfl (v_lenA rfl rfl ty64 rfl rfl) ?_
  refine bv rfl (v_bin rfl rfl b_eql) ?_
  refine b_fin hK (s' := ⟨[(7, HV.ar 74017 v3 eU8.k 0 ((a20).length)), (47, HV.bool (decide ((((a20).length : Nat) : Int) = 65536)))], [(74017, v3, .arr eU8.k 5 (eU8.E a20))]⟩) (le_q rfl rfl) ?_
  clear hK K
  refine AW.cond rfl (fun hc => ?_) (fun hc => ?_)
  ·have hc := of_decide_eq_true hc
   have h := ifT hc h
   refine AW.rgs rfl fun K hK => ?_
   refine mv rfl rfl ?_
   refine mv rfl rfl ?_
   refine b_fin hK (s' := ⟨[(4, HV.str ([] : List UInt8)), (5, HV.int .i64 4)], []⟩) (le_q rfl rfl) ?_
   clear hK K
   refine AW.ret ?_
   have h := Option.some.inj h
   subst h
   exact ret_pure (hs := [HV.str ([] : List UInt8), HV.int .i64 4]) (q := HV.tup [HV.str ([] : List UInt8), HV.int .i64 4]) (.inr rfl) (resT rfl (resT rfl rfl)) rfl ⟨trivial, trivial, trivial⟩
  have hc := of_decide_eq_false hc
  have h := ifF hc h
  refine AW.skip ?_
  refine AW.to (to_frz 2 [(74017, v3, .arr eU8.k 5 (eU8.E a20))] ⟨[(7, slE eU8 a20), (47, HV.bool (decide ((((a20).length : Nat) : Int) = 65536)))], []⟩ ⟨⟨_, rfl, frz_slE eU8 (l := a20) rfl fun _ _ => rfl⟩, ⟨_, rfl, rfl⟩, trivial⟩ trivial ⟨rfl, trivial⟩ ⟨rfl, trivial⟩ ?_)
  refine AW.rgs rfl fun K hK => ?_
  refine mv rfl rfl ?_
  refine bv rfl (v_convB (l := a20) ty64 ty5 ty9 rfl) ?_
  obtain ⟨h22, h⟩ := ifN h
  refine bv rfl (v_bin rfl rfl (b_sadd h22)) ?_
  refine mv rfl rfl ?_
  refine mv rfl rfl ?_
  refine b_fin hK (s' := ⟨[(4, HV.str ((a20.map fun (n : Int) => UInt8.ofNat n.toNat) ++ [48])), (5, HV.int .i64 0)], []⟩) (le_q rfl rfl) ?_
  clear hK K
  refine AW.ret ?_
  have h := Option.some.inj h
  subst h
  exact ret_pure (hs := [HV.str ((a20.map fun (n : Int) => UInt8.ofNat n.toNat) ++ [48]), HV.int .i64 0]) (q := HV.tup [HV.str ((a20.map fun (n : Int) => UInt8.ofNat n.toNat) ++ [48]), HV.int .i64 0]) (.inr rfl) (resT rfl (resT rfl rfl)) rfl ⟨trivial, trivial, trivial⟩
 refine AW.seq ?_
 refine AW.rgs rfl fun K hK => ?_
 refine mv rfl rfl ?_
 refine bv rfl (v_bin rfl rfl b_geq) ?_
 refine b_fin hK (s' := ⟨[(0, HV.int .i64 p0), (7, HV.ar 74017 v3 eU8.k 0 ((a4.2).length)), (8, HV.int .i64 a4.1), (22, HV.bool (decide (0 ≤ a4.1)))], [(74017, v3, .arr eU8.k 5 (eU8.E a4.2))]⟩) (le_q rfl rfl) ?_
 clear hK K
 refine AW.cond rfl (fun hc => ?_) (fun hc => ?_)
 ·have hc := of_decide_eq_true hc
  have h := ifT hc h
  refine AW.skip ?_
  refine AW.seq (AW.block ?_)
  refine AW.rgs rfl fun K hK => ?_
  refine mv rfl rfl ?_
  refine mv rfl rfl ?_
  obtain ⟨x8, h9, h⟩ := bS h
  refine bv rfl (v_idxA ty64 es64 rfl rfl (idx_lt h9) rfl) ?_
  obtain ⟨x10, h11, h⟩ := bS h
  refine bv rfl (v_loadP ty5 rfl rfl (l_cell eU8 h11 (o := 0) rfl rfl)) ?_
  obtain ⟨x12, h13, h⟩ := bS h
  refine b_op rfl (o_call rfl rfl rfl rfl (ACallD.pure0 (w_strings_IndexByte h13)) ?_)
  refine mv rfl rfl ?_
  refine b_fin hK (s' := ⟨[(0, HV.int .i64 p0), (7, HV.ar 74017 v3 eU8.k 0 ((a4.2).length)), (8, HV.int .i64 a4.1), (9, HV.int .i64 x12)], [(74017, v3, .arr eU8.k 5 (eU8.E a4.2))]⟩) (le_q rfl rfl) ?_
  clear hK K
  refine AW.seq ?_
  refine AW.rgs rfl fun K hK => ?_
  refine mv rfl rfl ?_
  refine mv rfl rfl ?_
  refine bv rfl (v_bin rfl rfl b_sub) ?_
  refine bv rfl (v_bin rfl rfl b_lss) ?_
  refine b_fin hK (s' := ⟨[(0, HV.int .i64 p0), (7, HV.ar 74017 v3 eU8.k 0 ((a4.2).length)), (8, HV.int .i64 a4.1), (9, HV.int .i64 x12), (33, HV.bool (decide (x12 < (IntKind.wrap .i64 (p0 - 1)))))], [(74017, v3, .arr eU8.k 5 (eU8.E a4.2))]⟩) (le_q rfl rfl) ?_
  clear hK K
  refine AW.cond rfl (fun hc => ?_) (fun hc => ?_)
  ·have hc := of_decide_eq_true hc
   have h := ifT hc h
   refine AW.rgs rfl fun K hK => ?_
   refine mv rfl rfl ?_
   refine mv rfl rfl ?_
   refine mv rfl rfl ?_
   refine bv rfl (v_bin rfl rfl b_add) ?_
   obtain ⟨x14, h15, h⟩ := bS h
   refine bv rfl (v_idxS ty9 rfl rfl h15) ?_
   obtain ⟨x16, h17, h⟩ := bS h
   refine bv rfl (v_idxA ty64 es64 rfl rfl (idx_lt h17) rfl) ?_
   refine b_op rfl (o_storeE eU8 (l := a4.2) (j := a4.1) (v := (x14.toNat : Int)) rfl rfl rfl ty5 rfl rfl rfl (idx_lt h17) ?_)
   refine b_fin hK (s' := ⟨[(7, HV.ar 74017 v3 eU8.k 0 (((a4.2).set (a4.1).toNat (x14.toNat : Int)).length))], [(74017, v3, .arr eU8.k 5 (eU8.E ((a4.2).set (a4.1).toNat (x14.toNat : Int))))]⟩) (AS.le_of ⟨arl (by first | rfl | simp only [List.length_set, sortI_len, sortS_len]), trivial⟩ ⟨rfl, trivial⟩) ?_
   clear hK K
   refine AW.to (to_frz 2 [(74017, v3, .arr eU8.k 5 (eU8.E ((a4.2).set (a4.1).toNat (x14.toNat : Int))))] ⟨[(7, slE eU8 ((a4.2).set (a4.1).toNat (x14.toNat : Int)))], []⟩ ⟨⟨_, rfl, frz_slE eU8 (l := (a4.2).set (a4.1).toNat (x14.toNat : Int)) rfl fun _ _ => rfl⟩, trivial⟩ trivial ⟨rfl, trivial⟩ ⟨rfl, trivial⟩ ?_)
   refine AW.rgs rfl fun K hK => ?_
   refine mv rfl rfl ?_
   refine bv rfl (v_convB (l := (a4.2).set (a4.1).toNat (x14.toNat : Int)) ty64 ty5 ty9 rfl) ?_
   refine mv rfl rfl ?_
   refine mv rfl rfl ?_
   refine b_fin hK (s' := ⟨[(4, HV.str (((a4.2).set (a4.1).toNat (x14.toNat : Int)).map fun (n : Int) => UInt8.ofNat n.toNat)), (5, HV.int .i64 0)], []⟩) (le_q rfl rfl) ?_
   clear hK K
   have h := hr7 _ h
   refine AW.ret ?_
   have h := Option.some.inj h
   subst h
   exact ret_pure (hs := [HV.str (((a4.2).set (a4.1).toNat (x14.toNat : Int)).map fun (n : Int) => UInt8.ofNat n.toNat), HV.int .i64 0]) (q := HV.tup [HV.str (((a4.2).set (a4.1).toNat (x14.toNat : Int)).map fun (n : Int) => UInt8.ofNat n.toNat), HV.int .i64 0]) (.inr rfl) (resT rfl (resT rfl rfl)) rfl ⟨trivial, trivial, trivial⟩
  have hc := of_decide_eq_false hc
  have h := ifF hc h
  refine AW.skip ?_
  refine AW.rg rfl fun K hK => ?_
  refine mv rfl rfl ?_
  refine mv rfl rfl ?_
  obtain ⟨x18, h19, h⟩ := bS h
  refine bv rfl (v_idxA ty64 es64 rfl rfl (idx_lt h19) rfl) ?_
  refine b_op rfl (o_storeE eU8 (l := a4.2) (j := a4.1) (v := 48) rfl rfl rfl ty5 rfl rfl rfl (idx_lt h19) ?_)
  refine b_fin hK (s' := ⟨[(0, HV.int .i64 p0), (7, HV.ar 74017 v3 eU8.k 0 (((a4.2).set (a4.1).toNat 48).length)), (8, HV.int .i64 a4.1)], [(74017, v3, .arr eU8.k 5 (eU8.E ((a4.2).set (a4.1).toNat 48)))]⟩) (AS.le_of ⟨rfl, arl (by first | rfl | simp only [List.length_set, sortI_len, sortS_len]), rfl, trivial⟩ ⟨rfl, trivial⟩) ?_
  clear hK K
  refine AW.rg rfl fun K hK => ?_
  refine mv rfl rfl ?_
  refine bv rfl (v_bin rfl rfl b_sub) ?_
  refine mv rfl rfl ?_
  refine b_nil (hK _ ?_)
  clear hK K
  exact to_le (s' := ⟨[(0, HV.int .i64 p0), (7, HV.ar 74017 v3 eU8.k 0 (((a4.2).set (a4.1).toNat 48).length)), (8, HV.int .i64 (IntKind.wrap .i64 (a4.1 - 1)))], [(74017, v3, .arr eU8.k 5 (eU8.E ((a4.2).set (a4.1).toNat 48)))]⟩) (AS.le_of ⟨rfl, rfl, rfl, trivial⟩ ⟨rfl, trivial⟩) ⟨(IntKind.wrap .i64 (a4.1 - 1), (a4.2).set (a4.1).toNat 48), (), h, rfl⟩
 have hc := of_decide_eq_false hc
 have h := ifF hc h
 refine AW.exit ?_
 exact to_le (s' := ⟨[(7, HV.ar 74017 v3 eU8.k 0 ((a4.2).length))], [(74017, v3, .arr eU8.k 5 (eU8.E a4.2))]⟩) (AS.le_of ⟨rfl, trivial⟩ ⟨rfl, trivial⟩) ⟨a4.2, (), h, rfl⟩

end Go.AW



/- All words from a least to a greatest length. -/
namespace Go.AW
open Go
def marksL (q least most : Nat) : List (List UInt8) := (List.range (most + 1 - least)).flatMap fun j => allW (letters.take q) (least + j)
def y_syncmark_marks (least most q : Int) : Option (List (List UInt8)) := if (1 ≤ q ∧ q ≤ 16) ∧ 1 ≤ least ∧ least ≤ most ∧ most ≤ 16 then some (marksL q.toNat least.toNat most.toNat) else none
end Go.AW

/- The next word; all words in order. -/
namespace Go.AW
open Go
set_option linter.unusedVariables false
set_option linter.unusedSimpArgs false
def sucR (q : Nat) : List UInt8 → List UInt8
  | [] => [48]
  | c :: r => if lab c < (q : Int) - 1 then letB (lab c + 1) :: r else 48 :: sucR q r
def sucW (q : Nat) (w : List UInt8) : List UInt8 := (sucR q w.reverse).reverse
theorem sucW_snoc (q : Nat) (w : List UInt8) (c : UInt8) : sucW q (w ++ [c]) = if lab c < (q : Int) - 1 then w ++ [letB (lab c + 1)] else sucW q w ++ [48] := by
  unfold sucW
  rw [List.reverse_append]
  show (if lab c < (q : Int) - 1 then letB (lab c + 1) :: w.reverse else 48 :: sucR q w.reverse).reverse = _
  split
  · rw [List.reverse_cons, List.reverse_reverse]
  · rw [List.reverse_cons]
theorem letB_get {i : Nat} (h : i < 16) : ∃ hi : i < letters.length, letB (i : Int) = letters[i] ∧ lab letters[i] = (i : Int) := by
  have hi : i < letters.length := by rw [letters_len]; exact h
  refine ⟨hi, ?_, idx_letter hi⟩
  unfold letB
  rw [Int.toNat_natCast, List.getD_eq_getElem?_getD, List.getElem?_eq_getElem hi]
  rfl
theorem lab_letB {i : Nat} (h : i < 16) : lab (letB (i : Int)) = (i : Int) := by
  obtain ⟨hi, h1, h2⟩ := letB_get h
  rw [h1, h2]
theorem mem_take16 {q : Nat} {c : UInt8} (h : c ∈ letters.take q) : ∃ i : Nat, i < 16 ∧ i < q ∧ c = letB (i : Int) ∧ lab c = (i : Int) := by
  obtain ⟨i, hi, rfl⟩ := List.mem_take_iff_getElem.1 h
  have hi' : i < letters.length := by omega
  rw [letters_len] at hi hi'
  obtain ⟨hh, h1, h2⟩ := letB_get hi'
  exact ⟨i, hi', by omega, h1.symm, h2⟩
theorem take_map {q : Nat} (h : q ≤ 16) : letters.take q = (List.range q).map fun (i : Nat) => letB (i : Int) := by
  refine List.ext_getElem (by rw [List.length_take, letters_len, List.length_map, List.length_range]; omega) fun i h1 h2 => ?_
  rw [List.getElem_take, List.getElem_map, List.getElem_range]
  rw [List.length_take, letters_len] at h1
  exact (letB_get (by omega)).2.1.symm
def runS (s : List UInt8 → List UInt8) : List (List UInt8) → List UInt8 → List UInt8 → Prop
  | [], a, b => a = b
  | x :: l, a, b => x = a ∧ runS s l (s x) b
theorem runS_app {s : List UInt8 → List UInt8} : ∀ {l m : List (List UInt8)} {a b c : List UInt8}, runS s l a b → runS s m b c → runS s (l ++ m) a c
  | [], m, a, b, c, h1, h2 => by cases h1; exact h2
  | x :: l, m, a, b, c, h1, h2 => ⟨h1.1, runS_app h1.2 h2⟩
theorem zero_letter : letB (0 : Int) = 48 := by decide
theorem runS_last {q : Nat} (hq : 1 ≤ q) (h16 : q ≤ 16) (x : List UInt8) : ∀ (d s : Nat), s + d + 1 = q → runS (sucW q) ((List.range' s (d + 1)).map fun (i : Nat) => x ++ [letB (i : Int)]) (x ++ [letB (s : Int)]) (sucW q x ++ [48])
  | 0, s, h => by
    rw [List.range'_succ, List.map_cons]
    refine ⟨rfl, ?_⟩
    rw [sucW_snoc, lab_letB (by omega), if_neg (by omega)]
    rfl
  | d + 1, s, h => by
    rw [List.range'_succ, List.map_cons]
    refine ⟨rfl, ?_⟩
    rw [sucW_snoc, lab_letB (by omega), if_pos (by omega)]
    exact runS_last hq h16 x d (s + 1) (by omega)
theorem runS_flat {q : Nat} (hq : 1 ≤ q) (h16 : q ≤ 16) : ∀ {l : List (List UInt8)} {a b : List UInt8}, runS (sucW q) l a b → runS (sucW q) (l.flatMap fun w => (letters.take q).map fun c => w ++ [c]) (a ++ [48]) (b ++ [48])
  | [], a, b, h => by cases h; rfl
  | x :: l, a, b, h => by
    obtain ⟨rfl, h2⟩ := h
    rw [List.flatMap_cons]
    refine runS_app (b := sucW q x ++ [48]) ?_ (runS_flat hq h16 h2)
    have := runS_last hq h16 x (q - 1) 0 (by omega)
    rw [take_map h16, List.map_map, List.range_eq_range', show q = q - 1 + 1 by omega]
    rw [show q - 1 + 1 = q by omega] at this ⊢
    rw [show letB ((0 : Nat) : Int) = 48 from zero_letter] at this
    exact this
theorem runS_allW {q : Nat} (hq : 1 ≤ q) (h16 : q ≤ 16) : ∀ n, runS (sucW q) (allW (letters.take q) n) (List.replicate n 48) (List.replicate (n + 1) 48)
  | 0 => ⟨rfl, rfl⟩
  | n + 1 => by
    have := runS_flat hq h16 (runS_allW hq h16 n)
    rw [← List.replicate_succ', ← List.replicate_succ'] at this
    exact this
theorem runS_marks {q : Nat} (hq : 1 ≤ q) (h16 : q ≤ 16) (least : Nat) : ∀ d, runS (sucW q) ((List.range d).flatMap fun j => allW (letters.take q) (least + j)) (List.replicate least 48) (List.replicate (least + d) 48)
  | 0 => rfl
  | d + 1 => by
    rw [List.range_succ, List.flatMap_append]
    refine runS_app (runS_marks hq h16 least d) ?_
    have := runS_allW hq h16 (least + d)
    rw [List.flatMap_cons, List.flatMap_nil, List.append_nil]
    exact this
theorem sucR_over {q : Nat} (hq : 1 ≤ q) (h16 : q ≤ 16) : ∀ {w : List UInt8}, (∀ c ∈ w, c ∈ letters.take q) → ∀ c ∈ sucR q w, c ∈ letters.take q
  | [], _, c, hc => by
    unfold sucR at hc
    rw [List.mem_singleton] at hc
    subst hc
    rw [take_map h16]
    exact List.mem_map.2 ⟨0, List.mem_range.2 (by omega), zero_letter⟩
  | d :: w, h, c, hc => by
    have h0 : (48 : UInt8) ∈ letters.take q := by
      rw [take_map h16]
      exact List.mem_map.2 ⟨0, List.mem_range.2 (by omega), zero_letter⟩
    obtain ⟨i, i1, i2, i3, i4⟩ := mem_take16 (h d (List.mem_cons_self ..))
    unfold sucR at hc
    split at hc
    · rename_i hl
      rcases List.mem_cons.1 hc with rfl | hc
      · rw [take_map h16, i4]
        exact List.mem_map.2 ⟨i + 1, List.mem_range.2 (by omega), rfl⟩
      · exact h c (List.mem_cons_of_mem _ hc)
    · rcases List.mem_cons.1 hc with rfl | hc
      · exact h0
      · exact sucR_over hq h16 (fun c hc => h c (List.mem_cons_of_mem _ hc)) c hc
theorem sucW_over {q : Nat} (hq : 1 ≤ q) (h16 : q ≤ 16) {w : List UInt8} (h : ∀ c ∈ w, c ∈ letters.take q) : ∀ c ∈ sucW q w, c ∈ letters.take q := fun c hc => by
  unfold sucW at hc
  rw [List.mem_reverse] at hc
  exact sucR_over hq h16 (fun c hc => h c (List.mem_reverse.1 hc)) c hc
theorem Next_eq {q : Nat} (hq : 1 ≤ q) (h16 : q ≤ 16) {w : List UInt8} (hw : ∀ c ∈ w, c ∈ letters.take q) (hl : w.length ≤ 1000) : m_word_Next (q : Int) w = some (sucW q w, 0) := by
  obtain ⟨e, he, hz⟩ := wcheck (q : Int) w
  have h0 := hz.2 ⟨⟨by omega, by omega⟩, by omega, by rw [Int.toNat_natCast]; exact hw⟩
  unfold m_word_Next
  rw [he, Option.bind_some, if_neg (by omega)]
  have hmx : 1000000 ≤ maxLen := by decide
  have hib : ∀ i : Nat, i < 16 → m_strings_IndexByte [48, 49, 50, 51, 52, 53, 54, 55, 56, 57, 97, 98, 99, 100, 101, 102] ((letB (i : Int)).toNat : Int) = some (i : Int) := fun i hi => by
    unfold m_strings_IndexByte
    rw [byte_back]
    exact congrArg some (lab_letB hi)
  have hwq : IntKind.wrap .i64 ((q : Int) - 1) = ((q - 1 : Nat) : Int) := by rw [w64 (by omega) (by omega)]; omega
  -- the loop, from k letters on
  have hgen : ∀ (k z : Nat), k + z = w.length → loopW (S := Int × (List Int)) (X := Ou ((List Int)) ((List UInt8) × Int)) (fun a4 =>
      if 0 ≤ a4.1 then
       (idx a4.2 a4.1).bind fun x8 =>
       (idx a4.2 a4.1).bind fun x10 =>
       (m_strings_IndexByte [48, 49, 50, 51, 52, 53, 54, 55, 56, 57, 97, 98, 99, 100, 101, 102] x10).bind fun x12 =>
       if x12 < (IntKind.wrap .i64 ((q : Int) - 1)) then
        (idx ([48, 49, 50, 51, 52, 53, 54, 55, 56, 57, 97, 98, 99, 100, 101, 102] : List UInt8) (IntKind.wrap .i64 (x12 + 1))).bind fun x14 =>
        (idx a4.2 a4.1).bind fun x16 =>
        some (Stp.exit (Ou.ret (((a4.2).set (a4.1).toNat (x14.toNat : Int)).map fun (n : Int) => UInt8.ofNat n.toNat, 0)))
       else
        (idx a4.2 a4.1).bind fun x18 =>
        some (Stp.next (IntKind.wrap .i64 (a4.1 - 1), (a4.2).set (a4.1).toNat 48))
      else
       some (Stp.exit (Ou.go a4.2))) ((k : Int) - 1, (w.take k ++ List.replicate z (48 : UInt8)).map fun c => (c.toNat : Int)) = some (if sucW q (w.take k) = List.replicate (k + 1) (48 : UInt8) then .go ((List.replicate (k + z) (48 : UInt8)).map fun c => (c.toNat : Int)) else .ret (sucW q (w.take k) ++ List.replicate z (48 : UInt8), 0)) := by
    intro k
    induction k with
    | zero =>
      intro z hz
      refine (loopW_exit (x := .go ((List.replicate z (48 : UInt8)).map fun c => (c.toNat : Int))) ?_).trans ?_
      · dsimp only
        rw [if_neg (by omega)]
        rfl
      · rw [List.take_zero, if_pos (show sucW q [] = List.replicate (0 + 1) (48 : UInt8) from rfl), Nat.zero_add]
    | succ k ih =>
      intro z hz
      have hkl : k < w.length := by omega
      obtain ⟨i, i1, i2, i3, i4⟩ := mem_take16 (hw w[k] (List.getElem_mem hkl))
      have ht : w.take (k + 1) = w.take k ++ [w[k]] := by rw [List.take_append_getElem]
      have hs := sucW_snoc q (w.take k) w[k]
      rw [← ht, i4] at hs
      have hlen : (w.take (k + 1)).length = k + 1 := by rw [List.length_take]; omega
      have hlen0 : (w.take k).length = k := by rw [List.length_take]; omega
      have hkt : k < ((w.take (k + 1) ++ List.replicate z (48 : UInt8)).map fun c => (c.toNat : Int)).length := by rw [List.length_map, List.length_append, hlen]; omega
      have hget : ((w.take (k + 1) ++ List.replicate z (48 : UInt8)).map fun c => (c.toNat : Int))[k] = (w[k].toNat : Int) := by
        rw [List.getElem_map, List.getElem_append_left (by omega), List.getElem_take]
      have hsub : ((k + 1 : Nat) : Int) - 1 = (k : Int) := by omega
      have hset : ∀ v : UInt8, ((w.take (k + 1) ++ List.replicate z (48 : UInt8)).map fun c => (c.toNat : Int)).set k (v.toNat : Int) = (w.take k ++ (v :: List.replicate z (48 : UInt8))).map fun c => (c.toNat : Int) := fun v => by
        rw [show ((v.toNat : Int)) = (fun c : UInt8 => (c.toNat : Int)) v from rfl, ← List.map_set, ht, List.append_assoc, List.set_append, if_neg (by omega), hlen0, Nat.sub_self]
        rfl
      rw [hsub, hs]
      by_cases hq1 : (i : Int) < (q : Int) - 1
      · have hi1 : i + 1 < 16 := by omega
        obtain ⟨hh, h1, h2⟩ := letB_get hi1
        rw [if_pos hq1, if_neg]
        · refine loopW_exit ?_
          dsimp only
          rw [if_pos (Int.natCast_nonneg _), ix hkt, Option.bind_some, Option.bind_some, hget, i3, hib i i1, Option.bind_some, hwq, if_pos (by omega), nx (n := 16) (by omega) i1]
          rw [show idx ([48, 49, 50, 51, 52, 53, 54, 55, 56, 57, 97, 98, 99, 100, 101, 102] : List UInt8) ((i + 1 : Nat) : Int) = some letters[i + 1] from ix (l := letters) hh, Option.bind_some, Option.bind_some, Int.toNat_natCast, hset, ← h1]
          rw [List.map_map]
          refine congrArg (fun l => some (Stp.exit (Ou.ret (l, (0 : Int))))) ?_
          rw [show ((i + 1 : Nat) : Int) = (i : Int) + 1 by omega, List.append_assoc]
          conv => rhs; rw [← List.map_id (w.take k ++ ([letB ((i : Int) + 1)] ++ List.replicate z (48 : UInt8)))]
          refine List.map_congr_left fun c _ => ?_
          simp
        · intro he
          have := congrArg (fun l => l.getLast?) he
          rw [List.getLast?_append] at this
          simp [List.getLast?_replicate] at this
          have h3 := congrArg lab this
          rw [show (i : Int) + 1 = ((i + 1 : Nat) : Int) by omega, lab_letB hi1] at h3
          have : lab 48 = 0 := by decide
          omega
      · rw [if_neg hq1]
        refine (loopW_next (s' := ((k : Int) - 1, (w.take k ++ List.replicate (z + 1) (48 : UInt8)).map fun c => (c.toNat : Int))) ?_).trans ?_
        · dsimp only
          rw [if_pos (Int.natCast_nonneg _), ix hkt, Option.bind_some, Option.bind_some, hget, i3, hib i i1, Option.bind_some, hwq, if_neg (by omega), Option.bind_some, w64 (by omega) (by omega), Int.toNat_natCast]
          rw [show (48 : Int) = ((48 : UInt8).toNat : Int) from rfl, hset]
          rfl
        · rw [ih (z + 1) (by omega)]
          have hiff : sucW q (w.take k) = List.replicate (k + 1) (48 : UInt8) ↔ sucW q (w.take k) ++ [48] = List.replicate (k + 1 + 1) (48 : UInt8) := by
            rw [List.replicate_succ' (n := k + 1)]
            exact (List.append_left_inj [48]).symm
          by_cases he : sucW q (w.take k) = List.replicate (k + 1) (48 : UInt8)
          · rw [if_pos he, if_pos (hiff.1 he), show k + (z + 1) = k + 1 + z by omega]
          · rw [if_neg he, if_neg (fun h => he (hiff.2 h)), List.append_assoc]
            rfl
  have h1 := hgen w.length 0 (by omega)
  have hstart : IntKind.wrap .i64 (((((w.map fun c => (c.toNat : Int))).length : Nat) : Int) - 1) = (w.length : Int) - 1 := by rw [List.length_map, w64 (by omega) (by omega)]
  rw [List.take_length, List.replicate_zero, List.append_nil] at h1
  rw [hstart]
  refine lpL h1 ?_
  by_cases he : sucW q w = List.replicate (w.length + 1) (48 : UInt8)
  · rw [if_pos he]
    show (if _ then _ else _) = _
    rw [if_neg (by rw [List.length_map, List.length_replicate]; omega)]
    have hb : ((List.replicate (w.length + 0) (48 : UInt8)).map fun c => (c.toNat : Int)).map (fun (n : Int) => UInt8.ofNat n.toNat) = List.replicate w.length (48 : UInt8) := by
      rw [List.map_map, List.map_replicate]; rfl
    rw [hb, if_pos (by rw [List.length_replicate, List.length_singleton]; omega), he, List.replicate_succ']
  · rw [if_neg he, List.append_nil]
    rfl
end Go.AW

/- syncmark.marks: all words from a least to a greatest length. -/
namespace Go.AW
open Go Go.Proofs
set_option linter.unusedVariables false
theorem marks_len {q least most : Nat} {x : List UInt8} (h : x ∈ marksL q least most) : x.length ≤ most ∧ ∀ c ∈ x, c ∈ letters.take q := by
  obtain ⟨j, hj, hx⟩ := List.mem_flatMap.1 h
  obtain ⟨h1, h2⟩ := mem_allW.1 hx
  rw [List.mem_range] at hj
  exact ⟨by omega, h2⟩
theorem rep48 : ∀ n : Nat, (List.replicate n ([48] : List UInt8)).flatten = List.replicate n 48
  | 0 => rfl
  | n + 1 => by rw [List.replicate_succ, List.flatten_cons, rep48 n, List.replicate_succ]; rfl
set_option maxRecDepth 100000 in
theorem iy_syncmark_marks {least most q : Int} {L : List (List UInt8)} (h : y_syncmark_marks least most q = some L) : Yields Try.prog 73 [] [HV.fptr [HV.int .i64 least] 0, HV.fptr [HV.int .i64 most] 0, HV.fptr [HV.int .i64 q] 0] (L.map fun x => [HV.str x]) := by
  unfold y_syncmark_marks at h
  split at h
  case isFalse => cases h
  rename_i hm
  have h := Option.some.inj h
  obtain ⟨⟨q1, q16⟩, l1, lm, m16⟩ := hm
  obtain ⟨Q, rfl⟩ := Int.eq_ofNat_of_zero_le (show 0 ≤ q by omega)
  obtain ⟨A, rfl⟩ := Int.eq_ofNat_of_zero_le (show 0 ≤ least by omega)
  obtain ⟨M, rfl⟩ := Int.eq_ofNat_of_zero_le (show 0 ≤ most by omega)
  rw [Int.toNat_natCast, Int.toNat_natCast, Int.toNat_natCast] at h
  have hrun := runS_marks (q := Q) (by omega) (by omega) A (M + 1 - A)
  rw [show A + (M + 1 - A) = M + 1 by omega] at hrun
  have hrun : runS (sucW Q) L (List.replicate A 48) (List.replicate (M + 1) 48) := by rw [← h]; exact hrun
  have hL : ∀ x ∈ L, x.length ≤ M ∧ ∀ c ∈ x, c ∈ letters.take Q := fun x hx => marks_len (q := Q) (least := A) (by rw [h]; exact hx)
  have h48 : (48 : UInt8) ∈ letters.take Q := by
    rw [take_map (by omega)]
    exact List.mem_map.2 ⟨0, List.mem_range.2 (by omega), zero_letter⟩
  intro id ver H J Stop K hmn h0 hstep hdone hstop
  refine ACall.of_body Try.func73 rfl rfl (Nat.le_of_ble_eq_true rfl) ?_
  unfold Try.f73
  dsimp only [enumS, Nat.reduceAdd]
  refine AW.rgs rfl fun K1 hK => ?_
  refine bv rfl (v_loadF ty3 rfl (l_lit rfl rfl)) ?_
  have hrp : m_strings_Repeat [48] ((A : Nat) : Int) = some (List.replicate A 48) := by
    unfold m_strings_Repeat
    rw [if_pos ⟨by omega, by omega, by simp; omega⟩, Int.toNat_natCast]
    rw [rep48]
  refine b_op rfl (o_call rfl rfl rfl rfl (ACallD.pure0 (w_strings_Repeat hrp)) ?_)
  refine mv rfl rfl ?_
  refine b_nil (hK _ (AW.to (to_le (s' := ⟨[(0, .yl id ver), (1, HV.fptr [HV.int .i64 (A : Int)] 0), (2, HV.fptr [HV.int .i64 (M : Int)] 0), (3, HV.fptr [HV.int .i64 (Q : Int)] 0), (5, .str (List.replicate A 48))], H⟩) (le_slH ⟨rfl, rfl, rfl, rfl, rfl, trivial⟩) ?_)))
  clear hK K1
  refine AW.block ?_
  refine AW.loopS (fun p : Nat × List UInt8 × Heap => ⟨[(0, .yl id ver), (1, HV.fptr [HV.int .i64 (A : Int)] 0), (2, HV.fptr [HV.int .i64 (M : Int)] 0), (3, HV.fptr [HV.int .i64 (Q : Int)] 0), (5, .str p.2.1)], p.2.2⟩)
    (fun p => (p.1 ≤ L.length ∧ runS (sucW Q) (L.drop p.1) p.2.1 (List.replicate (M + 1) 48) ∧ ∀ c ∈ p.2.1, c ∈ letters.take Q) ∧ J p.1 p.2.2) (fun p => L.length - p.1) (0, List.replicate A 48, H) (AS.le_refl _) ⟨⟨Nat.zero_le _, by rw [List.drop_zero]; exact hrun, fun c hc => by rw [(List.mem_replicate.1 hc).2]; exact h48⟩, h0⟩ ?_
  rintro ⟨i, w, H1⟩ ⟨⟨hi, hr, hw⟩, hj⟩
  dsimp only at hi hr hw hj ⊢
  refine AW.seq ?_
  refine AW.rgs rfl fun K1 hK => ?_
  refine mv rfl rfl ?_
  refine bv rfl (v_lenS rfl rfl ty9 rfl) ?_
  refine bv rfl (v_loadF ty3 rfl (l_lit rfl rfl)) ?_
  refine bv rfl (v_bin rfl rfl b_leq) ?_
  refine b_nil (hK _ (AW.to (to_le (s' := ⟨[(0, .yl id ver), (1, HV.fptr [HV.int .i64 (A : Int)] 0), (2, HV.fptr [HV.int .i64 (M : Int)] 0), (3, HV.fptr [HV.int .i64 (Q : Int)] 0), (5, .str w), (13, .bool (decide ((w.length : Int) ≤ (M : Int))))], H1⟩) (le_slH ⟨rfl, rfl, rfl, rfl, rfl, rfl, trivial⟩) ?_)))
  clear hK K1
  refine AW.cond rfl (fun hc => ?_) (fun hc => ?_)
  · have hc := of_decide_eq_true hc
    have hlt : i < L.length := by
      rcases Nat.lt_or_ge i L.length with hlt | hge
      · exact hlt
      · rw [List.drop_of_length_le hge] at hr
        have hr : w = List.replicate (M + 1) 48 := hr
        rw [hr, List.length_replicate] at hc
        omega
    have hD : L.drop i = L[i] :: L.drop (i + 1) := List.drop_eq_getElem_cons hlt
    rw [hD] at hr
    obtain ⟨hx, hr2⟩ := hr
    have hxm := hL _ (List.getElem_mem hlt)
    refine AW.skip ?_
    refine AW.block ?_
    refine AW.seq ?_
    refine AW.rgs rfl fun K1 hK => ?_
    refine mv rfl rfl ?_
    refine mv rfl rfl ?_
    refine b_op rfl (o_yield (hs := [HV.str w]) rfl rfl rfl ?_)
    refine (hstep i [HV.str w] _ ?_ hj).mono ?_
    · rw [List.getElem?_map, List.getElem?_eq_getElem hlt, hx]
      rfl
    rintro r H2 ⟨b, rfl, h3, h4⟩
    refine bv rfl (v_not rfl) ?_
    refine b_nil (hK _ (AW.to (to_le (s' := ⟨[(0, .yl id ver), (1, HV.fptr [HV.int .i64 (A : Int)] 0), (2, HV.fptr [HV.int .i64 (M : Int)] 0), (3, HV.fptr [HV.int .i64 (Q : Int)] 0), (5, .str w), (17, .bool (!b))], H2⟩) (le_slH ⟨rfl, rfl, rfl, rfl, rfl, rfl, trivial⟩) ?_)))
    clear hK K1
    refine AW.cond rfl (fun hc => ?_) (fun hc => ?_)
    · have hb : b = false := by simpa using hc
      refine AW.ret ⟨.inr rfl, ?_⟩
      simp only [go_sem, reduceIte, Nat.reduceEqDiff]
      exact ⟨_, _, Conv.refl _ _, hstop _ (h4 hb)⟩
    · have hb : b = true := by simpa using hc
      have hwl : w.length ≤ 16 := by omega
      have hnx := Next_eq (q := Q) (by omega) (by omega) hw (by omega)
      refine AW.skip ?_
      refine AW.rgs rfl fun K1 hK => ?_
      refine bv rfl (v_loadF ty3 rfl (l_lit rfl rfl)) ?_
      refine mv rfl rfl ?_
      refine b_op rfl (o_call rfl rfl rfl rfl (ACallD.pure0 (w_word_Next hnx)) ?_)
      refine mv rfl rfl ?_
      refine bv rfl (v_extract rfl rfl) ?_
      refine bv rfl (v_extract rfl rfl) ?_
      refine mv rfl rfl ?_
      refine mv rfl rfl ?_
      refine b_nil (hK _ (AW.to (to_le (s' := ⟨[(0, .yl id ver), (1, HV.fptr [HV.int .i64 (A : Int)] 0), (2, HV.fptr [HV.int .i64 (M : Int)] 0), (3, HV.fptr [HV.int .i64 (Q : Int)] 0), (6, .str (sucW Q w)), (7, .int .i64 0)], H2⟩) (le_slH ⟨rfl, rfl, rfl, rfl, rfl, rfl, trivial⟩) ?_)))
      clear hK K1
      refine AW.seq ?_
      refine AW.rgs rfl fun K1 hK => ?_
      refine mv rfl rfl ?_
      refine bv rfl (v_bin rfl rfl b_neq) ?_
      refine b_nil (hK _ (AW.to (to_le (s' := ⟨[(0, .yl id ver), (1, HV.fptr [HV.int .i64 (A : Int)] 0), (2, HV.fptr [HV.int .i64 (M : Int)] 0), (3, HV.fptr [HV.int .i64 (Q : Int)] 0), (6, .str (sucW Q w)), (25, .bool false)], H2⟩) (le_slH ⟨rfl, rfl, rfl, rfl, rfl, rfl, trivial⟩) ?_)))
      clear hK K1
      refine AW.cond rfl (fun hc => by cases hc) (fun _ => ?_)
      refine AW.skip ?_
      refine AW.rg rfl fun K1 hK => ?_
      refine mv rfl rfl ?_
      refine mv rfl rfl ?_
      refine b_nil (hK _ ?_)
      clear hK K1
      refine ⟨(i + 1, sucW Q w, H2), ⟨⟨by dsimp only; omega, ?_, sucW_over (by omega) (by omega) hw⟩, h3 hb⟩, by dsimp only; omega, le_slH ⟨rfl, rfl, rfl, rfl, rfl, trivial⟩⟩
      dsimp only
      rw [hx] at hr2
      exact hr2
  · have hc := of_decide_eq_false hc
    have hge : i = L.length := by
      rcases Nat.lt_or_ge i L.length with hlt | hge
      · have hD : L.drop i = L[i] :: L.drop (i + 1) := List.drop_eq_getElem_cons hlt
        rw [hD] at hr
        have := hL _ (List.getElem_mem hlt)
        rw [hr.1] at this
        omega
      · omega
    refine AW.exit ?_
    refine ⟨.inl rfl, ?_⟩
    simp only [go_sem, reduceIte, Nat.reduceEqDiff]
    refine ⟨_, _, Conv.refl _ _, hdone _ ?_⟩
    rw [List.length_map, ← hge]
    exact hj
end Go.AW

/- Models, printed by lk.py. -/
namespace Go.AW
open Go
set_option linter.unusedVariables false
noncomputable def m_syncmark_Search (p0 : TLabelsStatesEdges) (p1 : Int) (p2 : Int) (p3 : Int) : Option ((List UInt8) × Int) :=
 (m_graph_Check p0).bind fun x3 =>
 if x3 ≠ 0 then
  some (([] : List UInt8), 1)
 else
  if 16 < p0.1 then
   some (([] : List UInt8), 12)
  else
   jp (fun (a5 : Bool) =>
     if a5 = true then
      some (([] : List UInt8), 2)
     else
      if 16 < p3 then
       some (([] : List UInt8), 4)
      else
       lpO (loopW (S := Int × Int) (X := Ou (Unit) ((List UInt8) × Int)) (fun a8 =>
           if a8.2 < p3 then
            if 65536 < (IntKind.wrap .i64 (a8.1 * p0.1)) then
             some (Stp.exit (Ou.ret (([] : List UInt8), 4)))
            else
             some (Stp.next (IntKind.wrap .i64 (a8.1 * p0.1), IntKind.wrap .i64 (a8.2 + 1)))
           else
            some (Stp.exit (Ou.go ()))) (1, 0)) (fun a12 =>
           (y_syncmark_marks p2 p3 p0.1).bind fun L14 =>
           lpO (forL (S := Unit) (X := (List UInt8)) (fun a16 (x18 : (List UInt8)) =>
               (m_syncmark_bad p0 x18 p1).bind fun x22 =>
               if (!x22.2) = true then
                some (Stp.exit x18)
               else
                some (Stp.next ())) L14 ()) (fun a24 =>
               some (([] : List UInt8), 20)) fun a26 =>
               some (a26, 0)) some)
     fun k7 =>
    if p1 < 0 then
     k7 true
    else
     if 4096 < p1 then
      k7 true
     else
      if p2 < 1 then
       k7 true
      else
       k7 (decide (p3 < p2))

noncomputable def m_law54_SyncmarkSearch (p0 : TLabelsStatesEdges) (p1 : Int) (p2 : Int) (p3 : Int) : Option (Bool) :=
 jp (fun (a1 : Bool) =>
   if a1 = true then
    (m_law54_awake).bind fun x4 =>
    some x4
   else
    (m_syncmark_Search p0 (Int.tmod (IntKind.wrap .i64 p1) 6) (IntKind.wrap .i64 (1 + (Int.tmod (IntKind.wrap .i64 p2) 3))) (IntKind.wrap .i64 (1 + (Int.tmod (IntKind.wrap .i64 p3) 4)))).bind fun x6 =>
    if (IntKind.wrap .i64 (1 + (Int.tmod (IntKind.wrap .i64 p3) 4))) < (IntKind.wrap .i64 (1 + (Int.tmod (IntKind.wrap .i64 p2) 3))) then
     jp (fun (a8 : Bool) =>
       some a8)
       fun k10 =>
      if x6.2 = 2 then
       if x6.1 = ([] : List UInt8) then
        (m_law54_awake).bind fun x11 =>
        k10 x11
       else
        k10 false
      else
       k10 false
    else
     lpO (loopW (S := Int) (X := Ou (Unit) (Bool)) (fun a15 =>
         if a15 ≤ (IntKind.wrap .i64 (1 + (Int.tmod (IntKind.wrap .i64 p3) 4))) then
          (m_word_All p0.1 a15).bind fun x19 =>
          if x19.2 ≠ 0 then
           some (Stp.exit (Ou.ret false))
          else
           lpO (loopW (S := Int) (X := Ou (Unit) (Bool)) (fun a21 =>
               if a21 < ((x19.1).length : Int) then
                (idx x19.1 a21).bind fun x25 =>
                (m_syncmark_Valid p0 x25 (Int.tmod (IntKind.wrap .i64 p1) 6)).bind fun x27 =>
                if x27.2 ≠ 0 then
                 some (Stp.exit (Ou.ret false))
                else
                 if x27.1 = true then
                  jp (fun (a29 : Bool) =>
                    some (Stp.exit (Ou.ret a29)))
                    fun k31 =>
                   if x6.2 = 0 then
                    if x6.1 = x25 then
                     (m_law54_awake).bind fun x32 =>
                     k31 x32
                    else
                     k31 false
                   else
                    k31 false
                 else
                  some (Stp.next (IntKind.wrap .i64 (a21 + 1)))
               else
                some (Stp.exit (Ou.go ()))) 0) (fun a36 =>
               some (Stp.next (IntKind.wrap .i64 (a15 + 1)))) (fun r => some (Stp.exit (Ou.ret r)))
         else
          some (Stp.exit (Ou.go ()))) (IntKind.wrap .i64 (1 + (Int.tmod (IntKind.wrap .i64 p2) 3)))) (fun a38 =>
         jp (fun (a40 : Bool) =>
           some a40)
           fun k42 =>
          if x6.2 = 20 then
           if x6.1 = ([] : List UInt8) then
            (m_law54_awake).bind fun x43 =>
            k42 x43
           else
            k42 false
          else
           k42 false) some)
   fun k3 =>
  (m_law54_great p0).bind fun x47 =>
  if x47 = true then
   k3 true
  else
   (m_ref09_Check p0).bind fun x49 =>
   if x49 ≠ 0 then
    k3 true
   else
    k3 (decide (3 < p0.1))

end Go.AW

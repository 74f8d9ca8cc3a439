import Derived.Test.YtibfjjmglgabdaaGreatDoorWa3
import Derived.Laws.Externs
import Derived.Lib.Builder
import Derived.Lib.UnsafeStr
import Derived.Shelf.RegionOpenPlain
import Derived.Shelf.SlicesE.Clone
import Derived.Shelf.Strconv.Itoa3
import Derived.Test.YtibfjjmglgabdaaGreatDoorChecked
import Derived.WalkKit
namespace Go.AW
open Go Go.Proofs
set_option linter.unusedVariables false
set_option maxHeartbeats 1600000 in
set_option maxRecDepth 100000 in
theorem w_graph_list {p0 : TFromLabelTo} {r : (List (Int))} (h : m_graph_list p0 = some r) : Pure Tryz.prog 34 [HV.agg [HV.int .i64 p0.1, HV.int .i64 p0.2.1, HV.int .i64 p0.2.2]] (· = slE eInt r) := by
 unfold m_graph_list at h
 refine Pure.of_body Tryz.func34 rfl rfl (Nat.le_of_ble_eq_true rfl) fun hf => ?_
 unfold Tryz.f34
 dsimp only [enumS, Nat.reduceAdd]
 refine AW.rgs rfl fun K hK => ?_
 refine b_op rfl (o_box rfl rfl rfl ?_)
 refine mv rfl rfl ?_
 refine b_fin hK (s' := ⟨[(1, HV.fptr [HV.int .i64 p0.1, HV.int .i64 p0.2.1, HV.int .i64 p0.2.2] 0)], []⟩) (le_q rfl rfl) ?_
 clear hK K
 refine AW.rgs rfl fun K hK => ?_
 refine bv rfl (v_fieldAddrF fo56_0 rfl) ?_
 refine bv rfl (v_loadF ty3 rfl (l_lit rfl rfl)) ?_
 refine bv rfl (v_fieldAddrF fo56_1 rfl) ?_
 refine bv rfl (v_loadF ty3 rfl (l_lit rfl rfl)) ?_
 refine bv rfl (v_fieldAddrF fo56_2 rfl) ?_
 refine bv rfl (v_loadF ty3 rfl (l_lit rfl rfl)) ?_
 refine b_op rfl (o_bsl rfl rfl (as_of (cs := [HV.int .i64 p0.1, HV.int .i64 p0.2.1, HV.int .i64 p0.2.2]) ty27 ty3 rfl rfl rfl rfl rfl) ?_)
 refine mv rfl rfl ?_
 refine b_fin hK (s' := ⟨[(2, slE eInt [p0.1, p0.2.1, p0.2.2])], []⟩) (le_q rfl rfl) ?_
 clear hK K
 refine AW.ret ?_
 have h := Option.some.inj h
 subst h
 exact ret_pure (hs := [slE eInt [p0.1, p0.2.1, p0.2.2]]) (q := slE eInt [p0.1, p0.2.1, p0.2.2]) (.inr rfl) (resT rfl rfl) rfl (clean_slE fun _ _ => ⟨trivial, trivial⟩)

set_option maxHeartbeats 1600000 in
set_option maxRecDepth 100000 in
theorem w_cmp_isNaN_int {p0 : Int} {r : Bool} (h : m_cmp_isNaN_int p0 = some r) : Pure Tryz.prog 83 [HV.int .i64 p0] (· = HV.bool r) := by
 unfold m_cmp_isNaN_int at h
 refine Pure.of_body Tryz.func83 rfl rfl (Nat.le_of_ble_eq_true rfl) fun hf => ?_
 unfold Tryz.f83
 dsimp only [enumS, Nat.reduceAdd]
 refine AW.rgs rfl fun K hK => ?_
 refine mv rfl rfl ?_
 refine b_fin hK (s' := ⟨[(0, HV.int .i64 p0)], []⟩) (le_q rfl rfl) ?_
 clear hK K
 refine AW.rgs rfl fun K hK => ?_
 refine mv rfl rfl ?_
 refine mv rfl rfl ?_
 refine bv rfl (v_bin rfl rfl b_neq) ?_
 refine mv rfl rfl ?_
 refine b_fin hK (s' := ⟨[(2, HV.bool (decide (p0 ≠ p0)))], []⟩) (le_q rfl rfl) ?_
 clear hK K
 refine AW.ret ?_
 have h := Option.some.inj h
 subst h
 exact ret_pure (hs := [HV.bool (decide (p0 ≠ p0))]) (q := HV.bool (decide (p0 ≠ p0))) (.inr rfl) (resT rfl rfl) rfl trivial

set_option maxHeartbeats 1600000 in
set_option maxRecDepth 100000 in
theorem w_cmp_Compare_int {p0 : Int} {p1 : Int} {r : Int} (h : m_cmp_Compare_int p0 p1 = some r) : Pure Tryz.prog 72 [HV.int .i64 p0, HV.int .i64 p1] (· = HV.int .i64 r) := by
 unfold m_cmp_Compare_int at h
 refine Pure.of_body Tryz.func72 rfl rfl (Nat.le_of_ble_eq_true rfl) fun hf => ?_
 unfold Tryz.f72
 dsimp only [enumS, Nat.reduceAdd]
 refine AW.rgs rfl fun K hK => ?_
 refine mv rfl rfl ?_
 refine b_fin hK (s' := ⟨[(0, HV.int .i64 p0), (1, HV.int .i64 p1)], []⟩) (le_q rfl rfl) ?_
 clear hK K
 refine AW.rgs rfl fun K hK => ?_
 refine mv rfl rfl ?_
 obtain ⟨x1, h2, h⟩ := bS h
 refine b_op rfl (o_call rfl rfl rfl rfl (ACallD.pure0 (w_cmp_isNaN_int h2)) ?_)
 refine mv rfl rfl ?_
 refine b_fin hK (s' := ⟨[(0, HV.int .i64 p0), (1, HV.int .i64 p1), (5, HV.bool x1)], []⟩) (le_q rfl rfl) ?_
 clear hK K
 refine AW.rgs rfl fun K hK => ?_
 refine mv rfl rfl ?_
 obtain ⟨x3, h4, h⟩ := bS h
 refine b_op rfl (o_call rfl rfl rfl rfl (ACallD.pure0 (w_cmp_isNaN_int h4)) ?_)
 refine mv rfl rfl ?_
 refine b_fin hK (s' := ⟨[(0, HV.int .i64 p0), (1, HV.int .i64 p1), (5, HV.bool x1), (6, HV.bool x3)], []⟩) (le_q rfl rfl) ?_
 clear hK K
 refine AW.seq ?_
 refine AW.rgs rfl fun K hK => ?_
 refine mv rfl rfl ?_
 refine b_fin hK (s' := ⟨[(0, HV.int .i64 p0), (1, HV.int .i64 p1), (6, HV.bool x3), (11, HV.bool x1)], []⟩) (le_q rfl rfl) ?_
 clear hK K
 refine AW.cond rfl (fun hc => ?_) (fun hc => ?_)
 ·have h := ifT hc h
  refine AW.seq ?_
  refine AW.rgs rfl fun K hK => ?_
  refine mv rfl rfl ?_
  refine b_fin hK (s' := ⟨[(12, HV.bool x3)], []⟩) (le_q rfl rfl) ?_
  clear hK K
  refine AW.cond rfl (fun hc => ?_) (fun hc => ?_)
  ·have h := ifT hc h
   refine AW.rgs rfl fun K hK => ?_
   refine mv rfl rfl ?_
   refine b_fin hK (s' := ⟨[(4, HV.int .i64 0)], []⟩) (le_q rfl rfl) ?_
   clear hK K
   refine AW.ret ?_
   have h := Option.some.inj h
   subst h
   exact ret_pure (hs := [HV.int .i64 0]) (q := HV.int .i64 0) (.inr rfl) (resT rfl rfl) rfl trivial
  ·have h := ifF (bF' hc) h
   refine AW.skip ?_
   refine AW.rgs rfl fun K hK => ?_
   refine mv rfl rfl ?_
   refine b_fin hK (s' := ⟨[(4, HV.int .i64 (-1))], []⟩) (le_q rfl rfl) ?_
   clear hK K
   refine AW.ret ?_
   have h := Option.some.inj h
   subst h
   exact ret_pure (hs := [HV.int .i64 (-1)]) (q := HV.int .i64 (-1)) (.inr rfl) (resT rfl rfl) rfl trivial
 ·have h := ifF (bF' hc) h
  refine AW.skip ?_
  refine AW.seq ?_
  refine AW.rgs rfl fun K hK => ?_
  refine mv rfl rfl ?_
  refine b_fin hK (s' := ⟨[(0, HV.int .i64 p0), (1, HV.int .i64 p1), (13, HV.bool x3)], []⟩) (le_q rfl rfl) ?_
  clear hK K
  refine AW.cond rfl (fun hc => ?_) (fun hc => ?_)
  ·have h := ifT hc h
   refine AW.rgs rfl fun K hK => ?_
   refine mv rfl rfl ?_
   refine b_fin hK (s' := ⟨[(4, HV.int .i64 1)], []⟩) (le_q rfl rfl) ?_
   clear hK K
   refine AW.ret ?_
   have h := Option.some.inj h
   subst h
   exact ret_pure (hs := [HV.int .i64 1]) (q := HV.int .i64 1) (.inr rfl) (resT rfl rfl) rfl trivial
  ·have h := ifF (bF' hc) h
   refine AW.skip ?_
   refine AW.seq ?_
   refine AW.rgs rfl fun K hK => ?_
   refine mv rfl rfl ?_
   refine mv rfl rfl ?_
   refine bv rfl (v_bin rfl rfl b_lss) ?_
   refine b_fin hK (s' := ⟨[(0, HV.int .i64 p0), (1, HV.int .i64 p1), (16, HV.bool (decide (p0 < p1)))], []⟩) (le_q rfl rfl) ?_
   clear hK K
   refine AW.cond rfl (fun hc => ?_) (fun hc => ?_)
   ·have hc := of_decide_eq_true hc
    have h := ifT hc h
    refine AW.rgs rfl fun K hK => ?_
    refine mv rfl rfl ?_
    refine b_fin hK (s' := ⟨[(4, HV.int .i64 (-1))], []⟩) (le_q rfl rfl) ?_
    clear hK K
    refine AW.ret ?_
    have h := Option.some.inj h
    subst h
    exact ret_pure (hs := [HV.int .i64 (-1)]) (q := HV.int .i64 (-1)) (.inr rfl) (resT rfl rfl) rfl trivial
   ·have hc := of_decide_eq_false hc
    have h := ifF hc h
    refine AW.skip ?_
    refine AW.seq ?_
    refine AW.rgs rfl fun K hK => ?_
    refine mv rfl rfl ?_
    refine mv rfl rfl ?_
    refine bv rfl (v_bin rfl rfl b_gtr) ?_
    refine b_fin hK (s' := ⟨[(19, HV.bool (decide (p1 < p0)))], []⟩) (le_q rfl rfl) ?_
    clear hK K
    refine AW.cond rfl (fun hc => ?_) (fun hc => ?_)
    ·have hc := of_decide_eq_true hc
     have h := ifT hc h
     refine AW.rgs rfl fun K hK => ?_
     refine mv rfl rfl ?_
     refine b_fin hK (s' := ⟨[(4, HV.int .i64 1)], []⟩) (le_q rfl rfl) ?_
     clear hK K
     refine AW.ret ?_
     have h := Option.some.inj h
     subst h
     exact ret_pure (hs := [HV.int .i64 1]) (q := HV.int .i64 1) (.inr rfl) (resT rfl rfl) rfl trivial
    ·have hc := of_decide_eq_false hc
     have h := ifF hc h
     refine AW.skip ?_
     refine AW.rgs rfl fun K hK => ?_
     refine mv rfl rfl ?_
     refine b_fin hK (s' := ⟨[(4, HV.int .i64 0)], []⟩) (le_q rfl rfl) ?_
     clear hK K
     refine AW.ret ?_
     have h := Option.some.inj h
     subst h
     exact ret_pure (hs := [HV.int .i64 0]) (q := HV.int .i64 0) (.inr rfl) (resT rfl rfl) rfl trivial

set_option maxHeartbeats 1600000 in
set_option maxRecDepth 100000 in
theorem w_slices_Compare_Lint_int {p0 : List (Int)} {p1 : List (Int)} {r : Int} (h : m_slices_Compare_Lint_int p0 p1 = some r) : Pure Tryz.prog 57 [slE eInt p0, slE eInt p1] (· = HV.int .i64 r) := by
 unfold m_slices_Compare_Lint_int at h
 refine Pure.of_body Tryz.func57 rfl rfl (Nat.le_of_ble_eq_true rfl) fun hf => ?_
 unfold Tryz.f57
 dsimp only [enumS, Nat.reduceAdd]
 refine AW.rgs rfl fun K hK => ?_
 refine mv rfl rfl ?_
 refine b_fin hK (s' := ⟨[(0, slE eInt p0), (1, slE eInt p1)], []⟩) (le_q rfl rfl) ?_
 clear hK K
 refine AW.seq ?_
 refine AW.rgs rfl fun K hK => ?_
 refine mv rfl rfl ?_
 refine bv rfl (v_lenF rfl rfl ty27 rfl) ?_
 refine mv rfl rfl ?_
 refine b_fin hK (s' := ⟨[(0, slE eInt p0), (1, slE eInt p1), (9, slE eInt p0), (10, HV.int .i64 ((p0).length : Int)), (11, HV.int .i64 0)], []⟩) (le_q rfl rfl) ?_
 clear hK K
 refine AW.lpR h (by first | exact up_then | exact up_to) (S := Int) (V := Unit) (fun a v => ⟨[(0, slE eInt p0), (1, slE eInt p1), (9, slE eInt p0), (10, HV.int .i64 ((p0).length : Int)), (11, HV.int .i64 a)], []⟩) ?_ (X := Unit) (W := Unit) (fun a v => ⟨[(0, slE eInt p0), (1, slE eInt p1)], []⟩) (fun a11 w12 h => ?_) (fun a1 w2 st3 h hr4=> ?_)
 ·exact to_le (s' := ⟨[(0, slE eInt p0), (1, slE eInt p1), (9, slE eInt p0), (10, HV.int .i64 ((p0).length : Int)), (11, HV.int .i64 0)], []⟩) (AS.le_of ⟨rfl, rfl, rfl, rfl, rfl, trivial⟩ trivial) ⟨(), rfl⟩
 ·refine AW.seq ?_
  refine AW.rgs rfl fun K hK => ?_
  refine mv rfl rfl ?_
  refine bv rfl (v_lenF rfl rfl ty27 rfl) ?_
  refine mv rfl rfl ?_
  refine bv rfl (v_lenF rfl rfl ty27 rfl) ?_
  refine bv rfl (v_bin rfl rfl b_lss) ?_
  refine b_fin hK (s' := ⟨[(35, HV.bool (decide (((p0).length : Int) < ((p1).length : Int))))], []⟩) (le_q rfl rfl) ?_
  clear hK K
  refine AW.cond rfl (fun hc => ?_) (fun hc => ?_)
  ·have hc := of_decide_eq_true hc
   have h := ifT hc h
   refine AW.rgs rfl fun K hK => ?_
   refine mv rfl rfl ?_
   refine b_fin hK (s' := ⟨[(4, HV.int .i64 (-1))], []⟩) (le_q rfl rfl) ?_
   clear hK K
   refine AW.ret ?_
   have h := Option.some.inj h
   subst h
   exact ret_pure (hs := [HV.int .i64 (-1)]) (q := HV.int .i64 (-1)) (.inr rfl) (resT rfl rfl) rfl trivial
  ·have hc := of_decide_eq_false hc
   have h := ifF hc h
   refine AW.skip ?_
   refine AW.rgs rfl fun K hK => ?_
   refine mv rfl rfl ?_
   refine b_fin hK (s' := ⟨[(4, HV.int .i64 0)], []⟩) (le_q rfl rfl) ?_
   clear hK K
   refine AW.ret ?_
   have h := Option.some.inj h
   subst h
   exact ret_pure (hs := [HV.int .i64 0]) (q := HV.int .i64 0) (.inr rfl) (resT rfl rfl) rfl trivial
 ·refine AW.rgs rfl fun K hK => ?_
  refine bv rfl (v_bin rfl rfl b_lss) ?_
  refine b_fin hK (s' := ⟨[(0, slE eInt p0), (1, slE eInt p1), (9, slE eInt p0), (10, HV.int .i64 ((p0).length : Int)), (11, HV.int .i64 a1), (12, HV.bool (decide (a1 < ((p0).length : Int))))], []⟩) (le_q rfl rfl) ?_
  clear hK K
  refine AW.cseq rfl (fun hc => ?_) (fun hc => ?_)
  ·have hc := of_decide_eq_true hc
   have h := ifT hc h
   refine AW.skip ?_
   refine AW.seq (AW.block ?_)
   refine AW.rgs rfl fun K hK => ?_
   refine mv rfl rfl ?_
   obtain ⟨x5, h6, h⟩ := bS h
   refine bv rfl (v_idxF ty27 es27 rfl rfl (idx_lt h6)) ?_
   refine bv rfl (v_loadF ty3 rfl (l_cell eInt h6 (o := 0) rfl rfl)) ?_
   refine mv rfl rfl ?_
   refine mv rfl rfl ?_
   refine b_fin hK (s' := ⟨[(0, slE eInt p0), (1, slE eInt p1), (5, HV.int .i64 a1), (6, HV.int .i64 x5), (9, slE eInt p0), (10, HV.int .i64 ((p0).length : Int)), (11, HV.int .i64 a1)], []⟩) (le_q rfl rfl) ?_
   clear hK K
   refine AW.seq ?_
   refine AW.rgs rfl fun K hK => ?_
   refine mv rfl rfl ?_
   refine mv rfl rfl ?_
   refine bv rfl (v_lenF rfl rfl ty27 rfl) ?_
   refine bv rfl (v_bin rfl rfl b_geq) ?_
   refine b_fin hK (s' := ⟨[(0, slE eInt p0), (1, slE eInt p1), (5, HV.int .i64 a1), (6, HV.int .i64 x5), (9, slE eInt p0), (10, HV.int .i64 ((p0).length : Int)), (11, HV.int .i64 a1), (19, HV.bool (decide (((p1).length : Int) ≤ a1)))], []⟩) (le_q rfl rfl) ?_
   clear hK K
   refine AW.cond rfl (fun hc => ?_) (fun hc => ?_)
   ·have hc := of_decide_eq_true hc
    have h := ifT hc h
    refine AW.rgs rfl fun K hK => ?_
    refine mv rfl rfl ?_
    refine b_fin hK (s' := ⟨[(4, HV.int .i64 1)], []⟩) (le_q rfl rfl) ?_
    clear hK K
    have h := hr4 _ h
    refine AW.ret ?_
    have h := Option.some.inj h
    subst h
    exact ret_pure (hs := [HV.int .i64 1]) (q := HV.int .i64 1) (.inr rfl) (resT rfl rfl) rfl trivial
   ·have hc := of_decide_eq_false hc
    have h := ifF hc h
    refine AW.skip ?_
    refine AW.rgs rfl fun K hK => ?_
    refine mv rfl rfl ?_
    refine mv rfl rfl ?_
    obtain ⟨x7, h8, h⟩ := bS h
    refine bv rfl (v_idxF ty27 es27 rfl rfl (idx_lt h8)) ?_
    refine bv rfl (v_loadF ty3 rfl (l_cell eInt h8 (o := 0) rfl rfl)) ?_
    refine mv rfl rfl ?_
    refine b_fin hK (s' := ⟨[(0, slE eInt p0), (1, slE eInt p1), (6, HV.int .i64 x5), (7, HV.int .i64 x7), (9, slE eInt p0), (10, HV.int .i64 ((p0).length : Int)), (11, HV.int .i64 a1)], []⟩) (le_q rfl rfl) ?_
    clear hK K
    refine AW.rgs rfl fun K hK => ?_
    refine mv rfl rfl ?_
    refine mv rfl rfl ?_
    obtain ⟨x9, h10, h⟩ := bS h
    refine b_op rfl (o_call rfl rfl rfl rfl (ACallD.pure0 (w_cmp_Compare_int h10)) ?_)
    refine mv rfl rfl ?_
    refine b_fin hK (s' := ⟨[(0, slE eInt p0), (1, slE eInt p1), (8, HV.int .i64 x9), (9, slE eInt p0), (10, HV.int .i64 ((p0).length : Int)), (11, HV.int .i64 a1)], []⟩) (le_q rfl rfl) ?_
    clear hK K
    refine AW.rgs rfl fun K hK => ?_
    refine mv rfl rfl ?_
    refine bv rfl (v_bin rfl rfl b_neq) ?_
    refine b_fin hK (s' := ⟨[(0, slE eInt p0), (1, slE eInt p1), (8, HV.int .i64 x9), (9, slE eInt p0), (10, HV.int .i64 ((p0).length : Int)), (11, HV.int .i64 a1), (28, HV.bool (decide (x9 ≠ 0)))], []⟩) (le_q rfl rfl) ?_
    clear hK K
    refine AW.cond rfl (fun hc => ?_) (fun hc => ?_)
    ·have hc := of_decide_eq_true hc
     have h := ifT hc h
     refine AW.rgs rfl fun K hK => ?_
     refine mv rfl rfl ?_
     refine mv rfl rfl ?_
     refine b_fin hK (s' := ⟨[(4, HV.int .i64 x9)], []⟩) (le_q rfl rfl) ?_
     clear hK K
     have h := hr4 _ h
     refine AW.ret ?_
     have h := Option.some.inj h
     subst h
     exact ret_pure (hs := [HV.int .i64 x9]) (q := HV.int .i64 x9) (.inr rfl) (resT rfl rfl) rfl trivial
    ·have hc := of_decide_eq_false hc
     have h := ifF hc h
     refine AW.skip ?_
     refine AW.rg rfl fun K hK => ?_
     refine bv rfl (v_bin rfl rfl b_add) ?_
     refine mv rfl rfl ?_
     refine b_nil (hK _ ?_)
     clear hK K
     exact to_le (s' := ⟨[(0, slE eInt p0), (1, slE eInt p1), (9, slE eInt p0), (10, HV.int .i64 ((p0).length : Int)), (11, HV.int .i64 (IntKind.wrap .i64 (a1 + 1)))], []⟩) (AS.le_of ⟨rfl, rfl, rfl, rfl, rfl, trivial⟩ trivial) ⟨IntKind.wrap .i64 (a1 + 1), (), h, rfl⟩
  ·have hc := of_decide_eq_false hc
   have h := ifF hc h
   refine AW.exit ?_
   exact to_le (s' := ⟨[(0, slE eInt p0), (1, slE eInt p1)], []⟩) (AS.le_of ⟨rfl, rfl, trivial⟩ trivial) ⟨(), (), h, rfl⟩

set_option maxHeartbeats 1600000 in
set_option maxRecDepth 100000 in
theorem w_graph_by_api_Edge_1 {p0 : TFromLabelTo} {p1 : TFromLabelTo} {r : Int} (h : m_graph_by_api_Edge_1 p0 p1 = some r) : Pure Tryz.prog 56 [HV.agg [HV.int .i64 p0.1, HV.int .i64 p0.2.1, HV.int .i64 p0.2.2], HV.agg [HV.int .i64 p1.1, HV.int .i64 p1.2.1, HV.int .i64 p1.2.2], HV.fptr [HV.fn (.func 34) [] []] 0] (· = HV.int .i64 r) := by
 unfold m_graph_by_api_Edge_1 at h
 refine Pure.of_body Tryz.func56 rfl rfl (Nat.le_of_ble_eq_true rfl) fun hf => ?_
 unfold Tryz.f56
 dsimp only [enumS, Nat.reduceAdd]
 refine AW.rgs rfl fun K hK => ?_
 refine b_op rfl (o_box rfl rfl rfl ?_)
 refine b_op rfl (o_box rfl rfl rfl ?_)
 refine mv rfl rfl ?_
 refine b_fin hK (s' := ⟨[(2, HV.fptr [HV.fn (.func 34) [] []] 0), (3, HV.fptr [HV.int .i64 p0.1, HV.int .i64 p0.2.1, HV.int .i64 p0.2.2] 0), (4, HV.fptr [HV.int .i64 p1.1, HV.int .i64 p1.2.1, HV.int .i64 p1.2.2] 0)], []⟩) (le_q rfl rfl) ?_
 clear hK K
 refine AW.dgs 8 follows rfl rfl fun K hK => ?_
 refine sv rfl (v_loadF ty66 rfl (l_lit rfl rfl)) ?_
 refine sv rfl (v_loadF ty56 rfl (l_litA rfl (Nat.le_of_ble_eq_true rfl) rfl)) ?_
 obtain ⟨x1, h2, h⟩ := bS h
 refine s_op rfl rfl (ops_call rfl rfl rfl rfl (ACallD.pure0 (w_graph_list h2)) ?_)
 refine sv rfl (v_loadF ty66 rfl (l_lit rfl rfl)) ?_
 refine sv rfl (v_loadF ty56 rfl (l_litA rfl (Nat.le_of_ble_eq_true rfl) rfl)) ?_
 obtain ⟨x3, h4, h⟩ := bS h
 refine s_op rfl rfl (ops_call rfl rfl rfl rfl (ACallD.pure0 (w_graph_list h4)) ?_)
 obtain ⟨x5, h6, h⟩ := bS h
 refine s_op rfl rfl (ops_call rfl rfl rfl rfl (ACallD.pure0 (w_slices_Compare_Lint_int h6)) ?_)
 refine sm rfl rfl ?_
 refine s_nil ?_
 refine b_fin hK (s' := ⟨[(5, HV.int .i64 x5)], []⟩) (le_q rfl rfl) ?_
 clear hK K
 refine AW.ret ?_
 have h := Option.some.inj h
 subst h
 exact ret_pure (hs := [HV.int .i64 x5]) (q := HV.int .i64 x5) (.inr rfl) (resT rfl rfl) rfl trivial

set_option maxHeartbeats 1600000 in
set_option maxRecDepth 100000 in
theorem w_graph_by_api_Edge  : Pure Tryz.prog 33 [HV.fn (.func 34) [] []] (· = HV.fn (.func 56) [] [HV.fptr [HV.fn (.func 34) [] []] 0]) := by
 refine Pure.of_body Tryz.func33 rfl rfl (Nat.le_of_ble_eq_true rfl) fun hf => ?_
 unfold Tryz.f33
 dsimp only [enumS, Nat.reduceAdd]
 refine AW.rgs rfl fun K hK => ?_
 refine b_op rfl (o_box rfl rfl rfl ?_)
 refine mv rfl rfl ?_
 refine b_fin hK (s' := ⟨[(1, HV.fptr [HV.fn (.func 34) [] []] 0)], []⟩) (le_q rfl rfl) ?_
 clear hK K
 refine AW.rgs rfl fun K hK => ?_
 refine bv rfl (v_func rfl rfl) ?_
 refine mv rfl rfl ?_
 refine b_fin hK (s' := ⟨[(2, HV.fn (.func 56) [] [HV.fptr [HV.fn (.func 34) [] []] 0])], []⟩) (le_q rfl rfl) ?_
 clear hK K
 refine AW.ret ?_
 exact ret_pure (hs := [HV.fn (.func 56) [] [HV.fptr [HV.fn (.func 34) [] []] 0]]) (q := HV.fn (.func 56) [] [HV.fptr [HV.fn (.func 34) [] []] 0]) (.inr rfl) (resT rfl rfl) rfl ⟨trivial, ⟨⟨⟨trivial, trivial⟩, trivial⟩, trivial⟩⟩

set_option maxHeartbeats 1600000 in
set_option maxRecDepth 100000 in
theorem w_graph_Check {p0 : TLabelsStatesEdges} {r : Int} (h : m_graph_Check p0 = some r) : Pure Tryz.prog 15 [HV.agg [HV.int .i64 p0.1, HV.int .i64 p0.2.1, slE eFromLabelTo p0.2.2]] (· = HV.int .i64 r) := by
 unfold m_graph_Check at h
 refine Pure.of_body Tryz.func15 rfl rfl (Nat.le_of_ble_eq_true rfl) fun hf => ?_
 unfold Tryz.f15
 dsimp only [enumS, Nat.reduceAdd]
 refine AW.rgs rfl fun K hK => ?_
 refine b_op rfl (o_box rfl rfl rfl ?_)
 refine mv rfl rfl ?_
 refine b_fin hK (s' := ⟨[(1, HV.fptr [HV.int .i64 p0.1, HV.int .i64 p0.2.1, slE eFromLabelTo p0.2.2] 0)], []⟩) (le_q rfl rfl) ?_
 clear hK K
 refine AW.seq (AW.block ?_)
 refine AW.seqJ h (S := Bool) (V := Unit) (fun a v => ⟨[(1, HV.fptr [HV.int .i64 p0.1, HV.int .i64 p0.2.1, slE eFromLabelTo p0.2.2] 0), (6, HV.bool a)], []⟩) (fun a1 w2 h => ?_) (fun k3 h => ?_)
 ·refine AW.cond rfl (fun hc => ?_) (fun hc => ?_)
  ·have h := ifT hc h
   refine AW.rgs rfl fun K hK => ?_
   refine mv rfl rfl ?_
   refine b_fin hK (s' := ⟨[(2, HV.int .i64 12)], []⟩) (le_q rfl rfl) ?_
   clear hK K
   refine AW.ret ?_
   have h := Option.some.inj h
   subst h
   exact ret_pure (hs := [HV.int .i64 12]) (q := HV.int .i64 12) (.inr rfl) (resT rfl rfl) rfl trivial
  ·have h := ifF (bF' hc) h
   refine AW.rgs rfl fun K hK => ?_
   refine bv rfl (v_fieldAddrF fo24_1 rfl) ?_
   refine bv rfl (v_loadF ty3 rfl (l_lit rfl rfl)) ?_
   refine bv rfl (v_bin rfl rfl b_lss) ?_
   refine mv rfl rfl ?_
   refine b_fin hK (s' := ⟨[(1, HV.fptr [HV.int .i64 p0.1, HV.int .i64 p0.2.1, slE eFromLabelTo p0.2.2] 0), (15, HV.bool (decide (p0.2.1 < 0)))], []⟩) (le_q rfl rfl) ?_
   clear hK K
   refine AW.cond rfl (fun hc => ?_) (fun hc => ?_)
   ·have hc := of_decide_eq_true hc
    have h := ifT hc h
    refine AW.rgs rfl fun K hK => ?_
    refine mv rfl rfl ?_
    refine b_fin hK (s' := ⟨[(2, HV.int .i64 2)], []⟩) (le_q rfl rfl) ?_
    clear hK K
    refine AW.ret ?_
    have h := Option.some.inj h
    subst h
    exact ret_pure (hs := [HV.int .i64 2]) (q := HV.int .i64 2) (.inr rfl) (resT rfl rfl) rfl trivial
   ·have hc := of_decide_eq_false hc
    have h := ifF hc h
    refine AW.seqJ h (S := Bool) (V := Unit) (fun a v => ⟨[(1, HV.fptr [HV.int .i64 p0.1, HV.int .i64 p0.2.1, slE eFromLabelTo p0.2.2] 0), (19, HV.bool a)], []⟩) (fun a4 w5 h => ?_) (fun k6 h => ?_)
    ·refine AW.cond rfl (fun hc => ?_) (fun hc => ?_)
     ·have h := ifT hc h
      refine AW.rgs rfl fun K hK => ?_
      refine mv rfl rfl ?_
      refine b_fin hK (s' := ⟨[(2, HV.int .i64 4)], []⟩) (le_q rfl rfl) ?_
      clear hK K
      refine AW.ret ?_
      have h := Option.some.inj h
      subst h
      exact ret_pure (hs := [HV.int .i64 4]) (q := HV.int .i64 4) (.inr rfl) (resT rfl rfl) rfl trivial
     ·have h := ifF (bF' hc) h
      refine AW.skip ?_
      refine AW.rgs rfl fun K hK => ?_
      refine b_op rfl (o_call rfl rfl rfl rfl (ACallD.pure0 (w_graph_by_api_Edge )) ?_)
      refine mv rfl rfl ?_
      refine b_fin hK (s' := ⟨[(1, HV.fptr [HV.int .i64 p0.1, HV.int .i64 p0.2.1, slE eFromLabelTo p0.2.2] 0), (3, HV.fn (.func 56) [] [HV.fptr [HV.fn (.func 34) [] []] 0])], []⟩) (le_q rfl rfl) ?_
      clear hK K
      refine AW.seq ?_
      refine AW.rgs rfl fun K hK => ?_
      refine bv rfl (v_fieldAddrF fo24_2 rfl) ?_
      refine bv rfl (v_loadF ty22 rfl (l_lit rfl rfl)) ?_
      refine bv rfl (v_lenF rfl rfl ty22 rfl) ?_
      refine mv rfl rfl ?_
      refine b_fin hK (s' := ⟨[(1, HV.fptr [HV.int .i64 p0.1, HV.int .i64 p0.2.1, slE eFromLabelTo p0.2.2] 0), (3, HV.fn (.func 56) [] [HV.fptr [HV.fn (.func 34) [] []] 0]), (31, slE eFromLabelTo p0.2.2), (32, HV.int .i64 ((p0.2.2).length : Int)), (33, HV.int .i64 0)], []⟩) (le_q rfl rfl) ?_
      clear hK K
      refine AW.lpR h (by first | exact up_then | exact up_to) (S := Int) (V := Unit) (fun a v => ⟨[(1, HV.fptr [HV.int .i64 p0.1, HV.int .i64 p0.2.1, slE eFromLabelTo p0.2.2] 0), (3, HV.fn (.func 56) [] [HV.fptr [HV.fn (.func 34) [] []] 0]), (31, slE eFromLabelTo p0.2.2), (32, HV.int .i64 ((p0.2.2).length : Int)), (33, HV.int .i64 a)], []⟩) ?_ (X := Unit) (W := Unit) (fun a v => ⟨[], []⟩) (fun a27 w28 h => ?_) (fun a7 w8 st9 h hr10=> ?_)
      ·exact to_le (s' := ⟨[(1, HV.fptr [HV.int .i64 p0.1, HV.int .i64 p0.2.1, slE eFromLabelTo p0.2.2] 0), (3, HV.fn (.func 56) [] [HV.fptr [HV.fn (.func 34) [] []] 0]), (31, slE eFromLabelTo p0.2.2), (32, HV.int .i64 ((p0.2.2).length : Int)), (33, HV.int .i64 0)], []⟩) (AS.le_of ⟨rfl, rfl, rfl, rfl, rfl, trivial⟩ trivial) ⟨(), rfl⟩
      ·refine AW.rgs rfl fun K hK => ?_
       refine mv rfl rfl ?_
       refine b_fin hK (s' := ⟨[(2, HV.int .i64 0)], []⟩) (le_q rfl rfl) ?_
       clear hK K
       refine AW.ret ?_
       have h := Option.some.inj h
       subst h
       exact ret_pure (hs := [HV.int .i64 0]) (q := HV.int .i64 0) (.inr rfl) (resT rfl rfl) rfl trivial
      ·refine AW.rgs rfl fun K hK => ?_
       refine bv rfl (v_bin rfl rfl b_lss) ?_
       refine b_fin hK (s' := ⟨[(1, HV.fptr [HV.int .i64 p0.1, HV.int .i64 p0.2.1, slE eFromLabelTo p0.2.2] 0), (3, HV.fn (.func 56) [] [HV.fptr [HV.fn (.func 34) [] []] 0]), (31, slE eFromLabelTo p0.2.2), (32, HV.int .i64 ((p0.2.2).length : Int)), (33, HV.int .i64 a7), (34, HV.bool (decide (a7 < ((p0.2.2).length : Int))))], []⟩) (le_q rfl rfl) ?_
       clear hK K
       refine AW.cseq rfl (fun hc => ?_) (fun hc => ?_)
       ·have hc := of_decide_eq_true hc
        have h := ifT hc h
        refine AW.skip ?_
        refine AW.seq (AW.block ?_)
        refine AW.rgs rfl fun K hK => ?_
        refine mv rfl rfl ?_
        obtain ⟨x11, h12, h⟩ := bS h
        refine bv rfl (v_idxF ty22 es22 rfl rfl (idx_lt h12)) ?_
        refine bv rfl (v_loadF ty56 rfl (l_agg eFromLabelTo h12 rfl rfl)) ?_
        refine b_op rfl (o_alloc (fid := 15) (zs := [HV.int .i64 0, HV.int .i64 0, HV.int .i64 0]) 15005 rfl rfl ty56 rfl (fun v13 => ?_))
        refine mv rfl rfl ?_
        refine b_op rfl (o_store (cs := [HV.int .i64 x11.1, HV.int .i64 x11.2.1, HV.int .i64 x11.2.2]) (zs := [HV.int .i64 x11.1, HV.int .i64 x11.2.1, HV.int .i64 x11.2.2]) rfl rfl rfl ty56 rfl rfl rfl rfl rfl ?_)
        refine b_fin hK (s' := ⟨[(1, HV.fptr [HV.int .i64 p0.1, HV.int .i64 p0.2.1, slE eFromLabelTo p0.2.2] 0), (3, HV.fn (.func 56) [] [HV.fptr [HV.fn (.func 34) [] []] 0]), (4, HV.int .i64 a7), (5, HV.ptr 15005 v13 0), (31, slE eFromLabelTo p0.2.2), (32, HV.int .i64 ((p0.2.2).length : Int)), (33, HV.int .i64 a7)], [(15005, v13, .arr 3 56 [HV.int .i64 x11.1, HV.int .i64 x11.2.1, HV.int .i64 x11.2.2])]⟩) (le_q rfl rfl) ?_
        clear hK K
        refine AW.seq ?_
        refine AW.seqJ h (S := Bool) (V := Unit) (fun a v => ⟨[(1, HV.fptr [HV.int .i64 p0.1, HV.int .i64 p0.2.1, slE eFromLabelTo p0.2.2] 0), (3, HV.fn (.func 56) [] [HV.fptr [HV.fn (.func 34) [] []] 0]), (4, HV.int .i64 a7), (5, HV.ptr 15005 v13 0), (31, slE eFromLabelTo p0.2.2), (32, HV.int .i64 ((p0.2.2).length : Int)), (33, HV.int .i64 a7), (62, HV.bool a)], [(15005, v13, .arr 3 56 [HV.int .i64 x11.1, HV.int .i64 x11.2.1, HV.int .i64 x11.2.2])]⟩) (fun a14 w15 h => ?_) (fun k16 h => ?_)
        ·refine AW.cond rfl (fun hc => ?_) (fun hc => ?_)
         ·have h := ifT hc h
          refine AW.rgs rfl fun K hK => ?_
          refine mv rfl rfl ?_
          refine b_fin hK (s' := ⟨[(2, HV.int .i64 2)], []⟩) (le_q rfl rfl) ?_
          clear hK K
          have h := hr10 _ h
          refine AW.ret ?_
          have h := Option.some.inj h
          subst h
          exact ret_pure (hs := [HV.int .i64 2]) (q := HV.int .i64 2) (.inr rfl) (resT rfl rfl) rfl trivial
         ·have h := ifF (bF' hc) h
          refine AW.skip ?_
          refine AW.seqJ h (S := Bool) (V := Unit) (fun a v => ⟨[(1, HV.fptr [HV.int .i64 p0.1, HV.int .i64 p0.2.1, slE eFromLabelTo p0.2.2] 0), (3, HV.fn (.func 56) [] [HV.fptr [HV.fn (.func 34) [] []] 0]), (31, slE eFromLabelTo p0.2.2), (32, HV.int .i64 ((p0.2.2).length : Int)), (33, HV.int .i64 a7), (76, HV.bool a)], []⟩) (fun a17 w18 h => ?_) (fun k19 h => ?_)
          ·refine AW.cond rfl (fun hc => ?_) (fun hc => ?_)
           ·have h := ifT hc h
            refine AW.rgs rfl fun K hK => ?_
            refine mv rfl rfl ?_
            refine b_fin hK (s' := ⟨[(2, HV.int .i64 10)], []⟩) (le_q rfl rfl) ?_
            clear hK K
            have h := hr10 _ h
            refine AW.ret ?_
            have h := Option.some.inj h
            subst h
            exact ret_pure (hs := [HV.int .i64 10]) (q := HV.int .i64 10) (.inr rfl) (resT rfl rfl) rfl trivial
           ·have h := ifF (bF' hc) h
            refine AW.skip ?_
            refine AW.rg rfl fun K hK => ?_
            refine bv rfl (v_bin rfl rfl b_add) ?_
            refine mv rfl rfl ?_
            refine b_nil (hK _ ?_)
            clear hK K
            exact to_le (s' := ⟨[(1, HV.fptr [HV.int .i64 p0.1, HV.int .i64 p0.2.1, slE eFromLabelTo p0.2.2] 0), (3, HV.fn (.func 56) [] [HV.fptr [HV.fn (.func 34) [] []] 0]), (31, slE eFromLabelTo p0.2.2), (32, HV.int .i64 ((p0.2.2).length : Int)), (33, HV.int .i64 (IntKind.wrap .i64 (a7 + 1)))], []⟩) (AS.le_of ⟨rfl, rfl, rfl, rfl, rfl, trivial⟩ trivial) ⟨IntKind.wrap .i64 (a7 + 1), (), h, rfl⟩
          ·refine AW.dg 14 follows rfl rfl fun K hK => ?_
           refine sm rfl rfl ?_
           refine sv rfl (v_bin rfl rfl b_gtr) ?_
           refine sm rfl rfl ?_
           by_cases hg24 : 0 < a7
           ·have h := ifT hg24 h
            refine s_T rfl rfl rfl rfl rfl (decide_eq_true hg24) (ops_val rfl (mv_val rfl rfl).2 ?_)
            refine s_T rfl rfl rfl rfl rfl rfl (ops_val rfl (v_fieldAddrF fo24_2 rfl) ?_)
            refine s_T rfl rfl rfl rfl rfl rfl (ops_val rfl (v_loadF ty22 rfl (l_lit rfl rfl)) ?_)
            refine s_T rfl rfl rfl rfl rfl rfl (ops_val rfl (mv_val rfl rfl).2 ?_)
            refine s_T rfl rfl rfl rfl rfl rfl (ops_val rfl (v_bin rfl rfl b_sub) ?_)
            obtain ⟨x20, h21, h⟩ := bS h
            refine s_T rfl rfl rfl rfl rfl rfl (ops_val rfl (v_idxF ty22 es22 rfl rfl (idx_lt h21)) ?_)
            refine s_T rfl rfl rfl rfl rfl rfl (ops_val rfl (v_loadF ty56 rfl (l_agg eFromLabelTo h21 rfl rfl)) ?_)
            refine s_T rfl rfl rfl rfl rfl rfl (ops_val rfl (v_loadP ty56 rfl rfl (l_litA rfl (Nat.le_of_ble_eq_true rfl) rfl)) ?_)
            obtain ⟨x22, h23, h⟩ := bS h
            refine s_T rfl rfl rfl rfl rfl rfl (ops_call rfl rfl rfl rfl (ACallD.pure0 (w_graph_by_api_Edge_1 h23)) ?_)
            refine s_T rfl rfl rfl rfl rfl rfl (ops_val rfl (v_bin rfl rfl b_geq) ?_)
            refine sv rfl (v_pickT rfl rfl rfl) ?_
            refine s_nil ?_
            refine b_nil (hK _ ?_)
            clear hK K
            exact to_le (s' := ⟨[(1, HV.fptr [HV.int .i64 p0.1, HV.int .i64 p0.2.1, slE eFromLabelTo p0.2.2] 0), (3, HV.fn (.func 56) [] [HV.fptr [HV.fn (.func 34) [] []] 0]), (31, slE eFromLabelTo p0.2.2), (32, HV.int .i64 ((p0.2.2).length : Int)), (33, HV.int .i64 a7), (76, HV.bool (decide (0 ≤ x22)))], []⟩) (AS.le_of ⟨rfl, rfl, rfl, rfl, rfl, rfl, trivial⟩ trivial) ⟨decide (0 ≤ x22), (), h, rfl⟩
           ·have h := ifF hg24 h
            refine s_F rfl rfl rfl rfl rfl (decide_eq_false hg24) ?_
            refine s_F rfl rfl rfl rfl rfl rfl ?_
            refine s_F rfl rfl rfl rfl rfl rfl ?_
            refine s_F rfl rfl rfl rfl rfl rfl ?_
            refine s_F rfl rfl rfl rfl rfl rfl ?_
            refine s_F rfl rfl rfl rfl rfl rfl ?_
            refine s_F rfl rfl rfl rfl rfl rfl ?_
            refine s_F rfl rfl rfl rfl rfl rfl ?_
            refine s_F rfl rfl rfl rfl rfl rfl ?_
            refine s_F rfl rfl rfl rfl rfl rfl ?_
            refine sv rfl (v_pickF rfl rfl rfl) ?_
            refine s_nil ?_
            refine b_nil (hK _ ?_)
            clear hK K
            exact to_le (s' := ⟨[(1, HV.fptr [HV.int .i64 p0.1, HV.int .i64 p0.2.1, slE eFromLabelTo p0.2.2] 0), (3, HV.fn (.func 56) [] [HV.fptr [HV.fn (.func 34) [] []] 0]), (31, slE eFromLabelTo p0.2.2), (32, HV.int .i64 ((p0.2.2).length : Int)), (33, HV.int .i64 a7), (76, HV.bool false)], []⟩) (AS.le_of ⟨rfl, rfl, rfl, rfl, rfl, rfl, trivial⟩ trivial) ⟨false, (), h, rfl⟩
        ·refine AW.rg rfl fun K hK => ?_
         refine bv rfl (v_fieldAddrP fo56_0 rfl rfl) ?_
         refine bv rfl (v_loadP ty3 rfl rfl (l_lit rfl rfl)) ?_
         refine bv rfl (v_fieldAddrP fo56_1 rfl rfl) ?_
         refine bv rfl (v_loadP ty3 rfl rfl (l_lit rfl rfl)) ?_
         refine bv rfl (v_fieldAddrP fo56_2 rfl rfl) ?_
         refine bv rfl (v_loadP ty3 rfl rfl (l_lit rfl rfl)) ?_
         refine bv rfl (v_min3 rfl rfl rfl rfl) ?_
         refine bv rfl (v_bin rfl rfl b_lss) ?_
         refine mv rfl rfl ?_
         by_cases hg26 : (min (min x11.1 x11.2.1) x11.2.2) < 0
         ·have h := ifT hg26 h
          refine b_F rfl rfl rfl rfl rfl (decide_eq_true hg26) ?_
          refine b_F rfl rfl rfl rfl rfl rfl ?_
          refine b_F rfl rfl rfl rfl rfl rfl ?_
          refine b_F rfl rfl rfl rfl rfl rfl ?_
          refine b_F rfl rfl rfl rfl rfl rfl ?_
          refine b_F rfl rfl rfl rfl rfl rfl ?_
          refine b_F rfl rfl rfl rfl rfl rfl ?_
          refine b_F rfl rfl rfl rfl rfl rfl ?_
          refine bv rfl (v_pickT rfl rfl rfl) ?_
          refine mv rfl rfl ?_
          refine b_F rfl rfl rfl rfl rfl rfl ?_
          refine b_F rfl rfl rfl rfl rfl rfl ?_
          refine b_F rfl rfl rfl rfl rfl rfl ?_
          refine b_F rfl rfl rfl rfl rfl rfl ?_
          refine b_F rfl rfl rfl rfl rfl rfl ?_
          refine bv rfl (v_pickT rfl rfl rfl) ?_
          refine b_nil (hK _ ?_)
          clear hK K
          exact to_le (s' := ⟨[(1, HV.fptr [HV.int .i64 p0.1, HV.int .i64 p0.2.1, slE eFromLabelTo p0.2.2] 0), (3, HV.fn (.func 56) [] [HV.fptr [HV.fn (.func 34) [] []] 0]), (4, HV.int .i64 a7), (5, HV.ptr 15005 v13 0), (31, slE eFromLabelTo p0.2.2), (32, HV.int .i64 ((p0.2.2).length : Int)), (33, HV.int .i64 a7), (62, HV.bool true)], [(15005, v13, .arr 3 56 [HV.int .i64 x11.1, HV.int .i64 x11.2.1, HV.int .i64 x11.2.2])]⟩) (AS.le_of ⟨rfl, rfl, rfl, rfl, rfl, rfl, rfl, rfl, trivial⟩ ⟨rfl, trivial⟩) ⟨true, (), h, rfl⟩
         ·have h := ifF hg26 h
          refine b_T rfl rfl rfl rfl (decide_eq_false hg26) (o_val rfl (v_fieldAddrP fo56_0 rfl rfl) ?_)
          refine b_T rfl rfl rfl rfl rfl (o_val rfl (v_loadP ty3 rfl rfl (l_lit rfl rfl)) ?_)
          refine b_T rfl rfl rfl rfl rfl (o_val rfl (v_fieldAddrP fo56_2 rfl rfl) ?_)
          refine b_T rfl rfl rfl rfl rfl (o_val rfl (v_loadP ty3 rfl rfl (l_lit rfl rfl)) ?_)
          refine b_T rfl rfl rfl rfl rfl (o_val rfl (v_max rfl rfl rfl) ?_)
          refine b_T rfl rfl rfl rfl rfl (o_val rfl (v_fieldAddrF fo24_1 rfl) ?_)
          refine b_T rfl rfl rfl rfl rfl (o_val rfl (v_loadF ty3 rfl (l_lit rfl rfl)) ?_)
          refine b_T rfl rfl rfl rfl rfl (o_val rfl (v_bin rfl rfl b_geq) ?_)
          refine bv rfl (v_pickF rfl rfl rfl) ?_
          refine mv rfl rfl ?_
          by_cases hg25 : p0.2.1 ≤ (max x11.1 x11.2.2)
          ·have h := ifT hg25 h
           refine b_F rfl rfl rfl rfl rfl (decide_eq_true hg25) ?_
           refine b_F rfl rfl rfl rfl rfl rfl ?_
           refine b_F rfl rfl rfl rfl rfl rfl ?_
           refine b_F rfl rfl rfl rfl rfl rfl ?_
           refine b_F rfl rfl rfl rfl rfl rfl ?_
           refine bv rfl (v_pickT rfl rfl rfl) ?_
           refine b_nil (hK _ ?_)
           clear hK K
           exact to_le (s' := ⟨[(1, HV.fptr [HV.int .i64 p0.1, HV.int .i64 p0.2.1, slE eFromLabelTo p0.2.2] 0), (3, HV.fn (.func 56) [] [HV.fptr [HV.fn (.func 34) [] []] 0]), (4, HV.int .i64 a7), (5, HV.ptr 15005 v13 0), (31, slE eFromLabelTo p0.2.2), (32, HV.int .i64 ((p0.2.2).length : Int)), (33, HV.int .i64 a7), (62, HV.bool true)], [(15005, v13, .arr 3 56 [HV.int .i64 x11.1, HV.int .i64 x11.2.1, HV.int .i64 x11.2.2])]⟩) (AS.le_of ⟨rfl, rfl, rfl, rfl, rfl, rfl, rfl, rfl, trivial⟩ ⟨rfl, trivial⟩) ⟨true, (), h, rfl⟩
          ·have h := ifF hg25 h
           refine b_T rfl rfl rfl rfl (decide_eq_false hg25) (o_val rfl (v_fieldAddrP fo56_1 rfl rfl) ?_)
           refine b_T rfl rfl rfl rfl rfl (o_val rfl (v_loadP ty3 rfl rfl (l_lit rfl rfl)) ?_)
           refine b_T rfl rfl rfl rfl rfl (o_val rfl (v_fieldAddrF fo24_0 rfl) ?_)
           refine b_T rfl rfl rfl rfl rfl (o_val rfl (v_loadF ty3 rfl (l_lit rfl rfl)) ?_)
           refine b_T rfl rfl rfl rfl rfl (o_val rfl (v_bin rfl rfl b_geq) ?_)
           refine bv rfl (v_pickF rfl rfl rfl) ?_
           refine b_nil (hK _ ?_)
           clear hK K
           exact to_le (s' := ⟨[(1, HV.fptr [HV.int .i64 p0.1, HV.int .i64 p0.2.1, slE eFromLabelTo p0.2.2] 0), (3, HV.fn (.func 56) [] [HV.fptr [HV.fn (.func 34) [] []] 0]), (4, HV.int .i64 a7), (5, HV.ptr 15005 v13 0), (31, slE eFromLabelTo p0.2.2), (32, HV.int .i64 ((p0.2.2).length : Int)), (33, HV.int .i64 a7), (62, HV.bool (decide (p0.1 ≤ x11.2.1)))], [(15005, v13, .arr 3 56 [HV.int .i64 x11.1, HV.int .i64 x11.2.1, HV.int .i64 x11.2.2])]⟩) (AS.le_of ⟨rfl, rfl, rfl, rfl, rfl, rfl, rfl, rfl, trivial⟩ ⟨rfl, trivial⟩) ⟨decide (p0.1 ≤ x11.2.1), (), h, rfl⟩
       ·have hc := of_decide_eq_false hc
        have h := ifF hc h
        refine AW.exit ?_
        exact to_le (s' := ⟨[], []⟩) (AS.le_of trivial trivial) ⟨(), (), h, rfl⟩
    ·refine AW.rg rfl fun K hK => ?_
     refine bv rfl (v_fieldAddrF fo24_1 rfl) ?_
     refine bv rfl (v_loadF ty3 rfl (l_lit rfl rfl)) ?_
     refine bv rfl (v_bin rfl rfl b_gtr) ?_
     refine mv rfl rfl ?_
     by_cases hg29 : 64 < p0.2.1
     ·have h := ifT hg29 h
      refine b_F rfl rfl rfl rfl rfl (decide_eq_true hg29) ?_
      refine b_F rfl rfl rfl rfl rfl rfl ?_
      refine b_F rfl rfl rfl rfl rfl rfl ?_
      refine b_F rfl rfl rfl rfl rfl rfl ?_
      refine bv rfl (v_pickT rfl rfl rfl) ?_
      refine mv rfl rfl ?_
      refine b_nil (hK _ ?_)
      clear hK K
      exact to_le (s' := ⟨[(1, HV.fptr [HV.int .i64 p0.1, HV.int .i64 p0.2.1, slE eFromLabelTo p0.2.2] 0), (19, HV.bool true)], []⟩) (AS.le_of ⟨rfl, rfl, trivial⟩ trivial) ⟨true, (), h, rfl⟩
     ·have h := ifF hg29 h
      refine b_T rfl rfl rfl rfl (decide_eq_false hg29) (o_val rfl (v_fieldAddrF fo24_2 rfl) ?_)
      refine b_T rfl rfl rfl rfl rfl (o_val rfl (v_loadF ty22 rfl (l_lit rfl rfl)) ?_)
      refine b_T rfl rfl rfl rfl rfl (o_val rfl (v_lenF rfl rfl ty22 rfl) ?_)
      refine b_T rfl rfl rfl rfl rfl (o_val rfl (v_bin rfl rfl b_gtr) ?_)
      refine bv rfl (v_pickF rfl rfl rfl) ?_
      refine mv rfl rfl ?_
      refine b_nil (hK _ ?_)
      clear hK K
      exact to_le (s' := ⟨[(1, HV.fptr [HV.int .i64 p0.1, HV.int .i64 p0.2.1, slE eFromLabelTo p0.2.2] 0), (19, HV.bool (decide (1024 < ((p0.2.2).length : Int))))], []⟩) (AS.le_of ⟨rfl, rfl, trivial⟩ trivial) ⟨decide (1024 < ((p0.2.2).length : Int)), (), h, rfl⟩
 ·refine AW.rg rfl fun K hK => ?_
  refine bv rfl (v_fieldAddrF fo24_0 rfl) ?_
  refine bv rfl (v_loadF ty3 rfl (l_lit rfl rfl)) ?_
  refine bv rfl (v_bin rfl rfl b_lss) ?_
  refine mv rfl rfl ?_
  by_cases hg30 : p0.1 < 1
  ·have h := ifT hg30 h
   refine b_F rfl rfl rfl rfl rfl (decide_eq_true hg30) ?_
   refine b_F rfl rfl rfl rfl rfl rfl ?_
   refine b_F rfl rfl rfl rfl rfl rfl ?_
   refine bv rfl (v_pickT rfl rfl rfl) ?_
   refine mv rfl rfl ?_
   refine b_nil (hK _ ?_)
   clear hK K
   exact to_le (s' := ⟨[(1, HV.fptr [HV.int .i64 p0.1, HV.int .i64 p0.2.1, slE eFromLabelTo p0.2.2] 0), (6, HV.bool true)], []⟩) (AS.le_of ⟨rfl, rfl, trivial⟩ trivial) ⟨true, (), h, rfl⟩
  ·have h := ifF hg30 h
   refine b_T rfl rfl rfl rfl (decide_eq_false hg30) (o_val rfl (v_fieldAddrF fo24_0 rfl) ?_)
   refine b_T rfl rfl rfl rfl rfl (o_val rfl (v_loadF ty3 rfl (l_lit rfl rfl)) ?_)
   refine b_T rfl rfl rfl rfl rfl (o_val rfl (v_bin rfl rfl b_gtr) ?_)
   refine bv rfl (v_pickF rfl rfl rfl) ?_
   refine mv rfl rfl ?_
   refine b_nil (hK _ ?_)
   clear hK K
   exact to_le (s' := ⟨[(1, HV.fptr [HV.int .i64 p0.1, HV.int .i64 p0.2.1, slE eFromLabelTo p0.2.2] 0), (6, HV.bool (decide (256 < p0.1)))], []⟩) (AS.le_of ⟨rfl, rfl, trivial⟩ trivial) ⟨decide (256 < p0.1), (), h, rfl⟩

set_option maxHeartbeats 1600000 in
set_option maxRecDepth 100000 in
theorem w_graph_checkSet {p0 : TLabelsStatesEdges} {p1 : List (Int)} {r : Int} (h : m_graph_checkSet p0 p1 = some r) : Pure Tryz.prog 86 [HV.agg [HV.int .i64 p0.1, HV.int .i64 p0.2.1, slE eFromLabelTo p0.2.2], slE eInt p1] (· = HV.int .i64 r) := by
 unfold m_graph_checkSet at h
 refine Pure.of_body Tryz.func86 rfl rfl (Nat.le_of_ble_eq_true rfl) fun hf => ?_
 unfold Tryz.f86
 dsimp only [enumS, Nat.reduceAdd]
 refine AW.rgs rfl fun K hK => ?_
 refine b_op rfl (o_box rfl rfl rfl ?_)
 refine mv rfl rfl ?_
 refine b_fin hK (s' := ⟨[(1, slE eInt p1), (2, HV.fptr [HV.int .i64 p0.1, HV.int .i64 p0.2.1, slE eFromLabelTo p0.2.2] 0)], []⟩) (le_q rfl rfl) ?_
 clear hK K
 refine AW.seq ?_
 refine AW.rgs rfl fun K hK => ?_
 refine mv rfl rfl ?_
 refine bv rfl (v_lenF rfl rfl ty27 rfl) ?_
 refine mv rfl rfl ?_
 refine b_fin hK (s' := ⟨[(1, slE eInt p1), (2, HV.fptr [HV.int .i64 p0.1, HV.int .i64 p0.2.1, slE eFromLabelTo p0.2.2] 0), (7, slE eInt p1), (8, HV.int .i64 ((p1).length : Int)), (9, HV.int .i64 0)], []⟩) (le_q rfl rfl) ?_
 clear hK K
 refine AW.lpR h (by first | exact up_then | exact up_to) (S := Int) (V := Unit) (fun a v => ⟨[(1, slE eInt p1), (2, HV.fptr [HV.int .i64 p0.1, HV.int .i64 p0.2.1, slE eFromLabelTo p0.2.2] 0), (7, slE eInt p1), (8, HV.int .i64 ((p1).length : Int)), (9, HV.int .i64 a)], []⟩) ?_ (X := Unit) (W := Unit) (fun a v => ⟨[], []⟩) (fun a17 w18 h => ?_) (fun a1 w2 st3 h hr4=> ?_)
 ·exact to_le (s' := ⟨[(1, slE eInt p1), (2, HV.fptr [HV.int .i64 p0.1, HV.int .i64 p0.2.1, slE eFromLabelTo p0.2.2] 0), (7, slE eInt p1), (8, HV.int .i64 ((p1).length : Int)), (9, HV.int .i64 0)], []⟩) (AS.le_of ⟨rfl, rfl, rfl, rfl, rfl, trivial⟩ trivial) ⟨(), rfl⟩
 ·refine AW.rgs rfl fun K hK => ?_
  refine mv rfl rfl ?_
  refine b_fin hK (s' := ⟨[(4, HV.int .i64 0)], []⟩) (le_q rfl rfl) ?_
  clear hK K
  refine AW.ret ?_
  have h := Option.some.inj h
  subst h
  exact ret_pure (hs := [HV.int .i64 0]) (q := HV.int .i64 0) (.inr rfl) (resT rfl rfl) rfl trivial
 ·refine AW.rgs rfl fun K hK => ?_
  refine bv rfl (v_bin rfl rfl b_lss) ?_
  refine b_fin hK (s' := ⟨[(1, slE eInt p1), (2, HV.fptr [HV.int .i64 p0.1, HV.int .i64 p0.2.1, slE eFromLabelTo p0.2.2] 0), (7, slE eInt p1), (8, HV.int .i64 ((p1).length : Int)), (9, HV.int .i64 a1), (10, HV.bool (decide (a1 < ((p1).length : Int))))], []⟩) (le_q rfl rfl) ?_
  clear hK K
  refine AW.cseq rfl (fun hc => ?_) (fun hc => ?_)
  ·have hc := of_decide_eq_true hc
   have h := ifT hc h
   refine AW.skip ?_
   refine AW.seq (AW.block ?_)
   refine AW.rgs rfl fun K hK => ?_
   refine mv rfl rfl ?_
   obtain ⟨x5, h6, h⟩ := bS h
   refine bv rfl (v_idxF ty27 es27 rfl rfl (idx_lt h6)) ?_
   refine bv rfl (v_loadF ty3 rfl (l_cell eInt h6 (o := 0) rfl rfl)) ?_
   refine mv rfl rfl ?_
   refine mv rfl rfl ?_
   refine b_fin hK (s' := ⟨[(1, slE eInt p1), (2, HV.fptr [HV.int .i64 p0.1, HV.int .i64 p0.2.1, slE eFromLabelTo p0.2.2] 0), (5, HV.int .i64 a1), (6, HV.int .i64 x5), (7, slE eInt p1), (8, HV.int .i64 ((p1).length : Int)), (9, HV.int .i64 a1)], []⟩) (le_q rfl rfl) ?_
   clear hK K
   refine AW.seq ?_
   refine AW.seqJ h (S := Bool) (V := Unit) (fun a v => ⟨[(1, slE eInt p1), (2, HV.fptr [HV.int .i64 p0.1, HV.int .i64 p0.2.1, slE eFromLabelTo p0.2.2] 0), (5, HV.int .i64 a1), (6, HV.int .i64 x5), (7, slE eInt p1), (8, HV.int .i64 ((p1).length : Int)), (9, HV.int .i64 a1), (21, HV.bool a)], []⟩) (fun a7 w8 h => ?_) (fun k9 h => ?_)
   ·refine AW.cond rfl (fun hc => ?_) (fun hc => ?_)
    ·have h := ifT hc h
     refine AW.rgs rfl fun K hK => ?_
     refine mv rfl rfl ?_
     refine b_fin hK (s' := ⟨[(4, HV.int .i64 25)], []⟩) (le_q rfl rfl) ?_
     clear hK K
     have h := hr4 _ h
     refine AW.ret ?_
     have h := Option.some.inj h
     subst h
     exact ret_pure (hs := [HV.int .i64 25]) (q := HV.int .i64 25) (.inr rfl) (resT rfl rfl) rfl trivial
    ·have h := ifF (bF' hc) h
     refine AW.skip ?_
     refine AW.seqJ h (S := Bool) (V := Unit) (fun a v => ⟨[(1, slE eInt p1), (2, HV.fptr [HV.int .i64 p0.1, HV.int .i64 p0.2.1, slE eFromLabelTo p0.2.2] 0), (7, slE eInt p1), (8, HV.int .i64 ((p1).length : Int)), (9, HV.int .i64 a1), (32, HV.bool a)], []⟩) (fun a10 w11 h => ?_) (fun k12 h => ?_)
     ·refine AW.cond rfl (fun hc => ?_) (fun hc => ?_)
      ·have h := ifT hc h
       refine AW.rgs rfl fun K hK => ?_
       refine mv rfl rfl ?_
       refine b_fin hK (s' := ⟨[(4, HV.int .i64 10)], []⟩) (le_q rfl rfl) ?_
       clear hK K
       have h := hr4 _ h
       refine AW.ret ?_
       have h := Option.some.inj h
       subst h
       exact ret_pure (hs := [HV.int .i64 10]) (q := HV.int .i64 10) (.inr rfl) (resT rfl rfl) rfl trivial
      ·have h := ifF (bF' hc) h
       refine AW.skip ?_
       refine AW.rg rfl fun K hK => ?_
       refine bv rfl (v_bin rfl rfl b_add) ?_
       refine mv rfl rfl ?_
       refine b_nil (hK _ ?_)
       clear hK K
       exact to_le (s' := ⟨[(1, slE eInt p1), (2, HV.fptr [HV.int .i64 p0.1, HV.int .i64 p0.2.1, slE eFromLabelTo p0.2.2] 0), (7, slE eInt p1), (8, HV.int .i64 ((p1).length : Int)), (9, HV.int .i64 (IntKind.wrap .i64 (a1 + 1)))], []⟩) (AS.le_of ⟨rfl, rfl, rfl, rfl, rfl, trivial⟩ trivial) ⟨IntKind.wrap .i64 (a1 + 1), (), h, rfl⟩
     ·refine AW.rg rfl fun K hK => ?_
      refine mv rfl rfl ?_
      refine bv rfl (v_bin rfl rfl b_gtr) ?_
      refine mv rfl rfl ?_
      by_cases hg15 : 0 < a1
      ·have h := ifT hg15 h
       refine b_T rfl rfl rfl rfl (decide_eq_true hg15) (o_val rfl (mv_val rfl rfl).2 ?_)
       refine b_T rfl rfl rfl rfl rfl (o_val rfl (mv_val rfl rfl).2 ?_)
       refine b_T rfl rfl rfl rfl rfl (o_val rfl (mv_val rfl rfl).2 ?_)
       refine b_T rfl rfl rfl rfl rfl (o_val rfl (v_bin rfl rfl b_sub) ?_)
       obtain ⟨x13, h14, h⟩ := bS h
       refine b_T rfl rfl rfl rfl rfl (o_val rfl (v_idxF ty27 es27 rfl rfl (idx_lt h14)) ?_)
       refine b_T rfl rfl rfl rfl rfl (o_val rfl (v_loadF ty3 rfl (l_cell eInt h14 (o := 0) rfl rfl)) ?_)
       refine b_T rfl rfl rfl rfl rfl (o_val rfl (v_bin rfl rfl b_leq) ?_)
       refine bv rfl (v_pickT rfl rfl rfl) ?_
       refine b_nil (hK _ ?_)
       clear hK K
       exact to_le (s' := ⟨[(1, slE eInt p1), (2, HV.fptr [HV.int .i64 p0.1, HV.int .i64 p0.2.1, slE eFromLabelTo p0.2.2] 0), (7, slE eInt p1), (8, HV.int .i64 ((p1).length : Int)), (9, HV.int .i64 a1), (32, HV.bool (decide (x5 ≤ x13)))], []⟩) (AS.le_of ⟨rfl, rfl, rfl, rfl, rfl, rfl, trivial⟩ trivial) ⟨decide (x5 ≤ x13), (), h, rfl⟩
      ·have h := ifF hg15 h
       refine b_F rfl rfl rfl rfl rfl (decide_eq_false hg15) ?_
       refine b_F rfl rfl rfl rfl rfl rfl ?_
       refine b_F rfl rfl rfl rfl rfl rfl ?_
       refine b_F rfl rfl rfl rfl rfl rfl ?_
       refine b_F rfl rfl rfl rfl rfl rfl ?_
       refine b_F rfl rfl rfl rfl rfl rfl ?_
       refine b_F rfl rfl rfl rfl rfl rfl ?_
       refine bv rfl (v_pickF rfl rfl rfl) ?_
       refine b_nil (hK _ ?_)
       clear hK K
       exact to_le (s' := ⟨[(1, slE eInt p1), (2, HV.fptr [HV.int .i64 p0.1, HV.int .i64 p0.2.1, slE eFromLabelTo p0.2.2] 0), (7, slE eInt p1), (8, HV.int .i64 ((p1).length : Int)), (9, HV.int .i64 a1), (32, HV.bool false)], []⟩) (AS.le_of ⟨rfl, rfl, rfl, rfl, rfl, rfl, trivial⟩ trivial) ⟨false, (), h, rfl⟩
   ·refine AW.rg rfl fun K hK => ?_
    refine mv rfl rfl ?_
    refine bv rfl (v_bin rfl rfl b_lss) ?_
    refine mv rfl rfl ?_
    by_cases hg16 : x5 < 0
    ·have h := ifT hg16 h
     refine b_F rfl rfl rfl rfl rfl (decide_eq_true hg16) ?_
     refine b_F rfl rfl rfl rfl rfl rfl ?_
     refine b_F rfl rfl rfl rfl rfl rfl ?_
     refine b_F rfl rfl rfl rfl rfl rfl ?_
     refine bv rfl (v_pickT rfl rfl rfl) ?_
     refine b_nil (hK _ ?_)
     clear hK K
     exact to_le (s' := ⟨[(1, slE eInt p1), (2, HV.fptr [HV.int .i64 p0.1, HV.int .i64 p0.2.1, slE eFromLabelTo p0.2.2] 0), (5, HV.int .i64 a1), (6, HV.int .i64 x5), (7, slE eInt p1), (8, HV.int .i64 ((p1).length : Int)), (9, HV.int .i64 a1), (21, HV.bool true)], []⟩) (AS.le_of ⟨rfl, rfl, rfl, rfl, rfl, rfl, rfl, rfl, trivial⟩ trivial) ⟨true, (), h, rfl⟩
    ·have h := ifF hg16 h
     refine b_T rfl rfl rfl rfl (decide_eq_false hg16) (o_val rfl (mv_val rfl rfl).2 ?_)
     refine b_T rfl rfl rfl rfl rfl (o_val rfl (v_fieldAddrF fo24_1 rfl) ?_)
     refine b_T rfl rfl rfl rfl rfl (o_val rfl (v_loadF ty3 rfl (l_lit rfl rfl)) ?_)
     refine b_T rfl rfl rfl rfl rfl (o_val rfl (v_bin rfl rfl b_geq) ?_)
     refine bv rfl (v_pickF rfl rfl rfl) ?_
     refine b_nil (hK _ ?_)
     clear hK K
     exact to_le (s' := ⟨[(1, slE eInt p1), (2, HV.fptr [HV.int .i64 p0.1, HV.int .i64 p0.2.1, slE eFromLabelTo p0.2.2] 0), (5, HV.int .i64 a1), (6, HV.int .i64 x5), (7, slE eInt p1), (8, HV.int .i64 ((p1).length : Int)), (9, HV.int .i64 a1), (21, HV.bool (decide (p0.2.1 ≤ x5)))], []⟩) (AS.le_of ⟨rfl, rfl, rfl, rfl, rfl, rfl, rfl, rfl, trivial⟩ trivial) ⟨decide (p0.2.1 ≤ x5), (), h, rfl⟩
  ·have hc := of_decide_eq_false hc
   have h := ifF hc h
   refine AW.exit ?_
   exact to_le (s' := ⟨[], []⟩) (AS.le_of trivial trivial) ⟨(), (), h, rfl⟩

set_option maxHeartbeats 1600000 in
set_option maxRecDepth 100000 in
theorem w_graph_leaving (p0 : TLabelsStatesEdges) (p1 : Int) : Pure Tryz.prog 87 [HV.agg [HV.int .i64 p0.1, HV.int .i64 p0.2.1, slE eFromLabelTo p0.2.2], HV.int .i64 p1] (· = HV.fn (.func 106) [] [HV.fptr [HV.int .i64 p0.1, HV.int .i64 p0.2.1, slE eFromLabelTo p0.2.2] 0, HV.fptr [HV.int .i64 p1] 0]) := by
 refine Pure.of_body Tryz.func87 rfl rfl (Nat.le_of_ble_eq_true rfl) fun hf => ?_
 unfold Tryz.f87
 dsimp only [enumS, Nat.reduceAdd]
 refine AW.rgs rfl fun K hK => ?_
 refine b_op rfl (o_box rfl rfl rfl ?_)
 refine b_op rfl (o_box rfl rfl rfl ?_)
 refine mv rfl rfl ?_
 refine b_fin hK (s' := ⟨[(2, HV.fptr [HV.int .i64 p0.1, HV.int .i64 p0.2.1, slE eFromLabelTo p0.2.2] 0), (3, HV.fptr [HV.int .i64 p1] 0)], []⟩) (le_q rfl rfl) ?_
 clear hK K
 refine AW.rgs rfl fun K hK => ?_
 refine bv rfl (v_func rfl rfl) ?_
 refine mv rfl rfl ?_
 refine b_fin hK (s' := ⟨[(4, HV.fn (.func 106) [] [HV.fptr [HV.int .i64 p0.1, HV.int .i64 p0.2.1, slE eFromLabelTo p0.2.2] 0, HV.fptr [HV.int .i64 p1] 0])], []⟩) (le_q rfl rfl) ?_
 clear hK K
 refine AW.ret ?_
 exact ret_pure (hs := [HV.fn (.func 106) [] [HV.fptr [HV.int .i64 p0.1, HV.int .i64 p0.2.1, slE eFromLabelTo p0.2.2] 0, HV.fptr [HV.int .i64 p1] 0]]) (q := HV.fn (.func 106) [] [HV.fptr [HV.int .i64 p0.1, HV.int .i64 p0.2.1, slE eFromLabelTo p0.2.2] 0, HV.fptr [HV.int .i64 p1] 0]) (.inr rfl) (resT rfl rfl) rfl ⟨trivial, ⟨⟨trivial, trivial, (clean_slE fun _ _ => ⟨trivial, trivial, trivial, trivial⟩), trivial⟩, ⟨trivial, trivial⟩, trivial⟩⟩

end Go.AW

namespace Go.AW
open Go Go.Proofs
set_option linter.unusedVariables false
set_option maxHeartbeats 1600000 in
set_option maxRecDepth 100000 in
theorem w_graph_Step {p0 : TLabelsStatesEdges} {p1 : List (Int)} {p2 : Int} {r : (List (Int)) × Int} (h : m_graph_Step p0 p1 p2 = some r) : Pure Tryz.prog 76 [HV.agg [HV.int .i64 p0.1, HV.int .i64 p0.2.1, slE eFromLabelTo p0.2.2], slE eInt p1, HV.int .i64 p2] (· = HV.tup [slE eInt r.1, HV.int .i64 r.2]) := by
 unfold m_graph_Step at h
 refine Pure.of_body Tryz.func76 rfl rfl (Nat.le_of_ble_eq_true rfl) fun hf => ?_
 unfold Tryz.f76
 dsimp only [enumS, Nat.reduceAdd]
 refine AW.rgs rfl fun K hK => ?_
 refine b_op rfl (o_box rfl rfl rfl ?_)
 refine b_op rfl (o_box rfl rfl rfl ?_)
 refine mv rfl rfl ?_
 refine mv rfl rfl ?_
 refine b_fin hK (s' := ⟨[(1, slE eInt p1), (3, HV.fptr [HV.int .i64 p0.1, HV.int .i64 p0.2.1, slE eFromLabelTo p0.2.2] 0), (5, HV.fptr [HV.int .i64 p2] 0)], []⟩) (le_q rfl rfl) ?_
 clear hK K
 refine AW.seq ?_
 refine AW.rgs rfl fun K hK => ?_
 refine bv rfl (v_loadF ty24 rfl (l_litA rfl (Nat.le_of_ble_eq_true rfl) rfl)) ?_
 obtain ⟨x1, h2, h⟩ := bS h
 refine b_op rfl (o_call rfl rfl rfl rfl (ACallD.pure0 (w_graph_Check h2)) ?_)
 refine bv rfl (v_bin rfl rfl b_neq) ?_
 refine b_fin hK (s' := ⟨[(1, slE eInt p1), (3, HV.fptr [HV.int .i64 p0.1, HV.int .i64 p0.2.1, slE eFromLabelTo p0.2.2] 0), (5, HV.fptr [HV.int .i64 p2] 0), (16, HV.bool (decide (x1 ≠ 0)))], []⟩) (le_q rfl rfl) ?_
 clear hK K
 refine AW.cond rfl (fun hc => ?_) (fun hc => ?_)
 ·have hc := of_decide_eq_true hc
  have h := ifT hc h
  refine AW.rgs rfl fun K hK => ?_
  refine mv rfl rfl ?_
  refine mv rfl rfl ?_
  refine b_fin hK (s' := ⟨[(6, HV.v (.slice none 0 0)), (7, HV.int .i64 1)], []⟩) (le_q rfl rfl) ?_
  clear hK K
  refine AW.to (to_weak ⟨[(6, slE eInt ([] : List Int)), (7, HV.int .i64 1)], []⟩ ⟨⟨_, rfl, .nil _⟩, ⟨_, rfl, .refl _⟩, trivial⟩ trivial ?_)
  refine AW.ret ?_
  have h := Option.some.inj h
  subst h
  exact ret_pure (hs := [slE eInt ([] : List Int), HV.int .i64 1]) (q := HV.tup [slE eInt ([] : List Int), HV.int .i64 1]) (.inr rfl) (resT rfl (resT rfl rfl)) rfl ⟨(clean_slE fun _ _ => ⟨trivial, trivial⟩), trivial, trivial⟩
 ·have hc := of_decide_eq_false hc
  have h := ifF hc h
  refine AW.skip ?_
  refine AW.seq ?_
  refine AW.rgs rfl fun K hK => ?_
  refine bv rfl (v_loadF ty24 rfl (l_litA rfl (Nat.le_of_ble_eq_true rfl) rfl)) ?_
  refine mv rfl rfl ?_
  obtain ⟨x3, h4, h⟩ := bS h
  refine b_op rfl (o_call rfl rfl rfl rfl (ACallD.pure0 (w_graph_checkSet h4)) ?_)
  refine mv rfl rfl ?_
  refine b_fin hK (s' := ⟨[(1, slE eInt p1), (3, HV.fptr [HV.int .i64 p0.1, HV.int .i64 p0.2.1, slE eFromLabelTo p0.2.2] 0), (5, HV.fptr [HV.int .i64 p2] 0), (8, HV.int .i64 x3)], []⟩) (le_q rfl rfl) ?_
  clear hK K
  refine AW.rgs rfl fun K hK => ?_
  refine mv rfl rfl ?_
  refine bv rfl (v_bin rfl rfl b_neq) ?_
  refine b_fin hK (s' := ⟨[(1, slE eInt p1), (3, HV.fptr [HV.int .i64 p0.1, HV.int .i64 p0.2.1, slE eFromLabelTo p0.2.2] 0), (5, HV.fptr [HV.int .i64 p2] 0), (8, HV.int .i64 x3), (21, HV.bool (decide (x3 ≠ 0)))], []⟩) (le_q rfl rfl) ?_
  clear hK K
  refine AW.cond rfl (fun hc => ?_) (fun hc => ?_)
  ·have hc := of_decide_eq_true hc
   have h := ifT hc h
   refine AW.rgs rfl fun K hK => ?_
   refine mv rfl rfl ?_
   refine mv rfl rfl ?_
   refine mv rfl rfl ?_
   refine b_fin hK (s' := ⟨[(6, HV.v (.slice none 0 0)), (7, HV.int .i64 x3)], []⟩) (le_q rfl rfl) ?_
   clear hK K
   refine AW.to (to_weak ⟨[(6, slE eInt ([] : List Int)), (7, HV.int .i64 x3)], []⟩ ⟨⟨_, rfl, .nil _⟩, ⟨_, rfl, .refl _⟩, trivial⟩ trivial ?_)
   refine AW.ret ?_
   have h := Option.some.inj h
   subst h
   exact ret_pure (hs := [slE eInt ([] : List Int), HV.int .i64 x3]) (q := HV.tup [slE eInt ([] : List Int), HV.int .i64 x3]) (.inr rfl) (resT rfl (resT rfl rfl)) rfl ⟨(clean_slE fun _ _ => ⟨trivial, trivial⟩), trivial, trivial⟩
  ·have hc := of_decide_eq_false hc
   have h := ifF hc h
   refine AW.skip ?_
   refine AW.seq ?_
   refine AW.seqJ h (S := Bool) (V := Unit) (fun a v => ⟨[(1, slE eInt p1), (3, HV.fptr [HV.int .i64 p0.1, HV.int .i64 p0.2.1, slE eFromLabelTo p0.2.2] 0), (5, HV.fptr [HV.int .i64 p2] 0), (30, HV.bool a)], []⟩) (fun a5 w6 h => ?_) (fun k7 h => ?_)
   ·refine AW.cond rfl (fun hc => ?_) (fun hc => ?_)
    ·have h := ifT hc h
     refine AW.rgs rfl fun K hK => ?_
     refine mv rfl rfl ?_
     refine mv rfl rfl ?_
     refine b_fin hK (s' := ⟨[(6, HV.v (.slice none 0 0)), (7, HV.int .i64 2)], []⟩) (le_q rfl rfl) ?_
     clear hK K
     refine AW.to (to_weak ⟨[(6, slE eInt ([] : List Int)), (7, HV.int .i64 2)], []⟩ ⟨⟨_, rfl, .nil _⟩, ⟨_, rfl, .refl _⟩, trivial⟩ trivial ?_)
     refine AW.ret ?_
     have h := Option.some.inj h
     subst h
     exact ret_pure (hs := [slE eInt ([] : List Int), HV.int .i64 2]) (q := HV.tup [slE eInt ([] : List Int), HV.int .i64 2]) (.inr rfl) (resT rfl (resT rfl rfl)) rfl ⟨(clean_slE fun _ _ => ⟨trivial, trivial⟩), trivial, trivial⟩
    ·have h := ifF (bF' hc) h
     refine AW.skip ?_
     refine AW.rgs rfl fun K hK => ?_
     refine b_op rfl (o_alloc (fid := 76) (zs := [HV.v (.slice none 0 0)]) 76009 rfl rfl ty27 rfl (fun v8 => ?_))
     refine b_fin hK (s' := ⟨[(1, slE eInt p1), (3, HV.fptr [HV.int .i64 p0.1, HV.int .i64 p0.2.1, slE eFromLabelTo p0.2.2] 0), (5, HV.fptr [HV.int .i64 p2] 0), (9, HV.ptr 76009 v8 0)], [(76009, v8, .arr 1 27 [HV.v (.slice none 0 0)])]⟩) (le_q rfl rfl) ?_
     clear hK K
     refine AW.seq ?_
     refine AW.rgs rfl fun K hK => ?_
     refine mv rfl rfl ?_
     refine bv rfl (v_lenF rfl rfl ty27 rfl) ?_
     refine mv rfl rfl ?_
     refine b_fin hK (s' := ⟨[(3, HV.fptr [HV.int .i64 p0.1, HV.int .i64 p0.2.1, slE eFromLabelTo p0.2.2] 0), (5, HV.fptr [HV.int .i64 p2] 0), (9, HV.ptr 76009 v8 0), (31, slE eInt p1), (32, HV.int .i64 ((p1).length : Int)), (33, HV.int .i64 0)], [(76009, v8, .arr 1 27 [HV.v (.slice none 0 0)])]⟩) (le_q rfl rfl) ?_
     clear hK K
     refine AW.lpX h (by first | exact up_then | exact up_to) (S := Int × (List Int)) (V := Nat) (fun a v => ⟨[(3, HV.fptr [HV.int .i64 p0.1, HV.int .i64 p0.2.1, slE eFromLabelTo p0.2.2] 0), (5, HV.fptr [HV.int .i64 p2] 0), (9, HV.ptr 76009 v8 0), (31, slE eInt p1), (32, HV.int .i64 ((p1).length : Int)), (33, HV.int .i64 a.1)], [(76009, v8, .arr 1 27 [HV.ar 76050 v eInt.k 0 ((a.2).length)]), (76050, v, .arr eInt.k 3 (eInt.E a.2))]⟩) ?_ (X := (List Int)) (W := Nat) (fun a v => ⟨[(9, HV.ptr 76009 v8 0)], [(76009, v8, .arr 1 27 [HV.ar 76050 v eInt.k 0 ((a).length)]), (76050, v, .arr eInt.k 3 (eInt.E a))]⟩) (fun a31 w32 h => ?_) (fun a9 w10 st11 h => ?_)
     ·refine to_bind (to_ownC 76050 76009 v8 1 0 eInt.k 3 27 rfl rfl (by decide) fun v30 => ?_)
      exact to_le (s' := ⟨[(3, HV.fptr [HV.int .i64 p0.1, HV.int .i64 p0.2.1, slE eFromLabelTo p0.2.2] 0), (5, HV.fptr [HV.int .i64 p2] 0), (9, HV.ptr 76009 v8 0), (31, slE eInt p1), (32, HV.int .i64 ((p1).length : Int)), (33, HV.int .i64 0)], [(76009, v8, .arr 1 27 [HV.ar 76050 v30 eInt.k 0 ((([] : List Int)).length)]), (76050, v30, .arr eInt.k 3 (eInt.E ([] : List Int)))]⟩) (AS.le_of ⟨rfl, rfl, rfl, rfl, rfl, rfl, trivial⟩ ⟨hle rfl (by first | rfl | simp only [List.length_set, sortI_len, sortS_len]), rfl, trivial⟩) ⟨v30, rfl⟩
     ·refine AW.rgs rfl fun K hK => ?_
      refine bv rfl (v_loadP ty27 rfl rfl (l_lit rfl rfl)) ?_
      obtain ⟨h33, h⟩ := ifN h
      refine b_op rfl (o_sortI c_sortI (l := a31) rfl rfl rfl rfl h33 ?_)
      refine b_fin hK (s' := ⟨[(9, HV.ptr 76009 v8 0)], [(76009, v8, .arr 1 27 [HV.ar 76050 w32 eInt.k 0 ((sortI a31).length)]), (76050, w32, .arr eInt.k 3 (eInt.E (sortI a31)))]⟩) (AS.le_of ⟨rfl, trivial⟩ ⟨hle rfl (by first | rfl | simp only [List.length_set, sortI_len, sortS_len]), rfl, trivial⟩) ?_
      clear hK K
      refine AW.rgs rfl fun K hK => ?_
      refine bv rfl (v_loadP ty27 rfl rfl (l_lit rfl rfl)) ?_
      refine b_op rfl (o_callK (q := slE eInt (compact_ (sortI a31))) [(76009, v8, .arr 1 27 [HV.ar 76050 w32 eInt.k 0 ((sortI a31).length)])] rfl rfl rfl rfl (fun K hK => c_compactI (H' := [(76009, v8, .arr 1 27 [HV.ar 76050 w32 eInt.k 0 ((sortI a31).length)])]) (l := sortI a31) rfl rfl (leH_get ⟨rfl, trivial⟩) rfl hK) ?_)
      refine mv rfl rfl ?_
      refine mv rfl rfl ?_
      refine b_fin hK (s' := ⟨[(6, slE eInt (compact_ (sortI a31))), (7, HV.int .i64 0)], []⟩) (le_q rfl rfl) ?_
      clear hK K
      refine AW.ret ?_
      have h := Option.some.inj h
      subst h
      exact ret_pure (hs := [slE eInt (compact_ (sortI a31)), HV.int .i64 0]) (q := HV.tup [slE eInt (compact_ (sortI a31)), HV.int .i64 0]) (.inr rfl) (resT rfl (resT rfl rfl)) rfl ⟨(clean_slE fun _ _ => ⟨trivial, trivial⟩), trivial, trivial⟩
     ·refine AW.rgs rfl fun K hK => ?_
      refine bv rfl (v_bin rfl rfl b_lss) ?_
      refine b_fin hK (s' := ⟨[(3, HV.fptr [HV.int .i64 p0.1, HV.int .i64 p0.2.1, slE eFromLabelTo p0.2.2] 0), (5, HV.fptr [HV.int .i64 p2] 0), (9, HV.ptr 76009 v8 0), (31, slE eInt p1), (32, HV.int .i64 ((p1).length : Int)), (33, HV.int .i64 a9.1), (34, HV.bool (decide (a9.1 < ((p1).length : Int))))], [(76009, v8, .arr 1 27 [HV.ar 76050 w10 eInt.k 0 ((a9.2).length)]), (76050, w10, .arr eInt.k 3 (eInt.E a9.2))]⟩) (le_q rfl rfl) ?_
      clear hK K
      refine AW.cseq rfl (fun hc => ?_) (fun hc => ?_)
      ·have hc := of_decide_eq_true hc
       have h := ifT hc h
       refine AW.skip ?_
       refine AW.seq (AW.block ?_)
       refine AW.rgs rfl fun K hK => ?_
       obtain ⟨x13, h14, h⟩ := bS h
       refine bv rfl (v_idxF ty27 es27 rfl rfl (idx_lt h14)) ?_
       refine bv rfl (v_loadF ty3 rfl (l_cell eInt h14 (o := 0) rfl rfl)) ?_
       refine mv rfl rfl ?_
       refine b_fin hK (s' := ⟨[(3, HV.fptr [HV.int .i64 p0.1, HV.int .i64 p0.2.1, slE eFromLabelTo p0.2.2] 0), (5, HV.fptr [HV.int .i64 p2] 0), (9, HV.ptr 76009 v8 0), (11, HV.int .i64 x13), (31, slE eInt p1), (32, HV.int .i64 ((p1).length : Int)), (33, HV.int .i64 a9.1)], [(76009, v8, .arr 1 27 [HV.ar 76050 w10 eInt.k 0 ((a9.2).length)]), (76050, w10, .arr eInt.k 3 (eInt.E a9.2))]⟩) (le_q rfl rfl) ?_
       clear hK K
       refine AW.rgs rfl fun K hK => ?_
       refine bv rfl (v_loadF ty24 rfl (l_litA rfl (Nat.le_of_ble_eq_true rfl) rfl)) ?_
       refine mv rfl rfl ?_
       refine b_op rfl (o_call rfl rfl rfl rfl (ACallD.pure0 (w_graph_leaving p0 x13)) ?_)
       refine b_fin hK (s' := ⟨[(3, HV.fptr [HV.int .i64 p0.1, HV.int .i64 p0.2.1, slE eFromLabelTo p0.2.2] 0), (5, HV.fptr [HV.int .i64 p2] 0), (9, HV.ptr 76009 v8 0), (31, slE eInt p1), (32, HV.int .i64 ((p1).length : Int)), (33, HV.int .i64 a9.1), (39, HV.fn (.func 106) [] [HV.fptr [HV.int .i64 p0.1, HV.int .i64 p0.2.1, slE eFromLabelTo p0.2.2] 0, HV.fptr [HV.int .i64 x13] 0])], [(76009, v8, .arr 1 27 [HV.ar 76050 w10 eInt.k 0 ((a9.2).length)]), (76050, w10, .arr eInt.k 3 (eInt.E a9.2))]⟩) (le_q rfl rfl) ?_
       clear hK K
       refine AW.block ?_
       refine AW.to (to_le (s' := ⟨[(3, HV.fptr [HV.int .i64 p0.1, HV.int .i64 p0.2.1, slE eFromLabelTo p0.2.2] 0), (5, HV.fptr [HV.int .i64 p2] 0), (9, HV.ptr 76009 v8 0), (31, slE eInt p1), (32, HV.int .i64 ((p1).length : Int)), (33, HV.int .i64 a9.1), (39, HV.fn (.func 106) [] [HV.fptr [HV.int .i64 p0.1, HV.int .i64 p0.2.1, slE eFromLabelTo p0.2.2] 0, HV.fptr [HV.int .i64 x13] 0])], [(76009, v8, .arr 1 27 [HV.ar 76050 w10 eInt.k 0 ((a9.2).length)]), (76050, w10, .arr eInt.k 3 (eInt.E a9.2))]⟩) (le_q rfl rfl) ?_)
       obtain ⟨L15, h16, h⟩ := bS h
       refine AW.rangeY (c := .ret) 76900 (fun x => [HV.int .i64 x.1, HV.agg [HV.int .i64 x.2.1, HV.int .i64 x.2.2.1, HV.int .i64 x.2.2.2]]) h (by first | exact up_then | exact up_to) rfl (iy_graph_leaving h16) (S := (List Int)) (V := Nat) (fun a v => [(76009, v8, .arr 1 27 [HV.ar 76050 v eInt.k 0 ((a).length)]), (76050, v, .arr eInt.k 3 (eInt.E a))]) w10 (X := Unit) (W := Unit) (fun _ _ => []) (fun _ _ => rfl) (fun _ _ => rfl) rfl (fun _ => rfl) (fun a26 w27 h => ?_) (fun a28 w29 h => ?_) (fun Lo l22 v20 a17 x19 w18 st21 h => ?_)
       ·refine AW.rg rfl fun K hK => ?_
        refine bv rfl (v_bin rfl rfl b_add) ?_
        refine mv rfl rfl ?_
        refine b_nil (hK _ ?_)
        clear hK K
        exact to_le (s' := ⟨[(3, HV.fptr [HV.int .i64 p0.1, HV.int .i64 p0.2.1, slE eFromLabelTo p0.2.2] 0), (5, HV.fptr [HV.int .i64 p2] 0), (9, HV.ptr 76009 v8 0), (31, slE eInt p1), (32, HV.int .i64 ((p1).length : Int)), (33, HV.int .i64 (IntKind.wrap .i64 (a9.1 + 1)))], [(76009, v8, .arr 1 27 [HV.ar 76050 w27 eInt.k 0 ((a26).length)]), (76050, w27, .arr eInt.k 3 (eInt.E a26))]⟩) (AS.le_of ⟨rfl, rfl, rfl, rfl, rfl, rfl, trivial⟩ ⟨rfl, rfl, trivial⟩) ⟨(IntKind.wrap .i64 (a9.1 + 1), a26), w27, h, rfl⟩
       ·cases h
       ·refine AW.rg rfl fun K hK => ?_
        refine b_op rfl (o_alloc (fid := 76) (zs := [HV.int .i64 0, HV.int .i64 0, HV.int .i64 0]) 76013 rfl rfl ty56 rfl (fun v23 => ?_))
        refine b_op rfl (o_store (cs := [HV.int .i64 x19.2.1, HV.int .i64 x19.2.2.1, HV.int .i64 x19.2.2.2]) (zs := [HV.int .i64 x19.2.1, HV.int .i64 x19.2.2.1, HV.int .i64 x19.2.2.2]) rfl rfl rfl ty56 rfl rfl rfl rfl rfl ?_)
        refine b_nil (hK _ ?_)
        clear hK K
        refine ⟨rfl, rfl, ?_⟩
        refine AW.block ?_
        refine AW.rgs rfl fun K hK => ?_
        refine bv rfl (v_fieldAddrP fo56_1 rfl rfl) ?_
        refine bv rfl (v_loadP ty3 rfl rfl (l_lit rfl rfl)) ?_
        refine bv rfl (v_loadF ty3 rfl (l_lit rfl rfl)) ?_
        refine bv rfl (v_bin rfl rfl b_eql) ?_
        refine b_fin hK (s' := ⟨[(3, HV.fptr [HV.int .i64 p0.1, HV.int .i64 p0.2.1, slE eFromLabelTo p0.2.2] 0), (5, HV.fptr [HV.int .i64 p2] 0), (9, HV.ptr 76009 v8 0), (13, HV.ptr 76013 v23 0), (31, slE eInt p1), (32, HV.int .i64 ((p1).length : Int)), (33, HV.int .i64 a9.1), (41, HV.agg [HV.int .i64 x19.2.1, HV.int .i64 x19.2.2.1, HV.int .i64 x19.2.2.2]), (45, HV.bool (decide (x19.2.2.1 = p2)))], [(76900, v20, Lo .busy none), (76009, v8, .arr 1 27 [HV.ar 76050 w18 eInt.k 0 ((a17).length)]), (76050, w18, .arr eInt.k 3 (eInt.E a17)), (76013, v23, .arr 3 56 [HV.int .i64 x19.2.1, HV.int .i64 x19.2.2.1, HV.int .i64 x19.2.2.2])]⟩) (le_q rfl rfl) ?_
        clear hK K
        refine AW.cond rfl (fun hc => ?_) (fun hc => ?_)
        ·have hc := of_decide_eq_true hc
         have h := ifT hc h
         refine AW.rg rfl fun K hK => ?_
         refine bv rfl (v_loadP ty27 rfl rfl (l_lit rfl rfl)) ?_
         refine bv rfl (v_fieldAddrP fo56_2 rfl rfl) ?_
         refine bv rfl (v_loadP ty3 rfl rfl (l_lit rfl rfl)) ?_
         refine b_op rfl (o_bsl rfl rfl (as_of (cs := [HV.int .i64 x19.2.2.2]) ty27 ty3 rfl rfl rfl rfl rfl) ?_)
         obtain ⟨h25, h⟩ := ifN h
         refine b_op rfl (o_appE eInt (l := a17) (m := [x19.2.2.2]) rfl rfl ty27 ty27 ty3 rfl rfl rfl rfl rfl h25 (fun v24 => ?_))
         refine b_op rfl (o_store (cs := [HV.ar 76050 v24 eInt.k 0 ((a17 ++ [x19.2.2.2]).length)]) (zs := [HV.ar 76050 v24 eInt.k 0 ((a17 ++ [x19.2.2.2]).length)]) rfl rfl rfl ty27 rfl rfl rfl rfl rfl ?_)
         refine b_nil (hK _ ?_)
         clear hK K
         exact ⟨a17 ++ [x19.2.2.2], v24, h, (AS.le_of trivial ⟨rfl, rfl, rfl, trivial⟩)⟩
        ·have hc := of_decide_eq_false hc
         have h := ifF hc h
         refine AW.skip ?_
         exact ⟨a17, w18, h, (AS.le_of trivial ⟨rfl, rfl, rfl, trivial⟩)⟩
      ·have hc := of_decide_eq_false hc
       have h := ifF hc h
       refine AW.exit ?_
       exact to_le (s' := ⟨[(9, HV.ptr 76009 v8 0)], [(76009, v8, .arr 1 27 [HV.ar 76050 w10 eInt.k 0 ((a9.2).length)]), (76050, w10, .arr eInt.k 3 (eInt.E a9.2))]⟩) (AS.le_of ⟨rfl, trivial⟩ ⟨rfl, rfl, trivial⟩) ⟨a9.2, w10, h, rfl⟩
   ·refine AW.rg rfl fun K hK => ?_
    refine bv rfl (v_loadF ty3 rfl (l_lit rfl rfl)) ?_
    refine bv rfl (v_bin rfl rfl b_lss) ?_
    refine mv rfl rfl ?_
    by_cases hg34 : p2 < 0
    ·have h := ifT hg34 h
     refine b_F rfl rfl rfl rfl rfl (decide_eq_true hg34) ?_
     refine b_F rfl rfl rfl rfl rfl rfl ?_
     refine b_F rfl rfl rfl rfl rfl rfl ?_
     refine b_F rfl rfl rfl rfl rfl rfl ?_
     refine bv rfl (v_pickT rfl rfl rfl) ?_
     refine b_nil (hK _ ?_)
     clear hK K
     exact to_le (s' := ⟨[(1, slE eInt p1), (3, HV.fptr [HV.int .i64 p0.1, HV.int .i64 p0.2.1, slE eFromLabelTo p0.2.2] 0), (5, HV.fptr [HV.int .i64 p2] 0), (30, HV.bool true)], []⟩) (AS.le_of ⟨rfl, rfl, rfl, rfl, trivial⟩ trivial) ⟨true, (), h, rfl⟩
    ·have h := ifF hg34 h
     refine b_T rfl rfl rfl rfl (decide_eq_false hg34) (o_val rfl (v_loadF ty3 rfl (l_lit rfl rfl)) ?_)
     refine b_T rfl rfl rfl rfl rfl (o_val rfl (v_fieldAddrF fo24_0 rfl) ?_)
     refine b_T rfl rfl rfl rfl rfl (o_val rfl (v_loadF ty3 rfl (l_lit rfl rfl)) ?_)
     refine b_T rfl rfl rfl rfl rfl (o_val rfl (v_bin rfl rfl b_geq) ?_)
     refine bv rfl (v_pickF rfl rfl rfl) ?_
     refine b_nil (hK _ ?_)
     clear hK K
     exact to_le (s' := ⟨[(1, slE eInt p1), (3, HV.fptr [HV.int .i64 p0.1, HV.int .i64 p0.2.1, slE eFromLabelTo p0.2.2] 0), (5, HV.fptr [HV.int .i64 p2] 0), (30, HV.bool (decide (p0.1 ≤ p2)))], []⟩) (AS.le_of ⟨rfl, rfl, rfl, rfl, trivial⟩ trivial) ⟨decide (p0.1 ≤ p2), (), h, rfl⟩

set_option maxHeartbeats 1600000 in
set_option maxRecDepth 100000 in
theorem w_language_step {p0 : TLabelsStatesEdges} {p1 : List (Int)} {p2 : Int} {r : (List (Int))} (h : m_language_step p0 p1 p2 = some r) : Pure Tryz.prog 62 [HV.agg [HV.int .i64 p0.1, HV.int .i64 p0.2.1, slE eFromLabelTo p0.2.2], slE eInt p1, HV.int .u8 p2] (· = slE eInt r) := by
 unfold m_language_step at h
 refine Pure.of_body Tryz.func62 rfl rfl (Nat.le_of_ble_eq_true rfl) fun hf => ?_
 unfold Tryz.f62
 dsimp only [enumS, Nat.reduceAdd]
 refine AW.rgs rfl fun K hK => ?_
 refine b_op rfl (o_box rfl rfl rfl ?_)
 refine mv rfl rfl ?_
 refine b_fin hK (s' := ⟨[(1, slE eInt p1), (2, HV.int .u8 p2), (3, HV.fptr [HV.int .i64 p0.1, HV.int .i64 p0.2.1, slE eFromLabelTo p0.2.2] 0)], []⟩) (le_q rfl rfl) ?_
 clear hK K
 refine AW.dgs 10 follows rfl rfl fun K hK => ?_
 refine sv rfl (v_loadF ty24 rfl (l_litA rfl (Nat.le_of_ble_eq_true rfl) rfl)) ?_
 refine sm rfl rfl ?_
 refine sm rfl rfl ?_
 obtain ⟨x1, h2, h⟩ := bS h
 refine s_op rfl rfl (ops_call rfl rfl rfl rfl (ACallD.pure0 (w_strings_IndexByte h2)) ?_)
 obtain ⟨x3, h4, h⟩ := bS h
 refine s_op rfl rfl (ops_call rfl rfl rfl rfl (ACallD.pure0 (w_graph_Step h4)) ?_)
 refine sm rfl rfl ?_
 refine sv rfl (v_extract rfl rfl) ?_
 refine sv rfl (v_extract rfl rfl) ?_
 refine sm rfl rfl ?_
 refine sm rfl rfl ?_
 refine s_nil ?_
 refine b_fin hK (s' := ⟨[(7, slE eInt x3.1)], []⟩) (le_q rfl rfl) ?_
 clear hK K
 refine AW.rgs rfl fun K hK => ?_
 refine mv rfl rfl ?_
 refine mv rfl rfl ?_
 refine b_fin hK (s' := ⟨[(6, slE eInt x3.1)], []⟩) (le_q rfl rfl) ?_
 clear hK K
 refine AW.ret ?_
 have h := Option.some.inj h
 subst h
 exact ret_pure (hs := [slE eInt x3.1]) (q := slE eInt x3.1) (.inr rfl) (resT rfl rfl) rfl (clean_slE fun _ _ => ⟨trivial, trivial⟩)

set_option maxHeartbeats 1600000 in
set_option maxRecDepth 100000 in
theorem w_language_states {p0 : TLabelsStatesEdges} {r : (List (Int))} (h : m_language_states p0 = some r) : Pure Tryz.prog 38 [HV.agg [HV.int .i64 p0.1, HV.int .i64 p0.2.1, slE eFromLabelTo p0.2.2]] (· = slE eInt r) := by
 unfold m_language_states at h
 refine Pure.of_body Tryz.func38 rfl rfl (Nat.le_of_ble_eq_true rfl) fun hf => ?_
 unfold Tryz.f38
 dsimp only [enumS, Nat.reduceAdd]
 refine AW.rgs rfl fun K hK => ?_
 refine b_op rfl (o_box rfl rfl rfl ?_)
 refine mv rfl rfl ?_
 refine b_fin hK (s' := ⟨[(1, HV.fptr [HV.int .i64 p0.1, HV.int .i64 p0.2.1, slE eFromLabelTo p0.2.2] 0)], []⟩) (le_q rfl rfl) ?_
 clear hK K
 refine AW.rgs rfl fun K hK => ?_
 refine bv rfl (v_fieldAddrF fo24_1 rfl) ?_
 refine bv rfl (v_loadF ty3 rfl (l_lit rfl rfl)) ?_
 obtain ⟨h2, h⟩ := ifN h
 refine b_op rfl (o_makeE (fid := 38) eInt (0 : Int) 38007 rfl rfl ty27 rfl rfl ty3 rfl rfl h2 (fun v1 => ?_))
 refine mv rfl rfl ?_
 refine b_fin hK (s' := ⟨[(3, HV.ar 38007 v1 eInt.k 0 ((List.replicate (p0.2.1).toNat (0 : Int)).length))], [(38007, v1, .arr eInt.k 3 (eInt.E (List.replicate (p0.2.1).toNat (0 : Int))))]⟩) (le_q rfl rfl) ?_
 clear hK K
 refine AW.seq ?_
 refine AW.rgs rfl fun K hK => ?_
 refine mv rfl rfl ?_
 refine bv rfl (v_lenA rfl rfl ty27 rfl rfl) ?_
 refine mv rfl rfl ?_
 refine b_fin hK (s' := ⟨[(3, HV.ar 38007 v1 eInt.k 0 ((List.replicate (p0.2.1).toNat (0 : Int)).length)), (9, HV.int .i64 (((List.replicate (p0.2.1).toNat (0 : Int)).length : Nat) : Int)), (10, HV.int .i64 0)], [(38007, v1, .arr eInt.k 3 (eInt.E (List.replicate (p0.2.1).toNat (0 : Int))))]⟩) (le_q rfl rfl) ?_
 clear hK K
 refine AW.lpX h (by first | exact up_then | exact up_to) (S := Int × (List Int)) (V := Unit) (fun a v => ⟨[(3, HV.ar 38007 v1 eInt.k 0 ((a.2).length)), (9, HV.int .i64 (((List.replicate (p0.2.1).toNat (0 : Int)).length : Nat) : Int)), (10, HV.int .i64 a.1)], [(38007, v1, .arr eInt.k 3 (eInt.E a.2))]⟩) ?_ (X := (List Int)) (W := Unit) (fun a v => ⟨[(3, HV.ar 38007 v1 eInt.k 0 ((a).length))], [(38007, v1, .arr eInt.k 3 (eInt.E a))]⟩) (fun a9 w10 h => ?_) (fun a3 w4 st5 h => ?_)
 ·exact to_le (s' := ⟨[(3, HV.ar 38007 v1 eInt.k 0 ((List.replicate (p0.2.1).toNat (0 : Int)).length)), (9, HV.int .i64 (((List.replicate (p0.2.1).toNat (0 : Int)).length : Nat) : Int)), (10, HV.int .i64 0)], [(38007, v1, .arr eInt.k 3 (eInt.E (List.replicate (p0.2.1).toNat (0 : Int))))]⟩) (AS.le_of ⟨rfl, rfl, rfl, trivial⟩ ⟨rfl, trivial⟩) ⟨(), rfl⟩
 ·refine AW.rgs rfl fun K hK => ?_
  refine mv rfl rfl ?_
  refine mv rfl rfl ?_
  refine b_fin hK (s' := ⟨[(2, HV.ar 38007 v1 eInt.k 0 ((a9).length))], [(38007, v1, .arr eInt.k 3 (eInt.E a9))]⟩) (le_q rfl rfl) ?_
  clear hK K
  refine AW.to (to_frz 2 [(38007, v1, .arr eInt.k 3 (eInt.E a9))] ⟨[(2, slE eInt a9)], []⟩ ⟨⟨_, rfl, frz_slE eInt (l := a9) rfl fun _ _ => rfl⟩, trivial⟩ trivial ⟨rfl, trivial⟩ ⟨rfl, trivial⟩ ?_)
  refine AW.ret ?_
  have h := Option.some.inj h
  subst h
  exact ret_pure (hs := [slE eInt a9]) (q := slE eInt a9) (.inr rfl) (resT rfl rfl) rfl (clean_slE fun _ _ => ⟨trivial, trivial⟩)
 ·refine AW.rgs rfl fun K hK => ?_
  refine bv rfl (v_bin rfl rfl b_lss) ?_
  refine b_fin hK (s' := ⟨[(3, HV.ar 38007 v1 eInt.k 0 ((a3.2).length)), (9, HV.int .i64 (((List.replicate (p0.2.1).toNat (0 : Int)).length : Nat) : Int)), (10, HV.int .i64 a3.1), (11, HV.bool (decide (a3.1 < (((List.replicate (p0.2.1).toNat (0 : Int)).length : Nat) : Int))))], [(38007, v1, .arr eInt.k 3 (eInt.E a3.2))]⟩) (le_q rfl rfl) ?_
  clear hK K
  refine AW.cseq rfl (fun hc => ?_) (fun hc => ?_)
  ·have hc := of_decide_eq_true hc
   have h := ifT hc h
   refine AW.skip ?_
   refine AW.seq (AW.block ?_)
   refine AW.rgs rfl fun K hK => ?_
   refine mv rfl rfl ?_
   refine mv rfl rfl ?_
   refine b_fin hK (s' := ⟨[(3, HV.ar 38007 v1 eInt.k 0 ((a3.2).length)), (4, HV.int .i64 a3.1), (9, HV.int .i64 (((List.replicate (p0.2.1).toNat (0 : Int)).length : Nat) : Int)), (10, HV.int .i64 a3.1)], [(38007, v1, .arr eInt.k 3 (eInt.E a3.2))]⟩) (le_q rfl rfl) ?_
   clear hK K
   refine AW.rg rfl fun K hK => ?_
   refine mv rfl rfl ?_
   refine mv rfl rfl ?_
   refine mv rfl rfl ?_
   obtain ⟨x7, h8, h⟩ := bS h
   refine bv rfl (v_idxA ty27 es27 rfl rfl (idx_lt h8) rfl) ?_
   refine b_op rfl (o_storeE eInt (l := a3.2) (j := a3.1) (v := a3.1) rfl rfl rfl ty3 rfl rfl rfl (idx_lt h8) ?_)
   refine b_fin hK (s' := ⟨[(3, HV.ar 38007 v1 eInt.k 0 (((a3.2).set (a3.1).toNat a3.1).length)), (9, HV.int .i64 (((List.replicate (p0.2.1).toNat (0 : Int)).length : Nat) : Int)), (10, HV.int .i64 a3.1)], [(38007, v1, .arr eInt.k 3 (eInt.E ((a3.2).set (a3.1).toNat a3.1)))]⟩) (AS.le_of ⟨arl (by first | rfl | simp only [List.length_set, sortI_len, sortS_len]), rfl, rfl, trivial⟩ ⟨rfl, trivial⟩) ?_
   clear hK K
   refine AW.rg rfl fun K hK => ?_
   refine bv rfl (v_bin rfl rfl b_add) ?_
   refine mv rfl rfl ?_
   refine b_nil (hK _ ?_)
   clear hK K
   exact to_le (s' := ⟨[(3, HV.ar 38007 v1 eInt.k 0 (((a3.2).set (a3.1).toNat a3.1).length)), (9, HV.int .i64 (((List.replicate (p0.2.1).toNat (0 : Int)).length : Nat) : Int)), (10, HV.int .i64 (IntKind.wrap .i64 (a3.1 + 1)))], [(38007, v1, .arr eInt.k 3 (eInt.E ((a3.2).set (a3.1).toNat a3.1)))]⟩) (AS.le_of ⟨rfl, rfl, rfl, trivial⟩ ⟨rfl, trivial⟩) ⟨(IntKind.wrap .i64 (a3.1 + 1), (a3.2).set (a3.1).toNat a3.1), (), h, rfl⟩
  ·have hc := of_decide_eq_false hc
   have h := ifF hc h
   refine AW.exit ?_
   exact to_le (s' := ⟨[(3, HV.ar 38007 v1 eInt.k 0 ((a3.2).length))], [(38007, v1, .arr eInt.k 3 (eInt.E a3.2))]⟩) (AS.le_of ⟨rfl, trivial⟩ ⟨rfl, trivial⟩) ⟨a3.2, (), h, rfl⟩

set_option maxHeartbeats 1600000 in
set_option maxRecDepth 100000 in
theorem w_language_check {p0 : TLabelsStatesEdges} {r : Int} (h : m_language_check p0 = some r) : Pure Tryz.prog 61 [HV.agg [HV.int .i64 p0.1, HV.int .i64 p0.2.1, slE eFromLabelTo p0.2.2]] (· = HV.int .i64 r) := by
 unfold m_language_check at h
 refine Pure.of_body Tryz.func61 rfl rfl (Nat.le_of_ble_eq_true rfl) fun hf => ?_
 unfold Tryz.f61
 dsimp only [enumS, Nat.reduceAdd]
 refine AW.rgs rfl fun K hK => ?_
 refine b_op rfl (o_box rfl rfl rfl ?_)
 refine mv rfl rfl ?_
 refine b_fin hK (s' := ⟨[(1, HV.fptr [HV.int .i64 p0.1, HV.int .i64 p0.2.1, slE eFromLabelTo p0.2.2] 0)], []⟩) (le_q rfl rfl) ?_
 clear hK K
 refine AW.seq (AW.block ?_)
 refine AW.rgs rfl fun K hK => ?_
 refine bv rfl (v_loadF ty24 rfl (l_litA rfl (Nat.le_of_ble_eq_true rfl) rfl)) ?_
 obtain ⟨x1, h2, h⟩ := bS h
 refine b_op rfl (o_call rfl rfl rfl rfl (ACallD.pure0 (w_graph_Check h2)) ?_)
 refine bv rfl (v_bin rfl rfl b_neq) ?_
 refine mv rfl rfl ?_
 refine b_fin hK (s' := ⟨[(1, HV.fptr [HV.int .i64 p0.1, HV.int .i64 p0.2.1, slE eFromLabelTo p0.2.2] 0), (3, HV.bool (decide (x1 ≠ 0)))], []⟩) (le_q rfl rfl) ?_
 clear hK K
 refine AW.cond rfl (fun hc => ?_) (fun hc => ?_)
 ·have hc := of_decide_eq_true hc
  have h := ifT hc h
  refine AW.rgs rfl fun K hK => ?_
  refine mv rfl rfl ?_
  refine b_fin hK (s' := ⟨[(2, HV.int .i64 1)], []⟩) (le_q rfl rfl) ?_
  clear hK K
  refine AW.ret ?_
  have h := Option.some.inj h
  subst h
  exact ret_pure (hs := [HV.int .i64 1]) (q := HV.int .i64 1) (.inr rfl) (resT rfl rfl) rfl trivial
 ·have hc := of_decide_eq_false hc
  have h := ifF hc h
  refine AW.rgs rfl fun K hK => ?_
  refine bv rfl (v_fieldAddrF fo24_0 rfl) ?_
  refine bv rfl (v_loadF ty3 rfl (l_lit rfl rfl)) ?_
  refine bv rfl (v_bin rfl rfl b_gtr) ?_
  refine mv rfl rfl ?_
  refine b_fin hK (s' := ⟨[(7, HV.bool (decide (16 < p0.1)))], []⟩) (le_q rfl rfl) ?_
  clear hK K
  refine AW.cond rfl (fun hc => ?_) (fun hc => ?_)
  ·have hc := of_decide_eq_true hc
   have h := ifT hc h
   refine AW.rgs rfl fun K hK => ?_
   refine mv rfl rfl ?_
   refine b_fin hK (s' := ⟨[(2, HV.int .i64 12)], []⟩) (le_q rfl rfl) ?_
   clear hK K
   refine AW.ret ?_
   have h := Option.some.inj h
   subst h
   exact ret_pure (hs := [HV.int .i64 12]) (q := HV.int .i64 12) (.inr rfl) (resT rfl rfl) rfl trivial
  ·have hc := of_decide_eq_false hc
   have h := ifF hc h
   refine AW.skip ?_
   refine AW.rgs rfl fun K hK => ?_
   refine mv rfl rfl ?_
   refine b_fin hK (s' := ⟨[(2, HV.int .i64 0)], []⟩) (le_q rfl rfl) ?_
   clear hK K
   refine AW.ret ?_
   have h := Option.some.inj h
   subst h
   exact ret_pure (hs := [HV.int .i64 0]) (q := HV.int .i64 0) (.inr rfl) (resT rfl rfl) rfl trivial

set_option maxHeartbeats 1600000 in
set_option maxRecDepth 100000 in
theorem w_language_lengths {p0 : TLabelsStatesEdges} {p1 : Int} {r : Int} (h : m_language_lengths p0 p1 = some r) : Pure Tryz.prog 36 [HV.agg [HV.int .i64 p0.1, HV.int .i64 p0.2.1, slE eFromLabelTo p0.2.2], HV.int .i64 p1] (· = HV.int .i64 r) := by
 unfold m_language_lengths at h
 refine Pure.of_body Tryz.func36 rfl rfl (Nat.le_of_ble_eq_true rfl) fun hf => ?_
 unfold Tryz.f36
 dsimp only [enumS, Nat.reduceAdd]
 refine AW.rgs rfl fun K hK => ?_
 refine b_op rfl (o_box rfl rfl rfl ?_)
 refine mv rfl rfl ?_
 refine b_fin hK (s' := ⟨[(1, HV.int .i64 p1), (2, HV.fptr [HV.int .i64 p0.1, HV.int .i64 p0.2.1, slE eFromLabelTo p0.2.2] 0)], []⟩) (le_q rfl rfl) ?_
 clear hK K
 refine AW.seq ?_
 refine AW.rgs rfl fun K hK => ?_
 refine bv rfl (v_loadF ty24 rfl (l_litA rfl (Nat.le_of_ble_eq_true rfl) rfl)) ?_
 obtain ⟨x1, h2, h⟩ := bS h
 refine b_op rfl (o_call rfl rfl rfl rfl (ACallD.pure0 (w_language_check h2)) ?_)
 refine mv rfl rfl ?_
 refine b_fin hK (s' := ⟨[(1, HV.int .i64 p1), (5, HV.int .i64 x1)], []⟩) (le_q rfl rfl) ?_
 clear hK K
 refine AW.rgs rfl fun K hK => ?_
 refine mv rfl rfl ?_
 refine bv rfl (v_bin rfl rfl b_neq) ?_
 refine b_fin hK (s' := ⟨[(1, HV.int .i64 p1), (5, HV.int .i64 x1), (9, HV.bool (decide (x1 ≠ 0)))], []⟩) (le_q rfl rfl) ?_
 clear hK K
 refine AW.cond rfl (fun hc => ?_) (fun hc => ?_)
 ·have hc := of_decide_eq_true hc
  have h := ifT hc h
  refine AW.rgs rfl fun K hK => ?_
  refine mv rfl rfl ?_
  refine mv rfl rfl ?_
  refine b_fin hK (s' := ⟨[(4, HV.int .i64 x1)], []⟩) (le_q rfl rfl) ?_
  clear hK K
  refine AW.ret ?_
  have h := Option.some.inj h
  subst h
  exact ret_pure (hs := [HV.int .i64 x1]) (q := HV.int .i64 x1) (.inr rfl) (resT rfl rfl) rfl trivial
 ·have hc := of_decide_eq_false hc
  have h := ifF hc h
  refine AW.skip ?_
  refine AW.seq ?_
  refine AW.seqJ h (S := Bool) (V := Unit) (fun a v => ⟨[(16, HV.bool a)], []⟩) (fun a3 w4 h => ?_) (fun k5 h => ?_)
  ·refine AW.cond rfl (fun hc => ?_) (fun hc => ?_)
   ·have h := ifT hc h
    refine AW.rgs rfl fun K hK => ?_
    refine mv rfl rfl ?_
    refine b_fin hK (s' := ⟨[(4, HV.int .i64 2)], []⟩) (le_q rfl rfl) ?_
    clear hK K
    refine AW.ret ?_
    have h := Option.some.inj h
    subst h
    exact ret_pure (hs := [HV.int .i64 2]) (q := HV.int .i64 2) (.inr rfl) (resT rfl rfl) rfl trivial
   ·have h := ifF (bF' hc) h
    refine AW.skip ?_
    refine AW.rgs rfl fun K hK => ?_
    refine mv rfl rfl ?_
    refine b_fin hK (s' := ⟨[(4, HV.int .i64 0)], []⟩) (le_q rfl rfl) ?_
    clear hK K
    refine AW.ret ?_
    have h := Option.some.inj h
    subst h
    exact ret_pure (hs := [HV.int .i64 0]) (q := HV.int .i64 0) (.inr rfl) (resT rfl rfl) rfl trivial
  ·refine AW.rg rfl fun K hK => ?_
   refine mv rfl rfl ?_
   refine bv rfl (v_bin rfl rfl b_lss) ?_
   refine mv rfl rfl ?_
   by_cases hg6 : p1 < 0
   ·have h := ifT hg6 h
    refine b_F rfl rfl rfl rfl rfl (decide_eq_true hg6) ?_
    refine b_F rfl rfl rfl rfl rfl rfl ?_
    refine bv rfl (v_pickT rfl rfl rfl) ?_
    refine b_nil (hK _ ?_)
    clear hK K
    exact to_le (s' := ⟨[(16, HV.bool true)], []⟩) (AS.le_of ⟨rfl, trivial⟩ trivial) ⟨true, (), h, rfl⟩
   ·have h := ifF hg6 h
    refine b_T rfl rfl rfl rfl (decide_eq_false hg6) (o_val rfl (mv_val rfl rfl).2 ?_)
    refine b_T rfl rfl rfl rfl rfl (o_val rfl (v_bin rfl rfl b_gtr) ?_)
    refine bv rfl (v_pickF rfl rfl rfl) ?_
    refine b_nil (hK _ ?_)
    clear hK K
    exact to_le (s' := ⟨[(16, HV.bool (decide (4096 < p1)))], []⟩) (AS.le_of ⟨rfl, trivial⟩ trivial) ⟨decide (4096 < p1), (), h, rfl⟩

end Go.AW



/- language.list and what is made of its maps, as contracts. -/
namespace Go.AW
open Go Go.Proofs
set_option linter.unusedVariables false

theorem list_steps {g : TLabelsStatesEdges} {set : List Int} (h : StepsOk g set) : ∃ A : List Int → Prop, A set ∧ (∀ a c, A a → c ∈ letters.take g.1.toNat → A (stpM g a c)) ∧
    ∀ a c, A a → c ∈ letters.take g.1.toNat → Pure Tryz.prog 62 [HV.agg [HV.int .i64 g.1, HV.int .i64 g.2.1, slE eFromLabelTo g.2.2], ints a, .int .u8 c.toNat] (· = ints (stpM g a c)) := by
  obtain ⟨A, h0, hs⟩ := h
  refine ⟨A, h0, fun a c ha hc => ?_, fun a c ha hc => ?_⟩
  · obtain ⟨b, hb, hA⟩ := hs a c ha hc
    simp only [stpM, hb, Option.getD_some]
    exact hA
  · obtain ⟨b, hb, hA⟩ := hs a c ha hc
    simp only [stpM, hb, Option.getD_some]
    exact w_language_step hb

theorem c_listT {g : TLabelsStatesEdges} {set : List Int} {n : Int} {x : List WS × Bool} (h : m_language_list g set n = some x) (hx : x.2 = true) {K : HV → Heap → Prop}
    (hK : ∀ id ver es, es.Perm (x.1.map ent) ∧ (x.1.map (·.1)).Nodup ∧ x.1.length ≤ 1099511627776 → K (.tup [.mp id ver, .bool true]) [(id, ver, .map es)]) : ACall Tryz.prog 37 [HV.agg [HV.int .i64 g.1, HV.int .i64 g.2.1, slE eFromLabelTo g.2.2], slE eInt set, .int .i64 n] [] K := by
  unfold m_language_list at h
  split at h
  · rename_i hc
    obtain ⟨h1, h2, h3, h4⟩ := hc
    cases h
    split at hx
    · rename_i hok
      rw [if_pos hok] at hK
      obtain ⟨A, hA0, hA, hstep⟩ := list_steps h4
      obtain ⟨gl, gs, ge⟩ := g
      try dsimp only at h1
      try dsimp only at h2
      try dsimp only at hA
      try dsimp only at hstep
      try dsimp only at hok
      try dsimp only
      try dsimp only at hK
      obtain ⟨L, rfl⟩ := Int.eq_ofNat_of_zero_le h1
      obtain ⟨m, rfl⟩ := Int.eq_ofNat_of_zero_le h3
      simp only [Int.toNat_natCast] at hok hK hA hstep
      refine (w79 (L := L) (n := m) (gS := HV.int .i64 gs) (gE := slE eFromLabelTo ge) (by omega) rfl rfl hA0 hA hstep).mono ?_
      rintro r H' (⟨hok', id, ver, es, rfl, rfl, hes⟩ | ⟨j, j1, j2, j3, rfl, rfl⟩)
      · refine hK id ver es ⟨hes, lvl_keys (letters_nodup.sublist (List.take_sublist _ _)) m, ?_⟩
        cases m with
        | zero => simp only [lvl]; split <;> simp
        | succ m => have := hok' (m + 1) (by omega) (Nat.le_refl _); omega
      · have := okLvl_iff.1 hok j j1 j2
        omega
    · cases hx
  · cases h

theorem c_listF {g : TLabelsStatesEdges} {set : List Int} {n : Int} {x : List WS × Bool} (h : m_language_list g set n = some x) (hx : ¬ x.2 = true) {K : HV → Heap → Prop}
    (hK : K (.tup [.v (.map none), .bool false]) []) : ACall Tryz.prog 37 [HV.agg [HV.int .i64 g.1, HV.int .i64 g.2.1, slE eFromLabelTo g.2.2], slE eInt set, .int .i64 n] [] K := by
  unfold m_language_list at h
  split at h
  · rename_i hc
    obtain ⟨h1, h2, h3, h4⟩ := hc
    cases h
    split at hx
    · exact absurd rfl hx
    · rename_i hok
      obtain ⟨A, hA0, hA, hstep⟩ := list_steps h4
      obtain ⟨gl, gs, ge⟩ := g
      try dsimp only at h1
      try dsimp only at h2
      try dsimp only at hA
      try dsimp only at hstep
      try dsimp only at hok
      try dsimp only
      obtain ⟨L, rfl⟩ := Int.eq_ofNat_of_zero_le h1
      obtain ⟨m, rfl⟩ := Int.eq_ofNat_of_zero_le h3
      simp only [Int.toNat_natCast] at hok hA hstep
      refine (w79 (L := L) (n := m) (gS := HV.int .i64 gs) (gE := slE eFromLabelTo ge) (by omega) rfl rfl hA0 hA hstep).mono ?_
      rintro r H' (⟨hok', id, ver, es, rfl, rfl, hes⟩ | ⟨j, j1, j2, j3, rfl, rfl⟩)
      · exact absurd (okLvl_iff.2 hok') hok
      · exact hK
  · cases h

/-- slices.Sorted(maps.Keys(m)) -/
theorem c_sortedKeys {id ver : Nat} {es : List (List UInt8 × HV)} {l : List WS} (hes : es.Perm (l.map ent) ∧ (l.map (·.1)).Nodup ∧ l.length ≤ 1099511627776) {K : HV → Heap → Prop} (hK : K (slE eStr (sortS (l.map (·.1)))) []) :
    ACall Tryz.prog 39 [.fn (.func 65) [] [.fptr [.mp id ver] 0]] [(id, ver, .map es)] K := by
  obtain ⟨hp, hn, hb⟩ := hes
  have hlen : es.length = l.length := by rw [hp.length_eq, List.length_map]
  have hsk : sortS (es.map (·.1)) = sortS (l.map (·.1)) := by
    refine sortS_perm ?_
    have := hp.map (·.1)
    rw [List.map_map] at this
    exact this
  refine (w81 (f := id + 1) (perm_keys hp hn) (by omega) (by omega) (by omega) (by omega) (by omega)).conv' ?_
  rintro r H' (⟨he, rfl, rfl⟩ | ⟨id', av, hen, rfl, rfl⟩)
  · have hl : l = [] := List.eq_nil_of_length_eq_zero (by rw [← hlen, he]; rfl)
    subst hl
    have e0 : sortS (([] : List WS).map (·.1)) = [] := List.eq_nil_of_length_eq_zero (by rw [sortS_len]; rfl)
    rw [e0] at hK
    exact ⟨slE eStr [], [], Conv.le (.nil 1), hK⟩
  · refine ⟨_, [], Conv.all 2, ?_⟩
    have e : es.length = (sortS (es.map (·.1))).length := by rw [sortS_len, List.length_map]
    rw [e]
    have hf := frz_slE eStr (D := [(id', av, .arr 1 9 ((sortS (es.map (·.1))).map .str))]) (l := sortS (es.map (·.1))) hget_0 (fun _ _ => rfl)
    have hk2 := hK
    rw [← hsk, ← hf] at hk2
    exact hk2
end Go.AW

/- strings.Builder: the check for copies. -/
namespace Go.Proofs
open Go

/-- a variable lies at the head of its row -/
theorem Tryz.bld_lies (n : Nat) (hn : 2 ≤ n) : liesAt Tryz.prog Tryz.prog.depth 116 (n / Tryz.prog.cellsOf 116) 0 116 1 = true := by
  have hc : Tryz.prog.cellsOf 116 = 2 := by kernel_rfl
  have hd : Tryz.prog.depth = (2 * (Tryz.prog.types.size + Made.depth) + 1) + 1 := rfl
  rw [hd]
  simp only [liesAt, Bool.or_eq_true]
  left
  rw [hd]
  have : 1 ≤ n / 2 := by omega
  simp [rowAt, hc, sameLayout, this]

set_option maxHeartbeats 1000000 in
set_option maxRecDepth 100000 in
theorem Tryz.copyCheck_fresh (b n : Nat) (w : World) (h0 : w.cell? ⟨b, 0, none⟩ = some (.pointer none)) (hsh : w.shape? b = some (116, n)) (hn : 2 ≤ n) (hfz : w.frozen? ⟨b, 0, none⟩ = false) :
    Calls Tryz.prog 84 #[.pointer (some ⟨b, 0, none⟩)] w fun e w' => e = .returned (.tuple #[]) ∧ w' = w.setCell ⟨b, 0, none⟩ (.pointer (some ⟨b, 0, none⟩)) := by
  obtain ⟨j, hj, hjs⟩ := Option.map_eq_some_iff.1 (show (Tryz.prog.info? 116).map (·.size) = some 2 by kernel_rfl)
  have hlies := Tryz.bld_lies n hn
  go_enter Tryz.func84, Tryz.ntmps84
  go_wp2
  rw [Lib.run_to_unsafe w ⟨b, 0, none⟩ Tryz.underlying114 Tryz.underlying147 hj (by rw [hjs]; decide) hsh (by show 0 < n; omega)]
  simp only [Result.andThen]
  rw [Oper.upon_value]
  go_wp2
  rw [run_callFunc_extern Tryz.func104 (by kernel_rfl) (by kernel_rfl) (by kernel_rfl) (e := Extern.AbiNoEscape.same) (by kernel_rfl), Lib.run_noEscape]
  simp only [Result.andThen]
  rw [Oper.upon_value]
  go_wp2
  rw [Lib.run_from_unsafe w ⟨b, 0, none⟩ Tryz.underlying147 Tryz.underlying114 hj hsh hlies]
  simp only [Result.andThen]
  rw [Oper.upon_value]
  go_wp2
  go_end0
  exact ⟨rfl, rfl⟩

set_option maxHeartbeats 1000000 in
set_option maxRecDepth 100000 in
theorem Tryz.copyCheck_used (b : Nat) (w : World) (h0 : w.cell? ⟨b, 0, none⟩ = some (.pointer (some ⟨b, 0, none⟩))) :
    Calls Tryz.prog 84 #[.pointer (some ⟨b, 0, none⟩)] w fun e w' => e = .returned (.tuple #[]) ∧ w' = w := by
  obtain ⟨j, hj, _⟩ := Option.map_eq_some_iff.1 (show (Tryz.prog.info? 116).map (·.size) = some 2 by kernel_rfl)
  go_enter Tryz.func84, Tryz.ntmps84
  go_wp2
  rw [Lib.run_neq_ptr_same w _ Tryz.underlying114 hj]
  go_wp2
  go_end0
  exact ⟨rfl, rfl⟩
end Go.Proofs

namespace Go.AW
open Go Go.Proofs Go.Lib

/-- the first cell of a builder -/
def bldP (u : Bool) (id ver : Nat) : HV := if u then .ptr id ver 0 else .v (.pointer none)

theorem c_copyCheck {H : Heap} {K : HV → Heap → Prop} {id ver : Nat} {u : Bool} {s : HV} (hg : hget H id = some (ver, .arr 2 116 [bldP u id ver, s])) (hK : K (.tup []) ((id, ver, .arr 2 116 [.ptr id ver 0, s]) :: H)) :
    ACall Tryz.prog 84 [.ptr id ver 0] H K := by
  refine ⟨enters' Tryz.func84 rfl rfl, fun μ w vs hs hr => ?_⟩
  obtain ⟨x, xs, rfl, hr, hn⟩ := hr
  cases hn
  obtain ⟨lo, hl, hor⟩ := hs.has _ _ _ hg
  have hle : ∀ ob j (y : Nat × AObj), hget ((id, ver, ob) :: H) j = some y ↔ hget (hset H id ver ob) j = some y := fun ob j y => by simp only [hget, hget_hset]
  rcases hr with ⟨b, hl', rfl⟩ | ⟨hd, _⟩
  · rw [hl] at hl'
    cases hl'
    obtain ⟨h1, cur, vs', rest, hrow, hcl, hrl⟩ := hor
    obtain ⟨v0, vs1, rfl, r0, v1, vs2, rfl, r1, hn⟩ := hrl
    cases hn
    have hrow2 := hrow
    obtain ⟨lo', hi', hbk, hfr⟩ := hrow2
    have hsz : 2 ≤ cur.size := by rw [← Array.length_toList, hcl]; simp
    have hc0 : cur[0]? = some v0 := by rw [← Array.getElem?_toList, hcl]; rfl
    have hcell : w.cell? ⟨b, 0, none⟩ = some v0 := by rw [Lib.cell_of_heap hbk]; exact hc0
    cases u with
    | false =>
      obtain rfl : v0 = .pointer none := r0
      refine (Tryz.copyCheck_fresh b cur.size w hcell (by simp [World.shape?, hbk]) hsz (hrow.free (by omega))).mono ?_
      rintro e w' ⟨rfl, rfl⟩
      have hbk' : (w.setCell ⟨b, 0, none⟩ (.pointer (some ⟨b, 0, none⟩))).heap[b]? = some (.cells (cur.setIfInBounds 0 (.pointer (some ⟨b, 0, none⟩))) 116 (lo', hi')) := by
        show (w.heap.modify b _)[b]? = _
        rw [Array.getElem?_modify, if_pos rfl, hbk]
        rfl
      obtain ⟨hsr, hE⟩ := hs.updArr (w' := w.setCell ⟨b, 0, none⟩ (.pointer (some ⟨b, 0, none⟩))) (cs' := [.ptr id ver 0, s]) hg hl ⟨rfl, rfl, rfl⟩ (by show (w.heap.modify b _).size = _; simp) (fun b' hne => by
        show (w.heap.modify b _)[b']? = _
        rw [Array.getElem?_modify, if_neg (fun e => hne e.symm)]) hrow ⟨lo', hi', hbk', by simpa using hfr⟩ (by simp) fun E => by
          refine ⟨fun c hc => ?_, _, [.pointer (some ⟨b, 0, none⟩), v1], rest, ⟨lo', hi', hbk', by simpa using hfr⟩, ?_, ?_⟩
          · rcases List.mem_cons.1 hc with rfl | hc
            · rfl
            · exact h1 c (List.mem_cons_of_mem _ hc)
          · rw [Array.toList_setIfInBounds, hcl]; rfl
          · exact ⟨_, _, rfl, .inl ⟨b, hl, rfl⟩, _, _, rfl, Rep.evo E hs.ok _ _ r1, rfl⟩
      exact ⟨_, .tup [], _, μ, rfl, hK, hsr.le (hle _), ⟨[], rfl, rfl⟩, hE⟩
    | true =>
      rcases r0 with ⟨b', hl2, rfl⟩ | ⟨hd, _⟩
      · rw [hl] at hl2
        cases hl2
        refine (Tryz.copyCheck_used b w hcell).mono ?_
        rintro e w' ⟨rfl, rfl⟩
        exact ⟨_, .tup [], _, μ, rfl, hK, (hs.same hg).le (hle _), ⟨[], rfl, rfl⟩, Evo.refl _ _⟩
      · exact absurd hl (hd.2 _)
  · exact absurd hl (hd.2 _)
end Go.AW

/- Bytes in owned arrays: append of a text. -/
namespace Go.AW
open Go
abbrev eByte : EncL UInt8 := encM fun b => HV.int .u8 (b.toNat : Int)
section
variable {P : Program} {ro : Option Nat} {N : Nat} {s : AS} {o : Oper} {sl : List (Nat × HV)} {H : Heap} {all : Array Oper} {rest : List Oper} {K : AS → Prop}
theorem o_appS {d : Nat} {t xt e : TypeId} {a b a2 b2 : Nat} {z z2 : Value} {aa : Array Operand} {ts : Array TypeId} {x y : Operand} {Te : TyI} {l m : List UInt8} {id ver : Nat} (h0 : (o.dst, o.op) = (some d, .call ⟨.builtin .append, aa, ts⟩)) (ha : (aa.toList, ts.toList) = ([x, y], [t, xt])) (hT : ty P t = some ⟨.slice e, a, b, z⟩) (hxt : ty P xt = some ⟨.string, a2, b2, z2⟩) (hTe : ty P e = some Te)
    (hx : s.ev x = some (.ar id ver eByte.k 0 l.length)) (hg : hget s.heap id = some (ver, .arr eByte.k e (eByte.E l))) (hy : s.ev y = some (.str m)) (hk : Te.size = 1) (hz : (zcells Te.zero).any (fun zs => zs.length == Te.size) = true) (h : fits Te.bytes (l.length + m.length))
    (k : ∀ ver', bops P ro N all rest K ⟨(d, .ar id ver' eByte.k 0 (l ++ m).length) :: s.slots, (id, ver', .arr eByte.k e (eByte.E (l ++ m))) :: s.heap⟩) : aop P 0 [] o (fun s' => bops P ro N all rest K s') s := by
  obtain ⟨h3, h4⟩ := Prod.mk.inj h0
  obtain ⟨h5, h6⟩ := Prod.mk.inj ha
  have ek : eByte.k = 1 := rfl
  refine op_append (n := l.length) (m := m.length) (cs := eByte.E l) (ds := eByte.E m) h4 h5 h6 hT hx hy hTe hz ?_ ?_ h ?_
  · simp only [abase, hg]
    refine ⟨trivial, hk.symm, trivial, trivial, ?_, trivial, ?_⟩
    · rw [hk, eByte.len]; exact Nat.le_refl _
    · rw [hk]
      show (eByte.E l).take (l.length * eByte.k) = _
      rw [eByte.take, List.take_length]
  · simp only [asrc, hxt]
    exact ⟨hk, trivial, rfl⟩
  · intro ver'
    have e1 : baseId (.ar id ver eByte.k 0 l.length) (cid 0 o.dst) = id := rfl
    have e2 : eByte.E l ++ eByte.E m = eByte.E (l ++ m) := (eByte.append l m).symm
    rw [e1, h3, hk, e2]
    have e3 : (l ++ m).length = l.length + m.length := List.length_append
    have := k ver'
    rw [e3] at this
    exact bops_le (putH_le id ver' _ d _) this
end
end Go.AW

/- strings.Builder: writing. -/
namespace Go.AW
open Go Go.Proofs

/-- a builder: its cells, its bytes -/
def bldO (id ver aid aver : Nat) (u : Bool) (l : List UInt8) : AObj := .arr 2 116 [bldP u id ver, .ar aid aver 1 0 l.length]
def bytO (l : List UInt8) : AObj := .arr 1 5 (eByte.E l)

theorem hget_1 {id v j w : Nat} {o p : AObj} {H : Heap} (h : j ≠ id) (hj : hget H j = some (w, p)) : hget ((id, v, o) :: H) j = some (w, p) := by
  simp only [hget]
  rw [if_neg (by omega)]
  exact hj

end Go.AW

/- strings.Builder: the text. -/
namespace Go.Proofs
open Go

/-- what a call may have changed: block g, and new ones -/
def But (g : Nat) (w w' : World) : Prop := Go.AW.Same w w' ∧ w.heap.size ≤ w'.heap.size ∧ ∀ k, k < w.heap.size → k ≠ g → w'.heap[k]? = w.heap[k]?

set_option maxHeartbeats 2000000 in
set_option maxRecDepth 100000 in
theorem Tryz.bldS_nil (b g : Nat) (w : World) (c0 : w.cell? ⟨b, 1, none⟩ = some (.slice none 0 0)) :
    Calls Tryz.prog 75 #[.pointer (some ⟨b, 0, none⟩)] w fun e w' => e = .returned (.string ⟨#[]⟩) ∧ But g w w' := by
  have hUS : ∀ (W : World) (q : Option Addr), (Builtin.unsafeString_ #[130, 3] 9 #[.pointer q, .int .i64 0]).run Tryz.prog W = .ok (.string .empty) W := fun W q => Lib.run_unsafeString_none W _ _ _ q
  have c1 : w.drew.cell? ⟨b, 1, none⟩ = some (.slice none 0 0) := c0
  have hSD : (Builtin.unsafeSliceData_ #[103] 130 #[.slice none 0 0]).run Tryz.prog w.drew = .ok (.pointer none) w.drew := rfl
  have mixed : Tryz.prog.follows .mixedOrders = true := by kernel_rfl
  go_enter Tryz.func75, Tryz.ntmps75
  go_wp2
  go_region_o
  all_goals (go_wp2; go_ret; exact ⟨rfl, ⟨rfl, rfl, rfl⟩, Nat.le_refl _, fun _ _ _ => rfl⟩)

set_option maxHeartbeats 2000000 in
set_option maxRecDepth 100000 in
theorem Tryz.bldS_room (b g cap : Nat) (w : World) (hc0 : cap ≠ 0) (c0 : w.cell? ⟨b, 1, none⟩ = some (.slice (some ⟨g, 0, none⟩) 0 cap)) :
    Calls Tryz.prog 75 #[.pointer (some ⟨b, 0, none⟩)] w fun e w' => e = .returned (.string ⟨#[]⟩) ∧ But g w w' := by
  have hUS : ∀ (W : World) (q : Option Addr), (Builtin.unsafeString_ #[130, 3] 9 #[.pointer q, .int .i64 0]).run Tryz.prog W = .ok (.string .empty) W := fun W q => Lib.run_unsafeString_none W _ _ _ q
  have c1 : w.drew.cell? ⟨b, 1, none⟩ = some (.slice (some ⟨g, 0, none⟩) 0 cap) := c0
  have hSD : (Builtin.unsafeSliceData_ #[103] 130 #[.slice (some ⟨g, 0, none⟩) 0 cap]).run Tryz.prog w.drew = .ok (.pointer (some ⟨g, 0, none⟩)) w.drew := Lib.run_unsafeSliceData_row _ _ _ _ _ _ hc0
  clear hc0
  have mixed : Tryz.prog.follows .mixedOrders = true := by kernel_rfl
  go_enter Tryz.func75, Tryz.ntmps75
  go_wp2
  go_region_o
  all_goals (go_wp2; go_ret; exact ⟨rfl, ⟨rfl, rfl, rfl⟩, Nat.le_refl _, fun _ _ _ => rfl⟩)

set_option maxHeartbeats 2000000 in
set_option maxRecDepth 100000 in
theorem Tryz.bldS_noroom (b g : Nat) (cur : Array Value) (fr : Nat × Nat) (w : World) (hlt : b < w.heap.size) (c0 : w.cell? ⟨b, 1, none⟩ = some (.slice (some ⟨g, 0, none⟩) 0 0)) (hg : w.heap[g]? = some (.cells cur 5 fr)) :
    Calls Tryz.prog 75 #[.pointer (some ⟨b, 0, none⟩)] w fun e w' => e = .returned (.string ⟨#[]⟩) ∧ But g w w' := by
  have hUS : ∀ (W : World) (q : Option Addr), (Builtin.unsafeString_ #[130, 3] 9 #[.pointer q, .int .i64 0]).run Tryz.prog W = .ok (.string .empty) W := fun W q => Lib.run_unsafeString_none W _ _ _ q
  have c1 : w.drew.cell? ⟨b, 1, none⟩ = some (.slice (some ⟨g, 0, none⟩) 0 0) := c0
  have hSD : (Builtin.unsafeSliceData_ #[103] 130 #[.slice (some ⟨g, 0, none⟩) 0 0]).run Tryz.prog w.drew = .ok (.pointer (some ⟨w.drew.heap.size, 0, none⟩)) (w.drew.alloc (.view ⟨g, 0, none⟩ 5)) :=
    Lib.run_unsafeSliceData_zero w.drew _ _ 5 Tryz.underlying130 ⟨g, 0, none⟩ 0 (5, cur.size) (by have hg' : w.drew.heap[g]? = some (.cells cur 5 fr) := hg; simp [World.shape?, hg'])
  have c2 : (w.drew.alloc (.view ⟨g, 0, none⟩ 5)).cell? ⟨b, 1, none⟩ = some (.slice (some ⟨g, 0, none⟩) 0 0) := by
    have e : (w.drew.alloc (.view ⟨g, 0, none⟩ 5)).heap[b]? = w.heap[b]? := Lib.alloc_old w.drew _ b hlt
    have h1 : (w.drew.alloc (.view ⟨g, 0, none⟩ 5)).cell? ⟨b, 1, none⟩ = w.cell? ⟨b, 1, none⟩ := by simp only [World.cell?, e]
    rw [h1]; exact c0
  have c3 : (w.alloc (.view ⟨g, 0, none⟩ 5)).drew.cell? ⟨b, 1, none⟩ = some (.slice (some ⟨g, 0, none⟩) 0 0) := c2
  have mixed : Tryz.prog.follows .mixedOrders = true := by kernel_rfl
  go_enter Tryz.func75, Tryz.ntmps75
  go_wp2
  go_region_o
  all_goals (go_wp2; go_ret; exact ⟨rfl, ⟨rfl, rfl, rfl⟩, by show w.heap.size ≤ (w.heap.push _).size; rw [Array.size_push]; omega, fun k hk _ => Lib.alloc_old w.drew _ k hk⟩)

set_option maxHeartbeats 2000000 in
set_option maxRecDepth 100000 in
theorem Tryz.bldS_some (b g cap : Nat) (cur : Array Value) (fr : Nat × Nat) (l : List UInt8) (w : World) (h0 : l ≠ []) (c0 : w.cell? ⟨b, 1, none⟩ = some (.slice (some ⟨g, 0, none⟩) l.length cap)) (hg : w.heap[g]? = some (.cells cur 5 fr)) (hcap : l.length ≤ cap) (hsz : cur.size = cap) (hcm : cap ≤ maxLen)
    (hcell : ∀ (j : Nat) (x : UInt8), l[j]? = some x → cur[j]? = some (.int .u8 x.toNat)) :
    Calls Tryz.prog 75 #[.pointer (some ⟨b, 0, none⟩)] w fun e w' => e = .returned (.string ⟨l.toArray⟩) ∧ But g w w' := by
  have hl0 : l.length ≠ 0 := by simpa using h0
  have c1 : w.drew.cell? ⟨b, 1, none⟩ = some (.slice (some ⟨g, 0, none⟩) l.length cap) := c0
  have hSD : (Builtin.unsafeSliceData_ #[103] 130 #[.slice (some ⟨g, 0, none⟩) l.length cap]).run Tryz.prog w.drew = .ok (.pointer (some ⟨g, 0, none⟩)) w.drew := Lib.run_unsafeSliceData_row _ _ _ _ _ _ (by omega)
  have hUS : (Builtin.unsafeString_ #[130, 3] 9 #[.pointer (some ⟨g, 0, none⟩), .int .i64 l.length]).run Tryz.prog w.drew = .ok (.string ⟨l.toArray⟩) (w.drew.freeze ⟨g, 0, none⟩ l.length) := by
    refine Lib.run_unsafeString_row w.drew 130 3 9 5 Tryz.underlying130 (by kernel_rfl) g cur.size (by have hg' : w.drew.heap[g]? = some (.cells cur 5 fr) := hg; simp [World.shape?, hg']) l h0 (by omega) (by unfold maxLen at hcm; omega) ?_
    intro j x hx
    have hg' : w.drew.heap[g]? = some (.cells cur 5 fr) := hg
    rw [Addr.add_lit, Nat.zero_add, Lib.cell_of_heap hg']
    exact hcell j x hx
  have hfz : But g w (w.drew.freeze ⟨g, 0, none⟩ l.length) := by
    unfold World.freeze
    rw [if_neg hl0]
    refine ⟨⟨rfl, rfl, rfl⟩, by show w.heap.size ≤ (w.heap.modify g _).size; simp, fun k hk hne => ?_⟩
    show (w.heap.modify g _)[k]? = _
    rw [Array.getElem?_modify, if_neg (fun e => hne e.symm)]
  clear hcell hsz hcap hcm h0 hl0 hg
  have mixed : Tryz.prog.follows .mixedOrders = true := by kernel_rfl
  go_enter Tryz.func75, Tryz.ntmps75
  go_wp2
  go_region_o
  all_goals (go_wp2; go_ret; exact ⟨rfl, hfz⟩)
end Go.Proofs

/- strings.Builder: the text, and the writing of texts, as contracts. -/
namespace Go.AW
open Go Go.Proofs Go.Lib

theorem repL_byt {w : World} {μ : Mu} : ∀ {l : List UInt8} {vs : List Value}, RepL w μ (l.map fun b => HV.int .u8 (b.toNat : Int)) vs → vs = l.map fun b => Value.int .u8 (b.toNat : Int)
  | [], vs, h => h
  | x :: l, vs, h => by
    obtain ⟨v, vs', rfl, hx, hr⟩ := h
    obtain ⟨rfl, _⟩ := hx
    rw [repL_byt hr]
    rfl

theorem c_String {H : Heap} {K : HV → Heap → Prop} {id ver aid aver : Nat} {u : Bool} {l : List UInt8} (hg : hget H id = some (ver, bldO id ver aid aver u l)) (ha : hget H aid = some (aver, bytO l)) (hK : ∀ av, K (.str l) ((aid, av, .arr 1 5 []) :: H)) :
    ACall Tryz.prog 75 [.ptr id ver 0] H K := by
  refine ⟨enters' Tryz.func75 rfl rfl, fun μ w vs hs hr => ?_⟩
  obtain ⟨x, xs, rfl, hr, hn⟩ := hr
  cases hn
  obtain ⟨lo, hl, hor⟩ := hs.has _ _ _ hg
  obtain ⟨la, hla, hora⟩ := hs.has _ _ _ ha
  have hle : ∀ v ob j (y : Nat × AObj), hget ((aid, v, ob) :: H) j = some y ↔ hget (hset H aid v ob) j = some y := fun v ob j y => by simp only [hget, hget_hset]
  have fin : ∀ (g : Nat) (w' : World), (∀ b, μ.loc aid = some (aver, some b) → b = g) → (la = none → w.heap.size ≤ g) → l.length ≤ maxLen → But g w w' → ∃ v r H' μ', Ending.returned (.string ⟨l.toArray⟩) = .returned v ∧ K r H' ∧ SR w' μ' H' ∧ Rep w' μ' r v ∧ Evo w μ w' μ' := by
    intro g w' hb hgn hlen ⟨h1, h2, h3⟩
    have hold : ∀ b, b < w.heap.size → (∀ ver, μ.loc aid ≠ some (ver, some b)) → w'.heap[b]? = w.heap[b]? := fun b hb1 hb2 => by
      by_cases e : b = g
      · cases la with
        | none => exact absurd (hgn rfl) (by omega)
        | some b0 =>
          have := hb b0 hla
          subst this
          subst e
          exact absurd hla (hb2 _)
      · exact h3 b hb1 e
    have hsr := hs.repl aid none (.arr 1 5 []) h1 h2 hold (fun b hb => by cases hb) rfl
    have hE := Evo.repl hs aid none h1 h2 hold (fun b hb => by cases hb)
    exact ⟨_, .str l, _, μ.set aid none, rfl, hK μ.nx, hsr.le (hle _ _), ⟨rfl, hlen⟩, hE⟩
  rcases hr with ⟨b, hl', rfl⟩ | ⟨hd, _⟩
  · rw [hl] at hl'
    cases hl'
    obtain ⟨h1, cur, vs', rest, hrow, hcl, hrl⟩ := hor
    obtain ⟨v0, vs1, rfl, r0, v1, vs2, rfl, r1, hn⟩ := hrl
    cases hn
    have hrow2 := hrow
    obtain ⟨lo', hi', hbk, hfr⟩ := hrow2
    have hc1 : cur[1]? = some v1 := by rw [← Array.getElem?_toList, hcl]; rfl
    have hcell : w.cell? ⟨b, 1, none⟩ = some v1 := by rw [Lib.cell_of_heap hbk]; exact hc1
    have hlt : b < w.heap.size := by
      rcases Nat.lt_or_ge b w.heap.size with h' | h'
      · exact h'
      · simp [Array.getElem?_eq_none h'] at hbk
    rcases r1 with ⟨la', hla', ⟨rfl, rfl, h0, _⟩ | ⟨g, cap, curg, e, rfl, rfl, hnc, hcm, hrowg, hszg⟩⟩ | ⟨hd, _⟩
    · have hln := List.eq_nil_of_length_eq_zero h0
      subst hln
      refine (Tryz.bldS_nil b w.heap.size w hcell).mono ?_
      rintro e w' ⟨rfl, hb⟩
      exact fin _ w' (fun b hb => by rw [hla'] at hb; cases hb) (fun _ => Nat.le_refl _) (Nat.zero_le _) hb
    · rw [hla] at hla'
      cases hla'
      obtain ⟨_, cur2, vs2, rest2, hrow2, hcl2, hrl2⟩ := hora
      obtain ⟨lo2, hi2, hbg, hfr2⟩ := hrow2
      obtain ⟨lo3, hi3, hbg3, hfr3⟩ := hrowg
      rw [hbg] at hbg3
      cases hbg3
      have hvs := repL_byt hrl2
      subst hvs
      have hb1 : ∀ b, μ.loc aid = some (aver, some b) → b = g := fun b hb => by rw [hla] at hb; cases hb; rfl
      by_cases h0 : l = []
      · subst h0
        by_cases hc0 : cap = 0
        · subst hc0
          refine (Tryz.bldS_noroom b g curg _ w hlt hcell hbg).mono ?_
          rintro e w' ⟨rfl, hb⟩
          exact fin g w' hb1 (fun e => by cases e) (Nat.zero_le _) hb
        · refine (Tryz.bldS_room b g cap w hc0 hcell).mono ?_
          rintro e w' ⟨rfl, hb⟩
          exact fin g w' hb1 (fun e => by cases e) (Nat.zero_le _) hb
      · refine (Tryz.bldS_some b g cap curg _ l w h0 hcell hbg hnc (by omega) hcm fun j x hj => ?_).mono ?_
        · rw [← Array.getElem?_toList, hcl2, List.getElem?_append_left (by
            have := (List.getElem?_eq_some_iff.1 hj).1
            simpa using this), List.getElem?_map, hj]
          rfl
        · rintro e w' ⟨rfl, hb⟩
          exact fin g w' hb1 (fun e => by cases e) (by omega) hb
    · exact absurd hla (hd.2 _)
  · exact absurd hl (hd.2 _)
end Go.AW

/- strings.Builder: WriteString. -/
namespace Go.AW
open Go Go.Proofs
set_option linter.unusedVariables false


set_option maxRecDepth 100000 in
theorem c_WriteString {H : Heap} {K : HV → Heap → Prop} {id ver aid aver : Nat} {u : Bool} {l m : List UInt8} (hid : aid ≠ id) (hg : hget H id = some (ver, bldO id ver aid aver u l)) (ha : hget H aid = some (aver, bytO l)) (hfit : fits 1 (l.length + m.length))
    (hK : ∀ av, K (.tup [.int .i64 (m.length : Int), .v .nilIface]) ((id, ver, bldO id ver aid av true (l ++ m)) :: (aid, av, bytO (l ++ m)) :: H)) : ACall Tryz.prog 73 [.ptr id ver 0, .str m] H K := by
  refine ACall.of_body Tryz.func73 rfl rfl (Nat.le_of_ble_eq_true rfl) ?_
  unfold Tryz.f73
  dsimp only [enumS, Nat.reduceAdd]
  refine AW.rgs rfl fun K1 hK1 => ?_
  refine mv rfl rfl ?_
  refine mv rfl rfl ?_
  refine b_nil (hK1 _ (AW.to (to_le (s' := ⟨[(0, .ptr id ver 0), (1, .str m)], H⟩) (le_slH ⟨rfl, rfl, trivial⟩) ?_)))
  clear hK1 K1
  refine AW.rgs rfl fun K1 hK1 => ?_
  refine mv rfl rfl ?_
  refine b_op rfl (o_callA rfl rfl rfl rfl (c_copyCheck hg ?_))
  refine b_nil (hK1 _ (AW.to (to_le (s' := ⟨[(0, .ptr id ver 0), (1, .str m)], (id, ver, .arr 2 116 [.ptr id ver 0, .ar aid aver 1 0 l.length]) :: H⟩) (le_slH ⟨rfl, rfl, trivial⟩) ?_)))
  clear hK1 K1
  have ha1 : hget ((id, ver, AObj.arr 2 116 [.ptr id ver 0, .ar aid aver 1 0 l.length]) :: H) aid = some (aver, .arr eByte.k 5 (eByte.E l)) := hget_1 hid ha
  refine AW.rgs rfl fun K1 hK1 => ?_
  refine mv rfl rfl ?_
  refine mv rfl rfl ?_
  refine bv rfl (v_nilP rfl hget_0) ?_
  refine bv rfl (v_fieldAddrP fo116_1 rfl hget_0) ?_
  refine bv rfl (v_loadP ty103 rfl hget_0 (l_lit rfl rfl)) ?_
  refine mv rfl rfl ?_
  refine b_op rfl (o_appS (l := l) (m := m) rfl rfl ty103 ty9 ty5 rfl ha1 rfl rfl rfl hfit (fun av => ?_))
  refine bv rfl (v_nilP rfl (hget_1 (fun e => hid e.symm) hget_0)) ?_
  refine bv rfl (v_fieldAddrP fo116_1 rfl (hget_1 (fun e => hid e.symm) hget_0)) ?_
  refine b_op rfl (o_store (cs := [.ar aid av 1 0 (l ++ m).length]) (zs := [.ptr id ver 0, .ar aid av 1 0 (l ++ m).length]) rfl rfl rfl ty103 rfl (hget_1 (fun e => hid e.symm) hget_0) rfl rfl rfl ?_)
  refine b_nil (hK1 _ (AW.to (to_le (s' := ⟨[(1, .str m)], (id, ver, .arr 2 116 [.ptr id ver 0, .ar aid av 1 0 (l ++ m).length]) :: (aid, av, .arr 1 5 (eByte.E (l ++ m))) :: H⟩) ⟨leS_get ⟨rfl, trivial⟩, fun j x hx => ?_⟩ ?_)))
  · simp only [hget] at hx ⊢
    by_cases h1 : j = id
    · subst h1; simpa using hx
    · rw [if_neg h1] at hx ⊢
      by_cases h2 : j = aid
      · rw [if_pos h2] at hx ⊢; exact hx
      · rw [if_neg h2] at hx
        rw [if_neg h2, if_neg h1]
        exact hx
  clear hK1 K1
  refine AW.rgs rfl fun K1 hK1 => ?_
  refine mv rfl rfl ?_
  refine bv rfl (v_lenS rfl rfl ty9 rfl) ?_
  refine mv rfl rfl ?_
  refine mv rfl rfl ?_
  refine b_nil (hK1 _ (AW.to (to_le (s' := ⟨[(4, .int .i64 (m.length : Int)), (5, .v .nilIface)], (id, ver, .arr 2 116 [.ptr id ver 0, .ar aid av 1 0 (l ++ m).length]) :: (aid, av, .arr 1 5 (eByte.E (l ++ m))) :: H⟩) (le_slH ⟨rfl, rfl, trivial⟩) ?_)))
  clear hK1 K1
  refine AW.ret ⟨.inr rfl, ?_⟩
  simp only [go_sem]
  exact ⟨_, _, Conv.refl _ _, hK av⟩
end Go.AW

namespace Go.Proofs
open Go
def Tryz.itoa_ren : Go.Shelf.Ren := ⟨fun | 171 => 74 | 243 => 85 | 246 => 105 | 283 => 116 | 284 => 117 | 285 => 118 | 286 => 119 | 129 => 101 | 317 => 130 | 318 => 131 | 319 => 132 | 320 => 133 | 337 => 137 | 338 => 138 | n => n, fun | 3 => 3 | 9 => 9 | 2 => 2 | 4 => 4 | 171 => 159 | 0 => 0 | 53 => 77 | 37 => 103 | 5 => 5 | 173 => 161 | 212 => 174 | 51 => 79 | 20 => 20 | 213 => 175 | 46 => 80 | 232 => 179 | 233 => 180 | n => n, fun | 17 => 1 | 18 => 2 | 19 => 3 | n => n⟩
theorem Tryz.itoa : Go.Proofs.Lays.n171 Tryz.prog Tryz.itoa_ren where
  mixed := by kernel_rfl
  f129 := Tryz.func101.trans (congrArg some (by kernel_rfl))
  f171 := Tryz.func74.trans (congrArg some (by kernel_rfl))
  f243 := Tryz.func85.trans (congrArg some (by kernel_rfl))
  f246 := Tryz.func105.trans (congrArg some (by kernel_rfl))
  f283 := Tryz.func116.trans (congrArg some (by kernel_rfl))
  f284 := Tryz.func117.trans (congrArg some (by kernel_rfl))
  f285 := Tryz.func118.trans (congrArg some (by kernel_rfl))
  f286 := Tryz.func119.trans (congrArg some (by kernel_rfl))
  f317 := Tryz.func130.trans (congrArg some (by kernel_rfl))
  f318 := Tryz.func131.trans (congrArg some (by kernel_rfl))
  f319 := Tryz.func132.trans (congrArg some (by kernel_rfl))
  f320 := Tryz.func133.trans (congrArg some (by kernel_rfl))
  f337 := Tryz.func137.trans (congrArg some (by kernel_rfl))
  f338 := Tryz.func138.trans (congrArg some (by kernel_rfl))
  t0 := Tryz.underlying0
  a0 := Tryz.isAgg0
  z0 := Tryz.sizeOf0
  v0 := Tryz.zeroValue0
  t2 := Tryz.underlying2
  a2 := Tryz.isAgg2
  z2 := Tryz.sizeOf2
  v2 := Tryz.zeroValue2
  t3 := Tryz.underlying3
  a3 := Tryz.isAgg3
  z3 := Tryz.sizeOf3
  v3 := Tryz.zeroValue3
  t4 := Tryz.underlying4
  a4 := Tryz.isAgg4
  z4 := Tryz.sizeOf4
  v4 := Tryz.zeroValue4
  t5 := Tryz.underlying5
  a5 := Tryz.isAgg5
  z5 := Tryz.sizeOf5
  v5 := Tryz.zeroValue5
  t9 := Tryz.underlying9
  a9 := Tryz.isAgg9
  z9 := Tryz.sizeOf9
  v9 := Tryz.zeroValue9
  t20 := Tryz.underlying20
  a20 := Tryz.isAgg20
  z20 := Tryz.sizeOf20
  v20 := Tryz.zeroValue20
  t37 := Tryz.underlying103
  a37 := Tryz.isAgg103
  z37 := Tryz.sizeOf103
  v37 := Tryz.zeroValue103
  t46 := Tryz.underlying80
  a46 := Tryz.isAgg80
  z46 := Tryz.sizeOf80
  v46 := Tryz.zeroValue80
  t51 := Tryz.underlying79
  a51 := Tryz.isAgg79
  z51 := Tryz.sizeOf79
  v51 := Tryz.zeroValue79
  t53 := Tryz.underlying77
  a53 := Tryz.isAgg77
  z53 := Tryz.sizeOf77
  v53 := Tryz.zeroValue77
  t171 := Tryz.underlying159
  a171 := Tryz.isAgg159
  z171 := Tryz.sizeOf159
  v171 := Tryz.zeroValue159
  t173 := Tryz.underlying161
  a173 := Tryz.isAgg161
  z173 := Tryz.sizeOf161
  v173 := Tryz.zeroValue161
  t212 := Tryz.underlying174
  a212 := Tryz.isAgg174
  z212 := Tryz.sizeOf174
  v212 := Tryz.zeroValue174
  t213 := Tryz.underlying175
  a213 := Tryz.isAgg175
  z213 := Tryz.sizeOf175
  t232 := Tryz.underlying179
  a232 := Tryz.isAgg179
  z232 := Tryz.sizeOf179
  v232 := Tryz.zeroValue179
  t233 := Tryz.underlying180
  a233 := Tryz.isAgg180
  z233 := Tryz.sizeOf180
  v233 := Tryz.zeroValue180
  g17 := by kernel_rfl
  g18 := by kernel_rfl
  g19 := by kernel_rfl
end Go.Proofs

/- strconv.Itoa of numbers of one or two digits. -/
namespace Go.AW
open Go
def dec2 (n : Nat) : List UInt8 := if n < 10 then [UInt8.ofNat (48 + n)] else [UInt8.ofNat (48 + n / 10), UInt8.ofNat (48 + n % 10)]
def m_strconv_Itoa (p0 : Int) : Option (List UInt8) := if 0 ≤ p0 ∧ p0 < 100 then some (dec2 p0.toNat) else none
end Go.AW

/- strconv.Itoa of numbers of one or two digits, by the kit's contract. -/
namespace Go.AW
open Go Go.Proofs
theorem dec2_eq {n : Nat} (h : n < 100) : Lib.decDigits n = dec2 n := by
  unfold dec2
  rw [Lib.decDigits]
  by_cases h1 : n < 10
  · rw [dif_pos h1, if_pos h1]
  · rw [dif_neg h1, if_neg h1, Lib.decDigits, dif_pos (by omega)]
    rfl
theorem w_strconv_Itoa {p0 : Int} {r : List UInt8} (h : m_strconv_Itoa p0 = some r) : Pure Tryz.prog 74 [HV.int .i64 p0] (· = HV.str r) := by
  unfold m_strconv_Itoa at h
  split at h
  · rename_i hc
    cases h
    obtain ⟨m, rfl⟩ := Int.eq_ofNat_of_zero_le hc.1
    refine ⟨enters' Tryz.func74 rfl rfl, fun μ w vs hs hr => ?_⟩
    obtain ⟨x, xs, rfl, ⟨rfl, _⟩, hn⟩ := hr
    cases hn
    refine (Any.strconv_Itoa_small Tryz.itoa m (by omega) w).mono ?_
    rintro e w' ⟨rfl, rfl⟩
    refine ⟨_, HV.str (dec2 m), [], μ, rfl, ⟨rfl, trivial, rfl⟩, hs, ⟨?_, ?_⟩, Evo.refl _ _⟩
    · rw [dec2_eq (by omega)]
    · unfold dec2; split <;> simp [maxLen]
  · cases h
end Go.AW

/- slices.Clone of numbers (laid as the kit's contract asks). -/
namespace Go.Proofs
open Go
def Tryz.cloneI_ren : Go.Shelf.Ren := ⟨fun | 41 => 25 | n => n, fun | 22 => 27 | 23 => 3 | 4 => 4 | n => n, fun | n => n⟩
theorem Tryz.cloneI : Go.Proofs.SlLaysE0.n41 Tryz.prog Tryz.cloneI_ren where
  mixed := by kernel_rfl
  f41 := ⟨"slices.Clone[[]int,int]", by decide, Tryz.func25.trans (congrArg some (by kernel_rfl))⟩
  t4 := Tryz.underlying4
  a4 := Tryz.isAgg4
  z4 := Tryz.sizeOf4
  v4 := Tryz.zeroValue4
  t22 := Tryz.underlying27
  a22 := Tryz.isAgg27
  z22 := Tryz.sizeOf27
  v22 := Tryz.zeroValue27
end Go.Proofs

namespace Go.AW
open Go Go.Proofs Go.Sort Go.Lib

theorem clone_step {l : List Int} (h : l.length ≤ 1099511627776) {H : Heap} {K : HV → Heap → Prop} (id : Nat) (hnil : l = [] → K (.v (.slice none 0 0)) H) (hK : ∀ ver, K (.ar id ver 1 0 l.length) (hset H id ver (.arr 1 3 (l.map (HV.int .i64))))) : ACall Tryz.prog 25 [.sl 1 l.length (l.map (HV.int .i64))] H K := by
  refine ⟨enters' Tryz.func25 rfl rfl, fun μ w vs hs hr => ?_⟩
  obtain ⟨x, xs, rfl, hr, hn⟩ := hr
  cases hn
  obtain ⟨_, _, hm, ⟨h0, rfl⟩ | ⟨b, off, cap, vs, rfl, hcap, hno, hsg, hrl⟩⟩ := hr
  · refine (AnyE.slices_Clone_nil Tryz.cloneI _ _ w).mono ?_
    rintro e w' ⟨rfl, rfl⟩
    exact ⟨_, _, _, μ, rfl, hnil (List.eq_nil_of_length_eq_zero h0), hs, rfl, Evo.refl _ _⟩
  · obtain ⟨hvs, hreps⟩ := repL_ints hrl
    subst hvs
    obtain ⟨_, i0, hi0, hz1, hz2, hz0⟩ := ty_spec ty3
    refine (AnyE.slices_Clone Tryz.cloneI i0 _ 1 8 hi0 hz0 hz1 hz2 rfl (by decide) (fun w => Tryz.sizeOf3 w) b off l.length cap (l.map (Value.int .i64)) w (by simp) hm (by omega) (fun j u hj => hsg.cell hj) (fun u hu => by
      obtain ⟨x, _, rfl⟩ := List.mem_map.1 hu; rfl)).mono ?_
    rintro e w' ⟨v', rfl, ⟨_, ⟨rfl, _⟩ | ⟨g, cap', cur, rfl, hg1, hg2, hc1, hc2, hc3, hc4⟩⟩, hnn, hbel⟩
    · exact absurd rfl hnn
    · have hsame : Same w w' := ⟨hbel.os, hbel.tape, hbel.output⟩
      have hold : ∀ k, k < w.heap.size → w'.heap[k]? = w.heap[k]? := hbel.block
      have hE := Evo.repl (w' := w') hs id (some g) hsame hbel.size (fun b hb _ => hold b hb) (fun b hb => by cases hb; exact .inl hg1)
      have hrowg : Row w' g cur 3 := ⟨0, 0, hg2, .inl (Nat.le_refl _)⟩
      have hsr := hs.repl (w' := w') id (some g) (.arr 1 3 (l.map (HV.int .i64))) hsame hbel.size (fun b hb _ => hold b hb) (fun b hb => by cases hb; exact .inl hg1)
        ⟨fun c hc => by obtain ⟨x, _, rfl⟩ := List.mem_map.1 hc; rfl, cur, l.map (Value.int .i64), cur.toList.drop (l.length * 1), hrowg, by rw [← hc4, List.take_append_drop], repL_map.2 fun x hx => Rep.evo hE hs.ok _ _ (hreps x hx)⟩
      refine ⟨_, .ar id μ.nx 1 0 l.length, _, μ.set id (some g), rfl, hK μ.nx, hsr, .inl ⟨some g, by simp [Mu.set], .inr ⟨g, cap', cur, 3, rfl, rfl, hc1, hc2, hrowg, by omega⟩⟩, hE⟩

theorem c_cloneO {l r : List Int} {H : Heap} {K : HV → Heap → Prop} (id : Nat) (h : m_slices_Clone_Lint_int l = some r) (hK : ∀ ver, K (.ar id ver 1 0 r.length) (hset H id ver (.arr 1 3 (r.map (HV.int .i64))))) : ACall Tryz.prog 25 [slE eInt l] H K := by
  unfold m_slices_Clone_Lint_int at h
  split at h
  · rename_i hl
    cases h
    refine ⟨enters' Tryz.func25 rfl rfl, fun μ w vs hs hr => ?_⟩
    obtain ⟨x, xs, rfl, hr, hn⟩ := hr
    cases hn
    have hr2 := hr
    obtain ⟨_, _, hm, ⟨h0, rfl⟩ | ⟨b, off, cap, vs, rfl, hcap, hno, hsg, hrl⟩⟩ := hr2
    · refine (AnyE.slices_Clone_nil Tryz.cloneI _ _ w).mono ?_
      rintro e w' ⟨rfl, rfl⟩
      have hl0 : l = [] := List.eq_nil_of_length_eq_zero h0
      subst hl0
      exact ⟨_, .ar id μ.nx 1 0 0, _, μ.set id none, rfl, hK μ.nx, hs.repl id none (.arr 1 3 []) (Same.refl _) (Nat.le_refl _) (fun _ _ _ => rfl) (fun b hb => by cases hb) rfl, .inl ⟨none, by simp [Mu.set], .inl ⟨rfl, rfl, rfl, rfl⟩⟩, Evo.repl hs id none (Same.refl _) (Nat.le_refl _) (fun _ _ _ => rfl) (fun b hb => by cases hb)⟩
    · obtain ⟨hvs, hreps⟩ := repL_ints hrl
      subst hvs
      obtain ⟨_, i0, hi0, hz1, hz2, hz0⟩ := ty_spec ty3
      refine (AnyE.slices_Clone Tryz.cloneI i0 _ 1 8 hi0 hz0 hz1 hz2 rfl (by decide) (fun w => Tryz.sizeOf3 w) b off l.length cap (l.map (Value.int .i64)) w (by simp) hm (by omega) (fun j u hj => hsg.cell hj) (fun u hu => by
        obtain ⟨x, _, rfl⟩ := List.mem_map.1 hu; rfl)).mono ?_
      rintro e w' ⟨v', rfl, ⟨_, ⟨rfl, _⟩ | ⟨g, cap', cur, rfl, hg1, hg2, hc1, hc2, hc3, hc4⟩⟩, hnn, hbel⟩
      · exact absurd rfl hnn
      · have hsame : Same w w' := ⟨hbel.os, hbel.tape, hbel.output⟩
        have hold : ∀ k, k < w.heap.size → w'.heap[k]? = w.heap[k]? := hbel.block
        have hE := Evo.repl (w' := w') hs id (some g) hsame hbel.size (fun b hb _ => hold b hb) (fun b hb => by cases hb; exact .inl hg1)
        have hrowg : Row w' g cur 3 := ⟨0, 0, hg2, .inl (Nat.le_refl _)⟩
        have hsr := hs.repl (w' := w') id (some g) (.arr 1 3 (l.map (HV.int .i64))) hsame hbel.size (fun b hb _ => hold b hb) (fun b hb => by cases hb; exact .inl hg1)
          ⟨fun c hc => by obtain ⟨x, _, rfl⟩ := List.mem_map.1 hc; rfl, cur, l.map (Value.int .i64), cur.toList.drop (l.length * 1), hrowg, by rw [← hc4, List.take_append_drop], repL_map.2 fun x hx => Rep.evo hE hs.ok _ _ (hreps x hx)⟩
        refine ⟨_, .ar id μ.nx 1 0 l.length, _, μ.set id (some g), rfl, hK μ.nx, hsr, .inl ⟨some g, by simp [Mu.set], .inr ⟨g, cap', cur, 3, rfl, rfl, hc1, hc2, hrowg, by omega⟩⟩, hE⟩
  · cases h

theorem w_slices_Clone_Lint_int {l r : List Int} (h : m_slices_Clone_Lint_int l = some r) : Pure Tryz.prog 25 [slE eInt l] (· = slE eInt r) := by
  unfold m_slices_Clone_Lint_int at h
  split at h
  · rename_i hl
    cases h
    refine ACall.conv' (K := fun r H' => (l = [] ∧ r = .v (.slice none 0 0) ∧ H' = []) ∨ ∃ ver, r = .ar 0 ver 1 0 l.length ∧ H' = hset [] 0 ver (.arr 1 3 (l.map (HV.int .i64)))) (clone_step hl 0 (fun e => .inl ⟨e, rfl, rfl⟩) fun ver => .inr ⟨ver, rfl, rfl⟩) ?_
    rintro r H' (⟨rfl, rfl, rfl⟩ | ⟨ver, rfl, rfl⟩)
    · have hcl : clean (slE eInt []) := clean_slE (c := eInt) fun _ _ => ⟨trivial, trivial⟩
      exact ⟨_, _, Conv.le (Le.nil 1), rfl, hcl, rfl⟩
    · refine ⟨_, [], Conv.all 2, ?_⟩
      have hf := frz_slE eInt (D := [(0, ver, .arr 1 3 (l.map (HV.int .i64)))]) (l := l) hget_0 (fun _ _ => rfl)
      have hcl : clean (slE eInt l) := clean_slE (c := eInt) fun _ _ => ⟨trivial, trivial⟩
      have h2 := hcl
      rw [← hf] at h2
      exact ⟨hf, h2, rfl⟩
  · cases h
end Go.AW

/- Models, printed by lk.py. -/
namespace Go.AW
open Go
set_option linter.unusedVariables false
abbrev TNegMag := Bool × (List UInt8)
abbrev cNegMag (x : TNegMag) : List HV := [HV.bool x.1, HV.str x.2]
abbrev eNegMag : EncL TNegMag := encF 2 cNegMag (fun _ => rfl)
/-- groove/integer.trim -/
noncomputable def m_integer_trim (p0 : List (Int)) : Option ((List (Int))) :=
  (loopW (S := (List Int)) (X := (List Int)) (fun a1 =>
      jp (fun (a5 : Bool) =>
        if a5 = true then
          if 0 ≤ (0 : Int) ∧ (0 : Int) ≤ IntKind.wrap .i64 (((a1).length : Int) - 1) ∧ IntKind.wrap .i64 (((a1).length : Int) - 1) ≤ (a1.length : Int) then
            some (Stp.next ((a1.take (IntKind.wrap .i64 (((a1).length : Int) - 1)).toNat).drop (0 : Int).toNat))
          else none
        else
          some (Stp.exit a1))
        fun k7 =>
        if 0 < ((a1).length : Int) then
          (idx a1 (IntKind.wrap .i64 (((a1).length : Int) - 1))).bind fun x9 =>
          k7 (decide (x9 = 0))
        else
          k7 false) p0).bind fun a12 =>
  some a12

/-- groove/integer.number -/
noncomputable def m_integer_number (p0 : Bool) (p1 : List (Int)) : Option (TNegMag) :=
  (m_integer_trim p1).bind fun x2 =>
  if ((x2).length : Int) = 0 then
    some (false, ([] : List UInt8))
  else
    if 0 ≤ (0 : Int) ∧ (0 : Int) ≤ IntKind.wrap .i64 (4 * ((x2).length : Int)) ∧ (IntKind.wrap .i64 (4 * ((x2).length : Int)) : Int) * 1 ≤ 281474976710656 then
      (loopW (S := Int × (List Int)) (X := (List Int)) (fun a6 =>
          if 0 ≤ a6.1 then
            (loopW (S := Int × (List Int)) (X := (List Int)) (fun a10 =>
                if 0 ≤ a10.1 then
                  jp (fun (a14 : (List Int)) =>
                    some (Stp.next (IntKind.wrap .i64 (a10.1 - 1), a14)))
                    fun k16 =>
                    (idx x2 a6.1).bind fun x17 =>
                    if 0 ≤ (IntKind.wrap .i64 (8 * a10.1)) then
                      jp (fun (a20 : Bool) =>
                        if a20 = true then
                          if fits 1 ((a10.2 : List Int).length + ([IntKind.wrap .u8 (Int.fdiv x17 (2 ^ (min ((IntKind.wrap .i64 (8 * a10.1))).toNat (IntKind.bits .u32))))]).length) then
                            k16 (a10.2 ++ [IntKind.wrap .u8 (Int.fdiv x17 (2 ^ (min ((IntKind.wrap .i64 (8 * a10.1))).toNat (IntKind.bits .u32))))])
                          else none
                        else
                          k16 a10.2)
                        fun k22 =>
                        if (IntKind.wrap .u8 (Int.fdiv x17 (2 ^ (min ((IntKind.wrap .i64 (8 * a10.1))).toNat (IntKind.bits .u32))))) ≠ 0 then
                          k22 true
                        else
                          k22 (decide (0 < (((a10.2).length : Nat) : Int)))
                    else none
                else
                  some (Stp.exit a10.2)) (3, a6.2)).bind fun a26 =>
            some (Stp.next (IntKind.wrap .i64 (a6.1 - 1), a26))
          else
            some (Stp.exit a6.2)) (IntKind.wrap .i64 (((x2).length : Int) - 1), List.replicate (0 : Int).toNat (0 : Int))).bind fun a28 =>
      some (p0, a28.map fun n => UInt8.ofNat n.toNat)
    else none

/-- groove/integer.Of -/
noncomputable def m_integer_Of (p0 : Int) : Option (TNegMag) :=
  jp (fun (a2 : Int) =>
    (m_integer_number (decide (p0 < 0)) [IntKind.wrap .u32 a2, IntKind.wrap .u32 (Int.fdiv a2 (2 ^ (min (32 : Int).toNat (IntKind.bits .u64))))]).bind fun x5 =>
    some x5)
    fun k4 =>
    if p0 < 0 then
      k4 (IntKind.wrap .u64 (0 - (IntKind.wrap .u64 p0)))
    else
      k4 (IntKind.wrap .u64 p0)

/-- groove/integer.digits -/
noncomputable def m_integer_digits (p0 : TNegMag) : Option ((List (Int))) :=
  if 0 ≤ (IntKind.wrap .i64 (Int.tdiv (IntKind.wrap .i64 (((p0.2).length : Int) + 3)) 4) : Int) ∧ (IntKind.wrap .i64 (Int.tdiv (IntKind.wrap .i64 (((p0.2).length : Int) + 3)) 4) : Int) ≤ IntKind.wrap .i64 (Int.tdiv (IntKind.wrap .i64 (((p0.2).length : Int) + 3)) 4) ∧ (IntKind.wrap .i64 (Int.tdiv (IntKind.wrap .i64 (((p0.2).length : Int) + 3)) 4) : Int) * 4 ≤ 281474976710656 then
    (loopW (S := Int × (List Int)) (X := (List Int)) (fun a3 =>
        if a3.1 < ((p0.2).length : Int) then
          (idx p0.2 (IntKind.wrap .i64 ((IntKind.wrap .i64 (((p0.2).length : Int) - 1)) - a3.1))).bind fun x7 =>
          (idx a3.2 (IntKind.wrap .i64 (Int.tdiv a3.1 4))).bind fun x9 =>
          (idx a3.2 (IntKind.wrap .i64 (Int.tdiv a3.1 4))).bind fun x11 =>
          if 0 ≤ (IntKind.wrap .i64 (8 * (Int.tmod a3.1 4))) then
            (idx a3.2 (IntKind.wrap .i64 (Int.tdiv a3.1 4))).bind fun x14 =>
            some (Stp.next (IntKind.wrap .i64 (a3.1 + 1), (a3.2).set (IntKind.wrap .i64 (Int.tdiv a3.1 4)).toNat (IntKind.wrap .u32 (BitVec.ofInt (IntKind.bits .u32) x11 ||| BitVec.ofInt (IntKind.bits .u32) (IntKind.wrap .u32 ((IntKind.wrap .u32 (x7.toNat : Int)) * 2 ^ (min ((IntKind.wrap .i64 (8 * (Int.tmod a3.1 4)))).toNat (IntKind.bits .u32))))).toNat)))
          else none
        else
          some (Stp.exit a3.2)) (0, List.replicate (IntKind.wrap .i64 (Int.tdiv (IntKind.wrap .i64 (((p0.2).length : Int) + 3)) 4)).toNat (0 : Int))).bind fun a16 =>
    (m_integer_trim a16).bind fun x18 =>
    some x18
  else none

/-- groove/integer.add -/
noncomputable def m_integer_add (p0 : List (Int)) (p1 : List (Int)) : Option ((List (Int))) :=
  jp (fun (a1 : (List Int) × (List Int)) =>
    if 0 ≤ (IntKind.wrap .i64 (((a1.1).length : Int) + 1) : Int) ∧ (IntKind.wrap .i64 (((a1.1).length : Int) + 1) : Int) ≤ IntKind.wrap .i64 (((a1.1).length : Int) + 1) ∧ (IntKind.wrap .i64 (((a1.1).length : Int) + 1) : Int) * 4 ≤ 281474976710656 then
      (loopW (S := Int × Int × (List Int)) (X := (List Int) × Int) (fun a6 =>
          if a6.2.1 < ((a1.1).length : Int) then
            (idx a1.1 a6.2.1).bind fun x10 =>
            jp (fun (a12 : Int) =>
              (idx a6.2.2 a6.2.1).bind fun x15 =>
              some (Stp.next (Int.fdiv a12 (2 ^ (min (32 : Int).toNat (IntKind.bits .u64))), IntKind.wrap .i64 (a6.2.1 + 1), (a6.2.2).set (a6.2.1).toNat (IntKind.wrap .u32 a12))))
              fun k14 =>
              if a6.2.1 < ((a1.2).length : Int) then
                (idx a1.2 a6.2.1).bind fun x17 =>
                k14 (IntKind.wrap .u64 ((IntKind.wrap .u64 ((IntKind.wrap .u64 x10) + a6.1)) + (IntKind.wrap .u64 x17)))
              else
                k14 (IntKind.wrap .u64 ((IntKind.wrap .u64 x10) + a6.1))
          else
            some (Stp.exit (a6.2.2, a6.1))) (0, 0, List.replicate (IntKind.wrap .i64 (((a1.1).length : Int) + 1)).toNat (0 : Int))).bind fun a19 =>
      (idx a19.1 ((a1.1).length : Int)).bind fun x21 =>
      (m_integer_trim ((a19.1).set (((a1.1).length : Int)).toNat (IntKind.wrap .u32 a19.2))).bind fun x23 =>
      some x23
    else none)
    fun k3 =>
    if ((p0).length : Int) < ((p1).length : Int) then
      k3 (p1, p0)
    else
      k3 (p0, p1)

/-- groove/integer.compare -/
noncomputable def m_integer_compare (p0 : List (Int)) (p1 : List (Int)) : Option (Int) :=
  if ((p0).length : Int) ≠ ((p1).length : Int) then
    if ((p0).length : Int) < ((p1).length : Int) then
      some (-1)
    else
      some 1
  else
    lpO (loopW (S := Int) (X := Ou (Unit) (Int)) (fun a1 =>
        if 0 ≤ a1 then
          (idx p0 a1).bind fun x5 =>
          (idx p1 a1).bind fun x7 =>
          if x5 ≠ x7 then
            (idx p0 a1).bind fun x9 =>
            (idx p1 a1).bind fun x11 =>
            if x9 < x11 then
              some (Stp.exit (Ou.ret (-1)))
            else
              some (Stp.exit (Ou.ret 1))
          else
            some (Stp.next (IntKind.wrap .i64 (a1 - 1)))
        else
          some (Stp.exit (Ou.go ()))) (IntKind.wrap .i64 (((p0).length : Int) - 1))) (fun a13 =>
        some 0) some

/-- groove/integer.subtract -/
noncomputable def m_integer_subtract (p0 : List (Int)) (p1 : List (Int)) : Option ((List (Int))) :=
  if 0 ≤ (((p0).length : Int) : Int) ∧ (((p0).length : Int) : Int) ≤ ((p0).length : Int) ∧ (((p0).length : Int) : Int) * 4 ≤ 281474976710656 then
    (loopW (S := Int × Int × (List Int)) (X := (List Int)) (fun a3 =>
        if a3.2.1 < ((p0).length : Int) then
          (idx p0 a3.2.1).bind fun x7 =>
          jp (fun (a9 : Int) =>
            jp (fun (a12 : Int × Int) =>
              (idx a3.2.2 a3.2.1).bind fun x15 =>
              some (Stp.next (a12.1, IntKind.wrap .i64 (a3.2.1 + 1), (a3.2.2).set (a3.2.1).toNat (IntKind.wrap .u32 a12.2))))
              fun k14 =>
              if a9 < 0 then
                k14 (1, IntKind.wrap .i64 (a9 + 4294967296))
              else
                k14 (0, a9))
            fun k11 =>
            if a3.2.1 < ((p1).length : Int) then
              (idx p1 a3.2.1).bind fun x17 =>
              k11 (IntKind.wrap .i64 ((IntKind.wrap .i64 ((IntKind.wrap .i64 x7) - a3.1)) - (IntKind.wrap .i64 x17)))
            else
              k11 (IntKind.wrap .i64 ((IntKind.wrap .i64 x7) - a3.1))
        else
          some (Stp.exit a3.2.2)) (0, 0, List.replicate (((p0).length : Int)).toNat (0 : Int))).bind fun a19 =>
    (m_integer_trim a19).bind fun x21 =>
    some x21
  else none

/-- groove/integer.Add -/
noncomputable def m_integer_Add (p0 : TNegMag) (p1 : TNegMag) : Option (TNegMag) :=
  (m_integer_digits p0).bind fun x2 =>
  (m_integer_digits p1).bind fun x4 =>
  if (p0.1 == p1.1) = true then
    (m_integer_add x2 x4).bind fun x6 =>
    (m_integer_number p0.1 x6).bind fun x8 =>
    some x8
  else
    (m_integer_compare x2 x4).bind fun x10 =>
    if x10 < 0 then
      (m_integer_subtract x4 x2).bind fun x12 =>
      (m_integer_number p1.1 x12).bind fun x14 =>
      some x14
    else
      (m_integer_subtract x2 x4).bind fun x16 =>
      (m_integer_number p0.1 x16).bind fun x18 =>
      some x18

end Go.AW

namespace Go.AW
open Go
end Go.AW

/- What functions compute that chapter 12 uses (not printed). -/
namespace Go.AW
open Go
/-- the anchor of chapter 12 -/
def m_law12_awake : Option Bool := some true


end Go.AW

/- Models, printed by lk.py. -/
namespace Go.AW
open Go
set_option linter.unusedVariables false
/-- groove/subset.key -/
noncomputable def m_subset_key (p0 : List (Int)) : Option ((List UInt8)) :=
  (loopW (S := Int × (List UInt8)) (X := (List UInt8)) (fun a3 =>
      if a3.1 < ((p0).length : Int) then
        (idx p0 a3.1).bind fun x7 =>
        (m_strconv_Itoa x7).bind fun x9 =>
        if x9.length + [32].length ≤ maxLen then
          if fits 1 (a3.2.length + (x9 ++ [32]).length) then
            some (Stp.next (IntKind.wrap .i64 (a3.1 + 1), a3.2 ++ (x9 ++ [32])))
          else none
        else none
      else
        some (Stp.exit a3.2)) (0, ([] : List UInt8))).bind fun a14 =>
  some a14

/-- groove/subset.build -/
noncomputable def m_subset_build (p0 : TLabelsStatesEdges) (p1 : List (Int)) : Option (TLabelsStatesEdges × (List (List (Int))) × Int) :=
  (m_subset_key p1).bind fun x3 =>
  (m_slices_Clone_Lint_int p1).bind fun x6 =>
  lpO (loopW (S := (List TFromLabelTo) × Int × (List (List UInt8 × Int)) × (List (List (Int)))) (X := Ou ((List TFromLabelTo) × (List (List (Int)))) (TLabelsStatesEdges × (List (List (Int))) × Int)) (fun a12 =>
      if a12.2.1 < (((a12.2.2.2).length : Nat) : Int) then
        (idx a12.2.2.2 a12.2.1).bind fun x16 =>
        (idx a12.2.2.2 a12.2.1).bind fun x18 =>
        jp (fun (a20 : (List TFromLabelTo) × (List (List UInt8 × Int)) × (List (List (Int)))) =>
          jp (fun (a23 : Bool) =>
            if a23 = true then
              some (Stp.exit (Ou.ret ((0, 0, []), [], 4)))
            else
              some (Stp.next (a20.1, IntKind.wrap .i64 (a12.2.1 + 1), a20.2.1, a20.2.2)))
            fun k25 =>
            if 64 < (((a20.2.2).length : Nat) : Int) then
              k25 true
            else
              k25 (decide (1024 < (((a20.1).length : Nat) : Int))))
          fun k22 =>
          (loopW (S := Int × (List TFromLabelTo) × (List (List UInt8 × Int)) × (List (List (Int)))) (X := (List TFromLabelTo) × (List (List UInt8 × Int)) × (List (List (Int)))) (fun a28 =>
              if a28.1 < p0.1 then
                jp (fun (a32 : (List TFromLabelTo) × (List (List UInt8 × Int)) × (List (List (Int)))) =>
                  some (Stp.next (IntKind.wrap .i64 (a28.1 + 1), a32.1, a32.2.1, a32.2.2)))
                  fun k34 =>
                  (m_graph_Step p0 x18 a28.1).bind fun x35 =>
                  if 0 < ((x35.1).length : Int) then
                    jp (fun (a37 : (List TFromLabelTo) × (List (List UInt8 × Int)) × (List (List (Int)))) =>
                      k34 (a37.1, a37.2.1, a37.2.2))
                      fun k39 =>
                      (m_subset_key x35.1).bind fun x40 =>
                      jp (fun (a42 : Int × (List (List UInt8 × Int)) × (List (List (Int)))) =>
                        if fits 24 ((a28.2.1 : List TFromLabelTo).length + ([(a12.2.1, a28.1, a42.1)]).length) then
                          k39 (a28.2.1 ++ [(a12.2.1, a28.1, a42.1)], a42.2.1, a42.2.2)
                        else none)
                        fun k44 =>
                        if (!((mlook x40 a28.2.2.1).isSome)) = true then
                          (m_subset_key x35.1).bind fun x47 =>
                          if fits 24 ((a28.2.2.2 : List (List (Int))).length + ([x35.1]).length) then
                            k44 ((((a28.2.2.2).length : Nat) : Int), mputN x47 (((a28.2.2.2).length : Nat) : Int) a28.2.2.1, a28.2.2.2 ++ [x35.1])
                          else none
                        else
                          k44 ((mlook x40 a28.2.2.1).getD 0, a28.2.2.1, a28.2.2.2)
                  else
                    k34 (a28.2.1, a28.2.2.1, a28.2.2.2)
              else
                some (Stp.exit (a28.2.1, a28.2.2.1, a28.2.2.2))) (0, a12.1, a12.2.2.1, a12.2.2.2)).bind fun a51 =>
          k22 (a51.1, a51.2.1, a51.2.2)
      else
        some (Stp.exit (Ou.go (a12.1, a12.2.2.2)))) (([] : List TFromLabelTo), 0, mputN x3 0 ([] : List (List UInt8 × Int)), [x6])) (fun a54 =>
      some ((p0.1, (((a54.2).length : Nat) : Int), a54.1), a54.2, 0)) some

/-- groove/subset.Build -/
noncomputable def m_subset_Build (p0 : TLabelsStatesEdges) : Option (TLabelsStatesEdges × (List (List (Int))) × Int) :=
  (m_graph_Check p0).bind fun x2 =>
  if x2 ≠ 0 then
    some ((0, 0, []), [], 1)
  else
    if p0.2.1 = 0 then
      some ((p0.1, 0, []), [], 0)
    else
      if 0 ≤ (p0.2.1 : Int) ∧ (p0.2.1 : Int) ≤ p0.2.1 ∧ (p0.2.1 : Int) * 8 ≤ 281474976710656 then
        (loopW (S := Int × (List Int)) (X := (List Int)) (fun a6 =>
            if a6.1 < (((List.replicate (p0.2.1).toNat (0 : Int)).length : Nat) : Int) then
              (idx a6.2 a6.1).bind fun x10 =>
              some (Stp.next (IntKind.wrap .i64 (a6.1 + 1), (a6.2).set (a6.1).toNat a6.1))
            else
              some (Stp.exit a6.2)) (0, List.replicate (p0.2.1).toNat (0 : Int))).bind fun a12 =>
        (m_subset_build p0 a12).bind fun x14 =>
        some (x14.1, x14.2.1, x14.2.2)
      else none

/-- groove/subset.Focus -/
noncomputable def m_subset_Focus (p0 : TLabelsStatesEdges) : Option ((List (Int)) × Int × Bool × Int) :=
  (m_subset_Build p0).bind fun x1 =>
  jp (fun (a4 : Bool) =>
    if a4 = true then
      some ([], 0, false, x1.2.2)
    else
      if 0 ≤ (x1.1.2.1 : Int) ∧ (x1.1.2.1 : Int) ≤ x1.1.2.1 ∧ (x1.1.2.1 : Int) * 24 ≤ 281474976710656 then
        lpO (loopW (S := Int × Int × (List (List (Int)))) (X := Ou (Unit) ((List (Int)) × Int × Bool × Int)) (fun a9 =>
            if a9.1 < x1.1.2.1 then
              (idx x1.2.1 a9.1).bind fun x13 =>
              if ((x13).length : Int) = 1 then
                (idx a9.2.2 a9.1).bind fun x15 =>
                (idx a9.2.2 a9.1).bind fun x17 =>
                (idx x1.2.1 a9.1).bind fun x19 =>
                (idx x19 0).bind fun x21 =>
                some (Stp.exit (Ou.ret (x17, x21, true, 0)))
              else
                (loopW (S := Int × Int × (List (List (Int)))) (X := (List (List (Int))) × Int) (fun a23 =>
                    if a23.2.1 < ((x1.1.2.2).length : Int) then
                      jp (fun (a27 : Int × (List (List (Int)))) =>
                        some (Stp.next (a27.1, IntKind.wrap .i64 (a23.2.1 + 1), a27.2)))
                        fun k29 =>
                        (idx x1.1.2.2 a23.2.1).bind fun x30 =>
                        jp (fun (a33 : Bool) =>
                          if a33 = true then
                            (idx a23.2.2 a9.1).bind fun x360401 =>
                            (idx a23.2.2 a9.1).bind fun x360501 =>
                            (m_slices_Clone_Lint_int x360501).bind fun x360601 =>
                            if fits 8 ((x360601 : List Int).length + ([x30.2.1]).length) then
                              (idx a23.2.2 a23.1).bind fun x361101 =>
                              k29 (IntKind.wrap .i64 (a23.1 + 1), (a23.2.2).set (a23.1).toNat (x360601 ++ [x30.2.1]))
                            else none
                          else
                            k29 (a23.1, a23.2.2))
                          fun k35 =>
                          if x30.1 = a9.1 then
                            k35 (decide (x30.2.2 = a23.1))
                          else
                            k35 false
                    else
                      some (Stp.exit (a23.2.2, a23.1))) (a9.2.1, 0, a9.2.2)).bind fun a38 =>
                some (Stp.next (IntKind.wrap .i64 (a9.1 + 1), a38.2, a38.1))
            else
              some (Stp.exit (Ou.go ()))) (0, 1, List.replicate (x1.1.2.1).toNat ([] : List (Int)))) (fun a40 =>
            some ([], 0, false, 0)) some
      else none)
    fun k6 =>
    if x1.2.2 ≠ 0 then
      k6 true
    else
      k6 (decide (x1.1.2.1 = 0))

/-- groove/grooveref12.Same -/
noncomputable def m_ref12_Same (p0 : List (Int)) (p1 : List (Int)) : Option (Bool) :=
  if ((p0).length : Int) ≠ ((p1).length : Int) then
    some false
  else
    lpO (loopW (S := Int) (X := Ou (Unit) (Bool)) (fun a1 =>
        if a1 < ((p0).length : Int) then
          (idx p0 a1).bind fun x5 =>
          (idx p1 a1).bind fun x7 =>
          if x5 ≠ x7 then
            some (Stp.exit (Ou.ret false))
          else
            some (Stp.next (IntKind.wrap .i64 (a1 + 1)))
        else
          some (Stp.exit (Ou.go ()))) 0) (fun a9 =>
        some true) some

/-- groove/grooveref12.SameSets -/
noncomputable def m_ref12_SameSets (p0 : List (List (Int))) (p1 : List (List (Int))) : Option (Bool) :=
  if ((p0).length : Int) ≠ ((p1).length : Int) then
    some false
  else
    lpO (loopW (S := Int) (X := Ou (Unit) (Bool)) (fun a1 =>
        if a1 < ((p0).length : Int) then
          (idx p0 a1).bind fun x5 =>
          (idx p1 a1).bind fun x7 =>
          (m_ref12_Same x5 x7).bind fun x9 =>
          if (!x9) = true then
            some (Stp.exit (Ou.ret false))
          else
            some (Stp.next (IntKind.wrap .i64 (a1 + 1)))
        else
          some (Stp.exit (Ou.go ()))) 0) (fun a11 =>
        some true) some

/-- groove/groovelaw12.even -/
noncomputable def m_law12_even  : Option (TLabelsStatesEdges) :=
  some (2, 2, [(0, 0, 1), (0, 1, 0), (1, 0, 0)])

/-- groove/subset.Count -/
noncomputable def m_subset_Count (p0 : TLabelsStatesEdges) (p1 : Int) : Option (TNegMag × Int) :=
  (m_graph_Check p0).bind fun x2 =>
  if x2 ≠ 0 then
    some ((false, ([] : List UInt8)), 1)
  else
    jp (fun (a4 : Bool) =>
      if a4 = true then
        some ((false, ([] : List UInt8)), 2)
      else
        (m_subset_Build p0).bind fun x7 =>
        jp (fun (a10 : Bool) =>
          if a10 = true then
            some ((false, ([] : List UInt8)), x7.2.2)
          else
            if 0 ≤ (x7.1.2.1 : Int) ∧ (x7.1.2.1 : Int) ≤ x7.1.2.1 ∧ (x7.1.2.1 : Int) * 24 ≤ 281474976710656 then
              (m_integer_Of 1).bind fun x15 =>
              (idx (List.replicate (x7.1.2.1).toNat ((false, ([] : List UInt8)) : TNegMag)) 0).bind fun x17 =>
              (loopW (S := (List TNegMag) × Int) (X := (List TNegMag)) (fun a19 =>
                  if a19.2 < p1 then
                    if 0 ≤ (x7.1.2.1 : Int) ∧ (x7.1.2.1 : Int) ≤ x7.1.2.1 ∧ (x7.1.2.1 : Int) * 24 ≤ 281474976710656 then
                      (loopW (S := Int × (List TNegMag)) (X := (List TNegMag)) (fun a25 =>
                          if a25.1 < ((x7.1.2.2).length : Int) then
                            (idx x7.1.2.2 a25.1).bind fun x29 =>
                            (idx a25.2 x29.2.2).bind fun x32 =>
                            (idx a25.2 x29.2.2).bind fun x34 =>
                            (idx a19.1 x29.1).bind fun x36 =>
                            (m_integer_Add x34 x36).bind fun x38 =>
                            (idx a25.2 x29.2.2).bind fun x40 =>
                            some (Stp.next (IntKind.wrap .i64 (a25.1 + 1), (a25.2).set (x29.2.2).toNat x38))
                          else
                            some (Stp.exit a25.2)) (0, List.replicate (x7.1.2.1).toNat ((false, ([] : List UInt8)) : TNegMag))).bind fun a42 =>
                      some (Stp.next (a42, IntKind.wrap .i64 (a19.2 + 1)))
                    else none
                  else
                    some (Stp.exit a19.1)) ((List.replicate (x7.1.2.1).toNat ((false, ([] : List UInt8)) : TNegMag)).set (0 : Int).toNat x15, 0)).bind fun a44 =>
              (loopW (S := Int × Bool × (List UInt8)) (X := Bool × (List UInt8)) (fun a47 =>
                  if a47.1 < ((a44).length : Int) then
                    (idx a44 a47.1).bind fun x51 =>
                    (m_integer_Add (a47.2.1, a47.2.2) x51).bind fun x54 =>
                    some (Stp.next (IntKind.wrap .i64 (a47.1 + 1), x54.1, x54.2))
                  else
                    some (Stp.exit (a47.2.1, a47.2.2))) (0, false, ([] : List UInt8))).bind fun a56 =>
              some ((a56.1, a56.2), 0)
            else none)
          fun k12 =>
          if x7.2.2 ≠ 0 then
            k12 true
          else
            k12 (decide (x7.1.2.1 = 0)))
      fun k6 =>
      if p1 < 0 then
        k6 true
      else
        k6 (decide (4096 < p1))

/-- groove/grooveref01.mag -/
noncomputable def m_ref01_mag (p0 : Int) : Option ((List UInt8)) :=
  if p0 < 256 then
    if p0 = 0 then
      some ([] : List UInt8)
    else
      some ([IntKind.wrap .u8 p0].map fun n => UInt8.ofNat n.toNat)
  else
    none

/-- groove/grooveref01.Of -/
noncomputable def m_ref01_Of (p0 : Int) : Option (TNegMag) :=
  if 0 ≤ p0 then
    (m_ref01_mag p0).bind fun x2 =>
    some (false, x2)
  else
    if p0 = (IntKind.wrap .i64 (0 - p0)) then
      some (true, [128, 0, 0, 0, 0, 0, 0, 0])
    else
      (m_ref01_mag (IntKind.wrap .i64 (0 - p0))).bind fun x4 =>
      some (true, x4)

/-- groove/groovelaw12.awake -/
noncomputable def m_law12_awakeG  : Option (Bool) :=
  (m_law12_even).bind fun x1 =>
  (m_subset_Build x1).bind fun x3 =>
  (m_law12_even).bind fun x6 =>
  (m_subset_Focus x6).bind fun x8 =>
  (m_law12_even).bind fun x10 =>
  (m_subset_Count x10 3).bind fun x12 =>
  jp (fun (a15 : Bool) =>
    jp (fun (a18 : Bool) =>
      some a18)
      fun k20 =>
      if a15 = true then
        if x3.1.2.1 = 3 then
          if ((x3.1.2.2).length : Int) = 5 then
            (m_ref12_SameSets x3.2.1 [[0, 1], [0], [1]]).bind fun x21 =>
            k20 x21
          else
            k20 false
        else
          k20 false
      else
        k20 false)
    fun k17 =>
    if (max (max x3.2.2 x8.2.2.2) x12.2) = 0 then
      if x8.2.2.1 = true then
        if x8.2.1 = 0 then
          (m_ref12_Same x8.1 [1]).bind fun x26 =>
          if x26 = true then
            (m_ref01_Of 7).bind fun x28 =>
            k17 (decide (x12.1 = x28))
          else
            k17 false
        else
          k17 false
      else
        k17 false
    else
      k17 false

end Go.AW

namespace Go.AW
open Go Go.Proofs
set_option linter.unusedVariables false
set_option maxHeartbeats 1600000 in
set_option maxRecDepth 100000 in
theorem w_subset_key {p0 : List (Int)} {r : (List UInt8)} (h : m_subset_key p0 = some r) : Pure Tryz.prog 58 [slE eInt p0] (· = HV.str r) := by
 unfold m_subset_key at h
 refine Pure.of_body Tryz.func58 rfl rfl (Nat.le_of_ble_eq_true rfl) fun hf => ?_
 unfold Tryz.f58
 dsimp only [enumS, Nat.reduceAdd]
 refine AW.rgs rfl fun K hK => ?_
 refine mv rfl rfl ?_
 refine b_fin hK (s' := ⟨[(0, slE eInt p0)], []⟩) (le_q rfl rfl) ?_
 clear hK K
 refine AW.rgs rfl fun K hK => ?_
 refine b_op rfl (o_alloc (fid := 58) (zs := [HV.v (.pointer none), HV.v (.slice none 0 0)]) 58003 rfl rfl ty116 rfl (fun v1 => ?_))
 refine b_to (to_ownC 58503 58003 v1 2 1 1 5 116 rfl rfl (by decide) fun v2 => ?_)
 refine b_fin hK (s' := ⟨[(0, slE eInt p0), (3, HV.ptr 58003 v1 0)], [(58003, v1, bldO 58003 v1 58503 v2 false ([] : List UInt8)), (58503, v2, bytO ([] : List UInt8))]⟩) (le_q rfl rfl) ?_
 clear hK K
 refine AW.seq ?_
 refine AW.rgs rfl fun K hK => ?_
 refine mv rfl rfl ?_
 refine bv rfl (v_lenF rfl rfl ty27 rfl) ?_
 refine mv rfl rfl ?_
 refine b_fin hK (s' := ⟨[(3, HV.ptr 58003 v1 0), (6, slE eInt p0), (7, HV.int .i64 ((p0).length : Int)), (8, HV.int .i64 0)], [(58003, v1, bldO 58003 v1 58503 v2 false ([] : List UInt8)), (58503, v2, bytO ([] : List UInt8))]⟩) (le_q rfl rfl) ?_
 clear hK K
 refine AW.lpX h (by first | exact up_then | exact up_to) (S := Int × (List UInt8)) (V := Bool × Nat) (fun a v => ⟨[(3, HV.ptr 58003 v1 0), (6, slE eInt p0), (7, HV.int .i64 ((p0).length : Int)), (8, HV.int .i64 a.1)], [(58003, v1, bldO 58003 v1 58503 v.2 v.1 a.2), (58503, v.2, bytO a.2)]⟩) ?_ (X := (List UInt8)) (W := Bool × Nat) (fun a v => ⟨[(3, HV.ptr 58003 v1 0)], [(58003, v1, bldO 58003 v1 58503 v.2 v.1 a), (58503, v.2, bytO a)]⟩) (fun a14 w15 h => ?_) (fun a3 w4 st5 h => ?_)
 ·exact to_le (s' := ⟨[(3, HV.ptr 58003 v1 0), (6, slE eInt p0), (7, HV.int .i64 ((p0).length : Int)), (8, HV.int .i64 0)], [(58003, v1, bldO 58003 v1 58503 v2 false ([] : List UInt8)), (58503, v2, bytO ([] : List UInt8))]⟩) (AS.le_of ⟨rfl, rfl, rfl, rfl, trivial⟩ ⟨rfl, rfl, trivial⟩) ⟨(false, v2), rfl⟩
 ·refine AW.rgs rfl fun K hK => ?_
  refine b_op rfl (o_callA rfl rfl rfl rfl (c_String (id := 58003) (ver := v1) (aid := 58503) (aver := w15.2) (u := w15.1) (l := a14) rfl rfl fun v16 => ?_) )
  refine mv rfl rfl ?_
  refine b_fin hK (s' := ⟨[(2, HV.str a14)], []⟩) (le_q rfl rfl) ?_
  clear hK K
  refine AW.ret ?_
  have h := Option.some.inj h
  subst h
  exact ret_pure (hs := [HV.str a14]) (q := HV.str a14) (.inr rfl) (resT rfl rfl) rfl trivial
 ·refine AW.rgs rfl fun K hK => ?_
  refine bv rfl (v_bin rfl rfl b_lss) ?_
  refine b_fin hK (s' := ⟨[(3, HV.ptr 58003 v1 0), (6, slE eInt p0), (7, HV.int .i64 ((p0).length : Int)), (8, HV.int .i64 a3.1), (9, HV.bool (decide (a3.1 < ((p0).length : Int))))], [(58003, v1, bldO 58003 v1 58503 w4.2 w4.1 a3.2), (58503, w4.2, bytO a3.2)]⟩) (le_q rfl rfl) ?_
  clear hK K
  refine AW.cseq rfl (fun hc => ?_) (fun hc => ?_)
  ·have hc := of_decide_eq_true hc
   have h := ifT hc h
   refine AW.skip ?_
   refine AW.seq (AW.block ?_)
   refine AW.rgs rfl fun K hK => ?_
   obtain ⟨x7, h8, h⟩ := bS h
   refine bv rfl (v_idxF ty27 es27 rfl rfl (idx_lt h8)) ?_
   refine bv rfl (v_loadF ty3 rfl (l_cell eInt h8 (o := 0) rfl rfl)) ?_
   refine mv rfl rfl ?_
   refine b_fin hK (s' := ⟨[(3, HV.ptr 58003 v1 0), (5, HV.int .i64 x7), (6, slE eInt p0), (7, HV.int .i64 ((p0).length : Int)), (8, HV.int .i64 a3.1)], [(58003, v1, bldO 58003 v1 58503 w4.2 w4.1 a3.2), (58503, w4.2, bytO a3.2)]⟩) (le_q rfl rfl) ?_
   clear hK K
   refine AW.rg rfl fun K hK => ?_
   refine mv rfl rfl ?_
   obtain ⟨x9, h10, h⟩ := bS h
   refine b_op rfl (o_call rfl rfl rfl rfl (ACallD.pure0 (w_strconv_Itoa h10)) ?_)
   obtain ⟨h11, h⟩ := ifN h
   refine bv rfl (v_bin rfl rfl (b_sadd h11)) ?_
   obtain ⟨h13, h⟩ := ifN h
   refine b_op rfl (o_callA rfl rfl rfl rfl (c_WriteString (id := 58003) (ver := v1) (aid := 58503) (aver := w4.2) (u := w4.1) (l := a3.2) (m := (x9 ++ [32])) (by decide) rfl rfl h13 fun v12 => ?_) )
   refine b_fin hK (s' := ⟨[(3, HV.ptr 58003 v1 0), (6, slE eInt p0), (7, HV.int .i64 ((p0).length : Int)), (8, HV.int .i64 a3.1)], [(58003, v1, bldO 58003 v1 58503 v12 true (a3.2 ++ (x9 ++ [32]))), (58503, v12, bytO (a3.2 ++ (x9 ++ [32])))]⟩) (le_q rfl rfl) ?_
   clear hK K
   refine AW.rg rfl fun K hK => ?_
   refine bv rfl (v_bin rfl rfl b_add) ?_
   refine mv rfl rfl ?_
   refine b_nil (hK _ ?_)
   clear hK K
   exact to_le (s' := ⟨[(3, HV.ptr 58003 v1 0), (6, slE eInt p0), (7, HV.int .i64 ((p0).length : Int)), (8, HV.int .i64 (IntKind.wrap .i64 (a3.1 + 1)))], [(58003, v1, bldO 58003 v1 58503 v12 true (a3.2 ++ (x9 ++ [32]))), (58503, v12, bytO (a3.2 ++ (x9 ++ [32])))]⟩) (AS.le_of ⟨rfl, rfl, rfl, rfl, trivial⟩ ⟨rfl, rfl, trivial⟩) ⟨(IntKind.wrap .i64 (a3.1 + 1), a3.2 ++ (x9 ++ [32])), (true, v12), h, rfl⟩
  ·have hc := of_decide_eq_false hc
   have h := ifF hc h
   refine AW.exit ?_
   exact to_le (s' := ⟨[(3, HV.ptr 58003 v1 0)], [(58003, v1, bldO 58003 v1 58503 w4.2 w4.1 a3.2), (58503, w4.2, bytO a3.2)]⟩) (AS.le_of ⟨rfl, trivial⟩ ⟨rfl, rfl, trivial⟩) ⟨a3.2, (w4.1, w4.2), h, rfl⟩

end Go.AW

namespace Go.AW
open Go Go.Proofs
set_option linter.unusedVariables false
set_option maxHeartbeats 1600000 in
set_option maxRecDepth 100000 in
theorem w_subset_build {p0 : TLabelsStatesEdges} {p1 : List (Int)} {r : TLabelsStatesEdges × (List (List (Int))) × Int} (h : m_subset_build p0 p1 = some r) : Pure Tryz.prog 35 [HV.agg [HV.int .i64 p0.1, HV.int .i64 p0.2.1, slE eFromLabelTo p0.2.2], slE eInt p1] (· = HV.tup [HV.agg [HV.int .i64 r.1.1, HV.int .i64 r.1.2.1, slE eFromLabelTo r.1.2.2], slE (eSl eInt) r.2.1, HV.int .i64 r.2.2]) := by
 unfold m_subset_build at h
 refine Pure.of_body Tryz.func35 rfl rfl (Nat.le_of_ble_eq_true rfl) fun hf => ?_
 unfold Tryz.f35
 dsimp only [enumS, Nat.reduceAdd]
 refine AW.rgs rfl fun K hK => ?_
 refine b_op rfl (o_box rfl rfl rfl ?_)
 refine b_op rfl (o_alloc (fid := 35) (zs := [HV.int .i64 0, HV.int .i64 0, HV.v (.slice none 0 0)]) 35004 rfl rfl ty24 rfl (fun v1 => ?_))
 refine mv rfl rfl ?_
 refine mv rfl rfl ?_
 refine b_fin hK (s' := ⟨[(1, slE eInt p1), (2, HV.fptr [HV.int .i64 p0.1, HV.int .i64 p0.2.1, slE eFromLabelTo p0.2.2] 0), (4, HV.ptr 35004 v1 0)], [(35004, v1, .arr 3 24 [HV.int .i64 0, HV.int .i64 0, HV.v (.slice none 0 0)])]⟩) (le_q rfl rfl) ?_
 clear hK K
 refine AW.rgs rfl fun K hK => ?_
 refine b_op rfl (o_makeMap (fid := 35) (HV.int .i64) 35011 rfl rfl (fun v2 => ?_))
 refine mv rfl rfl ?_
 obtain ⟨x3, h4, h⟩ := bS h
 refine b_op rfl (o_call rfl rfl rfl rfl (ACallD.pure0 (w_subset_key h4)) ?_)
 refine b_op rfl (o_mapSet (HV.int .i64) (es := ([] : List (List UInt8 × Int))) (k := x3) (v := 0) (.inr rfl) ty95 ty9 rfl rfl rfl rfl trivial ?_)
 refine mv rfl rfl ?_
 refine b_op rfl (o_alloc (fid := 35) (zs := [HV.v (.map none)]) 35007 rfl rfl ty95 rfl (fun v5 => ?_))
 refine b_op rfl (o_store (cs := [HV.mp 35011 v2]) (zs := [HV.mp 35011 v2]) rfl rfl rfl ty95 rfl rfl rfl rfl rfl ?_)
 refine b_fin hK (s' := ⟨[(1, slE eInt p1), (2, HV.fptr [HV.int .i64 p0.1, HV.int .i64 p0.2.1, slE eFromLabelTo p0.2.2] 0), (4, HV.ptr 35004 v1 0), (7, HV.ptr 35007 v5 0)], [(35004, v1, .arr 3 24 [HV.int .i64 0, HV.int .i64 0, HV.v (.slice none 0 0)]), (35011, v2, .map (entE (HV.int .i64) (mputN x3 0 ([] : List (List UInt8 × Int))))), (35007, v5, .arr 1 95 [HV.mp 35011 v2])]⟩) (le_q rfl rfl) ?_
 clear hK K
 refine AW.rgs rfl fun K hK => ?_
 refine mv rfl rfl ?_
 obtain ⟨x6, h7, h⟩ := bS h
 refine b_op rfl (o_call rfl rfl rfl rfl (ACallD.pure0 (w_slices_Clone_Lint_int h7)) ?_)
 refine b_op rfl (o_bslM (fid := 35) 35017 rfl rfl rfl (as_of (cs := [slE eInt x6]) ty35 ty27 rfl rfl rfl rfl rfl) (fun v8 => ?_))
 refine b_op rfl (o_alloc (fid := 35) (zs := [HV.v (.slice none 0 0)]) 35008 rfl rfl ty35 rfl (fun v9 => ?_))
 refine b_op rfl (o_store (cs := [HV.ar 35017 v8 (eSl eInt).k 0 (([x6]).length)]) (zs := [HV.ar 35017 v8 (eSl eInt).k 0 (([x6]).length)]) rfl rfl rfl ty35 rfl rfl rfl rfl rfl ?_)
 refine b_fin hK (s' := ⟨[(2, HV.fptr [HV.int .i64 p0.1, HV.int .i64 p0.2.1, slE eFromLabelTo p0.2.2] 0), (4, HV.ptr 35004 v1 0), (7, HV.ptr 35007 v5 0), (8, HV.ptr 35008 v9 0)], [(35004, v1, .arr 3 24 [HV.int .i64 0, HV.int .i64 0, HV.v (.slice none 0 0)]), (35011, v2, .map (entE (HV.int .i64) (mputN x3 0 ([] : List (List UInt8 × Int))))), (35007, v5, .arr 1 95 [HV.mp 35011 v2]), (35017, v8, .arr (eSl eInt).k 27 ((eSl eInt).E [x6])), (35008, v9, .arr 1 35 [HV.ar 35017 v8 (eSl eInt).k 0 (([x6]).length)])]⟩) (le_q rfl rfl) ?_
 clear hK K
 refine AW.rgs rfl fun K hK => ?_
 refine bv rfl (v_fieldAddrF fo24_0 rfl) ?_
 refine bv rfl (v_loadF ty3 rfl (l_lit rfl rfl)) ?_
 refine b_op rfl (o_build (cs := [HV.int .i64 p0.1, HV.int .i64 0, HV.v (.slice none 0 0)]) rfl (bl_of ty24 rfl rfl rfl rfl) ?_)
 refine b_op rfl (o_alloc (fid := 35) (zs := [HV.int .i64 0, HV.int .i64 0, HV.v (.slice none 0 0)]) 35009 rfl rfl ty24 rfl (fun v10 => ?_))
 refine b_op rfl (o_store (cs := [HV.int .i64 p0.1, HV.int .i64 0, HV.v (.slice none 0 0)]) (zs := [HV.int .i64 p0.1, HV.int .i64 0, HV.v (.slice none 0 0)]) rfl rfl rfl ty24 rfl rfl rfl rfl rfl ?_)
 refine b_fin hK (s' := ⟨[(2, HV.fptr [HV.int .i64 p0.1, HV.int .i64 p0.2.1, slE eFromLabelTo p0.2.2] 0), (4, HV.ptr 35004 v1 0), (7, HV.ptr 35007 v5 0), (8, HV.ptr 35008 v9 0), (9, HV.ptr 35009 v10 0)], [(35004, v1, .arr 3 24 [HV.int .i64 0, HV.int .i64 0, HV.v (.slice none 0 0)]), (35011, v2, .map (entE (HV.int .i64) (mputN x3 0 ([] : List (List UInt8 × Int))))), (35007, v5, .arr 1 95 [HV.mp 35011 v2]), (35017, v8, .arr (eSl eInt).k 27 ((eSl eInt).E [x6])), (35008, v9, .arr 1 35 [HV.ar 35017 v8 (eSl eInt).k 0 (([x6]).length)]), (35009, v10, .arr 3 24 [HV.int .i64 p0.1, HV.int .i64 0, HV.v (.slice none 0 0)])]⟩) (le_q rfl rfl) ?_
 clear hK K
 refine AW.seq ?_
 refine AW.rgs rfl fun K hK => ?_
 refine b_op rfl (o_alloc (fid := 35) (zs := [HV.int .i64 0]) 35010 rfl rfl ty3 rfl (fun v11 => ?_))
 refine b_op rfl (o_store (cs := [HV.int .i64 0]) (zs := [HV.int .i64 0]) rfl rfl rfl ty3 rfl rfl rfl rfl rfl ?_)
 refine b_fin hK (s' := ⟨[(2, HV.fptr [HV.int .i64 p0.1, HV.int .i64 p0.2.1, slE eFromLabelTo p0.2.2] 0), (4, HV.ptr 35004 v1 0), (7, HV.ptr 35007 v5 0), (8, HV.ptr 35008 v9 0), (9, HV.ptr 35009 v10 0), (10, HV.ptr 35010 v11 0)], [(35004, v1, .arr 3 24 [HV.int .i64 0, HV.int .i64 0, HV.v (.slice none 0 0)]), (35011, v2, .map (entE (HV.int .i64) (mputN x3 0 ([] : List (List UInt8 × Int))))), (35007, v5, .arr 1 95 [HV.mp 35011 v2]), (35017, v8, .arr (eSl eInt).k 27 ((eSl eInt).E [x6])), (35008, v9, .arr 1 35 [HV.ar 35017 v8 (eSl eInt).k 0 (([x6]).length)]), (35009, v10, .arr 3 24 [HV.int .i64 p0.1, HV.int .i64 0, HV.v (.slice none 0 0)]), (35010, v11, .arr 1 3 [HV.int .i64 0])]⟩) (le_q rfl rfl) ?_
 clear hK K
 refine AW.lpR h (by first | exact up_then | exact up_to) (S := (List TFromLabelTo) × Int × (List (List UInt8 × Int)) × (List (List (Int)))) (V := Nat × Nat × Nat) (fun a v => ⟨[(2, HV.fptr [HV.int .i64 p0.1, HV.int .i64 p0.2.1, slE eFromLabelTo p0.2.2] 0), (4, HV.ptr 35004 v1 0), (7, HV.ptr 35007 v5 0), (8, HV.ptr 35008 v9 0), (9, HV.ptr 35009 v10 0), (10, HV.ptr 35010 v.2.1 0)], [(35004, v1, .arr 3 24 [HV.int .i64 0, HV.int .i64 0, HV.v (.slice none 0 0)]), (35007, v5, .arr 1 95 [HV.mp 35011 v2]), (35008, v9, .arr 1 35 [HV.ar 35017 v.2.2 (eSl eInt).k 0 ((a.2.2.2).length)]), (35009, v10, .arr 3 24 [HV.int .i64 p0.1, HV.int .i64 0, HV.ar 20002036 v.1 eFromLabelTo.k 0 ((a.1).length)]), (20002036, v.1, .arr eFromLabelTo.k 56 (eFromLabelTo.E a.1)), (35010, v.2.1, .arr 1 3 [HV.int .i64 a.2.1]), (35011, v2, .map (entE (HV.int .i64) a.2.2.1)), (35017, v.2.2, .arr (eSl eInt).k 27 ((eSl eInt).E a.2.2.2))]⟩) ?_ (X := (List TFromLabelTo) × (List (List (Int)))) (W := Nat × Nat) (fun a v => ⟨[(4, HV.ptr 35004 v1 0), (8, HV.ptr 35008 v9 0), (9, HV.ptr 35009 v10 0)], [(35004, v1, .arr 3 24 [HV.int .i64 0, HV.int .i64 0, HV.v (.slice none 0 0)]), (35008, v9, .arr 1 35 [HV.ar 35017 v.2 (eSl eInt).k 0 ((a.2).length)]), (35009, v10, .arr 3 24 [HV.int .i64 p0.1, HV.int .i64 0, HV.ar 20002036 v.1 eFromLabelTo.k 0 ((a.1).length)]), (20002036, v.1, .arr eFromLabelTo.k 56 (eFromLabelTo.E a.1)), (35017, v.2, .arr (eSl eInt).k 27 ((eSl eInt).E a.2))]⟩) (fun a54 w55 h => ?_) (fun a12 w13 st14 h hr15=> ?_)
 ·refine to_bind (to_ownC 20002036 35009 v10 3 2 eFromLabelTo.k 56 24 rfl rfl (by decide) fun v53 => ?_)
  exact to_le (s' := ⟨[(2, HV.fptr [HV.int .i64 p0.1, HV.int .i64 p0.2.1, slE eFromLabelTo p0.2.2] 0), (4, HV.ptr 35004 v1 0), (7, HV.ptr 35007 v5 0), (8, HV.ptr 35008 v9 0), (9, HV.ptr 35009 v10 0), (10, HV.ptr 35010 v11 0)], [(35004, v1, .arr 3 24 [HV.int .i64 0, HV.int .i64 0, HV.v (.slice none 0 0)]), (35007, v5, .arr 1 95 [HV.mp 35011 v2]), (35008, v9, .arr 1 35 [HV.ar 35017 v8 (eSl eInt).k 0 (([x6]).length)]), (35009, v10, .arr 3 24 [HV.int .i64 p0.1, HV.int .i64 0, HV.ar 20002036 v53 eFromLabelTo.k 0 ((([] : List TFromLabelTo)).length)]), (20002036, v53, .arr eFromLabelTo.k 56 (eFromLabelTo.E ([] : List TFromLabelTo))), (35010, v11, .arr 1 3 [HV.int .i64 0]), (35011, v2, .map (entE (HV.int .i64) (mputN x3 0 ([] : List (List UInt8 × Int))))), (35017, v8, .arr (eSl eInt).k 27 ((eSl eInt).E [x6]))]⟩) (AS.le_of ⟨rfl, rfl, rfl, rfl, rfl, rfl, trivial⟩ ⟨rfl, rfl, rfl, hle rfl (by first | rfl | simp only [List.length_set, sortI_len, sortS_len]), rfl, rfl, rfl, rfl, trivial⟩) ⟨(v53, v11, v8), rfl⟩
 ·refine AW.rgs rfl fun K hK => ?_
  refine bv rfl (v_loadP ty35 rfl rfl (l_lit rfl rfl)) ?_
  refine bv rfl (v_lenA rfl rfl ty35 rfl rfl) ?_
  refine bv rfl (v_fieldAddrP fo24_1 rfl rfl) ?_
  refine b_op rfl (o_store (cs := [HV.int .i64 (((a54.2).length : Nat) : Int)]) (zs := [HV.int .i64 p0.1, HV.int .i64 (((a54.2).length : Nat) : Int), HV.ar 20002036 w55.1 eFromLabelTo.k 0 ((a54.1).length)]) rfl rfl rfl ty3 rfl rfl rfl rfl rfl ?_)
  refine b_fin hK (s' := ⟨[(4, HV.ptr 35004 v1 0), (8, HV.ptr 35008 v9 0), (9, HV.ptr 35009 v10 0)], [(35004, v1, .arr 3 24 [HV.int .i64 0, HV.int .i64 0, HV.v (.slice none 0 0)]), (35008, v9, .arr 1 35 [HV.ar 35017 w55.2 (eSl eInt).k 0 ((a54.2).length)]), (35009, v10, .arr 3 24 [HV.int .i64 p0.1, HV.int .i64 (((a54.2).length : Nat) : Int), HV.ar 20002036 w55.1 eFromLabelTo.k 0 ((a54.1).length)]), (20002036, w55.1, .arr eFromLabelTo.k 56 (eFromLabelTo.E a54.1)), (35017, w55.2, .arr (eSl eInt).k 27 ((eSl eInt).E a54.2))]⟩) (le_q rfl rfl) ?_
  clear hK K
  refine AW.dls follows fun K hK F hF => ?_
  refine l_go (L' := []) hF rfl (s' := ⟨[(4, HV.ptr 35004 v1 0), (8, HV.ptr 35008 v9 0), (9, HV.ptr 35009 v10 0)], [(35004, v1, .arr 3 24 [HV.int .i64 0, HV.int .i64 0, HV.v (.slice none 0 0)]), (35008, v9, .arr 1 35 [HV.ar 35017 w55.2 (eSl eInt).k 0 ((a54.2).length)]), (35009, v10, .arr 3 24 [HV.int .i64 p0.1, HV.int .i64 (((a54.2).length : Nat) : Int), HV.ar 20002036 w55.1 eFromLabelTo.k 0 ((a54.1).length)]), (20002036, w55.1, .arr eFromLabelTo.k 56 (eFromLabelTo.E a54.1)), (35017, w55.2, .arr (eSl eInt).k 27 ((eSl eInt).E a54.2))]⟩) ?_ (le_q rfl rfl)
  have g56_6 : F [0, 1, 2, 3, 4] ⟨[(4, HV.ptr 35004 v1 0), (5, HV.ar 35017 w55.2 (eSl eInt).k 0 ((a54.2).length)), (6, HV.int .i64 0)], [(35004, v1, .arr 3 24 [HV.int .i64 p0.1, HV.int .i64 (((a54.2).length : Nat) : Int), HV.ar 20002036 w55.1 eFromLabelTo.k 0 ((a54.1).length)]), (35008, v9, .arr 1 35 [HV.ar 35017 w55.2 (eSl eInt).k 0 ((a54.2).length)]), (35009, v10, .arr 3 24 [HV.int .i64 p0.1, HV.int .i64 (((a54.2).length : Nat) : Int), HV.ar 20002036 w55.1 eFromLabelTo.k 0 ((a54.1).length)]), (20002036, w55.1, .arr eFromLabelTo.k 56 (eFromLabelTo.E a54.1)), (35017, w55.2, .arr (eSl eInt).k 27 ((eSl eInt).E a54.2))]⟩ := by
   refine l_done hF rfl rfl (hK _ (AW.to (to_le (s' := ⟨[(4, HV.ptr 35004 v1 0), (5, HV.ar 35017 w55.2 (eSl eInt).k 0 ((a54.2).length)), (6, HV.int .i64 0)], [(35004, v1, .arr 3 24 [HV.int .i64 p0.1, HV.int .i64 (((a54.2).length : Nat) : Int), HV.ar 20002036 w55.1 eFromLabelTo.k 0 ((a54.1).length)]), (20002036, w55.1, .arr eFromLabelTo.k 56 (eFromLabelTo.E a54.1)), (35017, w55.2, .arr (eSl eInt).k 27 ((eSl eInt).E a54.2))]⟩) (le_q rfl rfl) ?_)))
   first | clear hF F hK K | clear hK K
   refine AW.to (to_frz 2 [(35017, w55.2, .arr (eSl eInt).k 27 ((eSl eInt).E a54.2))] ⟨[(4, HV.ptr 35004 v1 0), (5, slE (eSl eInt) a54.2), (6, HV.int .i64 0)], [(35004, v1, .arr 3 24 [HV.int .i64 p0.1, HV.int .i64 (((a54.2).length : Nat) : Int), HV.ar 20002036 w55.1 eFromLabelTo.k 0 ((a54.1).length)]), (20002036, w55.1, .arr eFromLabelTo.k 56 (eFromLabelTo.E a54.1))]⟩ ⟨⟨_, rfl, rfl⟩, ⟨_, rfl, frz_slE (eSl eInt) (l := a54.2) rfl fun _ _ => rfl⟩, ⟨_, rfl, rfl⟩, trivial⟩ ⟨rfl, rfl, trivial⟩ ⟨rfl, trivial⟩ ⟨rfl, trivial⟩ ?_)
   refine AW.to (to_fill 2 [(20002036, w55.1, .arr eFromLabelTo.k 56 (eFromLabelTo.E a54.1))] ⟨[(4, HV.ptr 35004 v1 0), (5, slE (eSl eInt) a54.2), (6, HV.int .i64 0)], [(35004, v1, .arr 3 24 [HV.int .i64 p0.1, HV.int .i64 (((a54.2).length : Nat) : Int), slE eFromLabelTo a54.1])]⟩ ⟨⟨_, rfl, rfl⟩, ⟨_, rfl, rfl⟩, ⟨_, rfl, rfl⟩, trivial⟩ ⟨.inr ⟨_, _, _, rfl, congrArg (AObj.arr 3 24) (congrArg (fun z : HV => [HV.int .i64 p0.1, HV.int .i64 (((a54.2).length : Nat) : Int), z]) (frz_slE eFromLabelTo (D := [(20002036, w55.1, .arr eFromLabelTo.k 56 (eFromLabelTo.E a54.1))]) (l := a54.1) rfl fun _ _ => rfl).symm)⟩, trivial⟩ ⟨rfl, trivial⟩ ⟨rfl, trivial⟩ ?_)
   refine AW.ret ?_
   have h := Option.some.inj h
   subst h
   exact ret_pure (hs := [HV.agg [HV.int .i64 p0.1, HV.int .i64 (((a54.2).length : Nat) : Int), slE eFromLabelTo a54.1], slE (eSl eInt) a54.2, HV.int .i64 0]) (q := HV.tup [HV.agg [HV.int .i64 p0.1, HV.int .i64 (((a54.2).length : Nat) : Int), slE eFromLabelTo a54.1], slE (eSl eInt) a54.2, HV.int .i64 0]) (.inr rfl) (resP ty24 rfl rfl (l_litA rfl (Nat.le_of_ble_eq_true rfl) rfl) (resT rfl (resT rfl rfl))) rfl ⟨⟨trivial, trivial, (clean_slE fun _ _ => ⟨trivial, trivial, trivial, trivial⟩), trivial⟩, (clean_slE fun _ _ => ⟨(clean_slE fun _ _ => ⟨trivial, trivial⟩), trivial⟩), trivial, trivial⟩
  have g56_5 : F [0, 1, 2, 3] ⟨[(4, HV.ptr 35004 v1 0), (5, HV.ar 35017 w55.2 (eSl eInt).k 0 ((a54.2).length))], [(35004, v1, .arr 3 24 [HV.int .i64 p0.1, HV.int .i64 (((a54.2).length : Nat) : Int), HV.ar 20002036 w55.1 eFromLabelTo.k 0 ((a54.1).length)]), (35008, v9, .arr 1 35 [HV.ar 35017 w55.2 (eSl eInt).k 0 ((a54.2).length)]), (35009, v10, .arr 3 24 [HV.int .i64 p0.1, HV.int .i64 (((a54.2).length : Nat) : Int), HV.ar 20002036 w55.1 eFromLabelTo.k 0 ((a54.1).length)]), (20002036, w55.1, .arr eFromLabelTo.k 56 (eFromLabelTo.E a54.1)), (35017, w55.2, .arr (eSl eInt).k 27 ((eSl eInt).E a54.2))]⟩ := by
   refine l_step hF rfl [4] rfl rfl ⟨?_, trivial⟩
   ·refine l_op rfl rfl rfl (o_val rfl (mv_val rfl rfl).2 ?_)
    exact b_nil (l_go hF rfl (g56_6) (le_q rfl rfl))
  have g56_4 : F [0, 1, 2] ⟨[(4, HV.ptr 35004 v1 0), (49, HV.ar 35017 w55.2 (eSl eInt).k 0 ((a54.2).length))], [(35004, v1, .arr 3 24 [HV.int .i64 p0.1, HV.int .i64 (((a54.2).length : Nat) : Int), HV.ar 20002036 w55.1 eFromLabelTo.k 0 ((a54.1).length)]), (35008, v9, .arr 1 35 [HV.ar 35017 w55.2 (eSl eInt).k 0 ((a54.2).length)]), (35009, v10, .arr 3 24 [HV.int .i64 p0.1, HV.int .i64 (((a54.2).length : Nat) : Int), HV.ar 20002036 w55.1 eFromLabelTo.k 0 ((a54.1).length)]), (20002036, w55.1, .arr eFromLabelTo.k 56 (eFromLabelTo.E a54.1)), (35017, w55.2, .arr (eSl eInt).k 27 ((eSl eInt).E a54.2))]⟩ := by
   refine l_step hF rfl [3] rfl rfl ⟨?_, trivial⟩
   ·refine l_op rfl rfl rfl (o_val rfl (mv_val rfl rfl).2 ?_)
    exact b_nil (l_go hF rfl (g56_5) (le_q rfl rfl))
  have g56_3 : F [0, 1] ⟨[(4, HV.ptr 35004 v1 0), (48, HV.agg [HV.int .i64 p0.1, HV.int .i64 (((a54.2).length : Nat) : Int), HV.ar 20002036 w55.1 eFromLabelTo.k 0 ((a54.1).length)]), (49, HV.ar 35017 w55.2 (eSl eInt).k 0 ((a54.2).length))], [(35004, v1, .arr 3 24 [HV.int .i64 0, HV.int .i64 0, HV.v (.slice none 0 0)]), (35008, v9, .arr 1 35 [HV.ar 35017 w55.2 (eSl eInt).k 0 ((a54.2).length)]), (35009, v10, .arr 3 24 [HV.int .i64 p0.1, HV.int .i64 (((a54.2).length : Nat) : Int), HV.ar 20002036 w55.1 eFromLabelTo.k 0 ((a54.1).length)]), (20002036, w55.1, .arr eFromLabelTo.k 56 (eFromLabelTo.E a54.1)), (35017, w55.2, .arr (eSl eInt).k 27 ((eSl eInt).E a54.2))]⟩ := by
   refine l_step hF rfl [2] rfl rfl ⟨?_, trivial⟩
   ·refine l_op rfl rfl rfl (o_store (cs := [HV.int .i64 p0.1, HV.int .i64 (((a54.2).length : Nat) : Int), HV.ar 20002036 w55.1 eFromLabelTo.k 0 ((a54.1).length)]) (zs := [HV.int .i64 p0.1, HV.int .i64 (((a54.2).length : Nat) : Int), HV.ar 20002036 w55.1 eFromLabelTo.k 0 ((a54.1).length)]) rfl rfl rfl ty24 rfl rfl rfl rfl rfl ?_)
    exact b_nil (l_go hF rfl (g56_4) (le_q rfl rfl))
  have g56_7 : F [0, 2] ⟨[(4, HV.ptr 35004 v1 0), (8, HV.ptr 35008 v9 0)], [(35004, v1, .arr 3 24 [HV.int .i64 p0.1, HV.int .i64 (((a54.2).length : Nat) : Int), HV.ar 20002036 w55.1 eFromLabelTo.k 0 ((a54.1).length)]), (35008, v9, .arr 1 35 [HV.ar 35017 w55.2 (eSl eInt).k 0 ((a54.2).length)]), (35009, v10, .arr 3 24 [HV.int .i64 p0.1, HV.int .i64 (((a54.2).length : Nat) : Int), HV.ar 20002036 w55.1 eFromLabelTo.k 0 ((a54.1).length)]), (20002036, w55.1, .arr eFromLabelTo.k 56 (eFromLabelTo.E a54.1)), (35017, w55.2, .arr (eSl eInt).k 27 ((eSl eInt).E a54.2))]⟩ := by
   refine l_step hF rfl [1] rfl rfl ⟨?_, trivial⟩
   ·refine l_op rfl rfl rfl (o_val rfl (v_loadP ty35 rfl rfl (l_lit rfl rfl)) ?_)
    exact b_nil (l_go hF rfl (g56_4) (le_q rfl rfl))
  have g56_1 : F [0] ⟨[(4, HV.ptr 35004 v1 0), (8, HV.ptr 35008 v9 0), (48, HV.agg [HV.int .i64 p0.1, HV.int .i64 (((a54.2).length : Nat) : Int), HV.ar 20002036 w55.1 eFromLabelTo.k 0 ((a54.1).length)])], [(35004, v1, .arr 3 24 [HV.int .i64 0, HV.int .i64 0, HV.v (.slice none 0 0)]), (35008, v9, .arr 1 35 [HV.ar 35017 w55.2 (eSl eInt).k 0 ((a54.2).length)]), (35009, v10, .arr 3 24 [HV.int .i64 p0.1, HV.int .i64 (((a54.2).length : Nat) : Int), HV.ar 20002036 w55.1 eFromLabelTo.k 0 ((a54.1).length)]), (20002036, w55.1, .arr eFromLabelTo.k 56 (eFromLabelTo.E a54.1)), (35017, w55.2, .arr (eSl eInt).k 27 ((eSl eInt).E a54.2))]⟩ := by
   refine l_step hF rfl [1, 2] rfl rfl ⟨?_, ?_, trivial⟩
   ·refine l_op rfl rfl rfl (o_val rfl (v_loadP ty35 rfl rfl (l_lit rfl rfl)) ?_)
    exact b_nil (l_go hF rfl (g56_3) (le_q rfl rfl))
   ·refine l_op rfl rfl rfl (o_store (cs := [HV.int .i64 p0.1, HV.int .i64 (((a54.2).length : Nat) : Int), HV.ar 20002036 w55.1 eFromLabelTo.k 0 ((a54.1).length)]) (zs := [HV.int .i64 p0.1, HV.int .i64 (((a54.2).length : Nat) : Int), HV.ar 20002036 w55.1 eFromLabelTo.k 0 ((a54.1).length)]) rfl rfl rfl ty24 rfl rfl rfl rfl rfl ?_)
    exact b_nil (l_go hF rfl (g56_7) (le_q rfl rfl))
  have g56_2 : F [1] ⟨[(4, HV.ptr 35004 v1 0), (9, HV.ptr 35009 v10 0), (49, HV.ar 35017 w55.2 (eSl eInt).k 0 ((a54.2).length))], [(35004, v1, .arr 3 24 [HV.int .i64 0, HV.int .i64 0, HV.v (.slice none 0 0)]), (35008, v9, .arr 1 35 [HV.ar 35017 w55.2 (eSl eInt).k 0 ((a54.2).length)]), (35009, v10, .arr 3 24 [HV.int .i64 p0.1, HV.int .i64 (((a54.2).length : Nat) : Int), HV.ar 20002036 w55.1 eFromLabelTo.k 0 ((a54.1).length)]), (20002036, w55.1, .arr eFromLabelTo.k 56 (eFromLabelTo.E a54.1)), (35017, w55.2, .arr (eSl eInt).k 27 ((eSl eInt).E a54.2))]⟩ := by
   refine l_step hF rfl [0] rfl rfl ⟨?_, trivial⟩
   ·refine l_op rfl rfl rfl (o_val rfl (v_loadP ty24 rfl rfl (l_litA rfl (Nat.le_of_ble_eq_true rfl) rfl)) ?_)
    exact b_nil (l_go hF rfl (g56_3) (le_q rfl rfl))
  have g56_0 : F [] ⟨[(4, HV.ptr 35004 v1 0), (8, HV.ptr 35008 v9 0), (9, HV.ptr 35009 v10 0)], [(35004, v1, .arr 3 24 [HV.int .i64 0, HV.int .i64 0, HV.v (.slice none 0 0)]), (35008, v9, .arr 1 35 [HV.ar 35017 w55.2 (eSl eInt).k 0 ((a54.2).length)]), (35009, v10, .arr 3 24 [HV.int .i64 p0.1, HV.int .i64 (((a54.2).length : Nat) : Int), HV.ar 20002036 w55.1 eFromLabelTo.k 0 ((a54.1).length)]), (20002036, w55.1, .arr eFromLabelTo.k 56 (eFromLabelTo.E a54.1)), (35017, w55.2, .arr (eSl eInt).k 27 ((eSl eInt).E a54.2))]⟩ := by
   refine l_step hF rfl [0, 1] rfl rfl ⟨?_, ?_, trivial⟩
   ·refine l_op rfl rfl rfl (o_val rfl (v_loadP ty24 rfl rfl (l_litA rfl (Nat.le_of_ble_eq_true rfl) rfl)) ?_)
    exact b_nil (l_go hF rfl (g56_1) (le_q rfl rfl))
   ·refine l_op rfl rfl rfl (o_val rfl (v_loadP ty35 rfl rfl (l_lit rfl rfl)) ?_)
    exact b_nil (l_go hF rfl (g56_2) (le_q rfl rfl))
  exact g56_0
 ·refine AW.seq ?_
  refine AW.rgs rfl fun K hK => ?_
  refine bv rfl (v_loadP ty3 rfl rfl (l_lit rfl rfl)) ?_
  refine bv rfl (v_loadP ty35 rfl rfl (l_lit rfl rfl)) ?_
  refine bv rfl (v_lenA rfl rfl ty35 rfl rfl) ?_
  refine bv rfl (v_bin rfl rfl b_lss) ?_
  refine b_fin hK (s' := ⟨[(2, HV.fptr [HV.int .i64 p0.1, HV.int .i64 p0.2.1, slE eFromLabelTo p0.2.2] 0), (4, HV.ptr 35004 v1 0), (7, HV.ptr 35007 v5 0), (8, HV.ptr 35008 v9 0), (9, HV.ptr 35009 v10 0), (10, HV.ptr 35010 w13.2.1 0), (24, HV.bool (decide (a12.2.1 < (((a12.2.2.2).length : Nat) : Int))))], [(35004, v1, .arr 3 24 [HV.int .i64 0, HV.int .i64 0, HV.v (.slice none 0 0)]), (35007, v5, .arr 1 95 [HV.mp 35011 v2]), (35008, v9, .arr 1 35 [HV.ar 35017 w13.2.2 (eSl eInt).k 0 ((a12.2.2.2).length)]), (35009, v10, .arr 3 24 [HV.int .i64 p0.1, HV.int .i64 0, HV.ar 20002036 w13.1 eFromLabelTo.k 0 ((a12.1).length)]), (20002036, w13.1, .arr eFromLabelTo.k 56 (eFromLabelTo.E a12.1)), (35010, w13.2.1, .arr 1 3 [HV.int .i64 a12.2.1]), (35011, v2, .map (entE (HV.int .i64) a12.2.2.1)), (35017, w13.2.2, .arr (eSl eInt).k 27 ((eSl eInt).E a12.2.2.2))]⟩) (le_q rfl rfl) ?_
  clear hK K
  refine AW.cond rfl (fun hc => ?_) (fun hc => ?_)
  ·have hc := of_decide_eq_true hc
   have h := ifT hc h
   refine AW.skip ?_
   refine AW.seq (AW.block ?_)
   refine AW.dgs 6 follows rfl rfl fun K hK => ?_
   refine sv rfl (v_loadF ty24 rfl (l_litA rfl (Nat.le_of_ble_eq_true rfl) rfl)) ?_
   refine sv rfl (v_loadP ty35 rfl rfl (l_lit rfl rfl)) ?_
   refine sv rfl (v_loadP ty3 rfl rfl (l_lit rfl rfl)) ?_
   obtain ⟨x16, h17, h⟩ := bS h
   refine sv rfl (v_idxA ty35 es35 rfl rfl (idx_lt h17) rfl) ?_
   obtain ⟨x18, h19, h⟩ := bS h
   refine sv rfl (v_loadP ty27 rfl rfl (l_cell (eSl eInt) h19 (o := 0) rfl rfl)) ?_
   refine sv rfl (v_func rfl rfl) ?_
   refine s_nil ?_
   refine b_op rfl (o_callJ h (S := (List TFromLabelTo) × (List (List UInt8 × Int)) × (List (List (Int)))) (V := Nat × Nat) (fun a v => ⟨[(2, HV.fptr [HV.int .i64 p0.1, HV.int .i64 p0.2.1, slE eFromLabelTo p0.2.2] 0), (4, HV.ptr 35004 v1 0), (7, HV.ptr 35007 v5 0), (8, HV.ptr 35008 v9 0), (9, HV.ptr 35009 v10 0), (10, HV.ptr 35010 w13.2.1 0), (33, HV.tup [])], [(35004, v1, .arr 3 24 [HV.int .i64 0, HV.int .i64 0, HV.v (.slice none 0 0)]), (35007, v5, .arr 1 95 [HV.mp 35011 v2]), (35008, v9, .arr 1 35 [HV.ar 35017 v.2 (eSl eInt).k 0 ((a.2.2).length)]), (35009, v10, .arr 3 24 [HV.int .i64 p0.1, HV.int .i64 0, HV.ar 20002036 v.1 eFromLabelTo.k 0 ((a.1).length)]), (20002036, v.1, .arr eFromLabelTo.k 56 (eFromLabelTo.E a.1)), (35010, w13.2.1, .arr 1 3 [HV.int .i64 a12.2.1]), (35011, v2, .map (entE (HV.int .i64) a.2.1)), (35017, v.2, .arr (eSl eInt).k 27 ((eSl eInt).E a.2.2))]⟩) rfl rfl rfl rfl (fun a20 w21 h => ?_) (fun k22 h => ?_) )
   ·refine b_fin hK (s' := ⟨[(2, HV.fptr [HV.int .i64 p0.1, HV.int .i64 p0.2.1, slE eFromLabelTo p0.2.2] 0), (4, HV.ptr 35004 v1 0), (7, HV.ptr 35007 v5 0), (8, HV.ptr 35008 v9 0), (9, HV.ptr 35009 v10 0), (10, HV.ptr 35010 w13.2.1 0)], [(35004, v1, .arr 3 24 [HV.int .i64 0, HV.int .i64 0, HV.v (.slice none 0 0)]), (35007, v5, .arr 1 95 [HV.mp 35011 v2]), (35008, v9, .arr 1 35 [HV.ar 35017 w21.2 (eSl eInt).k 0 ((a20.2.2).length)]), (35009, v10, .arr 3 24 [HV.int .i64 p0.1, HV.int .i64 0, HV.ar 20002036 w21.1 eFromLabelTo.k 0 ((a20.1).length)]), (20002036, w21.1, .arr eFromLabelTo.k 56 (eFromLabelTo.E a20.1)), (35010, w13.2.1, .arr 1 3 [HV.int .i64 a12.2.1]), (35011, v2, .map (entE (HV.int .i64) a20.2.1)), (35017, w21.2, .arr (eSl eInt).k 27 ((eSl eInt).E a20.2.2))]⟩) (le_q rfl rfl) ?_
    clear hK K
    refine AW.seqJ h (S := Bool) (V := Unit) (fun a v => ⟨[(2, HV.fptr [HV.int .i64 p0.1, HV.int .i64 p0.2.1, slE eFromLabelTo p0.2.2] 0), (4, HV.ptr 35004 v1 0), (7, HV.ptr 35007 v5 0), (8, HV.ptr 35008 v9 0), (9, HV.ptr 35009 v10 0), (10, HV.ptr 35010 w13.2.1 0), (42, HV.bool a)], [(35004, v1, .arr 3 24 [HV.int .i64 0, HV.int .i64 0, HV.v (.slice none 0 0)]), (35007, v5, .arr 1 95 [HV.mp 35011 v2]), (35008, v9, .arr 1 35 [HV.ar 35017 w21.2 (eSl eInt).k 0 ((a20.2.2).length)]), (35009, v10, .arr 3 24 [HV.int .i64 p0.1, HV.int .i64 0, HV.ar 20002036 w21.1 eFromLabelTo.k 0 ((a20.1).length)]), (20002036, w21.1, .arr eFromLabelTo.k 56 (eFromLabelTo.E a20.1)), (35010, w13.2.1, .arr 1 3 [HV.int .i64 a12.2.1]), (35011, v2, .map (entE (HV.int .i64) a20.2.1)), (35017, w21.2, .arr (eSl eInt).k 27 ((eSl eInt).E a20.2.2))]⟩) (fun a23 w24 h => ?_) (fun k25 h => ?_)
    ·refine AW.cond rfl (fun hc => ?_) (fun hc => ?_)
     ·have h := ifT hc h
      refine AW.rgs rfl fun K hK => ?_
      refine b_op rfl (o_build (cs := [HV.int .i64 0, HV.int .i64 0, HV.v (.slice none 0 0)]) rfl (bl_of ty24 rfl rfl rfl rfl) ?_)
      refine b_op rfl (o_store (cs := [HV.int .i64 0, HV.int .i64 0, HV.v (.slice none 0 0)]) (zs := [HV.int .i64 0, HV.int .i64 0, HV.v (.slice none 0 0)]) rfl rfl rfl ty24 rfl rfl rfl rfl rfl ?_)
      refine mv rfl rfl ?_
      refine mv rfl rfl ?_
      refine b_fin hK (s' := ⟨[(4, HV.ptr 35004 v1 0), (5, HV.v (.slice none 0 0)), (6, HV.int .i64 4)], [(35004, v1, .arr 3 24 [HV.int .i64 0, HV.int .i64 0, HV.v (.slice none 0 0)])]⟩) (le_q rfl rfl) ?_
      clear hK K
      have h := hr15 _ h
      refine AW.to (to_weak ⟨[(4, HV.ptr 35004 v1 0), (5, slE (eSl eInt) ([] : List (List (Int)))), (6, HV.int .i64 4)], [(35004, v1, .arr 3 24 [HV.int .i64 0, HV.int .i64 0, HV.v (.slice none 0 0)])]⟩ ⟨⟨_, rfl, .refl _⟩, ⟨_, rfl, .nil _⟩, ⟨_, rfl, .refl _⟩, trivial⟩ ⟨rfl, trivial⟩ ?_)
      refine AW.to (to_cells 35004 v1 (ds := [HV.int .i64 0, HV.int .i64 0, slE eFromLabelTo ([] : List TFromLabelTo)]) rfl (.cons (.refl _) <| .cons (.refl _) <| .cons (.nil _) <| .nil) ?_)
      refine AW.ret ?_
      have h := Option.some.inj h
      subst h
      exact ret_pure (hs := [HV.agg [HV.int .i64 0, HV.int .i64 0, slE eFromLabelTo ([] : List TFromLabelTo)], slE (eSl eInt) ([] : List (List (Int))), HV.int .i64 4]) (q := HV.tup [HV.agg [HV.int .i64 0, HV.int .i64 0, slE eFromLabelTo ([] : List TFromLabelTo)], slE (eSl eInt) ([] : List (List (Int))), HV.int .i64 4]) (.inr rfl) (resP ty24 rfl rfl (l_litA rfl (Nat.le_of_ble_eq_true rfl) rfl) (resT rfl (resT rfl rfl))) rfl ⟨⟨trivial, trivial, (clean_slE fun _ _ => ⟨trivial, trivial, trivial, trivial⟩), trivial⟩, (clean_slE fun _ _ => ⟨(clean_slE fun _ _ => ⟨trivial, trivial⟩), trivial⟩), trivial, trivial⟩
     ·have h := ifF (bF' hc) h
      refine AW.skip ?_
      refine AW.seq ?_
      refine AW.rgs rfl fun K hK => ?_
      refine bv rfl (v_loadP ty3 rfl rfl (l_lit rfl rfl)) ?_
      refine b_fin hK (s' := ⟨[(2, HV.fptr [HV.int .i64 p0.1, HV.int .i64 p0.2.1, slE eFromLabelTo p0.2.2] 0), (4, HV.ptr 35004 v1 0), (7, HV.ptr 35007 v5 0), (8, HV.ptr 35008 v9 0), (9, HV.ptr 35009 v10 0), (44, HV.int .i64 a12.2.1)], [(35004, v1, .arr 3 24 [HV.int .i64 0, HV.int .i64 0, HV.v (.slice none 0 0)]), (35007, v5, .arr 1 95 [HV.mp 35011 v2]), (35008, v9, .arr 1 35 [HV.ar 35017 w21.2 (eSl eInt).k 0 ((a20.2.2).length)]), (35009, v10, .arr 3 24 [HV.int .i64 p0.1, HV.int .i64 0, HV.ar 20002036 w21.1 eFromLabelTo.k 0 ((a20.1).length)]), (20002036, w21.1, .arr eFromLabelTo.k 56 (eFromLabelTo.E a20.1)), (35011, v2, .map (entE (HV.int .i64) a20.2.1)), (35017, w21.2, .arr (eSl eInt).k 27 ((eSl eInt).E a20.2.2))]⟩) (le_q rfl rfl) ?_
      clear hK K
      refine AW.rg rfl fun K hK => ?_
      refine b_op rfl (o_alloc (fid := 35) (zs := [HV.int .i64 0]) 35010 rfl rfl ty3 rfl (fun v26 => ?_))
      refine b_op rfl (o_store (cs := [HV.int .i64 a12.2.1]) (zs := [HV.int .i64 a12.2.1]) rfl rfl rfl ty3 rfl rfl rfl rfl rfl ?_)
      refine b_fin hK (s' := ⟨[(2, HV.fptr [HV.int .i64 p0.1, HV.int .i64 p0.2.1, slE eFromLabelTo p0.2.2] 0), (4, HV.ptr 35004 v1 0), (7, HV.ptr 35007 v5 0), (8, HV.ptr 35008 v9 0), (9, HV.ptr 35009 v10 0), (10, HV.ptr 35010 v26 0)], [(35004, v1, .arr 3 24 [HV.int .i64 0, HV.int .i64 0, HV.v (.slice none 0 0)]), (35007, v5, .arr 1 95 [HV.mp 35011 v2]), (35008, v9, .arr 1 35 [HV.ar 35017 w21.2 (eSl eInt).k 0 ((a20.2.2).length)]), (35009, v10, .arr 3 24 [HV.int .i64 p0.1, HV.int .i64 0, HV.ar 20002036 w21.1 eFromLabelTo.k 0 ((a20.1).length)]), (20002036, w21.1, .arr eFromLabelTo.k 56 (eFromLabelTo.E a20.1)), (35011, v2, .map (entE (HV.int .i64) a20.2.1)), (35017, w21.2, .arr (eSl eInt).k 27 ((eSl eInt).E a20.2.2)), (35010, v26, .arr 1 3 [HV.int .i64 a12.2.1])]⟩) (le_q rfl rfl) ?_
      clear hK K
      refine AW.rg rfl fun K hK => ?_
      refine bv rfl (v_loadP ty3 rfl rfl (l_lit rfl rfl)) ?_
      refine bv rfl (v_bin rfl rfl b_add) ?_
      refine b_op rfl (o_store (cs := [HV.int .i64 (IntKind.wrap .i64 (a12.2.1 + 1))]) (zs := [HV.int .i64 (IntKind.wrap .i64 (a12.2.1 + 1))]) rfl rfl rfl ty3 rfl rfl rfl rfl rfl ?_)
      refine b_nil (hK _ ?_)
      clear hK K
      exact to_le (s' := ⟨[(2, HV.fptr [HV.int .i64 p0.1, HV.int .i64 p0.2.1, slE eFromLabelTo p0.2.2] 0), (4, HV.ptr 35004 v1 0), (7, HV.ptr 35007 v5 0), (8, HV.ptr 35008 v9 0), (9, HV.ptr 35009 v10 0), (10, HV.ptr 35010 v26 0)], [(35004, v1, .arr 3 24 [HV.int .i64 0, HV.int .i64 0, HV.v (.slice none 0 0)]), (35007, v5, .arr 1 95 [HV.mp 35011 v2]), (35008, v9, .arr 1 35 [HV.ar 35017 w21.2 (eSl eInt).k 0 ((a20.2.2).length)]), (35009, v10, .arr 3 24 [HV.int .i64 p0.1, HV.int .i64 0, HV.ar 20002036 w21.1 eFromLabelTo.k 0 ((a20.1).length)]), (20002036, w21.1, .arr eFromLabelTo.k 56 (eFromLabelTo.E a20.1)), (35010, v26, .arr 1 3 [HV.int .i64 (IntKind.wrap .i64 (a12.2.1 + 1))]), (35011, v2, .map (entE (HV.int .i64) a20.2.1)), (35017, w21.2, .arr (eSl eInt).k 27 ((eSl eInt).E a20.2.2))]⟩) (AS.le_of ⟨rfl, rfl, rfl, rfl, rfl, rfl, trivial⟩ ⟨rfl, rfl, rfl, rfl, rfl, rfl, rfl, rfl, trivial⟩) ⟨(a20.1, IntKind.wrap .i64 (a12.2.1 + 1), a20.2.1, a20.2.2), (w21.1, v26, w21.2), h, rfl⟩
    ·refine AW.rg rfl fun K hK => ?_
     refine bv rfl (v_loadP ty35 rfl rfl (l_lit rfl rfl)) ?_
     refine bv rfl (v_lenA rfl rfl ty35 rfl rfl) ?_
     refine bv rfl (v_bin rfl rfl b_gtr) ?_
     refine mv rfl rfl ?_
     by_cases hg27 : 64 < (((a20.2.2).length : Nat) : Int)
     ·have h := ifT hg27 h
      refine b_F rfl rfl rfl rfl rfl (decide_eq_true hg27) ?_
      refine b_F rfl rfl rfl rfl rfl rfl ?_
      refine b_F rfl rfl rfl rfl rfl rfl ?_
      refine b_F rfl rfl rfl rfl rfl rfl ?_
      refine bv rfl (v_pickT rfl rfl rfl) ?_
      refine b_nil (hK _ ?_)
      clear hK K
      exact to_le (s' := ⟨[(2, HV.fptr [HV.int .i64 p0.1, HV.int .i64 p0.2.1, slE eFromLabelTo p0.2.2] 0), (4, HV.ptr 35004 v1 0), (7, HV.ptr 35007 v5 0), (8, HV.ptr 35008 v9 0), (9, HV.ptr 35009 v10 0), (10, HV.ptr 35010 w13.2.1 0), (42, HV.bool true)], [(35004, v1, .arr 3 24 [HV.int .i64 0, HV.int .i64 0, HV.v (.slice none 0 0)]), (35007, v5, .arr 1 95 [HV.mp 35011 v2]), (35008, v9, .arr 1 35 [HV.ar 35017 w21.2 (eSl eInt).k 0 ((a20.2.2).length)]), (35009, v10, .arr 3 24 [HV.int .i64 p0.1, HV.int .i64 0, HV.ar 20002036 w21.1 eFromLabelTo.k 0 ((a20.1).length)]), (20002036, w21.1, .arr eFromLabelTo.k 56 (eFromLabelTo.E a20.1)), (35010, w13.2.1, .arr 1 3 [HV.int .i64 a12.2.1]), (35011, v2, .map (entE (HV.int .i64) a20.2.1)), (35017, w21.2, .arr (eSl eInt).k 27 ((eSl eInt).E a20.2.2))]⟩) (AS.le_of ⟨rfl, rfl, rfl, rfl, rfl, rfl, rfl, trivial⟩ ⟨rfl, rfl, rfl, rfl, rfl, rfl, rfl, rfl, trivial⟩) ⟨true, (), h, rfl⟩
     ·have h := ifF hg27 h
      refine b_T rfl rfl rfl rfl (decide_eq_false hg27) (o_val rfl (v_fieldAddrP fo24_2 rfl rfl) ?_)
      refine b_T rfl rfl rfl rfl rfl (o_val rfl (v_loadP ty22 rfl rfl (l_lit rfl rfl)) ?_)
      refine b_T rfl rfl rfl rfl rfl (o_val rfl (v_lenA rfl rfl ty22 rfl rfl) ?_)
      refine b_T rfl rfl rfl rfl rfl (o_val rfl (v_bin rfl rfl b_gtr) ?_)
      refine bv rfl (v_pickF rfl rfl rfl) ?_
      refine b_nil (hK _ ?_)
      clear hK K
      exact to_le (s' := ⟨[(2, HV.fptr [HV.int .i64 p0.1, HV.int .i64 p0.2.1, slE eFromLabelTo p0.2.2] 0), (4, HV.ptr 35004 v1 0), (7, HV.ptr 35007 v5 0), (8, HV.ptr 35008 v9 0), (9, HV.ptr 35009 v10 0), (10, HV.ptr 35010 w13.2.1 0), (42, HV.bool (decide (1024 < (((a20.1).length : Nat) : Int))))], [(35004, v1, .arr 3 24 [HV.int .i64 0, HV.int .i64 0, HV.v (.slice none 0 0)]), (35007, v5, .arr 1 95 [HV.mp 35011 v2]), (35008, v9, .arr 1 35 [HV.ar 35017 w21.2 (eSl eInt).k 0 ((a20.2.2).length)]), (35009, v10, .arr 3 24 [HV.int .i64 p0.1, HV.int .i64 0, HV.ar 20002036 w21.1 eFromLabelTo.k 0 ((a20.1).length)]), (20002036, w21.1, .arr eFromLabelTo.k 56 (eFromLabelTo.E a20.1)), (35010, w13.2.1, .arr 1 3 [HV.int .i64 a12.2.1]), (35011, v2, .map (entE (HV.int .i64) a20.2.1)), (35017, w21.2, .arr (eSl eInt).k 27 ((eSl eInt).E a20.2.2))]⟩) (AS.le_of ⟨rfl, rfl, rfl, rfl, rfl, rfl, rfl, trivial⟩ ⟨rfl, rfl, rfl, rfl, rfl, rfl, rfl, rfl, trivial⟩) ⟨decide (1024 < (((a20.1).length : Nat) : Int)), (), h, rfl⟩
   ·refine ACall.of_body Tryz.func59 rfl rfl (Nat.le_of_ble_eq_true rfl) ?_
    unfold Tryz.f59
    dsimp only [enumS, Nat.reduceAdd]
    refine AW.fin ?_
    refine AW.rgs rfl fun K hK => ?_
    refine b_op rfl (o_box rfl rfl rfl ?_)
    refine b_fin hK (s' := ⟨[(1, slE eInt x18), (2, HV.fn (.func 60) [] [HV.ptr 35007 v5 0, HV.ptr 35008 v9 0, HV.ptr 35009 v10 0, HV.ptr 35010 w13.2.1 0]), (3, HV.fptr [HV.int .i64 p0.1, HV.int .i64 p0.2.1, slE eFromLabelTo p0.2.2] 0)], [(35004, v1, .arr 3 24 [HV.int .i64 0, HV.int .i64 0, HV.v (.slice none 0 0)]), (35007, v5, .arr 1 95 [HV.mp 35011 v2]), (35008, v9, .arr 1 35 [HV.ar 35017 w13.2.2 (eSl eInt).k 0 ((a12.2.2.2).length)]), (35009, v10, .arr 3 24 [HV.int .i64 p0.1, HV.int .i64 0, HV.ar 20002036 w13.1 eFromLabelTo.k 0 ((a12.1).length)]), (20002036, w13.1, .arr eFromLabelTo.k 56 (eFromLabelTo.E a12.1)), (35010, w13.2.1, .arr 1 3 [HV.int .i64 a12.2.1]), (35011, v2, .map (entE (HV.int .i64) a12.2.2.1)), (35017, w13.2.2, .arr (eSl eInt).k 27 ((eSl eInt).E a12.2.2.2))]⟩) (le_q rfl rfl) ?_
    clear hK K
    refine AW.rgs rfl fun K hK => ?_
    refine bv rfl (v_fieldAddrF fo24_0 rfl) ?_
    refine bv rfl (v_loadF ty3 rfl (l_lit rfl rfl)) ?_
    refine mv rfl rfl ?_
    refine b_fin hK (s' := ⟨[(1, slE eInt x18), (2, HV.fn (.func 60) [] [HV.ptr 35007 v5 0, HV.ptr 35008 v9 0, HV.ptr 35009 v10 0, HV.ptr 35010 w13.2.1 0]), (3, HV.fptr [HV.int .i64 p0.1, HV.int .i64 p0.2.1, slE eFromLabelTo p0.2.2] 0), (10, HV.int .i64 p0.1), (11, HV.int .i64 0)], [(35004, v1, .arr 3 24 [HV.int .i64 0, HV.int .i64 0, HV.v (.slice none 0 0)]), (35007, v5, .arr 1 95 [HV.mp 35011 v2]), (35008, v9, .arr 1 35 [HV.ar 35017 w13.2.2 (eSl eInt).k 0 ((a12.2.2.2).length)]), (35009, v10, .arr 3 24 [HV.int .i64 p0.1, HV.int .i64 0, HV.ar 20002036 w13.1 eFromLabelTo.k 0 ((a12.1).length)]), (20002036, w13.1, .arr eFromLabelTo.k 56 (eFromLabelTo.E a12.1)), (35010, w13.2.1, .arr 1 3 [HV.int .i64 a12.2.1]), (35011, v2, .map (entE (HV.int .i64) a12.2.2.1)), (35017, w13.2.2, .arr (eSl eInt).k 27 ((eSl eInt).E a12.2.2.2))]⟩) (le_q rfl rfl) ?_
    clear hK K
    refine AW.lpX h (by first | exact up_then | exact up_to) (S := Int × (List TFromLabelTo) × (List (List UInt8 × Int)) × (List (List (Int)))) (V := Nat × Nat) (fun a v => ⟨[(1, slE eInt x18), (2, HV.fn (.func 60) [] [HV.ptr 35007 v5 0, HV.ptr 35008 v9 0, HV.ptr 35009 v10 0, HV.ptr 35010 w13.2.1 0]), (3, HV.fptr [HV.int .i64 p0.1, HV.int .i64 p0.2.1, slE eFromLabelTo p0.2.2] 0), (10, HV.int .i64 p0.1), (11, HV.int .i64 a.1)], [(20002036, v.1, .arr eFromLabelTo.k 56 (eFromLabelTo.E a.2.1)), (35004, v1, .arr 3 24 [HV.int .i64 0, HV.int .i64 0, HV.v (.slice none 0 0)]), (35007, v5, .arr 1 95 [HV.mp 35011 v2]), (35008, v9, .arr 1 35 [HV.ar 35017 v.2 (eSl eInt).k 0 ((a.2.2.2).length)]), (35009, v10, .arr 3 24 [HV.int .i64 p0.1, HV.int .i64 0, HV.ar 20002036 v.1 eFromLabelTo.k 0 ((a.2.1).length)]), (35010, w13.2.1, .arr 1 3 [HV.int .i64 a12.2.1]), (35011, v2, .map (entE (HV.int .i64) a.2.2.1)), (35017, v.2, .arr (eSl eInt).k 27 ((eSl eInt).E a.2.2.2))]⟩) ?_ (X := (List TFromLabelTo) × (List (List UInt8 × Int)) × (List (List (Int)))) (W := Nat × Nat) (fun a v => ⟨[], [(20002036, v.1, .arr eFromLabelTo.k 56 (eFromLabelTo.E a.1)), (35004, v1, .arr 3 24 [HV.int .i64 0, HV.int .i64 0, HV.v (.slice none 0 0)]), (35007, v5, .arr 1 95 [HV.mp 35011 v2]), (35008, v9, .arr 1 35 [HV.ar 35017 v.2 (eSl eInt).k 0 ((a.2.2).length)]), (35009, v10, .arr 3 24 [HV.int .i64 p0.1, HV.int .i64 0, HV.ar 20002036 v.1 eFromLabelTo.k 0 ((a.1).length)]), (35010, w13.2.1, .arr 1 3 [HV.int .i64 a12.2.1]), (35011, v2, .map (entE (HV.int .i64) a.2.1)), (35017, v.2, .arr (eSl eInt).k 27 ((eSl eInt).E a.2.2))]⟩) (fun a51 w52 h => ?_) (fun a28 w29 st30 h => ?_)
    ·exact to_le (s' := ⟨[(1, slE eInt x18), (2, HV.fn (.func 60) [] [HV.ptr 35007 v5 0, HV.ptr 35008 v9 0, HV.ptr 35009 v10 0, HV.ptr 35010 w13.2.1 0]), (3, HV.fptr [HV.int .i64 p0.1, HV.int .i64 p0.2.1, slE eFromLabelTo p0.2.2] 0), (10, HV.int .i64 p0.1), (11, HV.int .i64 0)], [(20002036, w13.1, .arr eFromLabelTo.k 56 (eFromLabelTo.E a12.1)), (35004, v1, .arr 3 24 [HV.int .i64 0, HV.int .i64 0, HV.v (.slice none 0 0)]), (35007, v5, .arr 1 95 [HV.mp 35011 v2]), (35008, v9, .arr 1 35 [HV.ar 35017 w13.2.2 (eSl eInt).k 0 ((a12.2.2.2).length)]), (35009, v10, .arr 3 24 [HV.int .i64 p0.1, HV.int .i64 0, HV.ar 20002036 w13.1 eFromLabelTo.k 0 ((a12.1).length)]), (35010, w13.2.1, .arr 1 3 [HV.int .i64 a12.2.1]), (35011, v2, .map (entE (HV.int .i64) a12.2.2.1)), (35017, w13.2.2, .arr (eSl eInt).k 27 ((eSl eInt).E a12.2.2.2))]⟩) (AS.le_of ⟨rfl, rfl, rfl, rfl, rfl, trivial⟩ ⟨rfl, rfl, rfl, rfl, rfl, rfl, rfl, rfl, trivial⟩) ⟨(w13.1, w13.2.2), rfl⟩
    ·refine to_refl ?_
     refine ret_to (hs := []) (q := HV.tup []) (.inl rfl) rfl rfl ?_
     exact to_le (s' := ⟨[(2, HV.fptr [HV.int .i64 p0.1, HV.int .i64 p0.2.1, slE eFromLabelTo p0.2.2] 0), (4, HV.ptr 35004 v1 0), (7, HV.ptr 35007 v5 0), (8, HV.ptr 35008 v9 0), (9, HV.ptr 35009 v10 0), (10, HV.ptr 35010 w13.2.1 0), (33, HV.tup [])], [(35004, v1, .arr 3 24 [HV.int .i64 0, HV.int .i64 0, HV.v (.slice none 0 0)]), (35007, v5, .arr 1 95 [HV.mp 35011 v2]), (35008, v9, .arr 1 35 [HV.ar 35017 w52.2 (eSl eInt).k 0 ((a51.2.2).length)]), (35009, v10, .arr 3 24 [HV.int .i64 p0.1, HV.int .i64 0, HV.ar 20002036 w52.1 eFromLabelTo.k 0 ((a51.1).length)]), (20002036, w52.1, .arr eFromLabelTo.k 56 (eFromLabelTo.E a51.1)), (35010, w13.2.1, .arr 1 3 [HV.int .i64 a12.2.1]), (35011, v2, .map (entE (HV.int .i64) a51.2.1)), (35017, w52.2, .arr (eSl eInt).k 27 ((eSl eInt).E a51.2.2))]⟩) (AS.le_of ⟨rfl, rfl, rfl, rfl, rfl, rfl, rfl, trivial⟩ ⟨rfl, rfl, rfl, rfl, rfl, rfl, rfl, rfl, trivial⟩) ⟨(a51.1, a51.2.1, a51.2.2), (w52.1, w52.2), h, rfl⟩
    ·refine AW.rgs rfl fun K hK => ?_
     refine bv rfl (v_bin rfl rfl b_lss) ?_
     refine b_fin hK (s' := ⟨[(1, slE eInt x18), (2, HV.fn (.func 60) [] [HV.ptr 35007 v5 0, HV.ptr 35008 v9 0, HV.ptr 35009 v10 0, HV.ptr 35010 w13.2.1 0]), (3, HV.fptr [HV.int .i64 p0.1, HV.int .i64 p0.2.1, slE eFromLabelTo p0.2.2] 0), (10, HV.int .i64 p0.1), (11, HV.int .i64 a28.1), (12, HV.bool (decide (a28.1 < p0.1)))], [(20002036, w29.1, .arr eFromLabelTo.k 56 (eFromLabelTo.E a28.2.1)), (35004, v1, .arr 3 24 [HV.int .i64 0, HV.int .i64 0, HV.v (.slice none 0 0)]), (35007, v5, .arr 1 95 [HV.mp 35011 v2]), (35008, v9, .arr 1 35 [HV.ar 35017 w29.2 (eSl eInt).k 0 ((a28.2.2.2).length)]), (35009, v10, .arr 3 24 [HV.int .i64 p0.1, HV.int .i64 0, HV.ar 20002036 w29.1 eFromLabelTo.k 0 ((a28.2.1).length)]), (35010, w13.2.1, .arr 1 3 [HV.int .i64 a12.2.1]), (35011, v2, .map (entE (HV.int .i64) a28.2.2.1)), (35017, w29.2, .arr (eSl eInt).k 27 ((eSl eInt).E a28.2.2.2))]⟩) (le_q rfl rfl) ?_
     clear hK K
     refine AW.cseq rfl (fun hc => ?_) (fun hc => ?_)
     ·have hc := of_decide_eq_true hc
      have h := ifT hc h
      refine AW.skip ?_
      refine AW.seqJ h (S := (List TFromLabelTo) × (List (List UInt8 × Int)) × (List (List (Int)))) (V := Nat × Nat) (fun a v => ⟨[(1, slE eInt x18), (2, HV.fn (.func 60) [] [HV.ptr 35007 v5 0, HV.ptr 35008 v9 0, HV.ptr 35009 v10 0, HV.ptr 35010 w13.2.1 0]), (3, HV.fptr [HV.int .i64 p0.1, HV.int .i64 p0.2.1, slE eFromLabelTo p0.2.2] 0), (10, HV.int .i64 p0.1), (11, HV.int .i64 a28.1)], [(20002036, v.1, .arr eFromLabelTo.k 56 (eFromLabelTo.E a.1)), (35004, v1, .arr 3 24 [HV.int .i64 0, HV.int .i64 0, HV.v (.slice none 0 0)]), (35007, v5, .arr 1 95 [HV.mp 35011 v2]), (35008, v9, .arr 1 35 [HV.ar 35017 v.2 (eSl eInt).k 0 ((a.2.2).length)]), (35009, v10, .arr 3 24 [HV.int .i64 p0.1, HV.int .i64 0, HV.ar 20002036 v.1 eFromLabelTo.k 0 ((a.1).length)]), (35010, w13.2.1, .arr 1 3 [HV.int .i64 a12.2.1]), (35011, v2, .map (entE (HV.int .i64) a.2.1)), (35017, v.2, .arr (eSl eInt).k 27 ((eSl eInt).E a.2.2))]⟩) (fun a32 w33 h => ?_) (fun k34 h => ?_)
      ·refine AW.rg rfl fun K hK => ?_
       refine bv rfl (v_bin rfl rfl b_add) ?_
       refine mv rfl rfl ?_
       refine b_nil (hK _ ?_)
       clear hK K
       exact to_le (s' := ⟨[(1, slE eInt x18), (2, HV.fn (.func 60) [] [HV.ptr 35007 v5 0, HV.ptr 35008 v9 0, HV.ptr 35009 v10 0, HV.ptr 35010 w13.2.1 0]), (3, HV.fptr [HV.int .i64 p0.1, HV.int .i64 p0.2.1, slE eFromLabelTo p0.2.2] 0), (10, HV.int .i64 p0.1), (11, HV.int .i64 (IntKind.wrap .i64 (a28.1 + 1)))], [(20002036, w33.1, .arr eFromLabelTo.k 56 (eFromLabelTo.E a32.1)), (35004, v1, .arr 3 24 [HV.int .i64 0, HV.int .i64 0, HV.v (.slice none 0 0)]), (35007, v5, .arr 1 95 [HV.mp 35011 v2]), (35008, v9, .arr 1 35 [HV.ar 35017 w33.2 (eSl eInt).k 0 ((a32.2.2).length)]), (35009, v10, .arr 3 24 [HV.int .i64 p0.1, HV.int .i64 0, HV.ar 20002036 w33.1 eFromLabelTo.k 0 ((a32.1).length)]), (35010, w13.2.1, .arr 1 3 [HV.int .i64 a12.2.1]), (35011, v2, .map (entE (HV.int .i64) a32.2.1)), (35017, w33.2, .arr (eSl eInt).k 27 ((eSl eInt).E a32.2.2))]⟩) (AS.le_of ⟨rfl, rfl, rfl, rfl, rfl, trivial⟩ ⟨rfl, rfl, rfl, rfl, rfl, rfl, rfl, rfl, trivial⟩) ⟨(IntKind.wrap .i64 (a28.1 + 1), a32.1, a32.2.1, a32.2.2), (w33.1, w33.2), h, rfl⟩
      ·refine AW.block ?_
       refine AW.rgs rfl fun K hK => ?_
       refine mv rfl rfl ?_
       refine mv rfl rfl ?_
       refine b_fin hK (s' := ⟨[(1, slE eInt x18), (2, HV.fn (.func 60) [] [HV.ptr 35007 v5 0, HV.ptr 35008 v9 0, HV.ptr 35009 v10 0, HV.ptr 35010 w13.2.1 0]), (3, HV.fptr [HV.int .i64 p0.1, HV.int .i64 p0.2.1, slE eFromLabelTo p0.2.2] 0), (6, HV.int .i64 a28.1), (10, HV.int .i64 p0.1), (11, HV.int .i64 a28.1)], [(20002036, w29.1, .arr eFromLabelTo.k 56 (eFromLabelTo.E a28.2.1)), (35004, v1, .arr 3 24 [HV.int .i64 0, HV.int .i64 0, HV.v (.slice none 0 0)]), (35007, v5, .arr 1 95 [HV.mp 35011 v2]), (35008, v9, .arr 1 35 [HV.ar 35017 w29.2 (eSl eInt).k 0 ((a28.2.2.2).length)]), (35009, v10, .arr 3 24 [HV.int .i64 p0.1, HV.int .i64 0, HV.ar 20002036 w29.1 eFromLabelTo.k 0 ((a28.2.1).length)]), (35010, w13.2.1, .arr 1 3 [HV.int .i64 a12.2.1]), (35011, v2, .map (entE (HV.int .i64) a28.2.2.1)), (35017, w29.2, .arr (eSl eInt).k 27 ((eSl eInt).E a28.2.2.2))]⟩) (le_q rfl rfl) ?_
       clear hK K
       refine AW.rgs rfl fun K hK => ?_
       refine bv rfl (v_loadF ty24 rfl (l_litA rfl (Nat.le_of_ble_eq_true rfl) rfl)) ?_
       refine mv rfl rfl ?_
       refine mv rfl rfl ?_
       obtain ⟨x35, h36, h⟩ := bS h
       refine b_op rfl (o_call rfl rfl rfl rfl (ACallD.pure0 (w_graph_Step h36)) ?_)
       refine mv rfl rfl ?_
       refine bv rfl (v_extract rfl rfl) ?_
       refine bv rfl (v_extract rfl rfl) ?_
       refine mv rfl rfl ?_
       refine mv rfl rfl ?_
       refine b_fin hK (s' := ⟨[(1, slE eInt x18), (2, HV.fn (.func 60) [] [HV.ptr 35007 v5 0, HV.ptr 35008 v9 0, HV.ptr 35009 v10 0, HV.ptr 35010 w13.2.1 0]), (3, HV.fptr [HV.int .i64 p0.1, HV.int .i64 p0.2.1, slE eFromLabelTo p0.2.2] 0), (6, HV.int .i64 a28.1), (7, slE eInt x35.1), (10, HV.int .i64 p0.1), (11, HV.int .i64 a28.1)], [(20002036, w29.1, .arr eFromLabelTo.k 56 (eFromLabelTo.E a28.2.1)), (35004, v1, .arr 3 24 [HV.int .i64 0, HV.int .i64 0, HV.v (.slice none 0 0)]), (35007, v5, .arr 1 95 [HV.mp 35011 v2]), (35008, v9, .arr 1 35 [HV.ar 35017 w29.2 (eSl eInt).k 0 ((a28.2.2.2).length)]), (35009, v10, .arr 3 24 [HV.int .i64 p0.1, HV.int .i64 0, HV.ar 20002036 w29.1 eFromLabelTo.k 0 ((a28.2.1).length)]), (35010, w13.2.1, .arr 1 3 [HV.int .i64 a12.2.1]), (35011, v2, .map (entE (HV.int .i64) a28.2.2.1)), (35017, w29.2, .arr (eSl eInt).k 27 ((eSl eInt).E a28.2.2.2))]⟩) (le_q rfl rfl) ?_
       clear hK K
       refine AW.rgs rfl fun K hK => ?_
       refine mv rfl rfl ?_
       refine bv rfl (v_lenF rfl rfl ty27 rfl) ?_
       refine bv rfl (v_bin rfl rfl b_gtr) ?_
       refine b_fin hK (s' := ⟨[(1, slE eInt x18), (2, HV.fn (.func 60) [] [HV.ptr 35007 v5 0, HV.ptr 35008 v9 0, HV.ptr 35009 v10 0, HV.ptr 35010 w13.2.1 0]), (3, HV.fptr [HV.int .i64 p0.1, HV.int .i64 p0.2.1, slE eFromLabelTo p0.2.2] 0), (6, HV.int .i64 a28.1), (7, slE eInt x35.1), (10, HV.int .i64 p0.1), (11, HV.int .i64 a28.1), (23, HV.bool (decide (0 < ((x35.1).length : Int))))], [(20002036, w29.1, .arr eFromLabelTo.k 56 (eFromLabelTo.E a28.2.1)), (35004, v1, .arr 3 24 [HV.int .i64 0, HV.int .i64 0, HV.v (.slice none 0 0)]), (35007, v5, .arr 1 95 [HV.mp 35011 v2]), (35008, v9, .arr 1 35 [HV.ar 35017 w29.2 (eSl eInt).k 0 ((a28.2.2.2).length)]), (35009, v10, .arr 3 24 [HV.int .i64 p0.1, HV.int .i64 0, HV.ar 20002036 w29.1 eFromLabelTo.k 0 ((a28.2.1).length)]), (35010, w13.2.1, .arr 1 3 [HV.int .i64 a12.2.1]), (35011, v2, .map (entE (HV.int .i64) a28.2.2.1)), (35017, w29.2, .arr (eSl eInt).k 27 ((eSl eInt).E a28.2.2.2))]⟩) (le_q rfl rfl) ?_
       clear hK K
       refine AW.cond rfl (fun hc => ?_) (fun hc => ?_)
       ·have hc := of_decide_eq_true hc
        have h := ifT hc h
        refine AW.rg rfl fun K hK => ?_
        refine mv rfl rfl ?_
        refine mv rfl rfl ?_
        refine mv rfl rfl ?_
        refine b_op rfl (o_callJ h (S := (List TFromLabelTo) × (List (List UInt8 × Int)) × (List (List (Int)))) (V := Nat × Nat) (fun a v => ⟨[(1, slE eInt x18), (2, HV.fn (.func 60) [] [HV.ptr 35007 v5 0, HV.ptr 35008 v9 0, HV.ptr 35009 v10 0, HV.ptr 35010 w13.2.1 0]), (3, HV.fptr [HV.int .i64 p0.1, HV.int .i64 p0.2.1, slE eFromLabelTo p0.2.2] 0), (10, HV.int .i64 p0.1), (11, HV.int .i64 a28.1), (27, HV.tup [])], [(20002036, v.1, .arr eFromLabelTo.k 56 (eFromLabelTo.E a.1)), (35004, v1, .arr 3 24 [HV.int .i64 0, HV.int .i64 0, HV.v (.slice none 0 0)]), (35007, v5, .arr 1 95 [HV.mp 35011 v2]), (35008, v9, .arr 1 35 [HV.ar 35017 v.2 (eSl eInt).k 0 ((a.2.2).length)]), (35009, v10, .arr 3 24 [HV.int .i64 p0.1, HV.int .i64 0, HV.ar 20002036 v.1 eFromLabelTo.k 0 ((a.1).length)]), (35010, w13.2.1, .arr 1 3 [HV.int .i64 a12.2.1]), (35011, v2, .map (entE (HV.int .i64) a.2.1)), (35017, v.2, .arr (eSl eInt).k 27 ((eSl eInt).E a.2.2))]⟩) rfl rfl rfl rfl (fun a37 w38 h => ?_) (fun k39 h => ?_) )
        ·refine b_nil (hK _ ?_)
         clear hK K
         exact to_le (s' := ⟨[(1, slE eInt x18), (2, HV.fn (.func 60) [] [HV.ptr 35007 v5 0, HV.ptr 35008 v9 0, HV.ptr 35009 v10 0, HV.ptr 35010 w13.2.1 0]), (3, HV.fptr [HV.int .i64 p0.1, HV.int .i64 p0.2.1, slE eFromLabelTo p0.2.2] 0), (10, HV.int .i64 p0.1), (11, HV.int .i64 a28.1)], [(20002036, w38.1, .arr eFromLabelTo.k 56 (eFromLabelTo.E a37.1)), (35004, v1, .arr 3 24 [HV.int .i64 0, HV.int .i64 0, HV.v (.slice none 0 0)]), (35007, v5, .arr 1 95 [HV.mp 35011 v2]), (35008, v9, .arr 1 35 [HV.ar 35017 w38.2 (eSl eInt).k 0 ((a37.2.2).length)]), (35009, v10, .arr 3 24 [HV.int .i64 p0.1, HV.int .i64 0, HV.ar 20002036 w38.1 eFromLabelTo.k 0 ((a37.1).length)]), (35010, w13.2.1, .arr 1 3 [HV.int .i64 a12.2.1]), (35011, v2, .map (entE (HV.int .i64) a37.2.1)), (35017, w38.2, .arr (eSl eInt).k 27 ((eSl eInt).E a37.2.2))]⟩) (AS.le_of ⟨rfl, rfl, rfl, rfl, rfl, trivial⟩ ⟨rfl, rfl, rfl, rfl, rfl, rfl, rfl, rfl, trivial⟩) ⟨(a37.1, a37.2.1, a37.2.2), (w38.1, w38.2), h, rfl⟩
        ·refine ACall.of_body Tryz.func60 rfl rfl (Nat.le_of_ble_eq_true rfl) ?_
         unfold Tryz.f60
         dsimp only [enumS, Nat.reduceAdd]
         refine AW.fin ?_
         refine AW.dys follows fun K hK => ?_
         refine y_st 3 rfl rfl ?_
         refine sv rfl (v_loadP ty95 rfl rfl (l_lit rfl rfl)) ?_
         refine sm rfl rfl ?_
         obtain ⟨x40, h41, h⟩ := bS h
         refine s_op rfl rfl (ops_call rfl rfl rfl rfl (ACallD.pure0 (w_subset_key h41)) ?_)
         refine s_nil ?_
         refine y_opX rfl rfl rfl rfl (fun hN => o_lookOk hN (HV.int .i64) (es := a28.2.2.1) (k := x40) (v := (mlook x40 a28.2.2.1).getD 0) rfl ty95 ty9 ty3 rfl rfl rfl rfl (look_dflt rfl) ?_)
         refine b_nil ?_
         refine y_st 9 rfl rfl ?_
         refine sm rfl rfl ?_
         refine sv rfl (v_extract rfl rfl) ?_
         refine sv rfl (v_extract rfl rfl) ?_
         refine sm rfl rfl ?_
         refine sm rfl rfl ?_
         refine s_nil ?_
         refine y_nil rfl (hK _ (AW.to (to_le (s' := ⟨[(0, HV.int .i64 a28.1), (1, slE eInt x35.1), (2, HV.ptr 35007 v5 0), (3, HV.ptr 35008 v9 0), (4, HV.ptr 35009 v10 0), (5, HV.ptr 35010 w13.2.1 0), (8, HV.int .i64 ((mlook x40 a28.2.2.1).getD 0)), (9, HV.bool ((mlook x40 a28.2.2.1).isSome))], [(20002036, w29.1, .arr eFromLabelTo.k 56 (eFromLabelTo.E a28.2.1)), (35004, v1, .arr 3 24 [HV.int .i64 0, HV.int .i64 0, HV.v (.slice none 0 0)]), (35007, v5, .arr 1 95 [HV.mp 35011 v2]), (35008, v9, .arr 1 35 [HV.ar 35017 w29.2 (eSl eInt).k 0 ((a28.2.2.2).length)]), (35009, v10, .arr 3 24 [HV.int .i64 p0.1, HV.int .i64 0, HV.ar 20002036 w29.1 eFromLabelTo.k 0 ((a28.2.1).length)]), (35010, w13.2.1, .arr 1 3 [HV.int .i64 a12.2.1]), (35011, v2, .map (entE (HV.int .i64) a28.2.2.1)), (35017, w29.2, .arr (eSl eInt).k 27 ((eSl eInt).E a28.2.2.2))]⟩) (le_q rfl rfl) ?_)))
         clear hK K
         refine AW.seq ?_
         refine AW.rgs rfl fun K hK => ?_
         refine mv rfl rfl ?_
         refine bv rfl (v_not rfl) ?_
         refine b_fin hK (s' := ⟨[(0, HV.int .i64 a28.1), (1, slE eInt x35.1), (2, HV.ptr 35007 v5 0), (3, HV.ptr 35008 v9 0), (4, HV.ptr 35009 v10 0), (5, HV.ptr 35010 w13.2.1 0), (8, HV.int .i64 ((mlook x40 a28.2.2.1).getD 0)), (18, HV.bool (!((mlook x40 a28.2.2.1).isSome)))], [(20002036, w29.1, .arr eFromLabelTo.k 56 (eFromLabelTo.E a28.2.1)), (35004, v1, .arr 3 24 [HV.int .i64 0, HV.int .i64 0, HV.v (.slice none 0 0)]), (35007, v5, .arr 1 95 [HV.mp 35011 v2]), (35008, v9, .arr 1 35 [HV.ar 35017 w29.2 (eSl eInt).k 0 ((a28.2.2.2).length)]), (35009, v10, .arr 3 24 [HV.int .i64 p0.1, HV.int .i64 0, HV.ar 20002036 w29.1 eFromLabelTo.k 0 ((a28.2.1).length)]), (35010, w13.2.1, .arr 1 3 [HV.int .i64 a12.2.1]), (35011, v2, .map (entE (HV.int .i64) a28.2.2.1)), (35017, w29.2, .arr (eSl eInt).k 27 ((eSl eInt).E a28.2.2.2))]⟩) (le_q rfl rfl) ?_
         clear hK K
         refine AW.lastJ h (by first | exact up_then | exact up_to) (S := Int × (List (List UInt8 × Int)) × (List (List (Int)))) (V := Nat) (fun a v => ⟨[(0, HV.int .i64 a28.1), (4, HV.ptr 35009 v10 0), (5, HV.ptr 35010 w13.2.1 0), (8, HV.int .i64 a.1)], [(20002036, w29.1, .arr eFromLabelTo.k 56 (eFromLabelTo.E a28.2.1)), (35004, v1, .arr 3 24 [HV.int .i64 0, HV.int .i64 0, HV.v (.slice none 0 0)]), (35007, v5, .arr 1 95 [HV.mp 35011 v2]), (35008, v9, .arr 1 35 [HV.ar 35017 v (eSl eInt).k 0 ((a.2.2).length)]), (35009, v10, .arr 3 24 [HV.int .i64 p0.1, HV.int .i64 0, HV.ar 20002036 w29.1 eFromLabelTo.k 0 ((a28.2.1).length)]), (35010, w13.2.1, .arr 1 3 [HV.int .i64 a12.2.1]), (35011, v2, .map (entE (HV.int .i64) a.2.1)), (35017, v, .arr (eSl eInt).k 27 ((eSl eInt).E a.2.2))]⟩) (fun a42 w43 h => ?_) (fun k44 h => ?_)
         ·refine AW.rg rfl fun K hK => ?_
          refine bv rfl (v_fieldAddrP fo24_2 rfl rfl) ?_
          refine bv rfl (v_loadP ty22 rfl rfl (l_lit rfl rfl)) ?_
          refine bv rfl (v_loadP ty3 rfl rfl (l_lit rfl rfl)) ?_
          refine mv rfl rfl ?_
          refine mv rfl rfl ?_
          refine b_op rfl (o_build (cs := [HV.int .i64 a12.2.1, HV.int .i64 a28.1, HV.int .i64 a42.1]) rfl (bl_of ty56 rfl rfl rfl rfl) ?_)
          refine b_op rfl (o_bsl rfl rfl (as_of (cs := [HV.int .i64 a12.2.1, HV.int .i64 a28.1, HV.int .i64 a42.1]) ty22 ty56 rfl rfl rfl rfl rfl) ?_)
          obtain ⟨h46, h⟩ := ifN h
          refine b_op rfl (o_appE eFromLabelTo (l := a28.2.1) (m := [(a12.2.1, a28.1, a42.1)]) rfl rfl ty22 ty22 ty56 rfl rfl rfl rfl rfl h46 (fun v45 => ?_))
          refine bv rfl (v_fieldAddrP fo24_2 rfl rfl) ?_
          refine b_op rfl (o_store (cs := [HV.ar 20002036 v45 eFromLabelTo.k 0 ((a28.2.1 ++ [(a12.2.1, a28.1, a42.1)]).length)]) (zs := [HV.int .i64 p0.1, HV.int .i64 0, HV.ar 20002036 v45 eFromLabelTo.k 0 ((a28.2.1 ++ [(a12.2.1, a28.1, a42.1)]).length)]) rfl rfl rfl ty22 rfl rfl rfl rfl rfl ?_)
          refine b_nil (hK _ ?_)
          clear hK K
          refine to_refl ?_
          refine ret_to (hs := []) (q := HV.tup []) (.inl rfl) rfl rfl ?_
          exact to_le (s' := ⟨[(1, slE eInt x18), (2, HV.fn (.func 60) [] [HV.ptr 35007 v5 0, HV.ptr 35008 v9 0, HV.ptr 35009 v10 0, HV.ptr 35010 w13.2.1 0]), (3, HV.fptr [HV.int .i64 p0.1, HV.int .i64 p0.2.1, slE eFromLabelTo p0.2.2] 0), (10, HV.int .i64 p0.1), (11, HV.int .i64 a28.1), (27, HV.tup [])], [(20002036, v45, .arr eFromLabelTo.k 56 (eFromLabelTo.E (a28.2.1 ++ [(a12.2.1, a28.1, a42.1)]))), (35004, v1, .arr 3 24 [HV.int .i64 0, HV.int .i64 0, HV.v (.slice none 0 0)]), (35007, v5, .arr 1 95 [HV.mp 35011 v2]), (35008, v9, .arr 1 35 [HV.ar 35017 w43 (eSl eInt).k 0 ((a42.2.2).length)]), (35009, v10, .arr 3 24 [HV.int .i64 p0.1, HV.int .i64 0, HV.ar 20002036 v45 eFromLabelTo.k 0 ((a28.2.1 ++ [(a12.2.1, a28.1, a42.1)]).length)]), (35010, w13.2.1, .arr 1 3 [HV.int .i64 a12.2.1]), (35011, v2, .map (entE (HV.int .i64) a42.2.1)), (35017, w43, .arr (eSl eInt).k 27 ((eSl eInt).E a42.2.2))]⟩) (AS.le_of ⟨rfl, rfl, rfl, rfl, rfl, rfl, trivial⟩ ⟨rfl, rfl, rfl, rfl, rfl, rfl, rfl, rfl, trivial⟩) ⟨(a28.2.1 ++ [(a12.2.1, a28.1, a42.1)], a42.2.1, a42.2.2), (v45, w43), h, rfl⟩
         ·refine AW.cond rfl (fun hc => ?_) (fun hc => ?_)
          ·have h := ifT hc h
           refine AW.rgs rfl fun K hK => ?_
           refine bv rfl (v_loadP ty35 rfl rfl (l_lit rfl rfl)) ?_
           refine bv rfl (v_lenA rfl rfl ty35 rfl rfl) ?_
           refine mv rfl rfl ?_
           refine b_fin hK (s' := ⟨[(0, HV.int .i64 a28.1), (1, slE eInt x35.1), (2, HV.ptr 35007 v5 0), (3, HV.ptr 35008 v9 0), (4, HV.ptr 35009 v10 0), (5, HV.ptr 35010 w13.2.1 0), (8, HV.int .i64 (((a28.2.2.2).length : Nat) : Int))], [(20002036, w29.1, .arr eFromLabelTo.k 56 (eFromLabelTo.E a28.2.1)), (35004, v1, .arr 3 24 [HV.int .i64 0, HV.int .i64 0, HV.v (.slice none 0 0)]), (35007, v5, .arr 1 95 [HV.mp 35011 v2]), (35008, v9, .arr 1 35 [HV.ar 35017 w29.2 (eSl eInt).k 0 ((a28.2.2.2).length)]), (35009, v10, .arr 3 24 [HV.int .i64 p0.1, HV.int .i64 0, HV.ar 20002036 w29.1 eFromLabelTo.k 0 ((a28.2.1).length)]), (35010, w13.2.1, .arr 1 3 [HV.int .i64 a12.2.1]), (35011, v2, .map (entE (HV.int .i64) a28.2.2.1)), (35017, w29.2, .arr (eSl eInt).k 27 ((eSl eInt).E a28.2.2.2))]⟩) (le_q rfl rfl) ?_
           clear hK K
           refine AW.dgs 4 follows rfl rfl fun K hK => ?_
           refine sv rfl (v_loadP ty95 rfl rfl (l_lit rfl rfl)) ?_
           refine sm rfl rfl ?_
           obtain ⟨x47, h48, h⟩ := bS h
           refine s_op rfl rfl (ops_call rfl rfl rfl rfl (ACallD.pure0 (w_subset_key h48)) ?_)
           refine sm rfl rfl ?_
           refine s_nil ?_
           refine b_op rfl (o_mapSet (HV.int .i64) (es := a28.2.2.1) (k := x47) (v := (((a28.2.2.2).length : Nat) : Int)) (.inl rfl) ty95 ty9 rfl rfl rfl rfl trivial ?_)
           refine b_fin hK (s' := ⟨[(0, HV.int .i64 a28.1), (1, slE eInt x35.1), (3, HV.ptr 35008 v9 0), (4, HV.ptr 35009 v10 0), (5, HV.ptr 35010 w13.2.1 0), (8, HV.int .i64 (((a28.2.2.2).length : Nat) : Int))], [(20002036, w29.1, .arr eFromLabelTo.k 56 (eFromLabelTo.E a28.2.1)), (35004, v1, .arr 3 24 [HV.int .i64 0, HV.int .i64 0, HV.v (.slice none 0 0)]), (35007, v5, .arr 1 95 [HV.mp 35011 v2]), (35008, v9, .arr 1 35 [HV.ar 35017 w29.2 (eSl eInt).k 0 ((a28.2.2.2).length)]), (35009, v10, .arr 3 24 [HV.int .i64 p0.1, HV.int .i64 0, HV.ar 20002036 w29.1 eFromLabelTo.k 0 ((a28.2.1).length)]), (35010, w13.2.1, .arr 1 3 [HV.int .i64 a12.2.1]), (35011, v2, .map (entE (HV.int .i64) (mputN x47 (((a28.2.2.2).length : Nat) : Int) a28.2.2.1))), (35017, w29.2, .arr (eSl eInt).k 27 ((eSl eInt).E a28.2.2.2))]⟩) (le_q rfl rfl) ?_
           clear hK K
           refine AW.rg rfl fun K hK => ?_
           refine bv rfl (v_loadP ty35 rfl rfl (l_lit rfl rfl)) ?_
           refine mv rfl rfl ?_
           refine b_op rfl (o_bsl rfl rfl (as_of (cs := [slE eInt x35.1]) ty35 ty27 rfl rfl rfl rfl rfl) ?_)
           obtain ⟨h50, h⟩ := ifN h
           refine b_op rfl (o_appE (eSl eInt) (l := a28.2.2.2) (m := [x35.1]) rfl rfl ty35 ty35 ty27 rfl rfl rfl rfl rfl h50 (fun v49 => ?_))
           refine b_op rfl (o_store (cs := [HV.ar 35017 v49 (eSl eInt).k 0 ((a28.2.2.2 ++ [x35.1]).length)]) (zs := [HV.ar 35017 v49 (eSl eInt).k 0 ((a28.2.2.2 ++ [x35.1]).length)]) rfl rfl rfl ty35 rfl rfl rfl rfl rfl ?_)
           refine b_nil (hK _ ?_)
           clear hK K
           exact to_le (s' := ⟨[(0, HV.int .i64 a28.1), (4, HV.ptr 35009 v10 0), (5, HV.ptr 35010 w13.2.1 0), (8, HV.int .i64 (((a28.2.2.2).length : Nat) : Int))], [(20002036, w29.1, .arr eFromLabelTo.k 56 (eFromLabelTo.E a28.2.1)), (35004, v1, .arr 3 24 [HV.int .i64 0, HV.int .i64 0, HV.v (.slice none 0 0)]), (35007, v5, .arr 1 95 [HV.mp 35011 v2]), (35008, v9, .arr 1 35 [HV.ar 35017 v49 (eSl eInt).k 0 ((a28.2.2.2 ++ [x35.1]).length)]), (35009, v10, .arr 3 24 [HV.int .i64 p0.1, HV.int .i64 0, HV.ar 20002036 w29.1 eFromLabelTo.k 0 ((a28.2.1).length)]), (35010, w13.2.1, .arr 1 3 [HV.int .i64 a12.2.1]), (35011, v2, .map (entE (HV.int .i64) (mputN x47 (((a28.2.2.2).length : Nat) : Int) a28.2.2.1))), (35017, v49, .arr (eSl eInt).k 27 ((eSl eInt).E (a28.2.2.2 ++ [x35.1])))]⟩) (AS.le_of ⟨rfl, rfl, rfl, rfl, trivial⟩ ⟨rfl, rfl, rfl, rfl, rfl, rfl, rfl, rfl, trivial⟩) ⟨((((a28.2.2.2).length : Nat) : Int), mputN x47 (((a28.2.2.2).length : Nat) : Int) a28.2.2.1, a28.2.2.2 ++ [x35.1]), v49, h, rfl⟩
          ·have h := ifF (bF' hc) h
           refine AW.skip ?_
           exact to_le (s' := ⟨[(0, HV.int .i64 a28.1), (4, HV.ptr 35009 v10 0), (5, HV.ptr 35010 w13.2.1 0), (8, HV.int .i64 ((mlook x40 a28.2.2.1).getD 0))], [(20002036, w29.1, .arr eFromLabelTo.k 56 (eFromLabelTo.E a28.2.1)), (35004, v1, .arr 3 24 [HV.int .i64 0, HV.int .i64 0, HV.v (.slice none 0 0)]), (35007, v5, .arr 1 95 [HV.mp 35011 v2]), (35008, v9, .arr 1 35 [HV.ar 35017 w29.2 (eSl eInt).k 0 ((a28.2.2.2).length)]), (35009, v10, .arr 3 24 [HV.int .i64 p0.1, HV.int .i64 0, HV.ar 20002036 w29.1 eFromLabelTo.k 0 ((a28.2.1).length)]), (35010, w13.2.1, .arr 1 3 [HV.int .i64 a12.2.1]), (35011, v2, .map (entE (HV.int .i64) a28.2.2.1)), (35017, w29.2, .arr (eSl eInt).k 27 ((eSl eInt).E a28.2.2.2))]⟩) (AS.le_of ⟨rfl, rfl, rfl, rfl, trivial⟩ ⟨rfl, rfl, rfl, rfl, rfl, rfl, rfl, rfl, trivial⟩) ⟨((mlook x40 a28.2.2.1).getD 0, a28.2.2.1, a28.2.2.2), w29.2, h, rfl⟩
       ·have hc := of_decide_eq_false hc
        have h := ifF hc h
        refine AW.skip ?_
        exact to_le (s' := ⟨[(1, slE eInt x18), (2, HV.fn (.func 60) [] [HV.ptr 35007 v5 0, HV.ptr 35008 v9 0, HV.ptr 35009 v10 0, HV.ptr 35010 w13.2.1 0]), (3, HV.fptr [HV.int .i64 p0.1, HV.int .i64 p0.2.1, slE eFromLabelTo p0.2.2] 0), (10, HV.int .i64 p0.1), (11, HV.int .i64 a28.1)], [(20002036, w29.1, .arr eFromLabelTo.k 56 (eFromLabelTo.E a28.2.1)), (35004, v1, .arr 3 24 [HV.int .i64 0, HV.int .i64 0, HV.v (.slice none 0 0)]), (35007, v5, .arr 1 95 [HV.mp 35011 v2]), (35008, v9, .arr 1 35 [HV.ar 35017 w29.2 (eSl eInt).k 0 ((a28.2.2.2).length)]), (35009, v10, .arr 3 24 [HV.int .i64 p0.1, HV.int .i64 0, HV.ar 20002036 w29.1 eFromLabelTo.k 0 ((a28.2.1).length)]), (35010, w13.2.1, .arr 1 3 [HV.int .i64 a12.2.1]), (35011, v2, .map (entE (HV.int .i64) a28.2.2.1)), (35017, w29.2, .arr (eSl eInt).k 27 ((eSl eInt).E a28.2.2.2))]⟩) (AS.le_of ⟨rfl, rfl, rfl, rfl, rfl, trivial⟩ ⟨rfl, rfl, rfl, rfl, rfl, rfl, rfl, rfl, trivial⟩) ⟨(a28.2.1, a28.2.2.1, a28.2.2.2), (w29.1, w29.2), h, rfl⟩
     ·have hc := of_decide_eq_false hc
      have h := ifF hc h
      refine AW.exit ?_
      exact to_le (s' := ⟨[], [(20002036, w29.1, .arr eFromLabelTo.k 56 (eFromLabelTo.E a28.2.1)), (35004, v1, .arr 3 24 [HV.int .i64 0, HV.int .i64 0, HV.v (.slice none 0 0)]), (35007, v5, .arr 1 95 [HV.mp 35011 v2]), (35008, v9, .arr 1 35 [HV.ar 35017 w29.2 (eSl eInt).k 0 ((a28.2.2.2).length)]), (35009, v10, .arr 3 24 [HV.int .i64 p0.1, HV.int .i64 0, HV.ar 20002036 w29.1 eFromLabelTo.k 0 ((a28.2.1).length)]), (35010, w13.2.1, .arr 1 3 [HV.int .i64 a12.2.1]), (35011, v2, .map (entE (HV.int .i64) a28.2.2.1)), (35017, w29.2, .arr (eSl eInt).k 27 ((eSl eInt).E a28.2.2.2))]⟩) (AS.le_of trivial ⟨rfl, rfl, rfl, rfl, rfl, rfl, rfl, rfl, trivial⟩) ⟨(a28.2.1, a28.2.2.1, a28.2.2.2), (w29.1, w29.2), h, rfl⟩
  ·have hc := of_decide_eq_false hc
   have h := ifF hc h
   refine AW.exit ?_
   exact to_le (s' := ⟨[(4, HV.ptr 35004 v1 0), (8, HV.ptr 35008 v9 0), (9, HV.ptr 35009 v10 0)], [(35004, v1, .arr 3 24 [HV.int .i64 0, HV.int .i64 0, HV.v (.slice none 0 0)]), (35008, v9, .arr 1 35 [HV.ar 35017 w13.2.2 (eSl eInt).k 0 ((a12.2.2.2).length)]), (35009, v10, .arr 3 24 [HV.int .i64 p0.1, HV.int .i64 0, HV.ar 20002036 w13.1 eFromLabelTo.k 0 ((a12.1).length)]), (20002036, w13.1, .arr eFromLabelTo.k 56 (eFromLabelTo.E a12.1)), (35017, w13.2.2, .arr (eSl eInt).k 27 ((eSl eInt).E a12.2.2.2))]⟩) (AS.le_of ⟨rfl, rfl, rfl, trivial⟩ ⟨rfl, rfl, rfl, rfl, rfl, trivial⟩) ⟨(a12.1, a12.2.2.2), (w13.1, w13.2.2), h, rfl⟩

end Go.AW

/- SubsetFoci: for every input the law's function returns true, and the input reads as it did. The package-level variables that the row lists start as the program lays them; the card ties that to the text. -/
import Derived.Test.YtibfjjmglgabdaaDoorFo5
import Derived.ChangeMaps5
import Derived.Handy
import Derived.Lay
import Derived.OpenShut
import Derived.ProofKit
import Derived.SevenTiedAt
import Derived.SliceStrings
import Derived.Test.YtibfjjmglgabdaaDoorCards
import Derived.Test.YtibfjjmglgabdaaDoorRows
import Derived.Test.YtibfjjmglgabdaaDoorTie
import Derived.WalkKit
import Derived.WideKeyArgs
namespace Go.AW
open Go Go.Proofs
set_option linter.unusedVariables false
set_option maxHeartbeats 1600000 in
set_option maxRecDepth 100000 in
theorem w_ref09_Great {p0 : TLabelsStatesEdges} {r : Bool} (h : m_ref09_Great p0 = some r) : Pure Tryd.prog 28 [HV.agg [HV.int .i64 p0.1, HV.int .i64 p0.2.1, slE eFromLabelTo p0.2.2]] (· = HV.bool r) := by
 unfold m_ref09_Great at h
 refine Pure.of_body Tryd.func28 rfl rfl (Nat.le_of_ble_eq_true rfl) fun hf => ?_
 unfold Tryd.f28
 dsimp only [enumS, Nat.reduceAdd]
 refine AW.rgs rfl fun K hK => ?_
 refine b_op rfl (o_box rfl rfl rfl ?_)
 refine mv rfl rfl ?_
 refine b_fin hK (s' := ⟨[(1, HV.fptr [HV.int .i64 p0.1, HV.int .i64 p0.2.1, slE eFromLabelTo p0.2.2] 0)], []⟩) (le_q rfl rfl) ?_
 clear hK K
 refine AW.seqJ h (S := Bool) (V := Unit) (fun a v => ⟨[(2, HV.bool a)], []⟩) (fun a1 w2 h => ?_) (fun k3 h => ?_)
 ·refine AW.ret ?_
  have h := Option.some.inj h
  subst h
  exact ret_pure (hs := [HV.bool a1]) (q := HV.bool a1) (.inr rfl) (resT rfl rfl) rfl trivial
 ·refine AW.rg rfl fun K hK => ?_
  refine bv rfl (v_fieldAddrF fo24_2 rfl) ?_
  refine bv rfl (v_loadF ty22 rfl (l_lit rfl rfl)) ?_
  refine bv rfl (v_lenF rfl rfl ty22 rfl) ?_
  refine bv rfl (v_bin rfl rfl b_gtr) ?_
  refine mv rfl rfl ?_
  by_cases hg5 : 30 < ((p0.2.2).length : Int)
  ·have h := ifT hg5 h
   refine b_F rfl rfl rfl rfl rfl (decide_eq_true hg5) ?_
   refine b_F rfl rfl rfl rfl rfl rfl ?_
   refine b_F rfl rfl rfl rfl rfl rfl ?_
   refine b_F rfl rfl rfl rfl rfl rfl ?_
   refine b_U rfl rfl rfl rfl rfl ?_
   refine b_U rfl rfl rfl rfl rfl ?_
   refine b_U rfl rfl rfl rfl rfl ?_
   refine b_F rfl rfl rfl rfl rfl rfl ?_
   refine bv rfl (v_pickT rfl rfl rfl) ?_
   refine mv rfl rfl ?_
   refine b_nil (hK _ ?_)
   clear hK K
   exact to_le (s' := ⟨[(2, HV.bool true)], []⟩) (AS.le_of ⟨rfl, trivial⟩ trivial) ⟨true, (), h, rfl⟩
  ·have h := ifF hg5 h
   refine b_T rfl rfl rfl rfl (decide_eq_false hg5) (o_val rfl (v_fieldAddrF fo24_1 rfl) ?_)
   refine b_T rfl rfl rfl rfl rfl (o_val rfl (v_loadF ty3 rfl (l_lit rfl rfl)) ?_)
   refine b_T rfl rfl rfl rfl rfl (o_val rfl (v_bin rfl rfl b_gtr) ?_)
   refine b_T rfl rfl rfl rfl rfl (o_val rfl (mv_val rfl rfl).2 ?_)
   by_cases hg4 : 10 < p0.2.1
   ·have h := ifT hg4 h
    refine b_T rfl rfl rfl rfl (decide_eq_true hg4) (o_val rfl (v_fieldAddrF fo24_1 rfl) ?_)
    refine b_T rfl rfl rfl rfl rfl (o_val rfl (v_loadF ty3 rfl (l_lit rfl rfl)) ?_)
    refine b_T rfl rfl rfl rfl rfl (o_val rfl (v_bin rfl rfl b_leq) ?_)
    refine b_T rfl rfl rfl rfl rfl (o_val rfl (v_pickT rfl rfl rfl) ?_)
    refine bv rfl (v_pickF rfl rfl rfl) ?_
    refine mv rfl rfl ?_
    refine b_nil (hK _ ?_)
    clear hK K
    exact to_le (s' := ⟨[(2, HV.bool (decide (p0.2.1 ≤ 64)))], []⟩) (AS.le_of ⟨rfl, trivial⟩ trivial) ⟨decide (p0.2.1 ≤ 64), (), h, rfl⟩
   ·have h := ifF hg4 h
    refine b_F rfl rfl rfl rfl rfl (decide_eq_false hg4) ?_
    refine b_F rfl rfl rfl rfl rfl rfl ?_
    refine b_F rfl rfl rfl rfl rfl rfl ?_
    refine b_T rfl rfl rfl rfl rfl (o_val rfl (v_pickF rfl rfl rfl) ?_)
    refine bv rfl (v_pickF rfl rfl rfl) ?_
    refine mv rfl rfl ?_
    refine b_nil (hK _ ?_)
    clear hK K
    exact to_le (s' := ⟨[(2, HV.bool false)], []⟩) (AS.le_of ⟨rfl, trivial⟩ trivial) ⟨false, (), h, rfl⟩

set_option maxHeartbeats 1600000 in
set_option maxRecDepth 100000 in
theorem w_law12_great {p0 : TLabelsStatesEdges} {r : Bool} (h : m_law12_great p0 = some r) : Pure Tryd.prog 8 [HV.agg [HV.int .i64 p0.1, HV.int .i64 p0.2.1, slE eFromLabelTo p0.2.2]] (· = HV.bool r) := by
 unfold m_law12_great at h
 refine Pure.of_body Tryd.func8 rfl rfl (Nat.le_of_ble_eq_true rfl) fun hf => ?_
 unfold Tryd.f8
 dsimp only [enumS, Nat.reduceAdd]
 refine AW.rgs rfl fun K hK => ?_
 refine b_op rfl (o_box rfl rfl rfl ?_)
 refine mv rfl rfl ?_
 refine b_fin hK (s' := ⟨[(1, HV.fptr [HV.int .i64 p0.1, HV.int .i64 p0.2.1, slE eFromLabelTo p0.2.2] 0)], []⟩) (le_q rfl rfl) ?_
 clear hK K
 refine AW.rgs rfl fun K hK => ?_
 refine bv rfl (v_loadF ty24 rfl (l_litA rfl (Nat.le_of_ble_eq_true rfl) rfl)) ?_
 obtain ⟨x1, h2, h⟩ := bS h
 refine b_op rfl (o_call rfl rfl rfl rfl (ACallD.pure0 (w_ref09_Great h2)) ?_)
 refine mv rfl rfl ?_
 refine b_fin hK (s' := ⟨[(2, HV.bool x1)], []⟩) (le_q rfl rfl) ?_
 clear hK K
 refine AW.ret ?_
 have h := Option.some.inj h
 subst h
 exact ret_pure (hs := [HV.bool x1]) (q := HV.bool x1) (.inr rfl) (resT rfl rfl) rfl trivial

set_option maxHeartbeats 1600000 in
set_option maxRecDepth 100000 in
theorem w_slices_Equal_Lint_int {p0 : List (Int)} {p1 : List (Int)} {r : Bool} (h : m_slices_Equal_Lint_int p0 p1 = some r) : Pure Tryd.prog 14 [slE eInt p0, slE eInt p1] (· = HV.bool r) := by
 unfold m_slices_Equal_Lint_int at h
 refine Pure.of_body Tryd.func14 rfl rfl (Nat.le_of_ble_eq_true rfl) fun hf => ?_
 unfold Tryd.f14
 dsimp only [enumS, Nat.reduceAdd]
 refine AW.rgs rfl fun K hK => ?_
 refine mv rfl rfl ?_
 refine b_fin hK (s' := ⟨[(0, slE eInt p0), (1, slE eInt p1)], []⟩) (le_q rfl rfl) ?_
 clear hK K
 refine AW.seq ?_
 refine AW.rgs rfl fun K hK => ?_
 refine mv rfl rfl ?_
 refine bv rfl (v_lenF rfl rfl ty30 rfl) ?_
 refine mv rfl rfl ?_
 refine bv rfl (v_lenF rfl rfl ty30 rfl) ?_
 refine bv rfl (v_bin rfl rfl b_neq) ?_
 refine b_fin hK (s' := ⟨[(0, slE eInt p0), (1, slE eInt p1), (10, HV.bool (decide (((p0).length : Int) ≠ ((p1).length : Int))))], []⟩) (le_q rfl rfl) ?_
 clear hK K
 refine AW.cond rfl (fun hc => ?_) (fun hc => ?_)
 ·have hc := of_decide_eq_true hc
  have h := ifT hc h
  refine AW.rgs rfl fun K hK => ?_
  refine mv rfl rfl ?_
  refine b_fin hK (s' := ⟨[(4, HV.bool false)], []⟩) (le_q rfl rfl) ?_
  clear hK K
  refine AW.ret ?_
  have h := Option.some.inj h
  subst h
  exact ret_pure (hs := [HV.bool false]) (q := HV.bool false) (.inr rfl) (resT rfl rfl) rfl trivial
 ·have hc := of_decide_eq_false hc
  have h := ifF hc h
  refine AW.skip ?_
  refine AW.seq ?_
  refine AW.rgs rfl fun K hK => ?_
  refine mv rfl rfl ?_
  refine bv rfl (v_lenF rfl rfl ty30 rfl) ?_
  refine mv rfl rfl ?_
  refine b_fin hK (s' := ⟨[(0, slE eInt p0), (1, slE eInt p1), (12, HV.int .i64 ((p0).length : Int)), (13, HV.int .i64 0)], []⟩) (le_q rfl rfl) ?_
  clear hK K
  refine AW.lpR h (by first | exact up_then | exact up_to) (S := Int) (V := Unit) (fun a v => ⟨[(0, slE eInt p0), (1, slE eInt p1), (12, HV.int .i64 ((p0).length : Int)), (13, HV.int .i64 a)], []⟩) ?_ (X := Unit) (W := Unit) (fun a v => ⟨[], []⟩) (fun a9 w10 h => ?_) (fun a1 w2 st3 h hr4=> ?_)
  ·exact to_le (s' := ⟨[(0, slE eInt p0), (1, slE eInt p1), (12, HV.int .i64 ((p0).length : Int)), (13, HV.int .i64 0)], []⟩) (AS.le_of ⟨rfl, rfl, rfl, rfl, trivial⟩ trivial) ⟨(), rfl⟩
  ·refine AW.rgs rfl fun K hK => ?_
   refine mv rfl rfl ?_
   refine b_fin hK (s' := ⟨[(4, HV.bool true)], []⟩) (le_q rfl rfl) ?_
   clear hK K
   refine AW.ret ?_
   have h := Option.some.inj h
   subst h
   exact ret_pure (hs := [HV.bool true]) (q := HV.bool true) (.inr rfl) (resT rfl rfl) rfl trivial
  ·refine AW.rgs rfl fun K hK => ?_
   refine bv rfl (v_bin rfl rfl b_lss) ?_
   refine b_fin hK (s' := ⟨[(0, slE eInt p0), (1, slE eInt p1), (12, HV.int .i64 ((p0).length : Int)), (13, HV.int .i64 a1), (14, HV.bool (decide (a1 < ((p0).length : Int))))], []⟩) (le_q rfl rfl) ?_
   clear hK K
   refine AW.cseq rfl (fun hc => ?_) (fun hc => ?_)
   ·have hc := of_decide_eq_true hc
    have h := ifT hc h
    refine AW.skip ?_
    refine AW.seq (AW.block ?_)
    refine AW.rgs rfl fun K hK => ?_
    refine mv rfl rfl ?_
    refine mv rfl rfl ?_
    refine b_fin hK (s' := ⟨[(0, slE eInt p0), (1, slE eInt p1), (5, HV.int .i64 a1), (12, HV.int .i64 ((p0).length : Int)), (13, HV.int .i64 a1)], []⟩) (le_q rfl rfl) ?_
    clear hK K
    refine AW.dgs 9 follows rfl rfl fun K hK => ?_
    refine sm rfl rfl ?_
    refine sm rfl rfl ?_
    obtain ⟨x5, h6, h⟩ := bS h
    refine sv rfl (v_idxF ty30 es30 rfl rfl (idx_lt h6)) ?_
    refine sv rfl (v_loadF ty3 rfl (l_cell eInt h6 (o := 0) rfl rfl)) ?_
    refine sm rfl rfl ?_
    refine sm rfl rfl ?_
    obtain ⟨x7, h8, h⟩ := bS h
    refine sv rfl (v_idxF ty30 es30 rfl rfl (idx_lt h8)) ?_
    refine sv rfl (v_loadF ty3 rfl (l_cell eInt h8 (o := 0) rfl rfl)) ?_
    refine sv rfl (v_bin rfl rfl b_neq) ?_
    refine s_nil ?_
    refine b_fin hK (s' := ⟨[(0, slE eInt p0), (1, slE eInt p1), (12, HV.int .i64 ((p0).length : Int)), (13, HV.int .i64 a1), (24, HV.bool (decide (x5 ≠ x7)))], []⟩) (le_q rfl rfl) ?_
    clear hK K
    refine AW.cond rfl (fun hc => ?_) (fun hc => ?_)
    ·have hc := of_decide_eq_true hc
     have h := ifT hc h
     refine AW.rgs rfl fun K hK => ?_
     refine mv rfl rfl ?_
     refine b_fin hK (s' := ⟨[(4, HV.bool false)], []⟩) (le_q rfl rfl) ?_
     clear hK K
     have h := hr4 _ h
     refine AW.ret ?_
     have h := Option.some.inj h
     subst h
     exact ret_pure (hs := [HV.bool false]) (q := HV.bool false) (.inr rfl) (resT rfl rfl) rfl trivial
    ·have hc := of_decide_eq_false hc
     have h := ifF hc h
     refine AW.skip ?_
     refine AW.rg rfl fun K hK => ?_
     refine bv rfl (v_bin rfl rfl b_add) ?_
     refine mv rfl rfl ?_
     refine b_nil (hK _ ?_)
     clear hK K
     exact to_le (s' := ⟨[(0, slE eInt p0), (1, slE eInt p1), (12, HV.int .i64 ((p0).length : Int)), (13, HV.int .i64 (IntKind.wrap .i64 (a1 + 1)))], []⟩) (AS.le_of ⟨rfl, rfl, rfl, rfl, trivial⟩ trivial) ⟨IntKind.wrap .i64 (a1 + 1), (), h, rfl⟩
   ·have hc := of_decide_eq_false hc
    have h := ifF hc h
    refine AW.exit ?_
    exact to_le (s' := ⟨[], []⟩) (AS.le_of trivial trivial) ⟨(), (), h, rfl⟩

end Go.AW

namespace Go.AW
open Go Go.Proofs
set_option linter.unusedVariables false
set_option maxHeartbeats 1600000 in
set_option maxRecDepth 100000 in
theorem w_law12_SubsetFoci {p0 : TLabelsStatesEdges} {p1 : List (Int)} {r : Bool} (h : m_law12_SubsetFoci p0 p1 = some r) : Pure Tryd.prog 3 [HV.agg [HV.int .i64 p0.1, HV.int .i64 p0.2.1, slE eFromLabelTo p0.2.2], slE eU8 p1] (· = HV.bool r) := by
 unfold m_law12_SubsetFoci at h
 refine Pure.of_body Tryd.func3 rfl rfl (Nat.le_of_ble_eq_true rfl) fun hf => ?_
 unfold Tryd.f3
 dsimp only [enumS, Nat.reduceAdd]
 refine AW.rgs rfl fun K hK => ?_
 refine b_op rfl (o_box rfl rfl rfl ?_)
 refine mv rfl rfl ?_
 refine b_fin hK (s' := ⟨[(1, slE eU8 p1), (2, HV.fptr [HV.int .i64 p0.1, HV.int .i64 p0.2.1, slE eFromLabelTo p0.2.2] 0)], []⟩) (le_q rfl rfl) ?_
 clear hK K
 refine AW.seq ?_
 refine AW.seqJ h (S := Bool) (V := Unit) (fun a v => ⟨[(1, slE eU8 p1), (2, HV.fptr [HV.int .i64 p0.1, HV.int .i64 p0.2.1, slE eFromLabelTo p0.2.2] 0), (26, HV.bool a)], []⟩) (fun a1 w2 h => ?_) (fun k3 h => ?_)
 ·refine AW.cond rfl (fun hc => ?_) (fun hc => ?_)
  ·have h := ifT hc h
   refine AW.rgs rfl fun K hK => ?_
   obtain ⟨x4, h5, h⟩ := bS h
   refine b_op rfl (o_call rfl rfl rfl rfl (ACallD.pure0 (w_law12_awake h5)) ?_)
   refine mv rfl rfl ?_
   refine b_fin hK (s' := ⟨[(4, HV.bool x4)], []⟩) (le_q rfl rfl) ?_
   clear hK K
   refine AW.ret ?_
   have h := Option.some.inj h
   subst h
   exact ret_pure (hs := [HV.bool x4]) (q := HV.bool x4) (.inr rfl) (resT rfl rfl) rfl trivial
  ·have h := ifF (bF' hc) h
   refine AW.skip ?_
   refine AW.rgs rfl fun K hK => ?_
   refine bv rfl (v_loadF ty24 rfl (l_litA rfl (Nat.le_of_ble_eq_true rfl) rfl)) ?_
   obtain ⟨x6, h7, h⟩ := bS h
   refine b_op rfl (o_call rfl rfl rfl rfl (ACallD.pure0 (w_subset_Focus h7)) ?_)
   refine mv rfl rfl ?_
   refine bv rfl (v_extract rfl rfl) ?_
   refine bv rfl (v_extract rfl rfl) ?_
   refine bv rfl (v_extract rfl rfl) ?_
   refine bv rfl (v_extract rfl rfl) ?_
   refine mv rfl rfl ?_
   refine mv rfl rfl ?_
   refine mv rfl rfl ?_
   refine mv rfl rfl ?_
   refine b_fin hK (s' := ⟨[(1, slE eU8 p1), (2, HV.fptr [HV.int .i64 p0.1, HV.int .i64 p0.2.1, slE eFromLabelTo p0.2.2] 0), (5, slE eInt x6.1), (6, HV.int .i64 x6.2.1), (7, HV.bool x6.2.2.1), (8, HV.int .i64 x6.2.2.2)], []⟩) (le_q rfl rfl) ?_
   clear hK K
   refine AW.seq ?_
   refine AW.rgs rfl fun K hK => ?_
   refine mv rfl rfl ?_
   refine bv rfl (v_bin rfl rfl b_neq) ?_
   refine b_fin hK (s' := ⟨[(1, slE eU8 p1), (2, HV.fptr [HV.int .i64 p0.1, HV.int .i64 p0.2.1, slE eFromLabelTo p0.2.2] 0), (5, slE eInt x6.1), (6, HV.int .i64 x6.2.1), (7, HV.bool x6.2.2.1), (36, HV.bool (decide (x6.2.2.2 ≠ 0)))], []⟩) (le_q rfl rfl) ?_
   clear hK K
   refine AW.cond rfl (fun hc => ?_) (fun hc => ?_)
   ·have hc := of_decide_eq_true hc
    have h := ifT hc h
    refine AW.rgs rfl fun K hK => ?_
    obtain ⟨x8, h9, h⟩ := bS h
    refine b_op rfl (o_call rfl rfl rfl rfl (ACallD.pure0 (w_law12_awake h9)) ?_)
    refine mv rfl rfl ?_
    refine b_fin hK (s' := ⟨[(4, HV.bool x8)], []⟩) (le_q rfl rfl) ?_
    clear hK K
    refine AW.ret ?_
    have h := Option.some.inj h
    subst h
    exact ret_pure (hs := [HV.bool x8]) (q := HV.bool x8) (.inr rfl) (resT rfl rfl) rfl trivial
   ·have hc := of_decide_eq_false hc
    have h := ifF hc h
    refine AW.skip ?_
    refine AW.rgs rfl fun K hK => ?_
    refine bv rfl (v_fieldAddrF fo24_1 rfl) ?_
    refine bv rfl (v_loadF ty3 rfl (l_lit rfl rfl)) ?_
    obtain ⟨h11, h⟩ := ifN h
    refine b_op rfl (o_makeE (fid := 3) eInt (0 : Int) 3040 rfl rfl ty30 rfl rfl ty3 rfl rfl h11 (fun v10 => ?_))
    refine b_op rfl (o_alloc (fid := 3) (zs := [HV.v (.slice none 0 0)]) 3009 rfl rfl ty30 rfl (fun v12 => ?_))
    refine b_op rfl (o_store (cs := [HV.ar 3040 v10 eInt.k 0 ((List.replicate (p0.2.1).toNat (0 : Int)).length)]) (zs := [HV.ar 3040 v10 eInt.k 0 ((List.replicate (p0.2.1).toNat (0 : Int)).length)]) rfl rfl rfl ty30 rfl rfl rfl rfl rfl ?_)
    refine b_fin hK (s' := ⟨[(1, slE eU8 p1), (2, HV.fptr [HV.int .i64 p0.1, HV.int .i64 p0.2.1, slE eFromLabelTo p0.2.2] 0), (5, slE eInt x6.1), (6, HV.int .i64 x6.2.1), (7, HV.bool x6.2.2.1), (9, HV.ptr 3009 v12 0)], [(3040, v10, .arr eInt.k 3 (eInt.E (List.replicate (p0.2.1).toNat (0 : Int)))), (3009, v12, .arr 1 30 [HV.ar 3040 v10 eInt.k 0 ((List.replicate (p0.2.1).toNat (0 : Int)).length)])]⟩) (le_q rfl rfl) ?_
    clear hK K
    refine AW.seq ?_
    refine AW.rgs rfl fun K hK => ?_
    refine bv rfl (v_loadP ty30 rfl rfl (l_lit rfl rfl)) ?_
    refine bv rfl (v_lenA rfl rfl ty30 rfl rfl) ?_
    refine mv rfl rfl ?_
    refine b_fin hK (s' := ⟨[(1, slE eU8 p1), (2, HV.fptr [HV.int .i64 p0.1, HV.int .i64 p0.2.1, slE eFromLabelTo p0.2.2] 0), (5, slE eInt x6.1), (6, HV.int .i64 x6.2.1), (7, HV.bool x6.2.2.1), (9, HV.ptr 3009 v12 0), (42, HV.int .i64 (((List.replicate (p0.2.1).toNat (0 : Int)).length : Nat) : Int)), (43, HV.int .i64 0)], [(3040, v10, .arr eInt.k 3 (eInt.E (List.replicate (p0.2.1).toNat (0 : Int)))), (3009, v12, .arr 1 30 [HV.ar 3040 v10 eInt.k 0 ((List.replicate (p0.2.1).toNat (0 : Int)).length)])]⟩) (le_q rfl rfl) ?_
    clear hK K
    refine AW.lpX h (by first | exact up_then | exact up_to) (S := Int × (List Int)) (V := Unit) (fun a v => ⟨[(1, slE eU8 p1), (2, HV.fptr [HV.int .i64 p0.1, HV.int .i64 p0.2.1, slE eFromLabelTo p0.2.2] 0), (5, slE eInt x6.1), (6, HV.int .i64 x6.2.1), (7, HV.bool x6.2.2.1), (9, HV.ptr 3009 v12 0), (42, HV.int .i64 (((List.replicate (p0.2.1).toNat (0 : Int)).length : Nat) : Int)), (43, HV.int .i64 a.1)], [(3009, v12, .arr 1 30 [HV.ar 3040 v10 eInt.k 0 ((a.2).length)]), (3040, v10, .arr eInt.k 3 (eInt.E a.2))]⟩) ?_ (X := (List Int)) (W := Unit) (fun a v => ⟨[(1, slE eU8 p1), (2, HV.fptr [HV.int .i64 p0.1, HV.int .i64 p0.2.1, slE eFromLabelTo p0.2.2] 0), (5, slE eInt x6.1), (6, HV.int .i64 x6.2.1), (7, HV.bool x6.2.2.1), (9, HV.ptr 3009 v12 0)], [(3009, v12, .arr 1 30 [HV.ar 3040 v10 eInt.k 0 ((a).length)]), (3040, v10, .arr eInt.k 3 (eInt.E a))]⟩) (fun a19 w20 h => ?_) (fun a13 w14 st15 h => ?_)
    ·exact to_le (s' := ⟨[(1, slE eU8 p1), (2, HV.fptr [HV.int .i64 p0.1, HV.int .i64 p0.2.1, slE eFromLabelTo p0.2.2] 0), (5, slE eInt x6.1), (6, HV.int .i64 x6.2.1), (7, HV.bool x6.2.2.1), (9, HV.ptr 3009 v12 0), (42, HV.int .i64 (((List.replicate (p0.2.1).toNat (0 : Int)).length : Nat) : Int)), (43, HV.int .i64 0)], [(3009, v12, .arr 1 30 [HV.ar 3040 v10 eInt.k 0 ((List.replicate (p0.2.1).toNat (0 : Int)).length)]), (3040, v10, .arr eInt.k 3 (eInt.E (List.replicate (p0.2.1).toNat (0 : Int))))]⟩) (AS.le_of ⟨rfl, rfl, rfl, rfl, rfl, rfl, rfl, rfl, trivial⟩ ⟨rfl, rfl, trivial⟩) ⟨(), rfl⟩
    ·refine AW.rgs rfl fun K hK => ?_
     refine bops_to (to_fill 2 [(3040, v10, .arr eInt.k 3 (eInt.E a19))] ⟨[(1, slE eU8 p1), (2, HV.fptr [HV.int .i64 p0.1, HV.int .i64 p0.2.1, slE eFromLabelTo p0.2.2] 0), (5, slE eInt x6.1), (6, HV.int .i64 x6.2.1), (7, HV.bool x6.2.2.1), (9, HV.ptr 3009 v12 0)], [(3009, v12, .arr 1 30 [slE eInt a19])]⟩ ⟨⟨_, rfl, rfl⟩, ⟨_, rfl, rfl⟩, ⟨_, rfl, rfl⟩, ⟨_, rfl, rfl⟩, ⟨_, rfl, rfl⟩, ⟨_, rfl, rfl⟩, trivial⟩ ⟨.inr ⟨_, _, _, rfl, congrArg (AObj.arr 1 30) (congrArg (fun z : HV => [z]) (frz_slE eInt (D := [(3040, v10, .arr eInt.k 3 (eInt.E a19))]) (l := a19) rfl fun _ _ => rfl).symm)⟩, trivial⟩ ⟨rfl, trivial⟩ ⟨rfl, trivial⟩ ?_)
     refine bv rfl (v_func rfl rfl) ?_
     refine mv rfl rfl ?_
     refine b_fin hK (s' := ⟨[(1, slE eU8 p1), (2, HV.fptr [HV.int .i64 p0.1, HV.int .i64 p0.2.1, slE eFromLabelTo p0.2.2] 0), (5, slE eInt x6.1), (6, HV.int .i64 x6.2.1), (7, HV.bool x6.2.2.1), (11, HV.fn (.func 12) [] [HV.ptr 3009 v12 0, HV.fptr [HV.int .i64 p0.1, HV.int .i64 p0.2.1, slE eFromLabelTo p0.2.2] 0])], [(3009, v12, .arr 1 30 [slE eInt a19])]⟩) (le_q rfl rfl) ?_
     clear hK K
     refine AW.seq ?_
     refine AW.seqJ h (S := Bool) (V := Unit) (fun a v => ⟨[(1, slE eU8 p1), (2, HV.fptr [HV.int .i64 p0.1, HV.int .i64 p0.2.1, slE eFromLabelTo p0.2.2] 0), (5, slE eInt x6.1), (7, HV.bool x6.2.2.1), (11, HV.fn (.func 12) [] [HV.ptr 3009 v12 0, HV.fptr [HV.int .i64 p0.1, HV.int .i64 p0.2.1, slE eFromLabelTo p0.2.2] 0]), (61, HV.bool a)], [(3009, v12, .arr 1 30 [slE eInt a19])]⟩) (fun a21 w22 h => ?_) (fun k23 h => ?_)
     ·refine AW.cond rfl (fun hc => ?_) (fun hc => ?_)
      ·have h := ifT hc h
       refine AW.rgs rfl fun K hK => ?_
       refine mv rfl rfl ?_
       refine b_fin hK (s' := ⟨[(4, HV.bool false)], []⟩) (le_q rfl rfl) ?_
       clear hK K
       refine AW.ret ?_
       have h := Option.some.inj h
       subst h
       exact ret_pure (hs := [HV.bool false]) (q := HV.bool false) (.inr rfl) (resT rfl rfl) rfl trivial
      ·have h := ifF (bF' hc) h
       refine AW.skip ?_
       refine AW.rgs rfl fun K hK => ?_
       refine mv rfl rfl ?_
       refine b_fin hK (s' := ⟨[(1, slE eU8 p1), (2, HV.fptr [HV.int .i64 p0.1, HV.int .i64 p0.2.1, slE eFromLabelTo p0.2.2] 0), (5, slE eInt x6.1), (7, HV.bool x6.2.2.1), (11, HV.fn (.func 12) [] [HV.ptr 3009 v12 0, HV.fptr [HV.int .i64 p0.1, HV.int .i64 p0.2.1, slE eFromLabelTo p0.2.2] 0]), (12, HV.v (.slice none 0 0))], [(3009, v12, .arr 1 30 [slE eInt a19])]⟩) (le_q rfl rfl) ?_
       clear hK K
       refine AW.seq ?_
       refine AW.rgs rfl fun K hK => ?_
       refine mv rfl rfl ?_
       refine mv rfl rfl ?_
       refine bv rfl (v_lenF rfl rfl ty25 rfl) ?_
       refine bv rfl (v_min rfl rfl rfl) ?_
       obtain ⟨h24, h⟩ := ifN h
       refine bv rfl (v_sliceF eU8 ty25 es25 rfl rfl rfl h24) ?_
       refine bv rfl (v_lenF rfl rfl ty25 rfl) ?_
       refine mv rfl rfl ?_
       refine b_fin hK (s' := ⟨[(2, HV.fptr [HV.int .i64 p0.1, HV.int .i64 p0.2.1, slE eFromLabelTo p0.2.2] 0), (5, slE eInt x6.1), (7, HV.bool x6.2.2.1), (11, HV.fn (.func 12) [] [HV.ptr 3009 v12 0, HV.fptr [HV.int .i64 p0.1, HV.int .i64 p0.2.1, slE eFromLabelTo p0.2.2] 0]), (12, HV.v (.slice none 0 0)), (66, slE eU8 ((p1.take (min ((p1).length : Int) 4).toNat).drop (0 : Int).toNat)), (67, HV.int .i64 (((p1.take (min ((p1).length : Int) 4).toNat).drop (0 : Int).toNat).length : Int)), (68, HV.int .i64 0)], [(3009, v12, .arr 1 30 [slE eInt a19])]⟩) (le_q rfl rfl) ?_
       clear hK K
       refine AW.lpX h (by first | exact up_then | exact up_to) (S := Int × (List Int)) (V := Nat) (fun a v => ⟨[(2, HV.fptr [HV.int .i64 p0.1, HV.int .i64 p0.2.1, slE eFromLabelTo p0.2.2] 0), (5, slE eInt x6.1), (7, HV.bool x6.2.2.1), (11, HV.fn (.func 12) [] [HV.ptr 3009 v12 0, HV.fptr [HV.int .i64 p0.1, HV.int .i64 p0.2.1, slE eFromLabelTo p0.2.2] 0]), (12, HV.ar 3079 v eInt.k 0 ((a.2).length)), (66, slE eU8 ((p1.take (min ((p1).length : Int) 4).toNat).drop (0 : Int).toNat)), (67, HV.int .i64 (((p1.take (min ((p1).length : Int) 4).toNat).drop (0 : Int).toNat).length : Int)), (68, HV.int .i64 a.1)], [(3009, v12, .arr 1 30 [slE eInt a19]), (3079, v, .arr eInt.k 3 (eInt.E a.2))]⟩) ?_ (X := (List Int)) (W := Nat) (fun a v => ⟨[(5, slE eInt x6.1), (7, HV.bool x6.2.2.1), (11, HV.fn (.func 12) [] [HV.ptr 3009 v12 0, HV.fptr [HV.int .i64 p0.1, HV.int .i64 p0.2.1, slE eFromLabelTo p0.2.2] 0]), (12, HV.ar 3079 v eInt.k 0 ((a).length))], [(3009, v12, .arr 1 30 [slE eInt a19]), (3079, v, .arr eInt.k 3 (eInt.E a))]⟩) (fun a35 w36 h => ?_) (fun a25 w26 st27 h => ?_)
       ·refine to_bind (to_own 3079 12 eInt.k 3 rfl fun v34 => ?_)
        exact to_le (s' := ⟨[(2, HV.fptr [HV.int .i64 p0.1, HV.int .i64 p0.2.1, slE eFromLabelTo p0.2.2] 0), (5, slE eInt x6.1), (7, HV.bool x6.2.2.1), (11, HV.fn (.func 12) [] [HV.ptr 3009 v12 0, HV.fptr [HV.int .i64 p0.1, HV.int .i64 p0.2.1, slE eFromLabelTo p0.2.2] 0]), (12, HV.ar 3079 v34 eInt.k 0 ((([] : List Int)).length)), (66, slE eU8 ((p1.take (min ((p1).length : Int) 4).toNat).drop (0 : Int).toNat)), (67, HV.int .i64 (((p1.take (min ((p1).length : Int) 4).toNat).drop (0 : Int).toNat).length : Int)), (68, HV.int .i64 0)], [(3009, v12, .arr 1 30 [slE eInt a19]), (3079, v34, .arr eInt.k 3 (eInt.E ([] : List Int)))]⟩) (AS.le_of ⟨rfl, rfl, rfl, rfl, arl (by first | rfl | simp only [List.length_set, sortI_len, sortS_len]), rfl, rfl, rfl, trivial⟩ ⟨rfl, rfl, trivial⟩) ⟨v34, rfl⟩
       ·refine AW.seq ?_
        refine AW.rgs rfl fun K hK => ?_
        refine mv rfl rfl ?_
        refine mv rfl rfl ?_
        refine b_op rfl (o_callJ h (S := (List Int)) (V := Unit) (fun a v => ⟨[(5, slE eInt x6.1), (7, HV.bool x6.2.2.1), (12, HV.ar 3079 w36 eInt.k 0 ((a35).length)), (83, slE eInt a)], [(3079, w36, .arr eInt.k 3 (eInt.E a35))]⟩) rfl rfl rfl rfl (fun a37 w38 h => ?_) (fun k39 h => ?_) )
        ·refine bv rfl (v_lenF rfl rfl ty30 rfl) ?_
         refine bv rfl (v_bin rfl rfl b_neq) ?_
         refine b_fin hK (s' := ⟨[(5, slE eInt x6.1), (7, HV.bool x6.2.2.1), (12, HV.ar 3079 w36 eInt.k 0 ((a35).length)), (85, HV.bool (decide (((a37).length : Int) ≠ 1)))], [(3079, w36, .arr eInt.k 3 (eInt.E a35))]⟩) (le_q rfl rfl) ?_
         clear hK K
         refine AW.cond rfl (fun hc => ?_) (fun hc => ?_)
         ·have hc := of_decide_eq_true hc
          have h := ifT hc h
          refine AW.rgs rfl fun K hK => ?_
          obtain ⟨x40, h41, h⟩ := bS h
          refine b_op rfl (o_call rfl rfl rfl rfl (ACallD.pure0 (w_law12_awake h41)) ?_)
          refine mv rfl rfl ?_
          refine b_fin hK (s' := ⟨[(4, HV.bool x40)], []⟩) (le_q rfl rfl) ?_
          clear hK K
          refine AW.ret ?_
          have h := Option.some.inj h
          subst h
          exact ret_pure (hs := [HV.bool x40]) (q := HV.bool x40) (.inr rfl) (resT rfl rfl) rfl trivial
         ·have hc := of_decide_eq_false hc
          have h := ifF hc h
          refine AW.skip ?_
          refine AW.seqJ h (S := Bool) (V := Unit) (fun a v => ⟨[(4, HV.bool a)], []⟩) (fun a42 w43 h => ?_) (fun k44 h => ?_)
          ·refine AW.ret ?_
           have h := Option.some.inj h
           subst h
           exact ret_pure (hs := [HV.bool a42]) (q := HV.bool a42) (.inr rfl) (resT rfl rfl) rfl trivial
          ·refine AW.rg rfl fun K hK => ?_
           refine mv rfl rfl ?_
           refine mv rfl rfl ?_
           by_cases hg54 : x6.2.2.1 = true
           ·have h := ifT hg54 h
            refine b_T rfl rfl rfl rfl hg54 (o_val rfl (mv_val rfl rfl).2 ?_)
            refine b_T rfl rfl rfl rfl rfl (o_val rfl (v_lenF rfl rfl ty30 rfl) ?_)
            refine b_T rfl rfl rfl rfl rfl (o_val rfl (mv_val rfl rfl).2 ?_)
            refine b_T rfl rfl rfl rfl rfl (o_val rfl (v_lenA rfl rfl ty30 rfl rfl) ?_)
            refine b_T rfl rfl rfl rfl rfl (o_val rfl (v_bin rfl rfl b_lss) ?_)
            refine b_T rfl rfl rfl rfl rfl (o_val rfl (mv_val rfl rfl).2 ?_)
            by_cases hg53 : ((x6.1).length : Int) < (((a35).length : Nat) : Int)
            ·have h := ifT hg53 h
             refine b_F rfl rfl rfl rfl rfl (decide_eq_true hg53) ?_
             refine b_F rfl rfl rfl rfl rfl rfl ?_
             refine b_F rfl rfl rfl rfl rfl rfl ?_
             refine b_F rfl rfl rfl rfl rfl rfl ?_
             refine b_F rfl rfl rfl rfl rfl rfl ?_
             refine b_F rfl rfl rfl rfl rfl rfl ?_
             refine b_U rfl rfl rfl rfl rfl ?_
             refine b_U rfl rfl rfl rfl rfl ?_
             refine b_U rfl rfl rfl rfl rfl ?_
             refine b_U rfl rfl rfl rfl rfl ?_
             refine b_F rfl rfl rfl rfl rfl rfl ?_
             refine b_T rfl rfl rfl rfl rfl (o_val rfl (v_pickT rfl rfl rfl) ?_)
             refine bv rfl (v_pickT rfl rfl rfl) ?_
             refine mv rfl rfl ?_
             obtain ⟨x45, h46, h⟩ := bS h
             refine b_T rfl rfl rfl rfl rfl (o_call rfl rfl rfl rfl (ACallD.pure0 (w_law12_awake h46)) ?_)
             refine bv rfl (v_pickT rfl rfl rfl) ?_
             refine mv rfl rfl ?_
             refine b_nil (hK _ ?_)
             clear hK K
             exact to_le (s' := ⟨[(4, HV.bool x45)], []⟩) (AS.le_of ⟨rfl, trivial⟩ trivial) ⟨x45, (), h, rfl⟩
            ·have h := ifF hg53 h
             refine b_T rfl rfl rfl rfl (decide_eq_false hg53) (o_val rfl (mv_val rfl rfl).2 ?_)
             refine b_T rfl rfl rfl rfl rfl (o_val rfl (v_lenF rfl rfl ty30 rfl) ?_)
             refine b_T rfl rfl rfl rfl rfl (o_val rfl (mv_val rfl rfl).2 ?_)
             refine b_T rfl rfl rfl rfl rfl (o_val rfl (v_lenA rfl rfl ty30 rfl rfl) ?_)
             refine b_T rfl rfl rfl rfl rfl (o_val rfl (v_bin rfl rfl b_eql) ?_)
             refine b_T rfl rfl rfl rfl rfl (o_val rfl (mv_val rfl rfl).2 ?_)
             by_cases hg52 : ((x6.1).length : Int) = (((a35).length : Nat) : Int)
             ·have h := ifT hg52 h
              refine b_T rfl rfl rfl rfl (decide_eq_true hg52) (o_val rfl (mv_val rfl rfl).2 ?_)
              refine b_T rfl rfl rfl rfl rfl (o_val rfl (mv_val rfl rfl).2 ?_)
              obtain ⟨x47, h48, h⟩ := bS h
              refine b_T rfl rfl rfl rfl rfl (o_call rfl rfl rfl rfl (((w_slices_Compare_Lint_int h48).fresh (by simp only [clean, cleanL, and_self]) rfl).callD 2 (mc rfl (mc (frz_slE eInt (l := a35) rfl fun _ _ => rfl) rfl))) ?_)
              refine b_T rfl rfl rfl rfl rfl (o_val rfl (v_bin rfl rfl b_leq) ?_)
              refine b_T rfl rfl rfl rfl rfl (o_val rfl (v_pickT rfl rfl rfl) ?_)
              refine b_T rfl rfl rfl rfl rfl (o_val rfl (v_pickF rfl rfl rfl) ?_)
              refine bv rfl (v_pickT rfl rfl rfl) ?_
              refine mv rfl rfl ?_
              by_cases hg51 : x47 ≤ 0
              ·have h := ifT hg51 h
               obtain ⟨x49, h50, h⟩ := bS h
               refine b_T rfl rfl rfl rfl (decide_eq_true hg51) (o_call rfl rfl rfl rfl (ACallD.pure0 (w_law12_awake h50)) ?_)
               refine bv rfl (v_pickT rfl rfl rfl) ?_
               refine mv rfl rfl ?_
               refine b_nil (hK _ ?_)
               clear hK K
               exact to_le (s' := ⟨[(4, HV.bool x49)], []⟩) (AS.le_of ⟨rfl, trivial⟩ trivial) ⟨x49, (), h, rfl⟩
              ·have h := ifF hg51 h
               refine b_F rfl rfl rfl rfl rfl (decide_eq_false hg51) ?_
               refine bv rfl (v_pickF rfl rfl rfl) ?_
               refine mv rfl rfl ?_
               refine b_nil (hK _ ?_)
               clear hK K
               exact to_le (s' := ⟨[(4, HV.bool false)], []⟩) (AS.le_of ⟨rfl, trivial⟩ trivial) ⟨false, (), h, rfl⟩
             ·have h := ifF hg52 h
              refine b_F rfl rfl rfl rfl rfl (decide_eq_false hg52) ?_
              refine b_F rfl rfl rfl rfl rfl rfl ?_
              refine b_F rfl rfl rfl rfl rfl rfl ?_
              refine b_F rfl rfl rfl rfl rfl rfl ?_
              refine b_T rfl rfl rfl rfl rfl (o_val rfl (v_pickF rfl rfl rfl) ?_)
              refine b_T rfl rfl rfl rfl rfl (o_val rfl (v_pickF rfl rfl rfl) ?_)
              refine bv rfl (v_pickT rfl rfl rfl) ?_
              refine mv rfl rfl ?_
              refine b_F rfl rfl rfl rfl rfl rfl ?_
              refine bv rfl (v_pickF rfl rfl rfl) ?_
              refine mv rfl rfl ?_
              refine b_nil (hK _ ?_)
              clear hK K
              exact to_le (s' := ⟨[(4, HV.bool false)], []⟩) (AS.le_of ⟨rfl, trivial⟩ trivial) ⟨false, (), h, rfl⟩
           ·have h := ifF hg54 h
            refine b_F rfl rfl rfl rfl rfl (bF hg54) ?_
            refine b_F rfl rfl rfl rfl rfl rfl ?_
            refine b_F rfl rfl rfl rfl rfl rfl ?_
            refine b_F rfl rfl rfl rfl rfl rfl ?_
            refine b_F rfl rfl rfl rfl rfl rfl ?_
            refine b_F rfl rfl rfl rfl rfl rfl ?_
            refine b_U rfl rfl rfl rfl rfl ?_
            refine b_U rfl rfl rfl rfl rfl ?_
            refine b_U rfl rfl rfl rfl rfl ?_
            refine b_U rfl rfl rfl rfl rfl ?_
            refine b_U rfl rfl rfl rfl rfl ?_
            refine b_U rfl rfl rfl rfl rfl ?_
            refine b_U rfl rfl rfl rfl rfl ?_
            refine b_U rfl rfl rfl rfl rfl ?_
            refine b_U rfl rfl rfl rfl rfl ?_
            refine b_U rfl rfl rfl rfl rfl ?_
            refine b_U rfl rfl rfl rfl rfl ?_
            refine b_F rfl rfl rfl rfl rfl rfl ?_
            refine bv rfl (v_pickF rfl rfl rfl) ?_
            refine mv rfl rfl ?_
            refine b_F rfl rfl rfl rfl rfl rfl ?_
            refine bv rfl (v_pickF rfl rfl rfl) ?_
            refine mv rfl rfl ?_
            refine b_nil (hK _ ?_)
            clear hK K
            exact to_le (s' := ⟨[(4, HV.bool false)], []⟩) (AS.le_of ⟨rfl, trivial⟩ trivial) ⟨false, (), h, rfl⟩
        ·refine ACall.of_body Tryd.func12 rfl rfl (Nat.le_of_ble_eq_true rfl) ?_
         unfold Tryd.f12
         dsimp only [enumS, Nat.reduceAdd]
         refine AW.fin ?_
         refine AW.rgs rfl fun K hK => ?_
         refine mv rfl rfl ?_
         refine b_fin hK (s' := ⟨[(0, HV.ar 3079 w36 eInt.k 0 ((a35).length)), (1, HV.ptr 3009 v12 0), (2, HV.fptr [HV.int .i64 p0.1, HV.int .i64 p0.2.1, slE eFromLabelTo p0.2.2] 0)], [(3009, v12, .arr 1 30 [slE eInt a19]), (3079, w36, .arr eInt.k 3 (eInt.E a35))]⟩) (le_q rfl rfl) ?_
         clear hK K
         refine AW.rgs rfl fun K hK => ?_
         refine bv rfl (v_loadP ty30 rfl rfl (l_lit rfl rfl)) ?_
         refine mv rfl rfl ?_
         refine b_fin hK (s' := ⟨[(0, HV.ar 3079 w36 eInt.k 0 ((a35).length)), (2, HV.fptr [HV.int .i64 p0.1, HV.int .i64 p0.2.1, slE eFromLabelTo p0.2.2] 0), (5, slE eInt a19)], [(3009, v12, .arr 1 30 [slE eInt a19]), (3079, w36, .arr eInt.k 3 (eInt.E a35))]⟩) (le_q rfl rfl) ?_
         clear hK K
         refine AW.seq ?_
         refine AW.rgs rfl fun K hK => ?_
         refine mv rfl rfl ?_
         refine bv rfl (v_lenA rfl rfl ty30 rfl rfl) ?_
         refine mv rfl rfl ?_
         refine b_fin hK (s' := ⟨[(2, HV.fptr [HV.int .i64 p0.1, HV.int .i64 p0.2.1, slE eFromLabelTo p0.2.2] 0), (5, slE eInt a19), (11, HV.ar 3079 w36 eInt.k 0 ((a35).length)), (12, HV.int .i64 (((a35).length : Nat) : Int)), (13, HV.int .i64 0)], [(3009, v12, .arr 1 30 [slE eInt a19]), (3079, w36, .arr eInt.k 3 (eInt.E a35))]⟩) (le_q rfl rfl) ?_
         clear hK K
         refine AW.lpR h (by first | exact up_then | exact up_to) (S := (List Int) × Int) (V := Unit) (fun a v => ⟨[(2, HV.fptr [HV.int .i64 p0.1, HV.int .i64 p0.2.1, slE eFromLabelTo p0.2.2] 0), (5, slE eInt a.1), (11, HV.ar 3079 w36 eInt.k 0 ((a35).length)), (12, HV.int .i64 (((a35).length : Nat) : Int)), (13, HV.int .i64 a.2)], [(3009, v12, .arr 1 30 [slE eInt a19]), (3079, w36, .arr eInt.k 3 (eInt.E a35))]⟩) ?_ (X := (List Int)) (W := Unit) (fun a v => ⟨[(5, slE eInt a)], [(3009, v12, .arr 1 30 [slE eInt a19]), (3079, w36, .arr eInt.k 3 (eInt.E a35))]⟩) (fun a65 w66 h => ?_) (fun a55 w56 st57 h hr58=> ?_)
         ·exact to_le (s' := ⟨[(2, HV.fptr [HV.int .i64 p0.1, HV.int .i64 p0.2.1, slE eFromLabelTo p0.2.2] 0), (5, slE eInt a19), (11, HV.ar 3079 w36 eInt.k 0 ((a35).length)), (12, HV.int .i64 (((a35).length : Nat) : Int)), (13, HV.int .i64 0)], [(3009, v12, .arr 1 30 [slE eInt a19]), (3079, w36, .arr eInt.k 3 (eInt.E a35))]⟩) (AS.le_of ⟨rfl, rfl, rfl, rfl, rfl, trivial⟩ ⟨rfl, rfl, trivial⟩) ⟨(), rfl⟩
         ·refine AW.rgs rfl fun K hK => ?_
          refine mv rfl rfl ?_
          refine mv rfl rfl ?_
          refine b_fin hK (s' := ⟨[(4, slE eInt a65)], [(3009, v12, .arr 1 30 [slE eInt a19]), (3079, w36, .arr eInt.k 3 (eInt.E a35))]⟩) (le_q rfl rfl) ?_
          clear hK K
          refine AW.ret ?_
          refine ret_to (hs := [slE eInt a65]) (q := slE eInt a65) (.inr rfl) (resT rfl rfl) rfl ?_
          exact to_le (s' := ⟨[(5, slE eInt x6.1), (7, HV.bool x6.2.2.1), (12, HV.ar 3079 w36 eInt.k 0 ((a35).length)), (83, slE eInt a65)], [(3079, w36, .arr eInt.k 3 (eInt.E a35))]⟩) (AS.le_of ⟨rfl, rfl, rfl, rfl, trivial⟩ ⟨rfl, trivial⟩) ⟨a65, (), h, rfl⟩
         ·refine AW.rgs rfl fun K hK => ?_
          refine bv rfl (v_bin rfl rfl b_lss) ?_
          refine b_fin hK (s' := ⟨[(2, HV.fptr [HV.int .i64 p0.1, HV.int .i64 p0.2.1, slE eFromLabelTo p0.2.2] 0), (5, slE eInt a55.1), (11, HV.ar 3079 w36 eInt.k 0 ((a35).length)), (12, HV.int .i64 (((a35).length : Nat) : Int)), (13, HV.int .i64 a55.2), (14, HV.bool (decide (a55.2 < (((a35).length : Nat) : Int))))], [(3009, v12, .arr 1 30 [slE eInt a19]), (3079, w36, .arr eInt.k 3 (eInt.E a35))]⟩) (le_q rfl rfl) ?_
          clear hK K
          refine AW.cseq rfl (fun hc => ?_) (fun hc => ?_)
          ·have hc := of_decide_eq_true hc
           have h := ifT hc h
           refine AW.skip ?_
           refine AW.seq (AW.block ?_)
           refine AW.rgs rfl fun K hK => ?_
           obtain ⟨x59, h60, h⟩ := bS h
           refine bv rfl (v_idxA ty30 es30 rfl rfl (idx_lt h60) rfl) ?_
           obtain ⟨x61, h62, h⟩ := bS h
           refine bv rfl (v_loadP ty3 rfl rfl (l_cell eInt h62 (o := 0) rfl rfl)) ?_
           refine mv rfl rfl ?_
           refine b_fin hK (s' := ⟨[(2, HV.fptr [HV.int .i64 p0.1, HV.int .i64 p0.2.1, slE eFromLabelTo p0.2.2] 0), (5, slE eInt a55.1), (7, HV.int .i64 x61), (11, HV.ar 3079 w36 eInt.k 0 ((a35).length)), (12, HV.int .i64 (((a35).length : Nat) : Int)), (13, HV.int .i64 a55.2)], [(3009, v12, .arr 1 30 [slE eInt a19]), (3079, w36, .arr eInt.k 3 (eInt.E a35))]⟩) (le_q rfl rfl) ?_
           clear hK K
           refine AW.rgs rfl fun K hK => ?_
           refine bv rfl (v_loadF ty24 rfl (l_litA rfl (Nat.le_of_ble_eq_true rfl) rfl)) ?_
           refine mv rfl rfl ?_
           refine mv rfl rfl ?_
           obtain ⟨x63, h64, h⟩ := bS h
           refine b_op rfl (o_call rfl rfl rfl rfl (ACallD.pure0 (w_graph_Step h64)) ?_)
           refine mv rfl rfl ?_
           refine bv rfl (v_extract rfl rfl) ?_
           refine bv rfl (v_extract rfl rfl) ?_
           refine mv rfl rfl ?_
           refine mv rfl rfl ?_
           refine b_fin hK (s' := ⟨[(2, HV.fptr [HV.int .i64 p0.1, HV.int .i64 p0.2.1, slE eFromLabelTo p0.2.2] 0), (8, slE eInt x63.1), (9, HV.int .i64 x63.2), (11, HV.ar 3079 w36 eInt.k 0 ((a35).length)), (12, HV.int .i64 (((a35).length : Nat) : Int)), (13, HV.int .i64 a55.2)], [(3009, v12, .arr 1 30 [slE eInt a19]), (3079, w36, .arr eInt.k 3 (eInt.E a35))]⟩) (le_q rfl rfl) ?_
           clear hK K
           refine AW.seq ?_
           refine AW.rgs rfl fun K hK => ?_
           refine mv rfl rfl ?_
           refine bv rfl (v_bin rfl rfl b_neq) ?_
           refine b_fin hK (s' := ⟨[(2, HV.fptr [HV.int .i64 p0.1, HV.int .i64 p0.2.1, slE eFromLabelTo p0.2.2] 0), (8, slE eInt x63.1), (11, HV.ar 3079 w36 eInt.k 0 ((a35).length)), (12, HV.int .i64 (((a35).length : Nat) : Int)), (13, HV.int .i64 a55.2), (25, HV.bool (decide (x63.2 ≠ 0)))], [(3009, v12, .arr 1 30 [slE eInt a19]), (3079, w36, .arr eInt.k 3 (eInt.E a35))]⟩) (le_q rfl rfl) ?_
           clear hK K
           refine AW.cond rfl (fun hc => ?_) (fun hc => ?_)
           ·have hc := of_decide_eq_true hc
            have h := ifT hc h
            refine AW.rgs rfl fun K hK => ?_
            refine mv rfl rfl ?_
            refine b_fin hK (s' := ⟨[(4, HV.v (.slice none 0 0))], [(3009, v12, .arr 1 30 [slE eInt a19]), (3079, w36, .arr eInt.k 3 (eInt.E a35))]⟩) (le_q rfl rfl) ?_
            clear hK K
            have h := hr58 _ h
            refine AW.ret ?_
            refine ret_to (hs := [HV.v (.slice none 0 0)]) (q := HV.v (.slice none 0 0)) (.inr rfl) (resT rfl rfl) rfl ?_
            refine to_bind (to_weak ⟨[(5, slE eInt x6.1), (7, HV.bool x6.2.2.1), (12, HV.ar 3079 w36 eInt.k 0 ((a35).length)), (83, slE eInt ([] : List Int))], [(3079, w36, .arr eInt.k 3 (eInt.E a35))]⟩ ⟨⟨_, rfl, .refl _⟩, ⟨_, rfl, .refl _⟩, ⟨_, rfl, .refl _⟩, ⟨_, rfl, .nil _⟩, trivial⟩ ⟨rfl, trivial⟩ ?_)
            exact to_le (s' := ⟨[(5, slE eInt x6.1), (7, HV.bool x6.2.2.1), (12, HV.ar 3079 w36 eInt.k 0 ((a35).length)), (83, slE eInt ([] : List Int))], [(3079, w36, .arr eInt.k 3 (eInt.E a35))]⟩) (AS.le_of ⟨rfl, rfl, rfl, rfl, trivial⟩ ⟨rfl, trivial⟩) ⟨([] : List Int), (), h, rfl⟩
           ·have hc := of_decide_eq_false hc
            have h := ifF hc h
            refine AW.skip ?_
            refine AW.rg rfl fun K hK => ?_
            refine mv rfl rfl ?_
            refine mv rfl rfl ?_
            refine b_fin hK (s' := ⟨[(2, HV.fptr [HV.int .i64 p0.1, HV.int .i64 p0.2.1, slE eFromLabelTo p0.2.2] 0), (5, slE eInt x63.1), (11, HV.ar 3079 w36 eInt.k 0 ((a35).length)), (12, HV.int .i64 (((a35).length : Nat) : Int)), (13, HV.int .i64 a55.2)], [(3009, v12, .arr 1 30 [slE eInt a19]), (3079, w36, .arr eInt.k 3 (eInt.E a35))]⟩) (le_q rfl rfl) ?_
            clear hK K
            refine AW.rg rfl fun K hK => ?_
            refine bv rfl (v_bin rfl rfl b_add) ?_
            refine mv rfl rfl ?_
            refine b_nil (hK _ ?_)
            clear hK K
            exact to_le (s' := ⟨[(2, HV.fptr [HV.int .i64 p0.1, HV.int .i64 p0.2.1, slE eFromLabelTo p0.2.2] 0), (5, slE eInt x63.1), (11, HV.ar 3079 w36 eInt.k 0 ((a35).length)), (12, HV.int .i64 (((a35).length : Nat) : Int)), (13, HV.int .i64 (IntKind.wrap .i64 (a55.2 + 1)))], [(3009, v12, .arr 1 30 [slE eInt a19]), (3079, w36, .arr eInt.k 3 (eInt.E a35))]⟩) (AS.le_of ⟨rfl, rfl, rfl, rfl, rfl, trivial⟩ ⟨rfl, rfl, trivial⟩) ⟨(x63.1, IntKind.wrap .i64 (a55.2 + 1)), (), h, rfl⟩
          ·have hc := of_decide_eq_false hc
           have h := ifF hc h
           refine AW.exit ?_
           exact to_le (s' := ⟨[(5, slE eInt a55.1)], [(3009, v12, .arr 1 30 [slE eInt a19]), (3079, w36, .arr eInt.k 3 (eInt.E a35))]⟩) (AS.le_of ⟨rfl, trivial⟩ ⟨rfl, rfl, trivial⟩) ⟨a55.1, (), h, rfl⟩
       ·refine AW.rgs rfl fun K hK => ?_
        refine bv rfl (v_bin rfl rfl b_lss) ?_
        refine b_fin hK (s' := ⟨[(2, HV.fptr [HV.int .i64 p0.1, HV.int .i64 p0.2.1, slE eFromLabelTo p0.2.2] 0), (5, slE eInt x6.1), (7, HV.bool x6.2.2.1), (11, HV.fn (.func 12) [] [HV.ptr 3009 v12 0, HV.fptr [HV.int .i64 p0.1, HV.int .i64 p0.2.1, slE eFromLabelTo p0.2.2] 0]), (12, HV.ar 3079 w26 eInt.k 0 ((a25.2).length)), (66, slE eU8 ((p1.take (min ((p1).length : Int) 4).toNat).drop (0 : Int).toNat)), (67, HV.int .i64 (((p1.take (min ((p1).length : Int) 4).toNat).drop (0 : Int).toNat).length : Int)), (68, HV.int .i64 a25.1), (69, HV.bool (decide (a25.1 < (((p1.take (min ((p1).length : Int) 4).toNat).drop (0 : Int).toNat).length : Int))))], [(3009, v12, .arr 1 30 [slE eInt a19]), (3079, w26, .arr eInt.k 3 (eInt.E a25.2))]⟩) (le_q rfl rfl) ?_
        clear hK K
        refine AW.cseq rfl (fun hc => ?_) (fun hc => ?_)
        ·have hc := of_decide_eq_true hc
         have h := ifT hc h
         refine AW.skip ?_
         refine AW.seq (AW.block ?_)
         refine AW.rgs rfl fun K hK => ?_
         obtain ⟨x29, h30, h⟩ := bS h
         refine bv rfl (v_idxF ty25 es25 rfl rfl (idx_lt h30)) ?_
         refine bv rfl (v_loadF ty5 rfl (l_cell eU8 h30 (o := 0) rfl rfl)) ?_
         refine mv rfl rfl ?_
         refine b_fin hK (s' := ⟨[(2, HV.fptr [HV.int .i64 p0.1, HV.int .i64 p0.2.1, slE eFromLabelTo p0.2.2] 0), (5, slE eInt x6.1), (7, HV.bool x6.2.2.1), (11, HV.fn (.func 12) [] [HV.ptr 3009 v12 0, HV.fptr [HV.int .i64 p0.1, HV.int .i64 p0.2.1, slE eFromLabelTo p0.2.2] 0]), (12, HV.ar 3079 w26 eInt.k 0 ((a25.2).length)), (14, HV.int .u8 x29), (66, slE eU8 ((p1.take (min ((p1).length : Int) 4).toNat).drop (0 : Int).toNat)), (67, HV.int .i64 (((p1.take (min ((p1).length : Int) 4).toNat).drop (0 : Int).toNat).length : Int)), (68, HV.int .i64 a25.1)], [(3009, v12, .arr 1 30 [slE eInt a19]), (3079, w26, .arr eInt.k 3 (eInt.E a25.2))]⟩) (le_q rfl rfl) ?_
         clear hK K
         refine AW.rg rfl fun K hK => ?_
         refine mv rfl rfl ?_
         refine mv rfl rfl ?_
         refine bv rfl (v_convI ty5 ty3 rfl) ?_
         refine bv rfl (v_fieldAddrF fo24_0 rfl) ?_
         refine bv rfl (v_loadF ty3 rfl (l_lit rfl rfl)) ?_
         obtain ⟨h31, h⟩ := ifN h
         refine bv rfl (v_bin rfl rfl (b_rem h31)) ?_
         refine b_op rfl (o_bsl rfl rfl (as_of (cs := [HV.int .i64 (Int.tmod (IntKind.wrap .i64 x29) p0.1)]) ty30 ty3 rfl rfl rfl rfl rfl) ?_)
         obtain ⟨h33, h⟩ := ifN h
         refine b_op rfl (o_appE eInt (l := a25.2) (m := [Int.tmod (IntKind.wrap .i64 x29) p0.1]) rfl rfl ty30 ty30 ty3 rfl rfl rfl rfl rfl h33 (fun v32 => ?_))
         refine mv rfl rfl ?_
         refine b_fin hK (s' := ⟨[(2, HV.fptr [HV.int .i64 p0.1, HV.int .i64 p0.2.1, slE eFromLabelTo p0.2.2] 0), (5, slE eInt x6.1), (7, HV.bool x6.2.2.1), (11, HV.fn (.func 12) [] [HV.ptr 3009 v12 0, HV.fptr [HV.int .i64 p0.1, HV.int .i64 p0.2.1, slE eFromLabelTo p0.2.2] 0]), (12, HV.ar 3079 v32 eInt.k 0 ((a25.2 ++ [Int.tmod (IntKind.wrap .i64 x29) p0.1]).length)), (66, slE eU8 ((p1.take (min ((p1).length : Int) 4).toNat).drop (0 : Int).toNat)), (67, HV.int .i64 (((p1.take (min ((p1).length : Int) 4).toNat).drop (0 : Int).toNat).length : Int)), (68, HV.int .i64 a25.1)], [(3009, v12, .arr 1 30 [slE eInt a19]), (3079, v32, .arr eInt.k 3 (eInt.E (a25.2 ++ [Int.tmod (IntKind.wrap .i64 x29) p0.1])))]⟩) (le_q rfl rfl) ?_
         clear hK K
         refine AW.rg rfl fun K hK => ?_
         refine bv rfl (v_bin rfl rfl b_add) ?_
         refine mv rfl rfl ?_
         refine b_nil (hK _ ?_)
         clear hK K
         exact to_le (s' := ⟨[(2, HV.fptr [HV.int .i64 p0.1, HV.int .i64 p0.2.1, slE eFromLabelTo p0.2.2] 0), (5, slE eInt x6.1), (7, HV.bool x6.2.2.1), (11, HV.fn (.func 12) [] [HV.ptr 3009 v12 0, HV.fptr [HV.int .i64 p0.1, HV.int .i64 p0.2.1, slE eFromLabelTo p0.2.2] 0]), (12, HV.ar 3079 v32 eInt.k 0 ((a25.2 ++ [Int.tmod (IntKind.wrap .i64 x29) p0.1]).length)), (66, slE eU8 ((p1.take (min ((p1).length : Int) 4).toNat).drop (0 : Int).toNat)), (67, HV.int .i64 (((p1.take (min ((p1).length : Int) 4).toNat).drop (0 : Int).toNat).length : Int)), (68, HV.int .i64 (IntKind.wrap .i64 (a25.1 + 1)))], [(3009, v12, .arr 1 30 [slE eInt a19]), (3079, v32, .arr eInt.k 3 (eInt.E (a25.2 ++ [Int.tmod (IntKind.wrap .i64 x29) p0.1])))]⟩) (AS.le_of ⟨rfl, rfl, rfl, rfl, rfl, rfl, rfl, rfl, trivial⟩ ⟨rfl, rfl, trivial⟩) ⟨(IntKind.wrap .i64 (a25.1 + 1), a25.2 ++ [Int.tmod (IntKind.wrap .i64 x29) p0.1]), v32, h, rfl⟩
        ·have hc := of_decide_eq_false hc
         have h := ifF hc h
         refine AW.exit ?_
         exact to_le (s' := ⟨[(5, slE eInt x6.1), (7, HV.bool x6.2.2.1), (11, HV.fn (.func 12) [] [HV.ptr 3009 v12 0, HV.fptr [HV.int .i64 p0.1, HV.int .i64 p0.2.1, slE eFromLabelTo p0.2.2] 0]), (12, HV.ar 3079 w26 eInt.k 0 ((a25.2).length))], [(3009, v12, .arr 1 30 [slE eInt a19]), (3079, w26, .arr eInt.k 3 (eInt.E a25.2))]⟩) (AS.le_of ⟨rfl, rfl, rfl, rfl, trivial⟩ ⟨rfl, rfl, trivial⟩) ⟨a25.2, w26, h, rfl⟩
     ·refine AW.rg rfl fun K hK => ?_
      refine mv rfl rfl ?_
      refine mv rfl rfl ?_
      by_cases hg82 : x6.2.2.1 = true
      ·have h := ifT hg82 h
       refine b_T rfl rfl rfl rfl hg82 (o_val rfl (mv_val rfl rfl).2 ?_)
       refine b_T rfl rfl rfl rfl rfl (o_val rfl (mv_val rfl rfl).2 ?_)
       refine b_T rfl rfl rfl rfl rfl (o_callJ h (S := (List Int)) (V := Unit) (fun a v => ⟨[(1, slE eU8 p1), (2, HV.fptr [HV.int .i64 p0.1, HV.int .i64 p0.2.1, slE eFromLabelTo p0.2.2] 0), (5, slE eInt x6.1), (6, HV.int .i64 x6.2.1), (7, HV.bool x6.2.2.1), (11, HV.fn (.func 12) [] [HV.ptr 3009 v12 0, HV.fptr [HV.int .i64 p0.1, HV.int .i64 p0.2.1, slE eFromLabelTo p0.2.2] 0]), (53, HV.bool true), (56, slE eInt a)], [(3009, v12, .arr 1 30 [slE eInt a19])]⟩) rfl rfl rfl rfl (fun a67 w68 h => ?_) (fun k69 h => ?_) )
       ·refine b_T rfl rfl rfl rfl rfl (o_val rfl (mv_val rfl rfl).2 ?_)
        refine b_T rfl rfl rfl rfl rfl (o_bsl rfl rfl (as_of (cs := [HV.int .i64 x6.2.1]) ty30 ty3 rfl rfl rfl rfl rfl) ?_)
        obtain ⟨x70, h71, h⟩ := bS h
        refine b_T rfl rfl rfl rfl rfl (o_call rfl rfl rfl rfl (ACallD.pure0 (w_slices_Equal_Lint_int h71)) ?_)
        refine b_T rfl rfl rfl rfl rfl (o_val rfl (v_not rfl) ?_)
        refine bv rfl (v_pickT rfl rfl rfl) ?_
        refine b_nil (hK _ ?_)
        clear hK K
        exact to_le (s' := ⟨[(1, slE eU8 p1), (2, HV.fptr [HV.int .i64 p0.1, HV.int .i64 p0.2.1, slE eFromLabelTo p0.2.2] 0), (5, slE eInt x6.1), (7, HV.bool x6.2.2.1), (11, HV.fn (.func 12) [] [HV.ptr 3009 v12 0, HV.fptr [HV.int .i64 p0.1, HV.int .i64 p0.2.1, slE eFromLabelTo p0.2.2] 0]), (61, HV.bool (!x70))], [(3009, v12, .arr 1 30 [slE eInt a19])]⟩) (AS.le_of ⟨rfl, rfl, rfl, rfl, rfl, rfl, trivial⟩ ⟨rfl, trivial⟩) ⟨!x70, (), h, rfl⟩
       ·refine ACall.of_body Tryd.func12 rfl rfl (Nat.le_of_ble_eq_true rfl) ?_
        unfold Tryd.f12
        dsimp only [enumS, Nat.reduceAdd]
        refine AW.fin ?_
        refine AW.rgs rfl fun K hK => ?_
        refine mv rfl rfl ?_
        refine b_fin hK (s' := ⟨[(0, slE eInt x6.1), (1, HV.ptr 3009 v12 0), (2, HV.fptr [HV.int .i64 p0.1, HV.int .i64 p0.2.1, slE eFromLabelTo p0.2.2] 0)], [(3009, v12, .arr 1 30 [slE eInt a19])]⟩) (le_q rfl rfl) ?_
        clear hK K
        refine AW.rgs rfl fun K hK => ?_
        refine bv rfl (v_loadP ty30 rfl rfl (l_lit rfl rfl)) ?_
        refine mv rfl rfl ?_
        refine b_fin hK (s' := ⟨[(0, slE eInt x6.1), (2, HV.fptr [HV.int .i64 p0.1, HV.int .i64 p0.2.1, slE eFromLabelTo p0.2.2] 0), (5, slE eInt a19)], [(3009, v12, .arr 1 30 [slE eInt a19])]⟩) (le_q rfl rfl) ?_
        clear hK K
        refine AW.seq ?_
        refine AW.rgs rfl fun K hK => ?_
        refine mv rfl rfl ?_
        refine bv rfl (v_lenF rfl rfl ty30 rfl) ?_
        refine mv rfl rfl ?_
        refine b_fin hK (s' := ⟨[(2, HV.fptr [HV.int .i64 p0.1, HV.int .i64 p0.2.1, slE eFromLabelTo p0.2.2] 0), (5, slE eInt a19), (11, slE eInt x6.1), (12, HV.int .i64 ((x6.1).length : Int)), (13, HV.int .i64 0)], [(3009, v12, .arr 1 30 [slE eInt a19])]⟩) (le_q rfl rfl) ?_
        clear hK K
        refine AW.lpR h (by first | exact up_then | exact up_to) (S := (List Int) × Int) (V := Unit) (fun a v => ⟨[(2, HV.fptr [HV.int .i64 p0.1, HV.int .i64 p0.2.1, slE eFromLabelTo p0.2.2] 0), (5, slE eInt a.1), (11, slE eInt x6.1), (12, HV.int .i64 ((x6.1).length : Int)), (13, HV.int .i64 a.2)], [(3009, v12, .arr 1 30 [slE eInt a19])]⟩) ?_ (X := (List Int)) (W := Unit) (fun a v => ⟨[(5, slE eInt a)], [(3009, v12, .arr 1 30 [slE eInt a19])]⟩) (fun a80 w81 h => ?_) (fun a72 w73 st74 h hr75=> ?_)
        ·exact to_le (s' := ⟨[(2, HV.fptr [HV.int .i64 p0.1, HV.int .i64 p0.2.1, slE eFromLabelTo p0.2.2] 0), (5, slE eInt a19), (11, slE eInt x6.1), (12, HV.int .i64 ((x6.1).length : Int)), (13, HV.int .i64 0)], [(3009, v12, .arr 1 30 [slE eInt a19])]⟩) (AS.le_of ⟨rfl, rfl, rfl, rfl, rfl, trivial⟩ ⟨rfl, trivial⟩) ⟨(), rfl⟩
        ·refine AW.rgs rfl fun K hK => ?_
         refine mv rfl rfl ?_
         refine mv rfl rfl ?_
         refine b_fin hK (s' := ⟨[(4, slE eInt a80)], [(3009, v12, .arr 1 30 [slE eInt a19])]⟩) (le_q rfl rfl) ?_
         clear hK K
         refine AW.ret ?_
         refine ret_to (hs := [slE eInt a80]) (q := slE eInt a80) (.inr rfl) (resT rfl rfl) rfl ?_
         exact to_le (s' := ⟨[(1, slE eU8 p1), (2, HV.fptr [HV.int .i64 p0.1, HV.int .i64 p0.2.1, slE eFromLabelTo p0.2.2] 0), (5, slE eInt x6.1), (6, HV.int .i64 x6.2.1), (7, HV.bool x6.2.2.1), (11, HV.fn (.func 12) [] [HV.ptr 3009 v12 0, HV.fptr [HV.int .i64 p0.1, HV.int .i64 p0.2.1, slE eFromLabelTo p0.2.2] 0]), (53, HV.bool true), (56, slE eInt a80)], [(3009, v12, .arr 1 30 [slE eInt a19])]⟩) (AS.le_of ⟨rfl, rfl, rfl, rfl, rfl, rfl, rfl, rfl, trivial⟩ ⟨rfl, trivial⟩) ⟨a80, (), h, rfl⟩
        ·refine AW.rgs rfl fun K hK => ?_
         refine bv rfl (v_bin rfl rfl b_lss) ?_
         refine b_fin hK (s' := ⟨[(2, HV.fptr [HV.int .i64 p0.1, HV.int .i64 p0.2.1, slE eFromLabelTo p0.2.2] 0), (5, slE eInt a72.1), (11, slE eInt x6.1), (12, HV.int .i64 ((x6.1).length : Int)), (13, HV.int .i64 a72.2), (14, HV.bool (decide (a72.2 < ((x6.1).length : Int))))], [(3009, v12, .arr 1 30 [slE eInt a19])]⟩) (le_q rfl rfl) ?_
         clear hK K
         refine AW.cseq rfl (fun hc => ?_) (fun hc => ?_)
         ·have hc := of_decide_eq_true hc
          have h := ifT hc h
          refine AW.skip ?_
          refine AW.seq (AW.block ?_)
          refine AW.rgs rfl fun K hK => ?_
          obtain ⟨x76, h77, h⟩ := bS h
          refine bv rfl (v_idxF ty30 es30 rfl rfl (idx_lt h77)) ?_
          refine bv rfl (v_loadF ty3 rfl (l_cell eInt h77 (o := 0) rfl rfl)) ?_
          refine mv rfl rfl ?_
          refine b_fin hK (s' := ⟨[(2, HV.fptr [HV.int .i64 p0.1, HV.int .i64 p0.2.1, slE eFromLabelTo p0.2.2] 0), (5, slE eInt a72.1), (7, HV.int .i64 x76), (11, slE eInt x6.1), (12, HV.int .i64 ((x6.1).length : Int)), (13, HV.int .i64 a72.2)], [(3009, v12, .arr 1 30 [slE eInt a19])]⟩) (le_q rfl rfl) ?_
          clear hK K
          refine AW.rgs rfl fun K hK => ?_
          refine bv rfl (v_loadF ty24 rfl (l_litA rfl (Nat.le_of_ble_eq_true rfl) rfl)) ?_
          refine mv rfl rfl ?_
          refine mv rfl rfl ?_
          obtain ⟨x78, h79, h⟩ := bS h
          refine b_op rfl (o_call rfl rfl rfl rfl (ACallD.pure0 (w_graph_Step h79)) ?_)
          refine mv rfl rfl ?_
          refine bv rfl (v_extract rfl rfl) ?_
          refine bv rfl (v_extract rfl rfl) ?_
          refine mv rfl rfl ?_
          refine mv rfl rfl ?_
          refine b_fin hK (s' := ⟨[(2, HV.fptr [HV.int .i64 p0.1, HV.int .i64 p0.2.1, slE eFromLabelTo p0.2.2] 0), (8, slE eInt x78.1), (9, HV.int .i64 x78.2), (11, slE eInt x6.1), (12, HV.int .i64 ((x6.1).length : Int)), (13, HV.int .i64 a72.2)], [(3009, v12, .arr 1 30 [slE eInt a19])]⟩) (le_q rfl rfl) ?_
          clear hK K
          refine AW.seq ?_
          refine AW.rgs rfl fun K hK => ?_
          refine mv rfl rfl ?_
          refine bv rfl (v_bin rfl rfl b_neq) ?_
          refine b_fin hK (s' := ⟨[(2, HV.fptr [HV.int .i64 p0.1, HV.int .i64 p0.2.1, slE eFromLabelTo p0.2.2] 0), (8, slE eInt x78.1), (11, slE eInt x6.1), (12, HV.int .i64 ((x6.1).length : Int)), (13, HV.int .i64 a72.2), (25, HV.bool (decide (x78.2 ≠ 0)))], [(3009, v12, .arr 1 30 [slE eInt a19])]⟩) (le_q rfl rfl) ?_
          clear hK K
          refine AW.cond rfl (fun hc => ?_) (fun hc => ?_)
          ·have hc := of_decide_eq_true hc
           have h := ifT hc h
           refine AW.rgs rfl fun K hK => ?_
           refine mv rfl rfl ?_
           refine b_fin hK (s' := ⟨[(4, HV.v (.slice none 0 0))], [(3009, v12, .arr 1 30 [slE eInt a19])]⟩) (le_q rfl rfl) ?_
           clear hK K
           have h := hr75 _ h
           refine AW.ret ?_
           refine ret_to (hs := [HV.v (.slice none 0 0)]) (q := HV.v (.slice none 0 0)) (.inr rfl) (resT rfl rfl) rfl ?_
           refine to_bind (to_weak ⟨[(1, slE eU8 p1), (2, HV.fptr [HV.int .i64 p0.1, HV.int .i64 p0.2.1, slE eFromLabelTo p0.2.2] 0), (5, slE eInt x6.1), (6, HV.int .i64 x6.2.1), (7, HV.bool x6.2.2.1), (11, HV.fn (.func 12) [] [HV.ptr 3009 v12 0, HV.fptr [HV.int .i64 p0.1, HV.int .i64 p0.2.1, slE eFromLabelTo p0.2.2] 0]), (53, HV.bool true), (56, slE eInt ([] : List Int))], [(3009, v12, .arr 1 30 [slE eInt a19])]⟩ ⟨⟨_, rfl, .refl _⟩, ⟨_, rfl, .refl _⟩, ⟨_, rfl, .refl _⟩, ⟨_, rfl, .refl _⟩, ⟨_, rfl, .refl _⟩, ⟨_, rfl, .refl _⟩, ⟨_, rfl, .refl _⟩, ⟨_, rfl, .nil _⟩, trivial⟩ ⟨rfl, trivial⟩ ?_)
           exact to_le (s' := ⟨[(1, slE eU8 p1), (2, HV.fptr [HV.int .i64 p0.1, HV.int .i64 p0.2.1, slE eFromLabelTo p0.2.2] 0), (5, slE eInt x6.1), (6, HV.int .i64 x6.2.1), (7, HV.bool x6.2.2.1), (11, HV.fn (.func 12) [] [HV.ptr 3009 v12 0, HV.fptr [HV.int .i64 p0.1, HV.int .i64 p0.2.1, slE eFromLabelTo p0.2.2] 0]), (53, HV.bool true), (56, slE eInt ([] : List Int))], [(3009, v12, .arr 1 30 [slE eInt a19])]⟩) (AS.le_of ⟨rfl, rfl, rfl, rfl, rfl, rfl, rfl, rfl, trivial⟩ ⟨rfl, trivial⟩) ⟨([] : List Int), (), h, rfl⟩
          ·have hc := of_decide_eq_false hc
           have h := ifF hc h
           refine AW.skip ?_
           refine AW.rg rfl fun K hK => ?_
           refine mv rfl rfl ?_
           refine mv rfl rfl ?_
           refine b_fin hK (s' := ⟨[(2, HV.fptr [HV.int .i64 p0.1, HV.int .i64 p0.2.1, slE eFromLabelTo p0.2.2] 0), (5, slE eInt x78.1), (11, slE eInt x6.1), (12, HV.int .i64 ((x6.1).length : Int)), (13, HV.int .i64 a72.2)], [(3009, v12, .arr 1 30 [slE eInt a19])]⟩) (le_q rfl rfl) ?_
           clear hK K
           refine AW.rg rfl fun K hK => ?_
           refine bv rfl (v_bin rfl rfl b_add) ?_
           refine mv rfl rfl ?_
           refine b_nil (hK _ ?_)
           clear hK K
           exact to_le (s' := ⟨[(2, HV.fptr [HV.int .i64 p0.1, HV.int .i64 p0.2.1, slE eFromLabelTo p0.2.2] 0), (5, slE eInt x78.1), (11, slE eInt x6.1), (12, HV.int .i64 ((x6.1).length : Int)), (13, HV.int .i64 (IntKind.wrap .i64 (a72.2 + 1)))], [(3009, v12, .arr 1 30 [slE eInt a19])]⟩) (AS.le_of ⟨rfl, rfl, rfl, rfl, rfl, trivial⟩ ⟨rfl, trivial⟩) ⟨(x78.1, IntKind.wrap .i64 (a72.2 + 1)), (), h, rfl⟩
         ·have hc := of_decide_eq_false hc
          have h := ifF hc h
          refine AW.exit ?_
          exact to_le (s' := ⟨[(5, slE eInt a72.1)], [(3009, v12, .arr 1 30 [slE eInt a19])]⟩) (AS.le_of ⟨rfl, trivial⟩ ⟨rfl, trivial⟩) ⟨a72.1, (), h, rfl⟩
      ·have h := ifF hg82 h
       refine b_F rfl rfl rfl rfl rfl (bF hg82) ?_
       refine b_F rfl rfl rfl rfl rfl rfl ?_
       refine b_F rfl rfl rfl rfl rfl rfl ?_
       refine b_F rfl rfl rfl rfl rfl rfl ?_
       refine b_F rfl rfl rfl rfl rfl rfl ?_
       refine b_F rfl rfl rfl rfl rfl rfl ?_
       refine b_F rfl rfl rfl rfl rfl rfl ?_
       refine bv rfl (v_pickF rfl rfl rfl) ?_
       refine b_nil (hK _ ?_)
       clear hK K
       exact to_le (s' := ⟨[(1, slE eU8 p1), (2, HV.fptr [HV.int .i64 p0.1, HV.int .i64 p0.2.1, slE eFromLabelTo p0.2.2] 0), (5, slE eInt x6.1), (7, HV.bool x6.2.2.1), (11, HV.fn (.func 12) [] [HV.ptr 3009 v12 0, HV.fptr [HV.int .i64 p0.1, HV.int .i64 p0.2.1, slE eFromLabelTo p0.2.2] 0]), (61, HV.bool false)], [(3009, v12, .arr 1 30 [slE eInt a19])]⟩) (AS.le_of ⟨rfl, rfl, rfl, rfl, rfl, rfl, trivial⟩ ⟨rfl, trivial⟩) ⟨false, (), h, rfl⟩
    ·refine AW.rgs rfl fun K hK => ?_
     refine bv rfl (v_bin rfl rfl b_lss) ?_
     refine b_fin hK (s' := ⟨[(1, slE eU8 p1), (2, HV.fptr [HV.int .i64 p0.1, HV.int .i64 p0.2.1, slE eFromLabelTo p0.2.2] 0), (5, slE eInt x6.1), (6, HV.int .i64 x6.2.1), (7, HV.bool x6.2.2.1), (9, HV.ptr 3009 v12 0), (42, HV.int .i64 (((List.replicate (p0.2.1).toNat (0 : Int)).length : Nat) : Int)), (43, HV.int .i64 a13.1), (44, HV.bool (decide (a13.1 < (((List.replicate (p0.2.1).toNat (0 : Int)).length : Nat) : Int))))], [(3009, v12, .arr 1 30 [HV.ar 3040 v10 eInt.k 0 ((a13.2).length)]), (3040, v10, .arr eInt.k 3 (eInt.E a13.2))]⟩) (le_q rfl rfl) ?_
     clear hK K
     refine AW.cseq rfl (fun hc => ?_) (fun hc => ?_)
     ·have hc := of_decide_eq_true hc
      have h := ifT hc h
      refine AW.skip ?_
      refine AW.seq (AW.block ?_)
      refine AW.rgs rfl fun K hK => ?_
      refine mv rfl rfl ?_
      refine mv rfl rfl ?_
      refine b_fin hK (s' := ⟨[(1, slE eU8 p1), (2, HV.fptr [HV.int .i64 p0.1, HV.int .i64 p0.2.1, slE eFromLabelTo p0.2.2] 0), (5, slE eInt x6.1), (6, HV.int .i64 x6.2.1), (7, HV.bool x6.2.2.1), (9, HV.ptr 3009 v12 0), (10, HV.int .i64 a13.1), (42, HV.int .i64 (((List.replicate (p0.2.1).toNat (0 : Int)).length : Nat) : Int)), (43, HV.int .i64 a13.1)], [(3009, v12, .arr 1 30 [HV.ar 3040 v10 eInt.k 0 ((a13.2).length)]), (3040, v10, .arr eInt.k 3 (eInt.E a13.2))]⟩) (le_q rfl rfl) ?_
      clear hK K
      refine AW.rg rfl fun K hK => ?_
      refine bv rfl (v_loadP ty30 rfl rfl (l_lit rfl rfl)) ?_
      refine mv rfl rfl ?_
      refine mv rfl rfl ?_
      obtain ⟨x17, h18, h⟩ := bS h
      refine bv rfl (v_idxA ty30 es30 rfl rfl (idx_lt h18) rfl) ?_
      refine b_op rfl (o_storeE eInt (l := a13.2) (j := a13.1) (v := a13.1) rfl rfl rfl ty3 rfl rfl rfl (idx_lt h18) ?_)
      refine b_fin hK (s' := ⟨[(1, slE eU8 p1), (2, HV.fptr [HV.int .i64 p0.1, HV.int .i64 p0.2.1, slE eFromLabelTo p0.2.2] 0), (5, slE eInt x6.1), (6, HV.int .i64 x6.2.1), (7, HV.bool x6.2.2.1), (9, HV.ptr 3009 v12 0), (42, HV.int .i64 (((List.replicate (p0.2.1).toNat (0 : Int)).length : Nat) : Int)), (43, HV.int .i64 a13.1)], [(3009, v12, .arr 1 30 [HV.ar 3040 v10 eInt.k 0 (((a13.2).set (a13.1).toNat a13.1).length)]), (3040, v10, .arr eInt.k 3 (eInt.E ((a13.2).set (a13.1).toNat a13.1)))]⟩) (AS.le_of ⟨rfl, rfl, rfl, rfl, rfl, rfl, rfl, rfl, trivial⟩ ⟨hle rfl (by first | rfl | simp only [List.length_set, sortI_len, sortS_len]), rfl, trivial⟩) ?_
      clear hK K
      refine AW.rg rfl fun K hK => ?_
      refine bv rfl (v_bin rfl rfl b_add) ?_
      refine mv rfl rfl ?_
      refine b_nil (hK _ ?_)
      clear hK K
      exact to_le (s' := ⟨[(1, slE eU8 p1), (2, HV.fptr [HV.int .i64 p0.1, HV.int .i64 p0.2.1, slE eFromLabelTo p0.2.2] 0), (5, slE eInt x6.1), (6, HV.int .i64 x6.2.1), (7, HV.bool x6.2.2.1), (9, HV.ptr 3009 v12 0), (42, HV.int .i64 (((List.replicate (p0.2.1).toNat (0 : Int)).length : Nat) : Int)), (43, HV.int .i64 (IntKind.wrap .i64 (a13.1 + 1)))], [(3009, v12, .arr 1 30 [HV.ar 3040 v10 eInt.k 0 (((a13.2).set (a13.1).toNat a13.1).length)]), (3040, v10, .arr eInt.k 3 (eInt.E ((a13.2).set (a13.1).toNat a13.1)))]⟩) (AS.le_of ⟨rfl, rfl, rfl, rfl, rfl, rfl, rfl, rfl, trivial⟩ ⟨rfl, rfl, trivial⟩) ⟨(IntKind.wrap .i64 (a13.1 + 1), (a13.2).set (a13.1).toNat a13.1), (), h, rfl⟩
     ·have hc := of_decide_eq_false hc
      have h := ifF hc h
      refine AW.exit ?_
      exact to_le (s' := ⟨[(1, slE eU8 p1), (2, HV.fptr [HV.int .i64 p0.1, HV.int .i64 p0.2.1, slE eFromLabelTo p0.2.2] 0), (5, slE eInt x6.1), (6, HV.int .i64 x6.2.1), (7, HV.bool x6.2.2.1), (9, HV.ptr 3009 v12 0)], [(3009, v12, .arr 1 30 [HV.ar 3040 v10 eInt.k 0 ((a13.2).length)]), (3040, v10, .arr eInt.k 3 (eInt.E a13.2))]⟩) (AS.le_of ⟨rfl, rfl, rfl, rfl, rfl, rfl, trivial⟩ ⟨rfl, rfl, trivial⟩) ⟨a13.2, (), h, rfl⟩
 ·refine AW.rg rfl fun K hK => ?_
  refine bv rfl (v_loadF ty24 rfl (l_litA rfl (Nat.le_of_ble_eq_true rfl) rfl)) ?_
  obtain ⟨x83, h84, h⟩ := bS h
  refine b_op rfl (o_call rfl rfl rfl rfl (ACallD.pure0 (w_law12_great h84)) ?_)
  refine mv rfl rfl ?_
  by_cases hg88 : x83 = true
  ·have h := ifT hg88 h
   refine b_F rfl rfl rfl rfl rfl hg88 ?_
   refine b_F rfl rfl rfl rfl rfl rfl ?_
   refine b_F rfl rfl rfl rfl rfl rfl ?_
   refine bv rfl (v_pickT rfl rfl rfl) ?_
   refine mv rfl rfl ?_
   refine b_F rfl rfl rfl rfl rfl rfl ?_
   refine b_F rfl rfl rfl rfl rfl rfl ?_
   refine b_F rfl rfl rfl rfl rfl rfl ?_
   refine bv rfl (v_pickT rfl rfl rfl) ?_
   refine b_nil (hK _ ?_)
   clear hK K
   exact to_le (s' := ⟨[(1, slE eU8 p1), (2, HV.fptr [HV.int .i64 p0.1, HV.int .i64 p0.2.1, slE eFromLabelTo p0.2.2] 0), (26, HV.bool true)], []⟩) (AS.le_of ⟨rfl, rfl, rfl, trivial⟩ trivial) ⟨true, (), h, rfl⟩
  ·have h := ifF hg88 h
   refine b_T rfl rfl rfl rfl (bF hg88) (o_val rfl (v_loadF ty24 rfl (l_litA rfl (Nat.le_of_ble_eq_true rfl) rfl)) ?_)
   obtain ⟨x85, h86, h⟩ := bS h
   refine b_T rfl rfl rfl rfl rfl (o_call rfl rfl rfl rfl (ACallD.pure0 (w_graph_Check h86)) ?_)
   refine b_T rfl rfl rfl rfl rfl (o_val rfl (v_bin rfl rfl b_neq) ?_)
   refine bv rfl (v_pickF rfl rfl rfl) ?_
   refine mv rfl rfl ?_
   by_cases hg87 : x85 ≠ 0
   ·have h := ifT hg87 h
    refine b_F rfl rfl rfl rfl rfl (decide_eq_true hg87) ?_
    refine b_F rfl rfl rfl rfl rfl rfl ?_
    refine b_F rfl rfl rfl rfl rfl rfl ?_
    refine bv rfl (v_pickT rfl rfl rfl) ?_
    refine b_nil (hK _ ?_)
    clear hK K
    exact to_le (s' := ⟨[(1, slE eU8 p1), (2, HV.fptr [HV.int .i64 p0.1, HV.int .i64 p0.2.1, slE eFromLabelTo p0.2.2] 0), (26, HV.bool true)], []⟩) (AS.le_of ⟨rfl, rfl, rfl, trivial⟩ trivial) ⟨true, (), h, rfl⟩
   ·have h := ifF hg87 h
    refine b_T rfl rfl rfl rfl (decide_eq_false hg87) (o_val rfl (v_fieldAddrF fo24_1 rfl) ?_)
    refine b_T rfl rfl rfl rfl rfl (o_val rfl (v_loadF ty3 rfl (l_lit rfl rfl)) ?_)
    refine b_T rfl rfl rfl rfl rfl (o_val rfl (v_bin rfl rfl b_eql) ?_)
    refine bv rfl (v_pickF rfl rfl rfl) ?_
    refine b_nil (hK _ ?_)
    clear hK K
    exact to_le (s' := ⟨[(1, slE eU8 p1), (2, HV.fptr [HV.int .i64 p0.1, HV.int .i64 p0.2.1, slE eFromLabelTo p0.2.2] 0), (26, HV.bool (decide (p0.2.1 = 0)))], []⟩) (AS.le_of ⟨rfl, rfl, rfl, trivial⟩ trivial) ⟨decide (p0.2.1 = 0), (), h, rfl⟩

end Go.AW



/- SubsetFoci. -/
namespace Go.AW
open Go
set_option linter.unusedSimpArgs false
set_option linter.unusedVariables false

/-- the order of lists of numbers -/
def lexC : List Int → List Int → Int
  | [], [] => 0
  | [], _ :: _ => -1
  | _ :: _, [] => 1
  | x :: u, y :: v => if x < y then -1 else if y < x then 1 else lexC u v
theorem lexC_refl : ∀ u, lexC u u = 0
  | [] => rfl
  | x :: u => by simp only [lexC]; rw [if_neg (by omega), if_neg (by omega)]; exact lexC_refl u

theorem Compare_eq {u v : List Int} (hl : u.length = v.length) (hm : u.length ≤ 1000000) : m_slices_Compare_Lint_int u v = some (lexC u v) := by
  unfold m_slices_Compare_Lint_int
  refine lpN (fun x => x = if lexC u v = 0 then Ou.go () else Ou.ret (lexC u v)) (loopN u.length (fun i s => s = (i : Int) ∧ lexC u v = lexC (u.drop i) (v.drop i)) (fun i s hi hI => ?_) (fun s hI => ?_) 0 _ (Nat.zero_le _) ⟨rfl, by simp⟩) fun x hx => ?_
  · obtain ⟨rfl, he⟩ := hI
    have hi2 : i < v.length := by omega
    rw [List.drop_eq_getElem_cons hi, List.drop_eq_getElem_cons hi2] at he
    simp only [lexC] at he
    rw [if_pos (lt_int hi), ix hi, Option.bind_some, if_neg (by omega), ix hi2, Option.bind_some, cmpC, Option.bind_some, nx (by omega : u.length ≤ _) hi]
    by_cases h1 : u[i] < v[i]
    · rw [if_pos h1] at he ⊢
      rw [if_pos (by decide), he]
      exact .inr ⟨_, rfl, by rw [if_neg (by decide)]⟩
    · rw [if_neg h1] at he ⊢
      by_cases h2 : v[i] < u[i]
      · rw [if_pos h2] at he ⊢
        rw [if_pos (by decide), he]
        exact .inr ⟨_, rfl, by rw [if_neg (by decide)]⟩
      · rw [if_neg h2] at he ⊢
        rw [if_neg (by decide)]
        exact .inl ⟨_, rfl, rfl, he⟩
  · obtain ⟨rfl, he⟩ := hI
    rw [List.drop_length, hl, List.drop_length] at he
    have he : lexC u v = 0 := he
    refine ⟨Ou.go (), by rw [if_neg (not_lt_int _)], ?_⟩
    rw [if_pos he]
  · rw [hx]
    by_cases h0 : lexC u v = 0
    · rw [if_pos h0, h0]
      simp only [lpO]
      rw [if_neg (by omega)]
    · rw [if_neg h0]
      rfl

theorem lexC_snoc (x y : Int) : ∀ {u v : List Int}, u.length = v.length → lexC (u ++ [x]) (v ++ [y]) = if lexC u v = 0 then (if x < y then -1 else if y < x then 1 else 0) else lexC u v
  | [], [], _ => by simp only [lexC, List.nil_append, if_true]
  | a :: u, b :: v, h => by
    have ih := lexC_snoc x y (u := u) (v := v) (by simpa using h)
    have e1 : ∀ p q : List Int, lexC (a :: p) (b :: q) = if a < b then -1 else if b < a then 1 else lexC p q := fun _ _ => rfl
    rw [List.cons_append, List.cons_append]
    by_cases h1 : a < b
    · have k : ∀ p q : List Int, lexC (a :: p) (b :: q) = -1 := fun p q => by rw [e1, if_pos h1]
      rw [k, k, if_neg (by decide)]
    · by_cases h2 : b < a
      · have k : ∀ p q : List Int, lexC (a :: p) (b :: q) = 1 := fun p q => by rw [e1, if_neg h1, if_pos h2]
        rw [k, k, if_neg (by decide)]
      · have k : ∀ p q : List Int, lexC (a :: p) (b :: q) = lexC p q := fun p q => by rw [e1, if_neg h1, if_neg h2]
        rw [k, k]
        exact ih
theorem lexC_trans : ∀ {u v w : List Int}, u.length = v.length → v.length = w.length → (lexC u v < 0 → lexC v w ≤ 0 → lexC u w < 0) ∧ (lexC u v ≤ 0 → lexC v w ≤ 0 → lexC u w ≤ 0)
  | [], [], [], _, _ => by simp [lexC]
  | a :: u, b :: v, c :: w, h1, h2 => by
    have ih := lexC_trans (u := u) (v := v) (w := w) (by simpa using h1) (by simpa using h2)
    simp only [lexC]
    constructor
    · intro k1 k2
      repeat' split at k1
      all_goals repeat' split at k2
      all_goals repeat' split
      all_goals first
        | omega
        | exact ih.1 k1 k2
    · intro k1 k2
      repeat' split at k1
      all_goals repeat' split at k2
      all_goals repeat' split
      all_goals first
        | omega
        | exact ih.2 k1 k2

/-- shorter, or as long and before it (or equal) -/
def sl (u v : List Int) : Prop := u.length < v.length ∨ u.length = v.length ∧ lexC u v ≤ 0
def slt (u v : List Int) : Prop := u.length < v.length ∨ u.length = v.length ∧ lexC u v < 0
theorem sl_refl (u : List Int) : sl u u := .inr ⟨rfl, by rw [lexC_refl]; exact Int.le_refl _⟩
theorem slt.sl {u v : List Int} (h : slt u v) : sl u v := h.imp id fun ⟨a, b⟩ => ⟨a, Int.le_of_lt b⟩
theorem slt_sl {u v w : List Int} (h : slt u v) (k : sl v w) : slt u w := by
  rcases h with h | ⟨h1, h2⟩
  · rcases k with k | ⟨k1, _⟩
    · exact .inl (by omega)
    · exact .inl (by omega)
  · rcases k with k | ⟨k1, k2⟩
    · exact .inl (by omega)
    · exact .inr ⟨by omega, (lexC_trans h1 k1).1 h2 k2⟩
theorem slt_snoc {u v : List Int} (x y : Int) (h : slt u v) : slt (u ++ [x]) (v ++ [y]) := by
  rcases h with h | ⟨h1, h2⟩
  · exact .inl (by simp; omega)
  · refine .inr ⟨by simp; omega, ?_⟩
    rw [lexC_snoc x y h1, if_neg (by omega)]
    exact h2
theorem sl_snoc {u v : List Int} {x y : Int} (h : sl u v) (hxy : x ≤ y) : sl (u ++ [x]) (v ++ [y]) := by
  rcases h with h | ⟨h1, h2⟩
  · exact .inl (by simp; omega)
  · refine .inr ⟨by simp; omega, ?_⟩
    rw [lexC_snoc x y h1]
    repeat' split
    all_goals omega
theorem slt_last (u : List Int) {x y : Int} (hxy : x < y) : slt (u ++ [x]) (u ++ [y]) := by
  refine .inr ⟨by simp, ?_⟩
  rw [lexC_snoc x y rfl, lexC_refl, if_pos rfl, if_pos hxy]
  decide
theorem slt_nil {u : List Int} (h : u ≠ []) : slt [] u := .inl (by have := List.length_pos_iff.2 h; simpa using this)
theorem sl_nil (u : List Int) : sl [] u := by
  by_cases h : u = []
  · subst h; exact sl_refl _
  · exact (slt_nil h).sl

def edLt (x y : Ed) : Prop := x.1 < y.1 ∨ x.1 = y.1 ∧ x.2.1 < y.2.1
/-- each word but the first comes from the first edge to its number; the words ascend -/
structure WOrd (E : List Ed) : Prop where
  find : ∀ q, 0 < q → q < (wordsB E).length → ∃ y ∈ E, 0 ≤ y.1 ∧ y.1 < (q : Int) ∧ (wordsB E).getD q [] = (wordsB E).getD y.1.toNat [] ++ [y.2.1] ∧ ∀ e ∈ E, e.2.2 = (q : Int) → edLt y e ∨ y.1 = e.1 ∧ y.2.1 = e.2.1
  mono : ∀ p q, p < q → q < (wordsB E).length → slt ((wordsB E).getD p []) ((wordsB E).getD q [])
  lt : ∀ e ∈ E, e.2.2 < ((wordsB E).length : Int)
theorem wOrd_nil : WOrd [] where
  find := fun q h1 h2 => by simp [wordsB] at h2; omega
  mono := fun p q h1 h2 => by simp [wordsB] at h2; omega
  lt := fun e h => by cases h
theorem wOrd_snoc {E : List Ed} {x : Ed} (h : WOrd E) (hx : 0 ≤ x.1 ∧ x.1 < ((wordsB E).length : Int) ∧ 0 ≤ x.2.2 ∧ x.2.2 ≤ ((wordsB E).length : Int)) (hasc : ∀ e ∈ E, edLt e x) : WOrd (E ++ [x]) := by
  obtain ⟨hx1, hx2, hx3, hx4⟩ := hx
  by_cases c : x.2.2 = ((wordsB E).length : Int)
  · have hw : wordsB (E ++ [x]) = wordsB E ++ [(wordsB E).getD x.1.toNat [] ++ [x.2.1]] := by
      rw [wordsB_snoc]; unfold wfold; rw [if_pos c]
    have hold : ∀ p, p < (wordsB E).length → (wordsB (E ++ [x])).getD p [] = (wordsB E).getD p [] := fun p hp => by rw [hw, getD_app_lt hp]
    have hnew : (wordsB (E ++ [x])).getD (wordsB E).length [] = (wordsB E).getD x.1.toNat [] ++ [x.2.1] := by rw [hw, getD_app_len]
    have hlen : (wordsB (E ++ [x])).length = (wordsB E).length + 1 := by rw [hw]; simp
    refine ⟨fun q hq0 hq => ?_, fun p q hpq hq => ?_, fun e he => ?_⟩
    · rw [hlen] at hq
      by_cases e : q = (wordsB E).length
      · subst e
        refine ⟨x, by simp, hx1, hx2, ?_, fun e he heq => ?_⟩
        · rw [hnew, hold _ (by omega)]
        · rcases List.mem_append.1 he with he | he
          · have := h.lt e he; omega
          · rw [List.mem_singleton.1 he]; exact .inr ⟨rfl, rfl⟩
      · obtain ⟨y, hy, y1, y2, y3, y4⟩ := h.find q hq0 (by omega)
        refine ⟨y, List.mem_append_left _ hy, y1, y2, ?_, fun e he heq => ?_⟩
        · rw [hold _ (by omega), hold _ (by omega)]; exact y3
        · rcases List.mem_append.1 he with he | he
          · exact y4 e he heq
          · rw [List.mem_singleton.1 he]; exact .inl (hasc y hy)
    · rw [hlen] at hq
      by_cases e : q = (wordsB E).length
      · subst e
        rw [hnew, hold p hpq]
        by_cases hp0 : p = 0
        · subst hp0
          have h0 : (wordsB E).getD 0 [] = [] := by
            have := pre_getD (foldW_pre E [[]]) (i := 0) (by simp)
            exact this
          rw [h0]
          exact slt_nil (by simp)
        · obtain ⟨y, hy, y1, y2, y3, y4⟩ := h.find p (by omega) hpq
          rw [y3]
          rcases hasc y hy with hlt | ⟨he, hlt⟩
          · exact slt_snoc _ _ (h.mono _ _ (by omega) (by omega))
          · rw [he]; exact slt_last _ hlt
      · rw [hold p (by omega), hold q (by omega)]
        exact h.mono p q hpq (by omega)
    · rw [hlen]
      rcases List.mem_append.1 he with he | he
      · have := h.lt e he; omega
      · rw [List.mem_singleton.1 he]; omega
  · have hw : wordsB (E ++ [x]) = wordsB E := by
      rw [wordsB_snoc]; unfold wfold; rw [if_neg c]
    refine ⟨?_, ?_, ?_⟩
    · rw [hw]
      intro q hq0 hq
      obtain ⟨y, hy, y1, y2, y3, y4⟩ := h.find q hq0 hq
      refine ⟨y, List.mem_append_left _ hy, y1, y2, y3, fun e he heq => ?_⟩
      rcases List.mem_append.1 he with he | he
      · exact y4 e he heq
      · rw [List.mem_singleton.1 he]; exact .inl (hasc y hy)
    · rw [hw]; exact h.mono
    · rw [hw]
      intro e he
      rcases List.mem_append.1 he with he | he
      · exact h.lt e he
      · rw [List.mem_singleton.1 he]; omega
theorem wOrd_of : ∀ (n : Nat) (E : List Ed), E.length = n → DO E → E.Pairwise edLt → WOrd E
  | 0, E, hn, _, _ => by rw [List.eq_nil_of_length_eq_zero hn]; exact wOrd_nil
  | n + 1, E, hn, hd, hp => by
    rcases List.eq_nil_or_concat E with rfl | ⟨F, x, rfl⟩
    · simp at hn
    · rw [List.concat_eq_append] at *
      have hp2 := List.pairwise_append.1 hp
      refine wOrd_snoc (wOrd_of n F (by simpa using hn) (fun E1 y E2 he => hd E1 y (E2 ++ [x]) (by rw [he]; simp)) hp2.1) (hd F x [] (by simp)) fun e he => hp2.2.2 e he x (by simp)

section
variable {g : Gr} {a : List Int} {E : List Ed} {L : List (List Int)}
/-- a list of labels leads to nothing, or to one of the sets, whose word is not behind it -/
theorem Sets.reach (h : Sets g a E L) (hF : Found g a E L) : ∀ (n : Nat) (w : List Int), w.length = n → (∀ c ∈ w, 0 ≤ c ∧ c < g.1) → endsI g a w = [] ∨ ∃ j, j < L.length ∧ L.getD j [] = endsI g a w ∧ sl ((wordsB E).getD j []) w
  | 0, w, hn, _ => by
    rw [List.eq_nil_of_length_eq_zero hn]
    refine .inr ⟨0, h.len_pos, h.zero, ?_⟩
    have h0 : (wordsB E).getD 0 [] = [] := pre_getD (foldW_pre E [[]]) (i := 0) (by simp)
    rw [h0]
    exact sl_nil _
  | n + 1, w, hn, hw => by
    have hwo := wOrd_of _ E rfl hF.disc.ord h.asc
    have hlenW : (wordsB E).length = L.length := hF.disc.len
    rcases List.eq_nil_or_concat w with rfl | ⟨v, c, rfl⟩
    · simp at hn
    · rw [List.concat_eq_append] at *
      rw [endsI_snoc]
      have hc := hw c (by simp)
      rcases h.reach hF n v (by simpa using hn) (fun c hc => hw c (List.mem_append_left _ hc)) with hv | ⟨k, hk, hkv, hsl⟩
      · rw [hv, stepL_nil]; exact .inl rfl
      · rw [← hkv]
        have hcl : c.toNat < g.1.toNat := by omega
        have hcc : ((c.toNat : Nat) : Int) = c := by omega
        by_cases hz : stepL g (L.getD k []) c = []
        · exact .inl hz
        · right
          have hin : stepL g (L.getD k []) c ∈ L := by
            have := h.clo k hk c.toNat hcl
            rw [hcc] at this
            exact this.resolve_left hz
          refine ⟨L.idxOf (stepL g (L.getD k []) c), idxOf_lt hin, h.at_idx hin, ?_⟩
          have hlt := idxOf_lt hin
          have hed : ((k : Int), c, ((L.idxOf (stepL g (L.getD k []) c) : Nat) : Int)) ∈ E := h.mem.2 ⟨k, c.toNat, hk, hcl, by rw [hcc]; exact hz, by rw [hcc]⟩
          generalize L.idxOf (stepL g (L.getD k []) c) = q at *
          by_cases hq : q = 0
          · subst hq
            have h0 : (wordsB E).getD 0 [] = [] := pre_getD (foldW_pre E [[]]) (i := 0) (by simp)
            rw [h0]
            exact sl_nil _
          · obtain ⟨y, hy, y1, y2, y3, y4⟩ := hwo.find q (by omega) (by omega)
            rw [y3]
            rcases y4 _ hed rfl with hlt2 | ⟨e1, e2⟩
            · rcases hlt2 with hlt2 | ⟨e1, e2⟩
              · have := hwo.mono y.1.toNat k (by dsimp only at hlt2; omega) (by omega)
                exact (slt_snoc _ _ (slt_sl this hsl)).sl
              · dsimp only at e1 e2
                have : y.1.toNat = k := by omega
                rw [this]
                exact sl_snoc hsl (by omega)
            · dsimp only at e1 e2
              have : y.1.toNat = k := by omega
              rw [this]
              exact sl_snoc hsl (by omega)

/-- the first of the sets of one state -/
theorem Sets.first (h : Sets g a E L) (hF : Found g a E L) {w : List Int} (hw : ∀ c ∈ w, 0 ≤ c ∧ c < g.1) (h1 : (endsI g a w).length = 1) : ∃ i, L.findIdx? oneB = some i ∧ i < L.length ∧ sl ((wordsB E).getD i []) w := by
  have hwo := wOrd_of _ E rfl hF.disc.ord h.asc
  have hlenW : (wordsB E).length = L.length := hF.disc.len
  rcases h.reach hF _ w rfl hw with h0 | ⟨j, hj, hjw, hsl⟩
  · rw [h0] at h1; simp at h1
  · have hone : oneB L[j] = true := by
      rw [getD_lt hj] at hjw
      unfold oneB
      rw [hjw]
      exact decide_eq_true h1
    cases hf : L.findIdx? oneB with
    | none =>
      have := List.findIdx?_eq_none_iff.1 hf _ (List.getElem_mem hj)
      rw [hone] at this
      cases this
    | some i =>
      obtain ⟨hi, hpi, hmin⟩ := List.findIdx?_eq_some_iff_getElem.1 hf
      refine ⟨i, rfl, hi, ?_⟩
      by_cases e : i = j
      · subst e; exact hsl
      · by_cases hlt : i < j
        · exact (slt_sl (hwo.mono i j hlt (by omega)) hsl).sl
        · exact absurd hone (hmin j (by omega))
end
end Go.AW

/- SubsetFoci: the law. -/
namespace Go.AW
open Go
set_option linter.unusedSimpArgs false
set_option linter.unusedVariables false
theorem no0' : ¬ (0 : Int) ≠ 0 := fun h => h rfl
section
variable {g : Gr}
theorem focus_cases {e : Int} (hv : VG g) (he0 : e = 0) (hn : g.2.1 ≠ 0) : (focusE g e).2.2.2 ≠ 0 ∨ ∃ E L, Sets g (upto g.2.1) E L ∧ Found g (upto g.2.1) E L ∧ focusE g e = focusR E L := by
  subst he0
  have hs0 := hv.s0
  have hbe : buildE g 0 = buildR g (upto g.2.1) := by
    unfold buildE buildG
    rw [if_neg no0', if_neg hn]
  unfold focusE
  rw [hbe]
  rcases buildR_cases (upto_ok g) (upto_ne (by omega)) with h | ⟨E, L, hS, hrun, h⟩
  · rw [h]
    left
    rw [if_pos (.inl (by decide))]
    decide
  · right
    refine ⟨E, L, hS, brun_found hv hrun, ?_⟩
    have hlp := hS.len_pos
    rw [h]
    dsimp only
    rw [if_neg]
    rintro (h | h)
    · exact h rfl
    · omega
theorem focusR_ok (E : List Ed) (L : List (List Int)) : (focusR E L).2.2.2 = 0 := by
  unfold focusR
  split <;> rfl

/-- the ends of a list of labels, by the program's steps -/
theorem ends_loop (hv : VG g) {a w : List Int} (ha : SetOk g a) (hw : ∀ c ∈ w, 0 ≤ c ∧ c < g.1) (hl : w.length ≤ 1000000) {body : List Int × Int → Option (Stp (List Int × Int) (Ou (List Int) (List Int)))}
    (h : ∀ (set : List Int) (k : Nat) (hk : k < w.length), body (set, (k : Int)) = (m_graph_Step g set w[k]).bind fun x => if x.2 ≠ 0 then some (Stp.exit (Ou.ret ([] : List Int))) else some (Stp.next (x.1, IntKind.wrap .i64 ((k : Int) + 1))))
    (hf : ∀ set, body (set, (w.length : Int)) = some (Stp.exit (Ou.go set))) : loopW body (a, 0) = some (Ou.go (endsI g a w)) := by
  refine loop_is (fun k => (endsI g a (w.take k), (k : Int))) w.length _ (fun k hk => ?_) ?_ rfl
  · have hc := hw _ (List.getElem_mem hk)
    rw [h _ k hk, Step_eq hv (endsI_ok ha _) hc.1 hc.2, Option.bind_some]
    dsimp only
    rw [if_neg no0', nx (by omega : w.length ≤ _) hk, List.take_add_one, List.getElem?_eq_getElem hk]
    simp only [Option.toList_some]
    rw [endsI_snoc]
  · rw [List.take_length, hf]

theorem law_foci (g : Gr) (p : List Int) (hp : ∀ x ∈ p, 0 ≤ x ∧ x < 256) : m_law12_SubsetFoci g p = some true := by
  obtain ⟨b, hb⟩ := great12_tot g
  unfold m_law12_SubsetFoci
  simp only [jp]
  rw [hb, Option.bind_some]
  cases b with
  | true => rfl
  | false =>
    rw [if_neg (show ¬ false = true by decide)]
    obtain ⟨e, he, hz⟩ := Check_tot g
    rw [Check_ref, he, Option.bind_some]
    by_cases h0 : e = 0
    case neg => rw [if_pos h0]; rfl
    rw [if_neg (show ¬ e ≠ 0 from fun h => h h0)]
    by_cases hn : g.2.1 = 0
    · rw [if_pos (decide_eq_true hn)]; rfl
    rw [if_neg (show ¬ decide (g.2.1 = 0) = true by simpa using hn), Focus_eq he hz, Option.bind_some]
    have hv := hz.1 h0
    have hsn := hv.s0
    have hs64 := hv.s1
    have h1 := hv.l1
    have h256 := hv.l2
    rcases focus_cases hv h0 hn with hne | ⟨E, L, hS, hF, hfo⟩
    · rw [if_pos hne]; rfl
    rw [hfo, if_neg (by rw [focusR_ok]; exact no0'), if_pos (by omega)]
    have hL := hS.s1
    have hlenW : (wordsB E).length = L.length := hF.disc.len
    refine bindL (loop_is (fun i => ((i : Int), (List.range i).map Int.ofNat ++ List.replicate (g.2.1.toNat - i) (0 : Int))) g.2.1.toNat (upto g.2.1) (fun i hi => ?_) ?_ (by simp)) ?_
    · dsimp only
      have hlen : i < ((List.range i).map Int.ofNat ++ List.replicate (g.2.1.toNat - i) (0 : Int)).length := by simp; omega
      rw [if_pos (by simp; omega), ix hlen, Option.bind_some, Int.toNat_natCast, set_up hi, nx (by omega : g.2.1.toNat ≤ _) hi]
    · dsimp only
      rw [if_neg (by simp)]
      simp [upto]
    -- the other list
    have hps : ∀ x ∈ (p.take (min (p.length : Int) 4).toNat).drop (0 : Int).toNat, 0 ≤ x ∧ x < 256 := fun x hx => hp x (List.mem_of_mem_take (List.mem_of_mem_drop hx))
    have hpl : ((p.take (min (p.length : Int) 4).toNat).drop (0 : Int).toNat).length ≤ 4 := by simp; omega
    generalize hpsd : (p.take (min (p.length : Int) 4).toNat).drop (0 : Int).toNat = ps at *
    have hother : ∀ c ∈ ps.map (fun x => Int.tmod (IntKind.wrap .i64 x) g.1), 0 ≤ c ∧ c < g.1 := fun c hc => by
      obtain ⟨x, hx, rfl⟩ := List.mem_map.1 hc
      have := hps x hx
      rw [w64 (by omega) (by omega)]
      exact ⟨Int.tmod_nonneg _ this.1, Int.tmod_lt_of_pos _ (by omega)⟩
    have hol : (ps.map (fun x => Int.tmod (IntKind.wrap .i64 x) g.1)).length ≤ 4 := by simpa using hpl
    have hup := upto_ok g
    have hguard : 0 ≤ (0 : Int) ∧ (0 : Int) ≤ min (p.length : Int) 4 ∧ min (p.length : Int) 4 ≤ (p.length : Int) := by omega
    cases hf : L.findIdx? oneB with
    | none =>
      have hfr : focusR E L = ([], 0, false, 0) := by unfold focusR; rw [hf]
      rw [hfr]
      dsimp only
      rw [if_neg (show ¬ false = true by decide), if_neg (show ¬ false = true by decide), if_pos hguard]
      refine bindL (loop_is (fun k => ((k : Int), (ps.map fun x => Int.tmod (IntKind.wrap .i64 x) g.1).take k)) ps.length (ps.map fun x => Int.tmod (IntKind.wrap .i64 x) g.1) (fun k hk => ?_) ?_ rfl) ?_
      · dsimp only
        rw [if_pos (lt_int hk), ix hk, Option.bind_some, if_pos (by omega), if_pos (fits_le (by simp; omega) (by simp; omega)), nx (by omega : ps.length ≤ _) hk, List.take_add_one, List.getElem?_eq_getElem (by simpa using hk), List.getElem_map]
        rfl
      · dsimp only
        rw [if_neg (not_lt_int _), List.take_of_length_le (by simp)]
      · generalize hoth : (ps.map fun x => Int.tmod (IntKind.wrap .i64 x) g.1) = other at *
        refine lpL (ends_loop hv hup hother (by omega) (fun set k hk => ?_) (fun set => ?_)) ?_
        · dsimp only
          rw [if_pos (lt_int hk), ix hk, Option.bind_some, Option.bind_some]
        · dsimp only
          rw [if_neg (not_lt_int _)]
        · simp only [lpO]
          rw [if_pos]
          · rfl
          · intro hlen
            obtain ⟨i, hi, _⟩ := hS.first hF hother (by omega)
            rw [hf] at hi
            cases hi
    | some i =>
      obtain ⟨hi, hone, _⟩ := List.findIdx?_eq_some_iff_getElem.1 hf
      have hfr : focusR E L = ((wordsB E).getD i [], (L.getD i []).getD 0 0, true, 0) := by unfold focusR; rw [hf]
      have hwl := hF.disc.size i (by show i < (wordsB E).length; omega)
      have hwl : ((wordsB E).getD i []).length ≤ i := hwl
      have hends := hF.disc.ends i hi
      have hends : endsI g (upto g.2.1) ((wordsB E).getD i []) = L.getD i [] := hends
      have hlab : ∀ c ∈ (wordsB E).getD i [], 0 ≤ c ∧ c < g.1 := hF.disc.labs _ (getD_mem (by show i < (wordsB E).length; omega))
      rw [hfr]
      dsimp only
      have h1l : (L.getD i []).length = 1 := by rw [getD_lt hi]; exact of_decide_eq_true hone
      obtain ⟨s, hs⟩ := List.length_eq_one_iff.1 h1l
      generalize hwd : (wordsB E).getD i [] = wd at *
      rw [if_pos rfl]
      refine lpL (ends_loop hv hup hlab (by omega) (fun set k hk => ?_) (fun set => ?_)) ?_
      · dsimp only
        rw [if_pos (lt_int hk), ix hk, Option.bind_some]
      · dsimp only
        rw [if_neg (not_lt_int _)]
      · simp only [lpO]
        rw [hends, hs, EqI_eq (by simp), Option.bind_some]
        have hd : decide ([s] = [([s] : List Int).getD 0 0]) = true := decide_eq_true rfl
        rw [hd, if_neg (show ¬ (!true) = true by decide), if_pos hguard]
        refine bindL (loop_is (fun k => ((k : Int), (ps.map fun x => Int.tmod (IntKind.wrap .i64 x) g.1).take k)) ps.length (ps.map fun x => Int.tmod (IntKind.wrap .i64 x) g.1) (fun k hk => ?_) ?_ rfl) ?_
        · dsimp only
          rw [if_pos (lt_int hk), ix hk, Option.bind_some, if_pos (by omega), if_pos (fits_le (by simp; omega) (by simp; omega)), nx (by omega : ps.length ≤ _) hk, List.take_add_one, List.getElem?_eq_getElem (by simpa using hk), List.getElem_map]
          rfl
        · dsimp only
          rw [if_neg (not_lt_int _), List.take_of_length_le (by simp)]
        · generalize hoth : (ps.map fun x => Int.tmod (IntKind.wrap .i64 x) g.1) = other at *
          refine lpL (ends_loop hv hup hother (by omega) (fun set k hk => ?_) (fun set => ?_)) ?_
          · dsimp only
            rw [if_pos (lt_int hk), ix hk, Option.bind_some, Option.bind_some]
          · dsimp only
            rw [if_neg (not_lt_int _)]
          · simp only [lpO]
            by_cases hlen : ((endsI g (upto g.2.1) other).length : Int) ≠ 1
            · rw [if_pos hlen]; rfl
            · rw [if_neg hlen]
              obtain ⟨i', hi', _, hsl⟩ := hS.first hF hother (by omega)
              rw [hf] at hi'
              cases hi'
              rw [hwd] at hsl
              rcases hsl with hlt | ⟨heq, hle⟩
              · rw [if_pos trivial, if_pos (by omega)]; rfl
              · rw [if_pos trivial, if_neg (by omega), if_pos (by omega), Compare_eq heq (by omega), Option.bind_some, if_pos hle]; rfl
end
end Go.AW

namespace Go.AW
open Go Go.ChangeShapes Go.WideShapes Go.ChangeAt Go.RowKit

/-- of what was there nothing turns -/
def Kept (W W' : World) : Prop := W'.os = W.os ∧ W'.output = W.output ∧ W.heap.size ≤ W'.heap.size ∧ ∀ b : Nat, b < W.heap.size → W'.heap[b]? = W.heap[b]?

theorem Kept.frame {W W' : World} (h : Kept W W') (may : MemPlace → Prop) : W.keptBut W' may := by
  refine ⟨h.1, h.2.1, fun i hi => ?_⟩
  rw [h.2.2.2 i hi]
  cases W.heap[i]? with
  | none => rfl
  | some o => cases o with
    | cells c t fr => exact ⟨rfl, rfl, rfl, fun _ _ => rfl⟩
    | map es clock => exact .inr ⟨rfl, rfl⟩
    | _ => rfl

theorem Kept.frozen {W W' : World} (h : Kept W W') (a : Addr) (ha : a.block < W.heap.size) : W'.frozen? a = W.frozen? a := by
  simp only [World.frozen?, h.2.2.2 _ ha]

def Mu.zero : Mu := { nx := 0, loc := fun _ => none, held := fun _ => False }

theorem SR.zero (W : World) : SR W Mu.zero [] :=
  ⟨(fun _ _ _ h => by cases h), (fun _ _ _ h => by cases h), (fun _ _ h => by cases h), (fun _ _ _ _ _ h => by cases h), (fun _ h => h.elim)⟩

theorem calls_of_pure {P : Program} {f : FuncId} {args : List HV} {vs : List Value} {W : World} (hp : Pure P f args (· = .bool true)) (hr : RepL W Mu.zero args vs) :
    Calls P f vs.toArray W fun e W' => e = .returned (.bool true) ∧ Kept W W' := by
  refine (hp.2 Mu.zero W vs (SR.zero W) hr).mono ?_
  rintro e W' ⟨v, r, H', μ', rfl, ⟨rfl, _, _⟩, hs, hv, E⟩
  have hv' : v = .bool true := hv
  subst hv'
  exact ⟨rfl, E.os, E.output, E.size, fun b hb => E.keep b hb fun ⟨_, _, hl⟩ => by cases hl⟩

theorem post_of_kept {H : Type} {enc : TypeId × Value → H} {P : Program} {f : Func} {s : ChangeSpec} {apart fresh handsOn again : Bool} {W W' : World} {args : Array Value} {v : Value} {ds gs : List (DataW H)} {before pa pv : List MemPlace}
    (hW : DataW.Whole enc P f.params.toList s.vars apart W args.toList ds gs before)
    (hres : ∀ (b : Nat) (sp : Nat → Bool) (hd : Bool), DataW.TrodAll enc P W' b sp hd f.resultTypes.toList (v.resultList f.resultTypes.size) (s.fn H (ds ++ gs)).results [])
    (hargs : ∀ sp : Nat → Bool, (∀ p ∈ before, sp p.block = true) → DataW.TrodAll enc P W' 0 sp true f.params.toList args.toList (s.fn H (ds ++ gs)).args pa)
    (hvars : ∀ sp : Nat → Bool, (∀ p ∈ before, sp p.block = true) → DataW.TrodVars enc P W' sp s.vars (s.fn H (ds ++ gs)).vars pv)
    (hps : before = pa ++ pv) (hk : Kept W W')
    (hok : ∀ (j : Nat) (t : TypeId) (r : Value), f.resultTypes[j]? = some t → (v.resultList f.resultTypes.size)[j]? = some r → Value.okWide P W' .any 0 t r) :
    s.post enc P f apart fresh handsOn again W args v W' := by
  have hold : ∀ p ∈ before, (fun b => decide (b < W.heap.size)) p.block = true := fun p hp => by simpa using hW.lt p hp
  refine ⟨ds, gs, before, [], pa, pv, hW, hres _ _ _, hargs _ hold, hvars _ hold, World.keptBut_mono (fun p hp => ⟨hp, ?_⟩) (hk.frame (· ∈ before)), fun _ => ?_⟩
  · rw [hps, List.mem_append] at hp
    exact Or.inr hp
  · have hlt := hW.lt
    obtain ⟨_, _, _, _, _, hz, hn⟩ := hW
    refine ⟨hok, _, _, ([] ++ pa) ++ pv, ⟨[] ++ pa, pv, trodAll_append (hargs _ (fun _ _ => rfl)) (hres _ _ _), hvars _ (fun _ _ => rfl), rfl, ?_, ?_⟩, ?_⟩
    · intro b off hp
      have hp' : MemPlace.cell b off ∈ before := by rw [hps]; simpa using hp
      rw [hk.frozen _ (hlt _ hp')]
      exact hz b off hp'
    · intro ha
      have := hn ha
      rw [hps] at this
      simpa using this
    · intro p hp _
      rw [hps]
      simpa using hp
end Go.AW

/- Arguments: from what is read of them to what the layer says of them; and the law's end for any arguments. -/
namespace Go.AW
open Go Go.ChangeShapes Go.WideShapes Go.ChangeAt Go.RowKit

theorem rowAt_le {p : Program} {fits : TypeId → Bool} {d : Nat} {e : TypeId} {count off n : Nat} (h : rowAt p fits d e count off n = true) : off ≤ count * p.cellsOf e := by
  cases d with
  | zero => simp [rowAt] at h
  | succ d =>
    unfold rowAt at h
    simp only at h
    split at h
    · cases h
    · rename_i hs
      have hs' : 0 < p.cellsOf e := Nat.pos_of_ne_zero hs
      have hd := Nat.div_add_mod off (p.cellsOf e)
      rw [Nat.mul_comm] at hd
      simp only [Bool.or_eq_true, Bool.and_eq_true, beq_iff_eq, decide_eq_true_eq] at h
      rcases h with ⟨⟨h0, h1⟩, _⟩ | ⟨h1, _⟩
      · rw [← hd, h0, Nat.add_zero]
        exact Nat.mul_le_mul_right _ (by omega)
      · have hm := Nat.mod_lt off hs'
        have : (off / p.cellsOf e + 1) * p.cellsOf e ≤ count * p.cellsOf e := Nat.mul_le_mul_right _ h1
        rw [Nat.add_mul] at this
        omega

theorem liesAt_le {p : Program} {d : Nat} {e u : TypeId} {count off n : Nat} (h : liesAt p d e count off u n = true) : off ≤ count * p.cellsOf e := by
  induction d generalizing u n with
  | zero => simp [liesAt] at h
  | succ d ih =>
    unfold liesAt at h
    rw [Bool.or_eq_true] at h
    rcases h with h | h
    · exact rowAt_le h
    · split at h
      · exact ih h
      · cases h

/-- where an argument's slice lies -/
theorem has_seg {P : Program} {W : World} {r : Reach} {base : Nat} {a : Addr} {e : TypeId} {cap : Nat} (h : W.has P r base a e cap) {vs : List Value} (hc : ∀ i (hi : i < vs.length), W.cell? (a.add i) = some vs[i]) :
    ∃ b off, a = ⟨b, off, none⟩ ∧ Seg W b off vs := by
  obtain ⟨_, hsp, row, cells, hsh, hl⟩ := h
  obtain ⟨b, off, spot⟩ := a
  dsimp only at hsp hsh hl
  subst hsp
  refine ⟨b, off, rfl, ?_⟩
  unfold World.shape? at hsh
  split at hsh
  · rename_i cur e' fr hb
    simp only [Option.some.injEq, Prod.mk.injEq] at hsh
    obtain ⟨rfl, rfl⟩ := hsh
    have hoff : off ≤ cur.size := Nat.le_trans (liesAt_le hl) (Nat.div_mul_le_self _ _)
    have hget : ∀ i (hi : i < vs.length), cur.toList[off + i]? = some vs[i] := fun i hi => by
      have := hc i hi
      rw [add_plain] at this
      unfold World.cell? at this
      rw [hb] at this
      simpa using this
    refine ⟨cur, e', fr, cur.toList.take off, cur.toList.drop (off + vs.length), hb, ?_, by simp [hoff]⟩
    have hvs : vs = (cur.toList.drop off).take vs.length := by
      apply List.ext_getElem?
      intro i
      rcases Nat.lt_or_ge i vs.length with hi | hi
      · rw [List.getElem?_take_of_lt hi, List.getElem?_drop, hget i hi, List.getElem?_eq_getElem hi]
      · rw [List.getElem?_eq_none hi, List.getElem?_eq_none (by simp; omega)]
    have : vs ++ cur.toList.drop (off + vs.length) = cur.toList.drop off := by
      conv => lhs; arg 1; rw [hvs]
      rw [← List.drop_drop]
      exact List.take_append_drop _ _
    rw [List.append_assoc, this, List.take_append_drop]
  · cases hsh

theorem nown (b : Nat) : ¬ Mu.zero.owns b := fun h => h.elim (fun ⟨_, _, h⟩ => by cases h) id

/-- the arguments read again -/
theorem trodAll_stays {H : Type} {enc : TypeId × Value → H} {P : Program} (hl : laidOutB P = true) {W W' : World} {sp : Nat → Bool} : ∀ {ts : List TypeId} {vs : List Value} {ds : List (DataW H)} {ps : List MemPlace},
    (ts.all fun t => P.readableRec t && decide (t < P.types.size)) = true → DataW.TrodAll enc P W 0 (fun _ => true) true ts vs ds ps → (∀ p ∈ ps, W.sameAt W' p) → (∀ p ∈ ps, sp p.block = true) → DataW.TrodAll enc P W' 0 sp true ts vs ds ps
  | [], vs, ds, ps, _, h, _, _ => by
    obtain ⟨rfl, rfl, rfl⟩ := trodAll_nil h
    exact trodAll_mk0
  | t :: ts, vs, ds, ps, ht, h, h1, h2 => by
    obtain ⟨v, vs', d, ds', p, q, rfl, rfl, rfl, h3, h4⟩ := trodAll_cons h
    simp only [List.all_cons, Bool.and_eq_true, decide_eq_true_eq] at ht
    exact trodAll_cons_mk (WideElems.Trod_stays hl ht.1.1 ht.1.2 h3 (fun x hx => h1 x (List.mem_append_left _ hx)) (fun x hx => h2 x (List.mem_append_left _ hx)))
      (trodAll_stays hl ht.2 h4 (fun x hx => h1 x (List.mem_append_right _ hx)) (fun x hx => h2 x (List.mem_append_right _ hx)))

theorem Kept.same {W W' : World} (h : Kept W W') (p : MemPlace) (hp : p.block < W.heap.size) : W.sameAt W' p := by
  cases p with
  | cell b off =>
    show W'.cell? ⟨b, off, none⟩ = W.cell? ⟨b, off, none⟩
    unfold World.cell?
    rw [h.2.2.2 b hp]
  | map b => exact h.2.2.2 b hp

/-- A LAW'S END: true, and the arguments read as they did. -/
theorem post_of_true {H : Type} {enc : TypeId × Value → H} {P : Program} {f : Func} {s : ChangeSpec} {apart fresh handsOn again : Bool} {W W' : World} {args : Array Value} {ds gs : List (DataW H)} {before : List MemPlace} {t : TypeId}
    (hl : laidOutB P = true) (hps : (f.params.toList.all fun t => P.readableRec t && decide (t < P.types.size)) = true) (hres : f.resultTypes = #[t]) (ht : P.underlying t = some .bool) (hv : s.vars = [])
    (hW : DataW.Whole enc P f.params.toList s.vars apart W args.toList ds gs before) (hk : Kept W W')
    (h1 : (s.fn H (ds ++ gs)).results = [.lit (.bool true)]) (h2 : (s.fn H (ds ++ gs)).args = ds) (h3 : (s.fn H (ds ++ gs)).vars = []) :
    s.post enc P f apart fresh handsOn again W args (.bool true) W' := by
  have hlt := hW.lt
  have hW' := hW
  obtain ⟨p, q, hA, hV, rfl, _, _⟩ := hW
  rw [hv] at hV
  obtain ⟨rfl, rfl⟩ := trodVars_none hV
  refine post_of_kept (pa := p) (pv := []) hW' (fun _ _ _ => ?_) (fun sp hsp => ?_) (fun _ _ => ?_) (by simp) hk (ok_one hres rfl (okWide_bool_mk ht _))
  · rw [hres, h1]
    exact trodAll_cons_mk (shut_bool ht _) trodAll_mk0
  · rw [h2]
    exact trodAll_stays hl hps hA (fun x hx => hk.same x (hlt x (by simpa using hx))) (fun x hx => hsp x (by simpa using hx))
  · rw [h3, hv]
    rfl
end Go.AW

/- Arguments that are graphs: what is read of them, and what the layer says of them. -/
namespace Go.AW
open Go Go.ChangeShapes Go.WideShapes Go.ChangeAt Go.RowKit

section
variable {H : Type} {enc : TypeId × Value → H} {P : Program} {W : World} {base : Nat}

theorem repL_app {μ : Mu} : ∀ {hs ks : List HV} {vs us : List Value}, RepL W μ hs vs → RepL W μ ks us → RepL W μ (hs ++ ks) (vs ++ us)
  | [], _, _, _, h, h' => by cases h; exact h'
  | _ :: _, _, _, _, ⟨x, xs, rfl, h1, h2⟩, h' => ⟨x, _, rfl, h1, repL_app h2 h'⟩

theorem add_adds (a : Addr) (i j : Nat) : (a.add i).add j = a.add (i + j) := by
  unfold Addr.add
  repeat' split
  all_goals simp_all [Nat.add_assoc]

theorem open_rows {α : Type} (c : EncL α) {fuel : Nat} {t e : TypeId} {cs : List Value} {x : DataW H × List MemPlace} (ht : P.underlying t = some (.slice e)) (hk : P.cellsOf e = c.k) (hone : ∀ x, ones (c.C x))
    (hel : ∀ n cs y, DataW.trod enc P W 0 (fun _ => true) true n e cs = some y → ∃ x : α, RepL W Mu.zero (c.C x) cs)
    (hhas : ∀ a len cap, cs = [.slice (some a) len cap] → W.has P .any base a e cap) (h : DataW.trod enc P W 0 (fun _ => true) true fuel t cs = some x) : ∃ l : List α, RepL W Mu.zero [slE c l] cs := by
  rcases DataW.trod_slice ht h with ⟨rfl, _⟩ | ⟨a, len, cap, elems, rest, n, _, rfl, _, _, hl, hm, hlen, hel', _, _⟩
  · refine ⟨[], _, _, rfl, ?_, rfl⟩
    show _ ∧ _
    exact ⟨(by rw [c.nil]; exact fun _ h => nomatch h), (by rw [c.nil]; simp), Nat.zero_le _, .inl ⟨rfl, rfl⟩⟩
  · have each : ∀ i, i < len → ∃ cs' x, W.cells? 0 (a.add (i * c.k)) c.k = some cs' ∧ RepL W Mu.zero (c.C x) cs' := fun i hi => by
      have h1 := hel' i hi
      rw [List.getElem?_eq_getElem (by omega), Option.bind_eq_some_iff, hk] at h1
      obtain ⟨cs', h2, h3⟩ := h1
      obtain ⟨x, hx⟩ := hel _ _ _ h3
      exact ⟨cs', x, h2, hx⟩
    have build : ∀ m, m ≤ len → ∃ (l : List α) (vs : List Value), l.length = m ∧ vs.length = m * c.k ∧ RepL W Mu.zero (c.E l) vs ∧ ∀ i (hi : i < vs.length), W.cell? (a.add i) = some vs[i] := by
      intro m
      induction m with
      | zero => exact fun _ => ⟨[], [], rfl, by simp, by rw [c.nil]; rfl, fun i hi => by simp at hi⟩
      | succ m ih =>
        intro hm
        obtain ⟨l, vs, h1, h2, h3, h4⟩ := ih (by omega)
        obtain ⟨cs', x, h5, h6⟩ := each m (by omega)
        obtain ⟨_, h7, h8⟩ := World.cells?_some h5
        refine ⟨l ++ [x], vs ++ cs', by simp [h1], by rw [List.length_append, h2, h7, Nat.succ_mul], by rw [c.append, c.one]; exact repL_app h3 h6, fun i hi => ?_⟩
        rcases Nat.lt_or_ge i vs.length with hi' | hi'
        · rw [List.getElem_append_left hi']; exact h4 i hi'
        · rw [List.getElem_append_right hi']
          rw [List.length_append] at hi
          have := h8 (i - vs.length) (by omega)
          rw [add_adds, h2, show m * c.k + (i - m * c.k) = i by omega] at this
          rw [this, List.getElem?_eq_getElem (by omega)]
          simp only [h2]
    obtain ⟨l, vs, h1, h2, h3, h4⟩ := build len (Nat.le_refl _)
    obtain ⟨b, off, rfl, hseg⟩ := has_seg (hhas _ _ _ rfl) h4
    refine ⟨l, _, _, rfl, ?_, rfl⟩
    show _ ∧ _
    refine ⟨fun d hd => ?_, c.len l, by omega, .inr ⟨b, off, cap, vs, by rw [h1], by omega, nown b, hseg, h3⟩⟩
    rw [c.hE] at hd
    obtain ⟨x, _, hdx⟩ := List.mem_flatMap.1 hd
    exact hone x d hdx

theorem open3 {t : TypeId} {f0 f1 f2 : Field} {fuel : Nat} {cs : List Value} {x : DataW H × List MemPlace} (ht : P.underlying t = some (.struct #[f0, f1, f2])) (o0 : f0.offset = 0) (o1 : f1.offset = 1) (o2 : f2.offset = 2) (c : P.cellsOf t = 3)
    (c0 : P.cellsOf f0.type = 1) (c1 : P.cellsOf f1.type = 1) (c2 : P.cellsOf f2.type = 1) (h : DataW.trod enc P W 0 (fun _ => true) true fuel t cs = some x) :
    ∃ v0 v1 v2 y0 y1 y2 n, cs = [v0, v1, v2] ∧ DataW.trod enc P W 0 (fun _ => true) true n f0.type [v0] = some y0 ∧ DataW.trod enc P W 0 (fun _ => true) true n f1.type [v1] = some y1 ∧ DataW.trod enc P W 0 (fun _ => true) true n f2.type [v2] = some y2 := by
  obtain ⟨xs, n, _, rfl, hl, hlen, hf⟩ := DataW.trod_struct ht h
  rw [c] at hl
  match cs, hl with
  | [v0, v1, v2], _ =>
    match xs, hlen with
    | [y0, y1, y2], _ =>
      refine ⟨v0, v1, v2, y0, y1, y2, n, rfl, ?_, ?_, ?_⟩
      · have := hf 0 f0 rfl; rw [o0, c0] at this; exact this
      · have := hf 1 f1 rfl; rw [o1, c1] at this; exact this
      · have := hf 2 f2 rfl; rw [o2, c2] at this; exact this

theorem rep_i64 {n : Int} {ti : TypeId} {m : Nat} {v : Value} {y : DataW H × List MemPlace} (hti : P.underlying ti = some (.int .i64)) (h : DataW.trod enc P W 0 (fun _ => true) true m ti [v] = some y) : ∃ n : Int, Rep W Mu.zero (.int .i64 n) v := by
  obtain ⟨n, hv, _, hw⟩ := DataW.trod_int hti h
  cases hv
  exact ⟨n, rfl, hw⟩

/-- a graph -/
theorem open_graph {t ti ts te : TypeId} {f0 f1 f2 e0 e1 e2 : Field} {v : Value} {d : DataW H} {ps : List MemPlace} (ht : P.underlying t = some (.struct #[f0, f1, f2])) (o : f0.offset = 0 ∧ f1.offset = 1 ∧ f2.offset = 2) (y : f0.type = ti ∧ f1.type = ti ∧ f2.type = ts)
    (c : P.cellsOf t = 3) (ci : P.cellsOf ti = 1) (cs : P.cellsOf ts = 1) (ct : P.cellTypes P.depth t = some [ti, ti, ts]) (hti : P.underlying ti = some (.int .i64)) (hts : P.underlying ts = some (.slice te))
    (hte : P.underlying te = some (.struct #[e0, e1, e2])) (oe : e0.offset = 0 ∧ e1.offset = 1 ∧ e2.offset = 2) (ye : e0.type = ti ∧ e1.type = ti ∧ e2.type = ti) (ce : P.cellsOf te = 3)
    (hval : Value.okWide P W .any base t v) (h : DataW.Trod enc P W 0 (fun _ => true) true t v d ps) : ∃ g : TLabelsStatesEdges, Rep W Mu.zero (.agg [.int .i64 g.1, .int .i64 g.2.1, slE eFromLabelTo g.2.2]) v := by
  obtain ⟨y0, y1, y2⟩ := y
  obtain ⟨z0, z1, z2⟩ := ye
  simp only [Value.okWide, ht] at hval
  obtain ⟨arr, rfl, _, hrow⟩ := hval
  obtain ⟨fuel, hf⟩ := h
  obtain ⟨v0, v1, v2, a0, a1, a2, n, hcs, h0, h1, h2⟩ := open3 ht o.1 o.2.1 o.2.2 c (by rw [y0]; exact ci) (by rw [y1]; exact ci) (by rw [y2]; exact cs) hf
  have harr : arr = #[v0, v1, v2] := by
    have : arr.toList = [v0, v1, v2] := hcs
    cases arr
    simp_all
  subst harr
  rw [y0] at h0
  rw [y1] at h1
  rw [y2] at h2
  obtain ⟨l, r0⟩ := rep_i64 (n := 0) hti h0
  obtain ⟨s, r1⟩ := rep_i64 (n := 0) hti h1
  obtain ⟨es, _, _, r2, r2', r2''⟩ := open_rows (base := base) eFromLabelTo hts ce (fun x d hd => by
      have hd : d ∈ [HV.int .i64 x.1, HV.int .i64 x.2.1, HV.int .i64 x.2.2] := hd
      simp only [List.mem_cons, List.not_mem_nil, or_false] at hd
      rcases hd with rfl | rfl | rfl <;> rfl) (fun m cs' y hy => by
      obtain ⟨w0, w1, w2, b0, b1, b2, n', rfl, k0, k1, k2⟩ := open3 hte oe.1 oe.2.1 oe.2.2 ce (by rw [z0]; exact ci) (by rw [z1]; exact ci) (by rw [z2]; exact ci) hy
      rw [z0] at k0
      rw [z1] at k1
      rw [z2] at k2
      obtain ⟨p0, q0⟩ := rep_i64 (n := 0) hti k0
      obtain ⟨p1, q1⟩ := rep_i64 (n := 0) hti k1
      obtain ⟨p2, q2⟩ := rep_i64 (n := 0) hti k2
      exact ⟨(p0, p1, p2), _, _, rfl, q0, _, _, rfl, q1, _, _, rfl, q2, rfl⟩) (fun a len cap e => by
      cases e
      obtain ⟨tys, ht1, _, hcell⟩ := hrow
      rw [ct] at ht1
      cases ht1
      obtain ⟨u, hu, hok⟩ := hcell 2 (.slice (some a) len cap) rfl
      cases hu
      simp only [Cell.okWide, hts, Cell.ok] at hok
      exact hok.2.2) h2
  cases r2
  refine ⟨(l, s, es), ?_⟩
  show _ ∧ _
  refine ⟨fun d hd => ?_, _, rfl, _, _, rfl, r0, _, _, rfl, r1, _, _, rfl, r2', rfl⟩
  simp only [List.mem_cons, List.not_mem_nil, or_false] at hd
  rcases hd with rfl | rfl | rfl <;> rfl
end
end Go.AW

/- Arguments that are lists of numbers. -/
namespace Go.AW
open Go Go.ChangeShapes Go.WideShapes Go.ChangeAt Go.RowKit
section
variable {H : Type} {enc : TypeId × Value → H} {P : Program} {W : World} {base : Nat}
theorem open_numbers {k : IntKind} {t e : TypeId} {v : Value} {d : DataW H} {ps : List MemPlace} (ht : P.underlying t = some (.slice e)) (he : P.underlying e = some (.int k)) (hc : P.cellsOf e = 1)
    (hval : Value.okWide P W .any base t v) (h : DataW.Trod enc P W 0 (fun _ => true) true t v d ps) : ∃ l : List Int, Rep W Mu.zero (slE (encM (HV.int k)) l) v := by
  obtain ⟨a, len, cap, rfl⟩ := okWide_slice ht hval
  obtain ⟨fuel, hf⟩ := h
  obtain ⟨l, x, xs, e1, h1, h2⟩ := open_rows (encM (HV.int k)) ht hc (fun x => ones.single rfl) (fun n cs y hy => by
    obtain ⟨m, hv, _, hw⟩ := DataW.trod_int he hy
    exact ⟨m, _, _, hv, ⟨rfl, hw⟩, rfl⟩) (fun a' len' cap' e => by
      simp [Value.cells] at e
      obtain ⟨rfl, rfl, rfl⟩ := e
      simp only [Value.okWide, ht, Cell.okWide, Cell.ok] at hval
      exact hval.2.2) hf
  simp [Value.cells] at e1
  obtain ⟨rfl, _⟩ := e1
  exact ⟨l, h1⟩
end
end Go.AW

/- Arguments that are lists of bytes. -/
namespace Go.AW
open Go Go.ChangeShapes Go.WideShapes Go.ChangeAt Go.RowKit
theorem fact_u8s {l : List Int} (h : fact (slE eU8 l)) : ∀ x ∈ l, 0 ≤ x ∧ x < 256 := fun x hx => by
  have hE : eU8.E l = l.map (HV.int .u8) := by simp [EncL.E, encM]
  have h2 : factL (eU8.E l) := h.2.2
  rw [hE] at h2
  have h3 := factL_iff.1 h2 (.int .u8 x) (List.mem_map.2 ⟨x, hx, rfl⟩)
  have h4 : 0 ≤ x ∧ x ≤ 255 := by simpa [fact, Lit.wf, IntKind.min, IntKind.max, IntKind.signed, IntKind.bits] using h3
  omega
section
variable {H : Type} {enc : TypeId × Value → H} {P : Program} {W : World} {base : Nat}
theorem open_u8s {t e : TypeId} {v : Value} {d : DataW H} {ps : List MemPlace} (ht : P.underlying t = some (.slice e)) (he : P.underlying e = some (.int .u8)) (hc : P.cellsOf e = 1)
    (hval : Value.okWide P W .any base t v) (h : DataW.Trod enc P W 0 (fun _ => true) true t v d ps) : ∃ l : List Int, Rep W Mu.zero (slE eU8 l) v := open_numbers ht he hc hval h
end
end Go.AW

namespace Go.Proofs.YtibfjjmglgabdaaDoor
open Go Go.AW Go.ChangeShapes Go.WideShapes Go.ChangeAt Go.RowKit Go.ChangeMaps
set_option linter.unusedVariables false

theorem ownM : ownKnob Tryd.prog.godebug = none := by kernel_rfl
theorem laidB : laidOutB Tryd.prog = true := by kernel_rfl

theorem wLaw (a0 : TLabelsStatesEdges) (a1 : List Int) : Pure Tryd.prog 3 [HV.agg [HV.int .i64 a0.1, HV.int .i64 a0.2.1, slE eFromLabelTo a0.2.2], slE eU8 a1] (· = .bool true) := ACall.facts (enters' Tryd.func3 rfl rfl) fun hf => w_law12_SubsetFoci (law_foci a0 a1 (fact_u8s hf.2.1))

set_option maxRecDepth 100000 in
theorem liftedL (os : Os) (started : os.Started) (H : Type) (enc : TypeId × Value → H) :
    ReturnsInHanded {} Tryd.checked os 3 .any (fun w args => (Rows.subsetFociSpec.pre enc Tryd.prog Tryd.f3 [] false w args ∧ laidMetH Tryd.prog Rows.subsetFociRow.laid w) ∧ sizedMet enc Tryd.prog Tryd.f3 (OpenSpec.ofChange Rows.subsetFociSpec) false w args) (Rows.subsetFociSpec.post enc Tryd.prog Tryd.f3 false true false false) := by
  refine returnsInHanded_of_change_and (C := Tryd.checked) (X := fun w _ => laidMetH Tryd.prog Rows.subsetFociRow.laid w) (fun _ _ _ hh h => h.of_heap hh) ownM started (by kernel_rfl) Tryd.func3
    (ChangeSpec.witness_shaped (enc := enc) (C := Tryd.checked) (os := os) (X := fun w _ => laidMetH Tryd.prog Rows.subsetFociRow.laid w) false (World.laidAll Tryd.prog os Rows.subsetFociRow.laid) #[.agg #[.int .i64 0, .int .i64 0, .slice none 0 0], .slice none 0 0] 8 (World.laidAll_os _ _ _)
      (World.shaped_of_ZipB (by kernel_rfl) (by kernel_rfl)) (by kernel_rfl) (by kernel_rfl) (by kernel_rfl)
      (by rw [MakeChecks.laidMetH_plain _ _ _ (by kernel_rfl)]; exact laidMet_laidAll _ (by kernel_rfl) (by kernel_rfl))) ?_
  intro W base args ds gs before hval0 hW hcnd _ _ _
  have hval : ∀ (j : Nat) t v, Tryd.f3.params[j]? = some t → args[j]? = some v → Value.okWide Tryd.prog W .any base t v := hval0
  have hW' := hW
  obtain ⟨p, q, hA0, hV, rfl, hfz, hnd⟩ := hW
  have hA : DataW.TrodAll enc Tryd.prog W 0 (fun _ => true) true Tryd.f3.params.toList args.toList ds p := hA0
  rw [Tryd.params3] at hA hval
  obtain ⟨v0, vs0, d0, ds0, p0, q0, hargs, rfl, rfl, h0, r0⟩ := trodAll_cons hA
  obtain ⟨v1, vs1, d1, ds1, p1, q1, rfl, rfl, rfl, h1, r1⟩ := trodAll_cons r0
  obtain ⟨rfl, rfl, rfl⟩ := trodAll_nil r1
  obtain rfl : args = #[v0, v1] := by cases args; simp_all
  obtain ⟨rfl, rfl⟩ := trodVars_none hV
  obtain ⟨a0, hr0⟩ := open_graph Tryd.underlying24 ⟨rfl, rfl, rfl⟩ ⟨rfl, rfl, rfl⟩ (by kernel_rfl) (by kernel_rfl) (by kernel_rfl) (by kernel_rfl) Tryd.underlying3 Tryd.underlying22 Tryd.underlying49 ⟨rfl, rfl, rfl⟩ ⟨rfl, rfl, rfl⟩ (by kernel_rfl) (hval 0 24 v0 rfl rfl) h0
  obtain ⟨a1, hr1⟩ := open_u8s Tryd.underlying25 Tryd.underlying5 (by kernel_rfl) (hval 1 25 v1 rfl rfl) h1
  refine (calls_of_pure (vs := [v0, v1]) (wLaw a0 a1) ⟨_, _, rfl, hr0, _, _, rfl, hr1, rfl⟩).mono fun e W' ⟨he, hk⟩ => ?_
  subst he
  exact ⟨_, rfl, post_of_true laidB (by kernel_rfl) rfl Tryd.underlying4 rfl hW' hk rfl rfl rfl⟩

theorem subsetFociProved : Rows.SubsetFociSaid :=
  OpenClaim.holds_of_wide 3 Tryd.f3 rfl rfl rfl rfl rfl rfl rfl ⟨rfl, rfl, rfl, rfl, rfl⟩ rfl rfl rfl rfl rfl (by kernel_rfl) Tryd.func3 (by kernel_rfl)
    (of_decide_eq_true (by kernel_rfl)) (by unfold Func.isWrapper; first | (rw [if_pos (by decide +kernel)]; kernel_rfl) | (rw [if_neg (by decide +kernel)]; exact ⟨rfl, rfl⟩))
    (fun os started H enc _ => liftedL os started H enc)
theorem subsetFociCardProved : Rows.SubsetFociCardSaid :=
  Claim7.holds_tied_plain_at .later [] [.data, .data, .data] true (true, "5f2bcb0e1707f4173c1cea7fa27a34a29ed9402e095b813ed716ce170741e310") false subsetFociProved (fun _ h => by cases h) (by kernel_rfl) (fun _ h => by cases h) subsetFoci_row_tie rfl ⟨rfl, rfl⟩ (by kernel_rfl) rfl
    (fun f fn hf hfn => by
      obtain rfl : f = 3 := Option.some.inj ((show Tryd.prog.funcNamed "groove/groovelaw12.SubsetFoci" = some 3 by kernel_rfl).symm.trans hf) |>.symm
      obtain rfl : fn = Tryd.f3 := (Option.some.inj (Tryd.func3.symm.trans hfn)).symm
      exact ⟨by kernel_rfl, fun j t ht => by
        rw [Tryd.params3] at ht
        have hm : t ∈ [24, 25] := by simpa using Array.mem_of_getElem? ht
        have hall : ([24, 25].all fun u => !Tryd.prog.wantsStandIn u) = true := by kernel_rfl
        exact (show Tryd.prog.wantsStandIn t = false by simpa using List.all_eq_true.1 hall t hm)⟩)
    (by kernel_rfl)
#print axioms subsetFociCardProved
end Go.Proofs.YtibfjjmglgabdaaDoor

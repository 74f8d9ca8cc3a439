import Derived.Test.YtlddcjolelmpmaaGreatRa5
namespace Go.AW
open Go Go.Proofs
set_option linter.unusedVariables false
set_option maxHeartbeats 1600000 in
set_option maxRecDepth 100000 in
theorem w_language_step {p0 : TLabelsStatesEdges} {p1 : List (Int)} {p2 : Int} {r : (List (Int))} (h : m_language_step p0 p1 p2 = some r) : Pure Tryz.prog 111 [HV.agg [HV.int .i64 p0.1, HV.int .i64 p0.2.1, slE eFromLabelTo p0.2.2], slE eInt p1, HV.int .u8 p2] (· = slE eInt r) := by
 unfold m_language_step at h
 refine Pure.of_body Tryz.func111 rfl rfl (Nat.le_of_ble_eq_true rfl) fun hf => ?_
 unfold Tryz.f111
 dsimp only [enumS, Nat.reduceAdd]
 refine AW.rgs rfl fun K hK => ?_
 refine b_op rfl (o_box rfl rfl rfl ?_)
 refine mv rfl rfl ?_
 refine b_fin hK (s' := ⟨[(1, slE eInt p1), (2, HV.int .u8 p2), (3, HV.fptr [HV.int .i64 p0.1, HV.int .i64 p0.2.1, slE eFromLabelTo p0.2.2] 0)], []⟩) (le_q rfl rfl) ?_
 clear hK K
 refine AW.dgs 10 follows rfl rfl fun K hK => ?_
 refine sv rfl (v_loadF ty27 rfl (l_litA rfl (Nat.le_of_ble_eq_true rfl) rfl)) ?_
 refine sm rfl rfl ?_
 refine sm rfl rfl ?_
 obtain ⟨x1, h2, h⟩ := bS h
 refine s_op rfl rfl (ops_call rfl rfl rfl rfl (ACallD.pure0 (w_strings_IndexByte h2)) ?_)
 obtain ⟨x3, h4, h⟩ := bS h
 refine s_op rfl rfl (ops_call rfl rfl rfl rfl (ACallD.pure0 (w_graph_Step h4)) ?_)
 refine sm rfl rfl ?_
 refine sv rfl (v_extract rfl rfl) ?_
 refine sv rfl (v_extract rfl rfl) ?_
 refine sm rfl rfl ?_
 refine sm rfl rfl ?_
 refine s_nil ?_
 refine b_fin hK (s' := ⟨[(7, slE eInt x3.1)], []⟩) (le_q rfl rfl) ?_
 clear hK K
 refine AW.rgs rfl fun K hK => ?_
 refine mv rfl rfl ?_
 refine mv rfl rfl ?_
 refine b_fin hK (s' := ⟨[(6, slE eInt x3.1)], []⟩) (le_q rfl rfl) ?_
 clear hK K
 refine AW.ret ?_
 have h := Option.some.inj h
 subst h
 exact ret_pure (hs := [slE eInt x3.1]) (q := slE eInt x3.1) (.inr rfl) (resT rfl rfl) rfl (clean_slE fun _ _ => ⟨trivial, trivial⟩)

set_option maxHeartbeats 1600000 in
set_option maxRecDepth 100000 in
theorem w_language_ends {p0 : TLabelsStatesEdges} {p1 : List (Int)} {p2 : List UInt8} {r : (List (Int))} (h : m_language_ends p0 p1 p2 = some r) : Pure Tryz.prog 61 [HV.agg [HV.int .i64 p0.1, HV.int .i64 p0.2.1, slE eFromLabelTo p0.2.2], slE eInt p1, HV.str p2] (· = slE eInt r) := by
 unfold m_language_ends at h
 refine Pure.of_body Tryz.func61 rfl rfl (Nat.le_of_ble_eq_true rfl) fun hf => ?_
 unfold Tryz.f61
 dsimp only [enumS, Nat.reduceAdd]
 refine AW.rgs rfl fun K hK => ?_
 refine b_op rfl (o_box rfl rfl rfl ?_)
 refine mv rfl rfl ?_
 refine b_fin hK (s' := ⟨[(1, slE eInt p1), (2, HV.str p2), (3, HV.fptr [HV.int .i64 p0.1, HV.int .i64 p0.2.1, slE eFromLabelTo p0.2.2] 0)], []⟩) (le_q rfl rfl) ?_
 clear hK K
 refine AW.seq ?_
 refine AW.rgs rfl fun K hK => ?_
 refine mv rfl rfl ?_
 refine b_fin hK (s' := ⟨[(1, slE eInt p1), (2, HV.str p2), (3, HV.fptr [HV.int .i64 p0.1, HV.int .i64 p0.2.1, slE eFromLabelTo p0.2.2] 0), (7, HV.int .i64 0)], []⟩) (le_q rfl rfl) ?_
 clear hK K
 refine AW.lpX h (by first | exact up_then | exact up_to) (S := (List Int) × Int) (V := Unit) (fun a v => ⟨[(1, slE eInt a.1), (2, HV.str p2), (3, HV.fptr [HV.int .i64 p0.1, HV.int .i64 p0.2.1, slE eFromLabelTo p0.2.2] 0), (7, HV.int .i64 a.2)], []⟩) ?_ (X := (List Int)) (W := Unit) (fun a v => ⟨[(1, slE eInt a)], []⟩) (fun a13 w14 h => ?_) (fun a1 w2 st3 h => ?_)
 ·exact to_le (s' := ⟨[(1, slE eInt p1), (2, HV.str p2), (3, HV.fptr [HV.int .i64 p0.1, HV.int .i64 p0.2.1, slE eFromLabelTo p0.2.2] 0), (7, HV.int .i64 0)], []⟩) (AS.le_of ⟨rfl, rfl, rfl, rfl, trivial⟩ trivial) ⟨(), rfl⟩
 ·refine AW.rgs rfl fun K hK => ?_
  refine mv rfl rfl ?_
  refine mv rfl rfl ?_
  refine b_fin hK (s' := ⟨[(6, slE eInt a13)], []⟩) (le_q rfl rfl) ?_
  clear hK K
  refine AW.ret ?_
  have h := Option.some.inj h
  subst h
  exact ret_pure (hs := [slE eInt a13]) (q := slE eInt a13) (.inr rfl) (resT rfl rfl) rfl (clean_slE fun _ _ => ⟨trivial, trivial⟩)
 refine AW.seq ?_
 refine AW.seqJ h (S := Bool) (V := Unit) (fun a v => ⟨[(1, slE eInt a1.1), (2, HV.str p2), (3, HV.fptr [HV.int .i64 p0.1, HV.int .i64 p0.2.1, slE eFromLabelTo p0.2.2] 0), (7, HV.int .i64 a1.2), (16, HV.bool a)], []⟩) (fun a5 w6 h => ?_) (fun k7 h => ?_)
 ·refine AW.cond rfl (fun hc => ?_) (fun hc => ?_)
  ·have h := ifT hc h
   refine AW.skip ?_
   refine AW.seq (AW.block ?_)
   refine AW.dg 7 follows rfl rfl fun K hK => ?_
   refine sv rfl (v_loadF ty27 rfl (l_litA rfl (Nat.le_of_ble_eq_true rfl) rfl)) ?_
   refine sm rfl rfl ?_
   refine sm rfl rfl ?_
   refine sm rfl rfl ?_
   obtain ⟨x8, h9, h⟩ := bS h
   refine sv rfl (v_idxS ty9 rfl rfl h9) ?_
   obtain ⟨x10, h11, h⟩ := bS h
   refine s_op rfl rfl (ops_call rfl rfl rfl rfl (ACallD.pure0 (w_language_step h11)) ?_)
   refine sm rfl rfl ?_
   refine s_nil ?_
   refine b_fin hK (s' := ⟨[(1, slE eInt x10), (2, HV.str p2), (3, HV.fptr [HV.int .i64 p0.1, HV.int .i64 p0.2.1, slE eFromLabelTo p0.2.2] 0), (7, HV.int .i64 a1.2)], []⟩) (le_q rfl rfl) ?_
   clear hK K
   refine AW.rg rfl fun K hK => ?_
   refine mv rfl rfl ?_
   refine bv rfl (v_bin rfl rfl b_add) ?_
   refine mv rfl rfl ?_
   refine b_nil (hK _ ?_)
   clear hK K
   exact to_le (s' := ⟨[(1, slE eInt x10), (2, HV.str p2), (3, HV.fptr [HV.int .i64 p0.1, HV.int .i64 p0.2.1, slE eFromLabelTo p0.2.2] 0), (7, HV.int .i64 (IntKind.wrap .i64 (a1.2 + 1)))], []⟩) (AS.le_of ⟨rfl, rfl, rfl, rfl, trivial⟩ trivial) ⟨(x10, IntKind.wrap .i64 (a1.2 + 1)), (), h, rfl⟩
  have h := ifF (bF' hc) h
  refine AW.exit ?_
  exact to_le (s' := ⟨[(1, slE eInt a1.1)], []⟩) (AS.le_of ⟨rfl, trivial⟩ trivial) ⟨a1.1, (), h, rfl⟩
 refine AW.rg rfl fun K hK => ?_
 refine mv rfl rfl ?_
 refine mv rfl rfl ?_
 refine bv rfl (v_lenS rfl rfl ty9 rfl) ?_
 refine bv rfl (v_bin rfl rfl b_lss) ?_
 refine mv rfl rfl ?_
 by_cases hg12 : a1.2 < ((p2).length : Int)
 ·have h := ifT hg12 h
  refine b_T rfl rfl rfl rfl (decide_eq_true hg12) (o_val rfl (mv_val rfl rfl).2 ?_)
  refine b_T rfl rfl rfl rfl rfl (o_val rfl (v_lenF rfl rfl ty31 rfl) ?_)
  refine b_T rfl rfl rfl rfl rfl (o_val rfl (v_bin rfl rfl b_gtr) ?_)
  refine bv rfl (v_pickT rfl rfl rfl) ?_
  refine b_nil (hK _ ?_)
  clear hK K
  exact to_le (s' := ⟨[(1, slE eInt a1.1), (2, HV.str p2), (3, HV.fptr [HV.int .i64 p0.1, HV.int .i64 p0.2.1, slE eFromLabelTo p0.2.2] 0), (7, HV.int .i64 a1.2), (16, HV.bool (decide (0 < ((a1.1).length : Int))))], []⟩) (AS.le_of ⟨rfl, rfl, rfl, rfl, rfl, trivial⟩ trivial) ⟨decide (0 < ((a1.1).length : Int)), (), h, rfl⟩
 have h := ifF hg12 h
 refine b_F rfl rfl rfl rfl rfl (decide_eq_false hg12) ?_
 refine b_F rfl rfl rfl rfl rfl rfl ?_
 refine b_F rfl rfl rfl rfl rfl rfl ?_
 refine bv rfl (v_pickF rfl rfl rfl) ?_
 refine b_nil (hK _ ?_)
 clear hK K
 exact to_le (s' := ⟨[(1, slE eInt a1.1), (2, HV.str p2), (3, HV.fptr [HV.int .i64 p0.1, HV.int .i64 p0.2.1, slE eFromLabelTo p0.2.2] 0), (7, HV.int .i64 a1.2), (16, HV.bool false)], []⟩) (AS.le_of ⟨rfl, rfl, rfl, rfl, rfl, trivial⟩ trivial) ⟨false, (), h, rfl⟩

set_option maxHeartbeats 1600000 in
set_option maxRecDepth 100000 in
theorem w_language_states {p0 : TLabelsStatesEdges} {r : (List (Int))} (h : m_language_states p0 = some r) : Pure Tryz.prog 62 [HV.agg [HV.int .i64 p0.1, HV.int .i64 p0.2.1, slE eFromLabelTo p0.2.2]] (· = slE eInt r) := by
 unfold m_language_states at h
 refine Pure.of_body Tryz.func62 rfl rfl (Nat.le_of_ble_eq_true rfl) fun hf => ?_
 unfold Tryz.f62
 dsimp only [enumS, Nat.reduceAdd]
 refine AW.rgs rfl fun K hK => ?_
 refine b_op rfl (o_box rfl rfl rfl ?_)
 refine mv rfl rfl ?_
 refine b_fin hK (s' := ⟨[(1, HV.fptr [HV.int .i64 p0.1, HV.int .i64 p0.2.1, slE eFromLabelTo p0.2.2] 0)], []⟩) (le_q rfl rfl) ?_
 clear hK K
 refine AW.rgs rfl fun K hK => ?_
 refine bv rfl (v_fieldAddrF fo27_1 rfl) ?_
 refine bv rfl (v_loadF ty3 rfl (l_lit rfl rfl)) ?_
 obtain ⟨h2, h⟩ := ifN h
 refine b_op rfl (o_makeE (fid := 62) eInt (0 : Int) 62007 rfl rfl ty31 rfl rfl ty3 rfl rfl h2 (fun v1 => ?_))
 refine mv rfl rfl ?_
 refine b_fin hK (s' := ⟨[(3, HV.ar 62007 v1 eInt.k 0 ((List.replicate (p0.2.1).toNat (0 : Int)).length))], [(62007, v1, .arr eInt.k 3 (eInt.E (List.replicate (p0.2.1).toNat (0 : Int))))]⟩) (le_q rfl rfl) ?_
 clear hK K
 refine AW.seq ?_
 refine AW.rgs rfl fun K hK => ?_
 refine mv rfl rfl ?_
 refine bv rfl (v_lenA rfl rfl ty31 rfl rfl) ?_
 refine mv rfl rfl ?_
 refine b_fin hK (s' := ⟨[(3, HV.ar 62007 v1 eInt.k 0 ((List.replicate (p0.2.1).toNat (0 : Int)).length)), (9, HV.int .i64 (((List.replicate (p0.2.1).toNat (0 : Int)).length : Nat) : Int)), (10, HV.int .i64 0)], [(62007, v1, .arr eInt.k 3 (eInt.E (List.replicate (p0.2.1).toNat (0 : Int))))]⟩) (le_q rfl rfl) ?_
 clear hK K
 refine AW.lpX h (by first | exact up_then | exact up_to) (S := Int × (List Int)) (V := Unit) (fun a v => ⟨[(3, HV.ar 62007 v1 eInt.k 0 ((a.2).length)), (9, HV.int .i64 (((List.replicate (p0.2.1).toNat (0 : Int)).length : Nat) : Int)), (10, HV.int .i64 a.1)], [(62007, v1, .arr eInt.k 3 (eInt.E a.2))]⟩) ?_ (X := (List Int)) (W := Unit) (fun a v => ⟨[(3, HV.ar 62007 v1 eInt.k 0 ((a).length))], [(62007, v1, .arr eInt.k 3 (eInt.E a))]⟩) (fun a9 w10 h => ?_) (fun a3 w4 st5 h => ?_)
 ·exact to_le (s' := ⟨[(3, HV.ar 62007 v1 eInt.k 0 ((List.replicate (p0.2.1).toNat (0 : Int)).length)), (9, HV.int .i64 (((List.replicate (p0.2.1).toNat (0 : Int)).length : Nat) : Int)), (10, HV.int .i64 0)], [(62007, v1, .arr eInt.k 3 (eInt.E (List.replicate (p0.2.1).toNat (0 : Int))))]⟩) (AS.le_of ⟨rfl, rfl, rfl, trivial⟩ ⟨rfl, trivial⟩) ⟨(), rfl⟩
 ·refine AW.rgs rfl fun K hK => ?_
  refine mv rfl rfl ?_
  refine mv rfl rfl ?_
  refine b_fin hK (s' := ⟨[(2, HV.ar 62007 v1 eInt.k 0 ((a9).length))], [(62007, v1, .arr eInt.k 3 (eInt.E a9))]⟩) (le_q rfl rfl) ?_
  clear hK K
  refine AW.to (to_frz 2 [(62007, v1, .arr eInt.k 3 (eInt.E a9))] ⟨[(2, slE eInt a9)], []⟩ ⟨⟨_, rfl, frz_slE eInt (l := a9) rfl fun _ _ => rfl⟩, trivial⟩ trivial ⟨rfl, trivial⟩ ⟨rfl, trivial⟩ ?_)
  refine AW.ret ?_
  have h := Option.some.inj h
  subst h
  exact ret_pure (hs := [slE eInt a9]) (q := slE eInt a9) (.inr rfl) (resT rfl rfl) rfl (clean_slE fun _ _ => ⟨trivial, trivial⟩)
 refine AW.rgs rfl fun K hK => ?_
 refine bv rfl (v_bin rfl rfl b_lss) ?_
 refine b_fin hK (s' := ⟨[(3, HV.ar 62007 v1 eInt.k 0 ((a3.2).length)), (9, HV.int .i64 (((List.replicate (p0.2.1).toNat (0 : Int)).length : Nat) : Int)), (10, HV.int .i64 a3.1), (11, HV.bool (decide (a3.1 < (((List.replicate (p0.2.1).toNat (0 : Int)).length : Nat) : Int))))], [(62007, v1, .arr eInt.k 3 (eInt.E a3.2))]⟩) (le_q rfl rfl) ?_
 clear hK K
 refine AW.cseq rfl (fun hc => ?_) (fun hc => ?_)
 ·have hc := of_decide_eq_true hc
  have h := ifT hc h
  refine AW.skip ?_
  refine AW.seq (AW.block ?_)
  refine AW.rgs rfl fun K hK => ?_
  refine mv rfl rfl ?_
  refine mv rfl rfl ?_
  refine b_fin hK (s' := ⟨[(3, HV.ar 62007 v1 eInt.k 0 ((a3.2).length)), (4, HV.int .i64 a3.1), (9, HV.int .i64 (((List.replicate (p0.2.1).toNat (0 : Int)).length : Nat) : Int)), (10, HV.int .i64 a3.1)], [(62007, v1, .arr eInt.k 3 (eInt.E a3.2))]⟩) (le_q rfl rfl) ?_
  clear hK K
  refine AW.rg rfl fun K hK => ?_
  refine mv rfl rfl ?_
  refine mv rfl rfl ?_
  refine mv rfl rfl ?_
  obtain ⟨x7, h8, h⟩ := bS h
  refine bv rfl (v_idxA ty31 es31 rfl rfl (idx_lt h8) rfl) ?_
  refine b_op rfl (o_storeE eInt (l := a3.2) (j := a3.1) (v := a3.1) rfl rfl rfl ty3 rfl rfl rfl (idx_lt h8) ?_)
  refine b_fin hK (s' := ⟨[(3, HV.ar 62007 v1 eInt.k 0 (((a3.2).set (a3.1).toNat a3.1).length)), (9, HV.int .i64 (((List.replicate (p0.2.1).toNat (0 : Int)).length : Nat) : Int)), (10, HV.int .i64 a3.1)], [(62007, v1, .arr eInt.k 3 (eInt.E ((a3.2).set (a3.1).toNat a3.1)))]⟩) (AS.le_of ⟨arl (by first | rfl | simp only [List.length_set, sortI_len, sortS_len]), rfl, rfl, trivial⟩ ⟨rfl, trivial⟩) ?_
  clear hK K
  refine AW.rg rfl fun K hK => ?_
  refine bv rfl (v_bin rfl rfl b_add) ?_
  refine mv rfl rfl ?_
  refine b_nil (hK _ ?_)
  clear hK K
  exact to_le (s' := ⟨[(3, HV.ar 62007 v1 eInt.k 0 (((a3.2).set (a3.1).toNat a3.1).length)), (9, HV.int .i64 (((List.replicate (p0.2.1).toNat (0 : Int)).length : Nat) : Int)), (10, HV.int .i64 (IntKind.wrap .i64 (a3.1 + 1)))], [(62007, v1, .arr eInt.k 3 (eInt.E ((a3.2).set (a3.1).toNat a3.1)))]⟩) (AS.le_of ⟨rfl, rfl, rfl, trivial⟩ ⟨rfl, trivial⟩) ⟨(IntKind.wrap .i64 (a3.1 + 1), (a3.2).set (a3.1).toNat a3.1), (), h, rfl⟩
 have hc := of_decide_eq_false hc
 have h := ifF hc h
 refine AW.exit ?_
 exact to_le (s' := ⟨[(3, HV.ar 62007 v1 eInt.k 0 ((a3.2).length))], [(62007, v1, .arr eInt.k 3 (eInt.E a3.2))]⟩) (AS.le_of ⟨rfl, trivial⟩ ⟨rfl, trivial⟩) ⟨a3.2, (), h, rfl⟩

set_option maxHeartbeats 1600000 in
set_option maxRecDepth 100000 in
theorem w_language_Accepts {p0 : TLabelsStatesEdges} {p1 : List UInt8} {r : Bool × Int} (h : m_language_Accepts p0 p1 = some r) : Pure Tryz.prog 16 [HV.agg [HV.int .i64 p0.1, HV.int .i64 p0.2.1, slE eFromLabelTo p0.2.2], HV.str p1] (· = HV.tup [HV.bool r.1, HV.int .i64 r.2]) := by
 unfold m_language_Accepts at h
 refine Pure.of_body Tryz.func16 rfl rfl (Nat.le_of_ble_eq_true rfl) fun hf => ?_
 unfold Tryz.f16
 dsimp only [enumS, Nat.reduceAdd]
 refine AW.rgs rfl fun K hK => ?_
 refine b_op rfl (o_box rfl rfl rfl ?_)
 refine mv rfl rfl ?_
 refine mv rfl rfl ?_
 refine b_fin hK (s' := ⟨[(1, HV.str p1), (2, HV.fptr [HV.int .i64 p0.1, HV.int .i64 p0.2.1, slE eFromLabelTo p0.2.2] 0)], []⟩) (le_q rfl rfl) ?_
 clear hK K
 refine AW.seq ?_
 refine AW.rgs rfl fun K hK => ?_
 refine bv rfl (v_loadF ty27 rfl (l_litA rfl (Nat.le_of_ble_eq_true rfl) rfl)) ?_
 refine mv rfl rfl ?_
 obtain ⟨x1, h2, h⟩ := bS h
 refine b_op rfl (o_call rfl rfl rfl rfl (ACallD.pure0 (w_language_spells h2)) ?_)
 refine mv rfl rfl ?_
 refine b_fin hK (s' := ⟨[(1, HV.str p1), (2, HV.fptr [HV.int .i64 p0.1, HV.int .i64 p0.2.1, slE eFromLabelTo p0.2.2] 0), (6, HV.int .i64 x1)], []⟩) (le_q rfl rfl) ?_
 clear hK K
 refine AW.rgs rfl fun K hK => ?_
 refine mv rfl rfl ?_
 refine bv rfl (v_bin rfl rfl b_neq) ?_
 refine b_fin hK (s' := ⟨[(1, HV.str p1), (2, HV.fptr [HV.int .i64 p0.1, HV.int .i64 p0.2.1, slE eFromLabelTo p0.2.2] 0), (6, HV.int .i64 x1), (11, HV.bool (decide (x1 ≠ 0)))], []⟩) (le_q rfl rfl) ?_
 clear hK K
 refine AW.cond rfl (fun hc => ?_) (fun hc => ?_)
 ·have hc := of_decide_eq_true hc
  have h := ifT hc h
  refine AW.rgs rfl fun K hK => ?_
  refine mv rfl rfl ?_
  refine mv rfl rfl ?_
  refine mv rfl rfl ?_
  refine b_fin hK (s' := ⟨[(4, HV.bool false), (5, HV.int .i64 x1)], []⟩) (le_q rfl rfl) ?_
  clear hK K
  refine AW.ret ?_
  have h := Option.some.inj h
  subst h
  exact ret_pure (hs := [HV.bool false, HV.int .i64 x1]) (q := HV.tup [HV.bool false, HV.int .i64 x1]) (.inr rfl) (resT rfl (resT rfl rfl)) rfl ⟨trivial, trivial, trivial⟩
 have hc := of_decide_eq_false hc
 have h := ifF hc h
 refine AW.skip ?_
 refine AW.dgs 9 follows rfl rfl fun K hK => ?_
 refine sv rfl (v_loadF ty27 rfl (l_litA rfl (Nat.le_of_ble_eq_true rfl) rfl)) ?_
 refine sv rfl (v_loadF ty27 rfl (l_litA rfl (Nat.le_of_ble_eq_true rfl) rfl)) ?_
 obtain ⟨x3, h4, h⟩ := bS h
 refine s_op rfl rfl (ops_call rfl rfl rfl rfl (ACallD.pure0 (w_language_states h4)) ?_)
 refine sm rfl rfl ?_
 obtain ⟨x5, h6, h⟩ := bS h
 refine s_op rfl rfl (ops_call rfl rfl rfl rfl (ACallD.pure0 (w_language_ends h6)) ?_)
 refine sv rfl (v_lenF rfl rfl ty31 rfl) ?_
 refine sv rfl (v_bin rfl rfl b_gtr) ?_
 refine sm rfl rfl ?_
 refine sm rfl rfl ?_
 refine s_nil ?_
 refine b_fin hK (s' := ⟨[(4, HV.bool (decide (0 < ((x5).length : Int)))), (5, HV.int .i64 0)], []⟩) (le_q rfl rfl) ?_
 clear hK K
 refine AW.ret ?_
 have h := Option.some.inj h
 subst h
 exact ret_pure (hs := [HV.bool (decide (0 < ((x5).length : Int))), HV.int .i64 0]) (q := HV.tup [HV.bool (decide (0 < ((x5).length : Int))), HV.int .i64 0]) (.inr rfl) (resT rfl (resT rfl rfl)) rfl ⟨trivial, trivial, trivial⟩

set_option maxHeartbeats 1600000 in
set_option maxRecDepth 100000 in
theorem w_merging_accepts {p0 : TLabelsStatesEdges} {p1 : List UInt8} {r : Bool} (h : m_merging_accepts p0 p1 = some r) : Pure Tryz.prog 72 [HV.agg [HV.int .i64 p0.1, HV.int .i64 p0.2.1, slE eFromLabelTo p0.2.2], HV.str p1] (· = HV.bool r) := by
 unfold m_merging_accepts at h
 refine Pure.of_body Tryz.func72 rfl rfl (Nat.le_of_ble_eq_true rfl) fun hf => ?_
 unfold Tryz.f72
 dsimp only [enumS, Nat.reduceAdd]
 refine AW.rgs rfl fun K hK => ?_
 refine b_op rfl (o_box rfl rfl rfl ?_)
 refine mv rfl rfl ?_
 refine b_fin hK (s' := ⟨[(1, HV.str p1), (2, HV.fptr [HV.int .i64 p0.1, HV.int .i64 p0.2.1, slE eFromLabelTo p0.2.2] 0)], []⟩) (le_q rfl rfl) ?_
 clear hK K
 refine AW.rgs rfl fun K hK => ?_
 refine bv rfl (v_loadF ty27 rfl (l_litA rfl (Nat.le_of_ble_eq_true rfl) rfl)) ?_
 refine mv rfl rfl ?_
 obtain ⟨x1, h2, h⟩ := bS h
 refine b_op rfl (o_call rfl rfl rfl rfl (ACallD.pure0 (w_language_Accepts h2)) ?_)
 refine mv rfl rfl ?_
 refine bv rfl (v_extract rfl rfl) ?_
 refine bv rfl (v_extract rfl rfl) ?_
 refine mv rfl rfl ?_
 refine mv rfl rfl ?_
 refine b_fin hK (s' := ⟨[(5, HV.bool x1.1), (6, HV.int .i64 x1.2)], []⟩) (le_q rfl rfl) ?_
 clear hK K
 refine AW.seqJ h (S := Bool) (V := Unit) (fun a v => ⟨[(4, HV.bool a)], []⟩) (fun a3 w4 h => ?_) (fun k5 h => ?_)
 ·refine AW.ret ?_
  have h := Option.some.inj h
  subst h
  exact ret_pure (hs := [HV.bool a3]) (q := HV.bool a3) (.inr rfl) (resT rfl rfl) rfl trivial
 refine AW.rg rfl fun K hK => ?_
 refine mv rfl rfl ?_
 refine bv rfl (v_bin rfl rfl b_eql) ?_
 refine mv rfl rfl ?_
 by_cases hg6 : x1.2 = 0
 ·have h := ifT hg6 h
  refine b_T rfl rfl rfl rfl (decide_eq_true hg6) (o_val rfl (mv_val rfl rfl).2 ?_)
  refine bv rfl (v_pickT rfl rfl rfl) ?_
  refine mv rfl rfl ?_
  refine b_nil (hK _ ?_)
  clear hK K
  exact to_le (s' := ⟨[(4, HV.bool x1.1)], []⟩) (AS.le_of ⟨rfl, trivial⟩ trivial) ⟨x1.1, (), h, rfl⟩
 have h := ifF hg6 h
 refine b_F rfl rfl rfl rfl rfl (decide_eq_false hg6) ?_
 refine bv rfl (v_pickF rfl rfl rfl) ?_
 refine mv rfl rfl ?_
 refine b_nil (hK _ ?_)
 clear hK K
 exact to_le (s' := ⟨[(4, HV.bool false)], []⟩) (AS.le_of ⟨rfl, trivial⟩ trivial) ⟨false, (), h, rfl⟩

set_option maxHeartbeats 1600000 in
set_option maxRecDepth 100000 in
theorem w_merging_Check_1 {p0 : List UInt8} {c0 : TLabelsStatesEdges} {r : Bool} (h : m_merging_Check_1 p0 c0 = some r) : Pure Tryz.prog 85 [HV.str p0, HV.fptr [HV.int .i64 c0.1, HV.int .i64 c0.2.1, slE eFromLabelTo c0.2.2] 0] (· = HV.bool r) := by
 unfold m_merging_Check_1 at h
 refine Pure.of_body Tryz.func85 rfl rfl (Nat.le_of_ble_eq_true rfl) fun hf => ?_
 unfold Tryz.f85
 dsimp only [enumS, Nat.reduceAdd]
 refine AW.rgs rfl fun K hK => ?_
 refine mv rfl rfl ?_
 refine b_fin hK (s' := ⟨[(0, HV.str p0), (1, HV.fptr [HV.int .i64 c0.1, HV.int .i64 c0.2.1, slE eFromLabelTo c0.2.2] 0)], []⟩) (le_q rfl rfl) ?_
 clear hK K
 refine AW.rgs rfl fun K hK => ?_
 refine bv rfl (v_loadF ty27 rfl (l_litA rfl (Nat.le_of_ble_eq_true rfl) rfl)) ?_
 refine mv rfl rfl ?_
 obtain ⟨x1, h2, h⟩ := bS h
 refine b_op rfl (o_call rfl rfl rfl rfl (ACallD.pure0 (w_merging_accepts h2)) ?_)
 refine bv rfl (v_not rfl) ?_
 refine mv rfl rfl ?_
 refine b_fin hK (s' := ⟨[(3, HV.bool (!x1))], []⟩) (le_q rfl rfl) ?_
 clear hK K
 refine AW.ret ?_
 have h := Option.some.inj h
 subst h
 exact ret_pure (hs := [HV.bool (!x1)]) (q := HV.bool (!x1)) (.inr rfl) (resT rfl rfl) rfl trivial

set_option maxHeartbeats 1600000 in
set_option maxRecDepth 100000 in
theorem w_merging_joins_1 {p0 : List UInt8} {c0 : TLabelsStatesEdges} {c1 : List UInt8} {c2 : List UInt8} {r : Bool} (h : m_merging_joins_1 p0 c0 c1 c2 = some r) : Pure Tryz.prog 136 [HV.str p0, HV.fptr [HV.int .i64 c0.1, HV.int .i64 c0.2.1, slE eFromLabelTo c0.2.2] 0, HV.fptr [HV.str c1] 0, HV.fptr [HV.str c2] 0] (· = HV.bool r) := by
 unfold m_merging_joins_1 at h
 refine Pure.of_body Tryz.func136 rfl rfl (Nat.le_of_ble_eq_true rfl) fun hf => ?_
 unfold Tryz.f136
 dsimp only [enumS, Nat.reduceAdd]
 refine AW.rgs rfl fun K hK => ?_
 refine mv rfl rfl ?_
 refine b_fin hK (s' := ⟨[(0, HV.str p0), (1, HV.fptr [HV.int .i64 c0.1, HV.int .i64 c0.2.1, slE eFromLabelTo c0.2.2] 0), (2, HV.fptr [HV.str c1] 0), (3, HV.fptr [HV.str c2] 0)], []⟩) (le_q rfl rfl) ?_
 clear hK K
 refine AW.rgs rfl fun K hK => ?_
 refine bv rfl (v_loadF ty27 rfl (l_litA rfl (Nat.le_of_ble_eq_true rfl) rfl)) ?_
 refine bv rfl (v_loadF ty9 rfl (l_lit rfl rfl)) ?_
 refine mv rfl rfl ?_
 obtain ⟨h1, h⟩ := ifN h
 refine bv rfl (v_bin rfl rfl (b_sadd h1)) ?_
 refine bv rfl (v_loadF ty9 rfl (l_lit rfl rfl)) ?_
 obtain ⟨h2, h⟩ := ifN h
 refine bv rfl (v_bin rfl rfl (b_sadd h2)) ?_
 obtain ⟨x3, h4, h⟩ := bS h
 refine b_op rfl (o_call rfl rfl rfl rfl (ACallD.pure0 (w_merging_accepts h4)) ?_)
 refine mv rfl rfl ?_
 refine b_fin hK (s' := ⟨[(5, HV.bool x3)], []⟩) (le_q rfl rfl) ?_
 clear hK K
 refine AW.ret ?_
 have h := Option.some.inj h
 subst h
 exact ret_pure (hs := [HV.bool x3]) (q := HV.bool x3) (.inr rfl) (resT rfl rfl) rfl trivial

set_option maxHeartbeats 1600000 in
set_option maxRecDepth 100000 in
theorem w_merging_joins {p0 : TLabelsStatesEdges} {p1 : List (List UInt8)} {p2 : List UInt8} {p3 : List UInt8} {r : Bool} (h : m_merging_joins p0 p1 p2 p3 = some r) : Pure Tryz.prog 86 [HV.agg [HV.int .i64 p0.1, HV.int .i64 p0.2.1, slE eFromLabelTo p0.2.2], slE eStr p1, HV.str p2, HV.str p3] (· = HV.bool r) := by
 unfold m_merging_joins at h
 refine Pure.of_body Tryz.func86 rfl rfl (Nat.le_of_ble_eq_true rfl) fun hf => ?_
 unfold Tryz.f86
 dsimp only [enumS, Nat.reduceAdd]
 refine AW.rgs rfl fun K hK => ?_
 refine b_op rfl (o_box rfl rfl rfl ?_)
 refine b_op rfl (o_box rfl rfl rfl ?_)
 refine b_op rfl (o_box rfl rfl rfl ?_)
 refine mv rfl rfl ?_
 refine b_fin hK (s' := ⟨[(1, slE eStr p1), (4, HV.fptr [HV.int .i64 p0.1, HV.int .i64 p0.2.1, slE eFromLabelTo p0.2.2] 0), (6, HV.fptr [HV.str p2] 0), (7, HV.fptr [HV.str p3] 0)], []⟩) (le_q rfl rfl) ?_
 clear hK K
 refine AW.rgs rfl fun K hK => ?_
 refine mv rfl rfl ?_
 refine bv rfl (v_func rfl rfl) ?_
 obtain ⟨x1, h2, h⟩ := bS h
 refine b_op rfl (o_call rfl rfl rfl rfl (ACallD.pure0 (w_slices_ContainsFunc_Lstring_stringG h2 (fun _ _ h => w_merging_joins_1 h))) ?_)
 refine mv rfl rfl ?_
 refine b_fin hK (s' := ⟨[(8, HV.bool x1)], []⟩) (le_q rfl rfl) ?_
 clear hK K
 refine AW.ret ?_
 have h := Option.some.inj h
 subst h
 exact ret_pure (hs := [HV.bool x1]) (q := HV.bool x1) (.inr rfl) (resT rfl rfl) rfl trivial

set_option maxHeartbeats 1600000 in
set_option maxRecDepth 100000 in
theorem w_merging_Check {p0 : TWordsMerges} {p1 : TLabelsStatesEdges} {r : Int} (h : m_merging_Check p0 p1 = some r) : Pure Tryz.prog 35 [HV.agg [slE eStr p0.1, slE eStr p0.2], HV.agg [HV.int .i64 p1.1, HV.int .i64 p1.2.1, slE eFromLabelTo p1.2.2]] (· = HV.int .i64 r) := by
 unfold m_merging_Check at h
 refine Pure.of_body Tryz.func35 rfl rfl (Nat.le_of_ble_eq_true rfl) fun hf => ?_
 unfold Tryz.f35
 dsimp only [enumS, Nat.reduceAdd]
 refine AW.rgs rfl fun K hK => ?_
 refine b_op rfl (o_box rfl rfl rfl ?_)
 refine b_op rfl (o_box rfl rfl rfl ?_)
 refine mv rfl rfl ?_
 refine b_fin hK (s' := ⟨[(2, HV.fptr [slE eStr p0.1, slE eStr p0.2] 0), (3, HV.fptr [HV.int .i64 p1.1, HV.int .i64 p1.2.1, slE eFromLabelTo p1.2.2] 0)], []⟩) (le_q rfl rfl) ?_
 clear hK K
 refine AW.seq ?_
 refine AW.rgs rfl fun K hK => ?_
 refine bv rfl (v_loadF ty27 rfl (l_litA rfl (Nat.le_of_ble_eq_true rfl) rfl)) ?_
 obtain ⟨x1, h2, h⟩ := bS h
 refine b_op rfl (o_call rfl rfl rfl rfl (ACallD.pure0 (w_graph_Check h2)) ?_)
 refine bv rfl (v_bin rfl rfl b_neq) ?_
 refine b_fin hK (s' := ⟨[(2, HV.fptr [slE eStr p0.1, slE eStr p0.2] 0), (3, HV.fptr [HV.int .i64 p1.1, HV.int .i64 p1.2.1, slE eFromLabelTo p1.2.2] 0), (12, HV.bool (decide (x1 ≠ 0)))], []⟩) (le_q rfl rfl) ?_
 clear hK K
 refine AW.cond rfl (fun hc => ?_) (fun hc => ?_)
 ·have hc := of_decide_eq_true hc
  have h := ifT hc h
  refine AW.rgs rfl fun K hK => ?_
  refine mv rfl rfl ?_
  refine b_fin hK (s' := ⟨[(4, HV.int .i64 1)], []⟩) (le_q rfl rfl) ?_
  clear hK K
  refine AW.ret ?_
  have h := Option.some.inj h
  subst h
  exact ret_pure (hs := [HV.int .i64 1]) (q := HV.int .i64 1) (.inr rfl) (resT rfl rfl) rfl trivial
 have hc := of_decide_eq_false hc
 have h := ifF hc h
 refine AW.skip ?_
 refine AW.seq ?_
 refine AW.rgs rfl fun K hK => ?_
 refine bv rfl (v_fieldAddrF fo27_0 rfl) ?_
 refine bv rfl (v_loadF ty3 rfl (l_lit rfl rfl)) ?_
 refine bv rfl (v_bin rfl rfl b_neq) ?_
 refine b_fin hK (s' := ⟨[(2, HV.fptr [slE eStr p0.1, slE eStr p0.2] 0), (3, HV.fptr [HV.int .i64 p1.1, HV.int .i64 p1.2.1, slE eFromLabelTo p1.2.2] 0), (15, HV.bool (decide (p1.1 ≠ 2)))], []⟩) (le_q rfl rfl) ?_
 clear hK K
 refine AW.cond rfl (fun hc => ?_) (fun hc => ?_)
 ·have hc := of_decide_eq_true hc
  have h := ifT hc h
  refine AW.rgs rfl fun K hK => ?_
  refine mv rfl rfl ?_
  refine b_fin hK (s' := ⟨[(4, HV.int .i64 12)], []⟩) (le_q rfl rfl) ?_
  clear hK K
  refine AW.ret ?_
  have h := Option.some.inj h
  subst h
  exact ret_pure (hs := [HV.int .i64 12]) (q := HV.int .i64 12) (.inr rfl) (resT rfl rfl) rfl trivial
 have hc := of_decide_eq_false hc
 have h := ifF hc h
 refine AW.skip ?_
 refine AW.seq ?_
 refine AW.rgs rfl fun K hK => ?_
 refine bv rfl (v_loadF ty24 rfl (l_litA rfl (Nat.le_of_ble_eq_true rfl) rfl)) ?_
 obtain ⟨x3, h4, h⟩ := bS h
 refine b_op rfl (o_call rfl rfl rfl rfl (ACallD.pure0 (w_merging_form h4)) ?_)
 refine mv rfl rfl ?_
 refine b_fin hK (s' := ⟨[(2, HV.fptr [slE eStr p0.1, slE eStr p0.2] 0), (3, HV.fptr [HV.int .i64 p1.1, HV.int .i64 p1.2.1, slE eFromLabelTo p1.2.2] 0), (5, HV.int .i64 x3)], []⟩) (le_q rfl rfl) ?_
 clear hK K
 refine AW.rgs rfl fun K hK => ?_
 refine mv rfl rfl ?_
 refine bv rfl (v_bin rfl rfl b_neq) ?_
 refine b_fin hK (s' := ⟨[(2, HV.fptr [slE eStr p0.1, slE eStr p0.2] 0), (3, HV.fptr [HV.int .i64 p1.1, HV.int .i64 p1.2.1, slE eFromLabelTo p1.2.2] 0), (5, HV.int .i64 x3), (19, HV.bool (decide (x3 ≠ 0)))], []⟩) (le_q rfl rfl) ?_
 clear hK K
 refine AW.cond rfl (fun hc => ?_) (fun hc => ?_)
 ·have hc := of_decide_eq_true hc
  have h := ifT hc h
  refine AW.rgs rfl fun K hK => ?_
  refine mv rfl rfl ?_
  refine mv rfl rfl ?_
  refine b_fin hK (s' := ⟨[(4, HV.int .i64 x3)], []⟩) (le_q rfl rfl) ?_
  clear hK K
  refine AW.ret ?_
  have h := Option.some.inj h
  subst h
  exact ret_pure (hs := [HV.int .i64 x3]) (q := HV.int .i64 x3) (.inr rfl) (resT rfl rfl) rfl trivial
 have hc := of_decide_eq_false hc
 have h := ifF hc h
 refine AW.skip ?_
 refine AW.seq ?_
 refine AW.rgs rfl fun K hK => ?_
 refine bv rfl (v_fieldAddrF fo24_0 rfl) ?_
 refine bv rfl (v_loadF ty22 rfl (l_lit rfl rfl)) ?_
 refine bv rfl (v_func rfl rfl) ?_
 obtain ⟨x5, h6, h⟩ := bS h
 refine b_op rfl (o_call rfl rfl rfl rfl (ACallD.pure0 (w_slices_ContainsFunc_Lstring_stringG h6 (fun _ _ h => w_merging_Check_1 h))) ?_)
 refine b_fin hK (s' := ⟨[(2, HV.fptr [slE eStr p0.1, slE eStr p0.2] 0), (3, HV.fptr [HV.int .i64 p1.1, HV.int .i64 p1.2.1, slE eFromLabelTo p1.2.2] 0), (24, HV.bool x5)], []⟩) (le_q rfl rfl) ?_
 clear hK K
 refine AW.cond rfl (fun hc => ?_) (fun hc => ?_)
 ·have h := ifT hc h
  refine AW.rgs rfl fun K hK => ?_
  refine mv rfl rfl ?_
  refine b_fin hK (s' := ⟨[(4, HV.int .i64 13)], []⟩) (le_q rfl rfl) ?_
  clear hK K
  refine AW.ret ?_
  have h := Option.some.inj h
  subst h
  exact ret_pure (hs := [HV.int .i64 13]) (q := HV.int .i64 13) (.inr rfl) (resT rfl rfl) rfl trivial
 have h := ifF (bF' hc) h
 refine AW.skip ?_
 refine AW.seq ?_
 refine AW.rgs rfl fun K hK => ?_
 refine bv rfl (v_fieldAddrF fo24_0 rfl) ?_
 refine bv rfl (v_loadF ty22 rfl (l_lit rfl rfl)) ?_
 refine bv rfl (v_lenF rfl rfl ty22 rfl) ?_
 refine mv rfl rfl ?_
 refine b_fin hK (s' := ⟨[(2, HV.fptr [slE eStr p0.1, slE eStr p0.2] 0), (3, HV.fptr [HV.int .i64 p1.1, HV.int .i64 p1.2.1, slE eFromLabelTo p1.2.2] 0), (26, slE eStr p0.1), (27, HV.int .i64 ((p0.1).length : Int)), (28, HV.int .i64 0)], []⟩) (le_q rfl rfl) ?_
 clear hK K
 refine AW.lpR h (by first | exact up_then | exact up_to) (S := Int) (V := Unit) (fun a v => ⟨[(2, HV.fptr [slE eStr p0.1, slE eStr p0.2] 0), (3, HV.fptr [HV.int .i64 p1.1, HV.int .i64 p1.2.1, slE eFromLabelTo p1.2.2] 0), (26, slE eStr p0.1), (27, HV.int .i64 ((p0.1).length : Int)), (28, HV.int .i64 a)], []⟩) ?_ (X := Unit) (W := Unit) (fun a v => ⟨[], []⟩) (fun a23 w24 h => ?_) (fun a7 w8 st9 h hr10=> ?_)
 ·exact to_le (s' := ⟨[(2, HV.fptr [slE eStr p0.1, slE eStr p0.2] 0), (3, HV.fptr [HV.int .i64 p1.1, HV.int .i64 p1.2.1, slE eFromLabelTo p1.2.2] 0), (26, slE eStr p0.1), (27, HV.int .i64 ((p0.1).length : Int)), (28, HV.int .i64 0)], []⟩) (AS.le_of ⟨rfl, rfl, rfl, rfl, rfl, trivial⟩ trivial) ⟨(), rfl⟩
 ·refine AW.rgs rfl fun K hK => ?_
  refine mv rfl rfl ?_
  refine b_fin hK (s' := ⟨[(4, HV.int .i64 0)], []⟩) (le_q rfl rfl) ?_
  clear hK K
  refine AW.ret ?_
  have h := Option.some.inj h
  subst h
  exact ret_pure (hs := [HV.int .i64 0]) (q := HV.int .i64 0) (.inr rfl) (resT rfl rfl) rfl trivial
 refine AW.rgs rfl fun K hK => ?_
 refine bv rfl (v_bin rfl rfl b_lss) ?_
 refine b_fin hK (s' := ⟨[(2, HV.fptr [slE eStr p0.1, slE eStr p0.2] 0), (3, HV.fptr [HV.int .i64 p1.1, HV.int .i64 p1.2.1, slE eFromLabelTo p1.2.2] 0), (26, slE eStr p0.1), (27, HV.int .i64 ((p0.1).length : Int)), (28, HV.int .i64 a7), (29, HV.bool (decide (a7 < ((p0.1).length : Int))))], []⟩) (le_q rfl rfl) ?_
 clear hK K
 refine AW.cseq rfl (fun hc => ?_) (fun hc => ?_)
 ·have hc := of_decide_eq_true hc
  have h := ifT hc h
  refine AW.skip ?_
  refine AW.seq (AW.block ?_)
  refine AW.rgs rfl fun K hK => ?_
  obtain ⟨x11, h12, h⟩ := bS h
  refine bv rfl (v_idxF ty22 es22 rfl rfl (idx_lt h12)) ?_
  refine bv rfl (v_loadF ty9 rfl (l_cell eStr h12 (o := 0) rfl rfl)) ?_
  refine mv rfl rfl ?_
  refine b_fin hK (s' := ⟨[(2, HV.fptr [slE eStr p0.1, slE eStr p0.2] 0), (3, HV.fptr [HV.int .i64 p1.1, HV.int .i64 p1.2.1, slE eFromLabelTo p1.2.2] 0), (7, HV.str x11), (26, slE eStr p0.1), (27, HV.int .i64 ((p0.1).length : Int)), (28, HV.int .i64 a7)], []⟩) (le_q rfl rfl) ?_
  clear hK K
  refine AW.rgs rfl fun K hK => ?_
  refine bv rfl (v_fieldAddrF fo24_0 rfl) ?_
  refine bv rfl (v_loadF ty22 rfl (l_lit rfl rfl)) ?_
  refine bv rfl (v_lenF rfl rfl ty22 rfl) ?_
  refine mv rfl rfl ?_
  refine b_fin hK (s' := ⟨[(2, HV.fptr [slE eStr p0.1, slE eStr p0.2] 0), (3, HV.fptr [HV.int .i64 p1.1, HV.int .i64 p1.2.1, slE eFromLabelTo p1.2.2] 0), (7, HV.str x11), (26, slE eStr p0.1), (27, HV.int .i64 ((p0.1).length : Int)), (28, HV.int .i64 a7), (33, slE eStr p0.1), (34, HV.int .i64 ((p0.1).length : Int)), (35, HV.int .i64 0)], []⟩) (le_q rfl rfl) ?_
  clear hK K
  refine AW.lpR h (by first | exact up_then | exact up_to) (S := Int) (V := Unit) (fun a v => ⟨[(2, HV.fptr [slE eStr p0.1, slE eStr p0.2] 0), (3, HV.fptr [HV.int .i64 p1.1, HV.int .i64 p1.2.1, slE eFromLabelTo p1.2.2] 0), (7, HV.str x11), (26, slE eStr p0.1), (27, HV.int .i64 ((p0.1).length : Int)), (28, HV.int .i64 a7), (33, slE eStr p0.1), (34, HV.int .i64 ((p0.1).length : Int)), (35, HV.int .i64 a)], []⟩) ?_ (X := Unit) (W := Unit) (fun a v => ⟨[(2, HV.fptr [slE eStr p0.1, slE eStr p0.2] 0), (3, HV.fptr [HV.int .i64 p1.1, HV.int .i64 p1.2.1, slE eFromLabelTo p1.2.2] 0), (26, slE eStr p0.1), (27, HV.int .i64 ((p0.1).length : Int)), (28, HV.int .i64 a7)], []⟩) (fun a21 w22 h => ?_) (fun a13 w14 st15 h hr16=> ?_)
  ·exact to_le (s' := ⟨[(2, HV.fptr [slE eStr p0.1, slE eStr p0.2] 0), (3, HV.fptr [HV.int .i64 p1.1, HV.int .i64 p1.2.1, slE eFromLabelTo p1.2.2] 0), (7, HV.str x11), (26, slE eStr p0.1), (27, HV.int .i64 ((p0.1).length : Int)), (28, HV.int .i64 a7), (33, slE eStr p0.1), (34, HV.int .i64 ((p0.1).length : Int)), (35, HV.int .i64 0)], []⟩) (AS.le_of ⟨rfl, rfl, rfl, rfl, rfl, rfl, rfl, rfl, rfl, trivial⟩ trivial) ⟨(), rfl⟩
  ·refine AW.rg rfl fun K hK => ?_
   refine bv rfl (v_bin rfl rfl b_add) ?_
   refine mv rfl rfl ?_
   refine b_nil (hK _ ?_)
   clear hK K
   exact to_le (s' := ⟨[(2, HV.fptr [slE eStr p0.1, slE eStr p0.2] 0), (3, HV.fptr [HV.int .i64 p1.1, HV.int .i64 p1.2.1, slE eFromLabelTo p1.2.2] 0), (26, slE eStr p0.1), (27, HV.int .i64 ((p0.1).length : Int)), (28, HV.int .i64 (IntKind.wrap .i64 (a7 + 1)))], []⟩) (AS.le_of ⟨rfl, rfl, rfl, rfl, rfl, trivial⟩ trivial) ⟨IntKind.wrap .i64 (a7 + 1), (), h, rfl⟩
  refine AW.rgs rfl fun K hK => ?_
  refine bv rfl (v_bin rfl rfl b_lss) ?_
  refine b_fin hK (s' := ⟨[(2, HV.fptr [slE eStr p0.1, slE eStr p0.2] 0), (3, HV.fptr [HV.int .i64 p1.1, HV.int .i64 p1.2.1, slE eFromLabelTo p1.2.2] 0), (7, HV.str x11), (26, slE eStr p0.1), (27, HV.int .i64 ((p0.1).length : Int)), (28, HV.int .i64 a7), (33, slE eStr p0.1), (34, HV.int .i64 ((p0.1).length : Int)), (35, HV.int .i64 a13), (36, HV.bool (decide (a13 < ((p0.1).length : Int))))], []⟩) (le_q rfl rfl) ?_
  clear hK K
  refine AW.cseq rfl (fun hc => ?_) (fun hc => ?_)
  ·have hc := of_decide_eq_true hc
   have h := ifT hc h
   refine AW.skip ?_
   refine AW.seq (AW.block ?_)
   refine AW.rgs rfl fun K hK => ?_
   obtain ⟨x17, h18, h⟩ := bS h
   refine bv rfl (v_idxF ty22 es22 rfl rfl (idx_lt h18)) ?_
   refine bv rfl (v_loadF ty9 rfl (l_cell eStr h18 (o := 0) rfl rfl)) ?_
   refine mv rfl rfl ?_
   refine b_fin hK (s' := ⟨[(2, HV.fptr [slE eStr p0.1, slE eStr p0.2] 0), (3, HV.fptr [HV.int .i64 p1.1, HV.int .i64 p1.2.1, slE eFromLabelTo p1.2.2] 0), (7, HV.str x11), (9, HV.str x17), (26, slE eStr p0.1), (27, HV.int .i64 ((p0.1).length : Int)), (28, HV.int .i64 a7), (33, slE eStr p0.1), (34, HV.int .i64 ((p0.1).length : Int)), (35, HV.int .i64 a13)], []⟩) (le_q rfl rfl) ?_
   clear hK K
   refine AW.rgs rfl fun K hK => ?_
   refine bv rfl (v_loadF ty27 rfl (l_litA rfl (Nat.le_of_ble_eq_true rfl) rfl)) ?_
   refine bv rfl (v_fieldAddrF fo24_1 rfl) ?_
   refine bv rfl (v_loadF ty22 rfl (l_lit rfl rfl)) ?_
   refine mv rfl rfl ?_
   refine mv rfl rfl ?_
   obtain ⟨x19, h20, h⟩ := bS h
   refine b_op rfl (o_call rfl rfl rfl rfl (ACallD.pure0 (w_merging_joins h20)) ?_)
   refine bv rfl (v_not rfl) ?_
   refine b_fin hK (s' := ⟨[(2, HV.fptr [slE eStr p0.1, slE eStr p0.2] 0), (3, HV.fptr [HV.int .i64 p1.1, HV.int .i64 p1.2.1, slE eFromLabelTo p1.2.2] 0), (7, HV.str x11), (26, slE eStr p0.1), (27, HV.int .i64 ((p0.1).length : Int)), (28, HV.int .i64 a7), (33, slE eStr p0.1), (34, HV.int .i64 ((p0.1).length : Int)), (35, HV.int .i64 a13), (45, HV.bool (!x19))], []⟩) (le_q rfl rfl) ?_
   clear hK K
   refine AW.cond rfl (fun hc => ?_) (fun hc => ?_)
   ·have h := ifT hc h
    refine AW.rgs rfl fun K hK => ?_
    refine mv rfl rfl ?_
    refine b_fin hK (s' := ⟨[(4, HV.int .i64 15)], []⟩) (le_q rfl rfl) ?_
    clear hK K
    have h := hr16 _ h
    have h := hr10 _ h
    refine AW.ret ?_
    have h := Option.some.inj h
    subst h
    exact ret_pure (hs := [HV.int .i64 15]) (q := HV.int .i64 15) (.inr rfl) (resT rfl rfl) rfl trivial
   have h := ifF (bF' hc) h
   refine AW.skip ?_
   refine AW.rg rfl fun K hK => ?_
   refine bv rfl (v_bin rfl rfl b_add) ?_
   refine mv rfl rfl ?_
   refine b_nil (hK _ ?_)
   clear hK K
   exact to_le (s' := ⟨[(2, HV.fptr [slE eStr p0.1, slE eStr p0.2] 0), (3, HV.fptr [HV.int .i64 p1.1, HV.int .i64 p1.2.1, slE eFromLabelTo p1.2.2] 0), (7, HV.str x11), (26, slE eStr p0.1), (27, HV.int .i64 ((p0.1).length : Int)), (28, HV.int .i64 a7), (33, slE eStr p0.1), (34, HV.int .i64 ((p0.1).length : Int)), (35, HV.int .i64 (IntKind.wrap .i64 (a13 + 1)))], []⟩) (AS.le_of ⟨rfl, rfl, rfl, rfl, rfl, rfl, rfl, rfl, rfl, trivial⟩ trivial) ⟨IntKind.wrap .i64 (a13 + 1), (), h, rfl⟩
  have hc := of_decide_eq_false hc
  have h := ifF hc h
  refine AW.exit ?_
  exact to_le (s' := ⟨[(2, HV.fptr [slE eStr p0.1, slE eStr p0.2] 0), (3, HV.fptr [HV.int .i64 p1.1, HV.int .i64 p1.2.1, slE eFromLabelTo p1.2.2] 0), (26, slE eStr p0.1), (27, HV.int .i64 ((p0.1).length : Int)), (28, HV.int .i64 a7)], []⟩) (AS.le_of ⟨rfl, rfl, rfl, rfl, rfl, trivial⟩ trivial) ⟨(), (), h, rfl⟩
 have hc := of_decide_eq_false hc
 have h := ifF hc h
 refine AW.exit ?_
 exact to_le (s' := ⟨[], []⟩) (AS.le_of trivial trivial) ⟨(), (), h, rfl⟩

set_option maxHeartbeats 1600000 in
set_option maxRecDepth 100000 in
theorem w_slices_IndexFunc_Lint_int {p0 : List (Int)} {p1 : Int → Option (Bool)} {g1 : FuncId} {z1 : List HV} {r : Int} (h : m_slices_IndexFunc_Lint_int p0 p1 = some r) (hf1 : ∀ a0 b, p1 a0 = some b → Pure Tryz.prog g1 ([HV.int .i64 a0] ++ z1) (· = HV.bool b)) : Pure Tryz.prog 156 [slE eInt p0, HV.fn (.func g1) [] z1] (· = HV.int .i64 r) := by
 unfold m_slices_IndexFunc_Lint_int at h
 refine Pure.of_body Tryz.func156 rfl rfl (Nat.le_of_ble_eq_true rfl) fun hf => ?_
 unfold Tryz.f156
 dsimp only [enumS, Nat.reduceAdd]
 refine AW.rgs rfl fun K hK => ?_
 refine mv rfl rfl ?_
 refine b_fin hK (s' := ⟨[(0, slE eInt p0), (1, HV.fn (.func g1) [] z1)], []⟩) (le_q rfl rfl) ?_
 clear hK K
 refine AW.seq ?_
 refine AW.rgs rfl fun K hK => ?_
 refine mv rfl rfl ?_
 refine bv rfl (v_lenF rfl rfl ty31 rfl) ?_
 refine mv rfl rfl ?_
 refine b_fin hK (s' := ⟨[(0, slE eInt p0), (1, HV.fn (.func g1) [] z1), (7, HV.int .i64 ((p0).length : Int)), (8, HV.int .i64 0)], []⟩) (le_q rfl rfl) ?_
 clear hK K
 refine AW.lpR h (by first | exact up_then | exact up_to) (S := Int) (V := Unit) (fun a v => ⟨[(0, slE eInt p0), (1, HV.fn (.func g1) [] z1), (7, HV.int .i64 ((p0).length : Int)), (8, HV.int .i64 a)], []⟩) ?_ (X := Unit) (W := Unit) (fun a v => ⟨[], []⟩) (fun a9 w10 h => ?_) (fun a1 w2 st3 h hr4=> ?_)
 ·exact to_le (s' := ⟨[(0, slE eInt p0), (1, HV.fn (.func g1) [] z1), (7, HV.int .i64 ((p0).length : Int)), (8, HV.int .i64 0)], []⟩) (AS.le_of ⟨rfl, rfl, rfl, rfl, trivial⟩ trivial) ⟨(), rfl⟩
 ·refine AW.rgs rfl fun K hK => ?_
  refine mv rfl rfl ?_
  refine b_fin hK (s' := ⟨[(4, HV.int .i64 (-1))], []⟩) (le_q rfl rfl) ?_
  clear hK K
  refine AW.ret ?_
  have h := Option.some.inj h
  subst h
  exact ret_pure (hs := [HV.int .i64 (-1)]) (q := HV.int .i64 (-1)) (.inr rfl) (resT rfl rfl) rfl trivial
 refine AW.rgs rfl fun K hK => ?_
 refine bv rfl (v_bin rfl rfl b_lss) ?_
 refine b_fin hK (s' := ⟨[(0, slE eInt p0), (1, HV.fn (.func g1) [] z1), (7, HV.int .i64 ((p0).length : Int)), (8, HV.int .i64 a1), (9, HV.bool (decide (a1 < ((p0).length : Int))))], []⟩) (le_q rfl rfl) ?_
 clear hK K
 refine AW.cseq rfl (fun hc => ?_) (fun hc => ?_)
 ·have hc := of_decide_eq_true hc
  have h := ifT hc h
  refine AW.skip ?_
  refine AW.seq (AW.block ?_)
  refine AW.rgs rfl fun K hK => ?_
  refine mv rfl rfl ?_
  refine mv rfl rfl ?_
  refine b_fin hK (s' := ⟨[(0, slE eInt p0), (1, HV.fn (.func g1) [] z1), (5, HV.int .i64 a1), (7, HV.int .i64 ((p0).length : Int)), (8, HV.int .i64 a1)], []⟩) (le_q rfl rfl) ?_
  clear hK K
  refine AW.rgs rfl fun K hK => ?_
  refine mv rfl rfl ?_
  refine mv rfl rfl ?_
  refine mv rfl rfl ?_
  obtain ⟨x5, h6, h⟩ := bS h
  refine bv rfl (v_idxF ty31 es31 rfl rfl (idx_lt h6)) ?_
  refine bv rfl (v_loadF ty3 rfl (l_cell eInt h6 (o := 0) rfl rfl)) ?_
  obtain ⟨x7, h8, h⟩ := bS h
  refine b_op rfl (o_call rfl rfl rfl rfl (ACallD.pure0 (hf1 _ _ h8)) ?_)
  refine b_fin hK (s' := ⟨[(0, slE eInt p0), (1, HV.fn (.func g1) [] z1), (5, HV.int .i64 a1), (7, HV.int .i64 ((p0).length : Int)), (8, HV.int .i64 a1), (16, HV.bool x7)], []⟩) (le_q rfl rfl) ?_
  clear hK K
  refine AW.cond rfl (fun hc => ?_) (fun hc => ?_)
  ·have h := ifT hc h
   refine AW.rgs rfl fun K hK => ?_
   refine mv rfl rfl ?_
   refine mv rfl rfl ?_
   refine b_fin hK (s' := ⟨[(4, HV.int .i64 a1)], []⟩) (le_q rfl rfl) ?_
   clear hK K
   have h := hr4 _ h
   refine AW.ret ?_
   have h := Option.some.inj h
   subst h
   exact ret_pure (hs := [HV.int .i64 a1]) (q := HV.int .i64 a1) (.inr rfl) (resT rfl rfl) rfl trivial
  have h := ifF (bF' hc) h
  refine AW.skip ?_
  refine AW.rg rfl fun K hK => ?_
  refine bv rfl (v_bin rfl rfl b_add) ?_
  refine mv rfl rfl ?_
  refine b_nil (hK _ ?_)
  clear hK K
  exact to_le (s' := ⟨[(0, slE eInt p0), (1, HV.fn (.func g1) [] z1), (7, HV.int .i64 ((p0).length : Int)), (8, HV.int .i64 (IntKind.wrap .i64 (a1 + 1)))], []⟩) (AS.le_of ⟨rfl, rfl, rfl, rfl, trivial⟩ trivial) ⟨IntKind.wrap .i64 (a1 + 1), (), h, rfl⟩
 have hc := of_decide_eq_false hc
 have h := ifF hc h
 refine AW.exit ?_
 exact to_le (s' := ⟨[], []⟩) (AS.le_of trivial trivial) ⟨(), (), h, rfl⟩

set_option maxHeartbeats 1600000 in
set_option maxRecDepth 100000 in
theorem w_slices_ContainsFunc_Lint_int {p0 : List (Int)} {p1 : Int → Option (Bool)} {g1 : FuncId} {z1 : List HV} {r : Bool} (h : m_slices_ContainsFunc_Lint_int p0 p1 = some r) (hf1 : ∀ a0 b, p1 a0 = some b → Pure Tryz.prog g1 ([HV.int .i64 a0] ++ z1) (· = HV.bool b)) : Pure Tryz.prog 105 [slE eInt p0, HV.fn (.func g1) [] z1] (· = HV.bool r) := by
 unfold m_slices_ContainsFunc_Lint_int at h
 refine Pure.of_body Tryz.func105 rfl rfl (Nat.le_of_ble_eq_true rfl) fun hf => ?_
 unfold Tryz.f105
 dsimp only [enumS, Nat.reduceAdd]
 refine AW.rgs rfl fun K hK => ?_
 refine mv rfl rfl ?_
 refine b_fin hK (s' := ⟨[(0, slE eInt p0), (1, HV.fn (.func g1) [] z1)], []⟩) (le_q rfl rfl) ?_
 clear hK K
 refine AW.rgs rfl fun K hK => ?_
 refine mv rfl rfl ?_
 refine mv rfl rfl ?_
 obtain ⟨x1, h2, h⟩ := bS h
 refine b_op rfl (o_call rfl rfl rfl rfl (ACallD.pure0 (w_slices_IndexFunc_Lint_int h2 hf1)) ?_)
 refine bv rfl (v_bin rfl rfl b_geq) ?_
 refine mv rfl rfl ?_
 refine b_fin hK (s' := ⟨[(4, HV.bool (decide (0 ≤ x1)))], []⟩) (le_q rfl rfl) ?_
 clear hK K
 refine AW.ret ?_
 have h := Option.some.inj h
 subst h
 exact ret_pure (hs := [HV.bool (decide (0 ≤ x1))]) (q := HV.bool (decide (0 ≤ x1))) (.inr rfl) (resT rfl rfl) rfl trivial

set_option maxHeartbeats 1600000 in
set_option maxRecDepth 100000 in
theorem w_merging_inputs_1 {p0 : Int} {c0 : TWordsMerges} {r : Bool} (h : m_merging_inputs_1 p0 c0 = some r) : Pure Tryz.prog 106 [HV.int .i64 p0, HV.fptr [slE eStr c0.1, slE eStr c0.2] 0] (· = HV.bool r) := by
 unfold m_merging_inputs_1 at h
 refine Pure.of_body Tryz.func106 rfl rfl (Nat.le_of_ble_eq_true rfl) fun hf => ?_
 unfold Tryz.f106
 dsimp only [enumS, Nat.reduceAdd]
 refine AW.rgs rfl fun K hK => ?_
 refine mv rfl rfl ?_
 refine b_fin hK (s' := ⟨[(0, HV.int .i64 p0), (1, HV.fptr [slE eStr c0.1, slE eStr c0.2] 0)], []⟩) (le_q rfl rfl) ?_
 clear hK K
 refine AW.seqJ h (S := Bool) (V := Unit) (fun a v => ⟨[(3, HV.bool a)], []⟩) (fun a1 w2 h => ?_) (fun k3 h => ?_)
 ·refine AW.ret ?_
  have h := Option.some.inj h
  subst h
  exact ret_pure (hs := [HV.bool a1]) (q := HV.bool a1) (.inr rfl) (resT rfl rfl) rfl trivial
 refine AW.rg rfl fun K hK => ?_
 refine mv rfl rfl ?_
 refine bv rfl (v_bin rfl rfl b_lss) ?_
 refine mv rfl rfl ?_
 by_cases hg4 : p0 < 0
 ·have h := ifT hg4 h
  refine b_F rfl rfl rfl rfl rfl (decide_eq_true hg4) ?_
  refine b_F rfl rfl rfl rfl rfl rfl ?_
  refine b_F rfl rfl rfl rfl rfl rfl ?_
  refine b_F rfl rfl rfl rfl rfl rfl ?_
  refine b_F rfl rfl rfl rfl rfl rfl ?_
  refine bv rfl (v_pickT rfl rfl rfl) ?_
  refine mv rfl rfl ?_
  refine b_nil (hK _ ?_)
  clear hK K
  exact to_le (s' := ⟨[(3, HV.bool true)], []⟩) (AS.le_of ⟨rfl, trivial⟩ trivial) ⟨true, (), h, rfl⟩
 have h := ifF hg4 h
 refine b_T rfl rfl rfl rfl (decide_eq_false hg4) (o_val rfl (mv_val rfl rfl).2 ?_)
 refine b_T rfl rfl rfl rfl rfl (o_val rfl (v_fieldAddrF fo24_0 rfl) ?_)
 refine b_T rfl rfl rfl rfl rfl (o_val rfl (v_loadF ty22 rfl (l_lit rfl rfl)) ?_)
 refine b_T rfl rfl rfl rfl rfl (o_val rfl (v_lenF rfl rfl ty22 rfl) ?_)
 refine b_T rfl rfl rfl rfl rfl (o_val rfl (v_bin rfl rfl b_geq) ?_)
 refine bv rfl (v_pickF rfl rfl rfl) ?_
 refine mv rfl rfl ?_
 refine b_nil (hK _ ?_)
 clear hK K
 exact to_le (s' := ⟨[(3, HV.bool (decide (((c0.1).length : Int) ≤ p0)))], []⟩) (AS.le_of ⟨rfl, trivial⟩ trivial) ⟨decide (((c0.1).length : Int) ≤ p0), (), h, rfl⟩

set_option maxHeartbeats 1600000 in
set_option maxRecDepth 100000 in
theorem w_merging_inputs {p0 : TWordsMerges} {p1 : TLabelsStatesEdges} {p2 : List (Int)} {r : Int} (h : m_merging_inputs p0 p1 p2 = some r) : Pure Tryz.prog 52 [HV.agg [slE eStr p0.1, slE eStr p0.2], HV.agg [HV.int .i64 p1.1, HV.int .i64 p1.2.1, slE eFromLabelTo p1.2.2], slE eInt p2] (· = HV.int .i64 r) := by
 unfold m_merging_inputs at h
 refine Pure.of_body Tryz.func52 rfl rfl (Nat.le_of_ble_eq_true rfl) fun hf => ?_
 unfold Tryz.f52
 dsimp only [enumS, Nat.reduceAdd]
 refine AW.rgs rfl fun K hK => ?_
 refine b_op rfl (o_box rfl rfl rfl ?_)
 refine b_op rfl (o_box rfl rfl rfl ?_)
 refine mv rfl rfl ?_
 refine b_fin hK (s' := ⟨[(2, slE eInt p2), (3, HV.fptr [slE eStr p0.1, slE eStr p0.2] 0), (4, HV.fptr [HV.int .i64 p1.1, HV.int .i64 p1.2.1, slE eFromLabelTo p1.2.2] 0)], []⟩) (le_q rfl rfl) ?_
 clear hK K
 refine AW.seq ?_
 refine AW.rgs rfl fun K hK => ?_
 refine bv rfl (v_loadF ty24 rfl (l_litA rfl (Nat.le_of_ble_eq_true rfl) rfl)) ?_
 refine bv rfl (v_loadF ty27 rfl (l_litA rfl (Nat.le_of_ble_eq_true rfl) rfl)) ?_
 obtain ⟨x1, h2, h⟩ := bS h
 refine b_op rfl (o_call rfl rfl rfl rfl (ACallD.pure0 (w_merging_Check h2)) ?_)
 refine bv rfl (v_bin rfl rfl b_neq) ?_
 refine b_fin hK (s' := ⟨[(2, slE eInt p2), (3, HV.fptr [slE eStr p0.1, slE eStr p0.2] 0), (10, HV.bool (decide (x1 ≠ 0)))], []⟩) (le_q rfl rfl) ?_
 clear hK K
 refine AW.cond rfl (fun hc => ?_) (fun hc => ?_)
 ·have hc := of_decide_eq_true hc
  have h := ifT hc h
  refine AW.rgs rfl fun K hK => ?_
  refine mv rfl rfl ?_
  refine b_fin hK (s' := ⟨[(6, HV.int .i64 1)], []⟩) (le_q rfl rfl) ?_
  clear hK K
  refine AW.ret ?_
  have h := Option.some.inj h
  subst h
  exact ret_pure (hs := [HV.int .i64 1]) (q := HV.int .i64 1) (.inr rfl) (resT rfl rfl) rfl trivial
 have hc := of_decide_eq_false hc
 have h := ifF hc h
 refine AW.skip ?_
 refine AW.seq ?_
 refine AW.rgs rfl fun K hK => ?_
 refine mv rfl rfl ?_
 refine bv rfl (v_func rfl rfl) ?_
 obtain ⟨x3, h4, h⟩ := bS h
 refine b_op rfl (o_call rfl rfl rfl rfl (ACallD.pure0 (w_slices_ContainsFunc_Lint_int h4 (fun _ _ h => w_merging_inputs_1 h))) ?_)
 refine b_fin hK (s' := ⟨[(13, HV.bool x3)], []⟩) (le_q rfl rfl) ?_
 clear hK K
 refine AW.cond rfl (fun hc => ?_) (fun hc => ?_)
 ·have h := ifT hc h
  refine AW.rgs rfl fun K hK => ?_
  refine mv rfl rfl ?_
  refine b_fin hK (s' := ⟨[(6, HV.int .i64 2)], []⟩) (le_q rfl rfl) ?_
  clear hK K
  refine AW.ret ?_
  have h := Option.some.inj h
  subst h
  exact ret_pure (hs := [HV.int .i64 2]) (q := HV.int .i64 2) (.inr rfl) (resT rfl rfl) rfl trivial
 have h := ifF (bF' hc) h
 refine AW.skip ?_
 refine AW.rgs rfl fun K hK => ?_
 refine mv rfl rfl ?_
 refine b_fin hK (s' := ⟨[(6, HV.int .i64 0)], []⟩) (le_q rfl rfl) ?_
 clear hK K
 refine AW.ret ?_
 have h := Option.some.inj h
 subst h
 exact ret_pure (hs := [HV.int .i64 0]) (q := HV.int .i64 0) (.inr rfl) (resT rfl rfl) rfl trivial

set_option maxHeartbeats 1600000 in
set_option maxRecDepth 100000 in
theorem w_runs_Disparity {p0 : List UInt8} {r : Int × Int} (h : m_runs_Disparity p0 = some r) : Pure Tryz.prog 63 [HV.str p0] (· = HV.tup [HV.int .i64 r.1, HV.int .i64 r.2]) := by
 unfold m_runs_Disparity at h
 refine Pure.of_body Tryz.func63 rfl rfl (Nat.le_of_ble_eq_true rfl) fun hf => ?_
 unfold Tryz.f63
 dsimp only [enumS, Nat.reduceAdd]
 refine AW.rgs rfl fun K hK => ?_
 refine mv rfl rfl ?_
 refine mv rfl rfl ?_
 refine b_fin hK (s' := ⟨[(0, HV.str p0)], []⟩) (le_q rfl rfl) ?_
 clear hK K
 refine AW.seq ?_
 refine AW.rgs rfl fun K hK => ?_
 refine mv rfl rfl ?_
 obtain ⟨x1, h2, h⟩ := bS h
 refine b_op rfl (o_call rfl rfl rfl rfl (ACallD.pure0 (w_word_Check h2)) ?_)
 refine mv rfl rfl ?_
 refine b_fin hK (s' := ⟨[(0, HV.str p0), (4, HV.int .i64 x1)], []⟩) (le_q rfl rfl) ?_
 clear hK K
 refine AW.rgs rfl fun K hK => ?_
 refine mv rfl rfl ?_
 refine bv rfl (v_bin rfl rfl b_neq) ?_
 refine b_fin hK (s' := ⟨[(0, HV.str p0), (4, HV.int .i64 x1), (8, HV.bool (decide (x1 ≠ 0)))], []⟩) (le_q rfl rfl) ?_
 clear hK K
 refine AW.cond rfl (fun hc => ?_) (fun hc => ?_)
 ·have hc := of_decide_eq_true hc
  have h := ifT hc h
  refine AW.rgs rfl fun K hK => ?_
  refine mv rfl rfl ?_
  refine mv rfl rfl ?_
  refine mv rfl rfl ?_
  refine b_fin hK (s' := ⟨[(2, HV.int .i64 0), (3, HV.int .i64 x1)], []⟩) (le_q rfl rfl) ?_
  clear hK K
  refine AW.ret ?_
  have h := Option.some.inj h
  subst h
  exact ret_pure (hs := [HV.int .i64 0, HV.int .i64 x1]) (q := HV.tup [HV.int .i64 0, HV.int .i64 x1]) (.inr rfl) (resT rfl (resT rfl rfl)) rfl ⟨trivial, trivial, trivial⟩
 have hc := of_decide_eq_false hc
 have h := ifF hc h
 refine AW.skip ?_
 refine AW.rgs rfl fun K hK => ?_
 refine mv rfl rfl ?_
 obtain ⟨x3, h4, h⟩ := bS h
 refine b_op rfl (o_call rfl rfl rfl rfl (ACallD.pure0 (w_strings_Count h4)) ?_)
 refine bv rfl (v_bin rfl rfl b_mul) ?_
 refine mv rfl rfl ?_
 refine bv rfl (v_lenS rfl rfl ty9 rfl) ?_
 refine bv rfl (v_bin rfl rfl b_sub) ?_
 refine mv rfl rfl ?_
 refine mv rfl rfl ?_
 refine b_fin hK (s' := ⟨[(2, HV.int .i64 (IntKind.wrap .i64 ((IntKind.wrap .i64 (2 * x3)) - ((p0).length : Int)))), (3, HV.int .i64 0)], []⟩) (le_q rfl rfl) ?_
 clear hK K
 refine AW.ret ?_
 have h := Option.some.inj h
 subst h
 exact ret_pure (hs := [HV.int .i64 (IntKind.wrap .i64 ((IntKind.wrap .i64 (2 * x3)) - ((p0).length : Int))), HV.int .i64 0]) (q := HV.tup [HV.int .i64 (IntKind.wrap .i64 ((IntKind.wrap .i64 (2 * x3)) - ((p0).length : Int))), HV.int .i64 0]) (.inr rfl) (resT rfl (resT rfl rfl)) rfl ⟨trivial, trivial, trivial⟩

set_option maxHeartbeats 1600000 in
set_option maxRecDepth 100000 in
theorem w_merging_weight {p0 : List UInt8} {r : Int} (h : m_merging_weight p0 = some r) : Pure Tryz.prog 55 [HV.str p0] (· = HV.int .i64 r) := by
 unfold m_merging_weight at h
 refine Pure.of_body Tryz.func55 rfl rfl (Nat.le_of_ble_eq_true rfl) fun hf => ?_
 unfold Tryz.f55
 dsimp only [enumS, Nat.reduceAdd]
 refine AW.rgs rfl fun K hK => ?_
 refine mv rfl rfl ?_
 refine b_fin hK (s' := ⟨[(0, HV.str p0)], []⟩) (le_q rfl rfl) ?_
 clear hK K
 refine AW.rgs rfl fun K hK => ?_
 refine mv rfl rfl ?_
 obtain ⟨x1, h2, h⟩ := bS h
 refine b_op rfl (o_call rfl rfl rfl rfl (ACallD.pure0 (w_runs_Disparity h2)) ?_)
 refine mv rfl rfl ?_
 refine bv rfl (v_extract rfl rfl) ?_
 refine bv rfl (v_extract rfl rfl) ?_
 refine mv rfl rfl ?_
 refine mv rfl rfl ?_
 refine b_fin hK (s' := ⟨[(3, HV.int .i64 x1.1)], []⟩) (le_q rfl rfl) ?_
 clear hK K
 refine AW.rgs rfl fun K hK => ?_
 refine mv rfl rfl ?_
 refine mv rfl rfl ?_
 refine b_fin hK (s' := ⟨[(2, HV.int .i64 x1.1)], []⟩) (le_q rfl rfl) ?_
 clear hK K
 refine AW.ret ?_
 have h := Option.some.inj h
 subst h
 exact ret_pure (hs := [HV.int .i64 x1.1]) (q := HV.int .i64 x1.1) (.inr rfl) (resT rfl rfl) rfl trivial

set_option maxHeartbeats 1600000 in
set_option maxRecDepth 100000 in
theorem w_merging_step {p0 : TLabelsStatesEdges} {p1 : List (Int)} {p2 : List UInt8} {r : (List (Int))} (h : m_merging_step p0 p1 p2 = some r) : Pure Tryz.prog 56 [HV.agg [HV.int .i64 p0.1, HV.int .i64 p0.2.1, slE eFromLabelTo p0.2.2], slE eInt p1, HV.str p2] (· = slE eInt r) := by
 unfold m_merging_step at h
 refine Pure.of_body Tryz.func56 rfl rfl (Nat.le_of_ble_eq_true rfl) fun hf => ?_
 unfold Tryz.f56
 dsimp only [enumS, Nat.reduceAdd]
 refine AW.rgs rfl fun K hK => ?_
 refine b_op rfl (o_box rfl rfl rfl ?_)
 refine mv rfl rfl ?_
 refine b_fin hK (s' := ⟨[(1, slE eInt p1), (2, HV.str p2), (3, HV.fptr [HV.int .i64 p0.1, HV.int .i64 p0.2.1, slE eFromLabelTo p0.2.2] 0)], []⟩) (le_q rfl rfl) ?_
 clear hK K
 refine AW.seq ?_
 refine AW.rgs rfl fun K hK => ?_
 refine mv rfl rfl ?_
 refine bv rfl (v_lenS rfl rfl ty9 rfl) ?_
 refine mv rfl rfl ?_
 refine b_fin hK (s' := ⟨[(1, slE eInt p1), (2, HV.str p2), (3, HV.fptr [HV.int .i64 p0.1, HV.int .i64 p0.2.1, slE eFromLabelTo p0.2.2] 0), (9, HV.int .i64 ((p2).length : Int)), (10, HV.int .i64 0)], []⟩) (le_q rfl rfl) ?_
 clear hK K
 refine AW.lpX h (by first | exact up_then | exact up_to) (S := (List Int) × Int) (V := Unit) (fun a v => ⟨[(1, slE eInt a.1), (2, HV.str p2), (3, HV.fptr [HV.int .i64 p0.1, HV.int .i64 p0.2.1, slE eFromLabelTo p0.2.2] 0), (9, HV.int .i64 ((p2).length : Int)), (10, HV.int .i64 a.2)], []⟩) ?_ (X := (List Int)) (W := Unit) (fun a v => ⟨[(1, slE eInt a)], []⟩) (fun a11 w12 h => ?_) (fun a1 w2 st3 h => ?_)
 ·exact to_le (s' := ⟨[(1, slE eInt p1), (2, HV.str p2), (3, HV.fptr [HV.int .i64 p0.1, HV.int .i64 p0.2.1, slE eFromLabelTo p0.2.2] 0), (9, HV.int .i64 ((p2).length : Int)), (10, HV.int .i64 0)], []⟩) (AS.le_of ⟨rfl, rfl, rfl, rfl, rfl, trivial⟩ trivial) ⟨(), rfl⟩
 ·refine AW.rgs rfl fun K hK => ?_
  refine mv rfl rfl ?_
  refine mv rfl rfl ?_
  refine b_fin hK (s' := ⟨[(6, slE eInt a11)], []⟩) (le_q rfl rfl) ?_
  clear hK K
  refine AW.ret ?_
  have h := Option.some.inj h
  subst h
  exact ret_pure (hs := [slE eInt a11]) (q := slE eInt a11) (.inr rfl) (resT rfl rfl) rfl (clean_slE fun _ _ => ⟨trivial, trivial⟩)
 refine AW.rgs rfl fun K hK => ?_
 refine bv rfl (v_bin rfl rfl b_lss) ?_
 refine b_fin hK (s' := ⟨[(1, slE eInt a1.1), (2, HV.str p2), (3, HV.fptr [HV.int .i64 p0.1, HV.int .i64 p0.2.1, slE eFromLabelTo p0.2.2] 0), (9, HV.int .i64 ((p2).length : Int)), (10, HV.int .i64 a1.2), (11, HV.bool (decide (a1.2 < ((p2).length : Int))))], []⟩) (le_q rfl rfl) ?_
 clear hK K
 refine AW.cseq rfl (fun hc => ?_) (fun hc => ?_)
 ·have hc := of_decide_eq_true hc
  have h := ifT hc h
  refine AW.skip ?_
  refine AW.seq (AW.block ?_)
  refine AW.rgs rfl fun K hK => ?_
  refine mv rfl rfl ?_
  refine mv rfl rfl ?_
  refine b_fin hK (s' := ⟨[(1, slE eInt a1.1), (2, HV.str p2), (3, HV.fptr [HV.int .i64 p0.1, HV.int .i64 p0.2.1, slE eFromLabelTo p0.2.2] 0), (7, HV.int .i64 a1.2), (9, HV.int .i64 ((p2).length : Int)), (10, HV.int .i64 a1.2)], []⟩) (le_q rfl rfl) ?_
  clear hK K
  refine AW.dg 11 follows rfl rfl fun K hK => ?_
  refine sv rfl (v_loadF ty27 rfl (l_litA rfl (Nat.le_of_ble_eq_true rfl) rfl)) ?_
  refine sm rfl rfl ?_
  refine sm rfl rfl ?_
  refine sm rfl rfl ?_
  obtain ⟨x5, h6, h⟩ := bS h
  refine sv rfl (v_idxS ty9 rfl rfl h6) ?_
  obtain ⟨x7, h8, h⟩ := bS h
  refine s_op rfl rfl (ops_call rfl rfl rfl rfl (ACallD.pure0 (w_strings_IndexByte h8)) ?_)
  obtain ⟨x9, h10, h⟩ := bS h
  refine s_op rfl rfl (ops_call rfl rfl rfl rfl (ACallD.pure0 (w_graph_Step h10)) ?_)
  refine sm rfl rfl ?_
  refine sv rfl (v_extract rfl rfl) ?_
  refine sv rfl (v_extract rfl rfl) ?_
  refine sm rfl rfl ?_
  refine s_nil ?_
  refine b_fin hK (s' := ⟨[(1, slE eInt x9.1), (2, HV.str p2), (3, HV.fptr [HV.int .i64 p0.1, HV.int .i64 p0.2.1, slE eFromLabelTo p0.2.2] 0), (9, HV.int .i64 ((p2).length : Int)), (10, HV.int .i64 a1.2)], []⟩) (le_q rfl rfl) ?_
  clear hK K
  refine AW.rg rfl fun K hK => ?_
  refine bv rfl (v_bin rfl rfl b_add) ?_
  refine mv rfl rfl ?_
  refine b_nil (hK _ ?_)
  clear hK K
  exact to_le (s' := ⟨[(1, slE eInt x9.1), (2, HV.str p2), (3, HV.fptr [HV.int .i64 p0.1, HV.int .i64 p0.2.1, slE eFromLabelTo p0.2.2] 0), (9, HV.int .i64 ((p2).length : Int)), (10, HV.int .i64 (IntKind.wrap .i64 (a1.2 + 1)))], []⟩) (AS.le_of ⟨rfl, rfl, rfl, rfl, rfl, trivial⟩ trivial) ⟨(x9.1, IntKind.wrap .i64 (a1.2 + 1)), (), h, rfl⟩
 have hc := of_decide_eq_false hc
 have h := ifF hc h
 refine AW.exit ?_
 exact to_le (s' := ⟨[(1, slE eInt a1.1)], []⟩) (AS.le_of ⟨rfl, trivial⟩ trivial) ⟨a1.1, (), h, rfl⟩

end Go.AW

namespace Go.AW
open Go Go.Proofs
set_option linter.unusedVariables false
end Go.AW

namespace Go.AW
open Go Go.Proofs
set_option linter.unusedVariables false
set_option maxHeartbeats 1600000 in
set_option maxRecDepth 100000 in
theorem w_merging_Encode {p0 : TWordsMerges} {p1 : TLabelsStatesEdges} {p2 : List (Int)} {r : (List UInt8) × Int} (h : m_merging_Encode p0 p1 p2 = some r) : Pure Tryz.prog 15 [HV.agg [slE eStr p0.1, slE eStr p0.2], HV.agg [HV.int .i64 p1.1, HV.int .i64 p1.2.1, slE eFromLabelTo p1.2.2], slE eInt p2] (· = HV.tup [HV.str r.1, HV.int .i64 r.2]) := by
 unfold m_merging_Encode at h
 refine Pure.of_body Tryz.func15 rfl rfl (Nat.le_of_ble_eq_true rfl) fun hf => ?_
 unfold Tryz.f15
 dsimp only [enumS, Nat.reduceAdd]
 refine AW.rgs rfl fun K hK => ?_
 refine b_op rfl (o_box rfl rfl rfl ?_)
 refine b_op rfl (o_box rfl rfl rfl ?_)
 refine mv rfl rfl ?_
 refine mv rfl rfl ?_
 refine b_fin hK (s' := ⟨[(2, slE eInt p2), (3, HV.fptr [slE eStr p0.1, slE eStr p0.2] 0), (4, HV.fptr [HV.int .i64 p1.1, HV.int .i64 p1.2.1, slE eFromLabelTo p1.2.2] 0)], []⟩) (le_q rfl rfl) ?_
 clear hK K
 refine AW.seq ?_
 refine AW.rgs rfl fun K hK => ?_
 refine bv rfl (v_loadF ty24 rfl (l_litA rfl (Nat.le_of_ble_eq_true rfl) rfl)) ?_
 refine bv rfl (v_loadF ty27 rfl (l_litA rfl (Nat.le_of_ble_eq_true rfl) rfl)) ?_
 refine mv rfl rfl ?_
 obtain ⟨x1, h2, h⟩ := bS h
 refine b_op rfl (o_call rfl rfl rfl rfl (ACallD.pure0 (w_merging_inputs h2)) ?_)
 refine mv rfl rfl ?_
 refine b_fin hK (s' := ⟨[(2, slE eInt p2), (3, HV.fptr [slE eStr p0.1, slE eStr p0.2] 0), (4, HV.fptr [HV.int .i64 p1.1, HV.int .i64 p1.2.1, slE eFromLabelTo p1.2.2] 0), (8, HV.int .i64 x1)], []⟩) (le_q rfl rfl) ?_
 clear hK K
 refine AW.rgs rfl fun K hK => ?_
 refine mv rfl rfl ?_
 refine bv rfl (v_bin rfl rfl b_neq) ?_
 refine b_fin hK (s' := ⟨[(2, slE eInt p2), (3, HV.fptr [slE eStr p0.1, slE eStr p0.2] 0), (4, HV.fptr [HV.int .i64 p1.1, HV.int .i64 p1.2.1, slE eFromLabelTo p1.2.2] 0), (8, HV.int .i64 x1), (25, HV.bool (decide (x1 ≠ 0)))], []⟩) (le_q rfl rfl) ?_
 clear hK K
 refine AW.cond rfl (fun hc => ?_) (fun hc => ?_)
 ·have hc := of_decide_eq_true hc
  have h := ifT hc h
  refine AW.rgs rfl fun K hK => ?_
  refine mv rfl rfl ?_
  refine mv rfl rfl ?_
  refine mv rfl rfl ?_
  refine b_fin hK (s' := ⟨[(6, HV.str ([] : List UInt8)), (7, HV.int .i64 x1)], []⟩) (le_q rfl rfl) ?_
  clear hK K
  refine AW.ret ?_
  have h := Option.some.inj h
  subst h
  exact ret_pure (hs := [HV.str ([] : List UInt8), HV.int .i64 x1]) (q := HV.tup [HV.str ([] : List UInt8), HV.int .i64 x1]) (.inr rfl) (resT rfl (resT rfl rfl)) rfl ⟨trivial, trivial, trivial⟩
 have hc := of_decide_eq_false hc
 have h := ifF hc h
 refine AW.skip ?_
 refine AW.seq ?_
 refine AW.rgs rfl fun K hK => ?_
 refine mv rfl rfl ?_
 refine bv rfl (v_lenF rfl rfl ty31 rfl) ?_
 refine bv rfl (v_bin rfl rfl b_eql) ?_
 refine b_fin hK (s' := ⟨[(2, slE eInt p2), (3, HV.fptr [slE eStr p0.1, slE eStr p0.2] 0), (4, HV.fptr [HV.int .i64 p1.1, HV.int .i64 p1.2.1, slE eFromLabelTo p1.2.2] 0), (29, HV.bool (decide (((p2).length : Int) = 0)))], []⟩) (le_q rfl rfl) ?_
 clear hK K
 refine AW.cond rfl (fun hc => ?_) (fun hc => ?_)
 ·have hc := of_decide_eq_true hc
  have h := ifT hc h
  refine AW.rgs rfl fun K hK => ?_
  refine mv rfl rfl ?_
  refine mv rfl rfl ?_
  refine b_fin hK (s' := ⟨[(6, HV.str ([] : List UInt8)), (7, HV.int .i64 0)], []⟩) (le_q rfl rfl) ?_
  clear hK K
  refine AW.ret ?_
  have h := Option.some.inj h
  subst h
  exact ret_pure (hs := [HV.str ([] : List UInt8), HV.int .i64 0]) (q := HV.tup [HV.str ([] : List UInt8), HV.int .i64 0]) (.inr rfl) (resT rfl (resT rfl rfl)) rfl ⟨trivial, trivial, trivial⟩
 have hc := of_decide_eq_false hc
 have h := ifF hc h
 refine AW.skip ?_
 refine AW.dgs 12 follows rfl rfl fun K hK => ?_
 refine sv rfl (v_fieldAddrF fo24_0 rfl) ?_
 refine sv rfl (v_loadF ty22 rfl (l_lit rfl rfl)) ?_
 obtain ⟨x3, h4, h⟩ := bS h
 refine sv rfl (v_idxF ty22 es22 rfl rfl (idx_lt h4)) ?_
 refine sv rfl (v_loadF ty9 rfl (l_cell eStr h4 (o := 0) rfl rfl)) ?_
 refine sv rfl (v_lenS rfl rfl ty9 rfl) ?_
 refine sv rfl (v_fieldAddrF fo24_1 rfl) ?_
 refine sv rfl (v_loadF ty22 rfl (l_lit rfl rfl)) ?_
 obtain ⟨x5, h6, h⟩ := bS h
 refine sv rfl (v_idxF ty22 es22 rfl rfl (idx_lt h6)) ?_
 refine sv rfl (v_loadF ty9 rfl (l_cell eStr h6 (o := 0) rfl rfl)) ?_
 refine sv rfl (v_lenS rfl rfl ty9 rfl) ?_
 refine sm rfl rfl ?_
 refine sm rfl rfl ?_
 refine s_nil ?_
 refine b_fin hK (s' := ⟨[(2, slE eInt p2), (3, HV.fptr [slE eStr p0.1, slE eStr p0.2] 0), (4, HV.fptr [HV.int .i64 p1.1, HV.int .i64 p1.2.1, slE eFromLabelTo p1.2.2] 0), (9, HV.int .i64 ((x3).length : Int)), (10, HV.int .i64 ((x5).length : Int))], []⟩) (le_q rfl rfl) ?_
 clear hK K
 refine AW.seq ?_
 refine AW.rgs rfl fun K hK => ?_
 refine mv rfl rfl ?_
 refine bv rfl (v_lenF rfl rfl ty31 rfl) ?_
 refine mv rfl rfl ?_
 refine bv rfl (v_bin rfl rfl b_add) ?_
 refine mv rfl rfl ?_
 refine mv rfl rfl ?_
 refine bv rfl (v_bin rfl rfl b_add) ?_
 obtain ⟨h7, h⟩ := ifN h
 refine bv rfl (v_bin rfl rfl (b_quo h7)) ?_
 refine bv rfl (v_bin rfl rfl b_gtr) ?_
 refine b_fin hK (s' := ⟨[(2, slE eInt p2), (3, HV.fptr [slE eStr p0.1, slE eStr p0.2] 0), (4, HV.fptr [HV.int .i64 p1.1, HV.int .i64 p1.2.1, slE eFromLabelTo p1.2.2] 0), (48, HV.bool (decide ((IntKind.wrap .i64 (Int.tdiv (IntKind.wrap .i64 (65536 + ((x5).length : Int))) (IntKind.wrap .i64 (((x3).length : Int) + ((x5).length : Int))))) < ((p2).length : Int))))], []⟩) (le_q rfl rfl) ?_
 clear hK K
 refine AW.cond rfl (fun hc => ?_) (fun hc => ?_)
 ·have hc := of_decide_eq_true hc
  have h := ifT hc h
  refine AW.rgs rfl fun K hK => ?_
  refine mv rfl rfl ?_
  refine mv rfl rfl ?_
  refine b_fin hK (s' := ⟨[(6, HV.str ([] : List UInt8)), (7, HV.int .i64 4)], []⟩) (le_q rfl rfl) ?_
  clear hK K
  refine AW.ret ?_
  have h := Option.some.inj h
  subst h
  exact ret_pure (hs := [HV.str ([] : List UInt8), HV.int .i64 4]) (q := HV.tup [HV.str ([] : List UInt8), HV.int .i64 4]) (.inr rfl) (resT rfl (resT rfl rfl)) rfl ⟨trivial, trivial, trivial⟩
 have hc := of_decide_eq_false hc
 have h := ifF hc h
 refine AW.skip ?_
 refine AW.rgs rfl fun K hK => ?_
 refine bv rfl (v_fieldAddrF fo27_1 rfl) ?_
 refine bv rfl (v_loadF ty3 rfl (l_lit rfl rfl)) ?_
 obtain ⟨h9, h⟩ := ifN h
 refine b_op rfl (o_makeE (fid := 15) eInt (0 : Int) 15051 rfl rfl ty31 rfl rfl ty3 rfl rfl h9 (fun v8 => ?_))
 refine b_op rfl (o_alloc (fid := 15) (zs := [HV.v (.slice none 0 0)]) 15011 rfl rfl ty31 rfl (fun v10 => ?_))
 refine b_op rfl (o_store (cs := [HV.ar 15051 v8 eInt.k 0 ((List.replicate (p1.2.1).toNat (0 : Int)).length)]) (zs := [HV.ar 15051 v8 eInt.k 0 ((List.replicate (p1.2.1).toNat (0 : Int)).length)]) rfl rfl rfl ty31 rfl rfl rfl rfl rfl ?_)
 refine b_fin hK (s' := ⟨[(2, slE eInt p2), (3, HV.fptr [slE eStr p0.1, slE eStr p0.2] 0), (4, HV.fptr [HV.int .i64 p1.1, HV.int .i64 p1.2.1, slE eFromLabelTo p1.2.2] 0), (11, HV.ptr 15011 v10 0)], [(15051, v8, .arr eInt.k 3 (eInt.E (List.replicate (p1.2.1).toNat (0 : Int)))), (15011, v10, .arr 1 31 [HV.ar 15051 v8 eInt.k 0 ((List.replicate (p1.2.1).toNat (0 : Int)).length)])]⟩) (le_q rfl rfl) ?_
 clear hK K
 refine AW.seq ?_
 refine AW.rgs rfl fun K hK => ?_
 refine bv rfl (v_loadP ty31 rfl rfl (l_lit rfl rfl)) ?_
 refine bv rfl (v_lenA rfl rfl ty31 rfl rfl) ?_
 refine mv rfl rfl ?_
 refine b_fin hK (s' := ⟨[(2, slE eInt p2), (3, HV.fptr [slE eStr p0.1, slE eStr p0.2] 0), (4, HV.fptr [HV.int .i64 p1.1, HV.int .i64 p1.2.1, slE eFromLabelTo p1.2.2] 0), (11, HV.ptr 15011 v10 0), (53, HV.int .i64 (((List.replicate (p1.2.1).toNat (0 : Int)).length : Nat) : Int)), (54, HV.int .i64 0)], [(15051, v8, .arr eInt.k 3 (eInt.E (List.replicate (p1.2.1).toNat (0 : Int)))), (15011, v10, .arr 1 31 [HV.ar 15051 v8 eInt.k 0 ((List.replicate (p1.2.1).toNat (0 : Int)).length)])]⟩) (le_q rfl rfl) ?_
 clear hK K
 refine AW.lpX h (by first | exact up_then | exact up_to) (S := Int × (List Int)) (V := Unit) (fun a v => ⟨[(2, slE eInt p2), (3, HV.fptr [slE eStr p0.1, slE eStr p0.2] 0), (4, HV.fptr [HV.int .i64 p1.1, HV.int .i64 p1.2.1, slE eFromLabelTo p1.2.2] 0), (11, HV.ptr 15011 v10 0), (53, HV.int .i64 (((List.replicate (p1.2.1).toNat (0 : Int)).length : Nat) : Int)), (54, HV.int .i64 a.1)], [(15011, v10, .arr 1 31 [HV.ar 15051 v8 eInt.k 0 ((a.2).length)]), (15051, v8, .arr eInt.k 3 (eInt.E a.2))]⟩) ?_ (X := (List Int)) (W := Unit) (fun a v => ⟨[(2, slE eInt p2), (3, HV.fptr [slE eStr p0.1, slE eStr p0.2] 0), (4, HV.fptr [HV.int .i64 p1.1, HV.int .i64 p1.2.1, slE eFromLabelTo p1.2.2] 0), (11, HV.ptr 15011 v10 0)], [(15011, v10, .arr 1 31 [HV.ar 15051 v8 eInt.k 0 ((a).length)]), (15051, v8, .arr eInt.k 3 (eInt.E a))]⟩) (fun a17 w18 h => ?_) (fun a11 w12 st13 h => ?_)
 ·exact to_le (s' := ⟨[(2, slE eInt p2), (3, HV.fptr [slE eStr p0.1, slE eStr p0.2] 0), (4, HV.fptr [HV.int .i64 p1.1, HV.int .i64 p1.2.1, slE eFromLabelTo p1.2.2] 0), (11, HV.ptr 15011 v10 0), (53, HV.int .i64 (((List.replicate (p1.2.1).toNat (0 : Int)).length : Nat) : Int)), (54, HV.int .i64 0)], [(15011, v10, .arr 1 31 [HV.ar 15051 v8 eInt.k 0 ((List.replicate (p1.2.1).toNat (0 : Int)).length)]), (15051, v8, .arr eInt.k 3 (eInt.E (List.replicate (p1.2.1).toNat (0 : Int))))]⟩) (AS.le_of ⟨rfl, rfl, rfl, rfl, rfl, rfl, trivial⟩ ⟨rfl, rfl, trivial⟩) ⟨(), rfl⟩
 ·refine AW.rgs rfl fun K hK => ?_
  refine b_op rfl (o_alloc (fid := 15) (zs := [HV.v (.pointer none), HV.v (.slice none 0 0)]) 15013 rfl rfl ty80 rfl (fun v19 => ?_))
  refine b_to (to_ownC 15513 15013 v19 2 1 1 5 80 rfl rfl (by decide) fun v20 => ?_)
  refine b_fin hK (s' := ⟨[(2, slE eInt p2), (3, HV.fptr [slE eStr p0.1, slE eStr p0.2] 0), (4, HV.fptr [HV.int .i64 p1.1, HV.int .i64 p1.2.1, slE eFromLabelTo p1.2.2] 0), (11, HV.ptr 15011 v10 0), (13, HV.ptr 15013 v19 0)], [(15011, v10, .arr 1 31 [HV.ar 15051 v8 eInt.k 0 ((a17).length)]), (15051, v8, .arr eInt.k 3 (eInt.E a17)), (15013, v19, bldO 15013 v19 15513 v20 false ([] : List UInt8)), (15513, v20, bytO ([] : List UInt8))]⟩) (le_q rfl rfl) ?_
  clear hK K
  refine AW.rgs rfl fun K hK => ?_
  refine b_op rfl (o_alloc (fid := 15) (zs := [HV.int .i64 0]) 15014 rfl rfl ty3 rfl (fun v21 => ?_))
  refine b_op rfl (o_store (cs := [HV.int .i64 0]) (zs := [HV.int .i64 0]) rfl rfl rfl ty3 rfl rfl rfl rfl rfl ?_)
  refine b_fin hK (s' := ⟨[(2, slE eInt p2), (3, HV.fptr [slE eStr p0.1, slE eStr p0.2] 0), (4, HV.fptr [HV.int .i64 p1.1, HV.int .i64 p1.2.1, slE eFromLabelTo p1.2.2] 0), (11, HV.ptr 15011 v10 0), (13, HV.ptr 15013 v19 0), (14, HV.ptr 15014 v21 0)], [(15011, v10, .arr 1 31 [HV.ar 15051 v8 eInt.k 0 ((a17).length)]), (15051, v8, .arr eInt.k 3 (eInt.E a17)), (15013, v19, bldO 15013 v19 15513 v20 false ([] : List UInt8)), (15513, v20, bytO ([] : List UInt8)), (15014, v21, .arr 1 3 [HV.int .i64 0])]⟩) (le_q rfl rfl) ?_
  clear hK K
  refine AW.rgs rfl fun K hK => ?_
  refine bv rfl (v_func rfl rfl) ?_
  refine mv rfl rfl ?_
  refine b_fin hK (s' := ⟨[(2, slE eInt p2), (3, HV.fptr [slE eStr p0.1, slE eStr p0.2] 0), (4, HV.fptr [HV.int .i64 p1.1, HV.int .i64 p1.2.1, slE eFromLabelTo p1.2.2] 0), (11, HV.ptr 15011 v10 0), (13, HV.ptr 15013 v19 0), (14, HV.ptr 15014 v21 0), (15, HV.fn (.func 53) [] [HV.ptr 15013 v19 0, HV.ptr 15014 v21 0, HV.fptr [HV.int .i64 p1.1, HV.int .i64 p1.2.1, slE eFromLabelTo p1.2.2] 0, HV.ptr 15011 v10 0])], [(15011, v10, .arr 1 31 [HV.ar 15051 v8 eInt.k 0 ((a17).length)]), (15051, v8, .arr eInt.k 3 (eInt.E a17)), (15013, v19, bldO 15013 v19 15513 v20 false ([] : List UInt8)), (15513, v20, bytO ([] : List UInt8)), (15014, v21, .arr 1 3 [HV.int .i64 0])]⟩) (le_q rfl rfl) ?_
  clear hK K
  refine AW.dgs 8 follows rfl rfl fun K hK => ?_
  refine sm rfl rfl ?_
  refine sv rfl (v_fieldAddrF fo24_0 rfl) ?_
  refine sv rfl (v_loadF ty22 rfl (l_lit rfl rfl)) ?_
  refine sm rfl rfl ?_
  obtain ⟨x22, h23, h⟩ := bS h
  refine sv rfl (v_idxF ty31 es31 rfl rfl (idx_lt h23)) ?_
  refine sv rfl (v_loadF ty3 rfl (l_cell eInt h23 (o := 0) rfl rfl)) ?_
  obtain ⟨x24, h25, h⟩ := bS h
  refine sv rfl (v_idxF ty22 es22 rfl rfl (idx_lt h25)) ?_
  refine sv rfl (v_loadF ty9 rfl (l_cell eStr h25 (o := 0) rfl rfl)) ?_
  refine s_nil ?_
  refine b_op rfl (o_callJ h (S := (List Int) × Int) (V := Nat) (fun a v => ⟨[(2, slE eInt p2), (3, HV.fptr [slE eStr p0.1, slE eStr p0.2] 0), (4, HV.fptr [HV.int .i64 p1.1, HV.int .i64 p1.2.1, slE eFromLabelTo p1.2.2] 0), (11, HV.ptr 15011 v10 0), (13, HV.ptr 15013 v19 0), (14, HV.ptr 15014 v21 0), (15, HV.fn (.func 53) [] [HV.ptr 15013 v19 0, HV.ptr 15014 v21 0, HV.fptr [HV.int .i64 p1.1, HV.int .i64 p1.2.1, slE eFromLabelTo p1.2.2] 0, HV.ptr 15011 v10 0]), (71, HV.tup [])], [(15011, v10, .arr 1 31 [slE eInt a.1]), (15013, v19, bldO 15013 v19 15513 v true (([] : List UInt8) ++ x24)), (15513, v, bytO (([] : List UInt8) ++ x24)), (15014, v21, .arr 1 3 [HV.int .i64 a.2])]⟩) rfl rfl rfl rfl (fun a26 w27 h => ?_) (fun k28 h => ?_) )
  ·refine b_fin hK (s' := ⟨[(2, slE eInt p2), (3, HV.fptr [slE eStr p0.1, slE eStr p0.2] 0), (4, HV.fptr [HV.int .i64 p1.1, HV.int .i64 p1.2.1, slE eFromLabelTo p1.2.2] 0), (11, HV.ptr 15011 v10 0), (13, HV.ptr 15013 v19 0), (14, HV.ptr 15014 v21 0), (15, HV.fn (.func 53) [] [HV.ptr 15013 v19 0, HV.ptr 15014 v21 0, HV.fptr [HV.int .i64 p1.1, HV.int .i64 p1.2.1, slE eFromLabelTo p1.2.2] 0, HV.ptr 15011 v10 0])], [(15011, v10, .arr 1 31 [slE eInt a26.1]), (15013, v19, bldO 15013 v19 15513 w27 true (([] : List UInt8) ++ x24)), (15513, w27, bytO (([] : List UInt8) ++ x24)), (15014, v21, .arr 1 3 [HV.int .i64 a26.2])]⟩) (le_q rfl rfl) ?_
   clear hK K
   refine AW.seq ?_
   refine AW.rgs rfl fun K hK => ?_
   refine mv rfl rfl ?_
   obtain ⟨h29, h⟩ := ifN h
   refine bv rfl (v_sliceF eInt ty31 es31 rfl rfl rfl h29) ?_
   refine bv rfl (v_lenF rfl rfl ty31 rfl) ?_
   refine mv rfl rfl ?_
   refine b_fin hK (s' := ⟨[(3, HV.fptr [slE eStr p0.1, slE eStr p0.2] 0), (4, HV.fptr [HV.int .i64 p1.1, HV.int .i64 p1.2.1, slE eFromLabelTo p1.2.2] 0), (11, HV.ptr 15011 v10 0), (13, HV.ptr 15013 v19 0), (14, HV.ptr 15014 v21 0), (15, HV.fn (.func 53) [] [HV.ptr 15013 v19 0, HV.ptr 15014 v21 0, HV.fptr [HV.int .i64 p1.1, HV.int .i64 p1.2.1, slE eFromLabelTo p1.2.2] 0, HV.ptr 15011 v10 0]), (73, slE eInt ((p2.take (((p2).length : Int)).toNat).drop (1 : Int).toNat)), (74, HV.int .i64 (((p2.take (((p2).length : Int)).toNat).drop (1 : Int).toNat).length : Int)), (75, HV.int .i64 0)], [(15011, v10, .arr 1 31 [slE eInt a26.1]), (15013, v19, bldO 15013 v19 15513 w27 true (([] : List UInt8) ++ x24)), (15513, w27, bytO (([] : List UInt8) ++ x24)), (15014, v21, .arr 1 3 [HV.int .i64 a26.2])]⟩) (le_q rfl rfl) ?_
   clear hK K
   refine AW.lpR h (by first | exact up_then | exact up_to) (S := Int × (List Int) × (List UInt8) × Int) (V := Nat) (fun a v => ⟨[(3, HV.fptr [slE eStr p0.1, slE eStr p0.2] 0), (4, HV.fptr [HV.int .i64 p1.1, HV.int .i64 p1.2.1, slE eFromLabelTo p1.2.2] 0), (11, HV.ptr 15011 v10 0), (13, HV.ptr 15013 v19 0), (14, HV.ptr 15014 v21 0), (15, HV.fn (.func 53) [] [HV.ptr 15013 v19 0, HV.ptr 15014 v21 0, HV.fptr [HV.int .i64 p1.1, HV.int .i64 p1.2.1, slE eFromLabelTo p1.2.2] 0, HV.ptr 15011 v10 0]), (73, slE eInt ((p2.take (((p2).length : Int)).toNat).drop (1 : Int).toNat)), (74, HV.int .i64 (((p2.take (((p2).length : Int)).toNat).drop (1 : Int).toNat).length : Int)), (75, HV.int .i64 a.1)], [(15011, v10, .arr 1 31 [slE eInt a.2.1]), (15013, v19, bldO 15013 v19 15513 v true a.2.2.1), (15513, v, bytO a.2.2.1), (15014, v21, .arr 1 3 [HV.int .i64 a.2.2.2])]⟩) ?_ (X := (List UInt8)) (W := Nat) (fun a v => ⟨[(13, HV.ptr 15013 v19 0)], [(15013, v19, bldO 15013 v19 15513 v true a), (15513, v, bytO a)]⟩) (fun a81 w82 h => ?_) (fun a30 w31 st32 h hr33=> ?_)
   ·exact to_le (s' := ⟨[(3, HV.fptr [slE eStr p0.1, slE eStr p0.2] 0), (4, HV.fptr [HV.int .i64 p1.1, HV.int .i64 p1.2.1, slE eFromLabelTo p1.2.2] 0), (11, HV.ptr 15011 v10 0), (13, HV.ptr 15013 v19 0), (14, HV.ptr 15014 v21 0), (15, HV.fn (.func 53) [] [HV.ptr 15013 v19 0, HV.ptr 15014 v21 0, HV.fptr [HV.int .i64 p1.1, HV.int .i64 p1.2.1, slE eFromLabelTo p1.2.2] 0, HV.ptr 15011 v10 0]), (73, slE eInt ((p2.take (((p2).length : Int)).toNat).drop (1 : Int).toNat)), (74, HV.int .i64 (((p2.take (((p2).length : Int)).toNat).drop (1 : Int).toNat).length : Int)), (75, HV.int .i64 0)], [(15011, v10, .arr 1 31 [slE eInt a26.1]), (15013, v19, bldO 15013 v19 15513 w27 true (([] : List UInt8) ++ x24)), (15513, w27, bytO (([] : List UInt8) ++ x24)), (15014, v21, .arr 1 3 [HV.int .i64 a26.2])]⟩) (AS.le_of ⟨rfl, rfl, rfl, rfl, rfl, rfl, rfl, rfl, rfl, trivial⟩ ⟨rfl, rfl, rfl, rfl, trivial⟩) ⟨w27, rfl⟩
   ·refine AW.rgs rfl fun K hK => ?_
    refine b_op rfl (o_callA rfl rfl rfl rfl (c_String (id := 15013) (ver := v19) (aid := 15513) (aver := w82) (u := true) (l := a81) rfl rfl fun v83 => ?_) )
    refine mv rfl rfl ?_
    refine mv rfl rfl ?_
    refine b_fin hK (s' := ⟨[(6, HV.str a81), (7, HV.int .i64 0)], []⟩) (le_q rfl rfl) ?_
    clear hK K
    refine AW.ret ?_
    have h := Option.some.inj h
    subst h
    exact ret_pure (hs := [HV.str a81, HV.int .i64 0]) (q := HV.tup [HV.str a81, HV.int .i64 0]) (.inr rfl) (resT rfl (resT rfl rfl)) rfl ⟨trivial, trivial, trivial⟩
   refine AW.rgs rfl fun K hK => ?_
   refine bv rfl (v_bin rfl rfl b_lss) ?_
   refine b_fin hK (s' := ⟨[(3, HV.fptr [slE eStr p0.1, slE eStr p0.2] 0), (4, HV.fptr [HV.int .i64 p1.1, HV.int .i64 p1.2.1, slE eFromLabelTo p1.2.2] 0), (11, HV.ptr 15011 v10 0), (13, HV.ptr 15013 v19 0), (14, HV.ptr 15014 v21 0), (15, HV.fn (.func 53) [] [HV.ptr 15013 v19 0, HV.ptr 15014 v21 0, HV.fptr [HV.int .i64 p1.1, HV.int .i64 p1.2.1, slE eFromLabelTo p1.2.2] 0, HV.ptr 15011 v10 0]), (73, slE eInt ((p2.take (((p2).length : Int)).toNat).drop (1 : Int).toNat)), (74, HV.int .i64 (((p2.take (((p2).length : Int)).toNat).drop (1 : Int).toNat).length : Int)), (75, HV.int .i64 a30.1), (76, HV.bool (decide (a30.1 < (((p2.take (((p2).length : Int)).toNat).drop (1 : Int).toNat).length : Int))))], [(15011, v10, .arr 1 31 [slE eInt a30.2.1]), (15013, v19, bldO 15013 v19 15513 w31 true a30.2.2.1), (15513, w31, bytO a30.2.2.1), (15014, v21, .arr 1 3 [HV.int .i64 a30.2.2.2])]⟩) (le_q rfl rfl) ?_
   clear hK K
   refine AW.cseq rfl (fun hc => ?_) (fun hc => ?_)
   ·have hc := of_decide_eq_true hc
    have h := ifT hc h
    refine AW.skip ?_
    refine AW.seq (AW.block ?_)
    refine AW.rgs rfl fun K hK => ?_
    obtain ⟨x34, h35, h⟩ := bS h
    refine bv rfl (v_idxF ty31 es31 rfl rfl (idx_lt h35)) ?_
    refine bv rfl (v_loadF ty3 rfl (l_cell eInt h35 (o := 0) rfl rfl)) ?_
    refine b_op rfl (o_alloc (fid := 15) (zs := [HV.int .i64 0]) 15017 rfl rfl ty3 rfl (fun v36 => ?_))
    refine b_op rfl (o_store (cs := [HV.int .i64 x34]) (zs := [HV.int .i64 x34]) rfl rfl rfl ty3 rfl rfl rfl rfl rfl ?_)
    refine b_fin hK (s' := ⟨[(3, HV.fptr [slE eStr p0.1, slE eStr p0.2] 0), (4, HV.fptr [HV.int .i64 p1.1, HV.int .i64 p1.2.1, slE eFromLabelTo p1.2.2] 0), (11, HV.ptr 15011 v10 0), (13, HV.ptr 15013 v19 0), (14, HV.ptr 15014 v21 0), (15, HV.fn (.func 53) [] [HV.ptr 15013 v19 0, HV.ptr 15014 v21 0, HV.fptr [HV.int .i64 p1.1, HV.int .i64 p1.2.1, slE eFromLabelTo p1.2.2] 0, HV.ptr 15011 v10 0]), (17, HV.ptr 15017 v36 0), (73, slE eInt ((p2.take (((p2).length : Int)).toNat).drop (1 : Int).toNat)), (74, HV.int .i64 (((p2.take (((p2).length : Int)).toNat).drop (1 : Int).toNat).length : Int)), (75, HV.int .i64 a30.1)], [(15011, v10, .arr 1 31 [slE eInt a30.2.1]), (15013, v19, bldO 15013 v19 15513 w31 true a30.2.2.1), (15513, w31, bytO a30.2.2.1), (15014, v21, .arr 1 3 [HV.int .i64 a30.2.2.2]), (15017, v36, .arr 1 3 [HV.int .i64 x34])]⟩) (le_q rfl rfl) ?_
    clear hK K
    refine AW.rgs rfl fun K hK => ?_
    refine bv rfl (v_fieldAddrF fo24_1 rfl) ?_
    refine bv rfl (v_loadF ty22 rfl (l_lit rfl rfl)) ?_
    refine bv rfl (v_func rfl rfl) ?_
    refine b_op rfl (o_callJ h (S := (List UInt8) × Bool) (V := Unit) (fun a v => ⟨[(3, HV.fptr [slE eStr p0.1, slE eStr p0.2] 0), (4, HV.fptr [HV.int .i64 p1.1, HV.int .i64 p1.2.1, slE eFromLabelTo p1.2.2] 0), (11, HV.ptr 15011 v10 0), (13, HV.ptr 15013 v19 0), (14, HV.ptr 15014 v21 0), (15, HV.fn (.func 53) [] [HV.ptr 15013 v19 0, HV.ptr 15014 v21 0, HV.fptr [HV.int .i64 p1.1, HV.int .i64 p1.2.1, slE eFromLabelTo p1.2.2] 0, HV.ptr 15011 v10 0]), (17, HV.ptr 15017 v36 0), (73, slE eInt ((p2.take (((p2).length : Int)).toNat).drop (1 : Int).toNat)), (74, HV.int .i64 (((p2.take (((p2).length : Int)).toNat).drop (1 : Int).toNat).length : Int)), (75, HV.int .i64 a30.1), (83, HV.tup [HV.str a.1, HV.bool a.2])], [(15011, v10, .arr 1 31 [slE eInt a30.2.1]), (15013, v19, bldO 15013 v19 15513 w31 true a30.2.2.1), (15513, w31, bytO a30.2.2.1), (15014, v21, .arr 1 3 [HV.int .i64 a30.2.2.2]), (15017, v36, .arr 1 3 [HV.int .i64 x34])]⟩) rfl rfl rfl rfl (fun a37 w38 h => ?_) (fun k39 h => ?_) )
    ·refine mv rfl rfl ?_
     refine bv rfl (v_extract rfl rfl) ?_
     refine bv rfl (v_extract rfl rfl) ?_
     refine mv rfl rfl ?_
     refine mv rfl rfl ?_
     refine b_fin hK (s' := ⟨[(3, HV.fptr [slE eStr p0.1, slE eStr p0.2] 0), (4, HV.fptr [HV.int .i64 p1.1, HV.int .i64 p1.2.1, slE eFromLabelTo p1.2.2] 0), (11, HV.ptr 15011 v10 0), (13, HV.ptr 15013 v19 0), (14, HV.ptr 15014 v21 0), (15, HV.fn (.func 53) [] [HV.ptr 15013 v19 0, HV.ptr 15014 v21 0, HV.fptr [HV.int .i64 p1.1, HV.int .i64 p1.2.1, slE eFromLabelTo p1.2.2] 0, HV.ptr 15011 v10 0]), (17, HV.ptr 15017 v36 0), (18, HV.str a37.1), (19, HV.bool a37.2), (73, slE eInt ((p2.take (((p2).length : Int)).toNat).drop (1 : Int).toNat)), (74, HV.int .i64 (((p2.take (((p2).length : Int)).toNat).drop (1 : Int).toNat).length : Int)), (75, HV.int .i64 a30.1)], [(15011, v10, .arr 1 31 [slE eInt a30.2.1]), (15013, v19, bldO 15013 v19 15513 w31 true a30.2.2.1), (15513, w31, bytO a30.2.2.1), (15014, v21, .arr 1 3 [HV.int .i64 a30.2.2.2]), (15017, v36, .arr 1 3 [HV.int .i64 x34])]⟩) (le_q rfl rfl) ?_
     clear hK K
     refine AW.seq ?_
     refine AW.rgs rfl fun K hK => ?_
     refine mv rfl rfl ?_
     refine bv rfl (v_not rfl) ?_
     refine b_fin hK (s' := ⟨[(3, HV.fptr [slE eStr p0.1, slE eStr p0.2] 0), (4, HV.fptr [HV.int .i64 p1.1, HV.int .i64 p1.2.1, slE eFromLabelTo p1.2.2] 0), (11, HV.ptr 15011 v10 0), (13, HV.ptr 15013 v19 0), (14, HV.ptr 15014 v21 0), (15, HV.fn (.func 53) [] [HV.ptr 15013 v19 0, HV.ptr 15014 v21 0, HV.fptr [HV.int .i64 p1.1, HV.int .i64 p1.2.1, slE eFromLabelTo p1.2.2] 0, HV.ptr 15011 v10 0]), (17, HV.ptr 15017 v36 0), (18, HV.str a37.1), (73, slE eInt ((p2.take (((p2).length : Int)).toNat).drop (1 : Int).toNat)), (74, HV.int .i64 (((p2.take (((p2).length : Int)).toNat).drop (1 : Int).toNat).length : Int)), (75, HV.int .i64 a30.1), (87, HV.bool (!a37.2))], [(15011, v10, .arr 1 31 [slE eInt a30.2.1]), (15013, v19, bldO 15013 v19 15513 w31 true a30.2.2.1), (15513, w31, bytO a30.2.2.1), (15014, v21, .arr 1 3 [HV.int .i64 a30.2.2.2]), (15017, v36, .arr 1 3 [HV.int .i64 x34])]⟩) (le_q rfl rfl) ?_
     clear hK K
     refine AW.cond rfl (fun hc => ?_) (fun hc => ?_)
     ·have h := ifT hc h
      refine AW.rgs rfl fun K hK => ?_
      refine mv rfl rfl ?_
      refine mv rfl rfl ?_
      refine b_fin hK (s' := ⟨[(6, HV.str ([] : List UInt8)), (7, HV.int .i64 13)], []⟩) (le_q rfl rfl) ?_
      clear hK K
      have h := hr33 _ h
      refine AW.ret ?_
      have h := Option.some.inj h
      subst h
      exact ret_pure (hs := [HV.str ([] : List UInt8), HV.int .i64 13]) (q := HV.tup [HV.str ([] : List UInt8), HV.int .i64 13]) (.inr rfl) (resT rfl (resT rfl rfl)) rfl ⟨trivial, trivial, trivial⟩
     have h := ifF (bF' hc) h
     refine AW.skip ?_
     refine AW.rg rfl fun K hK => ?_
     refine mv rfl rfl ?_
     refine mv rfl rfl ?_
     refine bv rfl (v_fieldAddrF fo24_0 rfl) ?_
     refine bv rfl (v_loadF ty22 rfl (l_lit rfl rfl)) ?_
     refine bv rfl (v_loadP ty3 rfl rfl (l_lit rfl rfl)) ?_
     obtain ⟨x40, h41, h⟩ := bS h
     refine bv rfl (v_idxF ty22 es22 rfl rfl (idx_lt h41)) ?_
     refine bv rfl (v_loadF ty9 rfl (l_cell eStr h41 (o := 0) rfl rfl)) ?_
     obtain ⟨h42, h⟩ := ifN h
     refine bv rfl (v_bin rfl rfl (b_sadd h42)) ?_
     refine b_op rfl (o_callJ h (S := (List Int) × Int) (V := Nat) (fun a v => ⟨[(3, HV.fptr [slE eStr p0.1, slE eStr p0.2] 0), (4, HV.fptr [HV.int .i64 p1.1, HV.int .i64 p1.2.1, slE eFromLabelTo p1.2.2] 0), (11, HV.ptr 15011 v10 0), (13, HV.ptr 15013 v19 0), (14, HV.ptr 15014 v21 0), (15, HV.fn (.func 53) [] [HV.ptr 15013 v19 0, HV.ptr 15014 v21 0, HV.fptr [HV.int .i64 p1.1, HV.int .i64 p1.2.1, slE eFromLabelTo p1.2.2] 0, HV.ptr 15011 v10 0]), (73, slE eInt ((p2.take (((p2).length : Int)).toNat).drop (1 : Int).toNat)), (74, HV.int .i64 (((p2.take (((p2).length : Int)).toNat).drop (1 : Int).toNat).length : Int)), (75, HV.int .i64 a30.1), (96, HV.tup [])], [(15011, v10, .arr 1 31 [slE eInt a.1]), (15013, v19, bldO 15013 v19 15513 v true (a30.2.2.1 ++ (a37.1 ++ x40))), (15513, v, bytO (a30.2.2.1 ++ (a37.1 ++ x40))), (15014, v21, .arr 1 3 [HV.int .i64 a.2])]⟩) rfl rfl rfl rfl (fun a43 w44 h => ?_) (fun k45 h => ?_) )
     ·refine b_fin hK (s' := ⟨[(3, HV.fptr [slE eStr p0.1, slE eStr p0.2] 0), (4, HV.fptr [HV.int .i64 p1.1, HV.int .i64 p1.2.1, slE eFromLabelTo p1.2.2] 0), (11, HV.ptr 15011 v10 0), (13, HV.ptr 15013 v19 0), (14, HV.ptr 15014 v21 0), (15, HV.fn (.func 53) [] [HV.ptr 15013 v19 0, HV.ptr 15014 v21 0, HV.fptr [HV.int .i64 p1.1, HV.int .i64 p1.2.1, slE eFromLabelTo p1.2.2] 0, HV.ptr 15011 v10 0]), (73, slE eInt ((p2.take (((p2).length : Int)).toNat).drop (1 : Int).toNat)), (74, HV.int .i64 (((p2.take (((p2).length : Int)).toNat).drop (1 : Int).toNat).length : Int)), (75, HV.int .i64 a30.1)], [(15011, v10, .arr 1 31 [slE eInt a43.1]), (15013, v19, bldO 15013 v19 15513 w44 true (a30.2.2.1 ++ (a37.1 ++ x40))), (15513, w44, bytO (a30.2.2.1 ++ (a37.1 ++ x40))), (15014, v21, .arr 1 3 [HV.int .i64 a43.2])]⟩) (le_q rfl rfl) ?_
      clear hK K
      refine AW.rg rfl fun K hK => ?_
      refine bv rfl (v_bin rfl rfl b_add) ?_
      refine mv rfl rfl ?_
      refine b_nil (hK _ ?_)
      clear hK K
      exact to_le (s' := ⟨[(3, HV.fptr [slE eStr p0.1, slE eStr p0.2] 0), (4, HV.fptr [HV.int .i64 p1.1, HV.int .i64 p1.2.1, slE eFromLabelTo p1.2.2] 0), (11, HV.ptr 15011 v10 0), (13, HV.ptr 15013 v19 0), (14, HV.ptr 15014 v21 0), (15, HV.fn (.func 53) [] [HV.ptr 15013 v19 0, HV.ptr 15014 v21 0, HV.fptr [HV.int .i64 p1.1, HV.int .i64 p1.2.1, slE eFromLabelTo p1.2.2] 0, HV.ptr 15011 v10 0]), (73, slE eInt ((p2.take (((p2).length : Int)).toNat).drop (1 : Int).toNat)), (74, HV.int .i64 (((p2.take (((p2).length : Int)).toNat).drop (1 : Int).toNat).length : Int)), (75, HV.int .i64 (IntKind.wrap .i64 (a30.1 + 1)))], [(15011, v10, .arr 1 31 [slE eInt a43.1]), (15013, v19, bldO 15013 v19 15513 w44 true (a30.2.2.1 ++ (a37.1 ++ x40))), (15513, w44, bytO (a30.2.2.1 ++ (a37.1 ++ x40))), (15014, v21, .arr 1 3 [HV.int .i64 a43.2])]⟩) (AS.le_of ⟨rfl, rfl, rfl, rfl, rfl, rfl, rfl, rfl, rfl, trivial⟩ ⟨rfl, rfl, rfl, rfl, trivial⟩) ⟨(IntKind.wrap .i64 (a30.1 + 1), a43.1, a30.2.2.1 ++ (a37.1 ++ x40), a43.2), w44, h, rfl⟩
     refine ACall.of_body Tryz.func53 rfl rfl (Nat.le_of_ble_eq_true rfl) ?_
     unfold Tryz.f53
     dsimp only [enumS, Nat.reduceAdd]
     refine AW.fin ?_
     refine AW.rgs rfl fun K hK => ?_
     refine mv rfl rfl ?_
     obtain ⟨h47, h⟩ := ifN h
     refine b_op rfl (o_callA rfl rfl rfl rfl (c_WriteString (id := 15013) (ver := v19) (aid := 15513) (aver := w31) (u := true) (l := a30.2.2.1) (m := (a37.1 ++ x40)) (by decide) rfl rfl h47 fun v46 => ?_) )
     refine b_fin hK (s' := ⟨[(0, HV.str (a37.1 ++ x40)), (2, HV.ptr 15014 v21 0), (3, HV.fptr [HV.int .i64 p1.1, HV.int .i64 p1.2.1, slE eFromLabelTo p1.2.2] 0), (4, HV.ptr 15011 v10 0)], [(15011, v10, .arr 1 31 [slE eInt a30.2.1]), (15013, v19, bldO 15013 v19 15513 v46 true (a30.2.2.1 ++ (a37.1 ++ x40))), (15513, v46, bytO (a30.2.2.1 ++ (a37.1 ++ x40))), (15014, v21, .arr 1 3 [HV.int .i64 a30.2.2.2]), (15017, v36, .arr 1 3 [HV.int .i64 x34])]⟩) (le_q rfl rfl) ?_
     clear hK K
     refine AW.dgs 4 follows rfl rfl fun K hK => ?_
     refine sv rfl (v_loadP ty3 rfl rfl (l_lit rfl rfl)) ?_
     refine sm rfl rfl ?_
     obtain ⟨x48, h49, h⟩ := bS h
     refine s_op rfl rfl (ops_call rfl rfl rfl rfl (ACallD.pure0 (w_merging_weight h49)) ?_)
     refine sv rfl (v_bin rfl rfl b_add) ?_
     refine s_nil ?_
     refine b_op rfl (o_store (cs := [HV.int .i64 (IntKind.wrap .i64 (a30.2.2.2 + x48))]) (zs := [HV.int .i64 (IntKind.wrap .i64 (a30.2.2.2 + x48))]) rfl rfl rfl ty3 rfl rfl rfl rfl rfl ?_)
     refine b_fin hK (s' := ⟨[(0, HV.str (a37.1 ++ x40)), (3, HV.fptr [HV.int .i64 p1.1, HV.int .i64 p1.2.1, slE eFromLabelTo p1.2.2] 0), (4, HV.ptr 15011 v10 0)], [(15011, v10, .arr 1 31 [slE eInt a30.2.1]), (15013, v19, bldO 15013 v19 15513 v46 true (a30.2.2.1 ++ (a37.1 ++ x40))), (15513, v46, bytO (a30.2.2.1 ++ (a37.1 ++ x40))), (15014, v21, .arr 1 3 [HV.int .i64 (IntKind.wrap .i64 (a30.2.2.2 + x48))]), (15017, v36, .arr 1 3 [HV.int .i64 x34])]⟩) (le_q rfl rfl) ?_
     clear hK K
     refine AW.rg rfl fun K hK => ?_
     refine bv rfl (v_loadF ty27 rfl (l_litA rfl (Nat.le_of_ble_eq_true rfl) rfl)) ?_
     refine bv rfl (v_loadP ty31 rfl rfl (l_lit rfl rfl)) ?_
     refine mv rfl rfl ?_
     obtain ⟨x50, h51, h⟩ := bS h
     refine b_op rfl (o_call rfl rfl rfl rfl (ACallD.pure0 (w_merging_step h51)) ?_)
     refine b_op rfl (o_store (cs := [slE eInt x50]) (zs := [slE eInt x50]) rfl rfl rfl ty31 rfl rfl rfl rfl rfl ?_)
     refine b_nil (hK _ ?_)
     clear hK K
     refine to_refl ?_
     refine ret_to (hs := []) (q := HV.tup []) (.inl rfl) rfl rfl ?_
     exact to_le (s' := ⟨[(3, HV.fptr [slE eStr p0.1, slE eStr p0.2] 0), (4, HV.fptr [HV.int .i64 p1.1, HV.int .i64 p1.2.1, slE eFromLabelTo p1.2.2] 0), (11, HV.ptr 15011 v10 0), (13, HV.ptr 15013 v19 0), (14, HV.ptr 15014 v21 0), (15, HV.fn (.func 53) [] [HV.ptr 15013 v19 0, HV.ptr 15014 v21 0, HV.fptr [HV.int .i64 p1.1, HV.int .i64 p1.2.1, slE eFromLabelTo p1.2.2] 0, HV.ptr 15011 v10 0]), (73, slE eInt ((p2.take (((p2).length : Int)).toNat).drop (1 : Int).toNat)), (74, HV.int .i64 (((p2.take (((p2).length : Int)).toNat).drop (1 : Int).toNat).length : Int)), (75, HV.int .i64 a30.1), (96, HV.tup [])], [(15011, v10, .arr 1 31 [slE eInt x50]), (15013, v19, bldO 15013 v19 15513 v46 true (a30.2.2.1 ++ (a37.1 ++ x40))), (15513, v46, bytO (a30.2.2.1 ++ (a37.1 ++ x40))), (15014, v21, .arr 1 3 [HV.int .i64 (IntKind.wrap .i64 (a30.2.2.2 + x48))])]⟩) (AS.le_of ⟨rfl, rfl, rfl, rfl, rfl, rfl, rfl, rfl, rfl, rfl, trivial⟩ ⟨rfl, rfl, rfl, rfl, trivial⟩) ⟨(x50, IntKind.wrap .i64 (a30.2.2.2 + x48)), v46, h, rfl⟩
    refine ACall.of_body Tryz.func57 rfl rfl (Nat.le_of_ble_eq_true rfl) ?_
    unfold Tryz.f57
    dsimp only [enumS, Nat.reduceAdd]
    refine AW.fin ?_
    refine AW.rgs rfl fun K hK => ?_
    refine mv rfl rfl ?_
    refine mv rfl rfl ?_
    refine b_fin hK (s' := ⟨[(0, slE eStr p0.2), (1, HV.fn (.func 58) [] [HV.ptr 15014 v21 0, HV.fptr [slE eStr p0.1, slE eStr p0.2] 0, HV.ptr 15017 v36 0, HV.fptr [HV.int .i64 p1.1, HV.int .i64 p1.2.1, slE eFromLabelTo p1.2.2] 0, HV.ptr 15011 v10 0])], [(15011, v10, .arr 1 31 [slE eInt a30.2.1]), (15013, v19, bldO 15013 v19 15513 w31 true a30.2.2.1), (15513, w31, bytO a30.2.2.1), (15014, v21, .arr 1 3 [HV.int .i64 a30.2.2.2]), (15017, v36, .arr 1 3 [HV.int .i64 x34])]⟩) (le_q rfl rfl) ?_
    clear hK K
    refine AW.rgs rfl fun K hK => ?_
    refine mv rfl rfl ?_
    refine b_fin hK (s' := ⟨[(0, slE eStr p0.2), (1, HV.fn (.func 58) [] [HV.ptr 15014 v21 0, HV.fptr [slE eStr p0.1, slE eStr p0.2] 0, HV.ptr 15017 v36 0, HV.fptr [HV.int .i64 p1.1, HV.int .i64 p1.2.1, slE eFromLabelTo p1.2.2] 0, HV.ptr 15011 v10 0]), (6, HV.str ([] : List UInt8))], [(15011, v10, .arr 1 31 [slE eInt a30.2.1]), (15013, v19, bldO 15013 v19 15513 w31 true a30.2.2.1), (15513, w31, bytO a30.2.2.1), (15014, v21, .arr 1 3 [HV.int .i64 a30.2.2.2]), (15017, v36, .arr 1 3 [HV.int .i64 x34])]⟩) (le_q rfl rfl) ?_
    clear hK K
    refine AW.rgs rfl fun K hK => ?_
    refine mv rfl rfl ?_
    refine mv rfl rfl ?_
    refine b_fin hK (s' := ⟨[(0, slE eStr p0.2), (1, HV.fn (.func 58) [] [HV.ptr 15014 v21 0, HV.fptr [slE eStr p0.1, slE eStr p0.2] 0, HV.ptr 15017 v36 0, HV.fptr [HV.int .i64 p1.1, HV.int .i64 p1.2.1, slE eFromLabelTo p1.2.2] 0, HV.ptr 15011 v10 0]), (6, HV.str ([] : List UInt8)), (7, HV.int .i64 0), (8, HV.bool false)], [(15011, v10, .arr 1 31 [slE eInt a30.2.1]), (15013, v19, bldO 15013 v19 15513 w31 true a30.2.2.1), (15513, w31, bytO a30.2.2.1), (15014, v21, .arr 1 3 [HV.int .i64 a30.2.2.2]), (15017, v36, .arr 1 3 [HV.int .i64 x34])]⟩) (le_q rfl rfl) ?_
    clear hK K
    refine AW.seq ?_
    refine AW.rgs rfl fun K hK => ?_
    refine mv rfl rfl ?_
    refine bv rfl (v_lenF rfl rfl ty22 rfl) ?_
    refine mv rfl rfl ?_
    refine b_fin hK (s' := ⟨[(1, HV.fn (.func 58) [] [HV.ptr 15014 v21 0, HV.fptr [slE eStr p0.1, slE eStr p0.2] 0, HV.ptr 15017 v36 0, HV.fptr [HV.int .i64 p1.1, HV.int .i64 p1.2.1, slE eFromLabelTo p1.2.2] 0, HV.ptr 15011 v10 0]), (6, HV.str ([] : List UInt8)), (7, HV.int .i64 0), (8, HV.bool false), (13, slE eStr p0.2), (14, HV.int .i64 ((p0.2).length : Int)), (15, HV.int .i64 0)], [(15011, v10, .arr 1 31 [slE eInt a30.2.1]), (15013, v19, bldO 15013 v19 15513 w31 true a30.2.2.1), (15513, w31, bytO a30.2.2.1), (15014, v21, .arr 1 3 [HV.int .i64 a30.2.2.2]), (15017, v36, .arr 1 3 [HV.int .i64 x34])]⟩) (le_q rfl rfl) ?_
    clear hK K
    refine AW.lpX h (by first | exact up_then | exact up_to) (S := (List UInt8) × Int × Bool × Int) (V := Unit) (fun a v => ⟨[(1, HV.fn (.func 58) [] [HV.ptr 15014 v21 0, HV.fptr [slE eStr p0.1, slE eStr p0.2] 0, HV.ptr 15017 v36 0, HV.fptr [HV.int .i64 p1.1, HV.int .i64 p1.2.1, slE eFromLabelTo p1.2.2] 0, HV.ptr 15011 v10 0]), (6, HV.str a.1), (7, HV.int .i64 a.2.1), (8, HV.bool a.2.2.1), (13, slE eStr p0.2), (14, HV.int .i64 ((p0.2).length : Int)), (15, HV.int .i64 a.2.2.2)], [(15011, v10, .arr 1 31 [slE eInt a30.2.1]), (15013, v19, bldO 15013 v19 15513 w31 true a30.2.2.1), (15513, w31, bytO a30.2.2.1), (15014, v21, .arr 1 3 [HV.int .i64 a30.2.2.2]), (15017, v36, .arr 1 3 [HV.int .i64 x34])]⟩) ?_ (X := (List UInt8) × Bool) (W := Unit) (fun a v => ⟨[(6, HV.str a.1), (8, HV.bool a.2)], [(15011, v10, .arr 1 31 [slE eInt a30.2.1]), (15013, v19, bldO 15013 v19 15513 w31 true a30.2.2.1), (15513, w31, bytO a30.2.2.1), (15014, v21, .arr 1 3 [HV.int .i64 a30.2.2.2]), (15017, v36, .arr 1 3 [HV.int .i64 x34])]⟩) (fun a79 w80 h => ?_) (fun a52 w53 st54 h => ?_)
    ·exact to_le (s' := ⟨[(1, HV.fn (.func 58) [] [HV.ptr 15014 v21 0, HV.fptr [slE eStr p0.1, slE eStr p0.2] 0, HV.ptr 15017 v36 0, HV.fptr [HV.int .i64 p1.1, HV.int .i64 p1.2.1, slE eFromLabelTo p1.2.2] 0, HV.ptr 15011 v10 0]), (6, HV.str ([] : List UInt8)), (7, HV.int .i64 0), (8, HV.bool false), (13, slE eStr p0.2), (14, HV.int .i64 ((p0.2).length : Int)), (15, HV.int .i64 0)], [(15011, v10, .arr 1 31 [slE eInt a30.2.1]), (15013, v19, bldO 15013 v19 15513 w31 true a30.2.2.1), (15513, w31, bytO a30.2.2.1), (15014, v21, .arr 1 3 [HV.int .i64 a30.2.2.2]), (15017, v36, .arr 1 3 [HV.int .i64 x34])]⟩) (AS.le_of ⟨rfl, rfl, rfl, rfl, rfl, rfl, rfl, trivial⟩ ⟨rfl, rfl, rfl, rfl, rfl, trivial⟩) ⟨(), rfl⟩
    ·refine AW.rgs rfl fun K hK => ?_
     refine mv rfl rfl ?_
     refine mv rfl rfl ?_
     refine mv rfl rfl ?_
     refine mv rfl rfl ?_
     refine b_fin hK (s' := ⟨[(4, HV.str a79.1), (5, HV.bool a79.2)], [(15011, v10, .arr 1 31 [slE eInt a30.2.1]), (15013, v19, bldO 15013 v19 15513 w31 true a30.2.2.1), (15513, w31, bytO a30.2.2.1), (15014, v21, .arr 1 3 [HV.int .i64 a30.2.2.2]), (15017, v36, .arr 1 3 [HV.int .i64 x34])]⟩) (le_q rfl rfl) ?_
     clear hK K
     refine AW.ret ?_
     refine ret_to (hs := [HV.str a79.1, HV.bool a79.2]) (q := HV.tup [HV.str a79.1, HV.bool a79.2]) (.inr rfl) (resT rfl (resT rfl rfl)) rfl ?_
     exact to_le (s' := ⟨[(3, HV.fptr [slE eStr p0.1, slE eStr p0.2] 0), (4, HV.fptr [HV.int .i64 p1.1, HV.int .i64 p1.2.1, slE eFromLabelTo p1.2.2] 0), (11, HV.ptr 15011 v10 0), (13, HV.ptr 15013 v19 0), (14, HV.ptr 15014 v21 0), (15, HV.fn (.func 53) [] [HV.ptr 15013 v19 0, HV.ptr 15014 v21 0, HV.fptr [HV.int .i64 p1.1, HV.int .i64 p1.2.1, slE eFromLabelTo p1.2.2] 0, HV.ptr 15011 v10 0]), (17, HV.ptr 15017 v36 0), (73, slE eInt ((p2.take (((p2).length : Int)).toNat).drop (1 : Int).toNat)), (74, HV.int .i64 (((p2.take (((p2).length : Int)).toNat).drop (1 : Int).toNat).length : Int)), (75, HV.int .i64 a30.1), (83, HV.tup [HV.str a79.1, HV.bool a79.2])], [(15011, v10, .arr 1 31 [slE eInt a30.2.1]), (15013, v19, bldO 15013 v19 15513 w31 true a30.2.2.1), (15513, w31, bytO a30.2.2.1), (15014, v21, .arr 1 3 [HV.int .i64 a30.2.2.2]), (15017, v36, .arr 1 3 [HV.int .i64 x34])]⟩) (AS.le_of ⟨rfl, rfl, rfl, rfl, rfl, rfl, rfl, rfl, rfl, rfl, rfl, trivial⟩ ⟨rfl, rfl, rfl, rfl, rfl, trivial⟩) ⟨(a79.1, a79.2), (), h, rfl⟩
    refine AW.rgs rfl fun K hK => ?_
    refine bv rfl (v_bin rfl rfl b_lss) ?_
    refine b_fin hK (s' := ⟨[(1, HV.fn (.func 58) [] [HV.ptr 15014 v21 0, HV.fptr [slE eStr p0.1, slE eStr p0.2] 0, HV.ptr 15017 v36 0, HV.fptr [HV.int .i64 p1.1, HV.int .i64 p1.2.1, slE eFromLabelTo p1.2.2] 0, HV.ptr 15011 v10 0]), (6, HV.str a52.1), (7, HV.int .i64 a52.2.1), (8, HV.bool a52.2.2.1), (13, slE eStr p0.2), (14, HV.int .i64 ((p0.2).length : Int)), (15, HV.int .i64 a52.2.2.2), (16, HV.bool (decide (a52.2.2.2 < ((p0.2).length : Int))))], [(15011, v10, .arr 1 31 [slE eInt a30.2.1]), (15013, v19, bldO 15013 v19 15513 w31 true a30.2.2.1), (15513, w31, bytO a30.2.2.1), (15014, v21, .arr 1 3 [HV.int .i64 a30.2.2.2]), (15017, v36, .arr 1 3 [HV.int .i64 x34])]⟩) (le_q rfl rfl) ?_
    clear hK K
    refine AW.cseq rfl (fun hc => ?_) (fun hc => ?_)
    ·have hc := of_decide_eq_true hc
     have h := ifT hc h
     refine AW.skip ?_
     refine AW.seqJ h (S := (List UInt8) × Int × Bool) (V := Unit) (fun a v => ⟨[(1, HV.fn (.func 58) [] [HV.ptr 15014 v21 0, HV.fptr [slE eStr p0.1, slE eStr p0.2] 0, HV.ptr 15017 v36 0, HV.fptr [HV.int .i64 p1.1, HV.int .i64 p1.2.1, slE eFromLabelTo p1.2.2] 0, HV.ptr 15011 v10 0]), (6, HV.str a.1), (7, HV.int .i64 a.2.1), (8, HV.bool a.2.2), (13, slE eStr p0.2), (14, HV.int .i64 ((p0.2).length : Int)), (15, HV.int .i64 a52.2.2.2)], [(15011, v10, .arr 1 31 [slE eInt a30.2.1]), (15013, v19, bldO 15013 v19 15513 w31 true a30.2.2.1), (15513, w31, bytO a30.2.2.1), (15014, v21, .arr 1 3 [HV.int .i64 a30.2.2.2]), (15017, v36, .arr 1 3 [HV.int .i64 x34])]⟩) (fun a56 w57 h => ?_) (fun k58 h => ?_)
     ·refine AW.rg rfl fun K hK => ?_
      refine bv rfl (v_bin rfl rfl b_add) ?_
      refine mv rfl rfl ?_
      refine b_nil (hK _ ?_)
      clear hK K
      exact to_le (s' := ⟨[(1, HV.fn (.func 58) [] [HV.ptr 15014 v21 0, HV.fptr [slE eStr p0.1, slE eStr p0.2] 0, HV.ptr 15017 v36 0, HV.fptr [HV.int .i64 p1.1, HV.int .i64 p1.2.1, slE eFromLabelTo p1.2.2] 0, HV.ptr 15011 v10 0]), (6, HV.str a56.1), (7, HV.int .i64 a56.2.1), (8, HV.bool a56.2.2), (13, slE eStr p0.2), (14, HV.int .i64 ((p0.2).length : Int)), (15, HV.int .i64 (IntKind.wrap .i64 (a52.2.2.2 + 1)))], [(15011, v10, .arr 1 31 [slE eInt a30.2.1]), (15013, v19, bldO 15013 v19 15513 w31 true a30.2.2.1), (15513, w31, bytO a30.2.2.1), (15014, v21, .arr 1 3 [HV.int .i64 a30.2.2.2]), (15017, v36, .arr 1 3 [HV.int .i64 x34])]⟩) (AS.le_of ⟨rfl, rfl, rfl, rfl, rfl, rfl, rfl, trivial⟩ ⟨rfl, rfl, rfl, rfl, rfl, trivial⟩) ⟨(a56.1, a56.2.1, a56.2.2, IntKind.wrap .i64 (a52.2.2.2 + 1)), (), h, rfl⟩
     refine AW.block ?_
     refine AW.rgs rfl fun K hK => ?_
     obtain ⟨x59, h60, h⟩ := bS h
     refine bv rfl (v_idxF ty22 es22 rfl rfl (idx_lt h60)) ?_
     refine bv rfl (v_loadF ty9 rfl (l_cell eStr h60 (o := 0) rfl rfl)) ?_
     refine mv rfl rfl ?_
     refine b_fin hK (s' := ⟨[(1, HV.fn (.func 58) [] [HV.ptr 15014 v21 0, HV.fptr [slE eStr p0.1, slE eStr p0.2] 0, HV.ptr 15017 v36 0, HV.fptr [HV.int .i64 p1.1, HV.int .i64 p1.2.1, slE eFromLabelTo p1.2.2] 0, HV.ptr 15011 v10 0]), (6, HV.str a52.1), (7, HV.int .i64 a52.2.1), (8, HV.bool a52.2.2.1), (10, HV.str x59), (13, slE eStr p0.2), (14, HV.int .i64 ((p0.2).length : Int)), (15, HV.int .i64 a52.2.2.2)], [(15011, v10, .arr 1 31 [slE eInt a30.2.1]), (15013, v19, bldO 15013 v19 15513 w31 true a30.2.2.1), (15513, w31, bytO a30.2.2.1), (15014, v21, .arr 1 3 [HV.int .i64 a30.2.2.2]), (15017, v36, .arr 1 3 [HV.int .i64 x34])]⟩) (le_q rfl rfl) ?_
     clear hK K
     refine AW.rgs rfl fun K hK => ?_
     refine mv rfl rfl ?_
     refine mv rfl rfl ?_
     refine b_op rfl (o_callJ h (S := Int × Bool) (V := Unit) (fun a v => ⟨[(1, HV.fn (.func 58) [] [HV.ptr 15014 v21 0, HV.fptr [slE eStr p0.1, slE eStr p0.2] 0, HV.ptr 15017 v36 0, HV.fptr [HV.int .i64 p1.1, HV.int .i64 p1.2.1, slE eFromLabelTo p1.2.2] 0, HV.ptr 15011 v10 0]), (6, HV.str a52.1), (7, HV.int .i64 a52.2.1), (8, HV.bool a52.2.2.1), (10, HV.str x59), (13, slE eStr p0.2), (14, HV.int .i64 ((p0.2).length : Int)), (15, HV.int .i64 a52.2.2.2), (22, HV.tup [HV.int .i64 a.1, HV.bool a.2])], [(15011, v10, .arr 1 31 [slE eInt a30.2.1]), (15013, v19, bldO 15013 v19 15513 w31 true a30.2.2.1), (15513, w31, bytO a30.2.2.1), (15014, v21, .arr 1 3 [HV.int .i64 a30.2.2.2]), (15017, v36, .arr 1 3 [HV.int .i64 x34])]⟩) rfl rfl rfl rfl (fun a61 w62 h => ?_) (fun k63 h => ?_) )
     ·refine mv rfl rfl ?_
      refine bv rfl (v_extract rfl rfl) ?_
      refine bv rfl (v_extract rfl rfl) ?_
      refine mv rfl rfl ?_
      refine mv rfl rfl ?_
      refine b_fin hK (s' := ⟨[(1, HV.fn (.func 58) [] [HV.ptr 15014 v21 0, HV.fptr [slE eStr p0.1, slE eStr p0.2] 0, HV.ptr 15017 v36 0, HV.fptr [HV.int .i64 p1.1, HV.int .i64 p1.2.1, slE eFromLabelTo p1.2.2] 0, HV.ptr 15011 v10 0]), (6, HV.str a52.1), (7, HV.int .i64 a52.2.1), (8, HV.bool a52.2.2.1), (10, HV.str x59), (11, HV.int .i64 a61.1), (12, HV.bool a61.2), (13, slE eStr p0.2), (14, HV.int .i64 ((p0.2).length : Int)), (15, HV.int .i64 a52.2.2.2)], [(15011, v10, .arr 1 31 [slE eInt a30.2.1]), (15013, v19, bldO 15013 v19 15513 w31 true a30.2.2.1), (15513, w31, bytO a30.2.2.1), (15014, v21, .arr 1 3 [HV.int .i64 a30.2.2.2]), (15017, v36, .arr 1 3 [HV.int .i64 x34])]⟩) (le_q rfl rfl) ?_
      clear hK K
      refine AW.seqJ h (S := Bool) (V := Unit) (fun a v => ⟨[(1, HV.fn (.func 58) [] [HV.ptr 15014 v21 0, HV.fptr [slE eStr p0.1, slE eStr p0.2] 0, HV.ptr 15017 v36 0, HV.fptr [HV.int .i64 p1.1, HV.int .i64 p1.2.1, slE eFromLabelTo p1.2.2] 0, HV.ptr 15011 v10 0]), (6, HV.str a52.1), (7, HV.int .i64 a52.2.1), (8, HV.bool a52.2.2.1), (10, HV.str x59), (11, HV.int .i64 a61.1), (13, slE eStr p0.2), (14, HV.int .i64 ((p0.2).length : Int)), (15, HV.int .i64 a52.2.2.2), (34, HV.bool a)], [(15011, v10, .arr 1 31 [slE eInt a30.2.1]), (15013, v19, bldO 15013 v19 15513 w31 true a30.2.2.1), (15513, w31, bytO a30.2.2.1), (15014, v21, .arr 1 3 [HV.int .i64 a30.2.2.2]), (15017, v36, .arr 1 3 [HV.int .i64 x34])]⟩) (fun a64 w65 h => ?_) (fun k66 h => ?_)
      ·refine AW.cond rfl (fun hc => ?_) (fun hc => ?_)
       ·have h := ifT hc h
        refine AW.rg rfl fun K hK => ?_
        refine mv rfl rfl ?_
        refine mv rfl rfl ?_
        refine mv rfl rfl ?_
        refine mv rfl rfl ?_
        refine mv rfl rfl ?_
        refine b_nil (hK _ ?_)
        clear hK K
        exact to_le (s' := ⟨[(1, HV.fn (.func 58) [] [HV.ptr 15014 v21 0, HV.fptr [slE eStr p0.1, slE eStr p0.2] 0, HV.ptr 15017 v36 0, HV.fptr [HV.int .i64 p1.1, HV.int .i64 p1.2.1, slE eFromLabelTo p1.2.2] 0, HV.ptr 15011 v10 0]), (6, HV.str x59), (7, HV.int .i64 a61.1), (8, HV.bool true), (13, slE eStr p0.2), (14, HV.int .i64 ((p0.2).length : Int)), (15, HV.int .i64 a52.2.2.2)], [(15011, v10, .arr 1 31 [slE eInt a30.2.1]), (15013, v19, bldO 15013 v19 15513 w31 true a30.2.2.1), (15513, w31, bytO a30.2.2.1), (15014, v21, .arr 1 3 [HV.int .i64 a30.2.2.2]), (15017, v36, .arr 1 3 [HV.int .i64 x34])]⟩) (AS.le_of ⟨rfl, rfl, rfl, rfl, rfl, rfl, rfl, trivial⟩ ⟨rfl, rfl, rfl, rfl, rfl, trivial⟩) ⟨(x59, a61.1, true), (), h, rfl⟩
       have h := ifF (bF' hc) h
       refine AW.skip ?_
       exact to_le (s' := ⟨[(1, HV.fn (.func 58) [] [HV.ptr 15014 v21 0, HV.fptr [slE eStr p0.1, slE eStr p0.2] 0, HV.ptr 15017 v36 0, HV.fptr [HV.int .i64 p1.1, HV.int .i64 p1.2.1, slE eFromLabelTo p1.2.2] 0, HV.ptr 15011 v10 0]), (6, HV.str a52.1), (7, HV.int .i64 a52.2.1), (8, HV.bool a52.2.2.1), (13, slE eStr p0.2), (14, HV.int .i64 ((p0.2).length : Int)), (15, HV.int .i64 a52.2.2.2)], [(15011, v10, .arr 1 31 [slE eInt a30.2.1]), (15013, v19, bldO 15013 v19 15513 w31 true a30.2.2.1), (15513, w31, bytO a30.2.2.1), (15014, v21, .arr 1 3 [HV.int .i64 a30.2.2.2]), (15017, v36, .arr 1 3 [HV.int .i64 x34])]⟩) (AS.le_of ⟨rfl, rfl, rfl, rfl, rfl, rfl, rfl, trivial⟩ ⟨rfl, rfl, rfl, rfl, rfl, trivial⟩) ⟨(a52.1, a52.2.1, a52.2.2.1), (), h, rfl⟩
      refine AW.rg rfl fun K hK => ?_
      refine mv rfl rfl ?_
      refine mv rfl rfl ?_
      by_cases hg68 : a61.2 = true
      ·have h := ifT hg68 h
       refine b_T rfl rfl rfl rfl hg68 (o_val rfl (mv_val rfl rfl).2 ?_)
       refine b_T rfl rfl rfl rfl rfl (o_val rfl (v_not rfl) ?_)
       refine b_T rfl rfl rfl rfl rfl (o_val rfl (mv_val rfl rfl).2 ?_)
       by_cases hg67 : (!a52.2.2.1) = true
       ·have h := ifT hg67 h
        refine b_F rfl rfl rfl rfl rfl hg67 ?_
        refine b_F rfl rfl rfl rfl rfl rfl ?_
        refine b_F rfl rfl rfl rfl rfl rfl ?_
        refine b_T rfl rfl rfl rfl rfl (o_val rfl (v_pickT rfl rfl rfl) ?_)
        refine bv rfl (v_pickT rfl rfl rfl) ?_
        refine b_nil (hK _ ?_)
        clear hK K
        exact to_le (s' := ⟨[(1, HV.fn (.func 58) [] [HV.ptr 15014 v21 0, HV.fptr [slE eStr p0.1, slE eStr p0.2] 0, HV.ptr 15017 v36 0, HV.fptr [HV.int .i64 p1.1, HV.int .i64 p1.2.1, slE eFromLabelTo p1.2.2] 0, HV.ptr 15011 v10 0]), (6, HV.str a52.1), (7, HV.int .i64 a52.2.1), (8, HV.bool a52.2.2.1), (10, HV.str x59), (11, HV.int .i64 a61.1), (13, slE eStr p0.2), (14, HV.int .i64 ((p0.2).length : Int)), (15, HV.int .i64 a52.2.2.2), (34, HV.bool true)], [(15011, v10, .arr 1 31 [slE eInt a30.2.1]), (15013, v19, bldO 15013 v19 15513 w31 true a30.2.2.1), (15513, w31, bytO a30.2.2.1), (15014, v21, .arr 1 3 [HV.int .i64 a30.2.2.2]), (15017, v36, .arr 1 3 [HV.int .i64 x34])]⟩) (AS.le_of ⟨rfl, rfl, rfl, rfl, rfl, rfl, rfl, rfl, rfl, rfl, trivial⟩ ⟨rfl, rfl, rfl, rfl, rfl, trivial⟩) ⟨true, (), h, rfl⟩
       have h := ifF hg67 h
       refine b_T rfl rfl rfl rfl (bF hg67) (o_val rfl (mv_val rfl rfl).2 ?_)
       refine b_T rfl rfl rfl rfl rfl (o_val rfl (mv_val rfl rfl).2 ?_)
       refine b_T rfl rfl rfl rfl rfl (o_val rfl (v_bin rfl rfl b_lss) ?_)
       refine b_T rfl rfl rfl rfl rfl (o_val rfl (v_pickF rfl rfl rfl) ?_)
       refine bv rfl (v_pickT rfl rfl rfl) ?_
       refine b_nil (hK _ ?_)
       clear hK K
       exact to_le (s' := ⟨[(1, HV.fn (.func 58) [] [HV.ptr 15014 v21 0, HV.fptr [slE eStr p0.1, slE eStr p0.2] 0, HV.ptr 15017 v36 0, HV.fptr [HV.int .i64 p1.1, HV.int .i64 p1.2.1, slE eFromLabelTo p1.2.2] 0, HV.ptr 15011 v10 0]), (6, HV.str a52.1), (7, HV.int .i64 a52.2.1), (8, HV.bool a52.2.2.1), (10, HV.str x59), (11, HV.int .i64 a61.1), (13, slE eStr p0.2), (14, HV.int .i64 ((p0.2).length : Int)), (15, HV.int .i64 a52.2.2.2), (34, HV.bool (decide (a61.1 < a52.2.1)))], [(15011, v10, .arr 1 31 [slE eInt a30.2.1]), (15013, v19, bldO 15013 v19 15513 w31 true a30.2.2.1), (15513, w31, bytO a30.2.2.1), (15014, v21, .arr 1 3 [HV.int .i64 a30.2.2.2]), (15017, v36, .arr 1 3 [HV.int .i64 x34])]⟩) (AS.le_of ⟨rfl, rfl, rfl, rfl, rfl, rfl, rfl, rfl, rfl, rfl, trivial⟩ ⟨rfl, rfl, rfl, rfl, rfl, trivial⟩) ⟨decide (a61.1 < a52.2.1), (), h, rfl⟩
      have h := ifF hg68 h
      refine b_F rfl rfl rfl rfl rfl (bF hg68) ?_
      refine b_F rfl rfl rfl rfl rfl rfl ?_
      refine b_F rfl rfl rfl rfl rfl rfl ?_
      refine b_U rfl rfl rfl rfl rfl ?_
      refine b_U rfl rfl rfl rfl rfl ?_
      refine b_U rfl rfl rfl rfl rfl ?_
      refine b_F rfl rfl rfl rfl rfl rfl ?_
      refine bv rfl (v_pickF rfl rfl rfl) ?_
      refine b_nil (hK _ ?_)
      clear hK K
      exact to_le (s' := ⟨[(1, HV.fn (.func 58) [] [HV.ptr 15014 v21 0, HV.fptr [slE eStr p0.1, slE eStr p0.2] 0, HV.ptr 15017 v36 0, HV.fptr [HV.int .i64 p1.1, HV.int .i64 p1.2.1, slE eFromLabelTo p1.2.2] 0, HV.ptr 15011 v10 0]), (6, HV.str a52.1), (7, HV.int .i64 a52.2.1), (8, HV.bool a52.2.2.1), (10, HV.str x59), (11, HV.int .i64 a61.1), (13, slE eStr p0.2), (14, HV.int .i64 ((p0.2).length : Int)), (15, HV.int .i64 a52.2.2.2), (34, HV.bool false)], [(15011, v10, .arr 1 31 [slE eInt a30.2.1]), (15013, v19, bldO 15013 v19 15513 w31 true a30.2.2.1), (15513, w31, bytO a30.2.2.1), (15014, v21, .arr 1 3 [HV.int .i64 a30.2.2.2]), (15017, v36, .arr 1 3 [HV.int .i64 x34])]⟩) (AS.le_of ⟨rfl, rfl, rfl, rfl, rfl, rfl, rfl, rfl, rfl, rfl, trivial⟩ ⟨rfl, rfl, rfl, rfl, rfl, trivial⟩) ⟨false, (), h, rfl⟩
     refine ACall.of_body Tryz.func58 rfl rfl (Nat.le_of_ble_eq_true rfl) ?_
     unfold Tryz.f58
     dsimp only [enumS, Nat.reduceAdd]
     refine AW.fin ?_
     refine AW.rgs rfl fun K hK => ?_
     refine mv rfl rfl ?_
     refine mv rfl rfl ?_
     refine b_fin hK (s' := ⟨[(0, HV.str x59), (1, HV.ptr 15014 v21 0), (2, HV.fptr [slE eStr p0.1, slE eStr p0.2] 0), (3, HV.ptr 15017 v36 0), (4, HV.fptr [HV.int .i64 p1.1, HV.int .i64 p1.2.1, slE eFromLabelTo p1.2.2] 0), (5, HV.ptr 15011 v10 0)], [(15011, v10, .arr 1 31 [slE eInt a30.2.1]), (15013, v19, bldO 15013 v19 15513 w31 true a30.2.2.1), (15513, w31, bytO a30.2.2.1), (15014, v21, .arr 1 3 [HV.int .i64 a30.2.2.2]), (15017, v36, .arr 1 3 [HV.int .i64 x34])]⟩) (le_q rfl rfl) ?_
     clear hK K
     refine AW.dgs 11 follows rfl rfl fun K hK => ?_
     refine sv rfl (v_loadP ty3 rfl rfl (l_lit rfl rfl)) ?_
     refine sm rfl rfl ?_
     refine sv rfl (v_fieldAddrF fo24_0 rfl) ?_
     refine sv rfl (v_loadF ty22 rfl (l_lit rfl rfl)) ?_
     refine sv rfl (v_loadP ty3 rfl rfl (l_lit rfl rfl)) ?_
     obtain ⟨x69, h70, h⟩ := bS h
     refine sv rfl (v_idxF ty22 es22 rfl rfl (idx_lt h70)) ?_
     refine sv rfl (v_loadF ty9 rfl (l_cell eStr h70 (o := 0) rfl rfl)) ?_
     obtain ⟨h71, h⟩ := ifN h
     refine sv rfl (v_bin rfl rfl (b_sadd h71)) ?_
     obtain ⟨x72, h73, h⟩ := bS h
     refine s_op rfl rfl (ops_call rfl rfl rfl rfl (ACallD.pure0 (w_merging_weight h73)) ?_)
     refine sv rfl (v_bin rfl rfl b_add) ?_
     refine sm rfl rfl ?_
     refine s_nil ?_
     refine b_fin hK (s' := ⟨[(0, HV.str x59), (2, HV.fptr [slE eStr p0.1, slE eStr p0.2] 0), (3, HV.ptr 15017 v36 0), (4, HV.fptr [HV.int .i64 p1.1, HV.int .i64 p1.2.1, slE eFromLabelTo p1.2.2] 0), (5, HV.ptr 15011 v10 0), (9, HV.int .i64 (IntKind.wrap .i64 (a30.2.2.2 + x72)))], [(15011, v10, .arr 1 31 [slE eInt a30.2.1]), (15013, v19, bldO 15013 v19 15513 w31 true a30.2.2.1), (15513, w31, bytO a30.2.2.1), (15014, v21, .arr 1 3 [HV.int .i64 a30.2.2.2]), (15017, v36, .arr 1 3 [HV.int .i64 x34])]⟩) (le_q rfl rfl) ?_
     clear hK K
     refine AW.dgs 18 follows rfl rfl fun K hK => ?_
     refine sm rfl rfl ?_
     refine sm rfl rfl ?_
     refine sv rfl (v_neg rfl) ?_
     refine sv rfl (v_max rfl rfl rfl) ?_
     refine sv rfl (v_loadF ty27 rfl (l_litA rfl (Nat.le_of_ble_eq_true rfl) rfl)) ?_
     refine sv rfl (v_loadP ty31 rfl rfl (l_lit rfl rfl)) ?_
     refine sm rfl rfl ?_
     refine sv rfl (v_fieldAddrF fo24_0 rfl) ?_
     refine sv rfl (v_loadF ty22 rfl (l_lit rfl rfl)) ?_
     refine sv rfl (v_loadP ty3 rfl rfl (l_lit rfl rfl)) ?_
     obtain ⟨x74, h75, h⟩ := bS h
     refine sv rfl (v_idxF ty22 es22 rfl rfl (idx_lt h75)) ?_
     refine sv rfl (v_loadF ty9 rfl (l_cell eStr h75 (o := 0) rfl rfl)) ?_
     obtain ⟨h76, h⟩ := ifN h
     refine sv rfl (v_bin rfl rfl (b_sadd h76)) ?_
     obtain ⟨x77, h78, h⟩ := bS h
     refine s_op rfl rfl (ops_call rfl rfl rfl rfl (ACallD.pure0 (w_merging_step h78)) ?_)
     refine sv rfl (v_lenF rfl rfl ty31 rfl) ?_
     refine sv rfl (v_bin rfl rfl b_gtr) ?_
     refine sm rfl rfl ?_
     refine sm rfl rfl ?_
     refine s_nil ?_
     refine b_fin hK (s' := ⟨[(7, HV.int .i64 (max (IntKind.wrap .i64 (a30.2.2.2 + x72)) (IntKind.wrap .i64 (0 - (IntKind.wrap .i64 (a30.2.2.2 + x72)))))), (8, HV.bool (decide (0 < ((x77).length : Int))))], [(15011, v10, .arr 1 31 [slE eInt a30.2.1]), (15013, v19, bldO 15013 v19 15513 w31 true a30.2.2.1), (15513, w31, bytO a30.2.2.1), (15014, v21, .arr 1 3 [HV.int .i64 a30.2.2.2]), (15017, v36, .arr 1 3 [HV.int .i64 x34])]⟩) (le_q rfl rfl) ?_
     clear hK K
     refine AW.ret ?_
     refine ret_to (hs := [HV.int .i64 (max (IntKind.wrap .i64 (a30.2.2.2 + x72)) (IntKind.wrap .i64 (0 - (IntKind.wrap .i64 (a30.2.2.2 + x72))))), HV.bool (decide (0 < ((x77).length : Int)))]) (q := HV.tup [HV.int .i64 (max (IntKind.wrap .i64 (a30.2.2.2 + x72)) (IntKind.wrap .i64 (0 - (IntKind.wrap .i64 (a30.2.2.2 + x72))))), HV.bool (decide (0 < ((x77).length : Int)))]) (.inr rfl) (resT rfl (resT rfl rfl)) rfl ?_
     exact to_le (s' := ⟨[(1, HV.fn (.func 58) [] [HV.ptr 15014 v21 0, HV.fptr [slE eStr p0.1, slE eStr p0.2] 0, HV.ptr 15017 v36 0, HV.fptr [HV.int .i64 p1.1, HV.int .i64 p1.2.1, slE eFromLabelTo p1.2.2] 0, HV.ptr 15011 v10 0]), (6, HV.str a52.1), (7, HV.int .i64 a52.2.1), (8, HV.bool a52.2.2.1), (10, HV.str x59), (13, slE eStr p0.2), (14, HV.int .i64 ((p0.2).length : Int)), (15, HV.int .i64 a52.2.2.2), (22, HV.tup [HV.int .i64 (max (IntKind.wrap .i64 (a30.2.2.2 + x72)) (IntKind.wrap .i64 (0 - (IntKind.wrap .i64 (a30.2.2.2 + x72))))), HV.bool (decide (0 < ((x77).length : Int)))])], [(15011, v10, .arr 1 31 [slE eInt a30.2.1]), (15013, v19, bldO 15013 v19 15513 w31 true a30.2.2.1), (15513, w31, bytO a30.2.2.1), (15014, v21, .arr 1 3 [HV.int .i64 a30.2.2.2]), (15017, v36, .arr 1 3 [HV.int .i64 x34])]⟩) (AS.le_of ⟨rfl, rfl, rfl, rfl, rfl, rfl, rfl, rfl, rfl, trivial⟩ ⟨rfl, rfl, rfl, rfl, rfl, trivial⟩) ⟨(max (IntKind.wrap .i64 (a30.2.2.2 + x72)) (IntKind.wrap .i64 (0 - (IntKind.wrap .i64 (a30.2.2.2 + x72)))), decide (0 < ((x77).length : Int))), (), h, rfl⟩
    have hc := of_decide_eq_false hc
    have h := ifF hc h
    refine AW.exit ?_
    exact to_le (s' := ⟨[(6, HV.str a52.1), (8, HV.bool a52.2.2.1)], [(15011, v10, .arr 1 31 [slE eInt a30.2.1]), (15013, v19, bldO 15013 v19 15513 w31 true a30.2.2.1), (15513, w31, bytO a30.2.2.1), (15014, v21, .arr 1 3 [HV.int .i64 a30.2.2.2]), (15017, v36, .arr 1 3 [HV.int .i64 x34])]⟩) (AS.le_of ⟨rfl, rfl, trivial⟩ ⟨rfl, rfl, rfl, rfl, rfl, trivial⟩) ⟨(a52.1, a52.2.2.1), (), h, rfl⟩
   have hc := of_decide_eq_false hc
   have h := ifF hc h
   refine AW.exit ?_
   exact to_le (s' := ⟨[(13, HV.ptr 15013 v19 0)], [(15013, v19, bldO 15013 v19 15513 w31 true a30.2.2.1), (15513, w31, bytO a30.2.2.1)]⟩) (AS.le_of ⟨rfl, trivial⟩ ⟨rfl, rfl, trivial⟩) ⟨a30.2.2.1, w31, h, rfl⟩
  refine ACall.of_body Tryz.func53 rfl rfl (Nat.le_of_ble_eq_true rfl) ?_
  unfold Tryz.f53
  dsimp only [enumS, Nat.reduceAdd]
  refine AW.fin ?_
  refine AW.rgs rfl fun K hK => ?_
  refine mv rfl rfl ?_
  obtain ⟨h85, h⟩ := ifN h
  refine b_op rfl (o_callA rfl rfl rfl rfl (c_WriteString (id := 15013) (ver := v19) (aid := 15513) (aver := v20) (u := false) (l := ([] : List UInt8)) (m := x24) (by decide) rfl rfl h85 fun v84 => ?_) )
  refine b_fin hK (s' := ⟨[(0, HV.str x24), (2, HV.ptr 15014 v21 0), (3, HV.fptr [HV.int .i64 p1.1, HV.int .i64 p1.2.1, slE eFromLabelTo p1.2.2] 0), (4, HV.ptr 15011 v10 0)], [(15011, v10, .arr 1 31 [HV.ar 15051 v8 eInt.k 0 ((a17).length)]), (15051, v8, .arr eInt.k 3 (eInt.E a17)), (15013, v19, bldO 15013 v19 15513 v84 true (([] : List UInt8) ++ x24)), (15513, v84, bytO (([] : List UInt8) ++ x24)), (15014, v21, .arr 1 3 [HV.int .i64 0])]⟩) (le_q rfl rfl) ?_
  clear hK K
  refine AW.dgs 4 follows rfl rfl fun K hK => ?_
  refine sv rfl (v_loadP ty3 rfl rfl (l_lit rfl rfl)) ?_
  refine sm rfl rfl ?_
  obtain ⟨x86, h87, h⟩ := bS h
  refine s_op rfl rfl (ops_call rfl rfl rfl rfl (ACallD.pure0 (w_merging_weight h87)) ?_)
  refine sv rfl (v_bin rfl rfl b_add) ?_
  refine s_nil ?_
  refine b_op rfl (o_store (cs := [HV.int .i64 (IntKind.wrap .i64 (0 + x86))]) (zs := [HV.int .i64 (IntKind.wrap .i64 (0 + x86))]) rfl rfl rfl ty3 rfl rfl rfl rfl rfl ?_)
  refine b_fin hK (s' := ⟨[(0, HV.str x24), (3, HV.fptr [HV.int .i64 p1.1, HV.int .i64 p1.2.1, slE eFromLabelTo p1.2.2] 0), (4, HV.ptr 15011 v10 0)], [(15011, v10, .arr 1 31 [HV.ar 15051 v8 eInt.k 0 ((a17).length)]), (15051, v8, .arr eInt.k 3 (eInt.E a17)), (15013, v19, bldO 15013 v19 15513 v84 true (([] : List UInt8) ++ x24)), (15513, v84, bytO (([] : List UInt8) ++ x24)), (15014, v21, .arr 1 3 [HV.int .i64 (IntKind.wrap .i64 (0 + x86))])]⟩) (le_q rfl rfl) ?_
  clear hK K
  refine AW.to (to_fill 2 [(15051, v8, .arr eInt.k 3 (eInt.E a17))] ⟨[(0, HV.str x24), (3, HV.fptr [HV.int .i64 p1.1, HV.int .i64 p1.2.1, slE eFromLabelTo p1.2.2] 0), (4, HV.ptr 15011 v10 0)], [(15011, v10, .arr 1 31 [slE eInt a17]), (15013, v19, bldO 15013 v19 15513 v84 true (([] : List UInt8) ++ x24)), (15513, v84, bytO (([] : List UInt8) ++ x24)), (15014, v21, .arr 1 3 [HV.int .i64 (IntKind.wrap .i64 (0 + x86))])]⟩ ⟨⟨_, rfl, rfl⟩, ⟨_, rfl, rfl⟩, ⟨_, rfl, rfl⟩, trivial⟩ ⟨.inr ⟨_, _, _, rfl, congrArg (AObj.arr 1 31) (congrArg (fun z : HV => [z]) (frz_slE eInt (D := [(15051, v8, .arr eInt.k 3 (eInt.E a17))]) (l := a17) rfl fun _ _ => rfl).symm)⟩, .inl rfl, .inl rfl, .inl rfl, trivial⟩ ⟨rfl, trivial⟩ ⟨rfl, trivial⟩ ?_)
  refine AW.rg rfl fun K hK => ?_
  refine bv rfl (v_loadF ty27 rfl (l_litA rfl (Nat.le_of_ble_eq_true rfl) rfl)) ?_
  refine bv rfl (v_loadP ty31 rfl rfl (l_lit rfl rfl)) ?_
  refine mv rfl rfl ?_
  obtain ⟨x88, h89, h⟩ := bS h
  refine b_op rfl (o_call rfl rfl rfl rfl (ACallD.pure0 (w_merging_step h89)) ?_)
  refine b_op rfl (o_store (cs := [slE eInt x88]) (zs := [slE eInt x88]) rfl rfl rfl ty31 rfl rfl rfl rfl rfl ?_)
  refine b_nil (hK _ ?_)
  clear hK K
  refine to_refl ?_
  refine ret_to (hs := []) (q := HV.tup []) (.inl rfl) rfl rfl ?_
  exact to_le (s' := ⟨[(2, slE eInt p2), (3, HV.fptr [slE eStr p0.1, slE eStr p0.2] 0), (4, HV.fptr [HV.int .i64 p1.1, HV.int .i64 p1.2.1, slE eFromLabelTo p1.2.2] 0), (11, HV.ptr 15011 v10 0), (13, HV.ptr 15013 v19 0), (14, HV.ptr 15014 v21 0), (15, HV.fn (.func 53) [] [HV.ptr 15013 v19 0, HV.ptr 15014 v21 0, HV.fptr [HV.int .i64 p1.1, HV.int .i64 p1.2.1, slE eFromLabelTo p1.2.2] 0, HV.ptr 15011 v10 0]), (71, HV.tup [])], [(15011, v10, .arr 1 31 [slE eInt x88]), (15013, v19, bldO 15013 v19 15513 v84 true (([] : List UInt8) ++ x24)), (15513, v84, bytO (([] : List UInt8) ++ x24)), (15014, v21, .arr 1 3 [HV.int .i64 (IntKind.wrap .i64 (0 + x86))])]⟩) (AS.le_of ⟨rfl, rfl, rfl, rfl, rfl, rfl, rfl, rfl, trivial⟩ ⟨rfl, rfl, rfl, rfl, trivial⟩) ⟨(x88, IntKind.wrap .i64 (0 + x86)), v84, h, rfl⟩
 refine AW.rgs rfl fun K hK => ?_
 refine bv rfl (v_bin rfl rfl b_lss) ?_
 refine b_fin hK (s' := ⟨[(2, slE eInt p2), (3, HV.fptr [slE eStr p0.1, slE eStr p0.2] 0), (4, HV.fptr [HV.int .i64 p1.1, HV.int .i64 p1.2.1, slE eFromLabelTo p1.2.2] 0), (11, HV.ptr 15011 v10 0), (53, HV.int .i64 (((List.replicate (p1.2.1).toNat (0 : Int)).length : Nat) : Int)), (54, HV.int .i64 a11.1), (55, HV.bool (decide (a11.1 < (((List.replicate (p1.2.1).toNat (0 : Int)).length : Nat) : Int))))], [(15011, v10, .arr 1 31 [HV.ar 15051 v8 eInt.k 0 ((a11.2).length)]), (15051, v8, .arr eInt.k 3 (eInt.E a11.2))]⟩) (le_q rfl rfl) ?_
 clear hK K
 refine AW.cseq rfl (fun hc => ?_) (fun hc => ?_)
 ·have hc := of_decide_eq_true hc
  have h := ifT hc h
  refine AW.skip ?_
  refine AW.seq (AW.block ?_)
  refine AW.rgs rfl fun K hK => ?_
  refine mv rfl rfl ?_
  refine mv rfl rfl ?_
  refine b_fin hK (s' := ⟨[(2, slE eInt p2), (3, HV.fptr [slE eStr p0.1, slE eStr p0.2] 0), (4, HV.fptr [HV.int .i64 p1.1, HV.int .i64 p1.2.1, slE eFromLabelTo p1.2.2] 0), (11, HV.ptr 15011 v10 0), (12, HV.int .i64 a11.1), (53, HV.int .i64 (((List.replicate (p1.2.1).toNat (0 : Int)).length : Nat) : Int)), (54, HV.int .i64 a11.1)], [(15011, v10, .arr 1 31 [HV.ar 15051 v8 eInt.k 0 ((a11.2).length)]), (15051, v8, .arr eInt.k 3 (eInt.E a11.2))]⟩) (le_q rfl rfl) ?_
  clear hK K
  refine AW.rg rfl fun K hK => ?_
  refine bv rfl (v_loadP ty31 rfl rfl (l_lit rfl rfl)) ?_
  refine mv rfl rfl ?_
  refine mv rfl rfl ?_
  obtain ⟨x15, h16, h⟩ := bS h
  refine bv rfl (v_idxA ty31 es31 rfl rfl (idx_lt h16) rfl) ?_
  refine b_op rfl (o_storeE eInt (l := a11.2) (j := a11.1) (v := a11.1) rfl rfl rfl ty3 rfl rfl rfl (idx_lt h16) ?_)
  refine b_fin hK (s' := ⟨[(2, slE eInt p2), (3, HV.fptr [slE eStr p0.1, slE eStr p0.2] 0), (4, HV.fptr [HV.int .i64 p1.1, HV.int .i64 p1.2.1, slE eFromLabelTo p1.2.2] 0), (11, HV.ptr 15011 v10 0), (53, HV.int .i64 (((List.replicate (p1.2.1).toNat (0 : Int)).length : Nat) : Int)), (54, HV.int .i64 a11.1)], [(15011, v10, .arr 1 31 [HV.ar 15051 v8 eInt.k 0 (((a11.2).set (a11.1).toNat a11.1).length)]), (15051, v8, .arr eInt.k 3 (eInt.E ((a11.2).set (a11.1).toNat a11.1)))]⟩) (AS.le_of ⟨rfl, rfl, rfl, rfl, rfl, rfl, trivial⟩ ⟨hle rfl (by first | rfl | simp only [List.length_set, sortI_len, sortS_len]), rfl, trivial⟩) ?_
  clear hK K
  refine AW.rg rfl fun K hK => ?_
  refine bv rfl (v_bin rfl rfl b_add) ?_
  refine mv rfl rfl ?_
  refine b_nil (hK _ ?_)
  clear hK K
  exact to_le (s' := ⟨[(2, slE eInt p2), (3, HV.fptr [slE eStr p0.1, slE eStr p0.2] 0), (4, HV.fptr [HV.int .i64 p1.1, HV.int .i64 p1.2.1, slE eFromLabelTo p1.2.2] 0), (11, HV.ptr 15011 v10 0), (53, HV.int .i64 (((List.replicate (p1.2.1).toNat (0 : Int)).length : Nat) : Int)), (54, HV.int .i64 (IntKind.wrap .i64 (a11.1 + 1)))], [(15011, v10, .arr 1 31 [HV.ar 15051 v8 eInt.k 0 (((a11.2).set (a11.1).toNat a11.1).length)]), (15051, v8, .arr eInt.k 3 (eInt.E ((a11.2).set (a11.1).toNat a11.1)))]⟩) (AS.le_of ⟨rfl, rfl, rfl, rfl, rfl, rfl, trivial⟩ ⟨rfl, rfl, trivial⟩) ⟨(IntKind.wrap .i64 (a11.1 + 1), (a11.2).set (a11.1).toNat a11.1), (), h, rfl⟩
 have hc := of_decide_eq_false hc
 have h := ifF hc h
 refine AW.exit ?_
 exact to_le (s' := ⟨[(2, slE eInt p2), (3, HV.fptr [slE eStr p0.1, slE eStr p0.2] 0), (4, HV.fptr [HV.int .i64 p1.1, HV.int .i64 p1.2.1, slE eFromLabelTo p1.2.2] 0), (11, HV.ptr 15011 v10 0)], [(15011, v10, .arr 1 31 [HV.ar 15051 v8 eInt.k 0 ((a11.2).length)]), (15051, v8, .arr eInt.k 3 (eInt.E a11.2))]⟩) (AS.le_of ⟨rfl, rfl, rfl, rfl, trivial⟩ ⟨rfl, rfl, trivial⟩) ⟨a11.2, (), h, rfl⟩

end Go.AW

namespace Go.AW
open Go Go.Proofs
set_option linter.unusedVariables false
set_option maxHeartbeats 1600000 in
set_option maxRecDepth 100000 in
theorem w_integer_Of {p0 : Int} {r : TNegMag} (h : m_integer_Of p0 = some r) : Pure Tryz.prog 23 [HV.int .i64 p0] (· = HV.agg [HV.bool r.1, HV.str r.2]) := by
 unfold m_integer_Of at h
 refine Pure.of_body Tryz.func23 rfl rfl (Nat.le_of_ble_eq_true rfl) fun hf => ?_
 unfold Tryz.f23
 dsimp only [enumS, Nat.reduceAdd]
 refine AW.rgs rfl fun K hK => ?_
 refine b_op rfl (o_alloc (fid := 23) (zs := [HV.bool false, HV.str ([] : List UInt8)]) 23002 rfl rfl ty42 rfl (fun v1 => ?_))
 refine b_fin hK (s' := ⟨[(0, HV.int .i64 p0), (2, HV.ptr 23002 v1 0)], [(23002, v1, .arr 2 42 [HV.bool false, HV.str ([] : List UInt8)])]⟩) (le_q rfl rfl) ?_
 clear hK K
 refine AW.rgs rfl fun K hK => ?_
 refine mv rfl rfl ?_
 refine bv rfl (v_convI ty3 ty103 rfl) ?_
 refine mv rfl rfl ?_
 refine b_fin hK (s' := ⟨[(0, HV.int .i64 p0), (2, HV.ptr 23002 v1 0), (3, HV.int .u64 (IntKind.wrap .u64 p0))], [(23002, v1, .arr 2 42 [HV.bool false, HV.str ([] : List UInt8)])]⟩) (le_q rfl rfl) ?_
 clear hK K
 refine AW.seq ?_
 refine AW.rgs rfl fun K hK => ?_
 refine mv rfl rfl ?_
 refine bv rfl (v_bin rfl rfl b_lss) ?_
 refine b_fin hK (s' := ⟨[(0, HV.int .i64 p0), (2, HV.ptr 23002 v1 0), (3, HV.int .u64 (IntKind.wrap .u64 p0)), (7, HV.bool (decide (p0 < 0)))], [(23002, v1, .arr 2 42 [HV.bool false, HV.str ([] : List UInt8)])]⟩) (le_q rfl rfl) ?_
 clear hK K
 refine AW.lastJ h (by first | exact up_then | exact up_to) (S := Int) (V := Unit) (fun a v => ⟨[(0, HV.int .i64 p0), (2, HV.ptr 23002 v1 0), (3, HV.int .u64 a)], [(23002, v1, .arr 2 42 [HV.bool false, HV.str ([] : List UInt8)])]⟩) (fun a2 w3 h => ?_) (fun k4 h => ?_)
 ·refine AW.rgs rfl fun K hK => ?_
  refine mv rfl rfl ?_
  refine bv rfl (v_bin rfl rfl b_lss) ?_
  refine mv rfl rfl ?_
  refine bv rfl (v_convI ty103 ty105 rfl) ?_
  refine mv rfl rfl ?_
  refine bv rfl (v_bin rfl rfl (b_shr (by decide))) ?_
  refine bv rfl (v_convI ty103 ty105 rfl) ?_
  refine b_op rfl (o_bsl rfl rfl (as_of (cs := [HV.int .u32 (IntKind.wrap .u32 a2), HV.int .u32 (IntKind.wrap .u32 (Int.fdiv a2 (2 ^ (min (32 : Int).toNat (IntKind.bits .u64)))))]) ty107 ty105 rfl rfl rfl rfl rfl) ?_)
  obtain ⟨x5, h6, h⟩ := bS h
  refine b_op rfl (o_call rfl rfl rfl rfl (ACallD.pure0 (w_integer_number h6)) ?_)
  refine b_op rfl (o_store (cs := [HV.bool x5.1, HV.str x5.2]) (zs := [HV.bool x5.1, HV.str x5.2]) rfl rfl rfl ty42 rfl rfl rfl rfl rfl ?_)
  refine b_fin hK (s' := ⟨[(2, HV.ptr 23002 v1 0)], [(23002, v1, .arr 2 42 [HV.bool x5.1, HV.str x5.2])]⟩) (le_q rfl rfl) ?_
  clear hK K
  refine AW.ret ?_
  have h := Option.some.inj h
  subst h
  exact ret_pure (hs := [HV.agg [HV.bool x5.1, HV.str x5.2]]) (q := HV.agg [HV.bool x5.1, HV.str x5.2]) (.inr rfl) (resP ty42 rfl rfl (l_litA rfl (Nat.le_of_ble_eq_true rfl) rfl) rfl) rfl ⟨trivial, trivial, trivial⟩
 refine AW.cond rfl (fun hc => ?_) (fun hc => ?_)
 ·have hc := of_decide_eq_true hc
  have h := ifT hc h
  refine AW.rg rfl fun K hK => ?_
  refine mv rfl rfl ?_
  refine bv rfl (v_neg rfl) ?_
  refine mv rfl rfl ?_
  refine b_nil (hK _ ?_)
  clear hK K
  exact to_le (s' := ⟨[(0, HV.int .i64 p0), (2, HV.ptr 23002 v1 0), (3, HV.int .u64 (IntKind.wrap .u64 (0 - (IntKind.wrap .u64 p0))))], [(23002, v1, .arr 2 42 [HV.bool false, HV.str ([] : List UInt8)])]⟩) (AS.le_of ⟨rfl, rfl, rfl, trivial⟩ ⟨rfl, trivial⟩) ⟨IntKind.wrap .u64 (0 - (IntKind.wrap .u64 p0)), (), h, rfl⟩
 have hc := of_decide_eq_false hc
 have h := ifF hc h
 refine AW.skip ?_
 exact to_le (s' := ⟨[(0, HV.int .i64 p0), (2, HV.ptr 23002 v1 0), (3, HV.int .u64 (IntKind.wrap .u64 p0))], [(23002, v1, .arr 2 42 [HV.bool false, HV.str ([] : List UInt8)])]⟩) (AS.le_of ⟨rfl, rfl, rfl, trivial⟩ ⟨rfl, trivial⟩) ⟨IntKind.wrap .u64 p0, (), h, rfl⟩

set_option maxHeartbeats 1600000 in
set_option maxRecDepth 100000 in
theorem w_integer_Neg {p0 : TNegMag} {r : TNegMag} (h : m_integer_Neg p0 = some r) : Pure Tryz.prog 121 [HV.agg [HV.bool p0.1, HV.str p0.2]] (· = HV.agg [HV.bool r.1, HV.str r.2]) := by
 unfold m_integer_Neg at h
 refine Pure.of_body Tryz.func121 rfl rfl (Nat.le_of_ble_eq_true rfl) fun hf => ?_
 unfold Tryz.f121
 dsimp only [enumS, Nat.reduceAdd]
 refine AW.rgs rfl fun K hK => ?_
 refine b_op rfl (o_box rfl rfl rfl ?_)
 refine b_op rfl (o_alloc (fid := 121) (zs := [HV.bool false, HV.str ([] : List UInt8)]) 121002 rfl rfl ty42 rfl (fun v1 => ?_))
 refine b_fin hK (s' := ⟨[(1, HV.fptr [HV.bool p0.1, HV.str p0.2] 0), (2, HV.ptr 121002 v1 0)], [(121002, v1, .arr 2 42 [HV.bool false, HV.str ([] : List UInt8)])]⟩) (le_q rfl rfl) ?_
 clear hK K
 refine AW.dgs 6 follows rfl rfl fun K hK => ?_
 refine sv rfl (v_fieldAddrF fo42_0 rfl) ?_
 refine sv rfl (v_loadF ty4 rfl (l_lit rfl rfl)) ?_
 refine sv rfl (v_not rfl) ?_
 refine sv rfl (v_loadF ty42 rfl (l_litA rfl (Nat.le_of_ble_eq_true rfl) rfl)) ?_
 obtain ⟨x2, h3, h⟩ := bS h
 refine s_op rfl rfl (ops_call rfl rfl rfl rfl (ACallD.pure0 (w_integer_digits h3)) ?_)
 obtain ⟨x4, h5, h⟩ := bS h
 refine s_op rfl rfl (ops_call rfl rfl rfl rfl (ACallD.pure0 (w_integer_number h5)) ?_)
 refine s_nil ?_
 refine b_op rfl (o_store (cs := [HV.bool x4.1, HV.str x4.2]) (zs := [HV.bool x4.1, HV.str x4.2]) rfl rfl rfl ty42 rfl rfl rfl rfl rfl ?_)
 refine b_fin hK (s' := ⟨[(2, HV.ptr 121002 v1 0)], [(121002, v1, .arr 2 42 [HV.bool x4.1, HV.str x4.2])]⟩) (le_q rfl rfl) ?_
 clear hK K
 refine AW.ret ?_
 have h := Option.some.inj h
 subst h
 exact ret_pure (hs := [HV.agg [HV.bool x4.1, HV.str x4.2]]) (q := HV.agg [HV.bool x4.1, HV.str x4.2]) (.inr rfl) (resP ty42 rfl rfl (l_litA rfl (Nat.le_of_ble_eq_true rfl) rfl) rfl) rfl ⟨trivial, trivial, trivial⟩

set_option maxHeartbeats 1600000 in
set_option maxRecDepth 100000 in
theorem w_integer_add {p0 : List (Int)} {p1 : List (Int)} {r : (List (Int))} (h : m_integer_add p0 p1 = some r) : Pure Tryz.prog 171 [slE (encM (HV.int .u32)) p0, slE (encM (HV.int .u32)) p1] (· = slE (encM (HV.int .u32)) r) := by
 unfold m_integer_add at h
 refine Pure.of_body Tryz.func171 rfl rfl (Nat.le_of_ble_eq_true rfl) fun hf => ?_
 unfold Tryz.f171
 dsimp only [enumS, Nat.reduceAdd]
 refine AW.rgs rfl fun K hK => ?_
 refine mv rfl rfl ?_
 refine b_fin hK (s' := ⟨[(0, slE (encM (HV.int .u32)) p0), (1, slE (encM (HV.int .u32)) p1)], []⟩) (le_q rfl rfl) ?_
 clear hK K
 refine AW.seq ?_
 refine AW.rgs rfl fun K hK => ?_
 refine mv rfl rfl ?_
 refine bv rfl (v_lenF rfl rfl ty107 rfl) ?_
 refine mv rfl rfl ?_
 refine bv rfl (v_lenF rfl rfl ty107 rfl) ?_
 refine bv rfl (v_bin rfl rfl b_lss) ?_
 refine b_fin hK (s' := ⟨[(0, slE (encM (HV.int .u32)) p0), (1, slE (encM (HV.int .u32)) p1), (13, HV.bool (decide (((p0).length : Int) < ((p1).length : Int))))], []⟩) (le_q rfl rfl) ?_
 clear hK K
 refine AW.lastJ h (by first | exact up_then | exact up_to) (S := (List Int) × (List Int)) (V := Unit) (fun a v => ⟨[(0, slE (encM (HV.int .u32)) a.1), (1, slE (encM (HV.int .u32)) a.2)], []⟩) (fun a1 w2 h => ?_) (fun k3 h => ?_)
 ·refine AW.rgs rfl fun K hK => ?_
  refine mv rfl rfl ?_
  refine bv rfl (v_lenF rfl rfl ty107 rfl) ?_
  refine bv rfl (v_bin rfl rfl b_add) ?_
  obtain ⟨h5, h⟩ := ifN h
  refine b_op rfl (o_makeE (fid := 171) (encM (HV.int .u32)) (0 : Int) 171019 rfl rfl ty107 rfl rfl ty105 rfl rfl h5 (fun v4 => ?_))
  refine mv rfl rfl ?_
  refine b_fin hK (s' := ⟨[(0, slE (encM (HV.int .u32)) a1.1), (1, slE (encM (HV.int .u32)) a1.2), (5, HV.ar 171019 v4 (encM (HV.int .u32)).k 0 ((List.replicate (IntKind.wrap .i64 (((a1.1).length : Int) + 1)).toNat (0 : Int)).length))], [(171019, v4, .arr (encM (HV.int .u32)).k 105 ((encM (HV.int .u32)).E (List.replicate (IntKind.wrap .i64 (((a1.1).length : Int) + 1)).toNat (0 : Int))))]⟩) (le_q rfl rfl) ?_
  clear hK K
  refine AW.rgs rfl fun K hK => ?_
  refine mv rfl rfl ?_
  refine b_fin hK (s' := ⟨[(0, slE (encM (HV.int .u32)) a1.1), (1, slE (encM (HV.int .u32)) a1.2), (5, HV.ar 171019 v4 (encM (HV.int .u32)).k 0 ((List.replicate (IntKind.wrap .i64 (((a1.1).length : Int) + 1)).toNat (0 : Int)).length)), (6, HV.int .u64 0)], [(171019, v4, .arr (encM (HV.int .u32)).k 105 ((encM (HV.int .u32)).E (List.replicate (IntKind.wrap .i64 (((a1.1).length : Int) + 1)).toNat (0 : Int))))]⟩) (le_q rfl rfl) ?_
  clear hK K
  refine AW.seq ?_
  refine AW.rgs rfl fun K hK => ?_
  refine mv rfl rfl ?_
  refine bv rfl (v_lenF rfl rfl ty107 rfl) ?_
  refine mv rfl rfl ?_
  refine b_fin hK (s' := ⟨[(0, slE (encM (HV.int .u32)) a1.1), (1, slE (encM (HV.int .u32)) a1.2), (5, HV.ar 171019 v4 (encM (HV.int .u32)).k 0 ((List.replicate (IntKind.wrap .i64 (((a1.1).length : Int) + 1)).toNat (0 : Int)).length)), (6, HV.int .u64 0), (21, HV.int .i64 ((a1.1).length : Int)), (22, HV.int .i64 0)], [(171019, v4, .arr (encM (HV.int .u32)).k 105 ((encM (HV.int .u32)).E (List.replicate (IntKind.wrap .i64 (((a1.1).length : Int) + 1)).toNat (0 : Int))))]⟩) (le_q rfl rfl) ?_
  clear hK K
  refine AW.lpX h (by first | exact up_then | exact up_to) (S := Int × Int × (List Int)) (V := Unit) (fun a v => ⟨[(0, slE (encM (HV.int .u32)) a1.1), (1, slE (encM (HV.int .u32)) a1.2), (5, HV.ar 171019 v4 (encM (HV.int .u32)).k 0 ((a.2.2).length)), (6, HV.int .u64 a.1), (21, HV.int .i64 ((a1.1).length : Int)), (22, HV.int .i64 a.2.1)], [(171019, v4, .arr (encM (HV.int .u32)).k 105 ((encM (HV.int .u32)).E a.2.2))]⟩) ?_ (X := (List Int) × Int) (W := Unit) (fun a v => ⟨[(0, slE (encM (HV.int .u32)) a1.1), (5, HV.ar 171019 v4 (encM (HV.int .u32)).k 0 ((a.1).length)), (6, HV.int .u64 a.2)], [(171019, v4, .arr (encM (HV.int .u32)).k 105 ((encM (HV.int .u32)).E a.1))]⟩) (fun a19 w20 h => ?_) (fun a6 w7 st8 h => ?_)
  ·exact to_le (s' := ⟨[(0, slE (encM (HV.int .u32)) a1.1), (1, slE (encM (HV.int .u32)) a1.2), (5, HV.ar 171019 v4 (encM (HV.int .u32)).k 0 ((List.replicate (IntKind.wrap .i64 (((a1.1).length : Int) + 1)).toNat (0 : Int)).length)), (6, HV.int .u64 0), (21, HV.int .i64 ((a1.1).length : Int)), (22, HV.int .i64 0)], [(171019, v4, .arr (encM (HV.int .u32)).k 105 ((encM (HV.int .u32)).E (List.replicate (IntKind.wrap .i64 (((a1.1).length : Int) + 1)).toNat (0 : Int))))]⟩) (AS.le_of ⟨rfl, rfl, rfl, rfl, rfl, rfl, trivial⟩ ⟨rfl, trivial⟩) ⟨(), rfl⟩
  ·refine AW.rgs rfl fun K hK => ?_
   refine mv rfl rfl ?_
   refine mv rfl rfl ?_
   refine bv rfl (v_lenF rfl rfl ty107 rfl) ?_
   refine mv rfl rfl ?_
   refine bv rfl (v_convI ty103 ty105 rfl) ?_
   obtain ⟨x21, h22, h⟩ := bS h
   refine bv rfl (v_idxA ty107 es107 rfl rfl (idx_lt h22) rfl) ?_
   refine b_op rfl (o_storeE (encM (HV.int .u32)) (l := a19.1) (j := ((a1.1).length : Int)) (v := IntKind.wrap .u32 a19.2) rfl rfl rfl ty105 rfl rfl rfl (idx_lt h22) ?_)
   refine b_fin hK (s' := ⟨[(5, HV.ar 171019 v4 (encM (HV.int .u32)).k 0 (((a19.1).set (((a1.1).length : Int)).toNat (IntKind.wrap .u32 a19.2)).length))], [(171019, v4, .arr (encM (HV.int .u32)).k 105 ((encM (HV.int .u32)).E ((a19.1).set (((a1.1).length : Int)).toNat (IntKind.wrap .u32 a19.2))))]⟩) (AS.le_of ⟨arl (by first | rfl | simp only [List.length_set, sortI_len, sortS_len]), trivial⟩ ⟨rfl, trivial⟩) ?_
   clear hK K
   refine AW.to (to_frz 2 [(171019, v4, .arr (encM (HV.int .u32)).k 105 ((encM (HV.int .u32)).E ((a19.1).set (((a1.1).length : Int)).toNat (IntKind.wrap .u32 a19.2))))] ⟨[(5, slE (encM (HV.int .u32)) ((a19.1).set (((a1.1).length : Int)).toNat (IntKind.wrap .u32 a19.2)))], []⟩ ⟨⟨_, rfl, frz_slE (encM (HV.int .u32)) (l := (a19.1).set (((a1.1).length : Int)).toNat (IntKind.wrap .u32 a19.2)) rfl fun _ _ => rfl⟩, trivial⟩ trivial ⟨rfl, trivial⟩ ⟨rfl, trivial⟩ ?_)
   refine AW.rgs rfl fun K hK => ?_
   refine mv rfl rfl ?_
   obtain ⟨x23, h24, h⟩ := bS h
   refine b_op rfl (o_call rfl rfl rfl rfl (ACallD.pure0 (w_integer_trim h24)) ?_)
   refine mv rfl rfl ?_
   refine b_fin hK (s' := ⟨[(4, slE (encM (HV.int .u32)) x23)], []⟩) (le_q rfl rfl) ?_
   clear hK K
   refine AW.ret ?_
   have h := Option.some.inj h
   subst h
   exact ret_pure (hs := [slE (encM (HV.int .u32)) x23]) (q := slE (encM (HV.int .u32)) x23) (.inr rfl) (resT rfl rfl) rfl (clean_slE fun _ _ => ⟨trivial, trivial⟩)
  refine AW.rgs rfl fun K hK => ?_
  refine bv rfl (v_bin rfl rfl b_lss) ?_
  refine b_fin hK (s' := ⟨[(0, slE (encM (HV.int .u32)) a1.1), (1, slE (encM (HV.int .u32)) a1.2), (5, HV.ar 171019 v4 (encM (HV.int .u32)).k 0 ((a6.2.2).length)), (6, HV.int .u64 a6.1), (21, HV.int .i64 ((a1.1).length : Int)), (22, HV.int .i64 a6.2.1), (23, HV.bool (decide (a6.2.1 < ((a1.1).length : Int))))], [(171019, v4, .arr (encM (HV.int .u32)).k 105 ((encM (HV.int .u32)).E a6.2.2))]⟩) (le_q rfl rfl) ?_
  clear hK K
  refine AW.cseq rfl (fun hc => ?_) (fun hc => ?_)
  ·have hc := of_decide_eq_true hc
   have h := ifT hc h
   refine AW.skip ?_
   refine AW.seq (AW.block ?_)
   refine AW.rgs rfl fun K hK => ?_
   refine mv rfl rfl ?_
   refine mv rfl rfl ?_
   refine b_fin hK (s' := ⟨[(0, slE (encM (HV.int .u32)) a1.1), (1, slE (encM (HV.int .u32)) a1.2), (5, HV.ar 171019 v4 (encM (HV.int .u32)).k 0 ((a6.2.2).length)), (6, HV.int .u64 a6.1), (7, HV.int .i64 a6.2.1), (21, HV.int .i64 ((a1.1).length : Int)), (22, HV.int .i64 a6.2.1)], [(171019, v4, .arr (encM (HV.int .u32)).k 105 ((encM (HV.int .u32)).E a6.2.2))]⟩) (le_q rfl rfl) ?_
   clear hK K
   refine AW.rgs rfl fun K hK => ?_
   refine mv rfl rfl ?_
   refine mv rfl rfl ?_
   obtain ⟨x10, h11, h⟩ := bS h
   refine bv rfl (v_idxF ty107 es107 rfl rfl (idx_lt h11)) ?_
   refine bv rfl (v_loadF ty105 rfl (l_cell (encM (HV.int .u32)) h11 (o := 0) rfl rfl)) ?_
   refine bv rfl (v_convI ty105 ty103 rfl) ?_
   refine mv rfl rfl ?_
   refine bv rfl (v_bin rfl rfl b_add) ?_
   refine mv rfl rfl ?_
   refine b_fin hK (s' := ⟨[(0, slE (encM (HV.int .u32)) a1.1), (1, slE (encM (HV.int .u32)) a1.2), (5, HV.ar 171019 v4 (encM (HV.int .u32)).k 0 ((a6.2.2).length)), (7, HV.int .i64 a6.2.1), (8, HV.int .u64 (IntKind.wrap .u64 ((IntKind.wrap .u64 x10) + a6.1))), (21, HV.int .i64 ((a1.1).length : Int)), (22, HV.int .i64 a6.2.1)], [(171019, v4, .arr (encM (HV.int .u32)).k 105 ((encM (HV.int .u32)).E a6.2.2))]⟩) (le_q rfl rfl) ?_
   clear hK K
   refine AW.seq ?_
   refine AW.rgs rfl fun K hK => ?_
   refine mv rfl rfl ?_
   refine mv rfl rfl ?_
   refine bv rfl (v_lenF rfl rfl ty107 rfl) ?_
   refine bv rfl (v_bin rfl rfl b_lss) ?_
   refine b_fin hK (s' := ⟨[(0, slE (encM (HV.int .u32)) a1.1), (1, slE (encM (HV.int .u32)) a1.2), (5, HV.ar 171019 v4 (encM (HV.int .u32)).k 0 ((a6.2.2).length)), (7, HV.int .i64 a6.2.1), (8, HV.int .u64 (IntKind.wrap .u64 ((IntKind.wrap .u64 x10) + a6.1))), (21, HV.int .i64 ((a1.1).length : Int)), (22, HV.int .i64 a6.2.1), (35, HV.bool (decide (a6.2.1 < ((a1.2).length : Int))))], [(171019, v4, .arr (encM (HV.int .u32)).k 105 ((encM (HV.int .u32)).E a6.2.2))]⟩) (le_q rfl rfl) ?_
   clear hK K
   refine AW.lastJ h (by first | exact up_then | exact up_to) (S := Int) (V := Unit) (fun a v => ⟨[(0, slE (encM (HV.int .u32)) a1.1), (1, slE (encM (HV.int .u32)) a1.2), (5, HV.ar 171019 v4 (encM (HV.int .u32)).k 0 ((a6.2.2).length)), (7, HV.int .i64 a6.2.1), (8, HV.int .u64 a), (21, HV.int .i64 ((a1.1).length : Int)), (22, HV.int .i64 a6.2.1)], [(171019, v4, .arr (encM (HV.int .u32)).k 105 ((encM (HV.int .u32)).E a6.2.2))]⟩) (fun a12 w13 h => ?_) (fun k14 h => ?_)
   ·refine AW.rg rfl fun K hK => ?_
    refine mv rfl rfl ?_
    refine mv rfl rfl ?_
    refine mv rfl rfl ?_
    refine bv rfl (v_convI ty103 ty105 rfl) ?_
    refine mv rfl rfl ?_
    refine bv rfl (v_bin rfl rfl (b_shr (by decide))) ?_
    obtain ⟨x15, h16, h⟩ := bS h
    refine bv rfl (v_idxA ty107 es107 rfl rfl (idx_lt h16) rfl) ?_
    refine b_op rfl (o_storeE (encM (HV.int .u32)) (l := a6.2.2) (j := a6.2.1) (v := IntKind.wrap .u32 a12) rfl rfl rfl ty105 rfl rfl rfl (idx_lt h16) ?_)
    refine mv rfl rfl ?_
    refine b_fin hK (s' := ⟨[(0, slE (encM (HV.int .u32)) a1.1), (1, slE (encM (HV.int .u32)) a1.2), (5, HV.ar 171019 v4 (encM (HV.int .u32)).k 0 (((a6.2.2).set (a6.2.1).toNat (IntKind.wrap .u32 a12)).length)), (6, HV.int .u64 (Int.fdiv a12 (2 ^ (min (32 : Int).toNat (IntKind.bits .u64))))), (21, HV.int .i64 ((a1.1).length : Int)), (22, HV.int .i64 a6.2.1)], [(171019, v4, .arr (encM (HV.int .u32)).k 105 ((encM (HV.int .u32)).E ((a6.2.2).set (a6.2.1).toNat (IntKind.wrap .u32 a12))))]⟩) (AS.le_of ⟨rfl, rfl, arl (by first | rfl | simp only [List.length_set, sortI_len, sortS_len]), rfl, rfl, rfl, trivial⟩ ⟨rfl, trivial⟩) ?_
    clear hK K
    refine AW.rg rfl fun K hK => ?_
    refine bv rfl (v_bin rfl rfl b_add) ?_
    refine mv rfl rfl ?_
    refine b_nil (hK _ ?_)
    clear hK K
    exact to_le (s' := ⟨[(0, slE (encM (HV.int .u32)) a1.1), (1, slE (encM (HV.int .u32)) a1.2), (5, HV.ar 171019 v4 (encM (HV.int .u32)).k 0 (((a6.2.2).set (a6.2.1).toNat (IntKind.wrap .u32 a12)).length)), (6, HV.int .u64 (Int.fdiv a12 (2 ^ (min (32 : Int).toNat (IntKind.bits .u64))))), (21, HV.int .i64 ((a1.1).length : Int)), (22, HV.int .i64 (IntKind.wrap .i64 (a6.2.1 + 1)))], [(171019, v4, .arr (encM (HV.int .u32)).k 105 ((encM (HV.int .u32)).E ((a6.2.2).set (a6.2.1).toNat (IntKind.wrap .u32 a12))))]⟩) (AS.le_of ⟨rfl, rfl, rfl, rfl, rfl, rfl, trivial⟩ ⟨rfl, trivial⟩) ⟨(Int.fdiv a12 (2 ^ (min (32 : Int).toNat (IntKind.bits .u64))), IntKind.wrap .i64 (a6.2.1 + 1), (a6.2.2).set (a6.2.1).toNat (IntKind.wrap .u32 a12)), (), h, rfl⟩
   refine AW.cond rfl (fun hc => ?_) (fun hc => ?_)
   ·have hc := of_decide_eq_true hc
    have h := ifT hc h
    refine AW.rg rfl fun K hK => ?_
    refine mv rfl rfl ?_
    refine mv rfl rfl ?_
    refine mv rfl rfl ?_
    obtain ⟨x17, h18, h⟩ := bS h
    refine bv rfl (v_idxF ty107 es107 rfl rfl (idx_lt h18)) ?_
    refine bv rfl (v_loadF ty105 rfl (l_cell (encM (HV.int .u32)) h18 (o := 0) rfl rfl)) ?_
    refine bv rfl (v_convI ty105 ty103 rfl) ?_
    refine bv rfl (v_bin rfl rfl b_add) ?_
    refine mv rfl rfl ?_
    refine b_nil (hK _ ?_)
    clear hK K
    exact to_le (s' := ⟨[(0, slE (encM (HV.int .u32)) a1.1), (1, slE (encM (HV.int .u32)) a1.2), (5, HV.ar 171019 v4 (encM (HV.int .u32)).k 0 ((a6.2.2).length)), (7, HV.int .i64 a6.2.1), (8, HV.int .u64 (IntKind.wrap .u64 ((IntKind.wrap .u64 ((IntKind.wrap .u64 x10) + a6.1)) + (IntKind.wrap .u64 x17)))), (21, HV.int .i64 ((a1.1).length : Int)), (22, HV.int .i64 a6.2.1)], [(171019, v4, .arr (encM (HV.int .u32)).k 105 ((encM (HV.int .u32)).E a6.2.2))]⟩) (AS.le_of ⟨rfl, rfl, rfl, rfl, rfl, rfl, rfl, trivial⟩ ⟨rfl, trivial⟩) ⟨IntKind.wrap .u64 ((IntKind.wrap .u64 ((IntKind.wrap .u64 x10) + a6.1)) + (IntKind.wrap .u64 x17)), (), h, rfl⟩
   have hc := of_decide_eq_false hc
   have h := ifF hc h
   refine AW.skip ?_
   exact to_le (s' := ⟨[(0, slE (encM (HV.int .u32)) a1.1), (1, slE (encM (HV.int .u32)) a1.2), (5, HV.ar 171019 v4 (encM (HV.int .u32)).k 0 ((a6.2.2).length)), (7, HV.int .i64 a6.2.1), (8, HV.int .u64 (IntKind.wrap .u64 ((IntKind.wrap .u64 x10) + a6.1))), (21, HV.int .i64 ((a1.1).length : Int)), (22, HV.int .i64 a6.2.1)], [(171019, v4, .arr (encM (HV.int .u32)).k 105 ((encM (HV.int .u32)).E a6.2.2))]⟩) (AS.le_of ⟨rfl, rfl, rfl, rfl, rfl, rfl, rfl, trivial⟩ ⟨rfl, trivial⟩) ⟨IntKind.wrap .u64 ((IntKind.wrap .u64 x10) + a6.1), (), h, rfl⟩
  have hc := of_decide_eq_false hc
  have h := ifF hc h
  refine AW.exit ?_
  exact to_le (s' := ⟨[(0, slE (encM (HV.int .u32)) a1.1), (5, HV.ar 171019 v4 (encM (HV.int .u32)).k 0 ((a6.2.2).length)), (6, HV.int .u64 a6.1)], [(171019, v4, .arr (encM (HV.int .u32)).k 105 ((encM (HV.int .u32)).E a6.2.2))]⟩) (AS.le_of ⟨rfl, rfl, rfl, trivial⟩ ⟨rfl, trivial⟩) ⟨(a6.2.2, a6.1), (), h, rfl⟩
 refine AW.cond rfl (fun hc => ?_) (fun hc => ?_)
 ·have hc := of_decide_eq_true hc
  have h := ifT hc h
  refine AW.rg rfl fun K hK => ?_
  refine mv rfl rfl ?_
  refine mv rfl rfl ?_
  refine mv rfl rfl ?_
  refine mv rfl rfl ?_
  refine b_nil (hK _ ?_)
  clear hK K
  exact to_le (s' := ⟨[(0, slE (encM (HV.int .u32)) p1), (1, slE (encM (HV.int .u32)) p0)], []⟩) (AS.le_of ⟨rfl, rfl, trivial⟩ trivial) ⟨(p1, p0), (), h, rfl⟩
 have hc := of_decide_eq_false hc
 have h := ifF hc h
 refine AW.skip ?_
 exact to_le (s' := ⟨[(0, slE (encM (HV.int .u32)) p0), (1, slE (encM (HV.int .u32)) p1)], []⟩) (AS.le_of ⟨rfl, rfl, trivial⟩ trivial) ⟨(p0, p1), (), h, rfl⟩

set_option maxHeartbeats 1600000 in
set_option maxRecDepth 100000 in
theorem w_integer_subtract {p0 : List (Int)} {p1 : List (Int)} {r : (List (Int))} (h : m_integer_subtract p0 p1 = some r) : Pure Tryz.prog 172 [slE (encM (HV.int .u32)) p0, slE (encM (HV.int .u32)) p1] (· = slE (encM (HV.int .u32)) r) := by
 unfold m_integer_subtract at h
 refine Pure.of_body Tryz.func172 rfl rfl (Nat.le_of_ble_eq_true rfl) fun hf => ?_
 unfold Tryz.f172
 dsimp only [enumS, Nat.reduceAdd]
 refine AW.rgs rfl fun K hK => ?_
 refine mv rfl rfl ?_
 refine b_fin hK (s' := ⟨[(0, slE (encM (HV.int .u32)) p0), (1, slE (encM (HV.int .u32)) p1)], []⟩) (le_q rfl rfl) ?_
 clear hK K
 refine AW.rgs rfl fun K hK => ?_
 refine mv rfl rfl ?_
 refine bv rfl (v_lenF rfl rfl ty107 rfl) ?_
 obtain ⟨h2, h⟩ := ifN h
 refine b_op rfl (o_makeE (fid := 172) (encM (HV.int .u32)) (0 : Int) 172011 rfl rfl ty107 rfl rfl ty105 rfl rfl h2 (fun v1 => ?_))
 refine mv rfl rfl ?_
 refine b_fin hK (s' := ⟨[(0, slE (encM (HV.int .u32)) p0), (1, slE (encM (HV.int .u32)) p1), (5, HV.ar 172011 v1 (encM (HV.int .u32)).k 0 ((List.replicate (((p0).length : Int)).toNat (0 : Int)).length))], [(172011, v1, .arr (encM (HV.int .u32)).k 105 ((encM (HV.int .u32)).E (List.replicate (((p0).length : Int)).toNat (0 : Int))))]⟩) (le_q rfl rfl) ?_
 clear hK K
 refine AW.rgs rfl fun K hK => ?_
 refine mv rfl rfl ?_
 refine b_fin hK (s' := ⟨[(0, slE (encM (HV.int .u32)) p0), (1, slE (encM (HV.int .u32)) p1), (5, HV.ar 172011 v1 (encM (HV.int .u32)).k 0 ((List.replicate (((p0).length : Int)).toNat (0 : Int)).length)), (6, HV.int .i64 0)], [(172011, v1, .arr (encM (HV.int .u32)).k 105 ((encM (HV.int .u32)).E (List.replicate (((p0).length : Int)).toNat (0 : Int))))]⟩) (le_q rfl rfl) ?_
 clear hK K
 refine AW.seq ?_
 refine AW.rgs rfl fun K hK => ?_
 refine mv rfl rfl ?_
 refine bv rfl (v_lenF rfl rfl ty107 rfl) ?_
 refine mv rfl rfl ?_
 refine b_fin hK (s' := ⟨[(0, slE (encM (HV.int .u32)) p0), (1, slE (encM (HV.int .u32)) p1), (5, HV.ar 172011 v1 (encM (HV.int .u32)).k 0 ((List.replicate (((p0).length : Int)).toNat (0 : Int)).length)), (6, HV.int .i64 0), (13, HV.int .i64 ((p0).length : Int)), (14, HV.int .i64 0)], [(172011, v1, .arr (encM (HV.int .u32)).k 105 ((encM (HV.int .u32)).E (List.replicate (((p0).length : Int)).toNat (0 : Int))))]⟩) (le_q rfl rfl) ?_
 clear hK K
 refine AW.lpX h (by first | exact up_then | exact up_to) (S := Int × Int × (List Int)) (V := Unit) (fun a v => ⟨[(0, slE (encM (HV.int .u32)) p0), (1, slE (encM (HV.int .u32)) p1), (5, HV.ar 172011 v1 (encM (HV.int .u32)).k 0 ((a.2.2).length)), (6, HV.int .i64 a.1), (13, HV.int .i64 ((p0).length : Int)), (14, HV.int .i64 a.2.1)], [(172011, v1, .arr (encM (HV.int .u32)).k 105 ((encM (HV.int .u32)).E a.2.2))]⟩) ?_ (X := (List Int)) (W := Unit) (fun a v => ⟨[(5, HV.ar 172011 v1 (encM (HV.int .u32)).k 0 ((a).length))], [(172011, v1, .arr (encM (HV.int .u32)).k 105 ((encM (HV.int .u32)).E a))]⟩) (fun a19 w20 h => ?_) (fun a3 w4 st5 h => ?_)
 ·exact to_le (s' := ⟨[(0, slE (encM (HV.int .u32)) p0), (1, slE (encM (HV.int .u32)) p1), (5, HV.ar 172011 v1 (encM (HV.int .u32)).k 0 ((List.replicate (((p0).length : Int)).toNat (0 : Int)).length)), (6, HV.int .i64 0), (13, HV.int .i64 ((p0).length : Int)), (14, HV.int .i64 0)], [(172011, v1, .arr (encM (HV.int .u32)).k 105 ((encM (HV.int .u32)).E (List.replicate (((p0).length : Int)).toNat (0 : Int))))]⟩) (AS.le_of ⟨rfl, rfl, rfl, rfl, rfl, rfl, trivial⟩ ⟨rfl, trivial⟩) ⟨(), rfl⟩
 ·refine AW.to (to_frz 2 [(172011, v1, .arr (encM (HV.int .u32)).k 105 ((encM (HV.int .u32)).E a19))] ⟨[(5, slE (encM (HV.int .u32)) a19)], []⟩ ⟨⟨_, rfl, frz_slE (encM (HV.int .u32)) (l := a19) rfl fun _ _ => rfl⟩, trivial⟩ trivial ⟨rfl, trivial⟩ ⟨rfl, trivial⟩ ?_)
  refine AW.rgs rfl fun K hK => ?_
  refine mv rfl rfl ?_
  obtain ⟨x21, h22, h⟩ := bS h
  refine b_op rfl (o_call rfl rfl rfl rfl (ACallD.pure0 (w_integer_trim h22)) ?_)
  refine mv rfl rfl ?_
  refine b_fin hK (s' := ⟨[(4, slE (encM (HV.int .u32)) x21)], []⟩) (le_q rfl rfl) ?_
  clear hK K
  refine AW.ret ?_
  have h := Option.some.inj h
  subst h
  exact ret_pure (hs := [slE (encM (HV.int .u32)) x21]) (q := slE (encM (HV.int .u32)) x21) (.inr rfl) (resT rfl rfl) rfl (clean_slE fun _ _ => ⟨trivial, trivial⟩)
 refine AW.rgs rfl fun K hK => ?_
 refine bv rfl (v_bin rfl rfl b_lss) ?_
 refine b_fin hK (s' := ⟨[(0, slE (encM (HV.int .u32)) p0), (1, slE (encM (HV.int .u32)) p1), (5, HV.ar 172011 v1 (encM (HV.int .u32)).k 0 ((a3.2.2).length)), (6, HV.int .i64 a3.1), (13, HV.int .i64 ((p0).length : Int)), (14, HV.int .i64 a3.2.1), (15, HV.bool (decide (a3.2.1 < ((p0).length : Int))))], [(172011, v1, .arr (encM (HV.int .u32)).k 105 ((encM (HV.int .u32)).E a3.2.2))]⟩) (le_q rfl rfl) ?_
 clear hK K
 refine AW.cseq rfl (fun hc => ?_) (fun hc => ?_)
 ·have hc := of_decide_eq_true hc
  have h := ifT hc h
  refine AW.skip ?_
  refine AW.seq (AW.block ?_)
  refine AW.rgs rfl fun K hK => ?_
  refine mv rfl rfl ?_
  refine mv rfl rfl ?_
  refine b_fin hK (s' := ⟨[(0, slE (encM (HV.int .u32)) p0), (1, slE (encM (HV.int .u32)) p1), (5, HV.ar 172011 v1 (encM (HV.int .u32)).k 0 ((a3.2.2).length)), (6, HV.int .i64 a3.1), (7, HV.int .i64 a3.2.1), (13, HV.int .i64 ((p0).length : Int)), (14, HV.int .i64 a3.2.1)], [(172011, v1, .arr (encM (HV.int .u32)).k 105 ((encM (HV.int .u32)).E a3.2.2))]⟩) (le_q rfl rfl) ?_
  clear hK K
  refine AW.rgs rfl fun K hK => ?_
  refine mv rfl rfl ?_
  refine mv rfl rfl ?_
  obtain ⟨x7, h8, h⟩ := bS h
  refine bv rfl (v_idxF ty107 es107 rfl rfl (idx_lt h8)) ?_
  refine bv rfl (v_loadF ty105 rfl (l_cell (encM (HV.int .u32)) h8 (o := 0) rfl rfl)) ?_
  refine bv rfl (v_convI ty105 ty2 rfl) ?_
  refine mv rfl rfl ?_
  refine bv rfl (v_bin rfl rfl b_sub) ?_
  refine mv rfl rfl ?_
  refine b_fin hK (s' := ⟨[(0, slE (encM (HV.int .u32)) p0), (1, slE (encM (HV.int .u32)) p1), (5, HV.ar 172011 v1 (encM (HV.int .u32)).k 0 ((a3.2.2).length)), (7, HV.int .i64 a3.2.1), (8, HV.int .i64 (IntKind.wrap .i64 ((IntKind.wrap .i64 x7) - a3.1))), (13, HV.int .i64 ((p0).length : Int)), (14, HV.int .i64 a3.2.1)], [(172011, v1, .arr (encM (HV.int .u32)).k 105 ((encM (HV.int .u32)).E a3.2.2))]⟩) (le_q rfl rfl) ?_
  clear hK K
  refine AW.seq ?_
  refine AW.rgs rfl fun K hK => ?_
  refine mv rfl rfl ?_
  refine mv rfl rfl ?_
  refine bv rfl (v_lenF rfl rfl ty107 rfl) ?_
  refine bv rfl (v_bin rfl rfl b_lss) ?_
  refine b_fin hK (s' := ⟨[(0, slE (encM (HV.int .u32)) p0), (1, slE (encM (HV.int .u32)) p1), (5, HV.ar 172011 v1 (encM (HV.int .u32)).k 0 ((a3.2.2).length)), (7, HV.int .i64 a3.2.1), (8, HV.int .i64 (IntKind.wrap .i64 ((IntKind.wrap .i64 x7) - a3.1))), (13, HV.int .i64 ((p0).length : Int)), (14, HV.int .i64 a3.2.1), (27, HV.bool (decide (a3.2.1 < ((p1).length : Int))))], [(172011, v1, .arr (encM (HV.int .u32)).k 105 ((encM (HV.int .u32)).E a3.2.2))]⟩) (le_q rfl rfl) ?_
  clear hK K
  refine AW.lastJ h (by first | exact up_then | exact up_to) (S := Int) (V := Unit) (fun a v => ⟨[(0, slE (encM (HV.int .u32)) p0), (1, slE (encM (HV.int .u32)) p1), (5, HV.ar 172011 v1 (encM (HV.int .u32)).k 0 ((a3.2.2).length)), (7, HV.int .i64 a3.2.1), (8, HV.int .i64 a), (13, HV.int .i64 ((p0).length : Int)), (14, HV.int .i64 a3.2.1)], [(172011, v1, .arr (encM (HV.int .u32)).k 105 ((encM (HV.int .u32)).E a3.2.2))]⟩) (fun a9 w10 h => ?_) (fun k11 h => ?_)
  ·refine AW.rgs rfl fun K hK => ?_
   refine mv rfl rfl ?_
   refine b_fin hK (s' := ⟨[(0, slE (encM (HV.int .u32)) p0), (1, slE (encM (HV.int .u32)) p1), (5, HV.ar 172011 v1 (encM (HV.int .u32)).k 0 ((a3.2.2).length)), (6, HV.int .i64 0), (7, HV.int .i64 a3.2.1), (8, HV.int .i64 a9), (13, HV.int .i64 ((p0).length : Int)), (14, HV.int .i64 a3.2.1)], [(172011, v1, .arr (encM (HV.int .u32)).k 105 ((encM (HV.int .u32)).E a3.2.2))]⟩) (le_q rfl rfl) ?_
   clear hK K
   refine AW.seq ?_
   refine AW.rgs rfl fun K hK => ?_
   refine mv rfl rfl ?_
   refine bv rfl (v_bin rfl rfl b_lss) ?_
   refine b_fin hK (s' := ⟨[(0, slE (encM (HV.int .u32)) p0), (1, slE (encM (HV.int .u32)) p1), (5, HV.ar 172011 v1 (encM (HV.int .u32)).k 0 ((a3.2.2).length)), (6, HV.int .i64 0), (7, HV.int .i64 a3.2.1), (8, HV.int .i64 a9), (13, HV.int .i64 ((p0).length : Int)), (14, HV.int .i64 a3.2.1), (36, HV.bool (decide (a9 < 0)))], [(172011, v1, .arr (encM (HV.int .u32)).k 105 ((encM (HV.int .u32)).E a3.2.2))]⟩) (le_q rfl rfl) ?_
   clear hK K
   refine AW.lastJ h (by first | exact up_then | exact up_to) (S := Int × Int) (V := Unit) (fun a v => ⟨[(0, slE (encM (HV.int .u32)) p0), (1, slE (encM (HV.int .u32)) p1), (5, HV.ar 172011 v1 (encM (HV.int .u32)).k 0 ((a3.2.2).length)), (6, HV.int .i64 a.1), (7, HV.int .i64 a3.2.1), (8, HV.int .i64 a.2), (13, HV.int .i64 ((p0).length : Int)), (14, HV.int .i64 a3.2.1)], [(172011, v1, .arr (encM (HV.int .u32)).k 105 ((encM (HV.int .u32)).E a3.2.2))]⟩) (fun a12 w13 h => ?_) (fun k14 h => ?_)
   ·refine AW.rg rfl fun K hK => ?_
    refine mv rfl rfl ?_
    refine mv rfl rfl ?_
    refine mv rfl rfl ?_
    refine bv rfl (v_convI ty2 ty105 rfl) ?_
    obtain ⟨x15, h16, h⟩ := bS h
    refine bv rfl (v_idxA ty107 es107 rfl rfl (idx_lt h16) rfl) ?_
    refine b_op rfl (o_storeE (encM (HV.int .u32)) (l := a3.2.2) (j := a3.2.1) (v := IntKind.wrap .u32 a12.2) rfl rfl rfl ty105 rfl rfl rfl (idx_lt h16) ?_)
    refine b_fin hK (s' := ⟨[(0, slE (encM (HV.int .u32)) p0), (1, slE (encM (HV.int .u32)) p1), (5, HV.ar 172011 v1 (encM (HV.int .u32)).k 0 (((a3.2.2).set (a3.2.1).toNat (IntKind.wrap .u32 a12.2)).length)), (6, HV.int .i64 a12.1), (13, HV.int .i64 ((p0).length : Int)), (14, HV.int .i64 a3.2.1)], [(172011, v1, .arr (encM (HV.int .u32)).k 105 ((encM (HV.int .u32)).E ((a3.2.2).set (a3.2.1).toNat (IntKind.wrap .u32 a12.2))))]⟩) (AS.le_of ⟨rfl, rfl, arl (by first | rfl | simp only [List.length_set, sortI_len, sortS_len]), rfl, rfl, rfl, trivial⟩ ⟨rfl, trivial⟩) ?_
    clear hK K
    refine AW.rg rfl fun K hK => ?_
    refine bv rfl (v_bin rfl rfl b_add) ?_
    refine mv rfl rfl ?_
    refine b_nil (hK _ ?_)
    clear hK K
    exact to_le (s' := ⟨[(0, slE (encM (HV.int .u32)) p0), (1, slE (encM (HV.int .u32)) p1), (5, HV.ar 172011 v1 (encM (HV.int .u32)).k 0 (((a3.2.2).set (a3.2.1).toNat (IntKind.wrap .u32 a12.2)).length)), (6, HV.int .i64 a12.1), (13, HV.int .i64 ((p0).length : Int)), (14, HV.int .i64 (IntKind.wrap .i64 (a3.2.1 + 1)))], [(172011, v1, .arr (encM (HV.int .u32)).k 105 ((encM (HV.int .u32)).E ((a3.2.2).set (a3.2.1).toNat (IntKind.wrap .u32 a12.2))))]⟩) (AS.le_of ⟨rfl, rfl, rfl, rfl, rfl, rfl, trivial⟩ ⟨rfl, trivial⟩) ⟨(a12.1, IntKind.wrap .i64 (a3.2.1 + 1), (a3.2.2).set (a3.2.1).toNat (IntKind.wrap .u32 a12.2)), (), h, rfl⟩
   refine AW.cond rfl (fun hc => ?_) (fun hc => ?_)
   ·have hc := of_decide_eq_true hc
    have h := ifT hc h
    refine AW.rgs rfl fun K hK => ?_
    refine mv rfl rfl ?_
    refine bv rfl (v_bin rfl rfl b_add) ?_
    refine mv rfl rfl ?_
    refine b_fin hK (s' := ⟨[(0, slE (encM (HV.int .u32)) p0), (1, slE (encM (HV.int .u32)) p1), (5, HV.ar 172011 v1 (encM (HV.int .u32)).k 0 ((a3.2.2).length)), (7, HV.int .i64 a3.2.1), (8, HV.int .i64 (IntKind.wrap .i64 (a9 + 4294967296))), (13, HV.int .i64 ((p0).length : Int)), (14, HV.int .i64 a3.2.1)], [(172011, v1, .arr (encM (HV.int .u32)).k 105 ((encM (HV.int .u32)).E a3.2.2))]⟩) (le_q rfl rfl) ?_
    clear hK K
    refine AW.rg rfl fun K hK => ?_
    refine mv rfl rfl ?_
    refine b_nil (hK _ ?_)
    clear hK K
    exact to_le (s' := ⟨[(0, slE (encM (HV.int .u32)) p0), (1, slE (encM (HV.int .u32)) p1), (5, HV.ar 172011 v1 (encM (HV.int .u32)).k 0 ((a3.2.2).length)), (6, HV.int .i64 1), (7, HV.int .i64 a3.2.1), (8, HV.int .i64 (IntKind.wrap .i64 (a9 + 4294967296))), (13, HV.int .i64 ((p0).length : Int)), (14, HV.int .i64 a3.2.1)], [(172011, v1, .arr (encM (HV.int .u32)).k 105 ((encM (HV.int .u32)).E a3.2.2))]⟩) (AS.le_of ⟨rfl, rfl, rfl, rfl, rfl, rfl, rfl, rfl, trivial⟩ ⟨rfl, trivial⟩) ⟨(1, IntKind.wrap .i64 (a9 + 4294967296)), (), h, rfl⟩
   have hc := of_decide_eq_false hc
   have h := ifF hc h
   refine AW.skip ?_
   exact to_le (s' := ⟨[(0, slE (encM (HV.int .u32)) p0), (1, slE (encM (HV.int .u32)) p1), (5, HV.ar 172011 v1 (encM (HV.int .u32)).k 0 ((a3.2.2).length)), (6, HV.int .i64 0), (7, HV.int .i64 a3.2.1), (8, HV.int .i64 a9), (13, HV.int .i64 ((p0).length : Int)), (14, HV.int .i64 a3.2.1)], [(172011, v1, .arr (encM (HV.int .u32)).k 105 ((encM (HV.int .u32)).E a3.2.2))]⟩) (AS.le_of ⟨rfl, rfl, rfl, rfl, rfl, rfl, rfl, rfl, trivial⟩ ⟨rfl, trivial⟩) ⟨(0, a9), (), h, rfl⟩
  refine AW.cond rfl (fun hc => ?_) (fun hc => ?_)
  ·have hc := of_decide_eq_true hc
   have h := ifT hc h
   refine AW.rg rfl fun K hK => ?_
   refine mv rfl rfl ?_
   refine mv rfl rfl ?_
   refine mv rfl rfl ?_
   obtain ⟨x17, h18, h⟩ := bS h
   refine bv rfl (v_idxF ty107 es107 rfl rfl (idx_lt h18)) ?_
   refine bv rfl (v_loadF ty105 rfl (l_cell (encM (HV.int .u32)) h18 (o := 0) rfl rfl)) ?_
   refine bv rfl (v_convI ty105 ty2 rfl) ?_
   refine bv rfl (v_bin rfl rfl b_sub) ?_
   refine mv rfl rfl ?_
   refine b_nil (hK _ ?_)
   clear hK K
   exact to_le (s' := ⟨[(0, slE (encM (HV.int .u32)) p0), (1, slE (encM (HV.int .u32)) p1), (5, HV.ar 172011 v1 (encM (HV.int .u32)).k 0 ((a3.2.2).length)), (7, HV.int .i64 a3.2.1), (8, HV.int .i64 (IntKind.wrap .i64 ((IntKind.wrap .i64 ((IntKind.wrap .i64 x7) - a3.1)) - (IntKind.wrap .i64 x17)))), (13, HV.int .i64 ((p0).length : Int)), (14, HV.int .i64 a3.2.1)], [(172011, v1, .arr (encM (HV.int .u32)).k 105 ((encM (HV.int .u32)).E a3.2.2))]⟩) (AS.le_of ⟨rfl, rfl, rfl, rfl, rfl, rfl, rfl, trivial⟩ ⟨rfl, trivial⟩) ⟨IntKind.wrap .i64 ((IntKind.wrap .i64 ((IntKind.wrap .i64 x7) - a3.1)) - (IntKind.wrap .i64 x17)), (), h, rfl⟩
  have hc := of_decide_eq_false hc
  have h := ifF hc h
  refine AW.skip ?_
  exact to_le (s' := ⟨[(0, slE (encM (HV.int .u32)) p0), (1, slE (encM (HV.int .u32)) p1), (5, HV.ar 172011 v1 (encM (HV.int .u32)).k 0 ((a3.2.2).length)), (7, HV.int .i64 a3.2.1), (8, HV.int .i64 (IntKind.wrap .i64 ((IntKind.wrap .i64 x7) - a3.1))), (13, HV.int .i64 ((p0).length : Int)), (14, HV.int .i64 a3.2.1)], [(172011, v1, .arr (encM (HV.int .u32)).k 105 ((encM (HV.int .u32)).E a3.2.2))]⟩) (AS.le_of ⟨rfl, rfl, rfl, rfl, rfl, rfl, rfl, trivial⟩ ⟨rfl, trivial⟩) ⟨IntKind.wrap .i64 ((IntKind.wrap .i64 x7) - a3.1), (), h, rfl⟩
 have hc := of_decide_eq_false hc
 have h := ifF hc h
 refine AW.exit ?_
 exact to_le (s' := ⟨[(5, HV.ar 172011 v1 (encM (HV.int .u32)).k 0 ((a3.2.2).length))], [(172011, v1, .arr (encM (HV.int .u32)).k 105 ((encM (HV.int .u32)).E a3.2.2))]⟩) (AS.le_of ⟨rfl, trivial⟩ ⟨rfl, trivial⟩) ⟨a3.2.2, (), h, rfl⟩

set_option maxHeartbeats 1600000 in
set_option maxRecDepth 100000 in
theorem w_integer_Add {p0 : TNegMag} {p1 : TNegMag} {r : TNegMag} (h : m_integer_Add p0 p1 = some r) : Pure Tryz.prog 168 [HV.agg [HV.bool p0.1, HV.str p0.2], HV.agg [HV.bool p1.1, HV.str p1.2]] (· = HV.agg [HV.bool r.1, HV.str r.2]) := by
 unfold m_integer_Add at h
 refine Pure.of_body Tryz.func168 rfl rfl (Nat.le_of_ble_eq_true rfl) fun hf => ?_
 unfold Tryz.f168
 dsimp only [enumS, Nat.reduceAdd]
 refine AW.rgs rfl fun K hK => ?_
 refine b_op rfl (o_box rfl rfl rfl ?_)
 refine b_op rfl (o_box rfl rfl rfl ?_)
 refine b_op rfl (o_alloc (fid := 168) (zs := [HV.bool false, HV.str ([] : List UInt8)]) 168004 rfl rfl ty42 rfl (fun v1 => ?_))
 refine b_fin hK (s' := ⟨[(2, HV.fptr [HV.bool p0.1, HV.str p0.2] 0), (3, HV.fptr [HV.bool p1.1, HV.str p1.2] 0), (4, HV.ptr 168004 v1 0)], [(168004, v1, .arr 2 42 [HV.bool false, HV.str ([] : List UInt8)])]⟩) (le_q rfl rfl) ?_
 clear hK K
 refine AW.dgs 6 follows rfl rfl fun K hK => ?_
 refine sv rfl (v_loadF ty42 rfl (l_litA rfl (Nat.le_of_ble_eq_true rfl) rfl)) ?_
 obtain ⟨x2, h3, h⟩ := bS h
 refine s_op rfl rfl (ops_call rfl rfl rfl rfl (ACallD.pure0 (w_integer_digits h3)) ?_)
 refine sv rfl (v_loadF ty42 rfl (l_litA rfl (Nat.le_of_ble_eq_true rfl) rfl)) ?_
 obtain ⟨x4, h5, h⟩ := bS h
 refine s_op rfl rfl (ops_call rfl rfl rfl rfl (ACallD.pure0 (w_integer_digits h5)) ?_)
 refine sm rfl rfl ?_
 refine sm rfl rfl ?_
 refine s_nil ?_
 refine b_fin hK (s' := ⟨[(2, HV.fptr [HV.bool p0.1, HV.str p0.2] 0), (3, HV.fptr [HV.bool p1.1, HV.str p1.2] 0), (4, HV.ptr 168004 v1 0), (5, slE (encM (HV.int .u32)) x2), (6, slE (encM (HV.int .u32)) x4)], [(168004, v1, .arr 2 42 [HV.bool false, HV.str ([] : List UInt8)])]⟩) (le_q rfl rfl) ?_
 clear hK K
 refine AW.seq ?_
 refine AW.rgs rfl fun K hK => ?_
 refine bv rfl (v_fieldAddrF fo42_0 rfl) ?_
 refine bv rfl (v_loadF ty4 rfl (l_lit rfl rfl)) ?_
 refine bv rfl (v_fieldAddrF fo42_0 rfl) ?_
 refine bv rfl (v_loadF ty4 rfl (l_lit rfl rfl)) ?_
 refine bv rfl (v_bin rfl rfl (b_eqB ty4)) ?_
 refine b_fin hK (s' := ⟨[(2, HV.fptr [HV.bool p0.1, HV.str p0.2] 0), (3, HV.fptr [HV.bool p1.1, HV.str p1.2] 0), (4, HV.ptr 168004 v1 0), (5, slE (encM (HV.int .u32)) x2), (6, slE (encM (HV.int .u32)) x4), (15, HV.bool (p0.1 == p1.1))], [(168004, v1, .arr 2 42 [HV.bool false, HV.str ([] : List UInt8)])]⟩) (le_q rfl rfl) ?_
 clear hK K
 refine AW.cond rfl (fun hc => ?_) (fun hc => ?_)
 ·have h := ifT hc h
  refine AW.dgs 6 follows rfl rfl fun K hK => ?_
  refine sv rfl (v_fieldAddrF fo42_0 rfl) ?_
  refine sv rfl (v_loadF ty4 rfl (l_lit rfl rfl)) ?_
  refine sm rfl rfl ?_
  refine sm rfl rfl ?_
  obtain ⟨x6, h7, h⟩ := bS h
  refine s_op rfl rfl (ops_call rfl rfl rfl rfl (ACallD.pure0 (w_integer_add h7)) ?_)
  obtain ⟨x8, h9, h⟩ := bS h
  refine s_op rfl rfl (ops_call rfl rfl rfl rfl (ACallD.pure0 (w_integer_number h9)) ?_)
  refine s_nil ?_
  refine b_op rfl (o_store (cs := [HV.bool x8.1, HV.str x8.2]) (zs := [HV.bool x8.1, HV.str x8.2]) rfl rfl rfl ty42 rfl rfl rfl rfl rfl ?_)
  refine b_fin hK (s' := ⟨[(4, HV.ptr 168004 v1 0)], [(168004, v1, .arr 2 42 [HV.bool x8.1, HV.str x8.2])]⟩) (le_q rfl rfl) ?_
  clear hK K
  refine AW.ret ?_
  have h := Option.some.inj h
  subst h
  exact ret_pure (hs := [HV.agg [HV.bool x8.1, HV.str x8.2]]) (q := HV.agg [HV.bool x8.1, HV.str x8.2]) (.inr rfl) (resP ty42 rfl rfl (l_litA rfl (Nat.le_of_ble_eq_true rfl) rfl) rfl) rfl ⟨trivial, trivial, trivial⟩
 have h := ifF (bF' hc) h
 refine AW.skip ?_
 refine AW.seq ?_
 refine AW.rgs rfl fun K hK => ?_
 refine mv rfl rfl ?_
 refine mv rfl rfl ?_
 obtain ⟨x10, h11, h⟩ := bS h
 refine b_op rfl (o_call rfl rfl rfl rfl (ACallD.pure0 (w_integer_compare h11)) ?_)
 refine bv rfl (v_bin rfl rfl b_lss) ?_
 refine b_fin hK (s' := ⟨[(2, HV.fptr [HV.bool p0.1, HV.str p0.2] 0), (3, HV.fptr [HV.bool p1.1, HV.str p1.2] 0), (4, HV.ptr 168004 v1 0), (5, slE (encM (HV.int .u32)) x2), (6, slE (encM (HV.int .u32)) x4), (25, HV.bool (decide (x10 < 0)))], [(168004, v1, .arr 2 42 [HV.bool false, HV.str ([] : List UInt8)])]⟩) (le_q rfl rfl) ?_
 clear hK K
 refine AW.cond rfl (fun hc => ?_) (fun hc => ?_)
 ·have hc := of_decide_eq_true hc
  have h := ifT hc h
  refine AW.dgs 6 follows rfl rfl fun K hK => ?_
  refine sv rfl (v_fieldAddrF fo42_0 rfl) ?_
  refine sv rfl (v_loadF ty4 rfl (l_lit rfl rfl)) ?_
  refine sm rfl rfl ?_
  refine sm rfl rfl ?_
  obtain ⟨x12, h13, h⟩ := bS h
  refine s_op rfl rfl (ops_call rfl rfl rfl rfl (ACallD.pure0 (w_integer_subtract h13)) ?_)
  obtain ⟨x14, h15, h⟩ := bS h
  refine s_op rfl rfl (ops_call rfl rfl rfl rfl (ACallD.pure0 (w_integer_number h15)) ?_)
  refine s_nil ?_
  refine b_op rfl (o_store (cs := [HV.bool x14.1, HV.str x14.2]) (zs := [HV.bool x14.1, HV.str x14.2]) rfl rfl rfl ty42 rfl rfl rfl rfl rfl ?_)
  refine b_fin hK (s' := ⟨[(4, HV.ptr 168004 v1 0)], [(168004, v1, .arr 2 42 [HV.bool x14.1, HV.str x14.2])]⟩) (le_q rfl rfl) ?_
  clear hK K
  refine AW.ret ?_
  have h := Option.some.inj h
  subst h
  exact ret_pure (hs := [HV.agg [HV.bool x14.1, HV.str x14.2]]) (q := HV.agg [HV.bool x14.1, HV.str x14.2]) (.inr rfl) (resP ty42 rfl rfl (l_litA rfl (Nat.le_of_ble_eq_true rfl) rfl) rfl) rfl ⟨trivial, trivial, trivial⟩
 have hc := of_decide_eq_false hc
 have h := ifF hc h
 refine AW.skip ?_
 refine AW.dgs 6 follows rfl rfl fun K hK => ?_
 refine sv rfl (v_fieldAddrF fo42_0 rfl) ?_
 refine sv rfl (v_loadF ty4 rfl (l_lit rfl rfl)) ?_
 refine sm rfl rfl ?_
 refine sm rfl rfl ?_
 obtain ⟨x16, h17, h⟩ := bS h
 refine s_op rfl rfl (ops_call rfl rfl rfl rfl (ACallD.pure0 (w_integer_subtract h17)) ?_)
 obtain ⟨x18, h19, h⟩ := bS h
 refine s_op rfl rfl (ops_call rfl rfl rfl rfl (ACallD.pure0 (w_integer_number h19)) ?_)
 refine s_nil ?_
 refine b_op rfl (o_store (cs := [HV.bool x18.1, HV.str x18.2]) (zs := [HV.bool x18.1, HV.str x18.2]) rfl rfl rfl ty42 rfl rfl rfl rfl rfl ?_)
 refine b_fin hK (s' := ⟨[(4, HV.ptr 168004 v1 0)], [(168004, v1, .arr 2 42 [HV.bool x18.1, HV.str x18.2])]⟩) (le_q rfl rfl) ?_
 clear hK K
 refine AW.ret ?_
 have h := Option.some.inj h
 subst h
 exact ret_pure (hs := [HV.agg [HV.bool x18.1, HV.str x18.2]]) (q := HV.agg [HV.bool x18.1, HV.str x18.2]) (.inr rfl) (resP ty42 rfl rfl (l_litA rfl (Nat.le_of_ble_eq_true rfl) rfl) rfl) rfl ⟨trivial, trivial, trivial⟩

set_option maxHeartbeats 1600000 in
set_option maxRecDepth 100000 in
theorem w_integer_Sub {p0 : TNegMag} {p1 : TNegMag} {r : TNegMag} (h : m_integer_Sub p0 p1 = some r) : Pure Tryz.prog 118 [HV.agg [HV.bool p0.1, HV.str p0.2], HV.agg [HV.bool p1.1, HV.str p1.2]] (· = HV.agg [HV.bool r.1, HV.str r.2]) := by
 unfold m_integer_Sub at h
 refine Pure.of_body Tryz.func118 rfl rfl (Nat.le_of_ble_eq_true rfl) fun hf => ?_
 unfold Tryz.f118
 dsimp only [enumS, Nat.reduceAdd]
 refine AW.rgs rfl fun K hK => ?_
 refine b_op rfl (o_box rfl rfl rfl ?_)
 refine b_op rfl (o_box rfl rfl rfl ?_)
 refine b_op rfl (o_alloc (fid := 118) (zs := [HV.bool false, HV.str ([] : List UInt8)]) 118004 rfl rfl ty42 rfl (fun v1 => ?_))
 refine b_fin hK (s' := ⟨[(2, HV.fptr [HV.bool p0.1, HV.str p0.2] 0), (3, HV.fptr [HV.bool p1.1, HV.str p1.2] 0), (4, HV.ptr 118004 v1 0)], [(118004, v1, .arr 2 42 [HV.bool false, HV.str ([] : List UInt8)])]⟩) (le_q rfl rfl) ?_
 clear hK K
 refine AW.dgs 4 follows rfl rfl fun K hK => ?_
 refine sv rfl (v_loadF ty42 rfl (l_litA rfl (Nat.le_of_ble_eq_true rfl) rfl)) ?_
 refine sv rfl (v_loadF ty42 rfl (l_litA rfl (Nat.le_of_ble_eq_true rfl) rfl)) ?_
 obtain ⟨x2, h3, h⟩ := bS h
 refine s_op rfl rfl (ops_call rfl rfl rfl rfl (ACallD.pure0 (w_integer_Neg h3)) ?_)
 obtain ⟨x4, h5, h⟩ := bS h
 refine s_op rfl rfl (ops_call rfl rfl rfl rfl (ACallD.pure0 (w_integer_Add h5)) ?_)
 refine s_nil ?_
 refine b_op rfl (o_store (cs := [HV.bool x4.1, HV.str x4.2]) (zs := [HV.bool x4.1, HV.str x4.2]) rfl rfl rfl ty42 rfl rfl rfl rfl rfl ?_)
 refine b_fin hK (s' := ⟨[(4, HV.ptr 118004 v1 0)], [(118004, v1, .arr 2 42 [HV.bool x4.1, HV.str x4.2])]⟩) (le_q rfl rfl) ?_
 clear hK K
 refine AW.ret ?_
 have h := Option.some.inj h
 subst h
 exact ret_pure (hs := [HV.agg [HV.bool x4.1, HV.str x4.2]]) (q := HV.agg [HV.bool x4.1, HV.str x4.2]) (.inr rfl) (resP ty42 rfl rfl (l_litA rfl (Nat.le_of_ble_eq_true rfl) rfl) rfl) rfl ⟨trivial, trivial, trivial⟩

set_option maxHeartbeats 1600000 in
set_option maxRecDepth 100000 in
theorem w_integer_Compare {p0 : TNegMag} {p1 : TNegMag} {r : Int} (h : m_integer_Compare p0 p1 = some r) : Pure Tryz.prog 68 [HV.agg [HV.bool p0.1, HV.str p0.2], HV.agg [HV.bool p1.1, HV.str p1.2]] (· = HV.int .i64 r) := by
 unfold m_integer_Compare at h
 refine Pure.of_body Tryz.func68 rfl rfl (Nat.le_of_ble_eq_true rfl) fun hf => ?_
 unfold Tryz.f68
 dsimp only [enumS, Nat.reduceAdd]
 refine AW.rgs rfl fun K hK => ?_
 refine b_op rfl (o_box rfl rfl rfl ?_)
 refine b_op rfl (o_box rfl rfl rfl ?_)
 refine mv rfl rfl ?_
 refine b_fin hK (s' := ⟨[(2, HV.fptr [HV.bool p0.1, HV.str p0.2] 0), (3, HV.fptr [HV.bool p1.1, HV.str p1.2] 0)], []⟩) (le_q rfl rfl) ?_
 clear hK K
 refine AW.rgs rfl fun K hK => ?_
 refine bv rfl (v_loadF ty42 rfl (l_litA rfl (Nat.le_of_ble_eq_true rfl) rfl)) ?_
 refine bv rfl (v_loadF ty42 rfl (l_litA rfl (Nat.le_of_ble_eq_true rfl) rfl)) ?_
 obtain ⟨x1, h2, h⟩ := bS h
 refine b_op rfl (o_call rfl rfl rfl rfl (ACallD.pure0 (w_integer_Sub h2)) ?_)
 refine b_op rfl (o_alloc (fid := 68) (zs := [HV.bool false, HV.str ([] : List UInt8)]) 68005 rfl rfl ty42 rfl (fun v3 => ?_))
 refine b_op rfl (o_store (cs := [HV.bool x1.1, HV.str x1.2]) (zs := [HV.bool x1.1, HV.str x1.2]) rfl rfl rfl ty42 rfl rfl rfl rfl rfl ?_)
 refine b_fin hK (s' := ⟨[(5, HV.ptr 68005 v3 0)], [(68005, v3, .arr 2 42 [HV.bool x1.1, HV.str x1.2])]⟩) (le_q rfl rfl) ?_
 clear hK K
 refine AW.seq (AW.block ?_)
 refine AW.rgs rfl fun K hK => ?_
 refine bv rfl (v_fieldAddrP fo42_0 rfl rfl) ?_
 refine bv rfl (v_loadP ty4 rfl rfl (l_lit rfl rfl)) ?_
 refine mv rfl rfl ?_
 refine b_fin hK (s' := ⟨[(5, HV.ptr 68005 v3 0), (9, HV.bool x1.1)], [(68005, v3, .arr 2 42 [HV.bool x1.1, HV.str x1.2])]⟩) (le_q rfl rfl) ?_
 clear hK K
 refine AW.cond rfl (fun hc => ?_) (fun hc => ?_)
 ·have h := ifT hc h
  refine AW.rgs rfl fun K hK => ?_
  refine mv rfl rfl ?_
  refine b_fin hK (s' := ⟨[(4, HV.int .i64 (-1))], []⟩) (le_q rfl rfl) ?_
  clear hK K
  refine AW.ret ?_
  have h := Option.some.inj h
  subst h
  exact ret_pure (hs := [HV.int .i64 (-1)]) (q := HV.int .i64 (-1)) (.inr rfl) (resT rfl rfl) rfl trivial
 have h := ifF (bF' hc) h
 refine AW.rgs rfl fun K hK => ?_
 refine bv rfl (v_fieldAddrP fo42_1 rfl rfl) ?_
 refine bv rfl (v_loadP ty9 rfl rfl (l_lit rfl rfl)) ?_
 refine bv rfl (v_bin rfl rfl b_sneq) ?_
 refine mv rfl rfl ?_
 refine b_fin hK (s' := ⟨[(12, HV.bool (decide (x1.2 ≠ ([] : List UInt8))))], []⟩) (le_q rfl rfl) ?_
 clear hK K
 refine AW.cond rfl (fun hc => ?_) (fun hc => ?_)
 ·have hc := of_decide_eq_true hc
  have h := ifT hc h
  refine AW.rgs rfl fun K hK => ?_
  refine mv rfl rfl ?_
  refine b_fin hK (s' := ⟨[(4, HV.int .i64 1)], []⟩) (le_q rfl rfl) ?_
  clear hK K
  refine AW.ret ?_
  have h := Option.some.inj h
  subst h
  exact ret_pure (hs := [HV.int .i64 1]) (q := HV.int .i64 1) (.inr rfl) (resT rfl rfl) rfl trivial
 have hc := of_decide_eq_false hc
 have h := ifF hc h
 refine AW.skip ?_
 refine AW.rgs rfl fun K hK => ?_
 refine mv rfl rfl ?_
 refine b_fin hK (s' := ⟨[(4, HV.int .i64 0)], []⟩) (le_q rfl rfl) ?_
 clear hK K
 refine AW.ret ?_
 have h := Option.some.inj h
 subst h
 exact ret_pure (hs := [HV.int .i64 0]) (q := HV.int .i64 0) (.inr rfl) (resT rfl rfl) rfl trivial

set_option maxHeartbeats 1600000 in
set_option maxRecDepth 100000 in
theorem w_integer_Div {p0 : TNegMag} {p1 : TNegMag} {r : TNegMag × TNegMag × Int} (h : m_integer_Div p0 p1 = some r) : Pure Tryz.prog 123 [HV.agg [HV.bool p0.1, HV.str p0.2], HV.agg [HV.bool p1.1, HV.str p1.2]] (· = HV.tup [HV.agg [HV.bool r.1.1, HV.str r.1.2], HV.agg [HV.bool r.2.1.1, HV.str r.2.1.2], HV.int .i64 r.2.2]) := by
 unfold m_integer_Div at h
 refine Pure.of_body Tryz.func123 rfl rfl (Nat.le_of_ble_eq_true rfl) fun hf => ?_
 unfold Tryz.f123
 dsimp only [enumS, Nat.reduceAdd]
 refine AW.rgs rfl fun K hK => ?_
 refine b_op rfl (o_box rfl rfl rfl ?_)
 refine b_op rfl (o_box rfl rfl rfl ?_)
 refine b_op rfl (o_alloc (fid := 123) (zs := [HV.bool false, HV.str ([] : List UInt8)]) 123004 rfl rfl ty42 rfl (fun v1 => ?_))
 refine b_op rfl (o_alloc (fid := 123) (zs := [HV.bool false, HV.str ([] : List UInt8)]) 123005 rfl rfl ty42 rfl (fun v2 => ?_))
 refine mv rfl rfl ?_
 refine b_fin hK (s' := ⟨[(2, HV.fptr [HV.bool p0.1, HV.str p0.2] 0), (3, HV.fptr [HV.bool p1.1, HV.str p1.2] 0), (4, HV.ptr 123004 v1 0), (5, HV.ptr 123005 v2 0)], [(123004, v1, .arr 2 42 [HV.bool false, HV.str ([] : List UInt8)]), (123005, v2, .arr 2 42 [HV.bool false, HV.str ([] : List UInt8)])]⟩) (le_q rfl rfl) ?_
 clear hK K
 refine AW.dgs 6 follows rfl rfl fun K hK => ?_
 refine sv rfl (v_loadF ty42 rfl (l_litA rfl (Nat.le_of_ble_eq_true rfl) rfl)) ?_
 obtain ⟨x3, h4, h⟩ := bS h
 refine s_op rfl rfl (ops_call rfl rfl rfl rfl (ACallD.pure0 (w_integer_digits h4)) ?_)
 refine sv rfl (v_loadF ty42 rfl (l_litA rfl (Nat.le_of_ble_eq_true rfl) rfl)) ?_
 obtain ⟨x5, h6, h⟩ := bS h
 refine s_op rfl rfl (ops_call rfl rfl rfl rfl (ACallD.pure0 (w_integer_digits h6)) ?_)
 refine sm rfl rfl ?_
 refine sm rfl rfl ?_
 refine s_nil ?_
 refine b_fin hK (s' := ⟨[(2, HV.fptr [HV.bool p0.1, HV.str p0.2] 0), (3, HV.fptr [HV.bool p1.1, HV.str p1.2] 0), (4, HV.ptr 123004 v1 0), (5, HV.ptr 123005 v2 0), (7, slE (encM (HV.int .u32)) x3), (8, slE (encM (HV.int .u32)) x5)], [(123004, v1, .arr 2 42 [HV.bool false, HV.str ([] : List UInt8)]), (123005, v2, .arr 2 42 [HV.bool false, HV.str ([] : List UInt8)])]⟩) (le_q rfl rfl) ?_
 clear hK K
 refine AW.seq ?_
 refine AW.rgs rfl fun K hK => ?_
 refine mv rfl rfl ?_
 refine bv rfl (v_lenF rfl rfl ty107 rfl) ?_
 refine bv rfl (v_bin rfl rfl b_eql) ?_
 refine b_fin hK (s' := ⟨[(2, HV.fptr [HV.bool p0.1, HV.str p0.2] 0), (3, HV.fptr [HV.bool p1.1, HV.str p1.2] 0), (4, HV.ptr 123004 v1 0), (5, HV.ptr 123005 v2 0), (7, slE (encM (HV.int .u32)) x3), (8, slE (encM (HV.int .u32)) x5), (17, HV.bool (decide (((x5).length : Int) = 0)))], [(123004, v1, .arr 2 42 [HV.bool false, HV.str ([] : List UInt8)]), (123005, v2, .arr 2 42 [HV.bool false, HV.str ([] : List UInt8)])]⟩) (le_q rfl rfl) ?_
 clear hK K
 refine AW.cond rfl (fun hc => ?_) (fun hc => ?_)
 ·have hc := of_decide_eq_true hc
  have h := ifT hc h
  refine AW.rgs rfl fun K hK => ?_
  refine b_op rfl (o_build (cs := [HV.bool false, HV.str ([] : List UInt8)]) rfl (bl_of ty42 rfl rfl rfl rfl) ?_)
  refine b_op rfl (o_build (cs := [HV.bool false, HV.str ([] : List UInt8)]) rfl (bl_of ty42 rfl rfl rfl rfl) ?_)
  refine b_op rfl (o_store (cs := [HV.bool false, HV.str ([] : List UInt8)]) (zs := [HV.bool false, HV.str ([] : List UInt8)]) rfl rfl rfl ty42 rfl rfl rfl rfl rfl ?_)
  refine b_op rfl (o_store (cs := [HV.bool false, HV.str ([] : List UInt8)]) (zs := [HV.bool false, HV.str ([] : List UInt8)]) rfl rfl rfl ty42 rfl rfl rfl rfl rfl ?_)
  refine mv rfl rfl ?_
  refine b_fin hK (s' := ⟨[(4, HV.ptr 123004 v1 0), (5, HV.ptr 123005 v2 0), (6, HV.int .i64 9)], [(123004, v1, .arr 2 42 [HV.bool false, HV.str ([] : List UInt8)]), (123005, v2, .arr 2 42 [HV.bool false, HV.str ([] : List UInt8)])]⟩) (le_q rfl rfl) ?_
  clear hK K
  refine AW.ret ?_
  have h := Option.some.inj h
  subst h
  exact ret_pure (hs := [HV.agg [HV.bool false, HV.str ([] : List UInt8)], HV.agg [HV.bool false, HV.str ([] : List UInt8)], HV.int .i64 9]) (q := HV.tup [HV.agg [HV.bool false, HV.str ([] : List UInt8)], HV.agg [HV.bool false, HV.str ([] : List UInt8)], HV.int .i64 9]) (.inr rfl) (resP ty42 rfl rfl (l_litA rfl (Nat.le_of_ble_eq_true rfl) rfl) (resP ty42 rfl rfl (l_litA rfl (Nat.le_of_ble_eq_true rfl) rfl) (resT rfl rfl))) rfl ⟨⟨trivial, trivial, trivial⟩, ⟨trivial, trivial, trivial⟩, trivial, trivial⟩
 have hc := of_decide_eq_false hc
 have h := ifF hc h
 refine AW.skip ?_
 refine AW.rgs rfl fun K hK => ?_
 refine mv rfl rfl ?_
 refine mv rfl rfl ?_
 obtain ⟨x7, h8, h⟩ := bS h
 refine b_op rfl (o_call rfl rfl rfl rfl (ACallD.pure0 (w_integer_divide h8)) ?_)
 refine mv rfl rfl ?_
 refine bv rfl (v_extract rfl rfl) ?_
 refine bv rfl (v_extract rfl rfl) ?_
 refine mv rfl rfl ?_
 refine mv rfl rfl ?_
 refine b_fin hK (s' := ⟨[(2, HV.fptr [HV.bool p0.1, HV.str p0.2] 0), (3, HV.fptr [HV.bool p1.1, HV.str p1.2] 0), (4, HV.ptr 123004 v1 0), (5, HV.ptr 123005 v2 0), (8, slE (encM (HV.int .u32)) x5), (9, slE (encM (HV.int .u32)) x7.1), (10, slE (encM (HV.int .u32)) x7.2)], [(123004, v1, .arr 2 42 [HV.bool false, HV.str ([] : List UInt8)]), (123005, v2, .arr 2 42 [HV.bool false, HV.str ([] : List UInt8)])]⟩) (le_q rfl rfl) ?_
 clear hK K
 refine AW.seq ?_
 refine AW.seqJ h (S := Bool) (V := Unit) (fun a v => ⟨[(2, HV.fptr [HV.bool p0.1, HV.str p0.2] 0), (3, HV.fptr [HV.bool p1.1, HV.str p1.2] 0), (4, HV.ptr 123004 v1 0), (5, HV.ptr 123005 v2 0), (8, slE (encM (HV.int .u32)) x5), (9, slE (encM (HV.int .u32)) x7.1), (10, slE (encM (HV.int .u32)) x7.2), (35, HV.bool a)], [(123004, v1, .arr 2 42 [HV.bool false, HV.str ([] : List UInt8)]), (123005, v2, .arr 2 42 [HV.bool false, HV.str ([] : List UInt8)])]⟩) (fun a9 w10 h => ?_) (fun k11 h => ?_)
 ·refine AW.lastJ h (by first | exact up_then | exact up_to) (S := (List Int) × (List Int)) (V := Unit) (fun a v => ⟨[(2, HV.fptr [HV.bool p0.1, HV.str p0.2] 0), (3, HV.fptr [HV.bool p1.1, HV.str p1.2] 0), (4, HV.ptr 123004 v1 0), (5, HV.ptr 123005 v2 0), (9, slE (encM (HV.int .u32)) a.1), (10, slE (encM (HV.int .u32)) a.2)], [(123004, v1, .arr 2 42 [HV.bool false, HV.str ([] : List UInt8)]), (123005, v2, .arr 2 42 [HV.bool false, HV.str ([] : List UInt8)])]⟩) (fun a12 w13 h => ?_) (fun k14 h => ?_)
  ·refine AW.dgs 11 follows rfl rfl fun K hK => ?_
   refine sv rfl (v_fieldAddrF fo42_0 rfl) ?_
   refine sv rfl (v_loadF ty4 rfl (l_lit rfl rfl)) ?_
   refine sv rfl (v_fieldAddrF fo42_0 rfl) ?_
   refine sv rfl (v_loadF ty4 rfl (l_lit rfl rfl)) ?_
   refine sv rfl (v_bin rfl rfl (b_neB ty4)) ?_
   refine sm rfl rfl ?_
   obtain ⟨x15, h16, h⟩ := bS h
   refine s_op rfl rfl (ops_call rfl rfl rfl rfl (ACallD.pure0 (w_integer_number h16)) ?_)
   refine sv rfl (v_fieldAddrF fo42_0 rfl) ?_
   refine sv rfl (v_loadF ty4 rfl (l_lit rfl rfl)) ?_
   refine sm rfl rfl ?_
   obtain ⟨x17, h18, h⟩ := bS h
   refine s_op rfl rfl (ops_call rfl rfl rfl rfl (ACallD.pure0 (w_integer_number h18)) ?_)
   refine s_nil ?_
   refine b_op rfl (o_store (cs := [HV.bool x15.1, HV.str x15.2]) (zs := [HV.bool x15.1, HV.str x15.2]) rfl rfl rfl ty42 rfl rfl rfl rfl rfl ?_)
   refine b_op rfl (o_store (cs := [HV.bool x17.1, HV.str x17.2]) (zs := [HV.bool x17.1, HV.str x17.2]) rfl rfl rfl ty42 rfl rfl rfl rfl rfl ?_)
   refine mv rfl rfl ?_
   refine b_fin hK (s' := ⟨[(4, HV.ptr 123004 v1 0), (5, HV.ptr 123005 v2 0), (6, HV.int .i64 0)], [(123004, v1, .arr 2 42 [HV.bool x15.1, HV.str x15.2]), (123005, v2, .arr 2 42 [HV.bool x17.1, HV.str x17.2])]⟩) (le_q rfl rfl) ?_
   clear hK K
   refine AW.ret ?_
   have h := Option.some.inj h
   subst h
   exact ret_pure (hs := [HV.agg [HV.bool x15.1, HV.str x15.2], HV.agg [HV.bool x17.1, HV.str x17.2], HV.int .i64 0]) (q := HV.tup [HV.agg [HV.bool x15.1, HV.str x15.2], HV.agg [HV.bool x17.1, HV.str x17.2], HV.int .i64 0]) (.inr rfl) (resP ty42 rfl rfl (l_litA rfl (Nat.le_of_ble_eq_true rfl) rfl) (resP ty42 rfl rfl (l_litA rfl (Nat.le_of_ble_eq_true rfl) rfl) (resT rfl rfl))) rfl ⟨⟨trivial, trivial, trivial⟩, ⟨trivial, trivial, trivial⟩, trivial, trivial⟩
  refine AW.cond rfl (fun hc => ?_) (fun hc => ?_)
  ·have h := ifT hc h
   refine AW.rg rfl fun K hK => ?_
   refine mv rfl rfl ?_
   refine b_op rfl (o_bsl rfl rfl (as_of (cs := [HV.int .u32 1]) ty107 ty105 rfl rfl rfl rfl rfl) ?_)
   obtain ⟨x19, h20, h⟩ := bS h
   refine b_op rfl (o_call rfl rfl rfl rfl (ACallD.pure0 (w_integer_add h20)) ?_)
   refine mv rfl rfl ?_
   refine mv rfl rfl ?_
   obtain ⟨x21, h22, h⟩ := bS h
   refine b_op rfl (o_call rfl rfl rfl rfl (ACallD.pure0 (w_integer_subtract h22)) ?_)
   refine mv rfl rfl ?_
   refine mv rfl rfl ?_
   refine b_nil (hK _ ?_)
   clear hK K
   exact to_le (s' := ⟨[(2, HV.fptr [HV.bool p0.1, HV.str p0.2] 0), (3, HV.fptr [HV.bool p1.1, HV.str p1.2] 0), (4, HV.ptr 123004 v1 0), (5, HV.ptr 123005 v2 0), (9, slE (encM (HV.int .u32)) x19), (10, slE (encM (HV.int .u32)) x21)], [(123004, v1, .arr 2 42 [HV.bool false, HV.str ([] : List UInt8)]), (123005, v2, .arr 2 42 [HV.bool false, HV.str ([] : List UInt8)])]⟩) (AS.le_of ⟨rfl, rfl, rfl, rfl, rfl, rfl, trivial⟩ ⟨rfl, rfl, trivial⟩) ⟨(x19, x21), (), h, rfl⟩
  have h := ifF (bF' hc) h
  refine AW.skip ?_
  exact to_le (s' := ⟨[(2, HV.fptr [HV.bool p0.1, HV.str p0.2] 0), (3, HV.fptr [HV.bool p1.1, HV.str p1.2] 0), (4, HV.ptr 123004 v1 0), (5, HV.ptr 123005 v2 0), (9, slE (encM (HV.int .u32)) x7.1), (10, slE (encM (HV.int .u32)) x7.2)], [(123004, v1, .arr 2 42 [HV.bool false, HV.str ([] : List UInt8)]), (123005, v2, .arr 2 42 [HV.bool false, HV.str ([] : List UInt8)])]⟩) (AS.le_of ⟨rfl, rfl, rfl, rfl, rfl, rfl, trivial⟩ ⟨rfl, rfl, trivial⟩) ⟨(x7.1, x7.2), (), h, rfl⟩
 refine AW.rg rfl fun K hK => ?_
 refine bv rfl (v_fieldAddrF fo42_0 rfl) ?_
 refine bv rfl (v_loadF ty4 rfl (l_lit rfl rfl)) ?_
 refine bv rfl (v_fieldAddrF fo42_0 rfl) ?_
 refine bv rfl (v_loadF ty4 rfl (l_lit rfl rfl)) ?_
 refine bv rfl (v_bin rfl rfl (b_neB ty4)) ?_
 refine mv rfl rfl ?_
 by_cases hg23 : (!(p0.1 == p1.1)) = true
 ·have h := ifT hg23 h
  refine b_T rfl rfl rfl rfl hg23 (o_val rfl (mv_val rfl rfl).2 ?_)
  refine b_T rfl rfl rfl rfl rfl (o_val rfl (v_lenF rfl rfl ty107 rfl) ?_)
  refine b_T rfl rfl rfl rfl rfl (o_val rfl (v_bin rfl rfl b_gtr) ?_)
  refine bv rfl (v_pickT rfl rfl rfl) ?_
  refine b_nil (hK _ ?_)
  clear hK K
  exact to_le (s' := ⟨[(2, HV.fptr [HV.bool p0.1, HV.str p0.2] 0), (3, HV.fptr [HV.bool p1.1, HV.str p1.2] 0), (4, HV.ptr 123004 v1 0), (5, HV.ptr 123005 v2 0), (8, slE (encM (HV.int .u32)) x5), (9, slE (encM (HV.int .u32)) x7.1), (10, slE (encM (HV.int .u32)) x7.2), (35, HV.bool (decide (0 < ((x7.2).length : Int))))], [(123004, v1, .arr 2 42 [HV.bool false, HV.str ([] : List UInt8)]), (123005, v2, .arr 2 42 [HV.bool false, HV.str ([] : List UInt8)])]⟩) (AS.le_of ⟨rfl, rfl, rfl, rfl, rfl, rfl, rfl, rfl, trivial⟩ ⟨rfl, rfl, trivial⟩) ⟨decide (0 < ((x7.2).length : Int)), (), h, rfl⟩
 have h := ifF hg23 h
 refine b_F rfl rfl rfl rfl rfl (bF hg23) ?_
 refine b_F rfl rfl rfl rfl rfl rfl ?_
 refine b_F rfl rfl rfl rfl rfl rfl ?_
 refine bv rfl (v_pickF rfl rfl rfl) ?_
 refine b_nil (hK _ ?_)
 clear hK K
 exact to_le (s' := ⟨[(2, HV.fptr [HV.bool p0.1, HV.str p0.2] 0), (3, HV.fptr [HV.bool p1.1, HV.str p1.2] 0), (4, HV.ptr 123004 v1 0), (5, HV.ptr 123005 v2 0), (8, slE (encM (HV.int .u32)) x5), (9, slE (encM (HV.int .u32)) x7.1), (10, slE (encM (HV.int .u32)) x7.2), (35, HV.bool false)], [(123004, v1, .arr 2 42 [HV.bool false, HV.str ([] : List UInt8)]), (123005, v2, .arr 2 42 [HV.bool false, HV.str ([] : List UInt8)])]⟩) (AS.le_of ⟨rfl, rfl, rfl, rfl, rfl, rfl, rfl, rfl, trivial⟩ ⟨rfl, rfl, trivial⟩) ⟨false, (), h, rfl⟩

end Go.AW

namespace Go.AW
open Go Go.Proofs
set_option linter.unusedVariables false
set_option maxHeartbeats 1600000 in
set_option maxRecDepth 100000 in
theorem w_rational_lowest {p0 : TNegMag} {p1 : TNegMag} {r : TNumDen} (h : m_rational_lowest p0 p1 = some r) : Pure Tryz.prog 70 [HV.agg [HV.bool p0.1, HV.str p0.2], HV.agg [HV.bool p1.1, HV.str p1.2]] (· = HV.agg [HV.bool r.1.1, HV.str r.1.2, HV.bool r.2.1, HV.str r.2.2]) := by
 unfold m_rational_lowest at h
 refine Pure.of_body Tryz.func70 rfl rfl (Nat.le_of_ble_eq_true rfl) fun hf => ?_
 unfold Tryz.f70
 dsimp only [enumS, Nat.reduceAdd]
 refine AW.rgs rfl fun K hK => ?_
 refine b_op rfl (o_boxM (fid := 70) 70002 rfl rfl rfl rfl (fun v1 => ?_))
 refine b_op rfl (o_boxM (fid := 70) 70003 rfl rfl rfl rfl (fun v2 => ?_))
 refine b_op rfl (o_alloc (fid := 70) (zs := [HV.bool false, HV.str ([] : List UInt8), HV.bool false, HV.str ([] : List UInt8)]) 70004 rfl rfl ty44 rfl (fun v3 => ?_))
 refine b_fin hK (s' := ⟨[(2, HV.ptr 70002 v1 0), (3, HV.ptr 70003 v2 0), (4, HV.ptr 70004 v3 0)], [(70002, v1, .arr 2 42 [HV.bool p0.1, HV.str p0.2]), (70003, v2, .arr 2 42 [HV.bool p1.1, HV.str p1.2]), (70004, v3, .arr 4 44 [HV.bool false, HV.str ([] : List UInt8), HV.bool false, HV.str ([] : List UInt8)])]⟩) (le_q rfl rfl) ?_
 clear hK K
 refine AW.seq ?_
 refine AW.rgs rfl fun K hK => ?_
 refine bv rfl (v_loadP ty42 rfl rfl (l_litA rfl (Nat.le_of_ble_eq_true rfl) rfl)) ?_
 refine b_op rfl (o_build (cs := [HV.bool false, HV.str ([] : List UInt8)]) rfl (bl_of ty42 rfl rfl rfl rfl) ?_)
 obtain ⟨x4, h5, h⟩ := bS h
 refine b_op rfl (o_call rfl rfl rfl rfl (ACallD.pure0 (w_integer_Compare h5)) ?_)
 refine mv rfl rfl ?_
 refine b_fin hK (s' := ⟨[(2, HV.ptr 70002 v1 0), (3, HV.ptr 70003 v2 0), (4, HV.ptr 70004 v3 0), (5, HV.int .i64 x4)], [(70002, v1, .arr 2 42 [HV.bool p0.1, HV.str p0.2]), (70003, v2, .arr 2 42 [HV.bool p1.1, HV.str p1.2]), (70004, v3, .arr 4 44 [HV.bool false, HV.str ([] : List UInt8), HV.bool false, HV.str ([] : List UInt8)])]⟩) (le_q rfl rfl) ?_
 clear hK K
 refine AW.lastJ h (by first | exact up_then | exact up_to) (S := Bool × (List UInt8) × Bool × (List UInt8)) (V := Unit) (fun a v => ⟨[(2, HV.ptr 70002 v1 0), (3, HV.ptr 70003 v2 0), (4, HV.ptr 70004 v3 0)], [(70002, v1, .arr 2 42 [HV.bool a.1, HV.str a.2.1]), (70003, v2, .arr 2 42 [HV.bool a.2.2.1, HV.str a.2.2.2]), (70004, v3, .arr 4 44 [HV.bool false, HV.str ([] : List UInt8), HV.bool false, HV.str ([] : List UInt8)])]⟩) (fun a6 w7 h => ?_) (fun k8 h => ?_)
 ·refine AW.rgs rfl fun K hK => ?_
  refine bv rfl (v_loadP ty42 rfl rfl (l_litA rfl (Nat.le_of_ble_eq_true rfl) rfl)) ?_
  refine bv rfl (v_loadP ty42 rfl rfl (l_litA rfl (Nat.le_of_ble_eq_true rfl) rfl)) ?_
  obtain ⟨x9, h10, h⟩ := bS h
  refine b_op rfl (o_call rfl rfl rfl rfl (ACallD.pure0 (w_integer_Gcd h10)) ?_)
  refine b_op rfl (o_alloc (fid := 70) (zs := [HV.bool false, HV.str ([] : List UInt8)]) 70006 rfl rfl ty42 rfl (fun v11 => ?_))
  refine b_op rfl (o_store (cs := [HV.bool x9.1, HV.str x9.2]) (zs := [HV.bool x9.1, HV.str x9.2]) rfl rfl rfl ty42 rfl rfl rfl rfl rfl ?_)
  refine b_fin hK (s' := ⟨[(2, HV.ptr 70002 v1 0), (3, HV.ptr 70003 v2 0), (4, HV.ptr 70004 v3 0), (6, HV.ptr 70006 v11 0)], [(70002, v1, .arr 2 42 [HV.bool a6.1, HV.str a6.2.1]), (70003, v2, .arr 2 42 [HV.bool a6.2.2.1, HV.str a6.2.2.2]), (70004, v3, .arr 4 44 [HV.bool false, HV.str ([] : List UInt8), HV.bool false, HV.str ([] : List UInt8)]), (70006, v11, .arr 2 42 [HV.bool x9.1, HV.str x9.2])]⟩) (le_q rfl rfl) ?_
  clear hK K
  refine AW.rgs rfl fun K hK => ?_
  refine bv rfl (v_loadP ty42 rfl rfl (l_litA rfl (Nat.le_of_ble_eq_true rfl) rfl)) ?_
  refine bv rfl (v_loadP ty42 rfl rfl (l_litA rfl (Nat.le_of_ble_eq_true rfl) rfl)) ?_
  obtain ⟨x12, h13, h⟩ := bS h
  refine b_op rfl (o_call rfl rfl rfl rfl (ACallD.pure0 (w_integer_Div h13)) ?_)
  refine mv rfl rfl ?_
  refine bv rfl (v_extract rfl rfl) ?_
  refine bv rfl (v_extract rfl rfl) ?_
  refine bv rfl (v_extract rfl rfl) ?_
  refine b_op rfl (o_alloc (fid := 70) (zs := [HV.bool false, HV.str ([] : List UInt8)]) 70007 rfl rfl ty42 rfl (fun v14 => ?_))
  refine b_op rfl (o_alloc (fid := 70) (zs := [HV.bool false, HV.str ([] : List UInt8)]) 70008 rfl rfl ty42 rfl (fun v15 => ?_))
  refine b_op rfl (o_store (cs := [HV.bool x12.1.1, HV.str x12.1.2]) (zs := [HV.bool x12.1.1, HV.str x12.1.2]) rfl rfl rfl ty42 rfl rfl rfl rfl rfl ?_)
  refine b_op rfl (o_store (cs := [HV.bool x12.2.1.1, HV.str x12.2.1.2]) (zs := [HV.bool x12.2.1.1, HV.str x12.2.1.2]) rfl rfl rfl ty42 rfl rfl rfl rfl rfl ?_)
  refine mv rfl rfl ?_
  refine b_fin hK (s' := ⟨[(3, HV.ptr 70003 v2 0), (4, HV.ptr 70004 v3 0), (6, HV.ptr 70006 v11 0), (7, HV.ptr 70007 v14 0)], [(70003, v2, .arr 2 42 [HV.bool a6.2.2.1, HV.str a6.2.2.2]), (70004, v3, .arr 4 44 [HV.bool false, HV.str ([] : List UInt8), HV.bool false, HV.str ([] : List UInt8)]), (70006, v11, .arr 2 42 [HV.bool x9.1, HV.str x9.2]), (70007, v14, .arr 2 42 [HV.bool x12.1.1, HV.str x12.1.2])]⟩) (le_q rfl rfl) ?_
  clear hK K
  refine AW.rgs rfl fun K hK => ?_
  refine bv rfl (v_loadP ty42 rfl rfl (l_litA rfl (Nat.le_of_ble_eq_true rfl) rfl)) ?_
  refine bv rfl (v_loadP ty42 rfl rfl (l_litA rfl (Nat.le_of_ble_eq_true rfl) rfl)) ?_
  obtain ⟨x16, h17, h⟩ := bS h
  refine b_op rfl (o_call rfl rfl rfl rfl (ACallD.pure0 (w_integer_Div h17)) ?_)
  refine mv rfl rfl ?_
  refine bv rfl (v_extract rfl rfl) ?_
  refine bv rfl (v_extract rfl rfl) ?_
  refine bv rfl (v_extract rfl rfl) ?_
  refine b_op rfl (o_alloc (fid := 70) (zs := [HV.bool false, HV.str ([] : List UInt8)]) 70010 rfl rfl ty42 rfl (fun v18 => ?_))
  refine b_op rfl (o_alloc (fid := 70) (zs := [HV.bool false, HV.str ([] : List UInt8)]) 70011 rfl rfl ty42 rfl (fun v19 => ?_))
  refine b_op rfl (o_store (cs := [HV.bool x16.1.1, HV.str x16.1.2]) (zs := [HV.bool x16.1.1, HV.str x16.1.2]) rfl rfl rfl ty42 rfl rfl rfl rfl rfl ?_)
  refine b_op rfl (o_store (cs := [HV.bool x16.2.1.1, HV.str x16.2.1.2]) (zs := [HV.bool x16.2.1.1, HV.str x16.2.1.2]) rfl rfl rfl ty42 rfl rfl rfl rfl rfl ?_)
  refine mv rfl rfl ?_
  refine b_fin hK (s' := ⟨[(4, HV.ptr 70004 v3 0), (7, HV.ptr 70007 v14 0), (10, HV.ptr 70010 v18 0)], [(70004, v3, .arr 4 44 [HV.bool false, HV.str ([] : List UInt8), HV.bool false, HV.str ([] : List UInt8)]), (70007, v14, .arr 2 42 [HV.bool x12.1.1, HV.str x12.1.2]), (70010, v18, .arr 2 42 [HV.bool x16.1.1, HV.str x16.1.2])]⟩) (le_q rfl rfl) ?_
  clear hK K
  refine AW.rgs rfl fun K hK => ?_
  refine bv rfl (v_loadP ty42 rfl rfl (l_litA rfl (Nat.le_of_ble_eq_true rfl) rfl)) ?_
  refine bv rfl (v_loadP ty42 rfl rfl (l_litA rfl (Nat.le_of_ble_eq_true rfl) rfl)) ?_
  refine b_op rfl (o_build (cs := [HV.bool x12.1.1, HV.str x12.1.2, HV.bool x16.1.1, HV.str x16.1.2]) rfl (bl_of ty44 rfl rfl rfl rfl) ?_)
  refine b_op rfl (o_store (cs := [HV.bool x12.1.1, HV.str x12.1.2, HV.bool x16.1.1, HV.str x16.1.2]) (zs := [HV.bool x12.1.1, HV.str x12.1.2, HV.bool x16.1.1, HV.str x16.1.2]) rfl rfl rfl ty44 rfl rfl rfl rfl rfl ?_)
  refine b_fin hK (s' := ⟨[(4, HV.ptr 70004 v3 0)], [(70004, v3, .arr 4 44 [HV.bool x12.1.1, HV.str x12.1.2, HV.bool x16.1.1, HV.str x16.1.2])]⟩) (le_q rfl rfl) ?_
  clear hK K
  refine AW.ret ?_
  have h := Option.some.inj h
  subst h
  exact ret_pure (hs := [HV.agg [HV.bool x12.1.1, HV.str x12.1.2, HV.bool x16.1.1, HV.str x16.1.2]]) (q := HV.agg [HV.bool x12.1.1, HV.str x12.1.2, HV.bool x16.1.1, HV.str x16.1.2]) (.inr rfl) (resP ty44 rfl rfl (l_litA rfl (Nat.le_of_ble_eq_true rfl) rfl) rfl) rfl ⟨trivial, trivial, trivial, trivial, trivial⟩
 refine AW.block ?_
 refine AW.seqJ h (S := Bool) (V := Unit) (fun a v => ⟨[(2, HV.ptr 70002 v1 0), (3, HV.ptr 70003 v2 0), (4, HV.ptr 70004 v3 0), (5, HV.int .i64 x4), (16, HV.bool a)], [(70002, v1, .arr 2 42 [HV.bool p0.1, HV.str p0.2]), (70003, v2, .arr 2 42 [HV.bool p1.1, HV.str p1.2]), (70004, v3, .arr 4 44 [HV.bool false, HV.str ([] : List UInt8), HV.bool false, HV.str ([] : List UInt8)])]⟩) (fun a20 w21 h => ?_) (fun k22 h => ?_)
 ·refine AW.cond rfl (fun hc => ?_) (fun hc => ?_)
  ·have h := ifT hc h
   refine AW.rgs rfl fun K hK => ?_
   obtain ⟨x23, h24, h⟩ := bS h
   refine b_op rfl (o_call rfl rfl rfl rfl (ACallD.pure0 (w_integer_Of h24)) ?_)
   refine b_op rfl (o_build (cs := [HV.bool false, HV.str ([] : List UInt8), HV.bool x23.1, HV.str x23.2]) rfl (bl_of ty44 rfl rfl rfl rfl) ?_)
   refine b_op rfl (o_store (cs := [HV.bool false, HV.str ([] : List UInt8), HV.bool x23.1, HV.str x23.2]) (zs := [HV.bool false, HV.str ([] : List UInt8), HV.bool x23.1, HV.str x23.2]) rfl rfl rfl ty44 rfl rfl rfl rfl rfl ?_)
   refine b_fin hK (s' := ⟨[(4, HV.ptr 70004 v3 0)], [(70004, v3, .arr 4 44 [HV.bool false, HV.str ([] : List UInt8), HV.bool x23.1, HV.str x23.2])]⟩) (le_q rfl rfl) ?_
   clear hK K
   refine AW.ret ?_
   have h := Option.some.inj h
   subst h
   exact ret_pure (hs := [HV.agg [HV.bool false, HV.str ([] : List UInt8), HV.bool x23.1, HV.str x23.2]]) (q := HV.agg [HV.bool false, HV.str ([] : List UInt8), HV.bool x23.1, HV.str x23.2]) (.inr rfl) (resP ty44 rfl rfl (l_litA rfl (Nat.le_of_ble_eq_true rfl) rfl) rfl) rfl ⟨trivial, trivial, trivial, trivial, trivial⟩
  have h := ifF (bF' hc) h
  refine AW.rgs rfl fun K hK => ?_
  refine mv rfl rfl ?_
  refine bv rfl (v_bin rfl rfl b_lss) ?_
  refine mv rfl rfl ?_
  refine b_fin hK (s' := ⟨[(2, HV.ptr 70002 v1 0), (3, HV.ptr 70003 v2 0), (4, HV.ptr 70004 v3 0), (27, HV.bool (decide (x4 < 0)))], [(70002, v1, .arr 2 42 [HV.bool p0.1, HV.str p0.2]), (70003, v2, .arr 2 42 [HV.bool p1.1, HV.str p1.2]), (70004, v3, .arr 4 44 [HV.bool false, HV.str ([] : List UInt8), HV.bool false, HV.str ([] : List UInt8)])]⟩) (le_q rfl rfl) ?_
  clear hK K
  refine AW.cond rfl (fun hc => ?_) (fun hc => ?_)
  ·have hc := of_decide_eq_true hc
   have h := ifT hc h
   refine AW.dg 4 follows rfl rfl fun K hK => ?_
   refine sv rfl (v_loadP ty42 rfl rfl (l_litA rfl (Nat.le_of_ble_eq_true rfl) rfl)) ?_
   obtain ⟨x25, h26, h⟩ := bS h
   refine s_op rfl rfl (ops_call rfl rfl rfl rfl (ACallD.pure0 (w_integer_Neg h26)) ?_)
   refine sv rfl (v_loadP ty42 rfl rfl (l_litA rfl (Nat.le_of_ble_eq_true rfl) rfl)) ?_
   obtain ⟨x27, h28, h⟩ := bS h
   refine s_op rfl rfl (ops_call rfl rfl rfl rfl (ACallD.pure0 (w_integer_Neg h28)) ?_)
   refine s_nil ?_
   refine b_op rfl (o_store (cs := [HV.bool x25.1, HV.str x25.2]) (zs := [HV.bool x25.1, HV.str x25.2]) rfl rfl rfl ty42 rfl rfl rfl rfl rfl ?_)
   refine b_op rfl (o_store (cs := [HV.bool x27.1, HV.str x27.2]) (zs := [HV.bool x27.1, HV.str x27.2]) rfl rfl rfl ty42 rfl rfl rfl rfl rfl ?_)
   refine b_nil (hK _ ?_)
   clear hK K
   exact to_le (s' := ⟨[(2, HV.ptr 70002 v1 0), (3, HV.ptr 70003 v2 0), (4, HV.ptr 70004 v3 0)], [(70002, v1, .arr 2 42 [HV.bool x25.1, HV.str x25.2]), (70003, v2, .arr 2 42 [HV.bool x27.1, HV.str x27.2]), (70004, v3, .arr 4 44 [HV.bool false, HV.str ([] : List UInt8), HV.bool false, HV.str ([] : List UInt8)])]⟩) (AS.le_of ⟨rfl, rfl, rfl, trivial⟩ ⟨rfl, rfl, rfl, trivial⟩) ⟨(x25.1, x25.2, x27.1, x27.2), (), h, rfl⟩
  have hc := of_decide_eq_false hc
  have h := ifF hc h
  refine AW.skip ?_
  exact to_le (s' := ⟨[(2, HV.ptr 70002 v1 0), (3, HV.ptr 70003 v2 0), (4, HV.ptr 70004 v3 0)], [(70002, v1, .arr 2 42 [HV.bool p0.1, HV.str p0.2]), (70003, v2, .arr 2 42 [HV.bool p1.1, HV.str p1.2]), (70004, v3, .arr 4 44 [HV.bool false, HV.str ([] : List UInt8), HV.bool false, HV.str ([] : List UInt8)])]⟩) (AS.le_of ⟨rfl, rfl, rfl, trivial⟩ ⟨rfl, rfl, rfl, trivial⟩) ⟨(p0.1, p0.2, p1.1, p1.2), (), h, rfl⟩
 refine AW.rg rfl fun K hK => ?_
 refine mv rfl rfl ?_
 refine bv rfl (v_bin rfl rfl b_eql) ?_
 refine mv rfl rfl ?_
 by_cases hg31 : x4 = 0
 ·have h := ifT hg31 h
  refine b_F rfl rfl rfl rfl rfl (decide_eq_true hg31) ?_
  refine b_F rfl rfl rfl rfl rfl rfl ?_
  refine b_F rfl rfl rfl rfl rfl rfl ?_
  refine b_F rfl rfl rfl rfl rfl rfl ?_
  refine bv rfl (v_pickT rfl rfl rfl) ?_
  refine mv rfl rfl ?_
  refine b_nil (hK _ ?_)
  clear hK K
  exact to_le (s' := ⟨[(2, HV.ptr 70002 v1 0), (3, HV.ptr 70003 v2 0), (4, HV.ptr 70004 v3 0), (5, HV.int .i64 x4), (16, HV.bool true)], [(70002, v1, .arr 2 42 [HV.bool p0.1, HV.str p0.2]), (70003, v2, .arr 2 42 [HV.bool p1.1, HV.str p1.2]), (70004, v3, .arr 4 44 [HV.bool false, HV.str ([] : List UInt8), HV.bool false, HV.str ([] : List UInt8)])]⟩) (AS.le_of ⟨rfl, rfl, rfl, rfl, rfl, trivial⟩ ⟨rfl, rfl, rfl, trivial⟩) ⟨true, (), h, rfl⟩
 have h := ifF hg31 h
 refine b_T rfl rfl rfl rfl (decide_eq_false hg31) (o_val rfl (v_loadP ty42 rfl rfl (l_litA rfl (Nat.le_of_ble_eq_true rfl) rfl)) ?_)
 refine b_T rfl rfl rfl rfl rfl (o_build (cs := [HV.bool false, HV.str ([] : List UInt8)]) rfl (bl_of ty42 rfl rfl rfl rfl) ?_)
 obtain ⟨x29, h30, h⟩ := bS h
 refine b_T rfl rfl rfl rfl rfl (o_call rfl rfl rfl rfl (ACallD.pure0 (w_integer_Compare h30)) ?_)
 refine b_T rfl rfl rfl rfl rfl (o_val rfl (v_bin rfl rfl b_eql) ?_)
 refine bv rfl (v_pickF rfl rfl rfl) ?_
 refine mv rfl rfl ?_
 refine b_nil (hK _ ?_)
 clear hK K
 exact to_le (s' := ⟨[(2, HV.ptr 70002 v1 0), (3, HV.ptr 70003 v2 0), (4, HV.ptr 70004 v3 0), (5, HV.int .i64 x4), (16, HV.bool (decide (x29 = 0)))], [(70002, v1, .arr 2 42 [HV.bool p0.1, HV.str p0.2]), (70003, v2, .arr 2 42 [HV.bool p1.1, HV.str p1.2]), (70004, v3, .arr 4 44 [HV.bool false, HV.str ([] : List UInt8), HV.bool false, HV.str ([] : List UInt8)])]⟩) (AS.le_of ⟨rfl, rfl, rfl, rfl, rfl, trivial⟩ ⟨rfl, rfl, rfl, trivial⟩) ⟨decide (x29 = 0), (), h, rfl⟩

set_option maxHeartbeats 1600000 in
set_option maxRecDepth 100000 in
theorem w_rational_New {p0 : TNegMag} {p1 : TNegMag} {r : TNumDen × Int} (h : m_rational_New p0 p1 = some r) : Pure Tryz.prog 66 [HV.agg [HV.bool p0.1, HV.str p0.2], HV.agg [HV.bool p1.1, HV.str p1.2]] (· = HV.tup [HV.agg [HV.bool r.1.1.1, HV.str r.1.1.2, HV.bool r.1.2.1, HV.str r.1.2.2], HV.int .i64 r.2]) := by
 unfold m_rational_New at h
 refine Pure.of_body Tryz.func66 rfl rfl (Nat.le_of_ble_eq_true rfl) fun hf => ?_
 unfold Tryz.f66
 dsimp only [enumS, Nat.reduceAdd]
 refine AW.rgs rfl fun K hK => ?_
 refine b_op rfl (o_box rfl rfl rfl ?_)
 refine b_op rfl (o_box rfl rfl rfl ?_)
 refine b_op rfl (o_alloc (fid := 66) (zs := [HV.bool false, HV.str ([] : List UInt8), HV.bool false, HV.str ([] : List UInt8)]) 66004 rfl rfl ty44 rfl (fun v1 => ?_))
 refine mv rfl rfl ?_
 refine b_fin hK (s' := ⟨[(2, HV.fptr [HV.bool p0.1, HV.str p0.2] 0), (3, HV.fptr [HV.bool p1.1, HV.str p1.2] 0), (4, HV.ptr 66004 v1 0)], [(66004, v1, .arr 4 44 [HV.bool false, HV.str ([] : List UInt8), HV.bool false, HV.str ([] : List UInt8)])]⟩) (le_q rfl rfl) ?_
 clear hK K
 refine AW.seq ?_
 refine AW.rgs rfl fun K hK => ?_
 refine bv rfl (v_loadF ty42 rfl (l_litA rfl (Nat.le_of_ble_eq_true rfl) rfl)) ?_
 refine b_op rfl (o_build (cs := [HV.bool false, HV.str ([] : List UInt8)]) rfl (bl_of ty42 rfl rfl rfl rfl) ?_)
 obtain ⟨x2, h3, h⟩ := bS h
 refine b_op rfl (o_call rfl rfl rfl rfl (ACallD.pure0 (w_integer_Compare h3)) ?_)
 refine bv rfl (v_bin rfl rfl b_eql) ?_
 refine b_fin hK (s' := ⟨[(2, HV.fptr [HV.bool p0.1, HV.str p0.2] 0), (3, HV.fptr [HV.bool p1.1, HV.str p1.2] 0), (4, HV.ptr 66004 v1 0), (9, HV.bool (decide (x2 = 0)))], [(66004, v1, .arr 4 44 [HV.bool false, HV.str ([] : List UInt8), HV.bool false, HV.str ([] : List UInt8)])]⟩) (le_q rfl rfl) ?_
 clear hK K
 refine AW.cond rfl (fun hc => ?_) (fun hc => ?_)
 ·have hc := of_decide_eq_true hc
  have h := ifT hc h
  refine AW.rgs rfl fun K hK => ?_
  refine b_op rfl (o_build (cs := [HV.bool false, HV.str ([] : List UInt8), HV.bool false, HV.str ([] : List UInt8)]) rfl (bl_of ty44 rfl rfl rfl rfl) ?_)
  refine b_op rfl (o_store (cs := [HV.bool false, HV.str ([] : List UInt8), HV.bool false, HV.str ([] : List UInt8)]) (zs := [HV.bool false, HV.str ([] : List UInt8), HV.bool false, HV.str ([] : List UInt8)]) rfl rfl rfl ty44 rfl rfl rfl rfl rfl ?_)
  refine mv rfl rfl ?_
  refine b_fin hK (s' := ⟨[(4, HV.ptr 66004 v1 0), (5, HV.int .i64 9)], [(66004, v1, .arr 4 44 [HV.bool false, HV.str ([] : List UInt8), HV.bool false, HV.str ([] : List UInt8)])]⟩) (le_q rfl rfl) ?_
  clear hK K
  refine AW.ret ?_
  have h := Option.some.inj h
  subst h
  exact ret_pure (hs := [HV.agg [HV.bool false, HV.str ([] : List UInt8), HV.bool false, HV.str ([] : List UInt8)], HV.int .i64 9]) (q := HV.tup [HV.agg [HV.bool false, HV.str ([] : List UInt8), HV.bool false, HV.str ([] : List UInt8)], HV.int .i64 9]) (.inr rfl) (resP ty44 rfl rfl (l_litA rfl (Nat.le_of_ble_eq_true rfl) rfl) (resT rfl rfl)) rfl ⟨⟨trivial, trivial, trivial, trivial, trivial⟩, trivial, trivial⟩
 have hc := of_decide_eq_false hc
 have h := ifF hc h
 refine AW.skip ?_
 refine AW.rgs rfl fun K hK => ?_
 refine bv rfl (v_loadF ty42 rfl (l_litA rfl (Nat.le_of_ble_eq_true rfl) rfl)) ?_
 refine bv rfl (v_loadF ty42 rfl (l_litA rfl (Nat.le_of_ble_eq_true rfl) rfl)) ?_
 obtain ⟨x4, h5, h⟩ := bS h
 refine b_op rfl (o_call rfl rfl rfl rfl (ACallD.pure0 (w_rational_lowest h5)) ?_)
 refine b_op rfl (o_store (cs := [HV.bool x4.1.1, HV.str x4.1.2, HV.bool x4.2.1, HV.str x4.2.2]) (zs := [HV.bool x4.1.1, HV.str x4.1.2, HV.bool x4.2.1, HV.str x4.2.2]) rfl rfl rfl ty44 rfl rfl rfl rfl rfl ?_)
 refine mv rfl rfl ?_
 refine b_fin hK (s' := ⟨[(4, HV.ptr 66004 v1 0), (5, HV.int .i64 0)], [(66004, v1, .arr 4 44 [HV.bool x4.1.1, HV.str x4.1.2, HV.bool x4.2.1, HV.str x4.2.2])]⟩) (le_q rfl rfl) ?_
 clear hK K
 refine AW.ret ?_
 have h := Option.some.inj h
 subst h
 exact ret_pure (hs := [HV.agg [HV.bool x4.1.1, HV.str x4.1.2, HV.bool x4.2.1, HV.str x4.2.2], HV.int .i64 0]) (q := HV.tup [HV.agg [HV.bool x4.1.1, HV.str x4.1.2, HV.bool x4.2.1, HV.str x4.2.2], HV.int .i64 0]) (.inr rfl) (resP ty44 rfl rfl (l_litA rfl (Nat.le_of_ble_eq_true rfl) rfl) (resT rfl rfl)) rfl ⟨⟨trivial, trivial, trivial, trivial, trivial⟩, trivial, trivial⟩

set_option maxHeartbeats 1600000 in
set_option maxRecDepth 100000 in
theorem w_rational_Ratio {p0 : Int} {p1 : Int} {r : TNumDen × Int} (h : m_rational_Ratio p0 p1 = some r) : Pure Tryz.prog 20 [HV.int .i64 p0, HV.int .i64 p1] (· = HV.tup [HV.agg [HV.bool r.1.1.1, HV.str r.1.1.2, HV.bool r.1.2.1, HV.str r.1.2.2], HV.int .i64 r.2]) := by
 unfold m_rational_Ratio at h
 refine Pure.of_body Tryz.func20 rfl rfl (Nat.le_of_ble_eq_true rfl) fun hf => ?_
 unfold Tryz.f20
 dsimp only [enumS, Nat.reduceAdd]
 refine AW.rgs rfl fun K hK => ?_
 refine b_op rfl (o_alloc (fid := 20) (zs := [HV.bool false, HV.str ([] : List UInt8), HV.bool false, HV.str ([] : List UInt8)]) 20004 rfl rfl ty44 rfl (fun v1 => ?_))
 refine mv rfl rfl ?_
 refine b_fin hK (s' := ⟨[(0, HV.int .i64 p0), (1, HV.int .i64 p1), (4, HV.ptr 20004 v1 0)], [(20004, v1, .arr 4 44 [HV.bool false, HV.str ([] : List UInt8), HV.bool false, HV.str ([] : List UInt8)])]⟩) (le_q rfl rfl) ?_
 clear hK K
 refine AW.rgs rfl fun K hK => ?_
 refine mv rfl rfl ?_
 obtain ⟨x2, h3, h⟩ := bS h
 refine b_op rfl (o_call rfl rfl rfl rfl (ACallD.pure0 (w_integer_Of h3)) ?_)
 refine mv rfl rfl ?_
 obtain ⟨x4, h5, h⟩ := bS h
 refine b_op rfl (o_call rfl rfl rfl rfl (ACallD.pure0 (w_integer_Of h5)) ?_)
 obtain ⟨x6, h7, h⟩ := bS h
 refine b_op rfl (o_call rfl rfl rfl rfl (ACallD.pure0 (w_rational_New h7)) ?_)
 refine bv rfl (v_extract rfl rfl) ?_
 refine bv rfl (v_extract rfl rfl) ?_
 refine b_op rfl (o_store (cs := [HV.bool x6.1.1.1, HV.str x6.1.1.2, HV.bool x6.1.2.1, HV.str x6.1.2.2]) (zs := [HV.bool x6.1.1.1, HV.str x6.1.1.2, HV.bool x6.1.2.1, HV.str x6.1.2.2]) rfl rfl rfl ty44 rfl rfl rfl rfl rfl ?_)
 refine mv rfl rfl ?_
 refine b_fin hK (s' := ⟨[(4, HV.ptr 20004 v1 0), (5, HV.int .i64 x6.2)], [(20004, v1, .arr 4 44 [HV.bool x6.1.1.1, HV.str x6.1.1.2, HV.bool x6.1.2.1, HV.str x6.1.2.2])]⟩) (le_q rfl rfl) ?_
 clear hK K
 refine AW.ret ?_
 have h := Option.some.inj h
 subst h
 exact ret_pure (hs := [HV.agg [HV.bool x6.1.1.1, HV.str x6.1.1.2, HV.bool x6.1.2.1, HV.str x6.1.2.2], HV.int .i64 x6.2]) (q := HV.tup [HV.agg [HV.bool x6.1.1.1, HV.str x6.1.1.2, HV.bool x6.1.2.1, HV.str x6.1.2.2], HV.int .i64 x6.2]) (.inr rfl) (resP ty44 rfl rfl (l_litA rfl (Nat.le_of_ble_eq_true rfl) rfl) (resT rfl rfl)) rfl ⟨⟨trivial, trivial, trivial, trivial, trivial⟩, trivial, trivial⟩

set_option maxHeartbeats 1600000 in
set_option maxRecDepth 100000 in
theorem w_math_bits_Len {p0 : Int} {r : Int} (h : m_math_bits_Len p0 = some r) : Pure Tryz.prog 65 [HV.int .u64 p0] (· = HV.int .i64 r) := by
 unfold m_math_bits_Len at h
 refine Pure.of_body Tryz.func65 rfl rfl (Nat.le_of_ble_eq_true rfl) fun hf => ?_
 unfold Tryz.f65
 dsimp only [enumS, Nat.reduceAdd]
 refine AW.rgs rfl fun K hK => ?_
 refine mv rfl rfl ?_
 refine b_fin hK (s' := ⟨[(0, HV.int .u64 p0)], []⟩) (le_q rfl rfl) ?_
 clear hK K
 refine AW.cseq rfl (fun hc => by cases hc) (fun _ => ?_)
 refine AW.skip ?_
 refine AW.rgs rfl fun K hK => ?_
 refine mv rfl rfl ?_
 obtain ⟨x1, h2, h⟩ := bS h
 refine b_op rfl (o_call rfl rfl rfl rfl (ACallD.pure0 (w_math_bits_Len64 h2)) ?_)
 refine mv rfl rfl ?_
 refine b_fin hK (s' := ⟨[(2, HV.int .i64 x1)], []⟩) (le_q rfl rfl) ?_
 clear hK K
 refine AW.ret ?_
 have h := Option.some.inj h
 subst h
 exact ret_pure (hs := [HV.int .i64 x1]) (q := HV.int .i64 x1) (.inr rfl) (resT rfl rfl) rfl trivial

set_option maxHeartbeats 1600000 in
set_option maxRecDepth 100000 in
theorem w_merging_Rate {p0 : TWordsMerges} {r : TNumDen × Int} (h : m_merging_Rate p0 = some r) : Pure Tryz.prog 19 [HV.agg [slE eStr p0.1, slE eStr p0.2]] (· = HV.tup [HV.agg [HV.bool r.1.1.1, HV.str r.1.1.2, HV.bool r.1.2.1, HV.str r.1.2.2], HV.int .i64 r.2]) := by
 unfold m_merging_Rate at h
 refine Pure.of_body Tryz.func19 rfl rfl (Nat.le_of_ble_eq_true rfl) fun hf => ?_
 unfold Tryz.f19
 dsimp only [enumS, Nat.reduceAdd]
 refine AW.rgs rfl fun K hK => ?_
 refine b_op rfl (o_box rfl rfl rfl ?_)
 refine b_op rfl (o_alloc (fid := 19) (zs := [HV.bool false, HV.str ([] : List UInt8), HV.bool false, HV.str ([] : List UInt8)]) 19002 rfl rfl ty44 rfl (fun v1 => ?_))
 refine mv rfl rfl ?_
 refine b_fin hK (s' := ⟨[(1, HV.fptr [slE eStr p0.1, slE eStr p0.2] 0), (2, HV.ptr 19002 v1 0)], [(19002, v1, .arr 4 44 [HV.bool false, HV.str ([] : List UInt8), HV.bool false, HV.str ([] : List UInt8)])]⟩) (le_q rfl rfl) ?_
 clear hK K
 refine AW.seq ?_
 refine AW.rgs rfl fun K hK => ?_
 refine bv rfl (v_loadF ty24 rfl (l_litA rfl (Nat.le_of_ble_eq_true rfl) rfl)) ?_
 obtain ⟨x2, h3, h⟩ := bS h
 refine b_op rfl (o_call rfl rfl rfl rfl (ACallD.pure0 (w_merging_form h3)) ?_)
 refine bv rfl (v_bin rfl rfl b_neq) ?_
 refine b_fin hK (s' := ⟨[(1, HV.fptr [slE eStr p0.1, slE eStr p0.2] 0), (2, HV.ptr 19002 v1 0), (6, HV.bool (decide (x2 ≠ 0)))], [(19002, v1, .arr 4 44 [HV.bool false, HV.str ([] : List UInt8), HV.bool false, HV.str ([] : List UInt8)])]⟩) (le_q rfl rfl) ?_
 clear hK K
 refine AW.cond rfl (fun hc => ?_) (fun hc => ?_)
 ·have hc := of_decide_eq_true hc
  have h := ifT hc h
  refine AW.rgs rfl fun K hK => ?_
  refine b_op rfl (o_build (cs := [HV.bool false, HV.str ([] : List UInt8), HV.bool false, HV.str ([] : List UInt8)]) rfl (bl_of ty44 rfl rfl rfl rfl) ?_)
  refine b_op rfl (o_store (cs := [HV.bool false, HV.str ([] : List UInt8), HV.bool false, HV.str ([] : List UInt8)]) (zs := [HV.bool false, HV.str ([] : List UInt8), HV.bool false, HV.str ([] : List UInt8)]) rfl rfl rfl ty44 rfl rfl rfl rfl rfl ?_)
  refine mv rfl rfl ?_
  refine b_fin hK (s' := ⟨[(2, HV.ptr 19002 v1 0), (3, HV.int .i64 1)], [(19002, v1, .arr 4 44 [HV.bool false, HV.str ([] : List UInt8), HV.bool false, HV.str ([] : List UInt8)])]⟩) (le_q rfl rfl) ?_
  clear hK K
  refine AW.ret ?_
  have h := Option.some.inj h
  subst h
  exact ret_pure (hs := [HV.agg [HV.bool false, HV.str ([] : List UInt8), HV.bool false, HV.str ([] : List UInt8)], HV.int .i64 1]) (q := HV.tup [HV.agg [HV.bool false, HV.str ([] : List UInt8), HV.bool false, HV.str ([] : List UInt8)], HV.int .i64 1]) (.inr rfl) (resP ty44 rfl rfl (l_litA rfl (Nat.le_of_ble_eq_true rfl) rfl) (resT rfl rfl)) rfl ⟨⟨trivial, trivial, trivial, trivial, trivial⟩, trivial, trivial⟩
 have hc := of_decide_eq_false hc
 have h := ifF hc h
 refine AW.skip ?_
 refine AW.dgs 20 follows rfl rfl fun K hK => ?_
 refine sv rfl (v_fieldAddrF fo24_0 rfl) ?_
 refine sv rfl (v_loadF ty22 rfl (l_lit rfl rfl)) ?_
 refine sv rfl (v_lenF rfl rfl ty22 rfl) ?_
 refine sv rfl (v_convI ty3 ty97 rfl) ?_
 obtain ⟨x4, h5, h⟩ := bS h
 refine s_op rfl rfl (ops_call rfl rfl rfl rfl (ACallD.pure0 (w_math_bits_Len h5)) ?_)
 refine sv rfl (v_bin rfl rfl b_sub) ?_
 refine sv rfl (v_fieldAddrF fo24_0 rfl) ?_
 refine sv rfl (v_loadF ty22 rfl (l_lit rfl rfl)) ?_
 obtain ⟨x6, h7, h⟩ := bS h
 refine sv rfl (v_idxF ty22 es22 rfl rfl (idx_lt h7)) ?_
 refine sv rfl (v_loadF ty9 rfl (l_cell eStr h7 (o := 0) rfl rfl)) ?_
 refine sv rfl (v_lenS rfl rfl ty9 rfl) ?_
 refine sv rfl (v_fieldAddrF fo24_1 rfl) ?_
 refine sv rfl (v_loadF ty22 rfl (l_lit rfl rfl)) ?_
 obtain ⟨x8, h9, h⟩ := bS h
 refine sv rfl (v_idxF ty22 es22 rfl rfl (idx_lt h9)) ?_
 refine sv rfl (v_loadF ty9 rfl (l_cell eStr h9 (o := 0) rfl rfl)) ?_
 refine sv rfl (v_lenS rfl rfl ty9 rfl) ?_
 refine sv rfl (v_bin rfl rfl b_add) ?_
 obtain ⟨x10, h11, h⟩ := bS h
 refine s_op rfl rfl (ops_call rfl rfl rfl rfl (ACallD.pure0 (w_rational_Ratio h11)) ?_)
 refine sv rfl (v_extract rfl rfl) ?_
 refine sv rfl (v_extract rfl rfl) ?_
 refine s_nil ?_
 refine b_op rfl (o_store (cs := [HV.bool x10.1.1.1, HV.str x10.1.1.2, HV.bool x10.1.2.1, HV.str x10.1.2.2]) (zs := [HV.bool x10.1.1.1, HV.str x10.1.1.2, HV.bool x10.1.2.1, HV.str x10.1.2.2]) rfl rfl rfl ty44 rfl rfl rfl rfl rfl ?_)
 refine mv rfl rfl ?_
 refine b_fin hK (s' := ⟨[(2, HV.ptr 19002 v1 0), (3, HV.int .i64 x10.2)], [(19002, v1, .arr 4 44 [HV.bool x10.1.1.1, HV.str x10.1.1.2, HV.bool x10.1.2.1, HV.str x10.1.2.2])]⟩) (le_q rfl rfl) ?_
 clear hK K
 refine AW.ret ?_
 have h := Option.some.inj h
 subst h
 exact ret_pure (hs := [HV.agg [HV.bool x10.1.1.1, HV.str x10.1.1.2, HV.bool x10.1.2.1, HV.str x10.1.2.2], HV.int .i64 x10.2]) (q := HV.tup [HV.agg [HV.bool x10.1.1.1, HV.str x10.1.1.2, HV.bool x10.1.2.1, HV.str x10.1.2.2], HV.int .i64 x10.2]) (.inr rfl) (resP ty44 rfl rfl (l_litA rfl (Nat.le_of_ble_eq_true rfl) rfl) (resT rfl rfl)) rfl ⟨⟨trivial, trivial, trivial, trivial, trivial⟩, trivial, trivial⟩

set_option maxHeartbeats 1600000 in
set_option maxRecDepth 100000 in
theorem w_merging_Merges {p0 : TWordsMerges} {p1 : TLabelsStatesEdges} {p2 : Int} {p3 : Int} {r : (List (Int)) × Int} (h : m_merging_Merges p0 p1 p2 p3 = some r) : Pure Tryz.prog 24 [HV.agg [slE eStr p0.1, slE eStr p0.2], HV.agg [HV.int .i64 p1.1, HV.int .i64 p1.2.1, slE eFromLabelTo p1.2.2], HV.int .i64 p2, HV.int .i64 p3] (· = HV.tup [slE eInt r.1, HV.int .i64 r.2]) := by
 unfold m_merging_Merges at h
 refine Pure.of_body Tryz.func24 rfl rfl (Nat.le_of_ble_eq_true rfl) fun hf => ?_
 unfold Tryz.f24
 dsimp only [enumS, Nat.reduceAdd]
 refine AW.rgs rfl fun K hK => ?_
 refine b_op rfl (o_box rfl rfl rfl ?_)
 refine b_op rfl (o_box rfl rfl rfl ?_)
 refine mv rfl rfl ?_
 refine mv rfl rfl ?_
 refine b_fin hK (s' := ⟨[(2, HV.int .i64 p2), (3, HV.int .i64 p3), (4, HV.fptr [slE eStr p0.1, slE eStr p0.2] 0), (5, HV.fptr [HV.int .i64 p1.1, HV.int .i64 p1.2.1, slE eFromLabelTo p1.2.2] 0)], []⟩) (le_q rfl rfl) ?_
 clear hK K
 refine AW.seq ?_
 refine AW.rgs rfl fun K hK => ?_
 refine bv rfl (v_loadF ty24 rfl (l_litA rfl (Nat.le_of_ble_eq_true rfl) rfl)) ?_
 refine bv rfl (v_loadF ty27 rfl (l_litA rfl (Nat.le_of_ble_eq_true rfl) rfl)) ?_
 refine mv rfl rfl ?_
 refine mv rfl rfl ?_
 refine b_op rfl (o_bsl rfl rfl (as_of (cs := [HV.int .i64 p2, HV.int .i64 p3]) ty31 ty3 rfl rfl rfl rfl rfl) ?_)
 obtain ⟨x1, h2, h⟩ := bS h
 refine b_op rfl (o_call rfl rfl rfl rfl (ACallD.pure0 (w_merging_inputs h2)) ?_)
 refine mv rfl rfl ?_
 refine b_fin hK (s' := ⟨[(2, HV.int .i64 p2), (3, HV.int .i64 p3), (4, HV.fptr [slE eStr p0.1, slE eStr p0.2] 0), (5, HV.fptr [HV.int .i64 p1.1, HV.int .i64 p1.2.1, slE eFromLabelTo p1.2.2] 0), (10, HV.int .i64 x1)], []⟩) (le_q rfl rfl) ?_
 clear hK K
 refine AW.rgs rfl fun K hK => ?_
 refine mv rfl rfl ?_
 refine bv rfl (v_bin rfl rfl b_neq) ?_
 refine b_fin hK (s' := ⟨[(2, HV.int .i64 p2), (3, HV.int .i64 p3), (4, HV.fptr [slE eStr p0.1, slE eStr p0.2] 0), (5, HV.fptr [HV.int .i64 p1.1, HV.int .i64 p1.2.1, slE eFromLabelTo p1.2.2] 0), (10, HV.int .i64 x1), (21, HV.bool (decide (x1 ≠ 0)))], []⟩) (le_q rfl rfl) ?_
 clear hK K
 refine AW.cond rfl (fun hc => ?_) (fun hc => ?_)
 ·have hc := of_decide_eq_true hc
  have h := ifT hc h
  refine AW.rgs rfl fun K hK => ?_
  refine mv rfl rfl ?_
  refine mv rfl rfl ?_
  refine mv rfl rfl ?_
  refine b_fin hK (s' := ⟨[(8, HV.v (.slice none 0 0)), (9, HV.int .i64 x1)], []⟩) (le_q rfl rfl) ?_
  clear hK K
  refine AW.to (to_weak ⟨[(8, slE eInt ([] : List Int)), (9, HV.int .i64 x1)], []⟩ ⟨⟨_, rfl, .nil _⟩, ⟨_, rfl, .refl _⟩, trivial⟩ trivial ?_)
  refine AW.ret ?_
  have h := Option.some.inj h
  subst h
  exact ret_pure (hs := [slE eInt ([] : List Int), HV.int .i64 x1]) (q := HV.tup [slE eInt ([] : List Int), HV.int .i64 x1]) (.inr rfl) (resT rfl (resT rfl rfl)) rfl ⟨(clean_slE fun _ _ => ⟨trivial, trivial⟩), trivial, trivial⟩
 have hc := of_decide_eq_false hc
 have h := ifF hc h
 refine AW.skip ?_
 refine AW.rgs rfl fun K hK => ?_
 refine mv rfl rfl ?_
 refine b_fin hK (s' := ⟨[(2, HV.int .i64 p2), (3, HV.int .i64 p3), (4, HV.fptr [slE eStr p0.1, slE eStr p0.2] 0), (5, HV.fptr [HV.int .i64 p1.1, HV.int .i64 p1.2.1, slE eFromLabelTo p1.2.2] 0), (11, HV.v (.slice none 0 0))], []⟩) (le_q rfl rfl) ?_
 clear hK K
 refine AW.seq ?_
 refine AW.rgs rfl fun K hK => ?_
 refine bv rfl (v_fieldAddrF fo24_1 rfl) ?_
 refine bv rfl (v_loadF ty22 rfl (l_lit rfl rfl)) ?_
 refine bv rfl (v_lenF rfl rfl ty22 rfl) ?_
 refine mv rfl rfl ?_
 refine b_fin hK (s' := ⟨[(2, HV.int .i64 p2), (3, HV.int .i64 p3), (4, HV.fptr [slE eStr p0.1, slE eStr p0.2] 0), (5, HV.fptr [HV.int .i64 p1.1, HV.int .i64 p1.2.1, slE eFromLabelTo p1.2.2] 0), (11, HV.v (.slice none 0 0)), (24, slE eStr p0.2), (25, HV.int .i64 ((p0.2).length : Int)), (26, HV.int .i64 0)], []⟩) (le_q rfl rfl) ?_
 clear hK K
 refine AW.lpX h (by first | exact up_then | exact up_to) (S := Int × (List Int)) (V := Nat) (fun a v => ⟨[(2, HV.int .i64 p2), (3, HV.int .i64 p3), (4, HV.fptr [slE eStr p0.1, slE eStr p0.2] 0), (5, HV.fptr [HV.int .i64 p1.1, HV.int .i64 p1.2.1, slE eFromLabelTo p1.2.2] 0), (11, HV.ar 24049 v eInt.k 0 ((a.2).length)), (24, slE eStr p0.2), (25, HV.int .i64 ((p0.2).length : Int)), (26, HV.int .i64 a.1)], [(24049, v, .arr eInt.k 3 (eInt.E a.2))]⟩) ?_ (X := (List Int)) (W := Nat) (fun a v => ⟨[(11, HV.ar 24049 v eInt.k 0 ((a).length))], [(24049, v, .arr eInt.k 3 (eInt.E a))]⟩) (fun a23 w24 h => ?_) (fun a3 w4 st5 h => ?_)
 ·refine to_bind (to_own 24049 11 eInt.k 3 rfl fun v22 => ?_)
  exact to_le (s' := ⟨[(2, HV.int .i64 p2), (3, HV.int .i64 p3), (4, HV.fptr [slE eStr p0.1, slE eStr p0.2] 0), (5, HV.fptr [HV.int .i64 p1.1, HV.int .i64 p1.2.1, slE eFromLabelTo p1.2.2] 0), (11, HV.ar 24049 v22 eInt.k 0 ((([] : List Int)).length)), (24, slE eStr p0.2), (25, HV.int .i64 ((p0.2).length : Int)), (26, HV.int .i64 0)], [(24049, v22, .arr eInt.k 3 (eInt.E ([] : List Int)))]⟩) (AS.le_of ⟨rfl, rfl, rfl, rfl, arl (by first | rfl | simp only [List.length_set, sortI_len, sortS_len]), rfl, rfl, rfl, trivial⟩ ⟨rfl, trivial⟩) ⟨v22, rfl⟩
 ·refine AW.rgs rfl fun K hK => ?_
  refine mv rfl rfl ?_
  refine mv rfl rfl ?_
  refine mv rfl rfl ?_
  refine b_fin hK (s' := ⟨[(8, HV.ar 24049 w24 eInt.k 0 ((a23).length)), (9, HV.int .i64 0)], [(24049, w24, .arr eInt.k 3 (eInt.E a23))]⟩) (le_q rfl rfl) ?_
  clear hK K
  refine AW.to (to_frz 2 [(24049, w24, .arr eInt.k 3 (eInt.E a23))] ⟨[(8, slE eInt a23), (9, HV.int .i64 0)], []⟩ ⟨⟨_, rfl, frz_slE eInt (l := a23) rfl fun _ _ => rfl⟩, ⟨_, rfl, rfl⟩, trivial⟩ trivial ⟨rfl, trivial⟩ ⟨rfl, trivial⟩ ?_)
  refine AW.ret ?_
  have h := Option.some.inj h
  subst h
  exact ret_pure (hs := [slE eInt a23, HV.int .i64 0]) (q := HV.tup [slE eInt a23, HV.int .i64 0]) (.inr rfl) (resT rfl (resT rfl rfl)) rfl ⟨(clean_slE fun _ _ => ⟨trivial, trivial⟩), trivial, trivial⟩
 refine AW.rgs rfl fun K hK => ?_
 refine bv rfl (v_bin rfl rfl b_lss) ?_
 refine b_fin hK (s' := ⟨[(2, HV.int .i64 p2), (3, HV.int .i64 p3), (4, HV.fptr [slE eStr p0.1, slE eStr p0.2] 0), (5, HV.fptr [HV.int .i64 p1.1, HV.int .i64 p1.2.1, slE eFromLabelTo p1.2.2] 0), (11, HV.ar 24049 w4 eInt.k 0 ((a3.2).length)), (24, slE eStr p0.2), (25, HV.int .i64 ((p0.2).length : Int)), (26, HV.int .i64 a3.1), (27, HV.bool (decide (a3.1 < ((p0.2).length : Int))))], [(24049, w4, .arr eInt.k 3 (eInt.E a3.2))]⟩) (le_q rfl rfl) ?_
 clear hK K
 refine AW.cseq rfl (fun hc => ?_) (fun hc => ?_)
 ·have hc := of_decide_eq_true hc
  have h := ifT hc h
  refine AW.skip ?_
  refine AW.seqJ h (S := (List Int)) (V := Nat) (fun a v => ⟨[(2, HV.int .i64 p2), (3, HV.int .i64 p3), (4, HV.fptr [slE eStr p0.1, slE eStr p0.2] 0), (5, HV.fptr [HV.int .i64 p1.1, HV.int .i64 p1.2.1, slE eFromLabelTo p1.2.2] 0), (11, HV.ar 24049 v eInt.k 0 ((a).length)), (24, slE eStr p0.2), (25, HV.int .i64 ((p0.2).length : Int)), (26, HV.int .i64 a3.1)], [(24049, v, .arr eInt.k 3 (eInt.E a))]⟩) (fun a7 w8 h => ?_) (fun k9 h => ?_)
  ·refine AW.rg rfl fun K hK => ?_
   refine bv rfl (v_bin rfl rfl b_add) ?_
   refine mv rfl rfl ?_
   refine b_nil (hK _ ?_)
   clear hK K
   exact to_le (s' := ⟨[(2, HV.int .i64 p2), (3, HV.int .i64 p3), (4, HV.fptr [slE eStr p0.1, slE eStr p0.2] 0), (5, HV.fptr [HV.int .i64 p1.1, HV.int .i64 p1.2.1, slE eFromLabelTo p1.2.2] 0), (11, HV.ar 24049 w8 eInt.k 0 ((a7).length)), (24, slE eStr p0.2), (25, HV.int .i64 ((p0.2).length : Int)), (26, HV.int .i64 (IntKind.wrap .i64 (a3.1 + 1)))], [(24049, w8, .arr eInt.k 3 (eInt.E a7))]⟩) (AS.le_of ⟨rfl, rfl, rfl, rfl, rfl, rfl, rfl, rfl, trivial⟩ ⟨rfl, trivial⟩) ⟨(IntKind.wrap .i64 (a3.1 + 1), a7), w8, h, rfl⟩
  refine AW.block ?_
  refine AW.rgs rfl fun K hK => ?_
  refine mv rfl rfl ?_
  obtain ⟨x10, h11, h⟩ := bS h
  refine bv rfl (v_idxF ty22 es22 rfl rfl (idx_lt h11)) ?_
  refine bv rfl (v_loadF ty9 rfl (l_cell eStr h11 (o := 0) rfl rfl)) ?_
  refine mv rfl rfl ?_
  refine mv rfl rfl ?_
  refine b_fin hK (s' := ⟨[(2, HV.int .i64 p2), (3, HV.int .i64 p3), (4, HV.fptr [slE eStr p0.1, slE eStr p0.2] 0), (5, HV.fptr [HV.int .i64 p1.1, HV.int .i64 p1.2.1, slE eFromLabelTo p1.2.2] 0), (11, HV.ar 24049 w4 eInt.k 0 ((a3.2).length)), (12, HV.int .i64 a3.1), (13, HV.str x10), (24, slE eStr p0.2), (25, HV.int .i64 ((p0.2).length : Int)), (26, HV.int .i64 a3.1)], [(24049, w4, .arr eInt.k 3 (eInt.E a3.2))]⟩) (le_q rfl rfl) ?_
  clear hK K
  refine AW.dgs 15 follows rfl rfl fun K hK => ?_
  refine sv rfl (v_loadF ty27 rfl (l_litA rfl (Nat.le_of_ble_eq_true rfl) rfl)) ?_
  refine sv rfl (v_fieldAddrF fo24_0 rfl) ?_
  refine sv rfl (v_loadF ty22 rfl (l_lit rfl rfl)) ?_
  refine sm rfl rfl ?_
  obtain ⟨x12, h13, h⟩ := bS h
  refine sv rfl (v_idxF ty22 es22 rfl rfl (idx_lt h13)) ?_
  refine sv rfl (v_loadF ty9 rfl (l_cell eStr h13 (o := 0) rfl rfl)) ?_
  refine sm rfl rfl ?_
  obtain ⟨h14, h⟩ := ifN h
  refine sv rfl (v_bin rfl rfl (b_sadd h14)) ?_
  refine sv rfl (v_fieldAddrF fo24_0 rfl) ?_
  refine sv rfl (v_loadF ty22 rfl (l_lit rfl rfl)) ?_
  refine sm rfl rfl ?_
  obtain ⟨x15, h16, h⟩ := bS h
  refine sv rfl (v_idxF ty22 es22 rfl rfl (idx_lt h16)) ?_
  refine sv rfl (v_loadF ty9 rfl (l_cell eStr h16 (o := 0) rfl rfl)) ?_
  obtain ⟨h17, h⟩ := ifN h
  refine sv rfl (v_bin rfl rfl (b_sadd h17)) ?_
  obtain ⟨x18, h19, h⟩ := bS h
  refine s_op rfl rfl (ops_call rfl rfl rfl rfl (ACallD.pure0 (w_merging_accepts h19)) ?_)
  refine s_nil ?_
  refine b_fin hK (s' := ⟨[(2, HV.int .i64 p2), (3, HV.int .i64 p3), (4, HV.fptr [slE eStr p0.1, slE eStr p0.2] 0), (5, HV.fptr [HV.int .i64 p1.1, HV.int .i64 p1.2.1, slE eFromLabelTo p1.2.2] 0), (11, HV.ar 24049 w4 eInt.k 0 ((a3.2).length)), (12, HV.int .i64 a3.1), (24, slE eStr p0.2), (25, HV.int .i64 ((p0.2).length : Int)), (26, HV.int .i64 a3.1), (45, HV.bool x18)], [(24049, w4, .arr eInt.k 3 (eInt.E a3.2))]⟩) (le_q rfl rfl) ?_
  clear hK K
  refine AW.cond rfl (fun hc => ?_) (fun hc => ?_)
  ·have h := ifT hc h
   refine AW.rg rfl fun K hK => ?_
   refine mv rfl rfl ?_
   refine mv rfl rfl ?_
   refine b_op rfl (o_bsl rfl rfl (as_of (cs := [HV.int .i64 a3.1]) ty31 ty3 rfl rfl rfl rfl rfl) ?_)
   obtain ⟨h21, h⟩ := ifN h
   refine b_op rfl (o_appE eInt (l := a3.2) (m := [a3.1]) rfl rfl ty31 ty31 ty3 rfl rfl rfl rfl rfl h21 (fun v20 => ?_))
   refine mv rfl rfl ?_
   refine b_nil (hK _ ?_)
   clear hK K
   exact to_le (s' := ⟨[(2, HV.int .i64 p2), (3, HV.int .i64 p3), (4, HV.fptr [slE eStr p0.1, slE eStr p0.2] 0), (5, HV.fptr [HV.int .i64 p1.1, HV.int .i64 p1.2.1, slE eFromLabelTo p1.2.2] 0), (11, HV.ar 24049 v20 eInt.k 0 ((a3.2 ++ [a3.1]).length)), (24, slE eStr p0.2), (25, HV.int .i64 ((p0.2).length : Int)), (26, HV.int .i64 a3.1)], [(24049, v20, .arr eInt.k 3 (eInt.E (a3.2 ++ [a3.1])))]⟩) (AS.le_of ⟨rfl, rfl, rfl, rfl, rfl, rfl, rfl, rfl, trivial⟩ ⟨rfl, trivial⟩) ⟨a3.2 ++ [a3.1], v20, h, rfl⟩
  have h := ifF (bF' hc) h
  refine AW.skip ?_
  exact to_le (s' := ⟨[(2, HV.int .i64 p2), (3, HV.int .i64 p3), (4, HV.fptr [slE eStr p0.1, slE eStr p0.2] 0), (5, HV.fptr [HV.int .i64 p1.1, HV.int .i64 p1.2.1, slE eFromLabelTo p1.2.2] 0), (11, HV.ar 24049 w4 eInt.k 0 ((a3.2).length)), (24, slE eStr p0.2), (25, HV.int .i64 ((p0.2).length : Int)), (26, HV.int .i64 a3.1)], [(24049, w4, .arr eInt.k 3 (eInt.E a3.2))]⟩) (AS.le_of ⟨rfl, rfl, rfl, rfl, rfl, rfl, rfl, rfl, trivial⟩ ⟨rfl, trivial⟩) ⟨a3.2, w4, h, rfl⟩
 have hc := of_decide_eq_false hc
 have h := ifF hc h
 refine AW.exit ?_
 exact to_le (s' := ⟨[(11, HV.ar 24049 w4 eInt.k 0 ((a3.2).length))], [(24049, w4, .arr eInt.k 3 (eInt.E a3.2))]⟩) (AS.le_of ⟨rfl, trivial⟩ ⟨rfl, trivial⟩) ⟨a3.2, w4, h, rfl⟩

set_option maxHeartbeats 1600000 in
set_option maxRecDepth 100000 in
theorem w_slices_Equal_Lint_int {p0 : List (Int)} {p1 : List (Int)} {r : Bool} (h : m_slices_Equal_Lint_int p0 p1 = some r) : Pure Tryz.prog 37 [slE eInt p0, slE eInt p1] (· = HV.bool r) := by
 unfold m_slices_Equal_Lint_int at h
 refine Pure.of_body Tryz.func37 rfl rfl (Nat.le_of_ble_eq_true rfl) fun hf => ?_
 unfold Tryz.f37
 dsimp only [enumS, Nat.reduceAdd]
 refine AW.rgs rfl fun K hK => ?_
 refine mv rfl rfl ?_
 refine b_fin hK (s' := ⟨[(0, slE eInt p0), (1, slE eInt p1)], []⟩) (le_q rfl rfl) ?_
 clear hK K
 refine AW.seq ?_
 refine AW.rgs rfl fun K hK => ?_
 refine mv rfl rfl ?_
 refine bv rfl (v_lenF rfl rfl ty31 rfl) ?_
 refine mv rfl rfl ?_
 refine bv rfl (v_lenF rfl rfl ty31 rfl) ?_
 refine bv rfl (v_bin rfl rfl b_neq) ?_
 refine b_fin hK (s' := ⟨[(0, slE eInt p0), (1, slE eInt p1), (10, HV.bool (decide (((p0).length : Int) ≠ ((p1).length : Int))))], []⟩) (le_q rfl rfl) ?_
 clear hK K
 refine AW.cond rfl (fun hc => ?_) (fun hc => ?_)
 ·have hc := of_decide_eq_true hc
  have h := ifT hc h
  refine AW.rgs rfl fun K hK => ?_
  refine mv rfl rfl ?_
  refine b_fin hK (s' := ⟨[(4, HV.bool false)], []⟩) (le_q rfl rfl) ?_
  clear hK K
  refine AW.ret ?_
  have h := Option.some.inj h
  subst h
  exact ret_pure (hs := [HV.bool false]) (q := HV.bool false) (.inr rfl) (resT rfl rfl) rfl trivial
 have hc := of_decide_eq_false hc
 have h := ifF hc h
 refine AW.skip ?_
 refine AW.seq ?_
 refine AW.rgs rfl fun K hK => ?_
 refine mv rfl rfl ?_
 refine bv rfl (v_lenF rfl rfl ty31 rfl) ?_
 refine mv rfl rfl ?_
 refine b_fin hK (s' := ⟨[(0, slE eInt p0), (1, slE eInt p1), (12, HV.int .i64 ((p0).length : Int)), (13, HV.int .i64 0)], []⟩) (le_q rfl rfl) ?_
 clear hK K
 refine AW.lpR h (by first | exact up_then | exact up_to) (S := Int) (V := Unit) (fun a v => ⟨[(0, slE eInt p0), (1, slE eInt p1), (12, HV.int .i64 ((p0).length : Int)), (13, HV.int .i64 a)], []⟩) ?_ (X := Unit) (W := Unit) (fun a v => ⟨[], []⟩) (fun a9 w10 h => ?_) (fun a1 w2 st3 h hr4=> ?_)
 ·exact to_le (s' := ⟨[(0, slE eInt p0), (1, slE eInt p1), (12, HV.int .i64 ((p0).length : Int)), (13, HV.int .i64 0)], []⟩) (AS.le_of ⟨rfl, rfl, rfl, rfl, trivial⟩ trivial) ⟨(), rfl⟩
 ·refine AW.rgs rfl fun K hK => ?_
  refine mv rfl rfl ?_
  refine b_fin hK (s' := ⟨[(4, HV.bool true)], []⟩) (le_q rfl rfl) ?_
  clear hK K
  refine AW.ret ?_
  have h := Option.some.inj h
  subst h
  exact ret_pure (hs := [HV.bool true]) (q := HV.bool true) (.inr rfl) (resT rfl rfl) rfl trivial
 refine AW.rgs rfl fun K hK => ?_
 refine bv rfl (v_bin rfl rfl b_lss) ?_
 refine b_fin hK (s' := ⟨[(0, slE eInt p0), (1, slE eInt p1), (12, HV.int .i64 ((p0).length : Int)), (13, HV.int .i64 a1), (14, HV.bool (decide (a1 < ((p0).length : Int))))], []⟩) (le_q rfl rfl) ?_
 clear hK K
 refine AW.cseq rfl (fun hc => ?_) (fun hc => ?_)
 ·have hc := of_decide_eq_true hc
  have h := ifT hc h
  refine AW.skip ?_
  refine AW.seq (AW.block ?_)
  refine AW.rgs rfl fun K hK => ?_
  refine mv rfl rfl ?_
  refine mv rfl rfl ?_
  refine b_fin hK (s' := ⟨[(0, slE eInt p0), (1, slE eInt p1), (5, HV.int .i64 a1), (12, HV.int .i64 ((p0).length : Int)), (13, HV.int .i64 a1)], []⟩) (le_q rfl rfl) ?_
  clear hK K
  refine AW.dgs 9 follows rfl rfl fun K hK => ?_
  refine sm rfl rfl ?_
  refine sm rfl rfl ?_
  obtain ⟨x5, h6, h⟩ := bS h
  refine sv rfl (v_idxF ty31 es31 rfl rfl (idx_lt h6)) ?_
  refine sv rfl (v_loadF ty3 rfl (l_cell eInt h6 (o := 0) rfl rfl)) ?_
  refine sm rfl rfl ?_
  refine sm rfl rfl ?_
  obtain ⟨x7, h8, h⟩ := bS h
  refine sv rfl (v_idxF ty31 es31 rfl rfl (idx_lt h8)) ?_
  refine sv rfl (v_loadF ty3 rfl (l_cell eInt h8 (o := 0) rfl rfl)) ?_
  refine sv rfl (v_bin rfl rfl b_neq) ?_
  refine s_nil ?_
  refine b_fin hK (s' := ⟨[(0, slE eInt p0), (1, slE eInt p1), (12, HV.int .i64 ((p0).length : Int)), (13, HV.int .i64 a1), (24, HV.bool (decide (x5 ≠ x7)))], []⟩) (le_q rfl rfl) ?_
  clear hK K
  refine AW.cond rfl (fun hc => ?_) (fun hc => ?_)
  ·have hc := of_decide_eq_true hc
   have h := ifT hc h
   refine AW.rgs rfl fun K hK => ?_
   refine mv rfl rfl ?_
   refine b_fin hK (s' := ⟨[(4, HV.bool false)], []⟩) (le_q rfl rfl) ?_
   clear hK K
   have h := hr4 _ h
   refine AW.ret ?_
   have h := Option.some.inj h
   subst h
   exact ret_pure (hs := [HV.bool false]) (q := HV.bool false) (.inr rfl) (resT rfl rfl) rfl trivial
  have hc := of_decide_eq_false hc
  have h := ifF hc h
  refine AW.skip ?_
  refine AW.rg rfl fun K hK => ?_
  refine bv rfl (v_bin rfl rfl b_add) ?_
  refine mv rfl rfl ?_
  refine b_nil (hK _ ?_)
  clear hK K
  exact to_le (s' := ⟨[(0, slE eInt p0), (1, slE eInt p1), (12, HV.int .i64 ((p0).length : Int)), (13, HV.int .i64 (IntKind.wrap .i64 (a1 + 1)))], []⟩) (AS.le_of ⟨rfl, rfl, rfl, rfl, trivial⟩ trivial) ⟨IntKind.wrap .i64 (a1 + 1), (), h, rfl⟩
 have hc := of_decide_eq_false hc
 have h := ifF hc h
 refine AW.exit ?_
 exact to_le (s' := ⟨[], []⟩) (AS.le_of trivial trivial) ⟨(), (), h, rfl⟩

set_option maxHeartbeats 1600000 in
set_option maxRecDepth 100000 in
theorem w_law31_golden  {r : TLabelsStatesEdges} (h : m_law31_golden  = some r) : Pure Tryz.prog 51 [] (· = HV.agg [HV.int .i64 r.1, HV.int .i64 r.2.1, slE eFromLabelTo r.2.2]) := by
 unfold m_law31_golden at h
 refine Pure.of_body Tryz.func51 rfl rfl (Nat.le_of_ble_eq_true rfl) fun hf => ?_
 unfold Tryz.f51
 dsimp only [enumS, Nat.reduceAdd]
 refine AW.rgs rfl fun K hK => ?_
 refine b_op rfl (o_alloc (fid := 51) (zs := [HV.int .i64 0, HV.int .i64 0, HV.v (.slice none 0 0)]) 51000 rfl rfl ty27 rfl (fun v1 => ?_))
 refine b_fin hK (s' := ⟨[(0, HV.ptr 51000 v1 0)], [(51000, v1, .arr 3 27 [HV.int .i64 0, HV.int .i64 0, HV.v (.slice none 0 0)])]⟩) (le_q rfl rfl) ?_
 clear hK K
 refine AW.rgs rfl fun K hK => ?_
 refine b_op rfl (o_build (cs := [HV.int .i64 0, HV.int .i64 0, HV.int .i64 0]) rfl (bl_of ty128 rfl rfl rfl rfl) ?_)
 refine b_op rfl (o_build (cs := [HV.int .i64 0, HV.int .i64 1, HV.int .i64 1]) rfl (bl_of ty128 rfl rfl rfl rfl) ?_)
 refine b_op rfl (o_build (cs := [HV.int .i64 1, HV.int .i64 0, HV.int .i64 0]) rfl (bl_of ty128 rfl rfl rfl rfl) ?_)
 refine b_op rfl (o_bsl rfl rfl (as_of (cs := [HV.int .i64 0, HV.int .i64 0, HV.int .i64 0, HV.int .i64 0, HV.int .i64 1, HV.int .i64 1, HV.int .i64 1, HV.int .i64 0, HV.int .i64 0]) ty25 ty128 rfl rfl rfl rfl rfl) ?_)
 refine b_op rfl (o_build (cs := [HV.int .i64 2, HV.int .i64 2, slE eFromLabelTo [(0, 0, 0), (0, 1, 1), (1, 0, 0)]]) rfl (bl_of ty27 rfl rfl rfl rfl) ?_)
 refine b_op rfl (o_store (cs := [HV.int .i64 2, HV.int .i64 2, slE eFromLabelTo [(0, 0, 0), (0, 1, 1), (1, 0, 0)]]) (zs := [HV.int .i64 2, HV.int .i64 2, slE eFromLabelTo [(0, 0, 0), (0, 1, 1), (1, 0, 0)]]) rfl rfl rfl ty27 rfl rfl rfl rfl rfl ?_)
 refine b_fin hK (s' := ⟨[(0, HV.ptr 51000 v1 0)], [(51000, v1, .arr 3 27 [HV.int .i64 2, HV.int .i64 2, slE eFromLabelTo [(0, 0, 0), (0, 1, 1), (1, 0, 0)]])]⟩) (le_q rfl rfl) ?_
 clear hK K
 refine AW.ret ?_
 have h := Option.some.inj h
 subst h
 exact ret_pure (hs := [HV.agg [HV.int .i64 2, HV.int .i64 2, slE eFromLabelTo [(0, 0, 0), (0, 1, 1), (1, 0, 0)]]]) (q := HV.agg [HV.int .i64 2, HV.int .i64 2, slE eFromLabelTo [(0, 0, 0), (0, 1, 1), (1, 0, 0)]]) (.inr rfl) (resP ty27 rfl rfl (l_litA rfl (Nat.le_of_ble_eq_true rfl) rfl) rfl) rfl ⟨trivial, trivial, (clean_slE fun _ _ => ⟨trivial, trivial, trivial, trivial⟩), trivial⟩

set_option maxHeartbeats 1600000 in
set_option maxRecDepth 100000 in
theorem w_law31_awakeG  {r : Bool} (h : m_law31_awakeG  = some r) : Pure Tryz.prog 13 [] (· = HV.bool r) := by
 unfold m_law31_awakeG at h
 refine Pure.of_body Tryz.func13 rfl rfl (Nat.le_of_ble_eq_true rfl) fun hf => ?_
 unfold Tryz.f13
 dsimp only [enumS, Nat.reduceAdd]
 refine AW.rgs rfl fun K hK => ?_
 refine mv rfl rfl ?_
 refine b_fin hK (s' := ⟨[], []⟩) (le_q rfl rfl) ?_
 clear hK K
 refine AW.rgs rfl fun K hK => ?_
 refine b_op rfl (o_bsl rfl rfl (as_of (cs := [HV.str [48, 48], HV.str [48, 49], HV.str [49, 48]]) ty22 ty9 rfl rfl rfl rfl rfl) ?_)
 refine b_op rfl (o_bsl rfl rfl (as_of (cs := [HV.str [48], HV.str [49]]) ty22 ty9 rfl rfl rfl rfl rfl) ?_)
 refine b_op rfl (o_build (cs := [slE eStr [[48, 48], [48, 49], [49, 48]], slE eStr [[48], [49]]]) rfl (bl_of ty24 rfl rfl rfl rfl) ?_)
 refine b_op rfl (o_alloc (fid := 13) (zs := [HV.v (.slice none 0 0), HV.v (.slice none 0 0)]) 13001 rfl rfl ty24 rfl (fun v1 => ?_))
 refine b_op rfl (o_store (cs := [slE eStr [[48, 48], [48, 49], [49, 48]], slE eStr [[48], [49]]]) (zs := [slE eStr [[48, 48], [48, 49], [49, 48]], slE eStr [[48], [49]]]) rfl rfl rfl ty24 rfl rfl rfl rfl rfl ?_)
 refine b_fin hK (s' := ⟨[(1, HV.ptr 13001 v1 0)], [(13001, v1, .arr 2 24 [slE eStr [[48, 48], [48, 49], [49, 48]], slE eStr [[48], [49]]])]⟩) (le_q rfl rfl) ?_
 clear hK K
 refine AW.dgs 8 follows rfl rfl fun K hK => ?_
 refine sv rfl (v_loadP ty24 rfl rfl (l_litA rfl (Nat.le_of_ble_eq_true rfl) rfl)) ?_
 obtain ⟨x2, h3, h⟩ := bS h
 refine s_op rfl rfl (ops_call rfl rfl rfl rfl (ACallD.pure0 (w_law31_golden h3)) ?_)
 obtain ⟨x4, h5, h⟩ := bS h
 refine s_op rfl rfl (ops_call rfl rfl rfl rfl (ACallD.pure0 (w_merging_Merges h5)) ?_)
 refine sm rfl rfl ?_
 refine sv rfl (v_extract rfl rfl) ?_
 refine sv rfl (v_extract rfl rfl) ?_
 refine sm rfl rfl ?_
 refine sm rfl rfl ?_
 refine s_nil ?_
 refine b_fin hK (s' := ⟨[(1, HV.ptr 13001 v1 0), (2, slE eInt x4.1), (3, HV.int .i64 x4.2)], [(13001, v1, .arr 2 24 [slE eStr [[48, 48], [48, 49], [49, 48]], slE eStr [[48], [49]]])]⟩) (le_q rfl rfl) ?_
 clear hK K
 refine AW.dgs 8 follows rfl rfl fun K hK => ?_
 refine sv rfl (v_loadP ty24 rfl rfl (l_litA rfl (Nat.le_of_ble_eq_true rfl) rfl)) ?_
 obtain ⟨x6, h7, h⟩ := bS h
 refine s_op rfl rfl (ops_call rfl rfl rfl rfl (ACallD.pure0 (w_law31_golden h7)) ?_)
 obtain ⟨x8, h9, h⟩ := bS h
 refine s_op rfl rfl (ops_call rfl rfl rfl rfl (ACallD.pure0 (w_merging_Merges h9)) ?_)
 refine sm rfl rfl ?_
 refine sv rfl (v_extract rfl rfl) ?_
 refine sv rfl (v_extract rfl rfl) ?_
 refine sm rfl rfl ?_
 refine sm rfl rfl ?_
 refine s_nil ?_
 refine b_fin hK (s' := ⟨[(1, HV.ptr 13001 v1 0), (2, slE eInt x4.1), (3, HV.int .i64 x4.2), (4, slE eInt x8.1), (5, HV.int .i64 x8.2)], [(13001, v1, .arr 2 24 [slE eStr [[48, 48], [48, 49], [49, 48]], slE eStr [[48], [49]]])]⟩) (le_q rfl rfl) ?_
 clear hK K
 refine AW.dgs 9 follows rfl rfl fun K hK => ?_
 refine sv rfl (v_loadP ty24 rfl rfl (l_litA rfl (Nat.le_of_ble_eq_true rfl) rfl)) ?_
 obtain ⟨x10, h11, h⟩ := bS h
 refine s_op rfl rfl (ops_call rfl rfl rfl rfl (ACallD.pure0 (w_law31_golden h11)) ?_)
 refine s_op rfl rfl (ops_bsl rfl rfl (as_of (cs := [HV.int .i64 0, HV.int .i64 0]) ty31 ty3 rfl rfl rfl rfl rfl) ?_)
 obtain ⟨x12, h13, h⟩ := bS h
 refine s_op rfl rfl (ops_call rfl rfl rfl rfl (ACallD.pure0 (w_merging_Encode h13)) ?_)
 refine sm rfl rfl ?_
 refine sv rfl (v_extract rfl rfl) ?_
 refine sv rfl (v_extract rfl rfl) ?_
 refine sm rfl rfl ?_
 refine sm rfl rfl ?_
 refine s_nil ?_
 refine b_fin hK (s' := ⟨[(1, HV.ptr 13001 v1 0), (2, slE eInt x4.1), (3, HV.int .i64 x4.2), (4, slE eInt x8.1), (5, HV.int .i64 x8.2), (6, HV.str x12.1), (7, HV.int .i64 x12.2)], [(13001, v1, .arr 2 24 [slE eStr [[48, 48], [48, 49], [49, 48]], slE eStr [[48], [49]]])]⟩) (le_q rfl rfl) ?_
 clear hK K
 refine AW.rgs rfl fun K hK => ?_
 refine bv rfl (v_loadP ty24 rfl rfl (l_litA rfl (Nat.le_of_ble_eq_true rfl) rfl)) ?_
 obtain ⟨x14, h15, h⟩ := bS h
 refine b_op rfl (o_call rfl rfl rfl rfl (ACallD.pure0 (w_merging_Rate h15)) ?_)
 refine mv rfl rfl ?_
 refine bv rfl (v_extract rfl rfl) ?_
 refine bv rfl (v_extract rfl rfl) ?_
 refine b_op rfl (o_alloc (fid := 13) (zs := [HV.bool false, HV.str ([] : List UInt8), HV.bool false, HV.str ([] : List UInt8)]) 13008 rfl rfl ty44 rfl (fun v16 => ?_))
 refine b_op rfl (o_store (cs := [HV.bool x14.1.1.1, HV.str x14.1.1.2, HV.bool x14.1.2.1, HV.str x14.1.2.2]) (zs := [HV.bool x14.1.1.1, HV.str x14.1.1.2, HV.bool x14.1.2.1, HV.str x14.1.2.2]) rfl rfl rfl ty44 rfl rfl rfl rfl rfl ?_)
 refine mv rfl rfl ?_
 refine b_fin hK (s' := ⟨[(2, slE eInt x4.1), (3, HV.int .i64 x4.2), (4, slE eInt x8.1), (5, HV.int .i64 x8.2), (6, HV.str x12.1), (7, HV.int .i64 x12.2), (8, HV.ptr 13008 v16 0), (9, HV.int .i64 x14.2)], [(13008, v16, .arr 4 44 [HV.bool x14.1.1.1, HV.str x14.1.1.2, HV.bool x14.1.2.1, HV.str x14.1.2.2])]⟩) (le_q rfl rfl) ?_
 clear hK K
 refine AW.rgs rfl fun K hK => ?_
 obtain ⟨x17, h18, h⟩ := bS h
 refine b_op rfl (o_call rfl rfl rfl rfl (ACallD.pure0 (w_rational_Ratio h18)) ?_)
 refine mv rfl rfl ?_
 refine bv rfl (v_extract rfl rfl) ?_
 refine bv rfl (v_extract rfl rfl) ?_
 refine b_op rfl (o_alloc (fid := 13) (zs := [HV.bool false, HV.str ([] : List UInt8), HV.bool false, HV.str ([] : List UInt8)]) 13010 rfl rfl ty44 rfl (fun v19 => ?_))
 refine b_op rfl (o_store (cs := [HV.bool x17.1.1.1, HV.str x17.1.1.2, HV.bool x17.1.2.1, HV.str x17.1.2.2]) (zs := [HV.bool x17.1.1.1, HV.str x17.1.1.2, HV.bool x17.1.2.1, HV.str x17.1.2.2]) rfl rfl rfl ty44 rfl rfl rfl rfl rfl ?_)
 refine mv rfl rfl ?_
 refine b_fin hK (s' := ⟨[(2, slE eInt x4.1), (3, HV.int .i64 x4.2), (4, slE eInt x8.1), (5, HV.int .i64 x8.2), (6, HV.str x12.1), (7, HV.int .i64 x12.2), (8, HV.ptr 13008 v16 0), (9, HV.int .i64 x14.2), (10, HV.ptr 13010 v19 0)], [(13008, v16, .arr 4 44 [HV.bool x14.1.1.1, HV.str x14.1.1.2, HV.bool x14.1.2.1, HV.str x14.1.2.2]), (13010, v19, .arr 4 44 [HV.bool x17.1.1.1, HV.str x17.1.1.2, HV.bool x17.1.2.1, HV.str x17.1.2.2])]⟩) (le_q rfl rfl) ?_
 clear hK K
 refine AW.seqJ h (S := Bool) (V := Unit) (fun a v => ⟨[(0, HV.bool a)], []⟩) (fun a20 w21 h => ?_) (fun k22 h => ?_)
 ·refine AW.ret ?_
  have h := Option.some.inj h
  subst h
  exact ret_pure (hs := [HV.bool a20]) (q := HV.bool a20) (.inr rfl) (resT rfl rfl) rfl trivial
 refine AW.rg rfl fun K hK => ?_
 refine mv rfl rfl ?_
 refine mv rfl rfl ?_
 refine mv rfl rfl ?_
 refine mv rfl rfl ?_
 refine bv rfl (v_max4 rfl rfl rfl rfl rfl) ?_
 refine bv rfl (v_bin rfl rfl b_eql) ?_
 refine mv rfl rfl ?_
 by_cases hg30 : (max (max (max x4.2 x8.2) x12.2) x14.2) = 0
 ·have h := ifT hg30 h
  refine b_T rfl rfl rfl rfl (decide_eq_true hg30) (o_val rfl (mv_val rfl rfl).2 ?_)
  refine b_T rfl rfl rfl rfl rfl (o_bsl rfl rfl (as_of (cs := [HV.int .i64 0, HV.int .i64 1]) ty31 ty3 rfl rfl rfl rfl rfl) ?_)
  obtain ⟨x23, h24, h⟩ := bS h
  refine b_T rfl rfl rfl rfl rfl (o_call rfl rfl rfl rfl (ACallD.pure0 (w_slices_Equal_Lint_int h24)) ?_)
  refine bv rfl (v_pickT rfl rfl rfl) ?_
  refine mv rfl rfl ?_
  by_cases hg29 : x23 = true
  ·have h := ifT hg29 h
   refine b_T rfl rfl rfl rfl hg29 (o_val rfl (mv_val rfl rfl).2 ?_)
   refine b_T rfl rfl rfl rfl rfl (o_bsl rfl rfl (as_of (cs := [HV.int .i64 0]) ty31 ty3 rfl rfl rfl rfl rfl) ?_)
   obtain ⟨x25, h26, h⟩ := bS h
   refine b_T rfl rfl rfl rfl rfl (o_call rfl rfl rfl rfl (ACallD.pure0 (w_slices_Equal_Lint_int h26)) ?_)
   refine bv rfl (v_pickT rfl rfl rfl) ?_
   refine mv rfl rfl ?_
   by_cases hg28 : x25 = true
   ·have h := ifT hg28 h
    refine b_T rfl rfl rfl rfl hg28 (o_val rfl (mv_val rfl rfl).2 ?_)
    refine b_T rfl rfl rfl rfl rfl (o_val rfl (v_bin rfl rfl b_seql) ?_)
    refine bv rfl (v_pickT rfl rfl rfl) ?_
    refine mv rfl rfl ?_
    by_cases hg27 : x12.1 = [48, 48, 49, 48, 48]
    ·have h := ifT hg27 h
     refine b_T rfl rfl rfl rfl (decide_eq_true hg27) (o_val rfl (v_loadP ty44 rfl rfl (l_litA rfl (Nat.le_of_ble_eq_true rfl) rfl)) ?_)
     refine b_T rfl rfl rfl rfl rfl (o_val rfl (v_loadP ty44 rfl rfl (l_litA rfl (Nat.le_of_ble_eq_true rfl) rfl)) ?_)
     refine b_T rfl rfl rfl rfl rfl (o_val rfl (v_bin rfl rfl (b_aeql (hk44 _ _ _ _) (hk44 _ _ _ _) hc44 (hq44 x14.1 x17.1))) ?_)
     refine bv rfl (v_pickT rfl rfl rfl) ?_
     refine mv rfl rfl ?_
     refine b_nil (hK _ ?_)
     clear hK K
     exact to_le (s' := ⟨[(0, HV.bool (decide (x14.1 = x17.1)))], []⟩) (AS.le_of ⟨rfl, trivial⟩ trivial) ⟨decide (x14.1 = x17.1), (), h, rfl⟩
    have h := ifF hg27 h
    refine b_F rfl rfl rfl rfl rfl (decide_eq_false hg27) ?_
    refine b_F rfl rfl rfl rfl rfl rfl ?_
    refine b_F rfl rfl rfl rfl rfl rfl ?_
    refine bv rfl (v_pickF rfl rfl rfl) ?_
    refine mv rfl rfl ?_
    refine b_nil (hK _ ?_)
    clear hK K
    exact to_le (s' := ⟨[(0, HV.bool false)], []⟩) (AS.le_of ⟨rfl, trivial⟩ trivial) ⟨false, (), h, rfl⟩
   have h := ifF hg28 h
   refine b_F rfl rfl rfl rfl rfl (bF hg28) ?_
   refine b_F rfl rfl rfl rfl rfl rfl ?_
   refine bv rfl (v_pickF rfl rfl rfl) ?_
   refine mv rfl rfl ?_
   refine b_F rfl rfl rfl rfl rfl rfl ?_
   refine b_F rfl rfl rfl rfl rfl rfl ?_
   refine b_F rfl rfl rfl rfl rfl rfl ?_
   refine bv rfl (v_pickF rfl rfl rfl) ?_
   refine mv rfl rfl ?_
   refine b_nil (hK _ ?_)
   clear hK K
   exact to_le (s' := ⟨[(0, HV.bool false)], []⟩) (AS.le_of ⟨rfl, trivial⟩ trivial) ⟨false, (), h, rfl⟩
  have h := ifF hg29 h
  refine b_F rfl rfl rfl rfl rfl (bF hg29) ?_
  refine b_F rfl rfl rfl rfl rfl rfl ?_
  refine b_F rfl rfl rfl rfl rfl rfl ?_
  refine bv rfl (v_pickF rfl rfl rfl) ?_
  refine mv rfl rfl ?_
  refine b_F rfl rfl rfl rfl rfl rfl ?_
  refine b_F rfl rfl rfl rfl rfl rfl ?_
  refine bv rfl (v_pickF rfl rfl rfl) ?_
  refine mv rfl rfl ?_
  refine b_F rfl rfl rfl rfl rfl rfl ?_
  refine b_F rfl rfl rfl rfl rfl rfl ?_
  refine b_F rfl rfl rfl rfl rfl rfl ?_
  refine bv rfl (v_pickF rfl rfl rfl) ?_
  refine mv rfl rfl ?_
  refine b_nil (hK _ ?_)
  clear hK K
  exact to_le (s' := ⟨[(0, HV.bool false)], []⟩) (AS.le_of ⟨rfl, trivial⟩ trivial) ⟨false, (), h, rfl⟩
 have h := ifF hg30 h
 refine b_F rfl rfl rfl rfl rfl (decide_eq_false hg30) ?_
 refine b_F rfl rfl rfl rfl rfl rfl ?_
 refine b_F rfl rfl rfl rfl rfl rfl ?_
 refine bv rfl (v_pickF rfl rfl rfl) ?_
 refine mv rfl rfl ?_
 refine b_F rfl rfl rfl rfl rfl rfl ?_
 refine b_F rfl rfl rfl rfl rfl rfl ?_
 refine b_F rfl rfl rfl rfl rfl rfl ?_
 refine bv rfl (v_pickF rfl rfl rfl) ?_
 refine mv rfl rfl ?_
 refine b_F rfl rfl rfl rfl rfl rfl ?_
 refine b_F rfl rfl rfl rfl rfl rfl ?_
 refine bv rfl (v_pickF rfl rfl rfl) ?_
 refine mv rfl rfl ?_
 refine b_F rfl rfl rfl rfl rfl rfl ?_
 refine b_F rfl rfl rfl rfl rfl rfl ?_
 refine b_F rfl rfl rfl rfl rfl rfl ?_
 refine bv rfl (v_pickF rfl rfl rfl) ?_
 refine mv rfl rfl ?_
 refine b_nil (hK _ ?_)
 clear hK K
 exact to_le (s' := ⟨[(0, HV.bool false)], []⟩) (AS.le_of ⟨rfl, trivial⟩ trivial) ⟨false, (), h, rfl⟩

end Go.AW



/- The anchor of chapter 31, by evaluation. -/
namespace Go.AW
open Go
theorem awake31_c : c_law31_awakeG = some true := by decide +kernel
theorem awake31_eq : m_law31_awakeG = some true := le_law31_awakeG.ap _ awake31_c
end Go.AW

/- The anchor of chapter 31. -/
namespace Go.AW
open Go Go.Proofs
theorem w_law31_awake {r : Bool} (h : m_law31_awake = some r) : Pure Tryz.prog 13 [] (· = HV.bool r) := by
  cases h
  exact w_law31_awakeG awake31_eq
end Go.AW

/- Models, printed by lk.py. -/
namespace Go.AW
open Go
set_option linter.unusedVariables false
end Go.AW

/- Models, printed by lk.py. -/
namespace Go.AW
open Go
set_option linter.unusedVariables false
end Go.AW

/- Models, printed by lk.py. -/
namespace Go.AW
open Go
set_option linter.unusedVariables false
end Go.AW

/- Models, printed by lk.py. -/
namespace Go.AW
open Go
set_option linter.unusedVariables false
end Go.AW

/- The letters that can follow in a set of states. -/
namespace Go.AW
open Go
end Go.AW

/- Models, printed by lk.py. -/
namespace Go.AW
open Go
set_option linter.unusedVariables false
end Go.AW

/- Models, printed by lk.py. -/
namespace Go.AW
open Go
set_option linter.unusedVariables false
end Go.AW

/- Entries of a map that a predicate names are deleted. -/
namespace Go.AW
open Go
end Go.AW

/- Models, printed by lk.py. -/
namespace Go.AW
open Go
set_option linter.unusedVariables false
end Go.AW

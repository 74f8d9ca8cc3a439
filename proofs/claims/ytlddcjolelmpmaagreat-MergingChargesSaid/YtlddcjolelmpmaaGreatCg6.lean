import Derived.Test.YtlddcjolelmpmaaGreatCg5
namespace Go.AW
open Go Go.Proofs
set_option linter.unusedVariables false
set_option maxHeartbeats 1600000 in
set_option maxRecDepth 100000 in
theorem w_math_bits_Len {p0 : Int} {r : Int} (h : m_math_bits_Len p0 = some r) : Pure Tryz.prog 65 [HV.int .u64 p0] (· = HV.int .i64 r) := by
 unfold m_math_bits_Len at h
 refine Pure.of_body Tryz.func65 rfl rfl (Nat.le_of_ble_eq_true rfl) fun hf => ?_
 unfold Tryz.f65
 dsimp only [enumS, Nat.reduceAdd]
 refine AW.rgs rfl fun K hK => ?_
 refine mv rfl rfl ?_
 refine b_fin hK (s' := ⟨[(0, HV.int .u64 p0)], []⟩) (le_q rfl rfl) ?_
 clear hK K
 refine AW.cseq rfl (fun hc => by cases hc) (fun _ => ?_)
 refine AW.skip ?_
 refine AW.rgs rfl fun K hK => ?_
 refine mv rfl rfl ?_
 obtain ⟨x1, h2, h⟩ := bS h
 refine b_op rfl (o_call rfl rfl rfl rfl (ACallD.pure0 (w_math_bits_Len64 h2)) ?_)
 refine mv rfl rfl ?_
 refine b_fin hK (s' := ⟨[(2, HV.int .i64 x1)], []⟩) (le_q rfl rfl) ?_
 clear hK K
 refine AW.ret ?_
 have h := Option.some.inj h
 subst h
 exact ret_pure (hs := [HV.int .i64 x1]) (q := HV.int .i64 x1) (.inr rfl) (resT rfl rfl) rfl trivial

set_option maxHeartbeats 1600000 in
set_option maxRecDepth 100000 in
theorem w_merging_Rate {p0 : TWordsMerges} {r : TNumDen × Int} (h : m_merging_Rate p0 = some r) : Pure Tryz.prog 19 [HV.agg [slE eStr p0.1, slE eStr p0.2]] (· = HV.tup [HV.agg [HV.bool r.1.1.1, HV.str r.1.1.2, HV.bool r.1.2.1, HV.str r.1.2.2], HV.int .i64 r.2]) := by
 unfold m_merging_Rate at h
 refine Pure.of_body Tryz.func19 rfl rfl (Nat.le_of_ble_eq_true rfl) fun hf => ?_
 unfold Tryz.f19
 dsimp only [enumS, Nat.reduceAdd]
 refine AW.rgs rfl fun K hK => ?_
 refine b_op rfl (o_box rfl rfl rfl ?_)
 refine b_op rfl (o_alloc (fid := 19) (zs := [HV.bool false, HV.str ([] : List UInt8), HV.bool false, HV.str ([] : List UInt8)]) 19002 rfl rfl ty44 rfl (fun v1 => ?_))
 refine mv rfl rfl ?_
 refine b_fin hK (s' := ⟨[(1, HV.fptr [slE eStr p0.1, slE eStr p0.2] 0), (2, HV.ptr 19002 v1 0)], [(19002, v1, .arr 4 44 [HV.bool false, HV.str ([] : List UInt8), HV.bool false, HV.str ([] : List UInt8)])]⟩) (le_q rfl rfl) ?_
 clear hK K
 refine AW.seq ?_
 refine AW.rgs rfl fun K hK => ?_
 refine bv rfl (v_loadF ty24 rfl (l_litA rfl (Nat.le_of_ble_eq_true rfl) rfl)) ?_
 obtain ⟨x2, h3, h⟩ := bS h
 refine b_op rfl (o_call rfl rfl rfl rfl (ACallD.pure0 (w_merging_form h3)) ?_)
 refine bv rfl (v_bin rfl rfl b_neq) ?_
 refine b_fin hK (s' := ⟨[(1, HV.fptr [slE eStr p0.1, slE eStr p0.2] 0), (2, HV.ptr 19002 v1 0), (6, HV.bool (decide (x2 ≠ 0)))], [(19002, v1, .arr 4 44 [HV.bool false, HV.str ([] : List UInt8), HV.bool false, HV.str ([] : List UInt8)])]⟩) (le_q rfl rfl) ?_
 clear hK K
 refine AW.cond rfl (fun hc => ?_) (fun hc => ?_)
 ·have hc := of_decide_eq_true hc
  have h := ifT hc h
  refine AW.rgs rfl fun K hK => ?_
  refine b_op rfl (o_build (cs := [HV.bool false, HV.str ([] : List UInt8), HV.bool false, HV.str ([] : List UInt8)]) rfl (bl_of ty44 rfl rfl rfl rfl) ?_)
  refine b_op rfl (o_store (cs := [HV.bool false, HV.str ([] : List UInt8), HV.bool false, HV.str ([] : List UInt8)]) (zs := [HV.bool false, HV.str ([] : List UInt8), HV.bool false, HV.str ([] : List UInt8)]) rfl rfl rfl ty44 rfl rfl rfl rfl rfl ?_)
  refine mv rfl rfl ?_
  refine b_fin hK (s' := ⟨[(2, HV.ptr 19002 v1 0), (3, HV.int .i64 1)], [(19002, v1, .arr 4 44 [HV.bool false, HV.str ([] : List UInt8), HV.bool false, HV.str ([] : List UInt8)])]⟩) (le_q rfl rfl) ?_
  clear hK K
  refine AW.ret ?_
  have h := Option.some.inj h
  subst h
  exact ret_pure (hs := [HV.agg [HV.bool false, HV.str ([] : List UInt8), HV.bool false, HV.str ([] : List UInt8)], HV.int .i64 1]) (q := HV.tup [HV.agg [HV.bool false, HV.str ([] : List UInt8), HV.bool false, HV.str ([] : List UInt8)], HV.int .i64 1]) (.inr rfl) (resP ty44 rfl rfl (l_litA rfl (Nat.le_of_ble_eq_true rfl) rfl) (resT rfl rfl)) rfl ⟨⟨trivial, trivial, trivial, trivial, trivial⟩, trivial, trivial⟩
 have hc := of_decide_eq_false hc
 have h := ifF hc h
 refine AW.skip ?_
 refine AW.dgs 20 follows rfl rfl fun K hK => ?_
 refine sv rfl (v_fieldAddrF fo24_0 rfl) ?_
 refine sv rfl (v_loadF ty22 rfl (l_lit rfl rfl)) ?_
 refine sv rfl (v_lenF rfl rfl ty22 rfl) ?_
 refine sv rfl (v_convI ty3 ty97 rfl) ?_
 obtain ⟨x4, h5, h⟩ := bS h
 refine s_op rfl rfl (ops_call rfl rfl rfl rfl (ACallD.pure0 (w_math_bits_Len h5)) ?_)
 refine sv rfl (v_bin rfl rfl b_sub) ?_
 refine sv rfl (v_fieldAddrF fo24_0 rfl) ?_
 refine sv rfl (v_loadF ty22 rfl (l_lit rfl rfl)) ?_
 obtain ⟨x6, h7, h⟩ := bS h
 refine sv rfl (v_idxF ty22 es22 rfl rfl (idx_lt h7)) ?_
 refine sv rfl (v_loadF ty9 rfl (l_cell eStr h7 (o := 0) rfl rfl)) ?_
 refine sv rfl (v_lenS rfl rfl ty9 rfl) ?_
 refine sv rfl (v_fieldAddrF fo24_1 rfl) ?_
 refine sv rfl (v_loadF ty22 rfl (l_lit rfl rfl)) ?_
 obtain ⟨x8, h9, h⟩ := bS h
 refine sv rfl (v_idxF ty22 es22 rfl rfl (idx_lt h9)) ?_
 refine sv rfl (v_loadF ty9 rfl (l_cell eStr h9 (o := 0) rfl rfl)) ?_
 refine sv rfl (v_lenS rfl rfl ty9 rfl) ?_
 refine sv rfl (v_bin rfl rfl b_add) ?_
 obtain ⟨x10, h11, h⟩ := bS h
 refine s_op rfl rfl (ops_call rfl rfl rfl rfl (ACallD.pure0 (w_rational_Ratio h11)) ?_)
 refine sv rfl (v_extract rfl rfl) ?_
 refine sv rfl (v_extract rfl rfl) ?_
 refine s_nil ?_
 refine b_op rfl (o_store (cs := [HV.bool x10.1.1.1, HV.str x10.1.1.2, HV.bool x10.1.2.1, HV.str x10.1.2.2]) (zs := [HV.bool x10.1.1.1, HV.str x10.1.1.2, HV.bool x10.1.2.1, HV.str x10.1.2.2]) rfl rfl rfl ty44 rfl rfl rfl rfl rfl ?_)
 refine mv rfl rfl ?_
 refine b_fin hK (s' := ⟨[(2, HV.ptr 19002 v1 0), (3, HV.int .i64 x10.2)], [(19002, v1, .arr 4 44 [HV.bool x10.1.1.1, HV.str x10.1.1.2, HV.bool x10.1.2.1, HV.str x10.1.2.2])]⟩) (le_q rfl rfl) ?_
 clear hK K
 refine AW.ret ?_
 have h := Option.some.inj h
 subst h
 exact ret_pure (hs := [HV.agg [HV.bool x10.1.1.1, HV.str x10.1.1.2, HV.bool x10.1.2.1, HV.str x10.1.2.2], HV.int .i64 x10.2]) (q := HV.tup [HV.agg [HV.bool x10.1.1.1, HV.str x10.1.1.2, HV.bool x10.1.2.1, HV.str x10.1.2.2], HV.int .i64 x10.2]) (.inr rfl) (resP ty44 rfl rfl (l_litA rfl (Nat.le_of_ble_eq_true rfl) rfl) (resT rfl rfl)) rfl ⟨⟨trivial, trivial, trivial, trivial, trivial⟩, trivial, trivial⟩

set_option maxHeartbeats 1600000 in
set_option maxRecDepth 100000 in
theorem w_merging_Merges {p0 : TWordsMerges} {p1 : TLabelsStatesEdges} {p2 : Int} {p3 : Int} {r : (List (Int)) × Int} (h : m_merging_Merges p0 p1 p2 p3 = some r) : Pure Tryz.prog 24 [HV.agg [slE eStr p0.1, slE eStr p0.2], HV.agg [HV.int .i64 p1.1, HV.int .i64 p1.2.1, slE eFromLabelTo p1.2.2], HV.int .i64 p2, HV.int .i64 p3] (· = HV.tup [slE eInt r.1, HV.int .i64 r.2]) := by
 unfold m_merging_Merges at h
 refine Pure.of_body Tryz.func24 rfl rfl (Nat.le_of_ble_eq_true rfl) fun hf => ?_
 unfold Tryz.f24
 dsimp only [enumS, Nat.reduceAdd]
 refine AW.rgs rfl fun K hK => ?_
 refine b_op rfl (o_box rfl rfl rfl ?_)
 refine b_op rfl (o_box rfl rfl rfl ?_)
 refine mv rfl rfl ?_
 refine mv rfl rfl ?_
 refine b_fin hK (s' := ⟨[(2, HV.int .i64 p2), (3, HV.int .i64 p3), (4, HV.fptr [slE eStr p0.1, slE eStr p0.2] 0), (5, HV.fptr [HV.int .i64 p1.1, HV.int .i64 p1.2.1, slE eFromLabelTo p1.2.2] 0)], []⟩) (le_q rfl rfl) ?_
 clear hK K
 refine AW.seq ?_
 refine AW.rgs rfl fun K hK => ?_
 refine bv rfl (v_loadF ty24 rfl (l_litA rfl (Nat.le_of_ble_eq_true rfl) rfl)) ?_
 refine bv rfl (v_loadF ty27 rfl (l_litA rfl (Nat.le_of_ble_eq_true rfl) rfl)) ?_
 refine mv rfl rfl ?_
 refine mv rfl rfl ?_
 refine b_op rfl (o_bsl rfl rfl (as_of (cs := [HV.int .i64 p2, HV.int .i64 p3]) ty31 ty3 rfl rfl rfl rfl rfl) ?_)
 obtain ⟨x1, h2, h⟩ := bS h
 refine b_op rfl (o_call rfl rfl rfl rfl (ACallD.pure0 (w_merging_inputs h2)) ?_)
 refine mv rfl rfl ?_
 refine b_fin hK (s' := ⟨[(2, HV.int .i64 p2), (3, HV.int .i64 p3), (4, HV.fptr [slE eStr p0.1, slE eStr p0.2] 0), (5, HV.fptr [HV.int .i64 p1.1, HV.int .i64 p1.2.1, slE eFromLabelTo p1.2.2] 0), (10, HV.int .i64 x1)], []⟩) (le_q rfl rfl) ?_
 clear hK K
 refine AW.rgs rfl fun K hK => ?_
 refine mv rfl rfl ?_
 refine bv rfl (v_bin rfl rfl b_neq) ?_
 refine b_fin hK (s' := ⟨[(2, HV.int .i64 p2), (3, HV.int .i64 p3), (4, HV.fptr [slE eStr p0.1, slE eStr p0.2] 0), (5, HV.fptr [HV.int .i64 p1.1, HV.int .i64 p1.2.1, slE eFromLabelTo p1.2.2] 0), (10, HV.int .i64 x1), (21, HV.bool (decide (x1 ≠ 0)))], []⟩) (le_q rfl rfl) ?_
 clear hK K
 refine AW.cond rfl (fun hc => ?_) (fun hc => ?_)
 ·have hc := of_decide_eq_true hc
  have h := ifT hc h
  refine AW.rgs rfl fun K hK => ?_
  refine mv rfl rfl ?_
  refine mv rfl rfl ?_
  refine mv rfl rfl ?_
  refine b_fin hK (s' := ⟨[(8, HV.v (.slice none 0 0)), (9, HV.int .i64 x1)], []⟩) (le_q rfl rfl) ?_
  clear hK K
  refine AW.to (to_weak ⟨[(8, slE eInt ([] : List Int)), (9, HV.int .i64 x1)], []⟩ ⟨⟨_, rfl, .nil _⟩, ⟨_, rfl, .refl _⟩, trivial⟩ trivial ?_)
  refine AW.ret ?_
  have h := Option.some.inj h
  subst h
  exact ret_pure (hs := [slE eInt ([] : List Int), HV.int .i64 x1]) (q := HV.tup [slE eInt ([] : List Int), HV.int .i64 x1]) (.inr rfl) (resT rfl (resT rfl rfl)) rfl ⟨(clean_slE fun _ _ => ⟨trivial, trivial⟩), trivial, trivial⟩
 have hc := of_decide_eq_false hc
 have h := ifF hc h
 refine AW.skip ?_
 refine AW.rgs rfl fun K hK => ?_
 refine mv rfl rfl ?_
 refine b_fin hK (s' := ⟨[(2, HV.int .i64 p2), (3, HV.int .i64 p3), (4, HV.fptr [slE eStr p0.1, slE eStr p0.2] 0), (5, HV.fptr [HV.int .i64 p1.1, HV.int .i64 p1.2.1, slE eFromLabelTo p1.2.2] 0), (11, HV.v (.slice none 0 0))], []⟩) (le_q rfl rfl) ?_
 clear hK K
 refine AW.seq ?_
 refine AW.rgs rfl fun K hK => ?_
 refine bv rfl (v_fieldAddrF fo24_1 rfl) ?_
 refine bv rfl (v_loadF ty22 rfl (l_lit rfl rfl)) ?_
 refine bv rfl (v_lenF rfl rfl ty22 rfl) ?_
 refine mv rfl rfl ?_
 refine b_fin hK (s' := ⟨[(2, HV.int .i64 p2), (3, HV.int .i64 p3), (4, HV.fptr [slE eStr p0.1, slE eStr p0.2] 0), (5, HV.fptr [HV.int .i64 p1.1, HV.int .i64 p1.2.1, slE eFromLabelTo p1.2.2] 0), (11, HV.v (.slice none 0 0)), (24, slE eStr p0.2), (25, HV.int .i64 ((p0.2).length : Int)), (26, HV.int .i64 0)], []⟩) (le_q rfl rfl) ?_
 clear hK K
 refine AW.lpX h (by first | exact up_then | exact up_to) (S := Int × (List Int)) (V := Nat) (fun a v => ⟨[(2, HV.int .i64 p2), (3, HV.int .i64 p3), (4, HV.fptr [slE eStr p0.1, slE eStr p0.2] 0), (5, HV.fptr [HV.int .i64 p1.1, HV.int .i64 p1.2.1, slE eFromLabelTo p1.2.2] 0), (11, HV.ar 24049 v eInt.k 0 ((a.2).length)), (24, slE eStr p0.2), (25, HV.int .i64 ((p0.2).length : Int)), (26, HV.int .i64 a.1)], [(24049, v, .arr eInt.k 3 (eInt.E a.2))]⟩) ?_ (X := (List Int)) (W := Nat) (fun a v => ⟨[(11, HV.ar 24049 v eInt.k 0 ((a).length))], [(24049, v, .arr eInt.k 3 (eInt.E a))]⟩) (fun a23 w24 h => ?_) (fun a3 w4 st5 h => ?_)
 ·refine to_bind (to_own 24049 11 eInt.k 3 rfl fun v22 => ?_)
  exact to_le (s' := ⟨[(2, HV.int .i64 p2), (3, HV.int .i64 p3), (4, HV.fptr [slE eStr p0.1, slE eStr p0.2] 0), (5, HV.fptr [HV.int .i64 p1.1, HV.int .i64 p1.2.1, slE eFromLabelTo p1.2.2] 0), (11, HV.ar 24049 v22 eInt.k 0 ((([] : List Int)).length)), (24, slE eStr p0.2), (25, HV.int .i64 ((p0.2).length : Int)), (26, HV.int .i64 0)], [(24049, v22, .arr eInt.k 3 (eInt.E ([] : List Int)))]⟩) (AS.le_of ⟨rfl, rfl, rfl, rfl, arl (by first | rfl | simp only [List.length_set, sortI_len, sortS_len]), rfl, rfl, rfl, trivial⟩ ⟨rfl, trivial⟩) ⟨v22, rfl⟩
 ·refine AW.rgs rfl fun K hK => ?_
  refine mv rfl rfl ?_
  refine mv rfl rfl ?_
  refine mv rfl rfl ?_
  refine b_fin hK (s' := ⟨[(8, HV.ar 24049 w24 eInt.k 0 ((a23).length)), (9, HV.int .i64 0)], [(24049, w24, .arr eInt.k 3 (eInt.E a23))]⟩) (le_q rfl rfl) ?_
  clear hK K
  refine AW.to (to_frz 2 [(24049, w24, .arr eInt.k 3 (eInt.E a23))] ⟨[(8, slE eInt a23), (9, HV.int .i64 0)], []⟩ ⟨⟨_, rfl, frz_slE eInt (l := a23) rfl fun _ _ => rfl⟩, ⟨_, rfl, rfl⟩, trivial⟩ trivial ⟨rfl, trivial⟩ ⟨rfl, trivial⟩ ?_)
  refine AW.ret ?_
  have h := Option.some.inj h
  subst h
  exact ret_pure (hs := [slE eInt a23, HV.int .i64 0]) (q := HV.tup [slE eInt a23, HV.int .i64 0]) (.inr rfl) (resT rfl (resT rfl rfl)) rfl ⟨(clean_slE fun _ _ => ⟨trivial, trivial⟩), trivial, trivial⟩
 refine AW.rgs rfl fun K hK => ?_
 refine bv rfl (v_bin rfl rfl b_lss) ?_
 refine b_fin hK (s' := ⟨[(2, HV.int .i64 p2), (3, HV.int .i64 p3), (4, HV.fptr [slE eStr p0.1, slE eStr p0.2] 0), (5, HV.fptr [HV.int .i64 p1.1, HV.int .i64 p1.2.1, slE eFromLabelTo p1.2.2] 0), (11, HV.ar 24049 w4 eInt.k 0 ((a3.2).length)), (24, slE eStr p0.2), (25, HV.int .i64 ((p0.2).length : Int)), (26, HV.int .i64 a3.1), (27, HV.bool (decide (a3.1 < ((p0.2).length : Int))))], [(24049, w4, .arr eInt.k 3 (eInt.E a3.2))]⟩) (le_q rfl rfl) ?_
 clear hK K
 refine AW.cseq rfl (fun hc => ?_) (fun hc => ?_)
 ·have hc := of_decide_eq_true hc
  have h := ifT hc h
  refine AW.skip ?_
  refine AW.seqJ h (S := (List Int)) (V := Nat) (fun a v => ⟨[(2, HV.int .i64 p2), (3, HV.int .i64 p3), (4, HV.fptr [slE eStr p0.1, slE eStr p0.2] 0), (5, HV.fptr [HV.int .i64 p1.1, HV.int .i64 p1.2.1, slE eFromLabelTo p1.2.2] 0), (11, HV.ar 24049 v eInt.k 0 ((a).length)), (24, slE eStr p0.2), (25, HV.int .i64 ((p0.2).length : Int)), (26, HV.int .i64 a3.1)], [(24049, v, .arr eInt.k 3 (eInt.E a))]⟩) (fun a7 w8 h => ?_) (fun k9 h => ?_)
  ·refine AW.rg rfl fun K hK => ?_
   refine bv rfl (v_bin rfl rfl b_add) ?_
   refine mv rfl rfl ?_
   refine b_nil (hK _ ?_)
   clear hK K
   exact to_le (s' := ⟨[(2, HV.int .i64 p2), (3, HV.int .i64 p3), (4, HV.fptr [slE eStr p0.1, slE eStr p0.2] 0), (5, HV.fptr [HV.int .i64 p1.1, HV.int .i64 p1.2.1, slE eFromLabelTo p1.2.2] 0), (11, HV.ar 24049 w8 eInt.k 0 ((a7).length)), (24, slE eStr p0.2), (25, HV.int .i64 ((p0.2).length : Int)), (26, HV.int .i64 (IntKind.wrap .i64 (a3.1 + 1)))], [(24049, w8, .arr eInt.k 3 (eInt.E a7))]⟩) (AS.le_of ⟨rfl, rfl, rfl, rfl, rfl, rfl, rfl, rfl, trivial⟩ ⟨rfl, trivial⟩) ⟨(IntKind.wrap .i64 (a3.1 + 1), a7), w8, h, rfl⟩
  refine AW.block ?_
  refine AW.rgs rfl fun K hK => ?_
  refine mv rfl rfl ?_
  obtain ⟨x10, h11, h⟩ := bS h
  refine bv rfl (v_idxF ty22 es22 rfl rfl (idx_lt h11)) ?_
  refine bv rfl (v_loadF ty9 rfl (l_cell eStr h11 (o := 0) rfl rfl)) ?_
  refine mv rfl rfl ?_
  refine mv rfl rfl ?_
  refine b_fin hK (s' := ⟨[(2, HV.int .i64 p2), (3, HV.int .i64 p3), (4, HV.fptr [slE eStr p0.1, slE eStr p0.2] 0), (5, HV.fptr [HV.int .i64 p1.1, HV.int .i64 p1.2.1, slE eFromLabelTo p1.2.2] 0), (11, HV.ar 24049 w4 eInt.k 0 ((a3.2).length)), (12, HV.int .i64 a3.1), (13, HV.str x10), (24, slE eStr p0.2), (25, HV.int .i64 ((p0.2).length : Int)), (26, HV.int .i64 a3.1)], [(24049, w4, .arr eInt.k 3 (eInt.E a3.2))]⟩) (le_q rfl rfl) ?_
  clear hK K
  refine AW.dgs 15 follows rfl rfl fun K hK => ?_
  refine sv rfl (v_loadF ty27 rfl (l_litA rfl (Nat.le_of_ble_eq_true rfl) rfl)) ?_
  refine sv rfl (v_fieldAddrF fo24_0 rfl) ?_
  refine sv rfl (v_loadF ty22 rfl (l_lit rfl rfl)) ?_
  refine sm rfl rfl ?_
  obtain ⟨x12, h13, h⟩ := bS h
  refine sv rfl (v_idxF ty22 es22 rfl rfl (idx_lt h13)) ?_
  refine sv rfl (v_loadF ty9 rfl (l_cell eStr h13 (o := 0) rfl rfl)) ?_
  refine sm rfl rfl ?_
  obtain ⟨h14, h⟩ := ifN h
  refine sv rfl (v_bin rfl rfl (b_sadd h14)) ?_
  refine sv rfl (v_fieldAddrF fo24_0 rfl) ?_
  refine sv rfl (v_loadF ty22 rfl (l_lit rfl rfl)) ?_
  refine sm rfl rfl ?_
  obtain ⟨x15, h16, h⟩ := bS h
  refine sv rfl (v_idxF ty22 es22 rfl rfl (idx_lt h16)) ?_
  refine sv rfl (v_loadF ty9 rfl (l_cell eStr h16 (o := 0) rfl rfl)) ?_
  obtain ⟨h17, h⟩ := ifN h
  refine sv rfl (v_bin rfl rfl (b_sadd h17)) ?_
  obtain ⟨x18, h19, h⟩ := bS h
  refine s_op rfl rfl (ops_call rfl rfl rfl rfl (ACallD.pure0 (w_merging_accepts h19)) ?_)
  refine s_nil ?_
  refine b_fin hK (s' := ⟨[(2, HV.int .i64 p2), (3, HV.int .i64 p3), (4, HV.fptr [slE eStr p0.1, slE eStr p0.2] 0), (5, HV.fptr [HV.int .i64 p1.1, HV.int .i64 p1.2.1, slE eFromLabelTo p1.2.2] 0), (11, HV.ar 24049 w4 eInt.k 0 ((a3.2).length)), (12, HV.int .i64 a3.1), (24, slE eStr p0.2), (25, HV.int .i64 ((p0.2).length : Int)), (26, HV.int .i64 a3.1), (45, HV.bool x18)], [(24049, w4, .arr eInt.k 3 (eInt.E a3.2))]⟩) (le_q rfl rfl) ?_
  clear hK K
  refine AW.cond rfl (fun hc => ?_) (fun hc => ?_)
  ·have h := ifT hc h
   refine AW.rg rfl fun K hK => ?_
   refine mv rfl rfl ?_
   refine mv rfl rfl ?_
   refine b_op rfl (o_bsl rfl rfl (as_of (cs := [HV.int .i64 a3.1]) ty31 ty3 rfl rfl rfl rfl rfl) ?_)
   obtain ⟨h21, h⟩ := ifN h
   refine b_op rfl (o_appE eInt (l := a3.2) (m := [a3.1]) rfl rfl ty31 ty31 ty3 rfl rfl rfl rfl rfl h21 (fun v20 => ?_))
   refine mv rfl rfl ?_
   refine b_nil (hK _ ?_)
   clear hK K
   exact to_le (s' := ⟨[(2, HV.int .i64 p2), (3, HV.int .i64 p3), (4, HV.fptr [slE eStr p0.1, slE eStr p0.2] 0), (5, HV.fptr [HV.int .i64 p1.1, HV.int .i64 p1.2.1, slE eFromLabelTo p1.2.2] 0), (11, HV.ar 24049 v20 eInt.k 0 ((a3.2 ++ [a3.1]).length)), (24, slE eStr p0.2), (25, HV.int .i64 ((p0.2).length : Int)), (26, HV.int .i64 a3.1)], [(24049, v20, .arr eInt.k 3 (eInt.E (a3.2 ++ [a3.1])))]⟩) (AS.le_of ⟨rfl, rfl, rfl, rfl, rfl, rfl, rfl, rfl, trivial⟩ ⟨rfl, trivial⟩) ⟨a3.2 ++ [a3.1], v20, h, rfl⟩
  have h := ifF (bF' hc) h
  refine AW.skip ?_
  exact to_le (s' := ⟨[(2, HV.int .i64 p2), (3, HV.int .i64 p3), (4, HV.fptr [slE eStr p0.1, slE eStr p0.2] 0), (5, HV.fptr [HV.int .i64 p1.1, HV.int .i64 p1.2.1, slE eFromLabelTo p1.2.2] 0), (11, HV.ar 24049 w4 eInt.k 0 ((a3.2).length)), (24, slE eStr p0.2), (25, HV.int .i64 ((p0.2).length : Int)), (26, HV.int .i64 a3.1)], [(24049, w4, .arr eInt.k 3 (eInt.E a3.2))]⟩) (AS.le_of ⟨rfl, rfl, rfl, rfl, rfl, rfl, rfl, rfl, trivial⟩ ⟨rfl, trivial⟩) ⟨a3.2, w4, h, rfl⟩
 have hc := of_decide_eq_false hc
 have h := ifF hc h
 refine AW.exit ?_
 exact to_le (s' := ⟨[(11, HV.ar 24049 w4 eInt.k 0 ((a3.2).length))], [(24049, w4, .arr eInt.k 3 (eInt.E a3.2))]⟩) (AS.le_of ⟨rfl, trivial⟩ ⟨rfl, trivial⟩) ⟨a3.2, w4, h, rfl⟩

set_option maxHeartbeats 1600000 in
set_option maxRecDepth 100000 in
theorem w_slices_Equal_Lint_int {p0 : List (Int)} {p1 : List (Int)} {r : Bool} (h : m_slices_Equal_Lint_int p0 p1 = some r) : Pure Tryz.prog 37 [slE eInt p0, slE eInt p1] (· = HV.bool r) := by
 unfold m_slices_Equal_Lint_int at h
 refine Pure.of_body Tryz.func37 rfl rfl (Nat.le_of_ble_eq_true rfl) fun hf => ?_
 unfold Tryz.f37
 dsimp only [enumS, Nat.reduceAdd]
 refine AW.rgs rfl fun K hK => ?_
 refine mv rfl rfl ?_
 refine b_fin hK (s' := ⟨[(0, slE eInt p0), (1, slE eInt p1)], []⟩) (le_q rfl rfl) ?_
 clear hK K
 refine AW.seq ?_
 refine AW.rgs rfl fun K hK => ?_
 refine mv rfl rfl ?_
 refine bv rfl (v_lenF rfl rfl ty31 rfl) ?_
 refine mv rfl rfl ?_
 refine bv rfl (v_lenF rfl rfl ty31 rfl) ?_
 refine bv rfl (v_bin rfl rfl b_neq) ?_
 refine b_fin hK (s' := ⟨[(0, slE eInt p0), (1, slE eInt p1), (10, HV.bool (decide (((p0).length : Int) ≠ ((p1).length : Int))))], []⟩) (le_q rfl rfl) ?_
 clear hK K
 refine AW.cond rfl (fun hc => ?_) (fun hc => ?_)
 ·have hc := of_decide_eq_true hc
  have h := ifT hc h
  refine AW.rgs rfl fun K hK => ?_
  refine mv rfl rfl ?_
  refine b_fin hK (s' := ⟨[(4, HV.bool false)], []⟩) (le_q rfl rfl) ?_
  clear hK K
  refine AW.ret ?_
  have h := Option.some.inj h
  subst h
  exact ret_pure (hs := [HV.bool false]) (q := HV.bool false) (.inr rfl) (resT rfl rfl) rfl trivial
 have hc := of_decide_eq_false hc
 have h := ifF hc h
 refine AW.skip ?_
 refine AW.seq ?_
 refine AW.rgs rfl fun K hK => ?_
 refine mv rfl rfl ?_
 refine bv rfl (v_lenF rfl rfl ty31 rfl) ?_
 refine mv rfl rfl ?_
 refine b_fin hK (s' := ⟨[(0, slE eInt p0), (1, slE eInt p1), (12, HV.int .i64 ((p0).length : Int)), (13, HV.int .i64 0)], []⟩) (le_q rfl rfl) ?_
 clear hK K
 refine AW.lpR h (by first | exact up_then | exact up_to) (S := Int) (V := Unit) (fun a v => ⟨[(0, slE eInt p0), (1, slE eInt p1), (12, HV.int .i64 ((p0).length : Int)), (13, HV.int .i64 a)], []⟩) ?_ (X := Unit) (W := Unit) (fun a v => ⟨[], []⟩) (fun a9 w10 h => ?_) (fun a1 w2 st3 h hr4=> ?_)
 ·exact to_le (s' := ⟨[(0, slE eInt p0), (1, slE eInt p1), (12, HV.int .i64 ((p0).length : Int)), (13, HV.int .i64 0)], []⟩) (AS.le_of ⟨rfl, rfl, rfl, rfl, trivial⟩ trivial) ⟨(), rfl⟩
 ·refine AW.rgs rfl fun K hK => ?_
  refine mv rfl rfl ?_
  refine b_fin hK (s' := ⟨[(4, HV.bool true)], []⟩) (le_q rfl rfl) ?_
  clear hK K
  refine AW.ret ?_
  have h := Option.some.inj h
  subst h
  exact ret_pure (hs := [HV.bool true]) (q := HV.bool true) (.inr rfl) (resT rfl rfl) rfl trivial
 refine AW.rgs rfl fun K hK => ?_
 refine bv rfl (v_bin rfl rfl b_lss) ?_
 refine b_fin hK (s' := ⟨[(0, slE eInt p0), (1, slE eInt p1), (12, HV.int .i64 ((p0).length : Int)), (13, HV.int .i64 a1), (14, HV.bool (decide (a1 < ((p0).length : Int))))], []⟩) (le_q rfl rfl) ?_
 clear hK K
 refine AW.cseq rfl (fun hc => ?_) (fun hc => ?_)
 ·have hc := of_decide_eq_true hc
  have h := ifT hc h
  refine AW.skip ?_
  refine AW.seq (AW.block ?_)
  refine AW.rgs rfl fun K hK => ?_
  refine mv rfl rfl ?_
  refine mv rfl rfl ?_
  refine b_fin hK (s' := ⟨[(0, slE eInt p0), (1, slE eInt p1), (5, HV.int .i64 a1), (12, HV.int .i64 ((p0).length : Int)), (13, HV.int .i64 a1)], []⟩) (le_q rfl rfl) ?_
  clear hK K
  refine AW.dgs 9 follows rfl rfl fun K hK => ?_
  refine sm rfl rfl ?_
  refine sm rfl rfl ?_
  obtain ⟨x5, h6, h⟩ := bS h
  refine sv rfl (v_idxF ty31 es31 rfl rfl (idx_lt h6)) ?_
  refine sv rfl (v_loadF ty3 rfl (l_cell eInt h6 (o := 0) rfl rfl)) ?_
  refine sm rfl rfl ?_
  refine sm rfl rfl ?_
  obtain ⟨x7, h8, h⟩ := bS h
  refine sv rfl (v_idxF ty31 es31 rfl rfl (idx_lt h8)) ?_
  refine sv rfl (v_loadF ty3 rfl (l_cell eInt h8 (o := 0) rfl rfl)) ?_
  refine sv rfl (v_bin rfl rfl b_neq) ?_
  refine s_nil ?_
  refine b_fin hK (s' := ⟨[(0, slE eInt p0), (1, slE eInt p1), (12, HV.int .i64 ((p0).length : Int)), (13, HV.int .i64 a1), (24, HV.bool (decide (x5 ≠ x7)))], []⟩) (le_q rfl rfl) ?_
  clear hK K
  refine AW.cond rfl (fun hc => ?_) (fun hc => ?_)
  ·have hc := of_decide_eq_true hc
   have h := ifT hc h
   refine AW.rgs rfl fun K hK => ?_
   refine mv rfl rfl ?_
   refine b_fin hK (s' := ⟨[(4, HV.bool false)], []⟩) (le_q rfl rfl) ?_
   clear hK K
   have h := hr4 _ h
   refine AW.ret ?_
   have h := Option.some.inj h
   subst h
   exact ret_pure (hs := [HV.bool false]) (q := HV.bool false) (.inr rfl) (resT rfl rfl) rfl trivial
  have hc := of_decide_eq_false hc
  have h := ifF hc h
  refine AW.skip ?_
  refine AW.rg rfl fun K hK => ?_
  refine bv rfl (v_bin rfl rfl b_add) ?_
  refine mv rfl rfl ?_
  refine b_nil (hK _ ?_)
  clear hK K
  exact to_le (s' := ⟨[(0, slE eInt p0), (1, slE eInt p1), (12, HV.int .i64 ((p0).length : Int)), (13, HV.int .i64 (IntKind.wrap .i64 (a1 + 1)))], []⟩) (AS.le_of ⟨rfl, rfl, rfl, rfl, trivial⟩ trivial) ⟨IntKind.wrap .i64 (a1 + 1), (), h, rfl⟩
 have hc := of_decide_eq_false hc
 have h := ifF hc h
 refine AW.exit ?_
 exact to_le (s' := ⟨[], []⟩) (AS.le_of trivial trivial) ⟨(), (), h, rfl⟩

set_option maxHeartbeats 1600000 in
set_option maxRecDepth 100000 in
theorem w_law31_golden  {r : TLabelsStatesEdges} (h : m_law31_golden  = some r) : Pure Tryz.prog 51 [] (· = HV.agg [HV.int .i64 r.1, HV.int .i64 r.2.1, slE eFromLabelTo r.2.2]) := by
 unfold m_law31_golden at h
 refine Pure.of_body Tryz.func51 rfl rfl (Nat.le_of_ble_eq_true rfl) fun hf => ?_
 unfold Tryz.f51
 dsimp only [enumS, Nat.reduceAdd]
 refine AW.rgs rfl fun K hK => ?_
 refine b_op rfl (o_alloc (fid := 51) (zs := [HV.int .i64 0, HV.int .i64 0, HV.v (.slice none 0 0)]) 51000 rfl rfl ty27 rfl (fun v1 => ?_))
 refine b_fin hK (s' := ⟨[(0, HV.ptr 51000 v1 0)], [(51000, v1, .arr 3 27 [HV.int .i64 0, HV.int .i64 0, HV.v (.slice none 0 0)])]⟩) (le_q rfl rfl) ?_
 clear hK K
 refine AW.rgs rfl fun K hK => ?_
 refine b_op rfl (o_build (cs := [HV.int .i64 0, HV.int .i64 0, HV.int .i64 0]) rfl (bl_of ty128 rfl rfl rfl rfl) ?_)
 refine b_op rfl (o_build (cs := [HV.int .i64 0, HV.int .i64 1, HV.int .i64 1]) rfl (bl_of ty128 rfl rfl rfl rfl) ?_)
 refine b_op rfl (o_build (cs := [HV.int .i64 1, HV.int .i64 0, HV.int .i64 0]) rfl (bl_of ty128 rfl rfl rfl rfl) ?_)
 refine b_op rfl (o_bsl rfl rfl (as_of (cs := [HV.int .i64 0, HV.int .i64 0, HV.int .i64 0, HV.int .i64 0, HV.int .i64 1, HV.int .i64 1, HV.int .i64 1, HV.int .i64 0, HV.int .i64 0]) ty25 ty128 rfl rfl rfl rfl rfl) ?_)
 refine b_op rfl (o_build (cs := [HV.int .i64 2, HV.int .i64 2, slE eFromLabelTo [(0, 0, 0), (0, 1, 1), (1, 0, 0)]]) rfl (bl_of ty27 rfl rfl rfl rfl) ?_)
 refine b_op rfl (o_store (cs := [HV.int .i64 2, HV.int .i64 2, slE eFromLabelTo [(0, 0, 0), (0, 1, 1), (1, 0, 0)]]) (zs := [HV.int .i64 2, HV.int .i64 2, slE eFromLabelTo [(0, 0, 0), (0, 1, 1), (1, 0, 0)]]) rfl rfl rfl ty27 rfl rfl rfl rfl rfl ?_)
 refine b_fin hK (s' := ⟨[(0, HV.ptr 51000 v1 0)], [(51000, v1, .arr 3 27 [HV.int .i64 2, HV.int .i64 2, slE eFromLabelTo [(0, 0, 0), (0, 1, 1), (1, 0, 0)]])]⟩) (le_q rfl rfl) ?_
 clear hK K
 refine AW.ret ?_
 have h := Option.some.inj h
 subst h
 exact ret_pure (hs := [HV.agg [HV.int .i64 2, HV.int .i64 2, slE eFromLabelTo [(0, 0, 0), (0, 1, 1), (1, 0, 0)]]]) (q := HV.agg [HV.int .i64 2, HV.int .i64 2, slE eFromLabelTo [(0, 0, 0), (0, 1, 1), (1, 0, 0)]]) (.inr rfl) (resP ty27 rfl rfl (l_litA rfl (Nat.le_of_ble_eq_true rfl) rfl) rfl) rfl ⟨trivial, trivial, (clean_slE fun _ _ => ⟨trivial, trivial, trivial, trivial⟩), trivial⟩

set_option maxHeartbeats 1600000 in
set_option maxRecDepth 100000 in
theorem w_law31_awakeG  {r : Bool} (h : m_law31_awakeG  = some r) : Pure Tryz.prog 13 [] (· = HV.bool r) := by
 unfold m_law31_awakeG at h
 refine Pure.of_body Tryz.func13 rfl rfl (Nat.le_of_ble_eq_true rfl) fun hf => ?_
 unfold Tryz.f13
 dsimp only [enumS, Nat.reduceAdd]
 refine AW.rgs rfl fun K hK => ?_
 refine mv rfl rfl ?_
 refine b_fin hK (s' := ⟨[], []⟩) (le_q rfl rfl) ?_
 clear hK K
 refine AW.rgs rfl fun K hK => ?_
 refine b_op rfl (o_bsl rfl rfl (as_of (cs := [HV.str [48, 48], HV.str [48, 49], HV.str [49, 48]]) ty22 ty9 rfl rfl rfl rfl rfl) ?_)
 refine b_op rfl (o_bsl rfl rfl (as_of (cs := [HV.str [48], HV.str [49]]) ty22 ty9 rfl rfl rfl rfl rfl) ?_)
 refine b_op rfl (o_build (cs := [slE eStr [[48, 48], [48, 49], [49, 48]], slE eStr [[48], [49]]]) rfl (bl_of ty24 rfl rfl rfl rfl) ?_)
 refine b_op rfl (o_alloc (fid := 13) (zs := [HV.v (.slice none 0 0), HV.v (.slice none 0 0)]) 13001 rfl rfl ty24 rfl (fun v1 => ?_))
 refine b_op rfl (o_store (cs := [slE eStr [[48, 48], [48, 49], [49, 48]], slE eStr [[48], [49]]]) (zs := [slE eStr [[48, 48], [48, 49], [49, 48]], slE eStr [[48], [49]]]) rfl rfl rfl ty24 rfl rfl rfl rfl rfl ?_)
 refine b_fin hK (s' := ⟨[(1, HV.ptr 13001 v1 0)], [(13001, v1, .arr 2 24 [slE eStr [[48, 48], [48, 49], [49, 48]], slE eStr [[48], [49]]])]⟩) (le_q rfl rfl) ?_
 clear hK K
 refine AW.dgs 8 follows rfl rfl fun K hK => ?_
 refine sv rfl (v_loadP ty24 rfl rfl (l_litA rfl (Nat.le_of_ble_eq_true rfl) rfl)) ?_
 obtain ⟨x2, h3, h⟩ := bS h
 refine s_op rfl rfl (ops_call rfl rfl rfl rfl (ACallD.pure0 (w_law31_golden h3)) ?_)
 obtain ⟨x4, h5, h⟩ := bS h
 refine s_op rfl rfl (ops_call rfl rfl rfl rfl (ACallD.pure0 (w_merging_Merges h5)) ?_)
 refine sm rfl rfl ?_
 refine sv rfl (v_extract rfl rfl) ?_
 refine sv rfl (v_extract rfl rfl) ?_
 refine sm rfl rfl ?_
 refine sm rfl rfl ?_
 refine s_nil ?_
 refine b_fin hK (s' := ⟨[(1, HV.ptr 13001 v1 0), (2, slE eInt x4.1), (3, HV.int .i64 x4.2)], [(13001, v1, .arr 2 24 [slE eStr [[48, 48], [48, 49], [49, 48]], slE eStr [[48], [49]]])]⟩) (le_q rfl rfl) ?_
 clear hK K
 refine AW.dgs 8 follows rfl rfl fun K hK => ?_
 refine sv rfl (v_loadP ty24 rfl rfl (l_litA rfl (Nat.le_of_ble_eq_true rfl) rfl)) ?_
 obtain ⟨x6, h7, h⟩ := bS h
 refine s_op rfl rfl (ops_call rfl rfl rfl rfl (ACallD.pure0 (w_law31_golden h7)) ?_)
 obtain ⟨x8, h9, h⟩ := bS h
 refine s_op rfl rfl (ops_call rfl rfl rfl rfl (ACallD.pure0 (w_merging_Merges h9)) ?_)
 refine sm rfl rfl ?_
 refine sv rfl (v_extract rfl rfl) ?_
 refine sv rfl (v_extract rfl rfl) ?_
 refine sm rfl rfl ?_
 refine sm rfl rfl ?_
 refine s_nil ?_
 refine b_fin hK (s' := ⟨[(1, HV.ptr 13001 v1 0), (2, slE eInt x4.1), (3, HV.int .i64 x4.2), (4, slE eInt x8.1), (5, HV.int .i64 x8.2)], [(13001, v1, .arr 2 24 [slE eStr [[48, 48], [48, 49], [49, 48]], slE eStr [[48], [49]]])]⟩) (le_q rfl rfl) ?_
 clear hK K
 refine AW.dgs 9 follows rfl rfl fun K hK => ?_
 refine sv rfl (v_loadP ty24 rfl rfl (l_litA rfl (Nat.le_of_ble_eq_true rfl) rfl)) ?_
 obtain ⟨x10, h11, h⟩ := bS h
 refine s_op rfl rfl (ops_call rfl rfl rfl rfl (ACallD.pure0 (w_law31_golden h11)) ?_)
 refine s_op rfl rfl (ops_bsl rfl rfl (as_of (cs := [HV.int .i64 0, HV.int .i64 0]) ty31 ty3 rfl rfl rfl rfl rfl) ?_)
 obtain ⟨x12, h13, h⟩ := bS h
 refine s_op rfl rfl (ops_call rfl rfl rfl rfl (ACallD.pure0 (w_merging_Encode h13)) ?_)
 refine sm rfl rfl ?_
 refine sv rfl (v_extract rfl rfl) ?_
 refine sv rfl (v_extract rfl rfl) ?_
 refine sm rfl rfl ?_
 refine sm rfl rfl ?_
 refine s_nil ?_
 refine b_fin hK (s' := ⟨[(1, HV.ptr 13001 v1 0), (2, slE eInt x4.1), (3, HV.int .i64 x4.2), (4, slE eInt x8.1), (5, HV.int .i64 x8.2), (6, HV.str x12.1), (7, HV.int .i64 x12.2)], [(13001, v1, .arr 2 24 [slE eStr [[48, 48], [48, 49], [49, 48]], slE eStr [[48], [49]]])]⟩) (le_q rfl rfl) ?_
 clear hK K
 refine AW.rgs rfl fun K hK => ?_
 refine bv rfl (v_loadP ty24 rfl rfl (l_litA rfl (Nat.le_of_ble_eq_true rfl) rfl)) ?_
 obtain ⟨x14, h15, h⟩ := bS h
 refine b_op rfl (o_call rfl rfl rfl rfl (ACallD.pure0 (w_merging_Rate h15)) ?_)
 refine mv rfl rfl ?_
 refine bv rfl (v_extract rfl rfl) ?_
 refine bv rfl (v_extract rfl rfl) ?_
 refine b_op rfl (o_alloc (fid := 13) (zs := [HV.bool false, HV.str ([] : List UInt8), HV.bool false, HV.str ([] : List UInt8)]) 13008 rfl rfl ty44 rfl (fun v16 => ?_))
 refine b_op rfl (o_store (cs := [HV.bool x14.1.1.1, HV.str x14.1.1.2, HV.bool x14.1.2.1, HV.str x14.1.2.2]) (zs := [HV.bool x14.1.1.1, HV.str x14.1.1.2, HV.bool x14.1.2.1, HV.str x14.1.2.2]) rfl rfl rfl ty44 rfl rfl rfl rfl rfl ?_)
 refine mv rfl rfl ?_
 refine b_fin hK (s' := ⟨[(2, slE eInt x4.1), (3, HV.int .i64 x4.2), (4, slE eInt x8.1), (5, HV.int .i64 x8.2), (6, HV.str x12.1), (7, HV.int .i64 x12.2), (8, HV.ptr 13008 v16 0), (9, HV.int .i64 x14.2)], [(13008, v16, .arr 4 44 [HV.bool x14.1.1.1, HV.str x14.1.1.2, HV.bool x14.1.2.1, HV.str x14.1.2.2])]⟩) (le_q rfl rfl) ?_
 clear hK K
 refine AW.rgs rfl fun K hK => ?_
 obtain ⟨x17, h18, h⟩ := bS h
 refine b_op rfl (o_call rfl rfl rfl rfl (ACallD.pure0 (w_rational_Ratio h18)) ?_)
 refine mv rfl rfl ?_
 refine bv rfl (v_extract rfl rfl) ?_
 refine bv rfl (v_extract rfl rfl) ?_
 refine b_op rfl (o_alloc (fid := 13) (zs := [HV.bool false, HV.str ([] : List UInt8), HV.bool false, HV.str ([] : List UInt8)]) 13010 rfl rfl ty44 rfl (fun v19 => ?_))
 refine b_op rfl (o_store (cs := [HV.bool x17.1.1.1, HV.str x17.1.1.2, HV.bool x17.1.2.1, HV.str x17.1.2.2]) (zs := [HV.bool x17.1.1.1, HV.str x17.1.1.2, HV.bool x17.1.2.1, HV.str x17.1.2.2]) rfl rfl rfl ty44 rfl rfl rfl rfl rfl ?_)
 refine mv rfl rfl ?_
 refine b_fin hK (s' := ⟨[(2, slE eInt x4.1), (3, HV.int .i64 x4.2), (4, slE eInt x8.1), (5, HV.int .i64 x8.2), (6, HV.str x12.1), (7, HV.int .i64 x12.2), (8, HV.ptr 13008 v16 0), (9, HV.int .i64 x14.2), (10, HV.ptr 13010 v19 0)], [(13008, v16, .arr 4 44 [HV.bool x14.1.1.1, HV.str x14.1.1.2, HV.bool x14.1.2.1, HV.str x14.1.2.2]), (13010, v19, .arr 4 44 [HV.bool x17.1.1.1, HV.str x17.1.1.2, HV.bool x17.1.2.1, HV.str x17.1.2.2])]⟩) (le_q rfl rfl) ?_
 clear hK K
 refine AW.seqJ h (S := Bool) (V := Unit) (fun a v => ⟨[(0, HV.bool a)], []⟩) (fun a20 w21 h => ?_) (fun k22 h => ?_)
 ·refine AW.ret ?_
  have h := Option.some.inj h
  subst h
  exact ret_pure (hs := [HV.bool a20]) (q := HV.bool a20) (.inr rfl) (resT rfl rfl) rfl trivial
 refine AW.rg rfl fun K hK => ?_
 refine mv rfl rfl ?_
 refine mv rfl rfl ?_
 refine mv rfl rfl ?_
 refine mv rfl rfl ?_
 refine bv rfl (v_max4 rfl rfl rfl rfl rfl) ?_
 refine bv rfl (v_bin rfl rfl b_eql) ?_
 refine mv rfl rfl ?_
 by_cases hg30 : (max (max (max x4.2 x8.2) x12.2) x14.2) = 0
 ·have h := ifT hg30 h
  refine b_T rfl rfl rfl rfl (decide_eq_true hg30) (o_val rfl (mv_val rfl rfl).2 ?_)
  refine b_T rfl rfl rfl rfl rfl (o_bsl rfl rfl (as_of (cs := [HV.int .i64 0, HV.int .i64 1]) ty31 ty3 rfl rfl rfl rfl rfl) ?_)
  obtain ⟨x23, h24, h⟩ := bS h
  refine b_T rfl rfl rfl rfl rfl (o_call rfl rfl rfl rfl (ACallD.pure0 (w_slices_Equal_Lint_int h24)) ?_)
  refine bv rfl (v_pickT rfl rfl rfl) ?_
  refine mv rfl rfl ?_
  by_cases hg29 : x23 = true
  ·have h := ifT hg29 h
   refine b_T rfl rfl rfl rfl hg29 (o_val rfl (mv_val rfl rfl).2 ?_)
   refine b_T rfl rfl rfl rfl rfl (o_bsl rfl rfl (as_of (cs := [HV.int .i64 0]) ty31 ty3 rfl rfl rfl rfl rfl) ?_)
   obtain ⟨x25, h26, h⟩ := bS h
   refine b_T rfl rfl rfl rfl rfl (o_call rfl rfl rfl rfl (ACallD.pure0 (w_slices_Equal_Lint_int h26)) ?_)
   refine bv rfl (v_pickT rfl rfl rfl) ?_
   refine mv rfl rfl ?_
   by_cases hg28 : x25 = true
   ·have h := ifT hg28 h
    refine b_T rfl rfl rfl rfl hg28 (o_val rfl (mv_val rfl rfl).2 ?_)
    refine b_T rfl rfl rfl rfl rfl (o_val rfl (v_bin rfl rfl b_seql) ?_)
    refine bv rfl (v_pickT rfl rfl rfl) ?_
    refine mv rfl rfl ?_
    by_cases hg27 : x12.1 = [48, 48, 49, 48, 48]
    ·have h := ifT hg27 h
     refine b_T rfl rfl rfl rfl (decide_eq_true hg27) (o_val rfl (v_loadP ty44 rfl rfl (l_litA rfl (Nat.le_of_ble_eq_true rfl) rfl)) ?_)
     refine b_T rfl rfl rfl rfl rfl (o_val rfl (v_loadP ty44 rfl rfl (l_litA rfl (Nat.le_of_ble_eq_true rfl) rfl)) ?_)
     refine b_T rfl rfl rfl rfl rfl (o_val rfl (v_bin rfl rfl (b_aeql (hk44 _ _ _ _) (hk44 _ _ _ _) hc44 (hq44 x14.1 x17.1))) ?_)
     refine bv rfl (v_pickT rfl rfl rfl) ?_
     refine mv rfl rfl ?_
     refine b_nil (hK _ ?_)
     clear hK K
     exact to_le (s' := ⟨[(0, HV.bool (decide (x14.1 = x17.1)))], []⟩) (AS.le_of ⟨rfl, trivial⟩ trivial) ⟨decide (x14.1 = x17.1), (), h, rfl⟩
    have h := ifF hg27 h
    refine b_F rfl rfl rfl rfl rfl (decide_eq_false hg27) ?_
    refine b_F rfl rfl rfl rfl rfl rfl ?_
    refine b_F rfl rfl rfl rfl rfl rfl ?_
    refine bv rfl (v_pickF rfl rfl rfl) ?_
    refine mv rfl rfl ?_
    refine b_nil (hK _ ?_)
    clear hK K
    exact to_le (s' := ⟨[(0, HV.bool false)], []⟩) (AS.le_of ⟨rfl, trivial⟩ trivial) ⟨false, (), h, rfl⟩
   have h := ifF hg28 h
   refine b_F rfl rfl rfl rfl rfl (bF hg28) ?_
   refine b_F rfl rfl rfl rfl rfl rfl ?_
   refine bv rfl (v_pickF rfl rfl rfl) ?_
   refine mv rfl rfl ?_
   refine b_F rfl rfl rfl rfl rfl rfl ?_
   refine b_F rfl rfl rfl rfl rfl rfl ?_
   refine b_F rfl rfl rfl rfl rfl rfl ?_
   refine bv rfl (v_pickF rfl rfl rfl) ?_
   refine mv rfl rfl ?_
   refine b_nil (hK _ ?_)
   clear hK K
   exact to_le (s' := ⟨[(0, HV.bool false)], []⟩) (AS.le_of ⟨rfl, trivial⟩ trivial) ⟨false, (), h, rfl⟩
  have h := ifF hg29 h
  refine b_F rfl rfl rfl rfl rfl (bF hg29) ?_
  refine b_F rfl rfl rfl rfl rfl rfl ?_
  refine b_F rfl rfl rfl rfl rfl rfl ?_
  refine bv rfl (v_pickF rfl rfl rfl) ?_
  refine mv rfl rfl ?_
  refine b_F rfl rfl rfl rfl rfl rfl ?_
  refine b_F rfl rfl rfl rfl rfl rfl ?_
  refine bv rfl (v_pickF rfl rfl rfl) ?_
  refine mv rfl rfl ?_
  refine b_F rfl rfl rfl rfl rfl rfl ?_
  refine b_F rfl rfl rfl rfl rfl rfl ?_
  refine b_F rfl rfl rfl rfl rfl rfl ?_
  refine bv rfl (v_pickF rfl rfl rfl) ?_
  refine mv rfl rfl ?_
  refine b_nil (hK _ ?_)
  clear hK K
  exact to_le (s' := ⟨[(0, HV.bool false)], []⟩) (AS.le_of ⟨rfl, trivial⟩ trivial) ⟨false, (), h, rfl⟩
 have h := ifF hg30 h
 refine b_F rfl rfl rfl rfl rfl (decide_eq_false hg30) ?_
 refine b_F rfl rfl rfl rfl rfl rfl ?_
 refine b_F rfl rfl rfl rfl rfl rfl ?_
 refine bv rfl (v_pickF rfl rfl rfl) ?_
 refine mv rfl rfl ?_
 refine b_F rfl rfl rfl rfl rfl rfl ?_
 refine b_F rfl rfl rfl rfl rfl rfl ?_
 refine b_F rfl rfl rfl rfl rfl rfl ?_
 refine bv rfl (v_pickF rfl rfl rfl) ?_
 refine mv rfl rfl ?_
 refine b_F rfl rfl rfl rfl rfl rfl ?_
 refine b_F rfl rfl rfl rfl rfl rfl ?_
 refine bv rfl (v_pickF rfl rfl rfl) ?_
 refine mv rfl rfl ?_
 refine b_F rfl rfl rfl rfl rfl rfl ?_
 refine b_F rfl rfl rfl rfl rfl rfl ?_
 refine b_F rfl rfl rfl rfl rfl rfl ?_
 refine bv rfl (v_pickF rfl rfl rfl) ?_
 refine mv rfl rfl ?_
 refine b_nil (hK _ ?_)
 clear hK K
 exact to_le (s' := ⟨[(0, HV.bool false)], []⟩) (AS.le_of ⟨rfl, trivial⟩ trivial) ⟨false, (), h, rfl⟩

end Go.AW



/- Models, printed by lk.py. -/
namespace Go.AW
open Go
set_option linter.unusedVariables false
end Go.AW

/- Models, printed by lk.py. -/
namespace Go.AW
open Go
set_option linter.unusedVariables false
end Go.AW

/- Models, printed by lk.py. -/
namespace Go.AW
open Go
set_option linter.unusedVariables false
end Go.AW

/- Models, printed by lk.py. -/
namespace Go.AW
open Go
set_option linter.unusedVariables false
end Go.AW

/- The letters that can follow in a set of states. -/
namespace Go.AW
open Go
end Go.AW

/- Models, printed by lk.py. -/
namespace Go.AW
open Go
set_option linter.unusedVariables false
end Go.AW

/- Models, printed by lk.py. -/
namespace Go.AW
open Go
set_option linter.unusedVariables false
end Go.AW

/- Entries of a map that a predicate names are deleted. -/
namespace Go.AW
open Go
end Go.AW

/- Models, printed by lk.py. -/
namespace Go.AW
open Go
set_option linter.unusedVariables false
end Go.AW

/- Models, printed by lk.py. -/
namespace Go.AW
open Go
set_option linter.unusedVariables false
noncomputable def m_ref31_Great (p0 : TWordsMerges) : Option (Bool) :=
 jp (fun (a1 : Bool) =>
   if a1 = true then
    some true
   else
    lpO (loopW (S := Int) (X := Ou (Unit) (Bool)) (fun a4 =>
        if a4 < ((p0.1).length : Int) then
         jp (fun (a8 : Bool) =>
           if a8 = true then
            some (Stp.exit (Ou.ret true))
           else
            some (Stp.next (IntKind.wrap .i64 (a4 + 1))))
           fun k10 =>
          (idx p0.1 a4).bind fun x11 =>
          if 8 < ((x11).length : Int) then
           (idx p0.1 a4).bind fun x13 =>
           if ((x13).length : Int) ≤ 16 then
            k10 true
           else
            (idx p0.1 a4).bind fun x15 =>
            k10 (decide (20 < ((x15).length : Int)))
          else
           (idx p0.1 a4).bind fun x18 =>
           k10 (decide (20 < ((x18).length : Int)))
        else
         some (Stp.exit (Ou.go ()))) 0) (fun a21 =>
        lpO (loopW (S := Int) (X := Ou (Unit) (Bool)) (fun a23 =>
            if a23 < ((p0.2).length : Int) then
             jp (fun (a27 : Bool) =>
               if a27 = true then
                some (Stp.exit (Ou.ret true))
               else
                some (Stp.next (IntKind.wrap .i64 (a23 + 1))))
               fun k29 =>
              (idx p0.2 a23).bind fun x30 =>
              if 8 < ((x30).length : Int) then
               (idx p0.2 a23).bind fun x32 =>
               if ((x32).length : Int) ≤ 16 then
                k29 true
               else
                (idx p0.2 a23).bind fun x34 =>
                k29 (decide (20 < ((x34).length : Int)))
              else
               (idx p0.2 a23).bind fun x37 =>
               k29 (decide (20 < ((x37).length : Int)))
            else
             some (Stp.exit (Ou.go ()))) 0) (fun a40 =>
            some false) some) some)
   fun k3 =>
  if 6 < ((p0.1).length : Int) then
   if ((p0.1).length : Int) ≤ 256 then
    k3 true
   else
    if 8 < ((p0.2).length : Int) then
     if ((p0.2).length : Int) ≤ 256 then
      k3 true
     else
      if 259 < ((p0.1).length : Int) then
       k3 true
      else
       k3 (decide (259 < ((p0.2).length : Int)))
    else
     if 259 < ((p0.1).length : Int) then
      k3 true
     else
      k3 (decide (259 < ((p0.2).length : Int)))
  else
   if 8 < ((p0.2).length : Int) then
    if ((p0.2).length : Int) ≤ 256 then
     k3 true
    else
     if 259 < ((p0.1).length : Int) then
      k3 true
     else
      k3 (decide (259 < ((p0.2).length : Int)))
   else
    if 259 < ((p0.1).length : Int) then
     k3 true
    else
     k3 (decide (259 < ((p0.2).length : Int)))

noncomputable def m_law31_great (p0 : TWordsMerges) (p1 : TLabelsStatesEdges) : Option (Bool) :=
 jp (fun (a1 : Bool) =>
   some a1)
   fun k3 =>
  (m_ref31_Great p0).bind fun x4 =>
  if x4 = true then
   k3 true
  else
   (m_ref11_Great p1).bind fun x6 =>
   k3 x6

noncomputable def m_law31_valid (p0 : TWordsMerges) (p1 : TLabelsStatesEdges) : Option (Bool) :=
 jp (fun (a1 : Bool) =>
   some a1)
   fun k3 =>
  (m_law31_great p0 p1).bind fun x4 =>
  if (!x4) = true then
   (m_merging_Check p0 p1).bind fun x6 =>
   if x6 = 0 then
    if 0 < ((p0.1).length : Int) then
     k3 (decide (0 < ((p0.2).length : Int)))
    else
     k3 false
   else
    k3 false
  else
   k3 false

noncomputable def m_law31_list (p0 : TWordsMerges) (p1 : List (Int)) : Option ((List (Int))) :=
 if 0 ≤ (0 : Int) ∧ (0 : Int) ≤ min ((p1).length : Int) 8 ∧ min ((p1).length : Int) 8 ≤ (p1.length : Int) then
  (loopW (S := Int × (List Int)) (X := (List Int)) (fun a2 =>
      if a2.1 < (((p1.take (min ((p1).length : Int) 8).toNat).drop (0 : Int).toNat).length : Int) then
       (idx ((p1.take (min ((p1).length : Int) 8).toNat).drop (0 : Int).toNat) a2.1).bind fun x6 =>
       if ((p0.1).length : Int) ≠ 0 then
        if fits 8 ((a2.2 : List Int).length + ([Int.tmod (IntKind.wrap .i64 x6) ((p0.1).length : Int)]).length) then
         some (Stp.next (IntKind.wrap .i64 (a2.1 + 1), a2.2 ++ [Int.tmod (IntKind.wrap .i64 x6) ((p0.1).length : Int)]))
        else none
       else none
      else
       some (Stp.exit a2.2)) (0, ([] : List Int))).bind fun a12 =>
  some a12
 else none

noncomputable def m_runs_charges (p0 : List UInt8) : Option ((List (Int))) :=
 (loopW (S := Int × (List Int)) (X := (List Int)) (fun a2 =>
     if a2.1 < ((p0).length : Int) then
      (idx p0 a2.1).bind fun x6 =>
      jp (fun (a8 : Int) =>
        (idx a2.2 a2.1).bind fun x11 =>
        (idx a2.2 a2.1).bind fun x13 =>
        if fits 8 ((a2.2 : List Int).length + ([IntKind.wrap .i64 (x13 + a8)]).length) then
         some (Stp.next (IntKind.wrap .i64 (a2.1 + 1), a2.2 ++ [IntKind.wrap .i64 (x13 + a8)]))
        else none)
        fun k10 =>
       if (x6.toNat : Int) = 49 then
        k10 1
       else
        k10 (-1)
     else
      some (Stp.exit a2.2)) (0, [0])).bind fun a17 =>
 some a17

noncomputable def m_runs_Charges (p0 : List UInt8) : Option ((List (Int)) × Int) :=
 (m_word_Check 2 p0).bind fun x1 =>
 if x1 ≠ 0 then
  some ([], x1)
 else
  (m_runs_charges p0).bind fun x3 =>
  some (x3, 0)

noncomputable def m_slices_Min_Lint_int (p0 : List (Int)) : Option (Int) :=
 if ((p0).length : Int) < 1 then
  none
 else
  (idx p0 0).bind fun x1 =>
  (loopW (S := Int × Int) (X := Int) (fun a3 =>
      if a3.2 < ((p0).length : Int) then
       (idx p0 a3.2).bind fun x7 =>
       some (Stp.next (min a3.1 x7, IntKind.wrap .i64 (a3.2 + 1)))
      else
       some (Stp.exit a3.1)) (x1, 1)).bind fun a9 =>
  some a9

noncomputable def m_slices_Max_Lint_int (p0 : List (Int)) : Option (Int) :=
 if ((p0).length : Int) < 1 then
  none
 else
  (idx p0 0).bind fun x1 =>
  (loopW (S := Int × Int) (X := Int) (fun a3 =>
      if a3.2 < ((p0).length : Int) then
       (idx p0 a3.2).bind fun x7 =>
       some (Stp.next (max a3.1 x7, IntKind.wrap .i64 (a3.2 + 1)))
      else
       some (Stp.exit a3.1)) (x1, 1)).bind fun a9 =>
  some a9

noncomputable def m_runs_Range (p0 : List UInt8) : Option (Int × Int × Int) :=
 (m_runs_Charges p0).bind fun x1 =>
 if x1.2 ≠ 0 then
  some (0, 0, x1.2)
 else
  (m_slices_Min_Lint_int x1.1).bind fun x3 =>
  (m_slices_Max_Lint_int x1.1).bind fun x5 =>
  some (x3, x5, 0)

noncomputable def m_merging_Charge (p0 : TWordsMerges) (p1 : TLabelsStatesEdges) (p2 : List (Int)) : Option (Int × Int × Int) :=
 (m_merging_Encode p0 p1 p2).bind fun x1 =>
 if x1.2 ≠ 0 then
  some (0, 0, x1.2)
 else
  (m_runs_Range x1.1).bind fun x3 =>
  some (x3.1, x3.2.1, x3.2.2)

noncomputable def m_law31_MergingCharges (p0 : TWordsMerges) (p1 : TLabelsStatesEdges) (p2 : List (Int)) : Option (Bool) :=
 (m_law31_valid p0 p1).bind fun x1 =>
 if (!x1) = true then
  (m_law31_awake).bind fun x3 =>
  some x3
 else
  (m_law31_list p0 p2).bind fun x5 =>
  (m_merging_Encode p0 p1 x5).bind fun x7 =>
  (m_merging_Charge p0 p1 x5).bind fun x9 =>
  if x7.2 ≠ 0 then
   jp (fun (a11 : Bool) =>
     some a11)
     fun k13 =>
    if x9.2.2 = x7.2 then
     if x9.1 = 0 then
      if x9.2.1 = 0 then
       (m_law31_awake).bind fun x14 =>
       k13 x14
      else
       k13 false
     else
      k13 false
    else
     k13 false
  else
   (m_runs_Charges x7.1).bind fun x19 =>
   jp (fun (a21 : Bool) =>
     some a21)
     fun k23 =>
    if x9.2.2 = 0 then
     if x19.2 = 0 then
      if ((x19.1).length : Int) = (IntKind.wrap .i64 (((x7.1).length : Int) + 1)) then
       (m_slices_Min_Lint_int x19.1).bind fun x24 =>
       if x9.1 = x24 then
        (m_slices_Max_Lint_int x19.1).bind fun x26 =>
        if x9.2.1 = x26 then
         (m_law31_awake).bind fun x28 =>
         k23 x28
        else
         k23 false
       else
        k23 false
      else
       k23 false
     else
      k23 false
    else
     k23 false

end Go.AW

/- What the functions of graphs compute: checks, steps, sets of states. -/
namespace Go.AW
open Go
set_option linter.unusedSimpArgs false
set_option linter.unusedVariables false

theorem loopW_eq {S X : Type} (body : S → Option (Stp S X)) (s : S) : loopW body s = match body s with
    | none => none
    | some (.exit x) => some x
    | some (.next s') => loopW body s' := by
  cases h : body s with
  | none => exact loopW_stuck h
  | some r => cases r with
    | exit x => exact loopW_exit h
    | next s' => exact loopW_next h

abbrev Gr := TLabelsStatesEdges
abbrev Ed := TFromLabelTo

def cmp3 (x y : Ed) : Int := if x.1 < y.1 then -1 else if y.1 < x.1 then 1 else if x.2.1 < y.2.1 then -1 else if y.2.1 < x.2.1 then 1 else if x.2.2 < y.2.2 then -1 else if y.2.2 < x.2.2 then 1 else 0

theorem cmpC (a b : Int) : m_cmp_Compare_int a b = some (if a < b then -1 else if b < a then 1 else 0) := by
  unfold m_cmp_Compare_int m_cmp_isNaN_int
  simp only [ne_eq, not_true_eq_false, decide_false, Option.bind_some, Bool.false_eq_true, if_false]
  split <;> (try rfl)
  split <;> rfl

theorem wr0 : IntKind.wrap .i64 (0 + 1) = 1 := by decide
theorem wr1 : IntKind.wrap .i64 (1 + 1) = 2 := by decide
theorem wr2 : IntKind.wrap .i64 (2 + 1) = 3 := by decide

theorem ix3_0 (a b c : Int) : idx [a, b, c] 0 = some a := rfl
theorem ix3_1 (a b c : Int) : idx [a, b, c] 1 = some b := rfl
theorem ix3_2 (a b c : Int) : idx [a, b, c] 2 = some c := rfl
theorem len3 (a b c : Int) : (([a, b, c] : List Int).length : Int) = 3 := rfl

theorem by1_eq (x y : Ed) : m_graph_by_api_Edge_1 x y = some (cmp3 x y) := by
  unfold m_graph_by_api_Edge_1 m_graph_list m_slices_Compare_Lint_int cmp3
  simp only [Option.bind_some, len3]
  rw [loopW_eq]
  simp only [ix3_0, cmpC, Option.bind_some, wr0]
  by_cases a1 : x.1 < y.1
  · simp [a1, lpO]
  by_cases a2 : y.1 < x.1
  · simp [a1, a2, lpO]
  simp only [a1, a2, if_false, ne_eq, not_true_eq_false, if_true, Int.reduceLT, Int.reduceLE]
  rw [loopW_eq]
  simp only [ix3_1, cmpC, Option.bind_some, wr1]
  by_cases b1 : x.2.1 < y.2.1
  · simp [b1, lpO]
  by_cases b2 : y.2.1 < x.2.1
  · simp [b1, b2, lpO]
  simp only [b1, b2, if_false, ne_eq, not_true_eq_false, if_true, Int.reduceLT, Int.reduceLE]
  rw [loopW_eq]
  simp only [ix3_2, cmpC, Option.bind_some, wr2]
  by_cases c1 : x.2.2 < y.2.2
  · simp [c1, lpO]
  by_cases c2 : y.2.2 < x.2.2
  · simp [c1, c2, lpO]
  simp only [c1, c2, if_false, ne_eq, not_true_eq_false, if_true, Int.reduceLT, Int.reduceLE]
  rw [loopW_eq]
  simp [lpO]

theorem cmp_eq (x y : Ed) : m_ref09_Compare x y = some (cmp3 x y) := by
  unfold m_ref09_Compare cmp3
  rw [loopW_eq]
  simp only [ix3_0, Option.bind_some, wr0]
  by_cases a1 : x.1 < y.1
  · simp [a1, lpO]
  by_cases a2 : y.1 < x.1
  · simp [a1, a2, lpO]
  simp only [a1, a2, if_false, if_true, Int.reduceLT]
  rw [loopW_eq]
  simp only [ix3_1, Option.bind_some, wr1]
  by_cases b1 : x.2.1 < y.2.1
  · simp [b1, lpO]
  by_cases b2 : y.2.1 < x.2.1
  · simp [b1, b2, lpO]
  simp only [b1, b2, if_false, if_true, Int.reduceLT]
  rw [loopW_eq]
  simp only [ix3_2, Option.bind_some, wr2]
  by_cases c1 : x.2.2 < y.2.2
  · simp [c1, lpO]
  by_cases c2 : y.2.2 < x.2.2
  · simp [c1, c2, lpO]
  simp only [c1, c2, if_false, if_true, Int.reduceLT]
  rw [loopW_eq]
  simp [lpO]

theorem Check_ref (g : Gr) : m_graph_Check g = m_ref09_Check g := by
  unfold m_graph_Check m_ref09_Check
  have key : ∀ (x : Ed) (k : Bool → Option (Stp Int (Ou Unit Int))), (if (min (min x.1 x.2.1) x.2.2) < 0 then k true else if g.2.1 ≤ (max x.1 x.2.2) then k true else k (decide (g.1 ≤ x.2.1))) =
      (if x.1 < 0 then k true else if g.2.1 ≤ x.1 then k true else if x.2.2 < 0 then k true else if g.2.1 ≤ x.2.2 then k true else if x.2.1 < 0 then k true else k (decide (g.1 ≤ x.2.1))) := by
    intro x k
    by_cases h1 : x.1 < 0
    · rw [if_pos (by omega), if_pos h1]
    by_cases h2 : g.2.1 ≤ x.1
    · rw [if_neg h1, if_pos h2]
      split
      · rfl
      · rw [if_pos (by omega)]
    by_cases h3 : x.2.2 < 0
    · rw [if_neg h1, if_neg h2, if_pos h3, if_pos (by omega)]
    by_cases h4 : g.2.1 ≤ x.2.2
    · rw [if_neg h1, if_neg h2, if_neg h3, if_pos h4]
      split
      · rfl
      · rw [if_pos (by omega)]
    by_cases h5 : x.2.1 < 0
    · rw [if_neg h1, if_neg h2, if_neg h3, if_neg h4, if_pos h5, if_pos (by omega)]
    · rw [if_neg h1, if_neg h2, if_neg h3, if_neg h4, if_neg h5, if_neg (by omega), if_neg (by omega)]
  simp only [by1_eq, cmp_eq, key]

structure VG (g : Gr) : Prop where
  l1 : 1 ≤ g.1
  l2 : g.1 ≤ 256
  s0 : 0 ≤ g.2.1
  s1 : g.2.1 ≤ 64
  el : g.2.2.length ≤ 1024
  ed : ∀ x ∈ g.2.2, 0 ≤ x.1 ∧ x.1 < g.2.1 ∧ 0 ≤ x.2.2 ∧ x.2.2 < g.2.1 ∧ 0 ≤ x.2.1 ∧ x.2.1 < g.1
  ord : ∀ (i : Nat) (h : i + 1 < g.2.2.length), cmp3 (g.2.2[i]'(by omega)) g.2.2[i + 1] < 0

theorem ix_pred {α : Type} {l : List α} {i : Nat} (h : i < l.length) (hm : l.length ≤ 9223372036854775807) (h0 : 0 < i) : idx l (IntKind.wrap .i64 ((i : Int) - 1)) = some (l[i - 1]'(by omega)) := by
  rw [w64 (by omega) (by omega), show ((i : Int) - 1) = ((i - 1 : Nat) : Int) by omega]
  exact ix (by omega)

theorem lpO_ex {V R Y : Type} {o : Option (Ou V R)} {M : V → Option Y} {Rt : R → Option Y} {C : Y → Prop} (Q : Ou V R → Prop) (h : ∃ x, o = some x ∧ Q x) (k : ∀ x, Q x → ∃ e, lpO (some x) M Rt = some e ∧ C e) : ∃ e, lpO o M Rt = some e ∧ C e := by
  obtain ⟨x, rfl, hq⟩ := h
  exact k x hq

theorem Check_tot (g : Gr) : ∃ e, m_ref09_Check g = some e ∧ (e = 0 ↔ VG g) := by
  unfold m_ref09_Check
  simp only [jp]
  by_cases h1 : g.1 < 1
  · exact ⟨12, by simp [h1], by simp; intro v; have := v.l1; omega⟩
  by_cases h2 : 256 < g.1
  · exact ⟨12, by simp [h1, h2], by simp; intro v; have := v.l2; omega⟩
  by_cases h3 : g.2.1 < 0
  · exact ⟨2, by simp [h1, h2, h3], by simp; intro v; have := v.s0; omega⟩
  by_cases h4 : 64 < g.2.1
  · exact ⟨4, by simp [h1, h2, h3, h4], by simp; intro v; have := v.s1; omega⟩
  by_cases h5 : 1024 < (g.2.2.length : Int)
  · exact ⟨4, by simp [h1, h2, h3, h4, h5], by simp; intro v; have := v.el; omega⟩
  simp only [h1, h2, h3, h4, h5, if_false, decide_false, Bool.false_eq_true, cmp_eq, Option.bind_some, if_true]
  refine lpO_ex (fun x => (x = .ret 2 ∧ ¬ VG g) ∨ (x = .ret 10 ∧ ¬ VG g) ∨ (x = .go () ∧ VG g)) ?_ ?_
  · refine loopN g.2.2.length (fun i s => s = (i : Int) ∧ (∀ (j : Nat) (h : j < i) (hj : j < g.2.2.length), 0 ≤ g.2.2[j].1 ∧ g.2.2[j].1 < g.2.1 ∧ 0 ≤ g.2.2[j].2.2 ∧ g.2.2[j].2.2 < g.2.1 ∧ 0 ≤ g.2.2[j].2.1 ∧ g.2.2[j].2.1 < g.1) ∧
        ∀ (j : Nat) (h : j + 1 < i) (hj : j + 1 < g.2.2.length), cmp3 (g.2.2[j]'(by omega)) g.2.2[j + 1] < 0) ?_ ?_ 0 _ (Nat.zero_le _) ⟨rfl, fun _ h => by omega, fun _ h => by omega⟩
    · rintro i s hi ⟨rfl, he, ho⟩
      rw [if_pos (lt_int hi), ix hi]
      simp only [Option.bind_some]
      by_cases hg : 0 ≤ g.2.2[i].1 ∧ g.2.2[i].1 < g.2.1 ∧ 0 ≤ g.2.2[i].2.2 ∧ g.2.2[i].2.2 < g.2.1 ∧ 0 ≤ g.2.2[i].2.1 ∧ g.2.2[i].2.1 < g.1
      · obtain ⟨e1, e2, e3, e4, e5, e6⟩ := hg
        rw [if_neg (by omega), if_neg (by omega), if_neg (by omega), if_neg (by omega), if_neg (by omega)]
        have hd : decide (g.1 ≤ g.2.2[i].2.1) = false := decide_eq_false (by omega)
        rw [hd]
        simp only [Bool.false_eq_true, if_false]
        have he' : ∀ (j : Nat) (h : j < i + 1) (hj : j < g.2.2.length), 0 ≤ g.2.2[j].1 ∧ g.2.2[j].1 < g.2.1 ∧ 0 ≤ g.2.2[j].2.2 ∧ g.2.2[j].2.2 < g.2.1 ∧ 0 ≤ g.2.2[j].2.1 ∧ g.2.2[j].2.1 < g.1 := by
          intro j hj hjl
          by_cases hji : j = i
          · subst hji; exact ⟨e1, e2, e3, e4, e5, e6⟩
          · exact he j (by omega) hjl
        by_cases h0 : 0 < i
        · rw [if_pos (by omega), ix_pred hi (by omega) h0]
          simp only [Option.bind_some]
          by_cases hc : 0 ≤ cmp3 (g.2.2[i - 1]'(by omega)) g.2.2[i]
          · refine .inr ⟨.ret 10, by rw [if_pos (decide_eq_true hc)], .inr (.inl ⟨rfl, fun v => ?_⟩)⟩
            have := v.ord (i - 1) (by omega)
            simp only [show i - 1 + 1 = i by omega] at this
            omega
          · refine .inl ⟨_, by rw [if_neg (by simpa using hc)], by rw [nx (by omega : g.2.2.length ≤ _) hi], he', fun j hj hjl => ?_⟩
            by_cases hji : j + 1 = i
            · have hj' : j = i - 1 := by omega
              subst hj'
              simp only [show i - 1 + 1 = i by omega]
              omega
            · exact ho j (by omega) hjl
        · refine .inl ⟨_, by rw [if_neg (by omega)], by rw [nx (by omega : g.2.2.length ≤ _) hi], he', fun j hj hjl => by omega⟩
      · have hv : ¬ VG g := fun v => hg (v.ed _ (List.getElem_mem hi))
        refine .inr ⟨.ret 2, ?_, .inl ⟨rfl, hv⟩⟩
        by_cases e1 : g.2.2[i].1 < 0
        · rw [if_pos e1]
        rw [if_neg e1]
        by_cases e2 : g.2.1 ≤ g.2.2[i].1
        · rw [if_pos e2]
        rw [if_neg e2]
        by_cases e3 : g.2.2[i].2.2 < 0
        · rw [if_pos e3]
        rw [if_neg e3]
        by_cases e4 : g.2.1 ≤ g.2.2[i].2.2
        · rw [if_pos e4]
        rw [if_neg e4]
        by_cases e5 : g.2.2[i].2.1 < 0
        · rw [if_pos e5]
        rw [if_neg e5, if_pos (decide_eq_true (by omega))]
    · rintro s ⟨rfl, he, ho⟩
      rw [if_neg (not_lt_int _)]
      refine ⟨_, rfl, .inr (.inr ⟨rfl, ⟨by omega, by omega, by omega, by omega, by omega, fun x hx => ?_, fun i h => ho i h h⟩⟩)⟩
      obtain ⟨j, hj, rfl⟩ := List.getElem_of_mem hx
      exact he j hj hj
  · rintro x (⟨rfl, hv⟩ | ⟨rfl, hv⟩ | ⟨rfl, hv⟩)
    · exact ⟨2, rfl, by simp [hv]⟩
    · exact ⟨10, rfl, by simp [hv]⟩
    · exact ⟨0, rfl, by simp [hv]⟩
end Go.AW

/- A step of a set of states, in the program and in the reference. -/
namespace Go.AW
open Go
set_option linter.unusedSimpArgs false
set_option linter.unusedVariables false

theorem asc_uniq {l m : List Int} (hl : l.Pairwise (· < ·)) (hm : m.Pairwise (· < ·)) (h : ∀ x, x ∈ l ↔ x ∈ m) : l = m := by
  have nl : l.Nodup := hl.imp fun h => Int.ne_of_lt h
  have nm : m.Nodup := hm.imp fun h => Int.ne_of_lt h
  have hp : l.Perm m := (List.perm_ext_iff_of_nodup nl nm).2 h
  exact hp.eq_of_pairwise (fun a b _ _ h1 h2 => by omega) hl hm

theorem sortI_mem {l : List Int} {x : Int} : x ∈ sortI l ↔ x ∈ l := (List.mergeSort_perm l _).mem_iff
theorem sortI_asc (l : List Int) : (sortI l).Pairwise (· ≤ ·) := by
  have := List.pairwise_mergeSort (le := fun x y : Int => decide (x ≤ y)) (fun a b c h1 h2 => by simp at *; omega) (fun a b => by simp; omega) l
  exact this.imp fun h => by simpa using h

theorem keeps_iff (d : Array Int) (j : Nat) : Lib.keeps d j = true ↔ j = 0 ∨ d[j]! ≠ d[j - 1]! := by
  simp [Lib.keeps]

theorem compact_asc {l : List Int} (h : l.Pairwise (· ≤ ·)) : (compact_ l).Pairwise (· < ·) := by
  show (Lib.compactUpTo l.toArray l.length).Pairwise (· < ·)
  unfold Lib.compactUpTo
  rw [List.pairwise_map]
  refine List.Pairwise.imp_of_mem ?_ ((List.pairwise_lt_range (n := l.length)).filter _)
  intro i j hi hj hij
  have hi' := List.mem_range.1 (List.mem_filter.1 hi).1
  have hj' := List.mem_range.1 (List.mem_filter.1 hj).1
  have hk := (keeps_iff _ _).1 (List.mem_filter.1 hj).2
  have e1 : l.toArray[i]! = l[i] := by simp [hi']
  have e2 : l.toArray[j]! = l[j] := by simp [hj']
  have e3 : l.toArray[j - 1]! = l[j - 1]'(by omega) := by simp [show j - 1 < l.length by omega]
  rw [e2, e3] at hk
  rw [e1, e2]
  have hp := List.pairwise_iff_getElem.1 h
  have h1 : l[i] ≤ l[j - 1]'(by omega) := by
    by_cases hie : i = j - 1
    · subst hie; exact Int.le_refl _
    · exact hp i (j - 1) hi' (by omega) (by omega)
  have h2 : l[j - 1]'(by omega) ≤ l[j] := hp (j - 1) j (by omega) hj' (by omega)
  omega

theorem compact_has {l : List Int} {x : Int} (h : x ∈ l) : x ∈ compact_ l := by
  show x ∈ Lib.compactUpTo l.toArray l.length
  unfold Lib.compactUpTo
  obtain ⟨i, hi, rfl⟩ := List.getElem_of_mem h
  obtain ⟨j, ⟨hjl, hj⟩, hmin⟩ := least (fun j => ∃ h : j < l.length, l[j] = l[i]) ⟨i, hi, rfl⟩
  refine List.mem_map.2 ⟨j, List.mem_filter.2 ⟨List.mem_range.2 hjl, (keeps_iff _ _).2 ?_⟩, by simp [hjl, hj]⟩
  by_cases h0 : j = 0
  · exact .inl h0
  · right
    intro he
    have e2 : l.toArray[j]! = l[j] := by simp [hjl]
    have e3 : l.toArray[j - 1]! = l[j - 1]'(by omega) := by simp [show j - 1 < l.length by omega]
    rw [e2, e3] at he
    have := hmin (j - 1) ⟨by omega, by rw [← he, hj]⟩
    omega

theorem compact_sort_mem {l : List Int} {x : Int} : x ∈ compact_ (sortI l) ↔ x ∈ l := ⟨fun h => sortI_mem.1 (compact_mem h), fun h => compact_has (sortI_mem.2 h)⟩

def SetOk (g : Gr) (a : List Int) : Prop := a.Pairwise (· < ·) ∧ ∀ x ∈ a, 0 ≤ x ∧ x < g.2.1

def upto (n : Int) : List Int := (List.range n.toNat).map Int.ofNat
theorem mem_upto {n x : Int} : x ∈ upto n ↔ 0 ≤ x ∧ x < n := by
  simp only [upto, List.mem_map, List.mem_range]
  constructor
  · rintro ⟨i, hi, rfl⟩; simp only [Int.ofNat_eq_natCast]; omega
  · rintro ⟨h0, h1⟩; exact ⟨x.toNat, by omega, by simp only [Int.ofNat_eq_natCast]; omega⟩
theorem upto_asc (n : Int) : (upto n).Pairwise (· < ·) := by
  rw [upto, List.pairwise_map]
  exact (List.pairwise_lt_range (n := n.toNat)).imp fun h => by simp only [Int.ofNat_eq_natCast]; omega
theorem upto_len (n : Int) : (upto n).length = n.toNat := by simp [upto]

def stepL (g : Gr) (a : List Int) (c : Int) : List Int := (upto g.2.1).filter fun t => g.2.2.any fun e => decide (e.2.2 = t ∧ e.2.1 = c ∧ e.1 ∈ a)
theorem mem_stepL {g : Gr} (hv : VG g) {a : List Int} {c t : Int} : t ∈ stepL g a c ↔ ∃ e ∈ g.2.2, e.2.2 = t ∧ e.2.1 = c ∧ e.1 ∈ a := by
  simp only [stepL, List.mem_filter, List.any_eq_true, decide_eq_true_eq, mem_upto]
  constructor
  · rintro ⟨_, h⟩; exact h
  · rintro ⟨e, he, h1, h2, h3⟩
    have := hv.ed e he
    exact ⟨by omega, e, he, h1, h2, h3⟩
theorem stepL_ok (g : Gr) (a : List Int) (c : Int) : SetOk g (stepL g a c) :=
  ⟨(upto_asc _).filter _, fun x hx => mem_upto.1 (List.mem_filter.1 hx).1⟩
theorem upto_ok (g : Gr) : SetOk g (upto g.2.1) := ⟨upto_asc _, fun x hx => mem_upto.1 hx⟩

theorem setOk_len {g : Gr} {a : List Int} (hv : VG g) (h : SetOk g a) : a.length ≤ 64 := by
  have e : a = (upto g.2.1).filter fun x => decide (x ∈ a) := asc_uniq h.1 ((upto_asc _).filter _) fun x => by
    simp only [List.mem_filter, mem_upto, decide_eq_true_eq]
    exact ⟨fun hx => ⟨h.2 x hx, hx⟩, fun hx => hx.2⟩
  rw [e]
  refine Nat.le_trans (List.length_filter_le _ _) ?_
  rw [upto_len]
  have := hv.s1
  omega

theorem checkSet_ok {g : Gr} {a : List Int} (h : SetOk g a) (hm : a.length ≤ 9223372036854775807) : m_graph_checkSet g a = some 0 := by
  unfold m_graph_checkSet
  simp only [jp]
  refine lpL (loop_is (fun i => (i : Int)) a.length (Ou.go ()) (fun i hi => ?_) (by rw [if_neg (not_lt_int _)]) rfl) rfl
  obtain ⟨h0, h1⟩ := h.2 a[i] (List.getElem_mem hi)
  rw [if_pos (lt_int hi), ix hi]
  simp only [Option.bind_some]
  rw [if_neg (by omega)]
  have hd : decide (g.2.1 ≤ a[i]) = false := decide_eq_false (by omega)
  simp only [hd, Bool.false_eq_true, if_false]
  by_cases hz : 0 < i
  · have hlt := List.pairwise_iff_getElem.1 h.1 (i - 1) i (by omega) hi (by omega)
    rw [if_pos (by omega), ix_pred hi hm hz]
    simp only [Option.bind_some]
    have hd2 : decide (a[i] ≤ a[i - 1]'(by omega)) = false := decide_eq_false (by omega)
    simp only [hd2, Bool.false_eq_true, if_false, nx hm hi]
  · rw [if_neg (by omega)]
    simp only [Bool.false_eq_true, if_false, nx hm hi]

def outL (g : Gr) (s c : Int) : List Int := ((leaveL g.2.2 s).filter fun x => decide (x.2.2.1 = c)).map fun x => x.2.2.2
theorem mem_leaveL {es : List Ed} {s : Int} {x : Ed} : (∃ i, (i, x) ∈ leaveL es s) ↔ x ∈ es ∧ x.1 = s := by
  constructor
  · rintro ⟨i, h⟩
    obtain ⟨p, hp, he⟩ := List.mem_map.1 h
    obtain ⟨hp1, hp2⟩ := List.mem_filter.1 hp
    cases he
    exact ⟨List.fst_mem_of_mem_zipIdx hp1, of_decide_eq_true hp2⟩
  · rintro ⟨hm, hs⟩
    obtain ⟨k, hk, rfl⟩ := List.getElem_of_mem hm
    exact ⟨_, List.mem_map.2 ⟨(es[k], k), List.mem_filter.2 ⟨by rw [List.mem_zipIdx_iff_getElem?]; exact List.getElem?_eq_getElem hk, decide_eq_true hs⟩, rfl⟩⟩
theorem mem_outL {g : Gr} {s c t : Int} : t ∈ outL g s c ↔ ∃ e ∈ g.2.2, e.2.2 = t ∧ e.2.1 = c ∧ e.1 = s := by
  simp only [outL, List.mem_map, List.mem_filter, decide_eq_true_eq]
  constructor
  · rintro ⟨⟨i, x⟩, ⟨hm, hc⟩, rfl⟩
    obtain ⟨h1, h2⟩ := mem_leaveL.1 ⟨i, hm⟩
    exact ⟨x, h1, rfl, hc, h2⟩
  · rintro ⟨x, hx, rfl, hc, hs⟩
    obtain ⟨i, hi⟩ := mem_leaveL.2 ⟨hx, hs⟩
    exact ⟨(i, x), ⟨hi, hc⟩, rfl⟩
theorem outL_len (g : Gr) (s c : Int) : (outL g s c).length ≤ g.2.2.length := by
  simp only [outL, leaveL, List.length_map]
  refine Nat.le_trans (List.length_filter_le _ _) ?_
  rw [List.length_map]
  refine Nat.le_trans (List.length_filter_le _ _) ?_
  simp

theorem fold_out (c : Int) : ∀ (L : List (Int × Ed)) (acc : List Int), L.foldl (fun (a : List Int) (x : Int × Ed) => if x.2.2.1 = c then a ++ [x.2.2.2] else a) acc = acc ++ (L.filter fun x => decide (x.2.2.1 = c)).map fun x => x.2.2.2
  | [], acc => by simp
  | x :: L, acc => by
    rw [List.foldl_cons, fold_out c L]
    by_cases h : x.2.2.1 = c
    · rw [if_pos h, List.filter_cons_of_pos (by simpa using h)]; simp
    · rw [if_neg h, List.filter_cons_of_neg (by simpa using h)]

theorem forL_foldI {S α X : Type} {body : S → α → Option (Stp S X)} (f : S → α → S) (P : Nat → S → Prop) : ∀ (L : List α) (s : S) (k : Nat), (∀ i s x, i < L.length → x ∈ L → P (k + i) s → body s x = some (.next (f s x)) ∧ P (k + i + 1) (f s x)) → P k s → forL body L s = some (.go (L.foldl f s))
  | [], _, _, _, _ => rfl
  | x :: L, s, k, h, hs => by
    obtain ⟨h1, h2⟩ := h 0 s x (by simp) (List.mem_cons_self ..) hs
    simp only [forL, h1]
    exact forL_foldI f P L _ (k + 1) (fun i s y hi hy hP => by
      have e : k + 1 + i = k + (i + 1) := by omega
      rw [e] at hP ⊢
      exact h (i + 1) s y (by simp; omega) (List.mem_cons_of_mem _ hy) hP) h2

theorem fits_le {k n : Nat} (h : n * k ≤ 140737488355328) (h2 : n ≤ 1048576) : fits k n := ⟨h, by simp only [maxLen]; omega⟩

theorem Step_eq {g : Gr} (hv : VG g) {a : List Int} (ha : SetOk g a) {c : Int} (h0 : 0 ≤ c) (h1 : c < g.1) : m_graph_Step g a c = some (stepL g a c, 0) := by
  obtain ⟨e, he, hz⟩ := Check_tot g
  have he0 := hz.2 hv
  subst he0
  have hl := setOk_len hv ha
  have hel := hv.el
  unfold m_graph_Step
  rw [Check_ref, he, Option.bind_some, checkSet_ok ha (by omega)]
  simp only [ne_eq, not_true_eq_false, if_false, Option.bind_some, jp]
  rw [if_neg (by omega)]
  have hd : decide (g.1 ≤ c) = false := decide_eq_false (by omega)
  simp only [hd, Bool.false_eq_true, if_false]
  have hy : ∀ x, y_graph_leaving g x = some (leaveL g.2.2 x) := fun x => by unfold y_graph_leaving; rw [if_pos (by omega)]
  have hlen : ∀ i, i ≤ a.length → ((a.take i).flatMap fun s => outL g s c).length ≤ i * 1024 := by
    intro i
    induction i with
    | zero => intro _; simp
    | succ i ih =>
      intro hi
      have := ih (by omega)
      rw [List.take_add_one, List.getElem?_eq_getElem (by omega)]
      simp only [Option.toList_some, List.flatMap_append, List.flatMap_cons, List.flatMap_nil, List.append_nil, List.length_append]
      have h2 := outL_len g a[i] c
      omega
  refine bindL (loop_is (fun i => ((i : Int), (a.take i).flatMap fun s => outL g s c)) a.length (a.flatMap fun s => outL g s c) (fun i hi => ?_) ?_ (by simp)) ?_
  · dsimp only
    rw [if_pos (lt_int hi), ix hi]
    simp only [Option.bind_some, hy]
    have hb := hlen i (by omega)
    have hll : (leaveL g.2.2 a[i]).length ≤ 1024 := by
      simp only [leaveL, List.length_map]
      refine Nat.le_trans (List.length_filter_le _ _) ?_
      simp; omega
    rw [forL_foldI (fun (acc : List Int) (x : Int × Ed) => if x.2.2.1 = c then acc ++ [x.2.2.2] else acc) (fun k s => s.length ≤ i * 1024 + k) _ _ 0 (fun k s x hk hx hP => ?_) (Nat.le_trans hb (Nat.le_add_right _ _))]
    · simp only [lpO, nx (by omega : a.length ≤ _) hi, fold_out, Option.some.injEq, Stp.next.injEq, Prod.mk.injEq, true_and]
      rw [List.take_add_one, List.getElem?_eq_getElem hi]
      simp only [Option.toList_some, List.flatMap_append, List.flatMap_cons, List.flatMap_nil, List.append_nil]
      rfl
    · by_cases hc : x.2.2.1 = c
      · rw [if_pos hc, if_pos hc, if_pos (fits_le (by simp; omega) (by simp; omega))]
        exact ⟨rfl, by simp; omega⟩
      · rw [if_neg hc, if_neg hc]
        exact ⟨rfl, by omega⟩
  · dsimp only
    rw [if_neg (not_lt_int _), List.take_length]
  · have hb := hlen a.length (Nat.le_refl _)
    rw [List.take_length] at hb
    rw [if_pos (by omega)]
    congr 2
    refine asc_uniq (compact_asc (sortI_asc _)) (stepL_ok g a c).1 fun x => ?_
    rw [compact_sort_mem, mem_stepL hv]
    simp only [List.mem_flatMap, mem_outL]
    constructor
    · rintro ⟨s, hs, e, he, h1, h2, rfl⟩; exact ⟨e, he, h1, h2, hs⟩
    · rintro ⟨e, he, h1, h2, hs⟩; exact ⟨_, hs, e, he, h1, h2, rfl⟩
end Go.AW

/- The words of a graph: the reference's lists, and the program's. -/
namespace Go.AW
open Go
set_option linter.unusedSimpArgs false
set_option linter.unusedVariables false

theorem states_eq {g : Gr} (hv : VG g) : m_language_states g = some (upto g.2.1) := by
  have hs1 := hv.s1
  obtain ⟨m, hm⟩ := Int.eq_ofNat_of_zero_le hv.s0
  unfold m_language_states
  rw [if_pos (by omega)]
  simp only [hm, Int.toNat_natCast, List.length_replicate]
  refine bindL (loop_is (fun i => ((i : Int), (List.range i).map Int.ofNat ++ List.replicate (m - i) (0 : Int))) m (upto m) (fun i hi => ?_) ?_ (by simp)) rfl
  · dsimp only
    have hlen : ((List.range i).map Int.ofNat ++ List.replicate (m - i) (0 : Int)).length = m := by simp; omega
    rw [if_pos (lt_int hi), ix (by omega)]
    simp only [Option.bind_some, nx (by omega : m ≤ _) hi, Int.toNat_natCast]
    congr 3
    rw [List.set_append_right _ _ (by simp), List.range_succ, List.map_append]
    have e : m - i = (m - (i + 1)) + 1 := by omega
    simp only [List.length_map, List.length_range, Nat.sub_self, e, List.replicate_succ, List.set_cons_zero]
    simp
  · dsimp only
    rw [if_neg (not_lt_int _)]
    simp [upto]
end Go.AW

/- The words of a length: the program's list, the reference's list, and their order. -/
namespace Go.AW
open Go
set_option linter.unusedSimpArgs false
set_option linter.unusedVariables false

theorem idx_letter {i : Nat} (h : i < letters.length) : Lib.indexByte letters letters[i] = (i : Int) := by
  have : ∀ j : Fin 16, Lib.indexByte letters (letters[j.1]'j.2) = (j.1 : Int) := by decide
  exact this ⟨i, h⟩
theorem byte_back (c : UInt8) : ((c.toNat : Int).toNat.toUInt8) = c := by simp

def lets (g : Gr) : List UInt8 := letters.take g.1.toNat

section
variable {g : Gr}
theorem lstep_eq (hv : VG g) {a : List Int} (ha : SetOk g a) {i : Nat} (h : i < letters.length) (hi : (i : Int) < g.1) : m_language_step g a ((letters[i]).toNat : Int) = some (stepL g a i) := by
  unfold m_language_step m_strings_IndexByte
  simp only [byte_back, Option.bind_some]
  have e : Lib.indexByte [48, 49, 50, 51, 52, 53, 54, 55, 56, 57, 97, 98, 99, 100, 101, 102] letters[i] = (i : Int) := idx_letter h
  rw [e, Step_eq hv ha (by omega) hi]
  rfl
theorem mem_lets {c : UInt8} (h : c ∈ letters.take g.1.toNat) : ∃ (i : Nat) (hi : i < letters.length), (i : Int) < g.1 ∧ letters[i] = c := by
  obtain ⟨i, hi, rfl⟩ := List.mem_take_iff_getElem.1 h
  have h1 : i < g.1.toNat := by omega
  exact ⟨i, by omega, by omega, rfl⟩
/-! ### order -/
/-! ### Words -/
end
end Go.AW

/- Reading words in graphs: ends of words, and the law of factors. -/
namespace Go.AW
open Go
set_option linter.unusedSimpArgs false
set_option linter.unusedVariables false

def lab (c : UInt8) : Int := Lib.indexByte letters c

theorem idxB_neg : ∀ {l : List UInt8} {c : UInt8}, Lib.indexByte l c < 0 ↔ c ∉ l
  | [], c => by simp [Lib.indexByte]
  | b :: l, c => by
    have h := @idxB_neg l c
    have hg := Lib.indexByte_ge l c
    simp only [Lib.indexByte, List.mem_cons, not_or]
    by_cases e : b = c
    · subst e; simp
    · have e1 : (b == c) = false := by simpa using e
      simp only [e1, Bool.false_eq_true, if_false]
      by_cases e2 : Lib.indexByte l c = -1
      · have := h.1 (by omega)
        simp only [e2, beq_self_eq_true, if_true]
        exact ⟨fun _ => ⟨fun e' => e e'.symm, this⟩, fun _ => by decide⟩
      · have e3 : (Lib.indexByte l c == -1) = false := by simpa using e2
        simp only [e3, Bool.false_eq_true, if_false]
        exact ⟨fun h' => by omega, fun h' => by have := h.2 h'.2; omega⟩

theorem known_eq (L : Int) : m_word_known L = some (decide (1 ≤ L ∧ L ≤ 16)) := by
  unfold m_word_known
  simp only [jp]
  by_cases h1 : 1 ≤ L
  · rw [if_pos h1]; simp [h1]
  · rw [if_neg h1]; simp [h1]

theorem wcheck (L : Int) (w : List UInt8) : ∃ e, m_word_Check L w = some e ∧ (e = 0 ↔ (1 ≤ L ∧ L ≤ 16) ∧ w.length ≤ 65536 ∧ ∀ c ∈ w, c ∈ letters.take L.toNat) := by
  unfold m_word_Check
  rw [known_eq]
  simp only [Option.bind_some]
  by_cases h1 : 1 ≤ L ∧ L ≤ 16
  case neg =>
    rw [if_pos (by rw [decide_eq_false h1]; rfl)]
    exact ⟨12, rfl, by simp [h1]⟩
  rw [if_neg (by rw [decide_eq_true h1]; decide)]
  by_cases h2 : 65536 < (w.length : Int)
  · rw [if_pos h2]
    exact ⟨4, rfl, by simp; omega⟩
  rw [if_neg h2]
  have hx : ∀ c : UInt8, m_strings_IndexByte ((([48, 49, 50, 51, 52, 53, 54, 55, 56, 57, 97, 98, 99, 100, 101, 102] : List UInt8).take L.toNat).drop (0 : Int).toNat) (c.toNat : Int) = some (Lib.indexByte (letters.take L.toNat) c) := fun c => by
    unfold m_strings_IndexByte
    rw [byte_back]
    rfl
  have hl := loop_any (body := fun a3 => if a3 < ((w).length : Int) then
            if 0 ≤ (0 : Int) ∧ (0 : Int) ≤ L ∧ L ≤ (([48, 49, 50, 51, 52, 53, 54, 55, 56, 57, 97, 98, 99, 100, 101, 102] : List UInt8).length : Int) then
              (idx w a3).bind fun x8 =>
              (m_strings_IndexByte ((([48, 49, 50, 51, 52, 53, 54, 55, 56, 57, 97, 98, 99, 100, 101, 102] : List UInt8).take (L).toNat).drop (0 : Int).toNat) (x8.toNat : Int)).bind fun x10 =>
              if x10 < 0 then
                some (Stp.exit (Ou.ret 13))
              else
                some (Stp.next (IntKind.wrap .i64 (a3 + 1)))
            else none
          else
            some (Stp.exit (Ou.go ()))) (fun i => (i : Int)) w.length (fun i => decide (Lib.indexByte (letters.take L.toNat) (w.getD i 0) < 0)) (Ou.ret (13 : Int)) (Ou.go ()) (fun i hi => by
      have e1 : w.getD i 0 = w[i] := by simp [List.getD, hi]
      rw [if_pos (lt_int hi), if_pos ⟨by decide, by omega, by show L ≤ (16 : Int); omega⟩, ix hi]
      simp only [Option.bind_some, hx, nx (by omega : w.length ≤ _) hi, e1, decide_eq_true_eq]) (by rw [if_neg (not_lt_int _)]) (s0 := (0 : Int)) rfl
  rw [hl]
  by_cases hw : ∀ c ∈ w, c ∈ letters.take L.toNat
  · rw [if_neg]
    · exact ⟨0, rfl, by simp only [true_iff]; exact ⟨h1, by omega, hw⟩⟩
    · intro ha
      obtain ⟨i, hi, hp⟩ := List.any_eq_true.1 ha
      have hi := List.mem_range.1 hi
      have e1 : w.getD i 0 = w[i] := by simp [List.getD, hi]
      rw [e1] at hp
      exact idxB_neg.1 (of_decide_eq_true hp) (hw _ (List.getElem_mem hi))
  · rw [if_pos]
    · exact ⟨13, rfl, by simp only [show ¬ (13 : Int) = 0 by decide, false_iff]; exact fun h => hw h.2.2⟩
    · apply Classical.byContradiction
      intro hno
      refine hw fun c hc => ?_
      obtain ⟨i, hi, rfl⟩ := List.getElem_of_mem hc
      apply Classical.byContradiction
      intro hn
      refine hno (List.any_eq_true.2 ⟨i, List.mem_range.2 hi, ?_⟩)
      have e1 : w.getD i 0 = w[i] := by simp [List.getD, hi]
      rw [e1]
      exact decide_eq_true (idxB_neg.2 hn)

theorem lcheck_tot (g : Gr) : ∃ e, m_language_check g = some e ∧ (e = 0 ↔ VG g ∧ g.1 ≤ 16) := by
  obtain ⟨e, he, hz⟩ := Check_tot g
  unfold m_language_check
  rw [Check_ref, he]
  simp only [Option.bind_some]
  by_cases h0 : e = 0
  · rw [if_neg (by omega)]
    by_cases h1 : 16 < g.1
    · rw [if_pos h1]; exact ⟨12, rfl, by simp; intro _; omega⟩
    · rw [if_neg h1]; exact ⟨0, rfl, by simp only [true_iff]; exact ⟨hz.1 h0, by omega⟩⟩
  · rw [if_pos h0]
    exact ⟨1, rfl, by simp; intro hv; exact absurd (hz.2 hv) h0⟩

def WOk (g : Gr) (w : List UInt8) : Prop := w.length ≤ 65536 ∧ ∀ c ∈ w, c ∈ lets g

theorem spells_tot (g : Gr) (w : List UInt8) : ∃ e, m_language_spells g w = some e ∧ (e = 0 ↔ VG g ∧ g.1 ≤ 16 ∧ WOk g w) := by
  obtain ⟨e, he, hz⟩ := lcheck_tot g
  obtain ⟨f, hf, hy⟩ := wcheck g.1 w
  unfold m_language_spells
  rw [he]
  simp only [Option.bind_some, hf]
  by_cases h0 : e = 0
  · rw [if_neg (by omega)]
    obtain ⟨hv, h16⟩ := hz.1 h0
    exact ⟨f, rfl, hy.trans ⟨fun h => ⟨hv, h16, h.2⟩, fun h => ⟨⟨hv.l1, h16⟩, h.2.2⟩⟩⟩
  · rw [if_pos h0]
    exact ⟨e, rfl, ⟨fun h => absurd h h0, fun h => absurd (hz.2 ⟨h.1, h.2.1⟩) h0⟩⟩

section
variable {g : Gr}

theorem lab_mem {c : UInt8} (h : c ∈ lets g) : ∃ (i : Nat) (hi : i < letters.length), (i : Int) < g.1 ∧ letters[i] = c ∧ lab c = i := by
  obtain ⟨i, hi, hg, rfl⟩ := mem_lets h
  exact ⟨i, hi, hg, rfl, idx_letter hi⟩
theorem step_lab (hv : VG g) {a : List Int} (ha : SetOk g a) {c : UInt8} (hc : c ∈ lets g) : m_language_step g a (c.toNat : Int) = some (stepL g a (lab c)) := by
  obtain ⟨i, hi, hg, rfl, e⟩ := lab_mem hc
  rw [e]
  exact lstep_eq hv ha hi hg

def endsL (g : Gr) (a : List Int) (w : List UInt8) : List Int := w.foldl (fun a c => stepL g a (lab c)) a
theorem endsL_cons (a : List Int) (c : UInt8) (w : List UInt8) : endsL g a (c :: w) = endsL g (stepL g a (lab c)) w := rfl
theorem endsL_app (a : List Int) (u v : List UInt8) : endsL g a (u ++ v) = endsL g (endsL g a u) v := List.foldl_append ..
theorem stepL_nil (c : Int) : stepL g [] c = [] := by simp [stepL]
theorem endsL_nil : ∀ w : List UInt8, endsL g [] w = []
  | [] => rfl
  | c :: w => by rw [endsL_cons, stepL_nil, endsL_nil w]
theorem endsL_ok {a : List Int} (ha : SetOk g a) : ∀ w, SetOk g (endsL g a w) := fun w => by
  induction w generalizing a with
  | nil => exact ha
  | cons c w ih => exact ih (stepL_ok g a _)
theorem ends_eq (hv : VG g) {a : List Int} (ha : SetOk g a) {w : List UInt8} (hw : WOk g w) : m_language_ends g a w = some (endsL g a w) := by
  obtain ⟨hl, hc⟩ := hw
  unfold m_language_ends
  have hx : ∃ x, loopW (S := (List Int) × Int) (X := (List Int)) (fun a1 =>
      jp (fun (a5 : Bool) =>
        if a5 = true then
          (idx w a1.2).bind fun x8 =>
          (m_language_step g a1.1 (x8.toNat : Int)).bind fun x10 =>
          some (Stp.next (x10, IntKind.wrap .i64 (a1.2 + 1)))
        else
          some (Stp.exit a1.1))
        fun k7 =>
        if a1.2 < ((w).length : Int) then
          k7 (decide (0 < ((a1.1).length : Int)))
        else
          k7 false) (a, 0) = some x ∧ x = endsL g a w := by
    refine loopN w.length (fun i s => s = (endsL g a (w.take i), (i : Int))) ?_ ?_ 0 _ (Nat.zero_le _) rfl
    · rintro i s hi rfl
      simp only [jp]
      rw [if_pos (lt_int hi)]
      by_cases h0 : endsL g a (w.take i) = []
      · rw [if_neg (by rw [h0]; simp)]
        refine .inr ⟨_, rfl, ?_⟩
        rw [h0]
        conv => rhs; rw [← List.take_append_drop i w, endsL_app, h0, endsL_nil]
      · have hpos := List.length_pos_iff.2 h0
        rw [if_pos (decide_eq_true (by omega)), ix hi]
        simp only [Option.bind_some]
        rw [step_lab hv (endsL_ok ha _) (hc _ (List.getElem_mem hi))]
        refine .inl ⟨_, rfl, ?_⟩
        rw [nx (by omega : w.length ≤ _) hi, List.take_add_one, List.getElem?_eq_getElem hi, endsL_app]
        rfl
    · rintro s rfl
      simp only [jp]
      rw [if_neg (not_lt_int _), if_neg (by simp)]
      exact ⟨_, rfl, by rw [List.take_length]⟩
  obtain ⟨x, hx, rfl⟩ := hx
  rw [hx]
  rfl

theorem Accepts_eq (hv : VG g) (h16 : g.1 ≤ 16) {w : List UInt8} (hw : WOk g w) : m_language_Accepts g w = some (decide (endsL g (upto g.2.1) w ≠ []), 0) := by
  obtain ⟨e, he, hz⟩ := spells_tot g w
  have h0 := hz.2 ⟨hv, h16, hw⟩
  subst h0
  unfold m_language_Accepts
  rw [he]
  simp only [Option.bind_some, ne_eq, not_true_eq_false, if_false, states_eq hv, ends_eq hv (upto_ok g) hw]
  congr 2
  by_cases h : endsL g (upto g.2.1) w = []
  · simp [h]
  · have := List.length_pos_iff.2 h
    simp [h, this]

end

theorem Great_tot (g : Gr) : ∃ b, m_ref11_Great g = some b ∧ (b = false → (g.2.1 ≤ 8 ∨ 64 < g.2.1) ∧ (g.2.2.length ≤ 30 ∨ 1024 < g.2.2.length) ∧ g.2.2.length ≤ 1027) := by
  unfold m_ref11_Great
  simp only [jp]
  by_cases h1 : 8 < g.2.1
  · rw [if_pos h1]
    by_cases h2 : g.2.1 ≤ 64
    · rw [if_pos h2]; exact ⟨true, rfl, by simp⟩
    rw [if_neg h2]
    by_cases h3 : 30 < (g.2.2.length : Int)
    · rw [if_pos h3]
      by_cases h4 : (g.2.2.length : Int) ≤ 1024
      · rw [if_pos h4]; exact ⟨true, rfl, by simp⟩
      · rw [if_neg h4]; exact ⟨_, rfl, by simp; omega⟩
    · rw [if_neg h3]; exact ⟨_, rfl, by simp; omega⟩
  · rw [if_neg h1]
    by_cases h3 : 30 < (g.2.2.length : Int)
    · rw [if_pos h3]
      by_cases h4 : (g.2.2.length : Int) ≤ 1024
      · rw [if_pos h4]; exact ⟨true, rfl, by simp⟩
      · rw [if_neg h4]; exact ⟨_, rfl, by simp; omega⟩
    · rw [if_neg h3]; exact ⟨_, rfl, by simp; omega⟩

theorem EqI_eq {a b : List Int} (hm : a.length ≤ 9223372036854775807) : m_slices_Equal_Lint_int a b = some (decide (a = b)) := by
  unfold m_slices_Equal_Lint_int
  by_cases hl : a.length = b.length
  · rw [if_neg (by omega)]
    refine lpL (loop_any (fun i => (i : Int)) a.length (fun i => decide (a.getD i 0 ≠ b.getD i 0)) (Ou.ret false) (Ou.go ()) (fun i hi => ?_) (by rw [if_neg (not_lt_int _)]) rfl) ?_
    · have hi' : i < b.length := by omega
      have e1 : a.getD i 0 = a[i] := by simp [List.getD, hi]
      have e2 : b.getD i 0 = b[i] := by simp [List.getD, hi']
      rw [if_pos (lt_int hi), ix hi, ix hi']
      simp only [Option.bind_some, nx hm hi, e1, e2, decide_eq_true_eq]
    · by_cases he : a = b
      · subst he
        rw [if_neg]
        · simp [lpO]
        · simp
      · rw [if_pos]
        · simp [lpO, he]
        · refine List.any_eq_true.2 ?_
          apply Classical.byContradiction
          intro hno
          refine he (List.ext_getElem hl fun i h1 h2 => ?_)
          apply Classical.byContradiction
          intro hne
          refine hno ⟨i, List.mem_range.2 h1, decide_eq_true ?_⟩
          rwa [show a.getD i 0 = a[i] by simp [List.getD, h1], show b.getD i 0 = b[i] by simp [List.getD, h2]]
  · rw [if_pos (by omega)]
    have : ¬ a = b := fun e => hl (by rw [e])
    simp [this]

theorem WOk.sub {g : Gr} {w u : List UInt8} (h : WOk g w) (hl : u.length ≤ w.length) (hs : ∀ c ∈ u, c ∈ w) : WOk g u := ⟨Nat.le_trans hl h.1, fun c hc => h.2 c (hs c hc)⟩

end Go.AW

/- The least path that is labelled with a word. -/
namespace Go.AW
open Go
set_option linter.unusedSimpArgs false
set_option linter.unusedVariables false

section
variable {g : Gr}

def canB (g : Gr) : List UInt8 → List Bool
  | [] => List.replicate g.2.1.toNat true
  | c :: w => (upto g.2.1).map fun s => g.2.2.any fun x => decide (x.1 = s ∧ x.2.1 = lab c) && (canB g w).getD x.2.2.toNat false
def okE (g : Gr) (w : List UInt8) (c : UInt8) (prev : Option Int) (x : Ed) : Bool := decide (x.2.1 = lab c) && (canB g w).getD x.2.2.toNat false && (match prev with
  | none => true
  | some s => decide (x.1 = s))
def pick (g : Gr) (w : List UInt8) (c : UInt8) (prev : Option Int) : Nat := g.2.2.findIdx (okE g w c prev)
end
end Go.AW

/- language.Path gives the least path. -/
namespace Go.AW
open Go
set_option linter.unusedSimpArgs false
set_option linter.unusedVariables false
section
variable {g : Gr}

end
end Go.AW

/- language.Path: the edges; the whole function. -/
namespace Go.AW
open Go
set_option linter.unusedSimpArgs false
set_option linter.unusedVariables false
section
variable {g : Gr}

end
end Go.AW

/- All words of a length. -/
namespace Go.AW
open Go
set_option linter.unusedSimpArgs false
set_option linter.unusedVariables false

section
variable {g : Gr}
end
end Go.AW

/- The first missing word. -/
namespace Go.AW
open Go
set_option linter.unusedSimpArgs false
set_option linter.unusedVariables false

section
variable {β : Type}
theorem mlook_put (k q : List UInt8) (v : β) : ∀ l : List (List UInt8 × β), mlook q (mputN k v l) = if q = k then some v else mlook q l
  | [] => by simp only [mputN, mlook]
  | (p, x) :: l => by
    simp only [mputN]
    by_cases h : k = p
    · rw [if_pos h]
      simp only [mlook]
      by_cases e : q = p
      · rw [if_pos e, if_pos (e.trans h.symm)]
      · rw [if_neg e, if_neg (fun e' => e (e'.trans h)), if_neg e]
    · rw [if_neg h]
      simp only [mlook]
      by_cases e : q = p
      · rw [if_pos e, if_neg (fun e' => h (e'.symm.trans e)), if_pos e]
      · rw [if_neg e, mlook_put k q v l, if_neg e]
end

section
variable {g : Gr}
end
end Go.AW

/- The words of a length, by reading; the anchor of chapter 11. -/
namespace Go.AW
open Go
set_option linter.unusedSimpArgs false
set_option linter.unusedVariables false

section
variable {g : Gr}
end

end Go.AW

/- The law of words. -/
namespace Go.AW
open Go
set_option linter.unusedSimpArgs false
set_option linter.unusedVariables false

section
variable {g : Gr}
end

end Go.AW

/- word.All; the law of words. -/
namespace Go.AW
open Go
set_option linter.unusedSimpArgs false
set_option linter.unusedVariables false

end Go.AW

/- The law of the first missing word. -/
namespace Go.AW
open Go
set_option linter.unusedSimpArgs false
set_option linter.unusedVariables false
section
variable {g : Gr}

end

end Go.AW

/- The law of letters. -/
namespace Go.AW
open Go
set_option linter.unusedSimpArgs false
set_option linter.unusedVariables false

end Go.AW

/- Reading words, in the program and in the reference. -/
namespace Go.AW
open Go
set_option linter.unusedSimpArgs false
set_option linter.unusedVariables false

section
variable {g : Gr}
end
end Go.AW

/- The law of paths. -/
namespace Go.AW
open Go
set_option linter.unusedSimpArgs false
set_option linter.unusedVariables false
section
variable {g : Gr}

end
end Go.AW

/- The letters that can follow, and the least path, in the reference; the law of reading. -/
namespace Go.AW
open Go
set_option linter.unusedSimpArgs false
set_option linter.unusedVariables false

section
variable {g : Gr}
end

end Go.AW

/- Lists of words from a state, between states, and the first missing word: the program and the reference agree. -/
namespace Go.AW
open Go
set_option linter.unusedSimpArgs false
set_option linter.unusedVariables false

section
variable {g : Gr}
end

end Go.AW

/- Merging codes: when a code is well-formed. -/
namespace Go.AW
open Go
set_option linter.unusedSimpArgs false
set_option linter.unusedVariables false
abbrev Jn := TWordsMerges

def fstN {X : Type} (p : Nat → Bool) (xr : Nat → X) (xf : X) : Nat → Nat → X
  | 0, _ => xf
  | d + 1, i => if p i = true then xr i else fstN p xr xf d (i + 1)
theorem loop_fst {S X : Type} {body : S → Option (Stp S X)} (st : Nat → S) (n : Nat) (p : Nat → Bool) (xr : Nat → X) (xf : X) (h : ∀ i, i < n → body (st i) = if p i = true then some (.exit (xr i)) else some (.next (st (i + 1)))) (hf : body (st n) = some (.exit xf)) {s0 : S} (hs0 : s0 = st 0) :
    loopW body s0 = some (fstN p xr xf n 0) := by
  subst hs0
  have : ∀ d i, i + d = n → loopW body (st i) = some (fstN p xr xf d i) := by
    intro d
    induction d with
    | zero =>
      intro i hi
      have e : i = n := by omega
      subst e
      rw [loopW_exit hf]
      rfl
    | succ d ih =>
      intro i hi
      have hb := h i (by omega)
      unfold fstN
      by_cases hp : p i = true
      · rw [if_pos hp] at hb ⊢
        rw [loopW_exit hb]
      · rw [if_neg hp] at hb ⊢
        rw [loopW_next hb]
        exact ih (i + 1) (by omega)
  exact this n 0 (by omega)
theorem fstN_cases {X : Type} (p : Nat → Bool) (xr : Nat → X) (xf : X) : ∀ d i, (∃ j, i ≤ j ∧ j < i + d ∧ p j = true ∧ (∀ k, i ≤ k → k < j → p k = false) ∧ fstN p xr xf d i = xr j) ∨ ((∀ j, i ≤ j → j < i + d → p j = false) ∧ fstN p xr xf d i = xf)
  | 0, i => .inr ⟨fun j h1 h2 => by omega, rfl⟩
  | d + 1, i => by
    unfold fstN
    by_cases hp : p i = true
    · rw [if_pos hp]
      exact .inl ⟨i, by omega, by omega, hp, fun k h1 h2 => by omega, rfl⟩
    · rw [if_neg hp]
      have hp' : p i = false := by simpa using hp
      rcases fstN_cases p xr xf d (i + 1) with ⟨j, h1, h2, h3, h4, h5⟩ | ⟨h1, h2⟩
      · refine .inl ⟨j, by omega, by omega, h3, fun k hk1 hk2 => ?_, h5⟩
        by_cases hk : k = i
        · subst hk; exact hp'
        · exact h4 k (by omega) hk2
      · refine .inr ⟨fun j hj1 hj2 => ?_, h2⟩
        by_cases hj : j = i
        · subst hj; exact hp'
        · exact h1 j (by omega) (by omega)
theorem fstN_any {α X : Type} (l : List α) (P : α → Bool) {p : Nat → Bool} (hp : ∀ i (h : i < l.length), p i = P l[i]) (xr xf : X) : fstN p (fun _ => xr) xf l.length 0 = if l.any P = true then xr else xf := by
  rcases fstN_cases p (fun _ => xr) xf l.length 0 with ⟨j, h1, h2, h3, h4, h5⟩ | ⟨h1, h2⟩
  · rw [h5, if_pos]
    rw [List.any_eq_true]
    exact ⟨l[j], List.getElem_mem (by omega), by rw [← hp j (by omega)]; exact h3⟩
  · rw [h2, if_neg]
    rw [List.any_eq_true]
    rintro ⟨x, hx, hP⟩
    obtain ⟨j, hj, rfl⟩ := List.getElem_of_mem hx
    rw [← hp j hj, h1 j (by omega) (by omega)] at hP
    cases hP
theorem loop_anyL {α S X : Type} {body : S → Option (Stp S X)} (st : Nat → S) (l : List α) (P : α → Bool) (xr xf : X) (h : ∀ i (hi : i < l.length), body (st i) = if P l[i] = true then some (.exit xr) else some (.next (st (i + 1)))) (hf : body (st l.length) = some (.exit xf)) {s0 : S} (hs0 : s0 = st 0) :
    loopW body s0 = some (if l.any P = true then xr else xf) := by
  rw [← fstN_any l P (p := fun i => if h : i < l.length then P l[i] else false) (fun i hi => by rw [dif_pos hi]) xr xf]
  exact loop_fst st l.length _ _ xf (fun i hi => by rw [h i hi, dif_pos hi]) hf hs0
theorem fstN_find {α X : Type} (l : List α) (P : α → Bool) {p : Nat → Bool} (hp : ∀ i (h : i < l.length), p i = P l[i]) (xr : Nat → X) (xf : X) : fstN p xr xf l.length 0 = if l.any P = true then xr (l.findIdx P) else xf := by
  rcases fstN_cases p xr xf l.length 0 with ⟨j, h1, h2, h3, h4, h5⟩ | ⟨h1, h2⟩
  · have hj : j < l.length := by omega
    have hf : l.findIdx P = j := by
      rw [List.findIdx_eq hj]
      exact ⟨by rw [← hp j hj]; exact h3, fun k hk => by rw [← hp k (by omega)]; exact h4 k (by omega) hk⟩
    rw [h5, if_pos, hf]
    rw [List.any_eq_true]
    exact ⟨l[j], List.getElem_mem hj, by rw [← hp j hj]; exact h3⟩
  · rw [h2, if_neg]
    rw [List.any_eq_true]
    rintro ⟨x, hx, hP⟩
    obtain ⟨j, hj, rfl⟩ := List.getElem_of_mem hx
    rw [← hp j hj, h1 j (by omega) (by omega)] at hP
    cases hP
theorem loop_findL {α S X : Type} {body : S → Option (Stp S X)} (st : Nat → S) (l : List α) (P : α → Bool) (xr : Nat → X) (xf : X) (h : ∀ i (hi : i < l.length), body (st i) = if P l[i] = true then some (.exit (xr i)) else some (.next (st (i + 1)))) (hf : body (st l.length) = some (.exit xf)) {s0 : S} (hs0 : s0 = st 0) :
    loopW body s0 = some (if l.any P = true then xr (l.findIdx P) else xf) := by
  rw [← fstN_find l P (p := fun i => if h : i < l.length then P l[i] else false) (fun i hi => by rw [dif_pos hi]) xr xf]
  exact loop_fst st l.length _ _ xf (fun i hi => by rw [h i hi, dif_pos hi]) hf hs0

theorem lpE {V R Y : Type} {o : Option (Ou V R)} {x : Ou V R} {M : V → Option Y} {Rt : R → Option Y} {r : Option Y} (h : o = some x) (hr : lpO (some x) M Rt = r) : lpO o M Rt = r := by rw [h]; exact hr

def firstI {α : Type} (l : List α) (P : α → Bool) : Int := if l.any P = true then (l.findIdx P : Nat) else -1
theorem firstI_nn {α : Type} {l : List α} {P : α → Bool} : 0 ≤ firstI l P ↔ l.any P = true := by
  unfold firstI
  split <;> simp_all
theorem IndexFuncS {l : List (List UInt8)} {p : List UInt8 → Option Bool} (P : List UInt8 → Bool) (hm : l.length ≤ 9223372036854775807) (hp : ∀ x ∈ l, p x = some (P x)) : m_slices_IndexFunc_Lstring_stringG l p = some (firstI l P) := by
  unfold m_slices_IndexFunc_Lstring_stringG
  refine lpE (loop_findL (fun i => (i : Int)) l P (fun i => Ou.ret (i : Int)) (Ou.go ()) (fun i hi => ?_) (by rw [if_neg (not_lt_int _)]) rfl) ?_
  · rw [if_pos (lt_int hi), ix hi]
    simp only [Option.bind_some, hp _ (List.getElem_mem hi), nx hm hi]
  · unfold firstI
    split <;> rfl
theorem ContainsFuncS {l : List (List UInt8)} {p : List UInt8 → Option Bool} (P : List UInt8 → Bool) (hm : l.length ≤ 9223372036854775807) (hp : ∀ x ∈ l, p x = some (P x)) : m_slices_ContainsFunc_Lstring_stringG l p = some (l.any P) := by
  unfold m_slices_ContainsFunc_Lstring_stringG
  rw [IndexFuncS P hm hp]
  simp only [Option.bind_some, firstI_nn, Bool.decide_eq_true]

def fstLen (l : List (List UInt8)) : Nat := (l.headD []).length
def unev (l : List (List UInt8)) : Bool := l.any fun w => decide (w.length ≠ fstLen l)
def bitB (c : UInt8) : Bool := c == 48 || c == 49
def lett (l : List (List UInt8)) : Bool := l.any fun w => w.any fun c => !bitB c
def rept (l : List (List UInt8)) : Bool := !decide l.Nodup
theorem idx0 {l : List (List UInt8)} (h : l ≠ []) : idx l 0 = some (l.headD []) := by
  cases l with
  | nil => exact absurd rfl h
  | cons a l => rfl
theorem hdl (l : List (List UInt8)) : (l.headD []).length = fstLen l := rfl
def Sm (l : List (List UInt8)) : Prop := l.length ≤ 9223372036854775807 ∧ ∀ w ∈ l, w.length ≤ 4611686018427387904

theorem uneven_eq {l : List (List UInt8)} (h : l ≠ []) (hs : Sm l) : m_merging_uneven l = some (unev l) := by
  unfold m_merging_uneven
  rw [ContainsFuncS (fun w => decide (w.length ≠ fstLen l)) hs.1 fun w hw => ?_]
  · rfl
  · unfold m_merging_uneven_1
    rw [idx0 h]
    simp only [Option.bind_some, hdl]
    congr 1
    exact decide_eq_decide.2 (by omega)
theorem count2 : ∀ w : List UInt8, w.count 48 + w.count 49 ≤ w.length ∧ (w.count 48 + w.count 49 = w.length ↔ ∀ c ∈ w, bitB c = true)
  | [] => by simp
  | c :: w => by
    obtain ⟨h1, h2⟩ := count2 w
    by_cases h48 : c = 48
    · subst h48
      simp [bitB] at h2 ⊢
      refine ⟨by omega, ?_⟩
      rw [← h2]; omega
    · by_cases h49 : c = 49
      · subst h49
        simp [bitB] at h2 ⊢
        refine ⟨by omega, ?_⟩
        rw [← h2]; omega
      · have e1 : (c :: w).count 48 = w.count 48 := by simp [List.count_cons, h48]
        have e2 : (c :: w).count 49 = w.count 49 := by simp [List.count_cons, h49]
        rw [e1, e2, List.length_cons]
        refine ⟨by omega, ⟨fun h => by omega, fun h => ?_⟩⟩
        have := h c (List.mem_cons_self ..)
        simp [bitB, h48, h49] at this
theorem letters_eq {l : List (List UInt8)} (hs : Sm l) : m_merging_letters l = some (lett l) := by
  unfold m_merging_letters
  rw [ContainsFuncS (fun w => w.any fun c => !bitB c) hs.1 fun w hw => ?_]
  · rfl
  · unfold m_merging_letters_1
    have hl := hs.2 w hw
    obtain ⟨h1, h2⟩ := count2 w
    simp only [m_strings_Count, Option.bind_some, Lib.countByte]
    congr 1
    have e : IntKind.wrap .i64 (((w.count 48 : Nat) : Int) + ((w.count 49 : Nat) : Int)) = ((w.count 48 + w.count 49 : Nat) : Int) := by
      rw [w64 (by omega) (by omega)]; omega
    rw [e]
    by_cases hc : w.count 48 + w.count 49 = w.length
    · have := h2.1 hc
      rw [decide_eq_false (by omega), eq_comm]
      rw [Bool.eq_false_iff]
      intro ha
      obtain ⟨c, hc', hb⟩ := List.any_eq_true.1 ha
      rw [this c hc'] at hb
      cases hb
    · rw [decide_eq_true (by omega), eq_comm, List.any_eq_true]
      refine Classical.byContradiction fun hn => hc (h2.2 fun c hc' => Classical.byContradiction fun hb => hn ⟨c, hc', by simpa using hb⟩)
theorem nodup_iff {α : Type} {l : List α} : l.Nodup ↔ ∀ i (h : i < l.length), l[i] ∉ l.take i := by
  rw [List.nodup_iff_pairwise_ne, List.pairwise_iff_getElem]
  constructor
  · intro h i hi hm
    obtain ⟨j, hj, e⟩ := List.getElem_of_mem hm
    rw [List.length_take] at hj
    rw [List.getElem_take] at e
    exact h j i (by omega) hi (by omega) e
  · intro h i j hi hj hij e
    refine h j hj ?_
    rw [← e]
    have hq : i < (l.take j).length := by rw [List.length_take]; omega
    have := List.getElem_mem hq
    rwa [List.getElem_take] at this
theorem rept_any {l : List (List UInt8)} {p : Nat → Bool} (hp : ∀ i (h : i < l.length), p i = decide (l[i] ∈ l.take i)) {X : Type} (xr xf : X) : fstN p (fun _ => xr) xf l.length 0 = if rept l = true then xr else xf := by
  rcases fstN_cases p (fun _ => xr) xf l.length 0 with ⟨j, h1, h2, h3, h4, h5⟩ | ⟨h1, h2⟩
  · rw [h5, if_pos]
    have hj : j < l.length := by omega
    rw [hp j hj, decide_eq_true_eq] at h3
    simp only [rept, Bool.not_eq_true', decide_eq_false_iff_not, nodup_iff]
    exact fun hn => hn j hj h3
  · rw [h2, if_neg]
    simp only [rept, Bool.not_eq_true', decide_eq_false_iff_not, nodup_iff, Classical.not_not]
    intro i hi hm
    have := h1 i (by omega) (by omega)
    rw [hp i hi] at this
    exact of_decide_eq_false this hm
def seenM (l : List (List UInt8)) (i : Nat) : List (List UInt8 × Bool) := (l.take i).foldl (fun m w => mputN w true m) []
theorem seenM_succ {l : List (List UInt8)} {i : Nat} (hi : i < l.length) : seenM l (i + 1) = mputN l[i] true (seenM l i) := by
  unfold seenM
  rw [← List.take_append_getElem hi, List.foldl_append]
  rfl
theorem seenM_look {l : List (List UInt8)} (q : List UInt8) : ∀ i, i ≤ l.length → (mlook q (seenM l i)).getD false = decide (q ∈ l.take i) := by
  intro i
  induction i with
  | zero => intro _; simp [seenM, mlook]
  | succ i ih =>
    intro hi
    have hi' : i < l.length := by omega
    have e2 : (q ∈ l.take (i + 1)) ↔ q ∈ l.take i ∨ q = l[i] := by rw [← List.take_append_getElem hi', List.mem_append, List.mem_singleton]
    rw [seenM_succ hi', mlook_put]
    by_cases e : q = l[i]
    · rw [if_pos e, decide_eq_true (e2.2 (.inr e))]; rfl
    · rw [if_neg e, ih (by omega)]; simp [e2, e]
theorem repeats_eq {l : List (List UInt8)} (hs : Sm l) : m_merging_repeats l = some (rept l) := by
  unfold m_merging_repeats
  refine lpE (loop_fst (fun i => ((i : Int), seenM l i)) l.length (fun i => if h : i < l.length then decide (l[i] ∈ l.take i) else false) (fun _ => Ou.ret true) (Ou.go ()) (fun i hi => ?_) (by simp only; rw [if_neg (not_lt_int _)]) rfl) ?_
  · simp only
    rw [if_pos (lt_int hi), ix hi]
    simp only [Option.bind_some, dif_pos hi, seenM_look l[i] i (Nat.le_of_lt hi), nx hs.1 hi, seenM_succ hi]
  · rw [rept_any (fun i hi => by rw [dif_pos hi])]
    split
    · rename_i h; rw [h]; rfl
    · rename_i h; rw [Bool.not_eq_true] at h; rw [h]; rfl
def formE (j : Jn) : Int :=
  if j.1 = [] ∨ j.2 = [] then 5 else if 256 < j.1.length ∨ 256 < j.2.length then 4 else if unev j.1 = true ∨ unev j.2 = true then 11
  else if fstLen j.1 < 1 ∨ 16 < fstLen j.1 ∨ 16 < fstLen j.2 then 2 else if lett j.1 = true ∨ lett j.2 = true then 13 else if rept j.1 = true ∨ rept j.2 = true then 7 else 0
def SmJ (j : Jn) : Prop := Sm j.1 ∧ Sm j.2

theorem i256 (n : Nat) : (256 < (n : Int)) ↔ 256 < n := by omega
theorem i16 (n : Nat) : (16 < (n : Int)) ↔ 16 < n := by omega
theorem i1 (n : Nat) : ((n : Int) < 1) ↔ n < 1 := by omega
theorem form_eq {j : Jn} (hs : SmJ j) : m_merging_form j = some (formE j) := by
  obtain ⟨h1, h2⟩ := hs
  unfold m_merging_form formE
  simp only [jp]
  by_cases e1 : j.1 = []
  · simp [e1]
  by_cases e2 : j.2 = []
  · simp [e1, e2]
  have l1 : ¬ (j.1.length : Int) = 0 := by have := List.length_pos_iff.2 e1; omega
  have l2 : ¬ (j.2.length : Int) = 0 := by have := List.length_pos_iff.2 e2; omega
  rw [if_neg l1, decide_eq_false l2, if_neg Bool.false_ne_true, uneven_eq e1 h1, uneven_eq e2 h2, letters_eq h1, letters_eq h2, repeats_eq h1, repeats_eq h2, idx0 e1, idx0 e2]
  simp only [Option.bind_some, hdl, i256, i16, i1, e1, e2, or_self, if_false]
  by_cases c1 : 256 < j.1.length
  · simp [c1]
  by_cases c2 : 256 < j.2.length
  · simp [c1, c2]
  by_cases u1 : unev j.1 = true
  · simp [c1, c2, u1]
  by_cases u2 : unev j.2 = true
  · simp [c1, c2, u1, u2]
  by_cases f1 : fstLen j.1 < 1
  · simp only [c1, c2, u1, u2, f1, decide_true, decide_false, if_true, if_false, Bool.false_eq_true, or_self, true_or, not_false_eq_true, Bool.not_true, Bool.not_false]
  by_cases f2 : 16 < fstLen j.1
  · simp only [c1, c2, u1, u2, f1, f2, decide_true, decide_false, if_true, if_false, Bool.false_eq_true, or_self, true_or, or_true, not_false_eq_true, Bool.not_true, Bool.not_false]
  by_cases f3 : 16 < fstLen j.2
  · simp only [c1, c2, u1, u2, f1, f2, f3, decide_true, decide_false, if_true, if_false, Bool.false_eq_true, or_self, true_or, or_true, not_false_eq_true, Bool.not_true, Bool.not_false]
  have b1 := Bool.eq_false_iff.2 u1
  have b2 := Bool.eq_false_iff.2 u2
  simp only [c1, c2, b1, b2, f1, f2, f3, decide_true, decide_false, if_true, if_false, Bool.false_eq_true, or_self, not_false_eq_true, Bool.not_true, Bool.not_false]
  cases lett j.1 <;> cases lett j.2 <;> cases rept j.1 <;> cases rept j.2 <;> rfl
end Go.AW

/- Merging codes: when a code is valid for a graph. -/
namespace Go.AW
open Go
set_option linter.unusedSimpArgs false
set_option linter.unusedVariables false

def inW (g : Gr) (w : List UInt8) : Bool := decide (endsL g (upto g.2.1) w ≠ [])
def bitW (w : List UInt8) : Prop := ∀ c ∈ w, bitB c = true
theorem bitW_app {u v : List UInt8} : bitW (u ++ v) ↔ bitW u ∧ bitW v := by
  constructor
  · exact fun h => ⟨fun c hc => h c (List.mem_append.2 (.inl hc)), fun c hc => h c (List.mem_append.2 (.inr hc))⟩
  · intro h c hc
    rcases List.mem_append.1 hc with hc | hc
    · exact h.1 c hc
    · exact h.2 c hc
theorem bit_lets {g : Gr} (h2 : g.1 = 2) {c : UInt8} (h : bitB c = true) : c ∈ lets g := by
  have e : lets g = [48, 49] := by simp only [lets, h2]; decide
  rw [e]
  simpa [bitB] using h
theorem WOk_bit {g : Gr} (h2 : g.1 = 2) {w : List UInt8} (hb : bitW w) (hl : w.length ≤ 65536) : WOk g w := ⟨hl, fun c hc => bit_lets h2 (hb c hc)⟩
section
variable {g : Gr}
theorem accepts_eq (hv : VG g) (h2 : g.1 = 2) {w : List UInt8} (hb : bitW w) (hl : w.length ≤ 65536) : m_merging_accepts g w = some (inW g w) := by
  unfold m_merging_accepts
  rw [Accepts_eq hv (by omega) (WOk_bit h2 hb hl)]
  rfl
structure FormOk (j : Jn) : Prop where
  ne1 : j.1 ≠ []
  ne2 : j.2 ≠ []
  l1 : j.1.length ≤ 256
  l2 : j.2.length ≤ 256
  n : ∀ w ∈ j.1, w.length = fstLen j.1
  r : ∀ w ∈ j.2, w.length = fstLen j.2
  n1 : 1 ≤ fstLen j.1
  n16 : fstLen j.1 ≤ 16
  r16 : fstLen j.2 ≤ 16
  b1 : ∀ w ∈ j.1, bitW w
  b2 : ∀ w ∈ j.2, bitW w
  d1 : j.1.Nodup
  d2 : j.2.Nodup
theorem unev_iff {l : List (List UInt8)} : unev l = true ↔ ¬ ∀ w ∈ l, w.length = fstLen l := by
  simp [unev]
theorem lett_iff {l : List (List UInt8)} : lett l = true ↔ ¬ ∀ w ∈ l, bitW w := by
  simp [lett, bitW]
theorem rept_iff {l : List (List UInt8)} : rept l = true ↔ ¬ l.Nodup := by
  simp [rept]
theorem formE_zero {j : Jn} (h : formE j = 0) : FormOk j := by
  unfold formE at h
  split at h
  · cases h
  rename_i h1
  split at h
  · cases h
  rename_i h2
  split at h
  · cases h
  rename_i h3
  split at h
  · cases h
  rename_i h4
  split at h
  · cases h
  rename_i h5
  split at h
  · cases h
  rename_i h6
  simp only [unev_iff, lett_iff, rept_iff, not_or, Classical.not_not] at h1 h2 h3 h4 h5 h6
  exact ⟨h1.1, h1.2, by omega, by omega, h3.1, h3.2, by omega, by omega, by omega, h5.1, h5.2, h6.1, h6.2⟩
theorem FormOk.sm {j : Jn} (h : FormOk j) : SmJ j := by
  have := h.l1; have := h.l2; have := h.n16; have := h.r16
  exact ⟨⟨by omega, fun w hw => by rw [h.n w hw]; omega⟩, ⟨by omega, fun w hw => by rw [h.r w hw]; omega⟩⟩

def joinsB (g : Gr) (ms : List (List UInt8)) (a b : List UInt8) : Bool := ms.any fun m => inW g (a ++ m ++ b)
theorem joins1_eq (hv : VG g) (h2 : g.1 = 2) {a m b : List UInt8} (ha : bitW a) (hm : bitW m) (hb : bitW b) (la : a.length ≤ 16) (lm : m.length ≤ 16) (lb : b.length ≤ 16) : m_merging_joins_1 m g a b = some (inW g (a ++ m ++ b)) := by
  unfold m_merging_joins_1
  rw [if_pos (by simp only [maxLen]; omega), if_pos (by simp only [maxLen, List.length_append]; omega), accepts_eq hv h2 (bitW_app.2 ⟨bitW_app.2 ⟨ha, hm⟩, hb⟩) (by simp only [List.length_append]; omega)]
  rfl
theorem joins_eq (hv : VG g) (h2 : g.1 = 2) {j : Jn} (hj : FormOk j) {a b : List UInt8} (ha : a ∈ j.1) (hb : b ∈ j.1) : m_merging_joins g j.2 a b = some (joinsB g j.2 a b) := by
  unfold m_merging_joins
  have := hj.l2
  rw [ContainsFuncS (fun m => inW g (a ++ m ++ b)) (by omega) fun m hm => joins1_eq hv h2 (hj.b1 a ha) (hj.b2 m hm) (hj.b1 b hb) (by rw [hj.n a ha]; exact hj.n16) (by rw [hj.r m hm]; exact hj.r16) (by rw [hj.n b hb]; exact hj.n16)]
  rfl
def badW (g : Gr) (j : Jn) : Bool := j.1.any fun w => !inW g w
def badP (g : Gr) (j : Jn) : Bool := j.1.any fun a => j.1.any fun b => !joinsB g j.2 a b
open Classical in
noncomputable def checkE (j : Jn) (g : Gr) : Int :=
  if ¬ VG g then 1 else if g.1 ≠ 2 then 12 else if formE j ≠ 0 then formE j else if badW g j = true then 13 else if badP g j = true then 15 else 0

theorem Check31_eq {j : Jn} (hs : SmJ j) : m_merging_Check j g = some (checkE j g) := by
  unfold m_merging_Check checkE
  rw [Check_ref]
  obtain ⟨e, he, hv⟩ := Check_tot g
  rw [he]
  simp only [Option.bind_some]
  by_cases h0 : e = 0
  · have hvg := hv.1 h0
    rw [if_neg (show ¬ (e ≠ 0) from fun h => h h0), if_neg (show ¬ ¬ VG g from fun h => h hvg)]
    by_cases h2 : g.1 = 2
    · rw [if_neg (show ¬ (g.1 ≠ 2) from fun h => h h2), if_neg (show ¬ (g.1 ≠ 2) from fun h => h h2), form_eq hs]
      simp only [Option.bind_some]
      by_cases hf : formE j = 0
      · rw [if_neg (show ¬ (formE j ≠ 0) from fun h => h hf), if_neg (show ¬ (formE j ≠ 0) from fun h => h hf)]
        have hj := formE_zero hf
        have h256 := hj.l1
        have hm : j.1.length ≤ 9223372036854775807 := by omega
        rw [ContainsFuncS (fun w => !inW g w) hm fun w hw => by
          unfold m_merging_Check_1
          rw [accepts_eq hvg h2 (hj.b1 w hw) (by rw [hj.n w hw]; have := hj.n16; omega)]
          rfl]
        simp only [Option.bind_some, show (j.1.any fun w => !inW g w) = badW g j from rfl]
        by_cases hw : badW g j = true
        · rw [if_pos hw, if_pos hw]
        · rw [if_neg hw, if_neg hw]
          refine lpE (loop_anyL (fun i => (i : Int)) j.1 (fun a => j.1.any fun b => !joinsB g j.2 a b) (Ou.ret 15) (Ou.go ()) (fun i hi => ?_) (by rw [if_neg (not_lt_int _)]) rfl) ?_
          · rw [if_pos (lt_int hi), ix hi]
            simp only [Option.bind_some]
            refine lpE (loop_anyL (fun k => (k : Int)) j.1 (fun b => !joinsB g j.2 j.1[i] b) (Ou.ret 15) (Ou.go ()) (fun k hk => ?_) (by rw [if_neg (not_lt_int _)]) rfl) ?_
            · rw [if_pos (lt_int hk), ix hk]
              simp only [Option.bind_some, joins_eq hvg h2 hj (List.getElem_mem hi) (List.getElem_mem hk), nx hm hk]
            · split
              · rename_i h; simp only [h, if_true, lpO]
              · rename_i h; simp only [h, if_false, lpO, nx hm hi, Bool.false_eq_true]
          · unfold badP
            split
            · rename_i h; simp only [lpO, h, if_true]
            · rename_i h; simp only [lpO, h, if_false, Bool.false_eq_true]
      · rw [if_pos (show formE j ≠ 0 from hf), if_pos (show formE j ≠ 0 from hf)]
    · rw [if_pos (show g.1 ≠ 2 from h2), if_pos (show g.1 ≠ 2 from h2)]
  · have hvg : ¬ VG g := fun h => h0 (hv.2 h)
    rw [if_pos (show e ≠ 0 from h0), if_pos (show ¬ VG g from hvg)]

structure VJ (j : Jn) (g : Gr) : Prop where
  hv : VG g
  h2 : g.1 = 2
  f : FormOk j
  w : ∀ x ∈ j.1, inW g x = true
  p : ∀ a ∈ j.1, ∀ b ∈ j.1, joinsB g j.2 a b = true
theorem checkE_zero {j : Jn} (h : checkE j g = 0) : VJ j g := by
  unfold checkE at h
  split at h
  · cases h
  rename_i h1
  split at h
  · cases h
  rename_i h2
  split at h
  · rename_i h3; exact absurd h h3
  rename_i h3
  split at h
  · cases h
  rename_i h4
  split at h
  · cases h
  rename_i h5
  simp only [Classical.not_not] at h1 h2 h3
  refine ⟨h1, h2, formE_zero h3, fun x hx => ?_, fun a ha b hb => ?_⟩
  · simp only [badW, List.any_eq_true, not_exists, not_and] at h4
    have := h4 x hx
    simpa using this
  · simp only [badP, List.any_eq_true, not_exists, not_and] at h5
    have := h5 a ha b hb
    simpa using this

theorem great_top (a b : Int) (L : Option Bool) : (if 6 < a then (if a ≤ 256 then (if True then some true else L) else (if 8 < b then (if b ≤ 256 then (if True then some true else L) else (if 259 < a then (if True then some true else L) else (if decide (259 < b) = true then some true else L))) else (if 259 < a then (if True then some true else L) else (if decide (259 < b) = true then some true else L))))
    else (if 8 < b then (if b ≤ 256 then (if True then some true else L) else (if 259 < a then (if True then some true else L) else (if decide (259 < b) = true then some true else L))) else (if 259 < a then (if True then some true else L) else (if decide (259 < b) = true then some true else L)))) = if (6 < a ∧ a ≤ 256) ∨ (8 < b ∧ b ≤ 256) ∨ 259 < a ∨ 259 < b then some true else L := by
  by_cases h1 : 6 < a <;> by_cases h2 : a ≤ 256 <;> by_cases h3 : 8 < b <;> by_cases h4 : b ≤ 256 <;> by_cases h5 : 259 < a <;> by_cases h6 : 259 < b <;>
    simp only [h1, h2, h3, h4, h5, h6, if_true, if_false, decide_true, decide_false, true_and, false_and, and_true, and_false, true_or, or_true, or_false, false_or, Bool.false_eq_true, not_false_eq_true, not_true_eq_false]
def bigW (w : List UInt8) : Bool := decide ((8 < w.length ∧ w.length ≤ 16) ∨ 20 < w.length)
theorem great_loop {l : List (List UInt8)} (hm : l.length ≤ 9223372036854775807) : loopW (S := Int) (X := Ou (Unit) (Bool)) (fun a4 =>
        if a4 < ((l).length : Int) then
         jp (fun (a8 : Bool) =>
           if a8 = true then
            some (Stp.exit (Ou.ret true))
           else
            some (Stp.next (IntKind.wrap .i64 (a4 + 1))))
           fun k10 =>
          (idx l a4).bind fun x11 =>
          if 8 < ((x11).length : Int) then
           (idx l a4).bind fun x13 =>
           if ((x13).length : Int) ≤ 16 then
            k10 true
           else
            (idx l a4).bind fun x15 =>
            k10 (decide (20 < ((x15).length : Int)))
          else
           (idx l a4).bind fun x18 =>
           k10 (decide (20 < ((x18).length : Int)))
        else
         some (Stp.exit (Ou.go ()))) 0 = some (if l.any bigW = true then Ou.ret true else Ou.go ()) := by
  refine loop_anyL (fun i => (i : Int)) l bigW (Ou.ret true) (Ou.go ()) (fun i hi => ?_) (by rw [if_neg (not_lt_int _)]) rfl
  rw [if_pos (lt_int hi), ix hi]
  simp only [jp, Option.bind_some, nx hm hi, bigW, decide_eq_true_eq]
  by_cases h1 : 8 < l[i].length
  · rw [if_pos (show (8 : Int) < (l[i].length : Int) by omega)]
    by_cases h2 : l[i].length ≤ 16
    · rw [if_pos (show (l[i].length : Int) ≤ 16 by omega), if_pos trivial, if_pos (.inl ⟨h1, h2⟩)]
    · rw [if_neg (show ¬ (l[i].length : Int) ≤ 16 by omega)]
      by_cases h3 : 20 < l[i].length
      · rw [if_pos (show (20 : Int) < (l[i].length : Int) by omega), if_pos (.inr h3)]
      · rw [if_neg (show ¬ (20 : Int) < (l[i].length : Int) by omega), if_neg (by omega)]
  · rw [if_neg (show ¬ (8 : Int) < (l[i].length : Int) by omega)]
    by_cases h3 : 20 < l[i].length
    · rw [if_pos (show (20 : Int) < (l[i].length : Int) by omega), if_pos (.inr h3)]
    · rw [if_neg (show ¬ (20 : Int) < (l[i].length : Int) by omega), if_neg (by omega)]
structure JSize (j : Jn) : Prop where
  sm : SmJ j
  w : j.1.length ≤ 6 ∨ 256 < j.1.length
  m : j.2.length ≤ 8 ∨ 256 < j.2.length
  lw : ∀ w ∈ j.1, w.length ≤ 8 ∨ 16 < w.length
  lm : ∀ w ∈ j.2, w.length ≤ 8 ∨ 16 < w.length
theorem bigW_no {l : List (List UInt8)} (h : ¬ l.any bigW = true) : ∀ w ∈ l, (w.length ≤ 8 ∨ 16 < w.length) ∧ w.length ≤ 20 := by
  intro w hw
  simp only [List.any_eq_true, not_exists, not_and, bigW, decide_eq_true_eq] at h
  have := h w hw
  omega
theorem GreatJ_tot (j : Jn) : ∃ b, m_ref31_Great j = some b ∧ (b = false → JSize j) := by
  unfold m_ref31_Great
  simp only [jp]
  rw [great_top]
  by_cases hc : (6 < (j.1.length : Int) ∧ (j.1.length : Int) ≤ 256) ∨ (8 < (j.2.length : Int) ∧ (j.2.length : Int) ≤ 256) ∨ 259 < (j.1.length : Int) ∨ 259 < (j.2.length : Int)
  · rw [if_pos hc]
    exact ⟨true, rfl, fun h => by cases h⟩
  · rw [if_neg hc]
    have e1 := great_loop (l := j.1) (by omega)
    have e2 := great_loop (l := j.2) (by omega)
    simp only [jp] at e1 e2
    rw [e1, e2]
    by_cases b1 : j.1.any bigW = true
    · rw [if_pos b1]
      exact ⟨true, rfl, fun h => by cases h⟩
    · rw [if_neg b1]
      simp only [lpO]
      by_cases b2 : j.2.any bigW = true
      · rw [if_pos b2]
        exact ⟨true, rfl, fun h => by cases h⟩
      · rw [if_neg b2]
        refine ⟨false, rfl, fun _ => ?_⟩
        have w1 := bigW_no b1
        have w2 := bigW_no b2
        exact ⟨⟨⟨by omega, fun w hw => by have := w1 w hw; omega⟩, ⟨by omega, fun w hw => by have := w2 w hw; omega⟩⟩, by omega, by omega, fun w hw => (w1 w hw).1, fun w hw => (w2 w hw).1⟩
theorem great31_tot (j : Jn) (g : Gr) : ∃ b, m_law31_great j g = some b ∧ (b = false → JSize j ∧ (g.2.1 ≤ 8 ∨ 64 < g.2.1) ∧ (g.2.2.length ≤ 30 ∨ 1024 < g.2.2.length) ∧ g.2.2.length ≤ 1027) := by
  unfold m_law31_great
  simp only [jp]
  obtain ⟨b, hb, h1⟩ := GreatJ_tot j
  obtain ⟨c, hc, h2⟩ := Great_tot g
  rw [hb]
  simp only [Option.bind_some]
  cases b with
  | true => exact ⟨true, rfl, fun h => by cases h⟩
  | false =>
    rw [if_neg Bool.false_ne_true, hc]
    exact ⟨c, rfl, fun h => ⟨h1 rfl, h2 h⟩⟩

structure VS (j : Jn) (g : Gr) : Prop extends VJ j g where
  w6 : j.1.length ≤ 6
  m8 : j.2.length ≤ 8
  n8 : fstLen j.1 ≤ 8
  r8 : fstLen j.2 ≤ 8
  g8 : g.2.1 ≤ 8
  e30 : g.2.2.length ≤ 30
theorem fst_mem {l : List (List UInt8)} (h : l ≠ []) : l.headD [] ∈ l := by
  cases l with
  | nil => exact absurd rfl h
  | cons a l => exact List.mem_cons_self ..
theorem FormOk.small {j : Jn} (h : FormOk j) (hs : JSize j) : j.1.length ≤ 6 ∧ j.2.length ≤ 8 ∧ fstLen j.1 ≤ 8 ∧ fstLen j.2 ≤ 8 := by
  have := h.l1; have := h.l2; have := h.n16; have := h.r16
  have h1 := hs.w
  have h2 := hs.m
  have h3 := hs.lw _ (fst_mem h.ne1)
  have h4 := hs.lm _ (fst_mem h.ne2)
  rw [hdl] at h3 h4
  omega
theorem valid31_tot (j : Jn) (g : Gr) : ∃ b, m_law31_valid j g = some b ∧ (b = true → VS j g) := by
  unfold m_law31_valid
  simp only [jp]
  obtain ⟨b, hb, h1⟩ := great31_tot j g
  rw [hb]
  simp only [Option.bind_some]
  cases b with
  | true => exact ⟨false, rfl, fun h => by cases h⟩
  | false =>
    obtain ⟨hs, hg, he, _⟩ := h1 rfl
    rw [if_pos (by rfl), Check31_eq hs.sm]
    simp only [Option.bind_some]
    by_cases hc : checkE j g = 0
    · have hj := checkE_zero hc
      have l1 := List.length_pos_iff.2 hj.f.ne1
      have l2 := List.length_pos_iff.2 hj.f.ne2
      rw [if_pos hc, if_pos (by omega), decide_eq_true (by omega)]
      refine ⟨true, rfl, fun _ => ?_⟩
      obtain ⟨q1, q2, q3, q4⟩ := hj.f.small hs
      have := hj.hv.s1
      have := hj.hv.el
      exact { toVJ := hj, w6 := q1, m8 := q2, n8 := q3, r8 := q4, g8 := by omega, e30 := by omega }
    · rw [if_neg hc]
      exact ⟨false, rfl, fun h => by cases h⟩
end
end Go.AW

/- Merging codes: inputs, and the merges that are allowed. -/
namespace Go.AW
open Go
set_option linter.unusedSimpArgs false
set_option linter.unusedVariables false

theorem IndexFuncI {l : List Int} {p : Int → Option Bool} (P : Int → Bool) (hm : l.length ≤ 9223372036854775807) (hp : ∀ x ∈ l, p x = some (P x)) : m_slices_IndexFunc_Lint_int l p = some (firstI l P) := by
  unfold m_slices_IndexFunc_Lint_int
  refine lpE (loop_findL (fun i => (i : Int)) l P (fun i => Ou.ret (i : Int)) (Ou.go ()) (fun i hi => ?_) (by rw [if_neg (not_lt_int _)]) rfl) ?_
  · rw [if_pos (lt_int hi), ix hi]
    simp only [Option.bind_some, hp _ (List.getElem_mem hi), nx hm hi]
  · unfold firstI
    split <;> rfl
theorem ContainsFuncI {l : List Int} {p : Int → Option Bool} (P : Int → Bool) (hm : l.length ≤ 9223372036854775807) (hp : ∀ x ∈ l, p x = some (P x)) : m_slices_ContainsFunc_Lint_int l p = some (l.any P) := by
  unfold m_slices_ContainsFunc_Lint_int
  rw [IndexFuncI P hm hp]
  simp only [Option.bind_some, firstI_nn, Bool.decide_eq_true]
def badI (j : Jn) (n : Int) : Bool := decide (n < 0 ∨ (j.1.length : Int) ≤ n)
noncomputable def inpE (j : Jn) (g : Gr) (l : List Int) : Int := if checkE j g ≠ 0 then 1 else if l.any (badI j) = true then 2 else 0
theorem inputs_eq {j : Jn} {g : Gr} {l : List Int} (hs : SmJ j) (hm : l.length ≤ 9223372036854775807) : m_merging_inputs j g l = some (inpE j g l) := by
  unfold m_merging_inputs inpE
  rw [Check31_eq hs]
  simp only [Option.bind_some]
  by_cases hc : checkE j g = 0
  · rw [if_neg (show ¬ (checkE j g ≠ 0) from fun h => h hc), if_neg (show ¬ (checkE j g ≠ 0) from fun h => h hc), ContainsFuncI (badI j) hm fun n _ => ?_]
    · simp only [Option.bind_some]
      split <;> rfl
    · unfold m_merging_inputs_1 badI
      simp only [jp]
      by_cases h0 : n < 0
      · rw [if_pos h0, decide_eq_true (.inl h0)]
      · rw [if_neg h0]; congr 1; exact decide_eq_decide.2 (by omega)
  · rw [if_pos (show checkE j g ≠ 0 from hc), if_pos (show checkE j g ≠ 0 from hc)]

def wd (j : Jn) (n : Int) : List UInt8 := j.1.getD n.toNat []
theorem badI_no {j : Jn} {n : Int} (h : ¬ badI j n = true) : 0 ≤ n ∧ n.toNat < j.1.length := by
  simp only [badI, decide_eq_true_eq] at h
  omega
theorem wd_idx {j : Jn} {n : Int} (h : 0 ≤ n ∧ n.toNat < j.1.length) : idx j.1 n = some (wd j n) := by
  obtain ⟨k, rfl⟩ := Int.eq_ofNat_of_zero_le h.1
  rw [ix (show k < j.1.length by simpa using h.2)]
  simp [wd, List.getD_eq_getElem?_getD, List.getElem?_eq_getElem (show k < j.1.length by simpa using h.2)]
theorem wd_mem {j : Jn} {n : Int} (h : 0 ≤ n ∧ n.toNat < j.1.length) : wd j n ∈ j.1 := by
  simp only [wd, List.getD_eq_getElem?_getD, List.getElem?_eq_getElem h.2, Option.getD_some]
  exact List.getElem_mem h.2

def allowL (g : Gr) (ms : List (List UInt8)) (a b : List UInt8) (k : Nat) : List Int := ((List.range k).filter fun i => inW g (a ++ ms.getD i [] ++ b)).map Int.ofNat
theorem allowL_succ (g : Gr) (ms : List (List UInt8)) (a b : List UInt8) (k : Nat) : allowL g ms a b (k + 1) = allowL g ms a b k ++ if inW g (a ++ ms.getD k [] ++ b) = true then [(k : Int)] else [] := by
  unfold allowL
  rw [List.range_succ, List.filter_append, List.map_append]
  congr 1
  by_cases h : inW g (a ++ ms.getD k [] ++ b) = true
  · rw [if_pos h, List.filter_cons_of_pos (p := fun i => inW g (a ++ ms.getD i [] ++ b)) h]; rfl
  · rw [if_neg h, List.filter_cons_of_neg (p := fun i => inW g (a ++ ms.getD i [] ++ b)) h]; rfl
theorem allowL_len (g : Gr) (ms : List (List UInt8)) (a b : List UInt8) (k : Nat) : (allowL g ms a b k).length ≤ k := by
  unfold allowL
  rw [List.length_map]
  exact Nat.le_trans (List.length_filter_le _ _) (by simp)
noncomputable def mergesE (j : Jn) (g : Gr) (a b : Int) : List Int × Int := if inpE j g [a, b] ≠ 0 then ([], inpE j g [a, b]) else (allowL g j.2 (wd j a) (wd j b) j.2.length, 0)
section
variable {g : Gr}
theorem inp_zero {j : Jn} {l : List Int} (h : inpE j g l = 0) : VJ j g ∧ ∀ n ∈ l, 0 ≤ n ∧ n.toNat < j.1.length := by
  unfold inpE at h
  split at h
  · cases h
  rename_i h1
  split at h
  · cases h
  rename_i h2
  refine ⟨checkE_zero (Classical.not_not.1 h1), fun n hn => badI_no fun hb => h2 (List.any_eq_true.2 ⟨n, hn, hb⟩)⟩
theorem word_ok {j : Jn} (hj : FormOk j) {a : List UInt8} (ha : a ∈ j.1) : bitW a ∧ a.length ≤ 16 := ⟨hj.b1 a ha, by rw [hj.n a ha]; exact hj.n16⟩
theorem merge_ok {j : Jn} (hj : FormOk j) {a : List UInt8} (ha : a ∈ j.2) : bitW a ∧ a.length ≤ 16 := ⟨hj.b2 a ha, by rw [hj.r a ha]; exact hj.r16⟩
theorem getD_get {α : Type} {l : List α} {i : Nat} (h : i < l.length) (d : α) : l.getD i d = l[i] := by simp [List.getD_eq_getElem?_getD, List.getElem?_eq_getElem h]
theorem Merges_eq {j : Jn} (hs : SmJ j) (a b : Int) : m_merging_Merges j g a b = some (mergesE j g a b) := by
  unfold m_merging_Merges mergesE
  rw [inputs_eq hs (by simp)]
  simp only [Option.bind_some]
  by_cases h : inpE j g [a, b] = 0
  · rw [if_neg (show ¬ (inpE j g [a, b] ≠ 0) from fun e => e h), if_neg (show ¬ (inpE j g [a, b] ≠ 0) from fun e => e h)]
    obtain ⟨hj, hab⟩ := inp_zero h
    have ha := hab a (List.mem_cons_self ..)
    have hb := hab b (List.mem_cons_of_mem _ (List.mem_cons_self ..))
    have wa := word_ok hj.f (wd_mem ha)
    have wb := word_ok hj.f (wd_mem hb)
    have hl := hj.f.l2
    refine bindL (loop_is (fun i => ((i : Int), allowL g j.2 (wd j a) (wd j b) i)) j.2.length (allowL g j.2 (wd j a) (wd j b) j.2.length) (fun i hi => ?_) (by simp only; rw [if_neg (not_lt_int _)]) rfl) rfl
    have wm := merge_ok hj.f (List.getElem_mem hi)
    simp only [jp]
    rw [if_pos (lt_int hi), ix hi, wd_idx ha, wd_idx hb]
    simp only [Option.bind_some]
    rw [if_pos (by simp only [maxLen]; omega), if_pos (by simp only [maxLen, List.length_append]; omega), accepts_eq hj.hv hj.h2 (bitW_app.2 ⟨bitW_app.2 ⟨wa.1, wm.1⟩, wb.1⟩) (by simp only [List.length_append]; omega)]
    simp only [Option.bind_some, allowL_succ, getD_get hi, nx (show j.2.length ≤ 9223372036854775807 by omega) hi]
    have hlen := allowL_len g j.2 (wd j a) (wd j b) i
    by_cases hw : inW g (wd j a ++ j.2[i] ++ wd j b) = true
    · rw [if_pos hw, if_pos hw, if_pos (fits_le (by simp only [List.length_singleton]; omega) (by simp only [List.length_singleton]; omega))]
    · rw [if_neg hw, if_neg hw, List.append_nil]
  · rw [if_pos (show inpE j g [a, b] ≠ 0 from h), if_pos (show inpE j g [a, b] ≠ 0 from h)]
end
end Go.AW

/- Merging codes: reading back. -/
namespace Go.AW
open Go
set_option linter.unusedSimpArgs false
set_option linter.unusedVariables false

theorem hdl2 (l : List (List UInt8)) : (l.headD []).length = fstLen l := id rfl
def sub (w : List UInt8) (a l : Nat) : List UInt8 := (w.drop a).take l
def pieceW (j : Jn) (w : List UInt8) (t : Nat) : List UInt8 := sub w (t * (fstLen j.1 + fstLen j.2)) (fstLen j.1)
def pieceM (j : Jn) (w : List UInt8) (t : Nat) : List UInt8 := sub w (t * (fstLen j.1 + fstLen j.2) - fstLen j.2) (fstLen j.2)
def badT (j : Jn) (w : List UInt8) (t : Nat) : Bool := decide (0 < t ∧ pieceM j w t ∉ j.2) || decide (pieceW j w t ∉ j.1)
def outT (j : Jn) (w : List UInt8) (t : Nat) : List Int := (List.range t).map fun i => firstI j.1 fun y => decide (pieceW j w i = y)
theorem outT_len (j : Jn) (w : List UInt8) (t : Nat) : (outT j w t).length = t := by simp [outT]
def kW (j : Jn) (w : List UInt8) : Nat := (w.length + fstLen j.2) / (fstLen j.1 + fstLen j.2)
def decE (j : Jn) (w : List UInt8) : List Int × Int :=
  if formE j ≠ 0 then ([], 1) else if w = [] then ([], 0) else if (w.length + fstLen j.2) % (fstLen j.1 + fstLen j.2) ≠ 0 then ([], 11)
  else match fstN (X := Ou (List Int) (List Int × Int)) (badT j w) (fun _ => Ou.ret ([], 13)) (Ou.go (outT j w (kW j w))) (kW j w) 0 with
    | .go l => (l, 0)
    | .ret r => r
end Go.AW

/- Merging codes: inputs of the statements, disparity, steps of sets. -/
namespace Go.AW
open Go
set_option linter.unusedSimpArgs false
set_option linter.unusedVariables false

def listL (j : Jn) (l : List Int) : List Int := (l.take 8).map fun x => x % (j.1.length : Int)
theorem list31_eq {j : Jn} {l : List Int} (h0 : j.1 ≠ []) (hx : ∀ x ∈ l, 0 ≤ x ∧ x ≤ 255) (hm : l.length ≤ 9223372036854775807) : m_law31_list j l = some (listL j l) := by
  have l0 := List.length_pos_iff.2 h0
  unfold m_law31_list
  rw [if_pos ⟨by omega, by omega, by omega⟩]
  have e : ((l.take (min (l.length : Int) 8).toNat).drop (0 : Int).toNat) = l.take 8 := by
    simp only [Int.toNat_zero, List.drop_zero]
    by_cases h8 : l.length ≤ 8
    · rw [List.take_of_length_le (show l.length ≤ 8 from h8), List.take_of_length_le (by omega)]
    · congr 1; omega
  simp only [e]
  have hl8 : (l.take 8).length ≤ 8 := by rw [List.length_take]; omega
  refine bindL (loop_is (fun i => ((i : Int), ((l.take 8).take i).map fun x => x % (j.1.length : Int))) (l.take 8).length (listL j l) (fun i hi => ?_) (by simp only; rw [if_neg (not_lt_int _), List.take_length]; rfl) rfl) rfl
  have hxi := hx _ (List.mem_of_mem_take (List.getElem_mem hi))
  simp only
  rw [if_pos (lt_int hi), ix hi]
  simp only [Option.bind_some]
  have hw : IntKind.wrap .i64 (l.take 8)[i] = (l.take 8)[i] := w64 (by omega) (by omega)
  rw [if_pos (by omega), hw, Int.tmod_eq_emod_of_nonneg hxi.1]
  rw [if_pos (fits_le (by simp only [List.length_map, List.length_take, List.length_singleton]; omega) (by simp only [List.length_map, List.length_take, List.length_singleton]; omega)), nx (by omega) hi]
  rw [← List.take_append_getElem hi, List.map_append]
  rfl

def disp (w : List UInt8) : Int := 2 * ((w.count 49 : Nat) : Int) - (w.length : Int)
theorem Disparity_eq {w : List UInt8} (hb : bitW w) (hl : w.length ≤ 65536) : m_runs_Disparity w = some (disp w, 0) := by
  unfold m_runs_Disparity
  obtain ⟨e, he, hz⟩ := wcheck 2 w
  have : e = 0 := hz.2 ⟨by omega, hl, fun c hc => by
    have := hb c hc
    have e2 : letters.take (2 : Int).toNat = [48, 49] := by decide
    rw [e2]
    simpa [bitB] using this⟩
  rw [he, this]
  have hc := List.count_le_length (a := (49 : UInt8)) (l := w)
  simp only [Option.bind_some, m_strings_Count, Lib.countByte]
  rw [if_neg (show ¬ ((0 : Int) ≠ 0) from fun h => h rfl), w64 (n := 2 * ((w.count 49 : Nat) : Int)) (by omega) (by omega), w64 (by omega) (by omega)]
  rfl
theorem weight_eq {w : List UInt8} (hb : bitW w) (hl : w.length ≤ 65536) : m_merging_weight w = some (disp w) := by
  unfold m_merging_weight
  rw [Disparity_eq hb hl]
  rfl
section
variable {g : Gr}
theorem step31_eq (hv : VG g) (h2 : g.1 = 2) {a : List Int} (ha : SetOk g a) {w : List UInt8} (hb : bitW w) (hl : w.length ≤ 65536) : m_merging_step g a w = some (endsL g a w) := by
  unfold m_merging_step
  refine bindL (loop_is (fun i => (endsL g a (w.take i), (i : Int))) w.length (endsL g a w) (fun i hi => ?_) (by simp only; rw [if_neg (not_lt_int _), List.take_length]) rfl) rfl
  simp only
  have hc := bit_lets h2 (hb _ (List.getElem_mem hi))
  obtain ⟨k, hk, hk1, hk2, hk3⟩ := lab_mem hc
  rw [if_pos (lt_int hi), ix hi]
  simp only [Option.bind_some, m_strings_IndexByte]
  have e : Lib.indexByte [48, 49, 50, 51, 52, 53, 54, 55, 56, 57, 97, 98, 99, 100, 101, 102] (w[i].toNat : Int).toNat.toUInt8 = lab w[i] := by
    rw [Int.toNat_natCast]
    simp [lab, letters]
  rw [e, Step_eq hv (endsL_ok ha _) (by omega) (by omega)]
  simp only [Option.bind_some, nx (show w.length ≤ 9223372036854775807 by omega) hi]
  rw [← List.take_append_getElem hi, endsL_app]
  rfl
end
end Go.AW

/- Merging codes: what is written. -/
namespace Go.AW
open Go
set_option linter.unusedSimpArgs false
set_option linter.unusedVariables false

def scoreM (g : Gr) (set : List Int) (sum : Int) (x m : List UInt8) : Int × Bool := (max (sum + disp (m ++ x)) (-(sum + disp (m ++ x))), decide (endsL g set (m ++ x) ≠ []))
def bestStep (g : Gr) (set : List Int) (sum : Int) (x : List UInt8) (a : List UInt8 × Int × Bool) (m : List UInt8) : List UInt8 × Int × Bool :=
  if (scoreM g set sum x m).2 = true ∧ (a.2.2 = false ∨ (scoreM g set sum x m).1 < a.2.1) then (m, (scoreM g set sum x m).1, true) else a
def bestF (g : Gr) (set : List Int) (sum : Int) (x : List UInt8) (ms : List (List UInt8)) : List UInt8 × Int × Bool := ms.foldl (bestStep g set sum x) ([], 0, false)
theorem disp_le {w : List UInt8} : -(w.length : Int) ≤ disp w ∧ disp w ≤ w.length := by
  have := List.count_le_length (a := (49 : UInt8)) (l := w)
  unfold disp
  omega
section
variable {g : Gr}
theorem best_loop {j : Jn} (hj : VJ j g) {set : List Int} (hset : SetOk g set) {sum : Int} (hsum : -1000000 ≤ sum ∧ sum ≤ 1000000) {n : Int} (hn : 0 ≤ n ∧ n.toNat < j.1.length) :
    loopW (S := (List UInt8) × Int × Bool × Int) (X := (List UInt8) × Bool) (fun a52 =>
                   if a52.2.2.2 < ((j.2).length : Int) then
                    jp (fun (a56 : (List UInt8) × Int × Bool) =>
                      some (Stp.next (a56.1, a56.2.1, a56.2.2, IntKind.wrap .i64 (a52.2.2.2 + 1))))
                      fun k58 =>
                     (idx j.2 a52.2.2.2).bind fun x59 =>
                     jp (fun (a61 : Int × Bool) =>
                       jp (fun (a64 : Bool) =>
                         if a64 = true then
                          k58 (x59, a61.1, true)
                         else
                          k58 (a52.1, a52.2.1, a52.2.2.1))
                         fun k66 =>
                        if a61.2 = true then
                         if (!a52.2.2.1) = true then
                          k66 true
                         else
                          k66 (decide (a61.1 < a52.2.1))
                        else
                         k66 false)
                       fun k63 =>
                      (idx j.1 n).bind fun x69 =>
                      if x59.length + x69.length ≤ maxLen then
                       (m_merging_weight (x59 ++ x69)).bind fun x72 =>
                       (idx j.1 n).bind fun x74 =>
                       if x59.length + x74.length ≤ maxLen then
                        (m_merging_step g set (x59 ++ x74)).bind fun x77 =>
                        k63 (max (IntKind.wrap .i64 (sum + x72)) (IntKind.wrap .i64 (0 - (IntKind.wrap .i64 (sum + x72)))), decide (0 < ((x77).length : Int)))
                       else none
                      else none
                   else
                    some (Stp.exit (a52.1, a52.2.2.1))) (([] : List UInt8), 0, false, 0) = some ((bestF g set sum (wd j n) j.2).1, (bestF g set sum (wd j n) j.2).2.2) := by
  have hl := hj.f.l2
  have wx := word_ok hj.f (wd_mem hn)
  have key : ∀ k, k ≤ j.2.length → True := fun _ _ => trivial
  refine loop_is (fun i => ((bestF g set sum (wd j n) (j.2.take i)).1, (bestF g set sum (wd j n) (j.2.take i)).2.1, (bestF g set sum (wd j n) (j.2.take i)).2.2, (i : Int))) j.2.length _ (fun i hi => ?_) (by simp only; rw [if_neg (not_lt_int _), List.take_length]) rfl
  have wm := merge_ok hj.f (List.getElem_mem hi)
  have hbw : bitW (j.2[i] ++ wd j n) := bitW_app.2 ⟨wm.1, wx.1⟩
  have hlw : (j.2[i] ++ wd j n).length ≤ 32 := by simp only [List.length_append]; omega
  have hd := disp_le (w := j.2[i] ++ wd j n)
  simp only [jp]
  rw [if_pos (lt_int hi), ix hi, wd_idx hn]
  simp only [Option.bind_some]
  rw [if_pos (by simp only [maxLen]; omega), weight_eq hbw (by omega)]
  simp only [Option.bind_some]
  rw [if_pos (by simp only [maxLen]; omega), step31_eq hj.hv hj.h2 hset hbw (by omega)]
  simp only [Option.bind_some, nx (show j.2.length ≤ 9223372036854775807 by omega) hi]
  have w1 : IntKind.wrap .i64 (sum + disp (j.2[i] ++ wd j n)) = sum + disp (j.2[i] ++ wd j n) := w64 (by omega) (by omega)
  have w2 : IntKind.wrap .i64 (0 - (sum + disp (j.2[i] ++ wd j n))) = -(sum + disp (j.2[i] ++ wd j n)) := by rw [w64 (by omega) (by omega)]; omega
  simp only [w1, w2]
  have es : bestF g set sum (wd j n) (j.2.take (i + 1)) = bestStep g set sum (wd j n) (bestF g set sum (wd j n) (j.2.take i)) j.2[i] := by
    unfold bestF
    rw [← List.take_append_getElem hi, List.foldl_append]
    rfl
  rw [es]
  generalize bestF g set sum (wd j n) (j.2.take i) = A
  have hne : (0 < ((endsL g set (j.2[i] ++ wd j n)).length : Int)) ↔ endsL g set (j.2[i] ++ wd j n) ≠ [] := by
    rw [← List.length_pos_iff]; omega
  unfold bestStep scoreM
  simp only [hne, decide_eq_true_eq]
  by_cases h1 : endsL g set (j.2[i] ++ wd j n) ≠ []
  · rw [if_pos h1]
    cases h2 : A.2.2 with
    | false => simp [h1, h2]
    | true =>
      by_cases h3 : max (sum + disp (j.2[i] ++ wd j n)) (-(sum + disp (j.2[i] ++ wd j n))) < A.2.1 <;> simp [h1, h2, h3]
  · rw [if_neg h1]
    simp [h1]
end
end Go.AW

/- Merging codes: Encode. -/
namespace Go.AW
open Go
set_option linter.unusedSimpArgs false
set_option linter.unusedVariables false
def encG (j : Jn) (g : Gr) : List Int → List UInt8 → Int → List Int → List UInt8 × Int
  | _, b, _, [] => (b, 0)
  | set, b, sum, x :: xs =>
    if (bestF g set sum (wd j x) j.2).2.2 = true then encG j g (endsL g set ((bestF g set sum (wd j x) j.2).1 ++ wd j x)) (b ++ ((bestF g set sum (wd j x) j.2).1 ++ wd j x)) (sum + disp ((bestF g set sum (wd j x) j.2).1 ++ wd j x)) xs
    else ([], 13)
noncomputable def encE (j : Jn) (g : Gr) (l : List Int) : List UInt8 × Int :=
  if inpE j g l ≠ 0 then ([], inpE j g l) else match l with
    | [] => ([], 0)
    | x :: xs => encG j g (endsL g (upto g.2.1) (wd j x)) (wd j x) (disp (wd j x)) xs
theorem bestF_mem (g : Gr) (set : List Int) (sum : Int) (x : List UInt8) : ∀ (ms : List (List UInt8)) (a : List UInt8 × Int × Bool), (ms.foldl (bestStep g set sum x) a).1 = a.1 ∨ (ms.foldl (bestStep g set sum x) a).1 ∈ ms
  | [], a => .inl rfl
  | m :: ms, a => by
    rw [List.foldl_cons]
    rcases bestF_mem g set sum x ms (bestStep g set sum x a m) with h | h
    · rw [h]
      unfold bestStep
      split
      · exact .inr (List.mem_cons_self ..)
      · exact .inl rfl
    · exact .inr (List.mem_cons_of_mem _ h)
theorem best_ok {j : Jn} {g : Gr} (hj : FormOk j) (set : List Int) (sum : Int) (x : List UInt8) : bitW (bestF g set sum x j.2).1 ∧ (bestF g set sum x j.2).1.length ≤ 16 := by
  rcases bestF_mem g set sum x j.2 ([], 0, false) with h | h
  · unfold bestF
    rw [h]
    exact ⟨(fun _ h => by cases h), by simp⟩
  · exact merge_ok hj h

def runF {σ α X : Type} (F : σ → α → Option σ) (fin : σ → X) (xr : X) : List α → σ → X
  | [], s => fin s
  | x :: xs, s => match F s x with
    | some s' => runF F fin xr xs s'
    | none => xr
theorem loop_run {S X σ α : Type} {body : S → Option (Stp S X)} (st : Nat → σ → S) (xs : List α) (F : σ → α → Option σ) (fin : σ → X) (xr : X) (P : Nat → σ → Prop)
    (h : ∀ i s (hi : i < xs.length), P i s → body (st i s) = (match F s xs[i] with | some s' => some (.next (st (i + 1) s')) | none => some (.exit xr)) ∧ ∀ s', F s xs[i] = some s' → P (i + 1) s')
    (hf : ∀ s, P xs.length s → body (st xs.length s) = some (.exit (fin s))) {s0 : σ} (h0 : P 0 s0) : loopW body (st 0 s0) = some (runF F fin xr xs s0) := by
  have : ∀ d i s, i + d = xs.length → P i s → loopW body (st i s) = some (runF F fin xr (xs.drop i) s) := by
    intro d
    induction d with
    | zero =>
      intro i s hi hP
      have e : i = xs.length := by omega
      subst e
      rw [loopW_exit (hf s hP), List.drop_length]
      rfl
    | succ d ih =>
      intro i s hi hP
      have hi' : i < xs.length := by omega
      obtain ⟨h1, h2⟩ := h i s hi' hP
      rw [List.drop_eq_getElem_cons hi']
      unfold runF
      cases hF : F s xs[i] with
      | none => rw [hF] at h1; rw [loopW_exit h1]
      | some s' => rw [hF] at h1; rw [loopW_next h1]; exact ih (i + 1) s' (by omega) (h2 s' hF)
  exact this xs.length 0 s0 (by omega) h0
end Go.AW

/- Merging codes: Encode, the program. -/
namespace Go.AW
open Go
set_option linter.unusedSimpArgs false
set_option linter.unusedVariables false
def encS (j : Jn) (g : Gr) (s : List Int × List UInt8 × Int) (x : Int) : Option (List Int × List UInt8 × Int) :=
  if (bestF g s.1 s.2.2 (wd j x) j.2).2.2 = true then some (endsL g s.1 ((bestF g s.1 s.2.2 (wd j x) j.2).1 ++ wd j x), s.2.1 ++ ((bestF g s.1 s.2.2 (wd j x) j.2).1 ++ wd j x), s.2.2 + disp ((bestF g s.1 s.2.2 (wd j x) j.2).1 ++ wd j x)) else none
def unOu (x : Ou (List UInt8) (List UInt8 × Int)) : List UInt8 × Int := match x with
  | .go v => (v, 0)
  | .ret r => r
theorem encG_run (j : Jn) (g : Gr) : ∀ (xs : List Int) (s : List Int × List UInt8 × Int), unOu (runF (encS j g) (fun s => Ou.go s.2.1) (Ou.ret ([], 13)) xs s) = encG j g s.1 s.2.1 s.2.2 xs
  | [], s => rfl
  | x :: xs, s => by
    unfold runF encG encS
    by_cases h : (bestF g s.1 s.2.2 (wd j x) j.2).2.2 = true
    · simp only [if_pos h]
      exact encG_run j g xs _
    · simp only [if_neg h]
      rfl
theorem Encode_eq {j : Jn} {g : Gr} (hs : SmJ j) {l : List Int} (hl : l.length ≤ 8) : m_merging_Encode j g l = some (encE j g l) := by
  unfold m_merging_Encode encE
  rw [inputs_eq hs (by omega)]
  simp only [Option.bind_some]
  by_cases h : inpE j g l ≠ 0
  · rw [if_pos h, if_pos h]
  rw [if_neg h, if_neg h]
  obtain ⟨hj, hx⟩ := inp_zero (Classical.not_not.1 h)
  cases l with
  | nil => rfl
  | cons x xs =>
    have n1 := hj.f.n1
    have n16 := hj.f.n16
    have r16 := hj.f.r16
    have hx0 := hx x (List.mem_cons_self ..)
    have wx := word_ok hj.f (wd_mem hx0)
    rw [if_neg (show ¬ (((x :: xs).length : Int) = 0) by simp only [List.length_cons]; omega), idx0 hj.f.ne1, idx0 hj.f.ne2]
    simp only [Option.bind_some, hdl2]
    have e1 : IntKind.wrap .i64 (((fstLen j.1 : Nat) : Int) + ((fstLen j.2 : Nat) : Int)) = ((fstLen j.1 + fstLen j.2 : Nat) : Int) := by rw [w64 (by omega) (by omega)]; omega
    have e2 : IntKind.wrap .i64 (65536 + ((fstLen j.2 : Nat) : Int)) = ((65536 + fstLen j.2 : Nat) : Int) := by rw [w64 (by omega) (by omega)]; omega
    have hq : 8 ≤ (65536 + fstLen j.2) / (fstLen j.1 + fstLen j.2) := by
      rw [Nat.le_div_iff_mul_le (by omega)]; omega
    have hq2 : (65536 + fstLen j.2) / (fstLen j.1 + fstLen j.2) ≤ 65552 := Nat.le_trans (Nat.div_le_self _ _) (by omega)
    simp only [e1, e2, ← Int.ofNat_tdiv]
    rw [if_pos (show ((fstLen j.1 + fstLen j.2 : Nat) : Int) ≠ 0 by omega), w64 (by omega) (by omega), if_neg (by omega)]
    have s0 := hj.hv.s0
    have s1 := hj.hv.s1
    rw [if_pos ⟨s0, by omega, by omega⟩]
    refine bindL (x := upto g.2.1) ?_ ?_
    · have := states_eq hj.hv
      unfold m_language_states at this
      rw [if_pos ⟨s0, by omega, by omega⟩] at this
      obtain ⟨y, hy, hz⟩ := bS this
      cases hz
      exact hy
    · have ei : idx (x :: xs) 0 = some x := rfl
      rw [ei]
      simp only [Option.bind_some, wd_idx hx0, jp]
      have hd := disp_le (w := wd j x)
      rw [if_pos ⟨by simp only [List.length_nil]; omega, by simp only [List.length_nil, maxLen]; omega⟩, weight_eq wx.1 (by omega), Option.bind_some, step31_eq hj.hv hj.h2 (upto_ok g) wx.1 (by omega)]
      simp only [Option.bind_some]
      rw [if_pos ⟨by omega, by simp only [List.length_cons]; omega, by omega⟩]
      have et : ((x :: xs).take (((x :: xs).length : Int)).toNat).drop (1 : Int).toNat = xs := by
        rw [Int.toNat_natCast, List.take_length]; rfl
      simp only [et, List.nil_append, Int.zero_add, w64 (n := disp (wd j x)) (by omega) (by omega)]
      refine lpE (x := runF (encS j g) (fun s => Ou.go s.2.1) (Ou.ret ([], 13)) xs (endsL g (upto g.2.1) (wd j x), wd j x, disp (wd j x))) ?_ ?_
      · refine loop_run (s0 := (endsL g (upto g.2.1) (wd j x), wd j x, disp (wd j x))) (fun i (s : List Int × List UInt8 × Int) => ((i : Int), s.1, s.2.1, s.2.2)) xs (encS j g) (fun s => Ou.go s.2.1) (Ou.ret ([], 13)) (fun i s => SetOk g s.1 ∧ s.2.1.length ≤ 32 * (i + 1) ∧ -(32 * (i + 1) : Int) ≤ s.2.2 ∧ s.2.2 ≤ 32 * (i + 1)) (fun i s hi hP => ?_) (fun s _ => ?_) ⟨endsL_ok (upto_ok g) _, by dsimp only; omega, by dsimp only; omega, by dsimp only; omega⟩
        · obtain ⟨p1, p2, p3, p4⟩ := hP
          have hi8 : i < 8 := by simp only [List.length_cons] at hl; omega
          have hxi := hx xs[i] (List.mem_cons_of_mem _ (List.getElem_mem hi))
          have wi := word_ok hj.f (wd_mem hxi)
          have bo := best_ok (g := g) hj.f s.1 s.2.2 (wd j xs[i])
          have hb := best_loop hj p1 (sum := s.2.2) (by omega) hxi
          simp only [jp] at hb
          have hd2 := disp_le (w := (bestF g s.1 s.2.2 (wd j xs[i]) j.2).1 ++ wd j xs[i])
          have hlen : ((bestF g s.1 s.2.2 (wd j xs[i]) j.2).1 ++ wd j xs[i]).length ≤ 32 := by simp only [List.length_append]; omega
          have hbw : bitW ((bestF g s.1 s.2.2 (wd j xs[i]) j.2).1 ++ wd j xs[i]) := bitW_app.2 ⟨bo.1, wi.1⟩
          constructor
          · simp only
            rw [if_pos (lt_int hi), ix hi]
            simp only [Option.bind_some]
            rw [hb]
            simp only [Option.bind_some, encS]
            by_cases hf : (bestF g s.1 s.2.2 (wd j xs[i]) j.2).2.2 = true
            · rw [if_neg (by simp [hf]), wd_idx hxi, if_pos hf]
              simp only [Option.bind_some]
              rw [if_pos (by simp only [maxLen]; omega), if_pos ⟨by omega, by simp only [maxLen]; omega⟩, weight_eq hbw (by omega), Option.bind_some, step31_eq hj.hv hj.h2 p1 hbw (by omega)]
              simp only [Option.bind_some]
              rw [w64 (n := s.2.2 + _) (by omega) (by omega), nx (show xs.length ≤ 9223372036854775807 by simp only [List.length_cons] at hl; omega) hi]
            · rw [if_pos (by simp [hf]), if_neg hf]
          · intro s' hs'
            unfold encS at hs'
            split at hs'
            · cases hs'
              exact ⟨endsL_ok p1 _, by simp only [List.length_append] at hlen ⊢; omega, by simp only; omega, by simp only; omega⟩
            · cases hs'
        · simp only
          rw [if_neg (not_lt_int _)]
      · have := encG_run j g xs (endsL g (upto g.2.1) (wd j x), wd j x, disp (wd j x))
        rw [← this]
        unfold unOu
        split
        · rename_i v hv; rw [hv]; rfl
        · rename_i r hr; rw [hr]; rfl
end Go.AW

/- The anchor of chapter 31. -/
namespace Go.AW
open Go
set_option linter.unusedVariables false
def jEx : Jn := ([[48, 48], [48, 49], [49, 48]], [[48], [49]])
def gEx : Gr := (2, 2, [(0, 0, 0), (0, 1, 1), (1, 0, 0)])
theorem gEx_ok : VG gEx where
  l1 := by decide
  l2 := by decide
  s0 := by decide
  s1 := by decide
  el := by decide
  ed := by decide
  ord := fun i h => match i, h with
    | 0, _ => by show cmp3 ((0, 0, 0) : Int × Int × Int) (0, 1, 1) < 0; decide
    | 1, _ => by show cmp3 ((0, 1, 1) : Int × Int × Int) (1, 0, 0) < 0; decide
    | n + 2, h => absurd h (by show ¬ n + 2 + 1 < 3; omega)
theorem jEx_ok : VJ jEx gEx := ⟨gEx_ok, rfl, formE_zero (by decide +kernel), by decide +kernel, by decide +kernel⟩
theorem jEx_zero : checkE jEx gEx = 0 := by
  have h := jEx_ok
  unfold checkE
  rw [if_neg (fun e => e h.hv), if_neg (fun e => e h.h2), if_neg (by decide +kernel), if_neg (by decide +kernel), if_neg (by decide +kernel)]
theorem jEx_in {l : List Int} (hl : l.any (badI jEx) = false) : inpE jEx gEx l = 0 := by
  unfold inpE
  rw [if_neg (fun e => e jEx_zero), if_neg (by rw [hl]; decide)]
theorem awake31_eq : m_law31_awakeG = some true := by
  have hs := jEx_ok.f.sm
  unfold m_law31_awakeG m_law31_golden
  simp only [Option.bind_some]
  have m1 : mergesE jEx gEx 0 0 = ([0, 1], 0) := by
    unfold mergesE
    rw [if_neg (fun e => e (jEx_in (by decide)))]
    decide +kernel
  have m2 : mergesE jEx gEx 1 2 = ([0], 0) := by
    unfold mergesE
    rw [if_neg (fun e => e (jEx_in (by decide)))]
    decide +kernel
  have m3 : encE jEx gEx [0, 0] = ([48, 48, 49, 48, 48], 0) := by
    unfold encE
    rw [if_neg (fun e => e (jEx_in (by decide)))]
    decide +kernel
  have m4 : m_merging_Rate jEx = some (ratT 1 3, 0) := by
    unfold m_merging_Rate
    rw [form_eq hs]
    decide +kernel
  rw [show m_merging_Merges ([[48, 48], [48, 49], [49, 48]], [[48], [49]]) (2, 2, [(0, 0, 0), (0, 1, 1), (1, 0, 0)]) 0 0 = some (mergesE jEx gEx 0 0) from Merges_eq hs 0 0, show m_merging_Merges ([[48, 48], [48, 49], [49, 48]], [[48], [49]]) (2, 2, [(0, 0, 0), (0, 1, 1), (1, 0, 0)]) 1 2 = some (mergesE jEx gEx 1 2) from Merges_eq hs 1 2, show m_merging_Encode ([[48, 48], [48, 49], [49, 48]], [[48], [49]]) (2, 2, [(0, 0, 0), (0, 1, 1), (1, 0, 0)]) [0, 0] = some (encE jEx gEx [0, 0]) from Encode_eq hs (by decide), show m_merging_Rate ([[48, 48], [48, 49], [49, 48]], [[48], [49]]) = some (ratT 1 3, 0) from m4, m1, m2, m3]
  simp only [Option.bind_some, EqI_eq (show ([0, 1] : List Int).length ≤ 9223372036854775807 by decide), EqI_eq (show ([0] : List Int).length ≤ 9223372036854775807 by decide)]
  decide +kernel
end Go.AW

/- The anchor of chapter 31. -/
namespace Go.AW
open Go Go.Proofs
theorem w_law31_awake {r : Bool} (h : m_law31_awake = some r) : Pure Tryz.prog 13 [] (· = HV.bool r) := by
  cases h
  exact w_law31_awakeG awake31_eq
end Go.AW

namespace Go.AW
open Go Go.Proofs
set_option linter.unusedVariables false
set_option maxHeartbeats 1600000 in
set_option maxRecDepth 100000 in
theorem w_ref31_Great {p0 : TWordsMerges} {r : Bool} (h : m_ref31_Great p0 = some r) : Pure Tryz.prog 18 [HV.agg [slE eStr p0.1, slE eStr p0.2]] (· = HV.bool r) := by
 unfold m_ref31_Great at h
 refine Pure.of_body Tryz.func18 rfl rfl (Nat.le_of_ble_eq_true rfl) fun hf => ?_
 unfold Tryz.f18
 dsimp only [enumS, Nat.reduceAdd]
 refine AW.rgs rfl fun K hK => ?_
 refine b_op rfl (o_box rfl rfl rfl ?_)
 refine mv rfl rfl ?_
 refine b_fin hK (s' := ⟨[(1, HV.fptr [slE eStr p0.1, slE eStr p0.2] 0)], []⟩) (le_q rfl rfl) ?_
 clear hK K
 refine AW.seq ?_
 refine AW.seqJ h (S := Bool) (V := Unit) (fun a v => ⟨[(1, HV.fptr [slE eStr p0.1, slE eStr p0.2] 0), (38, HV.bool a)], []⟩) (fun a1 w2 h => ?_) (fun k3 h => ?_)
 ·refine AW.cond rfl (fun hc => ?_) (fun hc => ?_)
  ·have h := ifT hc h
   refine AW.rgs rfl fun K hK => ?_
   refine mv rfl rfl ?_
   refine b_fin hK (s' := ⟨[(2, HV.bool true)], []⟩) (le_q rfl rfl) ?_
   clear hK K
   refine AW.ret ?_
   have h := Option.some.inj h
   subst h
   exact ret_pure (hs := [HV.bool true]) (q := HV.bool true) (.inr rfl) (resT rfl rfl) rfl trivial
  have h := ifF (bF' hc) h
  refine AW.skip ?_
  refine AW.seq ?_
  refine AW.rgs rfl fun K hK => ?_
  refine mv rfl rfl ?_
  refine b_fin hK (s' := ⟨[(1, HV.fptr [slE eStr p0.1, slE eStr p0.2] 0), (3, HV.int .i64 0)], []⟩) (le_q rfl rfl) ?_
  clear hK K
  refine AW.lpR h (by first | exact up_then | exact up_to) (S := Int) (V := Unit) (fun a v => ⟨[(1, HV.fptr [slE eStr p0.1, slE eStr p0.2] 0), (3, HV.int .i64 a)], []⟩) ?_ (X := Unit) (W := Unit) (fun a v => ⟨[(1, HV.fptr [slE eStr p0.1, slE eStr p0.2] 0)], []⟩) (fun a21 w22 h => ?_) (fun a4 w5 st6 h hr7=> ?_)
  ·exact to_le (s' := ⟨[(1, HV.fptr [slE eStr p0.1, slE eStr p0.2] 0), (3, HV.int .i64 0)], []⟩) (AS.le_of ⟨rfl, rfl, trivial⟩ trivial) ⟨(), rfl⟩
  ·refine AW.seq ?_
   refine AW.rgs rfl fun K hK => ?_
   refine mv rfl rfl ?_
   refine b_fin hK (s' := ⟨[(1, HV.fptr [slE eStr p0.1, slE eStr p0.2] 0), (4, HV.int .i64 0)], []⟩) (le_q rfl rfl) ?_
   clear hK K
   refine AW.lpR h (by first | exact up_then | exact up_to) (S := Int) (V := Unit) (fun a v => ⟨[(1, HV.fptr [slE eStr p0.1, slE eStr p0.2] 0), (4, HV.int .i64 a)], []⟩) ?_ (X := Unit) (W := Unit) (fun a v => ⟨[], []⟩) (fun a40 w41 h => ?_) (fun a23 w24 st25 h hr26=> ?_)
   ·exact to_le (s' := ⟨[(1, HV.fptr [slE eStr p0.1, slE eStr p0.2] 0), (4, HV.int .i64 0)], []⟩) (AS.le_of ⟨rfl, rfl, trivial⟩ trivial) ⟨(), rfl⟩
   ·refine AW.rgs rfl fun K hK => ?_
    refine mv rfl rfl ?_
    refine b_fin hK (s' := ⟨[(2, HV.bool false)], []⟩) (le_q rfl rfl) ?_
    clear hK K
    refine AW.ret ?_
    have h := Option.some.inj h
    subst h
    exact ret_pure (hs := [HV.bool false]) (q := HV.bool false) (.inr rfl) (resT rfl rfl) rfl trivial
   refine AW.seq ?_
   refine AW.rgs rfl fun K hK => ?_
   refine mv rfl rfl ?_
   refine bv rfl (v_fieldAddrF fo24_1 rfl) ?_
   refine bv rfl (v_loadF ty22 rfl (l_lit rfl rfl)) ?_
   refine bv rfl (v_lenF rfl rfl ty22 rfl) ?_
   refine bv rfl (v_bin rfl rfl b_lss) ?_
   refine b_fin hK (s' := ⟨[(1, HV.fptr [slE eStr p0.1, slE eStr p0.2] 0), (4, HV.int .i64 a23), (75, HV.bool (decide (a23 < ((p0.2).length : Int))))], []⟩) (le_q rfl rfl) ?_
   clear hK K
   refine AW.cond rfl (fun hc => ?_) (fun hc => ?_)
   ·have hc := of_decide_eq_true hc
    have h := ifT hc h
    refine AW.skip ?_
    refine AW.seq (AW.block ?_)
    refine AW.seqJ h (S := Bool) (V := Unit) (fun a v => ⟨[(1, HV.fptr [slE eStr p0.1, slE eStr p0.2] 0), (4, HV.int .i64 a23), (102, HV.bool a)], []⟩) (fun a27 w28 h => ?_) (fun k29 h => ?_)
    ·refine AW.cond rfl (fun hc => ?_) (fun hc => ?_)
     ·have h := ifT hc h
      refine AW.rgs rfl fun K hK => ?_
      refine mv rfl rfl ?_
      refine b_fin hK (s' := ⟨[(2, HV.bool true)], []⟩) (le_q rfl rfl) ?_
      clear hK K
      have h := hr26 _ h
      refine AW.ret ?_
      have h := Option.some.inj h
      subst h
      exact ret_pure (hs := [HV.bool true]) (q := HV.bool true) (.inr rfl) (resT rfl rfl) rfl trivial
     have h := ifF (bF' hc) h
     refine AW.skip ?_
     refine AW.rg rfl fun K hK => ?_
     refine mv rfl rfl ?_
     refine bv rfl (v_bin rfl rfl b_add) ?_
     refine mv rfl rfl ?_
     refine b_nil (hK _ ?_)
     clear hK K
     exact to_le (s' := ⟨[(1, HV.fptr [slE eStr p0.1, slE eStr p0.2] 0), (4, HV.int .i64 (IntKind.wrap .i64 (a23 + 1)))], []⟩) (AS.le_of ⟨rfl, rfl, trivial⟩ trivial) ⟨IntKind.wrap .i64 (a23 + 1), (), h, rfl⟩
    refine AW.rg rfl fun K hK => ?_
    refine bv rfl (v_fieldAddrF fo24_1 rfl) ?_
    refine bv rfl (v_loadF ty22 rfl (l_lit rfl rfl)) ?_
    refine mv rfl rfl ?_
    obtain ⟨x30, h31, h⟩ := bS h
    refine bv rfl (v_idxF ty22 es22 rfl rfl (idx_lt h31)) ?_
    refine bv rfl (v_loadF ty9 rfl (l_cell eStr h31 (o := 0) rfl rfl)) ?_
    refine bv rfl (v_lenS rfl rfl ty9 rfl) ?_
    refine bv rfl (v_bin rfl rfl b_gtr) ?_
    refine mv rfl rfl ?_
    by_cases hg39 : 8 < ((x30).length : Int)
    ·have h := ifT hg39 h
     refine b_T rfl rfl rfl rfl (decide_eq_true hg39) (o_val rfl (v_fieldAddrF fo24_1 rfl) ?_)
     refine b_T rfl rfl rfl rfl rfl (o_val rfl (v_loadF ty22 rfl (l_lit rfl rfl)) ?_)
     refine b_T rfl rfl rfl rfl rfl (o_val rfl (mv_val rfl rfl).2 ?_)
     obtain ⟨x32, h33, h⟩ := bS h
     refine b_T rfl rfl rfl rfl rfl (o_val rfl (v_idxF ty22 es22 rfl rfl (idx_lt h33)) ?_)
     refine b_T rfl rfl rfl rfl rfl (o_val rfl (v_loadF ty9 rfl (l_cell eStr h33 (o := 0) rfl rfl)) ?_)
     refine b_T rfl rfl rfl rfl rfl (o_val rfl (v_lenS rfl rfl ty9 rfl) ?_)
     refine b_T rfl rfl rfl rfl rfl (o_val rfl (v_bin rfl rfl b_leq) ?_)
     refine bv rfl (v_pickT rfl rfl rfl) ?_
     refine mv rfl rfl ?_
     by_cases hg36 : ((x32).length : Int) ≤ 16
     ·have h := ifT hg36 h
      refine b_F rfl rfl rfl rfl rfl (decide_eq_true hg36) ?_
      refine b_F rfl rfl rfl rfl rfl rfl ?_
      refine b_F rfl rfl rfl rfl rfl rfl ?_
      refine b_F rfl rfl rfl rfl rfl rfl ?_
      refine b_F rfl rfl rfl rfl rfl rfl ?_
      refine b_F rfl rfl rfl rfl rfl rfl ?_
      refine b_F rfl rfl rfl rfl rfl rfl ?_
      refine bv rfl (v_pickT rfl rfl rfl) ?_
      refine b_nil (hK _ ?_)
      clear hK K
      exact to_le (s' := ⟨[(1, HV.fptr [slE eStr p0.1, slE eStr p0.2] 0), (4, HV.int .i64 a23), (102, HV.bool true)], []⟩) (AS.le_of ⟨rfl, rfl, rfl, trivial⟩ trivial) ⟨true, (), h, rfl⟩
     have h := ifF hg36 h
     refine b_T rfl rfl rfl rfl (decide_eq_false hg36) (o_val rfl (v_fieldAddrF fo24_1 rfl) ?_)
     refine b_T rfl rfl rfl rfl rfl (o_val rfl (v_loadF ty22 rfl (l_lit rfl rfl)) ?_)
     refine b_T rfl rfl rfl rfl rfl (o_val rfl (mv_val rfl rfl).2 ?_)
     obtain ⟨x34, h35, h⟩ := bS h
     refine b_T rfl rfl rfl rfl rfl (o_val rfl (v_idxF ty22 es22 rfl rfl (idx_lt h35)) ?_)
     refine b_T rfl rfl rfl rfl rfl (o_val rfl (v_loadF ty9 rfl (l_cell eStr h35 (o := 0) rfl rfl)) ?_)
     refine b_T rfl rfl rfl rfl rfl (o_val rfl (v_lenS rfl rfl ty9 rfl) ?_)
     refine b_T rfl rfl rfl rfl rfl (o_val rfl (v_bin rfl rfl b_gtr) ?_)
     refine bv rfl (v_pickF rfl rfl rfl) ?_
     refine b_nil (hK _ ?_)
     clear hK K
     exact to_le (s' := ⟨[(1, HV.fptr [slE eStr p0.1, slE eStr p0.2] 0), (4, HV.int .i64 a23), (102, HV.bool (decide (20 < ((x34).length : Int))))], []⟩) (AS.le_of ⟨rfl, rfl, rfl, trivial⟩ trivial) ⟨decide (20 < ((x34).length : Int)), (), h, rfl⟩
    have h := ifF hg39 h
    refine b_F rfl rfl rfl rfl rfl (decide_eq_false hg39) ?_
    refine b_F rfl rfl rfl rfl rfl rfl ?_
    refine b_F rfl rfl rfl rfl rfl rfl ?_
    refine b_F rfl rfl rfl rfl rfl rfl ?_
    refine b_F rfl rfl rfl rfl rfl rfl ?_
    refine b_F rfl rfl rfl rfl rfl rfl ?_
    refine b_F rfl rfl rfl rfl rfl rfl ?_
    refine bv rfl (v_pickF rfl rfl rfl) ?_
    refine mv rfl rfl ?_
    refine b_T rfl rfl rfl rfl rfl (o_val rfl (v_fieldAddrF fo24_1 rfl) ?_)
    refine b_T rfl rfl rfl rfl rfl (o_val rfl (v_loadF ty22 rfl (l_lit rfl rfl)) ?_)
    refine b_T rfl rfl rfl rfl rfl (o_val rfl (mv_val rfl rfl).2 ?_)
    obtain ⟨x37, h38, h⟩ := bS h
    refine b_T rfl rfl rfl rfl rfl (o_val rfl (v_idxF ty22 es22 rfl rfl (idx_lt h38)) ?_)
    refine b_T rfl rfl rfl rfl rfl (o_val rfl (v_loadF ty9 rfl (l_cell eStr h38 (o := 0) rfl rfl)) ?_)
    refine b_T rfl rfl rfl rfl rfl (o_val rfl (v_lenS rfl rfl ty9 rfl) ?_)
    refine b_T rfl rfl rfl rfl rfl (o_val rfl (v_bin rfl rfl b_gtr) ?_)
    refine bv rfl (v_pickF rfl rfl rfl) ?_
    refine b_nil (hK _ ?_)
    clear hK K
    exact to_le (s' := ⟨[(1, HV.fptr [slE eStr p0.1, slE eStr p0.2] 0), (4, HV.int .i64 a23), (102, HV.bool (decide (20 < ((x37).length : Int))))], []⟩) (AS.le_of ⟨rfl, rfl, rfl, trivial⟩ trivial) ⟨decide (20 < ((x37).length : Int)), (), h, rfl⟩
   have hc := of_decide_eq_false hc
   have h := ifF hc h
   refine AW.exit ?_
   exact to_le (s' := ⟨[], []⟩) (AS.le_of trivial trivial) ⟨(), (), h, rfl⟩
  refine AW.seq ?_
  refine AW.rgs rfl fun K hK => ?_
  refine mv rfl rfl ?_
  refine bv rfl (v_fieldAddrF fo24_0 rfl) ?_
  refine bv rfl (v_loadF ty22 rfl (l_lit rfl rfl)) ?_
  refine bv rfl (v_lenF rfl rfl ty22 rfl) ?_
  refine bv rfl (v_bin rfl rfl b_lss) ?_
  refine b_fin hK (s' := ⟨[(1, HV.fptr [slE eStr p0.1, slE eStr p0.2] 0), (3, HV.int .i64 a4), (43, HV.bool (decide (a4 < ((p0.1).length : Int))))], []⟩) (le_q rfl rfl) ?_
  clear hK K
  refine AW.cond rfl (fun hc => ?_) (fun hc => ?_)
  ·have hc := of_decide_eq_true hc
   have h := ifT hc h
   refine AW.skip ?_
   refine AW.seq (AW.block ?_)
   refine AW.seqJ h (S := Bool) (V := Unit) (fun a v => ⟨[(1, HV.fptr [slE eStr p0.1, slE eStr p0.2] 0), (3, HV.int .i64 a4), (70, HV.bool a)], []⟩) (fun a8 w9 h => ?_) (fun k10 h => ?_)
   ·refine AW.cond rfl (fun hc => ?_) (fun hc => ?_)
    ·have h := ifT hc h
     refine AW.rgs rfl fun K hK => ?_
     refine mv rfl rfl ?_
     refine b_fin hK (s' := ⟨[(2, HV.bool true)], []⟩) (le_q rfl rfl) ?_
     clear hK K
     have h := hr7 _ h
     refine AW.ret ?_
     have h := Option.some.inj h
     subst h
     exact ret_pure (hs := [HV.bool true]) (q := HV.bool true) (.inr rfl) (resT rfl rfl) rfl trivial
    have h := ifF (bF' hc) h
    refine AW.skip ?_
    refine AW.rg rfl fun K hK => ?_
    refine mv rfl rfl ?_
    refine bv rfl (v_bin rfl rfl b_add) ?_
    refine mv rfl rfl ?_
    refine b_nil (hK _ ?_)
    clear hK K
    exact to_le (s' := ⟨[(1, HV.fptr [slE eStr p0.1, slE eStr p0.2] 0), (3, HV.int .i64 (IntKind.wrap .i64 (a4 + 1)))], []⟩) (AS.le_of ⟨rfl, rfl, trivial⟩ trivial) ⟨IntKind.wrap .i64 (a4 + 1), (), h, rfl⟩
   refine AW.rg rfl fun K hK => ?_
   refine bv rfl (v_fieldAddrF fo24_0 rfl) ?_
   refine bv rfl (v_loadF ty22 rfl (l_lit rfl rfl)) ?_
   refine mv rfl rfl ?_
   obtain ⟨x11, h12, h⟩ := bS h
   refine bv rfl (v_idxF ty22 es22 rfl rfl (idx_lt h12)) ?_
   refine bv rfl (v_loadF ty9 rfl (l_cell eStr h12 (o := 0) rfl rfl)) ?_
   refine bv rfl (v_lenS rfl rfl ty9 rfl) ?_
   refine bv rfl (v_bin rfl rfl b_gtr) ?_
   refine mv rfl rfl ?_
   by_cases hg20 : 8 < ((x11).length : Int)
   ·have h := ifT hg20 h
    refine b_T rfl rfl rfl rfl (decide_eq_true hg20) (o_val rfl (v_fieldAddrF fo24_0 rfl) ?_)
    refine b_T rfl rfl rfl rfl rfl (o_val rfl (v_loadF ty22 rfl (l_lit rfl rfl)) ?_)
    refine b_T rfl rfl rfl rfl rfl (o_val rfl (mv_val rfl rfl).2 ?_)
    obtain ⟨x13, h14, h⟩ := bS h
    refine b_T rfl rfl rfl rfl rfl (o_val rfl (v_idxF ty22 es22 rfl rfl (idx_lt h14)) ?_)
    refine b_T rfl rfl rfl rfl rfl (o_val rfl (v_loadF ty9 rfl (l_cell eStr h14 (o := 0) rfl rfl)) ?_)
    refine b_T rfl rfl rfl rfl rfl (o_val rfl (v_lenS rfl rfl ty9 rfl) ?_)
    refine b_T rfl rfl rfl rfl rfl (o_val rfl (v_bin rfl rfl b_leq) ?_)
    refine bv rfl (v_pickT rfl rfl rfl) ?_
    refine mv rfl rfl ?_
    by_cases hg17 : ((x13).length : Int) ≤ 16
    ·have h := ifT hg17 h
     refine b_F rfl rfl rfl rfl rfl (decide_eq_true hg17) ?_
     refine b_F rfl rfl rfl rfl rfl rfl ?_
     refine b_F rfl rfl rfl rfl rfl rfl ?_
     refine b_F rfl rfl rfl rfl rfl rfl ?_
     refine b_F rfl rfl rfl rfl rfl rfl ?_
     refine b_F rfl rfl rfl rfl rfl rfl ?_
     refine b_F rfl rfl rfl rfl rfl rfl ?_
     refine bv rfl (v_pickT rfl rfl rfl) ?_
     refine b_nil (hK _ ?_)
     clear hK K
     exact to_le (s' := ⟨[(1, HV.fptr [slE eStr p0.1, slE eStr p0.2] 0), (3, HV.int .i64 a4), (70, HV.bool true)], []⟩) (AS.le_of ⟨rfl, rfl, rfl, trivial⟩ trivial) ⟨true, (), h, rfl⟩
    have h := ifF hg17 h
    refine b_T rfl rfl rfl rfl (decide_eq_false hg17) (o_val rfl (v_fieldAddrF fo24_0 rfl) ?_)
    refine b_T rfl rfl rfl rfl rfl (o_val rfl (v_loadF ty22 rfl (l_lit rfl rfl)) ?_)
    refine b_T rfl rfl rfl rfl rfl (o_val rfl (mv_val rfl rfl).2 ?_)
    obtain ⟨x15, h16, h⟩ := bS h
    refine b_T rfl rfl rfl rfl rfl (o_val rfl (v_idxF ty22 es22 rfl rfl (idx_lt h16)) ?_)
    refine b_T rfl rfl rfl rfl rfl (o_val rfl (v_loadF ty9 rfl (l_cell eStr h16 (o := 0) rfl rfl)) ?_)
    refine b_T rfl rfl rfl rfl rfl (o_val rfl (v_lenS rfl rfl ty9 rfl) ?_)
    refine b_T rfl rfl rfl rfl rfl (o_val rfl (v_bin rfl rfl b_gtr) ?_)
    refine bv rfl (v_pickF rfl rfl rfl) ?_
    refine b_nil (hK _ ?_)
    clear hK K
    exact to_le (s' := ⟨[(1, HV.fptr [slE eStr p0.1, slE eStr p0.2] 0), (3, HV.int .i64 a4), (70, HV.bool (decide (20 < ((x15).length : Int))))], []⟩) (AS.le_of ⟨rfl, rfl, rfl, trivial⟩ trivial) ⟨decide (20 < ((x15).length : Int)), (), h, rfl⟩
   have h := ifF hg20 h
   refine b_F rfl rfl rfl rfl rfl (decide_eq_false hg20) ?_
   refine b_F rfl rfl rfl rfl rfl rfl ?_
   refine b_F rfl rfl rfl rfl rfl rfl ?_
   refine b_F rfl rfl rfl rfl rfl rfl ?_
   refine b_F rfl rfl rfl rfl rfl rfl ?_
   refine b_F rfl rfl rfl rfl rfl rfl ?_
   refine b_F rfl rfl rfl rfl rfl rfl ?_
   refine bv rfl (v_pickF rfl rfl rfl) ?_
   refine mv rfl rfl ?_
   refine b_T rfl rfl rfl rfl rfl (o_val rfl (v_fieldAddrF fo24_0 rfl) ?_)
   refine b_T rfl rfl rfl rfl rfl (o_val rfl (v_loadF ty22 rfl (l_lit rfl rfl)) ?_)
   refine b_T rfl rfl rfl rfl rfl (o_val rfl (mv_val rfl rfl).2 ?_)
   obtain ⟨x18, h19, h⟩ := bS h
   refine b_T rfl rfl rfl rfl rfl (o_val rfl (v_idxF ty22 es22 rfl rfl (idx_lt h19)) ?_)
   refine b_T rfl rfl rfl rfl rfl (o_val rfl (v_loadF ty9 rfl (l_cell eStr h19 (o := 0) rfl rfl)) ?_)
   refine b_T rfl rfl rfl rfl rfl (o_val rfl (v_lenS rfl rfl ty9 rfl) ?_)
   refine b_T rfl rfl rfl rfl rfl (o_val rfl (v_bin rfl rfl b_gtr) ?_)
   refine bv rfl (v_pickF rfl rfl rfl) ?_
   refine b_nil (hK _ ?_)
   clear hK K
   exact to_le (s' := ⟨[(1, HV.fptr [slE eStr p0.1, slE eStr p0.2] 0), (3, HV.int .i64 a4), (70, HV.bool (decide (20 < ((x18).length : Int))))], []⟩) (AS.le_of ⟨rfl, rfl, rfl, trivial⟩ trivial) ⟨decide (20 < ((x18).length : Int)), (), h, rfl⟩
  have hc := of_decide_eq_false hc
  have h := ifF hc h
  refine AW.exit ?_
  exact to_le (s' := ⟨[(1, HV.fptr [slE eStr p0.1, slE eStr p0.2] 0)], []⟩) (AS.le_of ⟨rfl, trivial⟩ trivial) ⟨(), (), h, rfl⟩
 refine AW.rg rfl fun K hK => ?_
 refine bv rfl (v_fieldAddrF fo24_0 rfl) ?_
 refine bv rfl (v_loadF ty22 rfl (l_lit rfl rfl)) ?_
 refine bv rfl (v_lenF rfl rfl ty22 rfl) ?_
 refine bv rfl (v_bin rfl rfl b_gtr) ?_
 refine mv rfl rfl ?_
 by_cases hg51 : 6 < ((p0.1).length : Int)
 ·have h := ifT hg51 h
  refine b_T rfl rfl rfl rfl (decide_eq_true hg51) (o_val rfl (v_fieldAddrF fo24_0 rfl) ?_)
  refine b_T rfl rfl rfl rfl rfl (o_val rfl (v_loadF ty22 rfl (l_lit rfl rfl)) ?_)
  refine b_T rfl rfl rfl rfl rfl (o_val rfl (v_lenF rfl rfl ty22 rfl) ?_)
  refine b_T rfl rfl rfl rfl rfl (o_val rfl (v_bin rfl rfl b_leq) ?_)
  refine bv rfl (v_pickT rfl rfl rfl) ?_
  refine mv rfl rfl ?_
  by_cases hg46 : ((p0.1).length : Int) ≤ 256
  ·have h := ifT hg46 h
   refine b_F rfl rfl rfl rfl rfl (decide_eq_true hg46) ?_
   refine b_F rfl rfl rfl rfl rfl rfl ?_
   refine b_F rfl rfl rfl rfl rfl rfl ?_
   refine b_F rfl rfl rfl rfl rfl rfl ?_
   refine b_F rfl rfl rfl rfl rfl rfl ?_
   refine b_U rfl rfl rfl rfl rfl ?_
   refine b_U rfl rfl rfl rfl rfl ?_
   refine b_U rfl rfl rfl rfl rfl ?_
   refine b_U rfl rfl rfl rfl rfl ?_
   refine b_F rfl rfl rfl rfl rfl rfl ?_
   refine bv rfl (v_pickT rfl rfl rfl) ?_
   refine mv rfl rfl ?_
   refine b_F rfl rfl rfl rfl rfl rfl ?_
   refine b_F rfl rfl rfl rfl rfl rfl ?_
   refine b_F rfl rfl rfl rfl rfl rfl ?_
   refine b_F rfl rfl rfl rfl rfl rfl ?_
   refine bv rfl (v_pickT rfl rfl rfl) ?_
   refine mv rfl rfl ?_
   refine b_F rfl rfl rfl rfl rfl rfl ?_
   refine b_F rfl rfl rfl rfl rfl rfl ?_
   refine b_F rfl rfl rfl rfl rfl rfl ?_
   refine b_F rfl rfl rfl rfl rfl rfl ?_
   refine bv rfl (v_pickT rfl rfl rfl) ?_
   refine b_nil (hK _ ?_)
   clear hK K
   exact to_le (s' := ⟨[(1, HV.fptr [slE eStr p0.1, slE eStr p0.2] 0), (38, HV.bool true)], []⟩) (AS.le_of ⟨rfl, rfl, trivial⟩ trivial) ⟨true, (), h, rfl⟩
  have h := ifF hg46 h
  refine b_T rfl rfl rfl rfl (decide_eq_false hg46) (o_val rfl (v_fieldAddrF fo24_1 rfl) ?_)
  refine b_T rfl rfl rfl rfl rfl (o_val rfl (v_loadF ty22 rfl (l_lit rfl rfl)) ?_)
  refine b_T rfl rfl rfl rfl rfl (o_val rfl (v_lenF rfl rfl ty22 rfl) ?_)
  refine b_T rfl rfl rfl rfl rfl (o_val rfl (v_bin rfl rfl b_gtr) ?_)
  refine b_T rfl rfl rfl rfl rfl (o_val rfl (mv_val rfl rfl).2 ?_)
  by_cases hg45 : 8 < ((p0.2).length : Int)
  ·have h := ifT hg45 h
   refine b_T rfl rfl rfl rfl (decide_eq_true hg45) (o_val rfl (v_fieldAddrF fo24_1 rfl) ?_)
   refine b_T rfl rfl rfl rfl rfl (o_val rfl (v_loadF ty22 rfl (l_lit rfl rfl)) ?_)
   refine b_T rfl rfl rfl rfl rfl (o_val rfl (v_lenF rfl rfl ty22 rfl) ?_)
   refine b_T rfl rfl rfl rfl rfl (o_val rfl (v_bin rfl rfl b_leq) ?_)
   refine b_T rfl rfl rfl rfl rfl (o_val rfl (v_pickT rfl rfl rfl) ?_)
   refine bv rfl (v_pickF rfl rfl rfl) ?_
   refine mv rfl rfl ?_
   by_cases hg43 : ((p0.2).length : Int) ≤ 256
   ·have h := ifT hg43 h
    refine b_F rfl rfl rfl rfl rfl (decide_eq_true hg43) ?_
    refine b_F rfl rfl rfl rfl rfl rfl ?_
    refine b_F rfl rfl rfl rfl rfl rfl ?_
    refine b_F rfl rfl rfl rfl rfl rfl ?_
    refine bv rfl (v_pickT rfl rfl rfl) ?_
    refine mv rfl rfl ?_
    refine b_F rfl rfl rfl rfl rfl rfl ?_
    refine b_F rfl rfl rfl rfl rfl rfl ?_
    refine b_F rfl rfl rfl rfl rfl rfl ?_
    refine b_F rfl rfl rfl rfl rfl rfl ?_
    refine bv rfl (v_pickT rfl rfl rfl) ?_
    refine b_nil (hK _ ?_)
    clear hK K
    exact to_le (s' := ⟨[(1, HV.fptr [slE eStr p0.1, slE eStr p0.2] 0), (38, HV.bool true)], []⟩) (AS.le_of ⟨rfl, rfl, trivial⟩ trivial) ⟨true, (), h, rfl⟩
   have h := ifF hg43 h
   refine b_T rfl rfl rfl rfl (decide_eq_false hg43) (o_val rfl (v_fieldAddrF fo24_0 rfl) ?_)
   refine b_T rfl rfl rfl rfl rfl (o_val rfl (v_loadF ty22 rfl (l_lit rfl rfl)) ?_)
   refine b_T rfl rfl rfl rfl rfl (o_val rfl (v_lenF rfl rfl ty22 rfl) ?_)
   refine b_T rfl rfl rfl rfl rfl (o_val rfl (v_bin rfl rfl b_gtr) ?_)
   refine bv rfl (v_pickF rfl rfl rfl) ?_
   refine mv rfl rfl ?_
   by_cases hg42 : 259 < ((p0.1).length : Int)
   ·have h := ifT hg42 h
    refine b_F rfl rfl rfl rfl rfl (decide_eq_true hg42) ?_
    refine b_F rfl rfl rfl rfl rfl rfl ?_
    refine b_F rfl rfl rfl rfl rfl rfl ?_
    refine b_F rfl rfl rfl rfl rfl rfl ?_
    refine bv rfl (v_pickT rfl rfl rfl) ?_
    refine b_nil (hK _ ?_)
    clear hK K
    exact to_le (s' := ⟨[(1, HV.fptr [slE eStr p0.1, slE eStr p0.2] 0), (38, HV.bool true)], []⟩) (AS.le_of ⟨rfl, rfl, trivial⟩ trivial) ⟨true, (), h, rfl⟩
   have h := ifF hg42 h
   refine b_T rfl rfl rfl rfl (decide_eq_false hg42) (o_val rfl (v_fieldAddrF fo24_1 rfl) ?_)
   refine b_T rfl rfl rfl rfl rfl (o_val rfl (v_loadF ty22 rfl (l_lit rfl rfl)) ?_)
   refine b_T rfl rfl rfl rfl rfl (o_val rfl (v_lenF rfl rfl ty22 rfl) ?_)
   refine b_T rfl rfl rfl rfl rfl (o_val rfl (v_bin rfl rfl b_gtr) ?_)
   refine bv rfl (v_pickF rfl rfl rfl) ?_
   refine b_nil (hK _ ?_)
   clear hK K
   exact to_le (s' := ⟨[(1, HV.fptr [slE eStr p0.1, slE eStr p0.2] 0), (38, HV.bool (decide (259 < ((p0.2).length : Int))))], []⟩) (AS.le_of ⟨rfl, rfl, trivial⟩ trivial) ⟨decide (259 < ((p0.2).length : Int)), (), h, rfl⟩
  have h := ifF hg45 h
  refine b_F rfl rfl rfl rfl rfl (decide_eq_false hg45) ?_
  refine b_F rfl rfl rfl rfl rfl rfl ?_
  refine b_F rfl rfl rfl rfl rfl rfl ?_
  refine b_F rfl rfl rfl rfl rfl rfl ?_
  refine b_T rfl rfl rfl rfl rfl (o_val rfl (v_pickF rfl rfl rfl) ?_)
  refine bv rfl (v_pickF rfl rfl rfl) ?_
  refine mv rfl rfl ?_
  refine b_T rfl rfl rfl rfl rfl (o_val rfl (v_fieldAddrF fo24_0 rfl) ?_)
  refine b_T rfl rfl rfl rfl rfl (o_val rfl (v_loadF ty22 rfl (l_lit rfl rfl)) ?_)
  refine b_T rfl rfl rfl rfl rfl (o_val rfl (v_lenF rfl rfl ty22 rfl) ?_)
  refine b_T rfl rfl rfl rfl rfl (o_val rfl (v_bin rfl rfl b_gtr) ?_)
  refine bv rfl (v_pickF rfl rfl rfl) ?_
  refine mv rfl rfl ?_
  by_cases hg44 : 259 < ((p0.1).length : Int)
  ·have h := ifT hg44 h
   refine b_F rfl rfl rfl rfl rfl (decide_eq_true hg44) ?_
   refine b_F rfl rfl rfl rfl rfl rfl ?_
   refine b_F rfl rfl rfl rfl rfl rfl ?_
   refine b_F rfl rfl rfl rfl rfl rfl ?_
   refine bv rfl (v_pickT rfl rfl rfl) ?_
   refine b_nil (hK _ ?_)
   clear hK K
   exact to_le (s' := ⟨[(1, HV.fptr [slE eStr p0.1, slE eStr p0.2] 0), (38, HV.bool true)], []⟩) (AS.le_of ⟨rfl, rfl, trivial⟩ trivial) ⟨true, (), h, rfl⟩
  have h := ifF hg44 h
  refine b_T rfl rfl rfl rfl (decide_eq_false hg44) (o_val rfl (v_fieldAddrF fo24_1 rfl) ?_)
  refine b_T rfl rfl rfl rfl rfl (o_val rfl (v_loadF ty22 rfl (l_lit rfl rfl)) ?_)
  refine b_T rfl rfl rfl rfl rfl (o_val rfl (v_lenF rfl rfl ty22 rfl) ?_)
  refine b_T rfl rfl rfl rfl rfl (o_val rfl (v_bin rfl rfl b_gtr) ?_)
  refine bv rfl (v_pickF rfl rfl rfl) ?_
  refine b_nil (hK _ ?_)
  clear hK K
  exact to_le (s' := ⟨[(1, HV.fptr [slE eStr p0.1, slE eStr p0.2] 0), (38, HV.bool (decide (259 < ((p0.2).length : Int))))], []⟩) (AS.le_of ⟨rfl, rfl, trivial⟩ trivial) ⟨decide (259 < ((p0.2).length : Int)), (), h, rfl⟩
 have h := ifF hg51 h
 refine b_F rfl rfl rfl rfl rfl (decide_eq_false hg51) ?_
 refine b_F rfl rfl rfl rfl rfl rfl ?_
 refine b_F rfl rfl rfl rfl rfl rfl ?_
 refine b_F rfl rfl rfl rfl rfl rfl ?_
 refine bv rfl (v_pickF rfl rfl rfl) ?_
 refine mv rfl rfl ?_
 refine b_T rfl rfl rfl rfl rfl (o_val rfl (v_fieldAddrF fo24_1 rfl) ?_)
 refine b_T rfl rfl rfl rfl rfl (o_val rfl (v_loadF ty22 rfl (l_lit rfl rfl)) ?_)
 refine b_T rfl rfl rfl rfl rfl (o_val rfl (v_lenF rfl rfl ty22 rfl) ?_)
 refine b_T rfl rfl rfl rfl rfl (o_val rfl (v_bin rfl rfl b_gtr) ?_)
 refine b_T rfl rfl rfl rfl rfl (o_val rfl (mv_val rfl rfl).2 ?_)
 by_cases hg50 : 8 < ((p0.2).length : Int)
 ·have h := ifT hg50 h
  refine b_T rfl rfl rfl rfl (decide_eq_true hg50) (o_val rfl (v_fieldAddrF fo24_1 rfl) ?_)
  refine b_T rfl rfl rfl rfl rfl (o_val rfl (v_loadF ty22 rfl (l_lit rfl rfl)) ?_)
  refine b_T rfl rfl rfl rfl rfl (o_val rfl (v_lenF rfl rfl ty22 rfl) ?_)
  refine b_T rfl rfl rfl rfl rfl (o_val rfl (v_bin rfl rfl b_leq) ?_)
  refine b_T rfl rfl rfl rfl rfl (o_val rfl (v_pickT rfl rfl rfl) ?_)
  refine bv rfl (v_pickF rfl rfl rfl) ?_
  refine mv rfl rfl ?_
  by_cases hg48 : ((p0.2).length : Int) ≤ 256
  ·have h := ifT hg48 h
   refine b_F rfl rfl rfl rfl rfl (decide_eq_true hg48) ?_
   refine b_F rfl rfl rfl rfl rfl rfl ?_
   refine b_F rfl rfl rfl rfl rfl rfl ?_
   refine b_F rfl rfl rfl rfl rfl rfl ?_
   refine bv rfl (v_pickT rfl rfl rfl) ?_
   refine mv rfl rfl ?_
   refine b_F rfl rfl rfl rfl rfl rfl ?_
   refine b_F rfl rfl rfl rfl rfl rfl ?_
   refine b_F rfl rfl rfl rfl rfl rfl ?_
   refine b_F rfl rfl rfl rfl rfl rfl ?_
   refine bv rfl (v_pickT rfl rfl rfl) ?_
   refine b_nil (hK _ ?_)
   clear hK K
   exact to_le (s' := ⟨[(1, HV.fptr [slE eStr p0.1, slE eStr p0.2] 0), (38, HV.bool true)], []⟩) (AS.le_of ⟨rfl, rfl, trivial⟩ trivial) ⟨true, (), h, rfl⟩
  have h := ifF hg48 h
  refine b_T rfl rfl rfl rfl (decide_eq_false hg48) (o_val rfl (v_fieldAddrF fo24_0 rfl) ?_)
  refine b_T rfl rfl rfl rfl rfl (o_val rfl (v_loadF ty22 rfl (l_lit rfl rfl)) ?_)
  refine b_T rfl rfl rfl rfl rfl (o_val rfl (v_lenF rfl rfl ty22 rfl) ?_)
  refine b_T rfl rfl rfl rfl rfl (o_val rfl (v_bin rfl rfl b_gtr) ?_)
  refine bv rfl (v_pickF rfl rfl rfl) ?_
  refine mv rfl rfl ?_
  by_cases hg47 : 259 < ((p0.1).length : Int)
  ·have h := ifT hg47 h
   refine b_F rfl rfl rfl rfl rfl (decide_eq_true hg47) ?_
   refine b_F rfl rfl rfl rfl rfl rfl ?_
   refine b_F rfl rfl rfl rfl rfl rfl ?_
   refine b_F rfl rfl rfl rfl rfl rfl ?_
   refine bv rfl (v_pickT rfl rfl rfl) ?_
   refine b_nil (hK _ ?_)
   clear hK K
   exact to_le (s' := ⟨[(1, HV.fptr [slE eStr p0.1, slE eStr p0.2] 0), (38, HV.bool true)], []⟩) (AS.le_of ⟨rfl, rfl, trivial⟩ trivial) ⟨true, (), h, rfl⟩
  have h := ifF hg47 h
  refine b_T rfl rfl rfl rfl (decide_eq_false hg47) (o_val rfl (v_fieldAddrF fo24_1 rfl) ?_)
  refine b_T rfl rfl rfl rfl rfl (o_val rfl (v_loadF ty22 rfl (l_lit rfl rfl)) ?_)
  refine b_T rfl rfl rfl rfl rfl (o_val rfl (v_lenF rfl rfl ty22 rfl) ?_)
  refine b_T rfl rfl rfl rfl rfl (o_val rfl (v_bin rfl rfl b_gtr) ?_)
  refine bv rfl (v_pickF rfl rfl rfl) ?_
  refine b_nil (hK _ ?_)
  clear hK K
  exact to_le (s' := ⟨[(1, HV.fptr [slE eStr p0.1, slE eStr p0.2] 0), (38, HV.bool (decide (259 < ((p0.2).length : Int))))], []⟩) (AS.le_of ⟨rfl, rfl, trivial⟩ trivial) ⟨decide (259 < ((p0.2).length : Int)), (), h, rfl⟩
 have h := ifF hg50 h
 refine b_F rfl rfl rfl rfl rfl (decide_eq_false hg50) ?_
 refine b_F rfl rfl rfl rfl rfl rfl ?_
 refine b_F rfl rfl rfl rfl rfl rfl ?_
 refine b_F rfl rfl rfl rfl rfl rfl ?_
 refine b_T rfl rfl rfl rfl rfl (o_val rfl (v_pickF rfl rfl rfl) ?_)
 refine bv rfl (v_pickF rfl rfl rfl) ?_
 refine mv rfl rfl ?_
 refine b_T rfl rfl rfl rfl rfl (o_val rfl (v_fieldAddrF fo24_0 rfl) ?_)
 refine b_T rfl rfl rfl rfl rfl (o_val rfl (v_loadF ty22 rfl (l_lit rfl rfl)) ?_)
 refine b_T rfl rfl rfl rfl rfl (o_val rfl (v_lenF rfl rfl ty22 rfl) ?_)
 refine b_T rfl rfl rfl rfl rfl (o_val rfl (v_bin rfl rfl b_gtr) ?_)
 refine bv rfl (v_pickF rfl rfl rfl) ?_
 refine mv rfl rfl ?_
 by_cases hg49 : 259 < ((p0.1).length : Int)
 ·have h := ifT hg49 h
  refine b_F rfl rfl rfl rfl rfl (decide_eq_true hg49) ?_
  refine b_F rfl rfl rfl rfl rfl rfl ?_
  refine b_F rfl rfl rfl rfl rfl rfl ?_
  refine b_F rfl rfl rfl rfl rfl rfl ?_
  refine bv rfl (v_pickT rfl rfl rfl) ?_
  refine b_nil (hK _ ?_)
  clear hK K
  exact to_le (s' := ⟨[(1, HV.fptr [slE eStr p0.1, slE eStr p0.2] 0), (38, HV.bool true)], []⟩) (AS.le_of ⟨rfl, rfl, trivial⟩ trivial) ⟨true, (), h, rfl⟩
 have h := ifF hg49 h
 refine b_T rfl rfl rfl rfl (decide_eq_false hg49) (o_val rfl (v_fieldAddrF fo24_1 rfl) ?_)
 refine b_T rfl rfl rfl rfl rfl (o_val rfl (v_loadF ty22 rfl (l_lit rfl rfl)) ?_)
 refine b_T rfl rfl rfl rfl rfl (o_val rfl (v_lenF rfl rfl ty22 rfl) ?_)
 refine b_T rfl rfl rfl rfl rfl (o_val rfl (v_bin rfl rfl b_gtr) ?_)
 refine bv rfl (v_pickF rfl rfl rfl) ?_
 refine b_nil (hK _ ?_)
 clear hK K
 exact to_le (s' := ⟨[(1, HV.fptr [slE eStr p0.1, slE eStr p0.2] 0), (38, HV.bool (decide (259 < ((p0.2).length : Int))))], []⟩) (AS.le_of ⟨rfl, rfl, trivial⟩ trivial) ⟨decide (259 < ((p0.2).length : Int)), (), h, rfl⟩

set_option maxHeartbeats 1600000 in
set_option maxRecDepth 100000 in
theorem w_ref11_Great {p0 : TLabelsStatesEdges} {r : Bool} (h : m_ref11_Great p0 = some r) : Pure Tryz.prog 45 [HV.agg [HV.int .i64 p0.1, HV.int .i64 p0.2.1, slE eFromLabelTo p0.2.2]] (· = HV.bool r) := by
 unfold m_ref11_Great at h
 refine Pure.of_body Tryz.func45 rfl rfl (Nat.le_of_ble_eq_true rfl) fun hf => ?_
 unfold Tryz.f45
 dsimp only [enumS, Nat.reduceAdd]
 refine AW.rgs rfl fun K hK => ?_
 refine b_op rfl (o_box rfl rfl rfl ?_)
 refine mv rfl rfl ?_
 refine b_fin hK (s' := ⟨[(1, HV.fptr [HV.int .i64 p0.1, HV.int .i64 p0.2.1, slE eFromLabelTo p0.2.2] 0)], []⟩) (le_q rfl rfl) ?_
 clear hK K
 refine AW.seqJ h (S := Bool) (V := Unit) (fun a v => ⟨[(2, HV.bool a)], []⟩) (fun a1 w2 h => ?_) (fun k3 h => ?_)
 ·refine AW.ret ?_
  have h := Option.some.inj h
  subst h
  exact ret_pure (hs := [HV.bool a1]) (q := HV.bool a1) (.inr rfl) (resT rfl rfl) rfl trivial
 refine AW.rg rfl fun K hK => ?_
 refine bv rfl (v_fieldAddrF fo27_1 rfl) ?_
 refine bv rfl (v_loadF ty3 rfl (l_lit rfl rfl)) ?_
 refine bv rfl (v_bin rfl rfl b_gtr) ?_
 refine mv rfl rfl ?_
 by_cases hg9 : 8 < p0.2.1
 ·have h := ifT hg9 h
  refine b_T rfl rfl rfl rfl (decide_eq_true hg9) (o_val rfl (v_fieldAddrF fo27_1 rfl) ?_)
  refine b_T rfl rfl rfl rfl rfl (o_val rfl (v_loadF ty3 rfl (l_lit rfl rfl)) ?_)
  refine b_T rfl rfl rfl rfl rfl (o_val rfl (v_bin rfl rfl b_leq) ?_)
  refine bv rfl (v_pickT rfl rfl rfl) ?_
  refine mv rfl rfl ?_
  by_cases hg6 : p0.2.1 ≤ 64
  ·have h := ifT hg6 h
   refine b_F rfl rfl rfl rfl rfl (decide_eq_true hg6) ?_
   refine b_F rfl rfl rfl rfl rfl rfl ?_
   refine b_F rfl rfl rfl rfl rfl rfl ?_
   refine b_F rfl rfl rfl rfl rfl rfl ?_
   refine b_F rfl rfl rfl rfl rfl rfl ?_
   refine b_U rfl rfl rfl rfl rfl ?_
   refine b_U rfl rfl rfl rfl rfl ?_
   refine b_U rfl rfl rfl rfl rfl ?_
   refine b_U rfl rfl rfl rfl rfl ?_
   refine b_F rfl rfl rfl rfl rfl rfl ?_
   refine bv rfl (v_pickT rfl rfl rfl) ?_
   refine mv rfl rfl ?_
   refine b_F rfl rfl rfl rfl rfl rfl ?_
   refine b_F rfl rfl rfl rfl rfl rfl ?_
   refine b_F rfl rfl rfl rfl rfl rfl ?_
   refine b_F rfl rfl rfl rfl rfl rfl ?_
   refine bv rfl (v_pickT rfl rfl rfl) ?_
   refine mv rfl rfl ?_
   refine b_nil (hK _ ?_)
   clear hK K
   exact to_le (s' := ⟨[(2, HV.bool true)], []⟩) (AS.le_of ⟨rfl, trivial⟩ trivial) ⟨true, (), h, rfl⟩
  have h := ifF hg6 h
  refine b_T rfl rfl rfl rfl (decide_eq_false hg6) (o_val rfl (v_fieldAddrF fo27_2 rfl) ?_)
  refine b_T rfl rfl rfl rfl rfl (o_val rfl (v_loadF ty25 rfl (l_lit rfl rfl)) ?_)
  refine b_T rfl rfl rfl rfl rfl (o_val rfl (v_lenF rfl rfl ty25 rfl) ?_)
  refine b_T rfl rfl rfl rfl rfl (o_val rfl (v_bin rfl rfl b_gtr) ?_)
  refine b_T rfl rfl rfl rfl rfl (o_val rfl (mv_val rfl rfl).2 ?_)
  by_cases hg5 : 30 < ((p0.2.2).length : Int)
  ·have h := ifT hg5 h
   refine b_T rfl rfl rfl rfl (decide_eq_true hg5) (o_val rfl (v_fieldAddrF fo27_2 rfl) ?_)
   refine b_T rfl rfl rfl rfl rfl (o_val rfl (v_loadF ty25 rfl (l_lit rfl rfl)) ?_)
   refine b_T rfl rfl rfl rfl rfl (o_val rfl (v_lenF rfl rfl ty25 rfl) ?_)
   refine b_T rfl rfl rfl rfl rfl (o_val rfl (v_bin rfl rfl b_leq) ?_)
   refine b_T rfl rfl rfl rfl rfl (o_val rfl (v_pickT rfl rfl rfl) ?_)
   refine bv rfl (v_pickF rfl rfl rfl) ?_
   refine mv rfl rfl ?_
   by_cases hg4 : ((p0.2.2).length : Int) ≤ 1024
   ·have h := ifT hg4 h
    refine b_F rfl rfl rfl rfl rfl (decide_eq_true hg4) ?_
    refine b_F rfl rfl rfl rfl rfl rfl ?_
    refine b_F rfl rfl rfl rfl rfl rfl ?_
    refine b_F rfl rfl rfl rfl rfl rfl ?_
    refine bv rfl (v_pickT rfl rfl rfl) ?_
    refine mv rfl rfl ?_
    refine b_nil (hK _ ?_)
    clear hK K
    exact to_le (s' := ⟨[(2, HV.bool true)], []⟩) (AS.le_of ⟨rfl, trivial⟩ trivial) ⟨true, (), h, rfl⟩
   have h := ifF hg4 h
   refine b_T rfl rfl rfl rfl (decide_eq_false hg4) (o_val rfl (v_fieldAddrF fo27_2 rfl) ?_)
   refine b_T rfl rfl rfl rfl rfl (o_val rfl (v_loadF ty25 rfl (l_lit rfl rfl)) ?_)
   refine b_T rfl rfl rfl rfl rfl (o_val rfl (v_lenF rfl rfl ty25 rfl) ?_)
   refine b_T rfl rfl rfl rfl rfl (o_val rfl (v_bin rfl rfl b_gtr) ?_)
   refine bv rfl (v_pickF rfl rfl rfl) ?_
   refine mv rfl rfl ?_
   refine b_nil (hK _ ?_)
   clear hK K
   exact to_le (s' := ⟨[(2, HV.bool (decide (1027 < ((p0.2.2).length : Int))))], []⟩) (AS.le_of ⟨rfl, trivial⟩ trivial) ⟨decide (1027 < ((p0.2.2).length : Int)), (), h, rfl⟩
  have h := ifF hg5 h
  refine b_F rfl rfl rfl rfl rfl (decide_eq_false hg5) ?_
  refine b_F rfl rfl rfl rfl rfl rfl ?_
  refine b_F rfl rfl rfl rfl rfl rfl ?_
  refine b_F rfl rfl rfl rfl rfl rfl ?_
  refine b_T rfl rfl rfl rfl rfl (o_val rfl (v_pickF rfl rfl rfl) ?_)
  refine bv rfl (v_pickF rfl rfl rfl) ?_
  refine mv rfl rfl ?_
  refine b_T rfl rfl rfl rfl rfl (o_val rfl (v_fieldAddrF fo27_2 rfl) ?_)
  refine b_T rfl rfl rfl rfl rfl (o_val rfl (v_loadF ty25 rfl (l_lit rfl rfl)) ?_)
  refine b_T rfl rfl rfl rfl rfl (o_val rfl (v_lenF rfl rfl ty25 rfl) ?_)
  refine b_T rfl rfl rfl rfl rfl (o_val rfl (v_bin rfl rfl b_gtr) ?_)
  refine bv rfl (v_pickF rfl rfl rfl) ?_
  refine mv rfl rfl ?_
  refine b_nil (hK _ ?_)
  clear hK K
  exact to_le (s' := ⟨[(2, HV.bool (decide (1027 < ((p0.2.2).length : Int))))], []⟩) (AS.le_of ⟨rfl, trivial⟩ trivial) ⟨decide (1027 < ((p0.2.2).length : Int)), (), h, rfl⟩
 have h := ifF hg9 h
 refine b_F rfl rfl rfl rfl rfl (decide_eq_false hg9) ?_
 refine b_F rfl rfl rfl rfl rfl rfl ?_
 refine b_F rfl rfl rfl rfl rfl rfl ?_
 refine bv rfl (v_pickF rfl rfl rfl) ?_
 refine mv rfl rfl ?_
 refine b_T rfl rfl rfl rfl rfl (o_val rfl (v_fieldAddrF fo27_2 rfl) ?_)
 refine b_T rfl rfl rfl rfl rfl (o_val rfl (v_loadF ty25 rfl (l_lit rfl rfl)) ?_)
 refine b_T rfl rfl rfl rfl rfl (o_val rfl (v_lenF rfl rfl ty25 rfl) ?_)
 refine b_T rfl rfl rfl rfl rfl (o_val rfl (v_bin rfl rfl b_gtr) ?_)
 refine b_T rfl rfl rfl rfl rfl (o_val rfl (mv_val rfl rfl).2 ?_)
 by_cases hg8 : 30 < ((p0.2.2).length : Int)
 ·have h := ifT hg8 h
  refine b_T rfl rfl rfl rfl (decide_eq_true hg8) (o_val rfl (v_fieldAddrF fo27_2 rfl) ?_)
  refine b_T rfl rfl rfl rfl rfl (o_val rfl (v_loadF ty25 rfl (l_lit rfl rfl)) ?_)
  refine b_T rfl rfl rfl rfl rfl (o_val rfl (v_lenF rfl rfl ty25 rfl) ?_)
  refine b_T rfl rfl rfl rfl rfl (o_val rfl (v_bin rfl rfl b_leq) ?_)
  refine b_T rfl rfl rfl rfl rfl (o_val rfl (v_pickT rfl rfl rfl) ?_)
  refine bv rfl (v_pickF rfl rfl rfl) ?_
  refine mv rfl rfl ?_
  by_cases hg7 : ((p0.2.2).length : Int) ≤ 1024
  ·have h := ifT hg7 h
   refine b_F rfl rfl rfl rfl rfl (decide_eq_true hg7) ?_
   refine b_F rfl rfl rfl rfl rfl rfl ?_
   refine b_F rfl rfl rfl rfl rfl rfl ?_
   refine b_F rfl rfl rfl rfl rfl rfl ?_
   refine bv rfl (v_pickT rfl rfl rfl) ?_
   refine mv rfl rfl ?_
   refine b_nil (hK _ ?_)
   clear hK K
   exact to_le (s' := ⟨[(2, HV.bool true)], []⟩) (AS.le_of ⟨rfl, trivial⟩ trivial) ⟨true, (), h, rfl⟩
  have h := ifF hg7 h
  refine b_T rfl rfl rfl rfl (decide_eq_false hg7) (o_val rfl (v_fieldAddrF fo27_2 rfl) ?_)
  refine b_T rfl rfl rfl rfl rfl (o_val rfl (v_loadF ty25 rfl (l_lit rfl rfl)) ?_)
  refine b_T rfl rfl rfl rfl rfl (o_val rfl (v_lenF rfl rfl ty25 rfl) ?_)
  refine b_T rfl rfl rfl rfl rfl (o_val rfl (v_bin rfl rfl b_gtr) ?_)
  refine bv rfl (v_pickF rfl rfl rfl) ?_
  refine mv rfl rfl ?_
  refine b_nil (hK _ ?_)
  clear hK K
  exact to_le (s' := ⟨[(2, HV.bool (decide (1027 < ((p0.2.2).length : Int))))], []⟩) (AS.le_of ⟨rfl, trivial⟩ trivial) ⟨decide (1027 < ((p0.2.2).length : Int)), (), h, rfl⟩
 have h := ifF hg8 h
 refine b_F rfl rfl rfl rfl rfl (decide_eq_false hg8) ?_
 refine b_F rfl rfl rfl rfl rfl rfl ?_
 refine b_F rfl rfl rfl rfl rfl rfl ?_
 refine b_F rfl rfl rfl rfl rfl rfl ?_
 refine b_T rfl rfl rfl rfl rfl (o_val rfl (v_pickF rfl rfl rfl) ?_)
 refine bv rfl (v_pickF rfl rfl rfl) ?_
 refine mv rfl rfl ?_
 refine b_T rfl rfl rfl rfl rfl (o_val rfl (v_fieldAddrF fo27_2 rfl) ?_)
 refine b_T rfl rfl rfl rfl rfl (o_val rfl (v_loadF ty25 rfl (l_lit rfl rfl)) ?_)
 refine b_T rfl rfl rfl rfl rfl (o_val rfl (v_lenF rfl rfl ty25 rfl) ?_)
 refine b_T rfl rfl rfl rfl rfl (o_val rfl (v_bin rfl rfl b_gtr) ?_)
 refine bv rfl (v_pickF rfl rfl rfl) ?_
 refine mv rfl rfl ?_
 refine b_nil (hK _ ?_)
 clear hK K
 exact to_le (s' := ⟨[(2, HV.bool (decide (1027 < ((p0.2.2).length : Int))))], []⟩) (AS.le_of ⟨rfl, trivial⟩ trivial) ⟨decide (1027 < ((p0.2.2).length : Int)), (), h, rfl⟩

set_option maxHeartbeats 1600000 in
set_option maxRecDepth 100000 in
theorem w_law31_great {p0 : TWordsMerges} {p1 : TLabelsStatesEdges} {r : Bool} (h : m_law31_great p0 p1 = some r) : Pure Tryz.prog 29 [HV.agg [slE eStr p0.1, slE eStr p0.2], HV.agg [HV.int .i64 p1.1, HV.int .i64 p1.2.1, slE eFromLabelTo p1.2.2]] (· = HV.bool r) := by
 unfold m_law31_great at h
 refine Pure.of_body Tryz.func29 rfl rfl (Nat.le_of_ble_eq_true rfl) fun hf => ?_
 unfold Tryz.f29
 dsimp only [enumS, Nat.reduceAdd]
 refine AW.rgs rfl fun K hK => ?_
 refine b_op rfl (o_box rfl rfl rfl ?_)
 refine b_op rfl (o_box rfl rfl rfl ?_)
 refine mv rfl rfl ?_
 refine b_fin hK (s' := ⟨[(2, HV.fptr [slE eStr p0.1, slE eStr p0.2] 0), (3, HV.fptr [HV.int .i64 p1.1, HV.int .i64 p1.2.1, slE eFromLabelTo p1.2.2] 0)], []⟩) (le_q rfl rfl) ?_
 clear hK K
 refine AW.seqJ h (S := Bool) (V := Unit) (fun a v => ⟨[(4, HV.bool a)], []⟩) (fun a1 w2 h => ?_) (fun k3 h => ?_)
 ·refine AW.ret ?_
  have h := Option.some.inj h
  subst h
  exact ret_pure (hs := [HV.bool a1]) (q := HV.bool a1) (.inr rfl) (resT rfl rfl) rfl trivial
 refine AW.rg rfl fun K hK => ?_
 refine bv rfl (v_loadF ty24 rfl (l_litA rfl (Nat.le_of_ble_eq_true rfl) rfl)) ?_
 obtain ⟨x4, h5, h⟩ := bS h
 refine b_op rfl (o_call rfl rfl rfl rfl (ACallD.pure0 (w_ref31_Great h5)) ?_)
 refine mv rfl rfl ?_
 by_cases hg8 : x4 = true
 ·have h := ifT hg8 h
  refine b_F rfl rfl rfl rfl rfl hg8 ?_
  refine b_F rfl rfl rfl rfl rfl rfl ?_
  refine bv rfl (v_pickT rfl rfl rfl) ?_
  refine mv rfl rfl ?_
  refine b_nil (hK _ ?_)
  clear hK K
  exact to_le (s' := ⟨[(4, HV.bool true)], []⟩) (AS.le_of ⟨rfl, trivial⟩ trivial) ⟨true, (), h, rfl⟩
 have h := ifF hg8 h
 refine b_T rfl rfl rfl rfl (bF hg8) (o_val rfl (v_loadF ty27 rfl (l_litA rfl (Nat.le_of_ble_eq_true rfl) rfl)) ?_)
 obtain ⟨x6, h7, h⟩ := bS h
 refine b_T rfl rfl rfl rfl rfl (o_call rfl rfl rfl rfl (ACallD.pure0 (w_ref11_Great h7)) ?_)
 refine bv rfl (v_pickF rfl rfl rfl) ?_
 refine mv rfl rfl ?_
 refine b_nil (hK _ ?_)
 clear hK K
 exact to_le (s' := ⟨[(4, HV.bool x6)], []⟩) (AS.le_of ⟨rfl, trivial⟩ trivial) ⟨x6, (), h, rfl⟩

set_option maxHeartbeats 1600000 in
set_option maxRecDepth 100000 in
theorem w_law31_valid {p0 : TWordsMerges} {p1 : TLabelsStatesEdges} {r : Bool} (h : m_law31_valid p0 p1 = some r) : Pure Tryz.prog 12 [HV.agg [slE eStr p0.1, slE eStr p0.2], HV.agg [HV.int .i64 p1.1, HV.int .i64 p1.2.1, slE eFromLabelTo p1.2.2]] (· = HV.bool r) := by
 unfold m_law31_valid at h
 refine Pure.of_body Tryz.func12 rfl rfl (Nat.le_of_ble_eq_true rfl) fun hf => ?_
 unfold Tryz.f12
 dsimp only [enumS, Nat.reduceAdd]
 refine AW.rgs rfl fun K hK => ?_
 refine b_op rfl (o_box rfl rfl rfl ?_)
 refine b_op rfl (o_box rfl rfl rfl ?_)
 refine mv rfl rfl ?_
 refine b_fin hK (s' := ⟨[(2, HV.fptr [slE eStr p0.1, slE eStr p0.2] 0), (3, HV.fptr [HV.int .i64 p1.1, HV.int .i64 p1.2.1, slE eFromLabelTo p1.2.2] 0)], []⟩) (le_q rfl rfl) ?_
 clear hK K
 refine AW.seqJ h (S := Bool) (V := Unit) (fun a v => ⟨[(4, HV.bool a)], []⟩) (fun a1 w2 h => ?_) (fun k3 h => ?_)
 ·refine AW.ret ?_
  have h := Option.some.inj h
  subst h
  exact ret_pure (hs := [HV.bool a1]) (q := HV.bool a1) (.inr rfl) (resT rfl rfl) rfl trivial
 refine AW.rg rfl fun K hK => ?_
 refine bv rfl (v_loadF ty24 rfl (l_litA rfl (Nat.le_of_ble_eq_true rfl) rfl)) ?_
 refine bv rfl (v_loadF ty27 rfl (l_litA rfl (Nat.le_of_ble_eq_true rfl) rfl)) ?_
 obtain ⟨x4, h5, h⟩ := bS h
 refine b_op rfl (o_call rfl rfl rfl rfl (ACallD.pure0 (w_law31_great h5)) ?_)
 refine bv rfl (v_not rfl) ?_
 refine mv rfl rfl ?_
 by_cases hg10 : (!x4) = true
 ·have h := ifT hg10 h
  refine b_T rfl rfl rfl rfl hg10 (o_val rfl (v_loadF ty24 rfl (l_litA rfl (Nat.le_of_ble_eq_true rfl) rfl)) ?_)
  refine b_T rfl rfl rfl rfl rfl (o_val rfl (v_loadF ty27 rfl (l_litA rfl (Nat.le_of_ble_eq_true rfl) rfl)) ?_)
  obtain ⟨x6, h7, h⟩ := bS h
  refine b_T rfl rfl rfl rfl rfl (o_call rfl rfl rfl rfl (ACallD.pure0 (w_merging_Check h7)) ?_)
  refine b_T rfl rfl rfl rfl rfl (o_val rfl (v_bin rfl rfl b_eql) ?_)
  refine bv rfl (v_pickT rfl rfl rfl) ?_
  refine mv rfl rfl ?_
  by_cases hg9 : x6 = 0
  ·have h := ifT hg9 h
   refine b_T rfl rfl rfl rfl (decide_eq_true hg9) (o_val rfl (v_fieldAddrF fo24_0 rfl) ?_)
   refine b_T rfl rfl rfl rfl rfl (o_val rfl (v_loadF ty22 rfl (l_lit rfl rfl)) ?_)
   refine b_T rfl rfl rfl rfl rfl (o_val rfl (v_lenF rfl rfl ty22 rfl) ?_)
   refine b_T rfl rfl rfl rfl rfl (o_val rfl (v_bin rfl rfl b_gtr) ?_)
   refine bv rfl (v_pickT rfl rfl rfl) ?_
   refine mv rfl rfl ?_
   by_cases hg8 : 0 < ((p0.1).length : Int)
   ·have h := ifT hg8 h
    refine b_T rfl rfl rfl rfl (decide_eq_true hg8) (o_val rfl (v_fieldAddrF fo24_1 rfl) ?_)
    refine b_T rfl rfl rfl rfl rfl (o_val rfl (v_loadF ty22 rfl (l_lit rfl rfl)) ?_)
    refine b_T rfl rfl rfl rfl rfl (o_val rfl (v_lenF rfl rfl ty22 rfl) ?_)
    refine b_T rfl rfl rfl rfl rfl (o_val rfl (v_bin rfl rfl b_gtr) ?_)
    refine bv rfl (v_pickT rfl rfl rfl) ?_
    refine mv rfl rfl ?_
    refine b_nil (hK _ ?_)
    clear hK K
    exact to_le (s' := ⟨[(4, HV.bool (decide (0 < ((p0.2).length : Int))))], []⟩) (AS.le_of ⟨rfl, trivial⟩ trivial) ⟨decide (0 < ((p0.2).length : Int)), (), h, rfl⟩
   have h := ifF hg8 h
   refine b_F rfl rfl rfl rfl rfl (decide_eq_false hg8) ?_
   refine b_F rfl rfl rfl rfl rfl rfl ?_
   refine b_F rfl rfl rfl rfl rfl rfl ?_
   refine b_F rfl rfl rfl rfl rfl rfl ?_
   refine bv rfl (v_pickF rfl rfl rfl) ?_
   refine mv rfl rfl ?_
   refine b_nil (hK _ ?_)
   clear hK K
   exact to_le (s' := ⟨[(4, HV.bool false)], []⟩) (AS.le_of ⟨rfl, trivial⟩ trivial) ⟨false, (), h, rfl⟩
  have h := ifF hg9 h
  refine b_F rfl rfl rfl rfl rfl (decide_eq_false hg9) ?_
  refine b_F rfl rfl rfl rfl rfl rfl ?_
  refine b_F rfl rfl rfl rfl rfl rfl ?_
  refine b_F rfl rfl rfl rfl rfl rfl ?_
  refine bv rfl (v_pickF rfl rfl rfl) ?_
  refine mv rfl rfl ?_
  refine b_F rfl rfl rfl rfl rfl rfl ?_
  refine b_F rfl rfl rfl rfl rfl rfl ?_
  refine b_F rfl rfl rfl rfl rfl rfl ?_
  refine b_F rfl rfl rfl rfl rfl rfl ?_
  refine bv rfl (v_pickF rfl rfl rfl) ?_
  refine mv rfl rfl ?_
  refine b_nil (hK _ ?_)
  clear hK K
  exact to_le (s' := ⟨[(4, HV.bool false)], []⟩) (AS.le_of ⟨rfl, trivial⟩ trivial) ⟨false, (), h, rfl⟩
 have h := ifF hg10 h
 refine b_F rfl rfl rfl rfl rfl (bF hg10) ?_
 refine b_F rfl rfl rfl rfl rfl rfl ?_
 refine b_F rfl rfl rfl rfl rfl rfl ?_
 refine b_F rfl rfl rfl rfl rfl rfl ?_
 refine bv rfl (v_pickF rfl rfl rfl) ?_
 refine mv rfl rfl ?_
 refine b_F rfl rfl rfl rfl rfl rfl ?_
 refine b_F rfl rfl rfl rfl rfl rfl ?_
 refine b_F rfl rfl rfl rfl rfl rfl ?_
 refine b_F rfl rfl rfl rfl rfl rfl ?_
 refine bv rfl (v_pickF rfl rfl rfl) ?_
 refine mv rfl rfl ?_
 refine b_F rfl rfl rfl rfl rfl rfl ?_
 refine b_F rfl rfl rfl rfl rfl rfl ?_
 refine b_F rfl rfl rfl rfl rfl rfl ?_
 refine b_F rfl rfl rfl rfl rfl rfl ?_
 refine bv rfl (v_pickF rfl rfl rfl) ?_
 refine mv rfl rfl ?_
 refine b_nil (hK _ ?_)
 clear hK K
 exact to_le (s' := ⟨[(4, HV.bool false)], []⟩) (AS.le_of ⟨rfl, trivial⟩ trivial) ⟨false, (), h, rfl⟩

set_option maxHeartbeats 1600000 in
set_option maxRecDepth 100000 in
theorem w_law31_list {p0 : TWordsMerges} {p1 : List (Int)} {r : (List (Int))} (h : m_law31_list p0 p1 = some r) : Pure Tryz.prog 14 [HV.agg [slE eStr p0.1, slE eStr p0.2], slE eU8 p1] (· = slE eInt r) := by
 unfold m_law31_list at h
 refine Pure.of_body Tryz.func14 rfl rfl (Nat.le_of_ble_eq_true rfl) fun hf => ?_
 unfold Tryz.f14
 dsimp only [enumS, Nat.reduceAdd]
 refine AW.rgs rfl fun K hK => ?_
 refine b_op rfl (o_box rfl rfl rfl ?_)
 refine mv rfl rfl ?_
 refine b_fin hK (s' := ⟨[(1, slE eU8 p1), (2, HV.fptr [slE eStr p0.1, slE eStr p0.2] 0)], []⟩) (le_q rfl rfl) ?_
 clear hK K
 refine AW.rgs rfl fun K hK => ?_
 refine mv rfl rfl ?_
 refine b_fin hK (s' := ⟨[(1, slE eU8 p1), (2, HV.fptr [slE eStr p0.1, slE eStr p0.2] 0), (5, HV.v (.slice none 0 0))], []⟩) (le_q rfl rfl) ?_
 clear hK K
 refine AW.seq ?_
 refine AW.rgs rfl fun K hK => ?_
 refine mv rfl rfl ?_
 refine mv rfl rfl ?_
 refine bv rfl (v_lenF rfl rfl ty28 rfl) ?_
 refine bv rfl (v_min rfl rfl rfl) ?_
 obtain ⟨h1, h⟩ := ifN h
 refine bv rfl (v_sliceF eU8 ty28 es28 rfl rfl rfl h1) ?_
 refine bv rfl (v_lenF rfl rfl ty28 rfl) ?_
 refine mv rfl rfl ?_
 refine b_fin hK (s' := ⟨[(2, HV.fptr [slE eStr p0.1, slE eStr p0.2] 0), (5, HV.v (.slice none 0 0)), (12, slE eU8 ((p1.take (min ((p1).length : Int) 8).toNat).drop (0 : Int).toNat)), (13, HV.int .i64 (((p1.take (min ((p1).length : Int) 8).toNat).drop (0 : Int).toNat).length : Int)), (14, HV.int .i64 0)], []⟩) (le_q rfl rfl) ?_
 clear hK K
 refine AW.lpX h (by first | exact up_then | exact up_to) (S := Int × (List Int)) (V := Nat) (fun a v => ⟨[(2, HV.fptr [slE eStr p0.1, slE eStr p0.2] 0), (5, HV.ar 14026 v eInt.k 0 ((a.2).length)), (12, slE eU8 ((p1.take (min ((p1).length : Int) 8).toNat).drop (0 : Int).toNat)), (13, HV.int .i64 (((p1.take (min ((p1).length : Int) 8).toNat).drop (0 : Int).toNat).length : Int)), (14, HV.int .i64 a.1)], [(14026, v, .arr eInt.k 3 (eInt.E a.2))]⟩) ?_ (X := (List Int)) (W := Nat) (fun a v => ⟨[(5, HV.ar 14026 v eInt.k 0 ((a).length))], [(14026, v, .arr eInt.k 3 (eInt.E a))]⟩) (fun a12 w13 h => ?_) (fun a2 w3 st4 h => ?_)
 ·refine to_bind (to_own 14026 5 eInt.k 3 rfl fun v11 => ?_)
  exact to_le (s' := ⟨[(2, HV.fptr [slE eStr p0.1, slE eStr p0.2] 0), (5, HV.ar 14026 v11 eInt.k 0 ((([] : List Int)).length)), (12, slE eU8 ((p1.take (min ((p1).length : Int) 8).toNat).drop (0 : Int).toNat)), (13, HV.int .i64 (((p1.take (min ((p1).length : Int) 8).toNat).drop (0 : Int).toNat).length : Int)), (14, HV.int .i64 0)], [(14026, v11, .arr eInt.k 3 (eInt.E ([] : List Int)))]⟩) (AS.le_of ⟨rfl, arl (by first | rfl | simp only [List.length_set, sortI_len, sortS_len]), rfl, rfl, rfl, trivial⟩ ⟨rfl, trivial⟩) ⟨v11, rfl⟩
 ·refine AW.rgs rfl fun K hK => ?_
  refine mv rfl rfl ?_
  refine mv rfl rfl ?_
  refine b_fin hK (s' := ⟨[(4, HV.ar 14026 w13 eInt.k 0 ((a12).length))], [(14026, w13, .arr eInt.k 3 (eInt.E a12))]⟩) (le_q rfl rfl) ?_
  clear hK K
  refine AW.to (to_frz 2 [(14026, w13, .arr eInt.k 3 (eInt.E a12))] ⟨[(4, slE eInt a12)], []⟩ ⟨⟨_, rfl, frz_slE eInt (l := a12) rfl fun _ _ => rfl⟩, trivial⟩ trivial ⟨rfl, trivial⟩ ⟨rfl, trivial⟩ ?_)
  refine AW.ret ?_
  have h := Option.some.inj h
  subst h
  exact ret_pure (hs := [slE eInt a12]) (q := slE eInt a12) (.inr rfl) (resT rfl rfl) rfl (clean_slE fun _ _ => ⟨trivial, trivial⟩)
 refine AW.rgs rfl fun K hK => ?_
 refine bv rfl (v_bin rfl rfl b_lss) ?_
 refine b_fin hK (s' := ⟨[(2, HV.fptr [slE eStr p0.1, slE eStr p0.2] 0), (5, HV.ar 14026 w3 eInt.k 0 ((a2.2).length)), (12, slE eU8 ((p1.take (min ((p1).length : Int) 8).toNat).drop (0 : Int).toNat)), (13, HV.int .i64 (((p1.take (min ((p1).length : Int) 8).toNat).drop (0 : Int).toNat).length : Int)), (14, HV.int .i64 a2.1), (15, HV.bool (decide (a2.1 < (((p1.take (min ((p1).length : Int) 8).toNat).drop (0 : Int).toNat).length : Int))))], [(14026, w3, .arr eInt.k 3 (eInt.E a2.2))]⟩) (le_q rfl rfl) ?_
 clear hK K
 refine AW.cseq rfl (fun hc => ?_) (fun hc => ?_)
 ·have hc := of_decide_eq_true hc
  have h := ifT hc h
  refine AW.skip ?_
  refine AW.seq (AW.block ?_)
  refine AW.rgs rfl fun K hK => ?_
  obtain ⟨x6, h7, h⟩ := bS h
  refine bv rfl (v_idxF ty28 es28 rfl rfl (idx_lt h7)) ?_
  refine bv rfl (v_loadF ty5 rfl (l_cell eU8 h7 (o := 0) rfl rfl)) ?_
  refine mv rfl rfl ?_
  refine b_fin hK (s' := ⟨[(2, HV.fptr [slE eStr p0.1, slE eStr p0.2] 0), (5, HV.ar 14026 w3 eInt.k 0 ((a2.2).length)), (7, HV.int .u8 x6), (12, slE eU8 ((p1.take (min ((p1).length : Int) 8).toNat).drop (0 : Int).toNat)), (13, HV.int .i64 (((p1.take (min ((p1).length : Int) 8).toNat).drop (0 : Int).toNat).length : Int)), (14, HV.int .i64 a2.1)], [(14026, w3, .arr eInt.k 3 (eInt.E a2.2))]⟩) (le_q rfl rfl) ?_
  clear hK K
  refine AW.rg rfl fun K hK => ?_
  refine mv rfl rfl ?_
  refine mv rfl rfl ?_
  refine bv rfl (v_convI ty5 ty3 rfl) ?_
  refine bv rfl (v_fieldAddrF fo24_0 rfl) ?_
  refine bv rfl (v_loadF ty22 rfl (l_lit rfl rfl)) ?_
  refine bv rfl (v_lenF rfl rfl ty22 rfl) ?_
  obtain ⟨h8, h⟩ := ifN h
  refine bv rfl (v_bin rfl rfl (b_rem h8)) ?_
  refine b_op rfl (o_bsl rfl rfl (as_of (cs := [HV.int .i64 (Int.tmod (IntKind.wrap .i64 x6) ((p0.1).length : Int))]) ty31 ty3 rfl rfl rfl rfl rfl) ?_)
  obtain ⟨h10, h⟩ := ifN h
  refine b_op rfl (o_appE eInt (l := a2.2) (m := [Int.tmod (IntKind.wrap .i64 x6) ((p0.1).length : Int)]) rfl rfl ty31 ty31 ty3 rfl rfl rfl rfl rfl h10 (fun v9 => ?_))
  refine mv rfl rfl ?_
  refine b_fin hK (s' := ⟨[(2, HV.fptr [slE eStr p0.1, slE eStr p0.2] 0), (5, HV.ar 14026 v9 eInt.k 0 ((a2.2 ++ [Int.tmod (IntKind.wrap .i64 x6) ((p0.1).length : Int)]).length)), (12, slE eU8 ((p1.take (min ((p1).length : Int) 8).toNat).drop (0 : Int).toNat)), (13, HV.int .i64 (((p1.take (min ((p1).length : Int) 8).toNat).drop (0 : Int).toNat).length : Int)), (14, HV.int .i64 a2.1)], [(14026, v9, .arr eInt.k 3 (eInt.E (a2.2 ++ [Int.tmod (IntKind.wrap .i64 x6) ((p0.1).length : Int)])))]⟩) (le_q rfl rfl) ?_
  clear hK K
  refine AW.rg rfl fun K hK => ?_
  refine bv rfl (v_bin rfl rfl b_add) ?_
  refine mv rfl rfl ?_
  refine b_nil (hK _ ?_)
  clear hK K
  exact to_le (s' := ⟨[(2, HV.fptr [slE eStr p0.1, slE eStr p0.2] 0), (5, HV.ar 14026 v9 eInt.k 0 ((a2.2 ++ [Int.tmod (IntKind.wrap .i64 x6) ((p0.1).length : Int)]).length)), (12, slE eU8 ((p1.take (min ((p1).length : Int) 8).toNat).drop (0 : Int).toNat)), (13, HV.int .i64 (((p1.take (min ((p1).length : Int) 8).toNat).drop (0 : Int).toNat).length : Int)), (14, HV.int .i64 (IntKind.wrap .i64 (a2.1 + 1)))], [(14026, v9, .arr eInt.k 3 (eInt.E (a2.2 ++ [Int.tmod (IntKind.wrap .i64 x6) ((p0.1).length : Int)])))]⟩) (AS.le_of ⟨rfl, rfl, rfl, rfl, rfl, trivial⟩ ⟨rfl, trivial⟩) ⟨(IntKind.wrap .i64 (a2.1 + 1), a2.2 ++ [Int.tmod (IntKind.wrap .i64 x6) ((p0.1).length : Int)]), v9, h, rfl⟩
 have hc := of_decide_eq_false hc
 have h := ifF hc h
 refine AW.exit ?_
 exact to_le (s' := ⟨[(5, HV.ar 14026 w3 eInt.k 0 ((a2.2).length))], [(14026, w3, .arr eInt.k 3 (eInt.E a2.2))]⟩) (AS.le_of ⟨rfl, trivial⟩ ⟨rfl, trivial⟩) ⟨a2.2, w3, h, rfl⟩

set_option maxHeartbeats 1600000 in
set_option maxRecDepth 100000 in
theorem w_runs_charges {p0 : List UInt8} {r : (List (Int))} (h : m_runs_charges p0 = some r) : Pure Tryz.prog 93 [HV.str p0] (· = slE eInt r) := by
 unfold m_runs_charges at h
 refine Pure.of_body Tryz.func93 rfl rfl (Nat.le_of_ble_eq_true rfl) fun hf => ?_
 unfold Tryz.f93
 dsimp only [enumS, Nat.reduceAdd]
 refine AW.rgs rfl fun K hK => ?_
 refine mv rfl rfl ?_
 refine b_fin hK (s' := ⟨[(0, HV.str p0)], []⟩) (le_q rfl rfl) ?_
 clear hK K
 refine AW.rgs rfl fun K hK => ?_
 refine b_op rfl (o_bslM (fid := 93) 93006 rfl rfl rfl (as_of (cs := [HV.int .i64 0]) ty31 ty3 rfl rfl rfl rfl rfl) (fun v1 => ?_))
 refine mv rfl rfl ?_
 refine b_fin hK (s' := ⟨[(0, HV.str p0), (3, HV.ar 93006 v1 eInt.k 0 (([0]).length))], [(93006, v1, .arr eInt.k 3 (eInt.E [0]))]⟩) (le_q rfl rfl) ?_
 clear hK K
 refine AW.seq ?_
 refine AW.rgs rfl fun K hK => ?_
 refine mv rfl rfl ?_
 refine bv rfl (v_lenS rfl rfl ty9 rfl) ?_
 refine mv rfl rfl ?_
 refine b_fin hK (s' := ⟨[(0, HV.str p0), (3, HV.ar 93006 v1 eInt.k 0 (([0]).length)), (8, HV.int .i64 ((p0).length : Int)), (9, HV.int .i64 0)], [(93006, v1, .arr eInt.k 3 (eInt.E [0]))]⟩) (le_q rfl rfl) ?_
 clear hK K
 refine AW.lpX h (by first | exact up_then | exact up_to) (S := Int × (List Int)) (V := Nat) (fun a v => ⟨[(0, HV.str p0), (3, HV.ar 93006 v eInt.k 0 ((a.2).length)), (8, HV.int .i64 ((p0).length : Int)), (9, HV.int .i64 a.1)], [(93006, v, .arr eInt.k 3 (eInt.E a.2))]⟩) ?_ (X := (List Int)) (W := Nat) (fun a v => ⟨[(3, HV.ar 93006 v eInt.k 0 ((a).length))], [(93006, v, .arr eInt.k 3 (eInt.E a))]⟩) (fun a17 w18 h => ?_) (fun a2 w3 st4 h => ?_)
 ·exact to_le (s' := ⟨[(0, HV.str p0), (3, HV.ar 93006 v1 eInt.k 0 (([0]).length)), (8, HV.int .i64 ((p0).length : Int)), (9, HV.int .i64 0)], [(93006, v1, .arr eInt.k 3 (eInt.E [0]))]⟩) (AS.le_of ⟨rfl, rfl, rfl, rfl, trivial⟩ ⟨rfl, trivial⟩) ⟨v1, rfl⟩
 ·refine AW.rgs rfl fun K hK => ?_
  refine mv rfl rfl ?_
  refine mv rfl rfl ?_
  refine b_fin hK (s' := ⟨[(2, HV.ar 93006 w18 eInt.k 0 ((a17).length))], [(93006, w18, .arr eInt.k 3 (eInt.E a17))]⟩) (le_q rfl rfl) ?_
  clear hK K
  refine AW.to (to_frz 2 [(93006, w18, .arr eInt.k 3 (eInt.E a17))] ⟨[(2, slE eInt a17)], []⟩ ⟨⟨_, rfl, frz_slE eInt (l := a17) rfl fun _ _ => rfl⟩, trivial⟩ trivial ⟨rfl, trivial⟩ ⟨rfl, trivial⟩ ?_)
  refine AW.ret ?_
  have h := Option.some.inj h
  subst h
  exact ret_pure (hs := [slE eInt a17]) (q := slE eInt a17) (.inr rfl) (resT rfl rfl) rfl (clean_slE fun _ _ => ⟨trivial, trivial⟩)
 refine AW.rgs rfl fun K hK => ?_
 refine bv rfl (v_bin rfl rfl b_lss) ?_
 refine b_fin hK (s' := ⟨[(0, HV.str p0), (3, HV.ar 93006 w3 eInt.k 0 ((a2.2).length)), (8, HV.int .i64 ((p0).length : Int)), (9, HV.int .i64 a2.1), (10, HV.bool (decide (a2.1 < ((p0).length : Int))))], [(93006, w3, .arr eInt.k 3 (eInt.E a2.2))]⟩) (le_q rfl rfl) ?_
 clear hK K
 refine AW.cseq rfl (fun hc => ?_) (fun hc => ?_)
 ·have hc := of_decide_eq_true hc
  have h := ifT hc h
  refine AW.skip ?_
  refine AW.seq (AW.block ?_)
  refine AW.rgs rfl fun K hK => ?_
  refine mv rfl rfl ?_
  refine mv rfl rfl ?_
  refine b_fin hK (s' := ⟨[(0, HV.str p0), (3, HV.ar 93006 w3 eInt.k 0 ((a2.2).length)), (4, HV.int .i64 a2.1), (8, HV.int .i64 ((p0).length : Int)), (9, HV.int .i64 a2.1)], [(93006, w3, .arr eInt.k 3 (eInt.E a2.2))]⟩) (le_q rfl rfl) ?_
  clear hK K
  refine AW.rgs rfl fun K hK => ?_
  refine mv rfl rfl ?_
  refine b_fin hK (s' := ⟨[(0, HV.str p0), (3, HV.ar 93006 w3 eInt.k 0 ((a2.2).length)), (4, HV.int .i64 a2.1), (5, HV.int .i64 (-1)), (8, HV.int .i64 ((p0).length : Int)), (9, HV.int .i64 a2.1)], [(93006, w3, .arr eInt.k 3 (eInt.E a2.2))]⟩) (le_q rfl rfl) ?_
  clear hK K
  refine AW.seq ?_
  refine AW.rgs rfl fun K hK => ?_
  refine mv rfl rfl ?_
  refine mv rfl rfl ?_
  obtain ⟨x6, h7, h⟩ := bS h
  refine bv rfl (v_idxS ty9 rfl rfl h7) ?_
  refine bv rfl (v_bin rfl rfl b_eql) ?_
  refine b_fin hK (s' := ⟨[(0, HV.str p0), (3, HV.ar 93006 w3 eInt.k 0 ((a2.2).length)), (4, HV.int .i64 a2.1), (5, HV.int .i64 (-1)), (8, HV.int .i64 ((p0).length : Int)), (9, HV.int .i64 a2.1), (15, HV.bool (decide ((x6.toNat : Int) = 49)))], [(93006, w3, .arr eInt.k 3 (eInt.E a2.2))]⟩) (le_q rfl rfl) ?_
  clear hK K
  refine AW.lastJ h (by first | exact up_then | exact up_to) (S := Int) (V := Unit) (fun a v => ⟨[(0, HV.str p0), (3, HV.ar 93006 w3 eInt.k 0 ((a2.2).length)), (4, HV.int .i64 a2.1), (5, HV.int .i64 a), (8, HV.int .i64 ((p0).length : Int)), (9, HV.int .i64 a2.1)], [(93006, w3, .arr eInt.k 3 (eInt.E a2.2))]⟩) (fun a8 w9 h => ?_) (fun k10 h => ?_)
  ·refine AW.rg rfl fun K hK => ?_
   refine mv rfl rfl ?_
   refine mv rfl rfl ?_
   refine mv rfl rfl ?_
   obtain ⟨x11, h12, h⟩ := bS h
   refine bv rfl (v_idxA ty31 es31 rfl rfl (idx_lt h12) rfl) ?_
   obtain ⟨x13, h14, h⟩ := bS h
   refine bv rfl (v_loadP ty3 rfl rfl (l_cell eInt h14 (o := 0) rfl rfl)) ?_
   refine mv rfl rfl ?_
   refine bv rfl (v_bin rfl rfl b_add) ?_
   refine b_op rfl (o_bsl rfl rfl (as_of (cs := [HV.int .i64 (IntKind.wrap .i64 (x13 + a8))]) ty31 ty3 rfl rfl rfl rfl rfl) ?_)
   obtain ⟨h16, h⟩ := ifN h
   refine b_op rfl (o_appE eInt (l := a2.2) (m := [IntKind.wrap .i64 (x13 + a8)]) rfl rfl ty31 ty31 ty3 rfl rfl rfl rfl rfl h16 (fun v15 => ?_))
   refine mv rfl rfl ?_
   refine b_fin hK (s' := ⟨[(0, HV.str p0), (3, HV.ar 93006 v15 eInt.k 0 ((a2.2 ++ [IntKind.wrap .i64 (x13 + a8)]).length)), (8, HV.int .i64 ((p0).length : Int)), (9, HV.int .i64 a2.1)], [(93006, v15, .arr eInt.k 3 (eInt.E (a2.2 ++ [IntKind.wrap .i64 (x13 + a8)])))]⟩) (le_q rfl rfl) ?_
   clear hK K
   refine AW.rg rfl fun K hK => ?_
   refine bv rfl (v_bin rfl rfl b_add) ?_
   refine mv rfl rfl ?_
   refine b_nil (hK _ ?_)
   clear hK K
   exact to_le (s' := ⟨[(0, HV.str p0), (3, HV.ar 93006 v15 eInt.k 0 ((a2.2 ++ [IntKind.wrap .i64 (x13 + a8)]).length)), (8, HV.int .i64 ((p0).length : Int)), (9, HV.int .i64 (IntKind.wrap .i64 (a2.1 + 1)))], [(93006, v15, .arr eInt.k 3 (eInt.E (a2.2 ++ [IntKind.wrap .i64 (x13 + a8)])))]⟩) (AS.le_of ⟨rfl, rfl, rfl, rfl, trivial⟩ ⟨rfl, trivial⟩) ⟨(IntKind.wrap .i64 (a2.1 + 1), a2.2 ++ [IntKind.wrap .i64 (x13 + a8)]), v15, h, rfl⟩
  refine AW.cond rfl (fun hc => ?_) (fun hc => ?_)
  ·have hc := of_decide_eq_true hc
   have h := ifT hc h
   refine AW.rg rfl fun K hK => ?_
   refine mv rfl rfl ?_
   refine b_nil (hK _ ?_)
   clear hK K
   exact to_le (s' := ⟨[(0, HV.str p0), (3, HV.ar 93006 w3 eInt.k 0 ((a2.2).length)), (4, HV.int .i64 a2.1), (5, HV.int .i64 1), (8, HV.int .i64 ((p0).length : Int)), (9, HV.int .i64 a2.1)], [(93006, w3, .arr eInt.k 3 (eInt.E a2.2))]⟩) (AS.le_of ⟨rfl, rfl, rfl, rfl, rfl, rfl, trivial⟩ ⟨rfl, trivial⟩) ⟨1, (), h, rfl⟩
  have hc := of_decide_eq_false hc
  have h := ifF hc h
  refine AW.skip ?_
  exact to_le (s' := ⟨[(0, HV.str p0), (3, HV.ar 93006 w3 eInt.k 0 ((a2.2).length)), (4, HV.int .i64 a2.1), (5, HV.int .i64 (-1)), (8, HV.int .i64 ((p0).length : Int)), (9, HV.int .i64 a2.1)], [(93006, w3, .arr eInt.k 3 (eInt.E a2.2))]⟩) (AS.le_of ⟨rfl, rfl, rfl, rfl, rfl, rfl, trivial⟩ ⟨rfl, trivial⟩) ⟨(-1), (), h, rfl⟩
 have hc := of_decide_eq_false hc
 have h := ifF hc h
 refine AW.exit ?_
 exact to_le (s' := ⟨[(3, HV.ar 93006 w3 eInt.k 0 ((a2.2).length))], [(93006, w3, .arr eInt.k 3 (eInt.E a2.2))]⟩) (AS.le_of ⟨rfl, trivial⟩ ⟨rfl, trivial⟩) ⟨a2.2, w3, h, rfl⟩

set_option maxHeartbeats 1600000 in
set_option maxRecDepth 100000 in
theorem w_runs_Charges {p0 : List UInt8} {r : (List (Int)) × Int} (h : m_runs_Charges p0 = some r) : Pure Tryz.prog 42 [HV.str p0] (· = HV.tup [slE eInt r.1, HV.int .i64 r.2]) := by
 unfold m_runs_Charges at h
 refine Pure.of_body Tryz.func42 rfl rfl (Nat.le_of_ble_eq_true rfl) fun hf => ?_
 unfold Tryz.f42
 dsimp only [enumS, Nat.reduceAdd]
 refine AW.rgs rfl fun K hK => ?_
 refine mv rfl rfl ?_
 refine mv rfl rfl ?_
 refine b_fin hK (s' := ⟨[(0, HV.str p0)], []⟩) (le_q rfl rfl) ?_
 clear hK K
 refine AW.seq ?_
 refine AW.rgs rfl fun K hK => ?_
 refine mv rfl rfl ?_
 obtain ⟨x1, h2, h⟩ := bS h
 refine b_op rfl (o_call rfl rfl rfl rfl (ACallD.pure0 (w_word_Check h2)) ?_)
 refine mv rfl rfl ?_
 refine b_fin hK (s' := ⟨[(0, HV.str p0), (4, HV.int .i64 x1)], []⟩) (le_q rfl rfl) ?_
 clear hK K
 refine AW.rgs rfl fun K hK => ?_
 refine mv rfl rfl ?_
 refine bv rfl (v_bin rfl rfl b_neq) ?_
 refine b_fin hK (s' := ⟨[(0, HV.str p0), (4, HV.int .i64 x1), (8, HV.bool (decide (x1 ≠ 0)))], []⟩) (le_q rfl rfl) ?_
 clear hK K
 refine AW.cond rfl (fun hc => ?_) (fun hc => ?_)
 ·have hc := of_decide_eq_true hc
  have h := ifT hc h
  refine AW.rgs rfl fun K hK => ?_
  refine mv rfl rfl ?_
  refine mv rfl rfl ?_
  refine mv rfl rfl ?_
  refine b_fin hK (s' := ⟨[(2, HV.v (.slice none 0 0)), (3, HV.int .i64 x1)], []⟩) (le_q rfl rfl) ?_
  clear hK K
  refine AW.to (to_weak ⟨[(2, slE eInt ([] : List Int)), (3, HV.int .i64 x1)], []⟩ ⟨⟨_, rfl, .nil _⟩, ⟨_, rfl, .refl _⟩, trivial⟩ trivial ?_)
  refine AW.ret ?_
  have h := Option.some.inj h
  subst h
  exact ret_pure (hs := [slE eInt ([] : List Int), HV.int .i64 x1]) (q := HV.tup [slE eInt ([] : List Int), HV.int .i64 x1]) (.inr rfl) (resT rfl (resT rfl rfl)) rfl ⟨(clean_slE fun _ _ => ⟨trivial, trivial⟩), trivial, trivial⟩
 have hc := of_decide_eq_false hc
 have h := ifF hc h
 refine AW.skip ?_
 refine AW.rgs rfl fun K hK => ?_
 refine mv rfl rfl ?_
 obtain ⟨x3, h4, h⟩ := bS h
 refine b_op rfl (o_call rfl rfl rfl rfl (ACallD.pure0 (w_runs_charges h4)) ?_)
 refine mv rfl rfl ?_
 refine mv rfl rfl ?_
 refine b_fin hK (s' := ⟨[(2, slE eInt x3), (3, HV.int .i64 0)], []⟩) (le_q rfl rfl) ?_
 clear hK K
 refine AW.ret ?_
 have h := Option.some.inj h
 subst h
 exact ret_pure (hs := [slE eInt x3, HV.int .i64 0]) (q := HV.tup [slE eInt x3, HV.int .i64 0]) (.inr rfl) (resT rfl (resT rfl rfl)) rfl ⟨(clean_slE fun _ _ => ⟨trivial, trivial⟩), trivial, trivial⟩

end Go.AW

namespace Go.AW
open Go Go.Proofs
set_option linter.unusedVariables false
set_option maxHeartbeats 1600000 in
set_option maxRecDepth 100000 in
theorem w_slices_Min_Lint_int {p0 : List (Int)} {r : Int} (h : m_slices_Min_Lint_int p0 = some r) : Pure Tryz.prog 43 [slE eInt p0] (· = HV.int .i64 r) := by
 unfold m_slices_Min_Lint_int at h
 refine Pure.of_body Tryz.func43 rfl rfl (Nat.le_of_ble_eq_true rfl) fun hf => ?_
 unfold Tryz.f43
 dsimp only [enumS, Nat.reduceAdd]
 refine AW.rgs rfl fun K hK => ?_
 refine mv rfl rfl ?_
 refine b_fin hK (s' := ⟨[(0, slE eInt p0)], []⟩) (le_q rfl rfl) ?_
 clear hK K
 refine AW.seq ?_
 refine AW.rgs rfl fun K hK => ?_
 refine mv rfl rfl ?_
 refine bv rfl (v_lenF rfl rfl ty31 rfl) ?_
 refine bv rfl (v_bin rfl rfl b_lss) ?_
 refine b_fin hK (s' := ⟨[(0, slE eInt p0), (7, HV.bool (decide (((p0).length : Int) < 1)))], []⟩) (le_q rfl rfl) ?_
 clear hK K
 refine AW.cond rfl (fun hc => ?_) (fun hc => ?_)
 ·have hc := of_decide_eq_true hc
  have h := ifT hc h
  cases h
 have hc := of_decide_eq_false hc
 have h := ifF hc h
 refine AW.skip ?_
 refine AW.rgs rfl fun K hK => ?_
 refine mv rfl rfl ?_
 obtain ⟨x1, h2, h⟩ := bS h
 refine bv rfl (v_idxF ty31 es31 rfl rfl (idx_lt h2)) ?_
 refine bv rfl (v_loadF ty3 rfl (l_cell eInt h2 (o := 0) rfl rfl)) ?_
 refine mv rfl rfl ?_
 refine b_fin hK (s' := ⟨[(0, slE eInt p0), (3, HV.int .i64 x1)], []⟩) (le_q rfl rfl) ?_
 clear hK K
 refine AW.seq ?_
 refine AW.rgs rfl fun K hK => ?_
 refine mv rfl rfl ?_
 refine b_fin hK (s' := ⟨[(0, slE eInt p0), (3, HV.int .i64 x1), (4, HV.int .i64 1)], []⟩) (le_q rfl rfl) ?_
 clear hK K
 refine AW.lpX h (by first | exact up_then | exact up_to) (S := Int × Int) (V := Unit) (fun a v => ⟨[(0, slE eInt p0), (3, HV.int .i64 a.1), (4, HV.int .i64 a.2)], []⟩) ?_ (X := Int) (W := Unit) (fun a v => ⟨[(3, HV.int .i64 a)], []⟩) (fun a9 w10 h => ?_) (fun a3 w4 st5 h => ?_)
 ·exact to_le (s' := ⟨[(0, slE eInt p0), (3, HV.int .i64 x1), (4, HV.int .i64 1)], []⟩) (AS.le_of ⟨rfl, rfl, rfl, trivial⟩ trivial) ⟨(), rfl⟩
 ·refine AW.rgs rfl fun K hK => ?_
  refine mv rfl rfl ?_
  refine mv rfl rfl ?_
  refine b_fin hK (s' := ⟨[(2, HV.int .i64 a9)], []⟩) (le_q rfl rfl) ?_
  clear hK K
  refine AW.ret ?_
  have h := Option.some.inj h
  subst h
  exact ret_pure (hs := [HV.int .i64 a9]) (q := HV.int .i64 a9) (.inr rfl) (resT rfl rfl) rfl trivial
 refine AW.seq ?_
 refine AW.rgs rfl fun K hK => ?_
 refine mv rfl rfl ?_
 refine mv rfl rfl ?_
 refine bv rfl (v_lenF rfl rfl ty31 rfl) ?_
 refine bv rfl (v_bin rfl rfl b_lss) ?_
 refine b_fin hK (s' := ⟨[(0, slE eInt p0), (3, HV.int .i64 a3.1), (4, HV.int .i64 a3.2), (15, HV.bool (decide (a3.2 < ((p0).length : Int))))], []⟩) (le_q rfl rfl) ?_
 clear hK K
 refine AW.cond rfl (fun hc => ?_) (fun hc => ?_)
 ·have hc := of_decide_eq_true hc
  have h := ifT hc h
  refine AW.skip ?_
  refine AW.seq (AW.block ?_)
  refine AW.rg rfl fun K hK => ?_
  refine mv rfl rfl ?_
  refine mv rfl rfl ?_
  refine mv rfl rfl ?_
  obtain ⟨x7, h8, h⟩ := bS h
  refine bv rfl (v_idxF ty31 es31 rfl rfl (idx_lt h8)) ?_
  refine bv rfl (v_loadF ty3 rfl (l_cell eInt h8 (o := 0) rfl rfl)) ?_
  refine bv rfl (v_min rfl rfl rfl) ?_
  refine mv rfl rfl ?_
  refine b_fin hK (s' := ⟨[(0, slE eInt p0), (3, HV.int .i64 (min a3.1 x7)), (4, HV.int .i64 a3.2)], []⟩) (le_q rfl rfl) ?_
  clear hK K
  refine AW.rg rfl fun K hK => ?_
  refine mv rfl rfl ?_
  refine bv rfl (v_bin rfl rfl b_add) ?_
  refine mv rfl rfl ?_
  refine b_nil (hK _ ?_)
  clear hK K
  exact to_le (s' := ⟨[(0, slE eInt p0), (3, HV.int .i64 (min a3.1 x7)), (4, HV.int .i64 (IntKind.wrap .i64 (a3.2 + 1)))], []⟩) (AS.le_of ⟨rfl, rfl, rfl, trivial⟩ trivial) ⟨(min a3.1 x7, IntKind.wrap .i64 (a3.2 + 1)), (), h, rfl⟩
 have hc := of_decide_eq_false hc
 have h := ifF hc h
 refine AW.exit ?_
 exact to_le (s' := ⟨[(3, HV.int .i64 a3.1)], []⟩) (AS.le_of ⟨rfl, trivial⟩ trivial) ⟨a3.1, (), h, rfl⟩

set_option maxHeartbeats 1600000 in
set_option maxRecDepth 100000 in
theorem w_slices_Max_Lint_int {p0 : List (Int)} {r : Int} (h : m_slices_Max_Lint_int p0 = some r) : Pure Tryz.prog 44 [slE eInt p0] (· = HV.int .i64 r) := by
 unfold m_slices_Max_Lint_int at h
 refine Pure.of_body Tryz.func44 rfl rfl (Nat.le_of_ble_eq_true rfl) fun hf => ?_
 unfold Tryz.f44
 dsimp only [enumS, Nat.reduceAdd]
 refine AW.rgs rfl fun K hK => ?_
 refine mv rfl rfl ?_
 refine b_fin hK (s' := ⟨[(0, slE eInt p0)], []⟩) (le_q rfl rfl) ?_
 clear hK K
 refine AW.seq ?_
 refine AW.rgs rfl fun K hK => ?_
 refine mv rfl rfl ?_
 refine bv rfl (v_lenF rfl rfl ty31 rfl) ?_
 refine bv rfl (v_bin rfl rfl b_lss) ?_
 refine b_fin hK (s' := ⟨[(0, slE eInt p0), (7, HV.bool (decide (((p0).length : Int) < 1)))], []⟩) (le_q rfl rfl) ?_
 clear hK K
 refine AW.cond rfl (fun hc => ?_) (fun hc => ?_)
 ·have hc := of_decide_eq_true hc
  have h := ifT hc h
  cases h
 have hc := of_decide_eq_false hc
 have h := ifF hc h
 refine AW.skip ?_
 refine AW.rgs rfl fun K hK => ?_
 refine mv rfl rfl ?_
 obtain ⟨x1, h2, h⟩ := bS h
 refine bv rfl (v_idxF ty31 es31 rfl rfl (idx_lt h2)) ?_
 refine bv rfl (v_loadF ty3 rfl (l_cell eInt h2 (o := 0) rfl rfl)) ?_
 refine mv rfl rfl ?_
 refine b_fin hK (s' := ⟨[(0, slE eInt p0), (3, HV.int .i64 x1)], []⟩) (le_q rfl rfl) ?_
 clear hK K
 refine AW.seq ?_
 refine AW.rgs rfl fun K hK => ?_
 refine mv rfl rfl ?_
 refine b_fin hK (s' := ⟨[(0, slE eInt p0), (3, HV.int .i64 x1), (4, HV.int .i64 1)], []⟩) (le_q rfl rfl) ?_
 clear hK K
 refine AW.lpX h (by first | exact up_then | exact up_to) (S := Int × Int) (V := Unit) (fun a v => ⟨[(0, slE eInt p0), (3, HV.int .i64 a.1), (4, HV.int .i64 a.2)], []⟩) ?_ (X := Int) (W := Unit) (fun a v => ⟨[(3, HV.int .i64 a)], []⟩) (fun a9 w10 h => ?_) (fun a3 w4 st5 h => ?_)
 ·exact to_le (s' := ⟨[(0, slE eInt p0), (3, HV.int .i64 x1), (4, HV.int .i64 1)], []⟩) (AS.le_of ⟨rfl, rfl, rfl, trivial⟩ trivial) ⟨(), rfl⟩
 ·refine AW.rgs rfl fun K hK => ?_
  refine mv rfl rfl ?_
  refine mv rfl rfl ?_
  refine b_fin hK (s' := ⟨[(2, HV.int .i64 a9)], []⟩) (le_q rfl rfl) ?_
  clear hK K
  refine AW.ret ?_
  have h := Option.some.inj h
  subst h
  exact ret_pure (hs := [HV.int .i64 a9]) (q := HV.int .i64 a9) (.inr rfl) (resT rfl rfl) rfl trivial
 refine AW.seq ?_
 refine AW.rgs rfl fun K hK => ?_
 refine mv rfl rfl ?_
 refine mv rfl rfl ?_
 refine bv rfl (v_lenF rfl rfl ty31 rfl) ?_
 refine bv rfl (v_bin rfl rfl b_lss) ?_
 refine b_fin hK (s' := ⟨[(0, slE eInt p0), (3, HV.int .i64 a3.1), (4, HV.int .i64 a3.2), (15, HV.bool (decide (a3.2 < ((p0).length : Int))))], []⟩) (le_q rfl rfl) ?_
 clear hK K
 refine AW.cond rfl (fun hc => ?_) (fun hc => ?_)
 ·have hc := of_decide_eq_true hc
  have h := ifT hc h
  refine AW.skip ?_
  refine AW.seq (AW.block ?_)
  refine AW.rg rfl fun K hK => ?_
  refine mv rfl rfl ?_
  refine mv rfl rfl ?_
  refine mv rfl rfl ?_
  obtain ⟨x7, h8, h⟩ := bS h
  refine bv rfl (v_idxF ty31 es31 rfl rfl (idx_lt h8)) ?_
  refine bv rfl (v_loadF ty3 rfl (l_cell eInt h8 (o := 0) rfl rfl)) ?_
  refine bv rfl (v_max rfl rfl rfl) ?_
  refine mv rfl rfl ?_
  refine b_fin hK (s' := ⟨[(0, slE eInt p0), (3, HV.int .i64 (max a3.1 x7)), (4, HV.int .i64 a3.2)], []⟩) (le_q rfl rfl) ?_
  clear hK K
  refine AW.rg rfl fun K hK => ?_
  refine mv rfl rfl ?_
  refine bv rfl (v_bin rfl rfl b_add) ?_
  refine mv rfl rfl ?_
  refine b_nil (hK _ ?_)
  clear hK K
  exact to_le (s' := ⟨[(0, slE eInt p0), (3, HV.int .i64 (max a3.1 x7)), (4, HV.int .i64 (IntKind.wrap .i64 (a3.2 + 1)))], []⟩) (AS.le_of ⟨rfl, rfl, rfl, trivial⟩ trivial) ⟨(max a3.1 x7, IntKind.wrap .i64 (a3.2 + 1)), (), h, rfl⟩
 have hc := of_decide_eq_false hc
 have h := ifF hc h
 refine AW.exit ?_
 exact to_le (s' := ⟨[(3, HV.int .i64 a3.1)], []⟩) (AS.le_of ⟨rfl, trivial⟩ trivial) ⟨a3.1, (), h, rfl⟩

set_option maxHeartbeats 1600000 in
set_option maxRecDepth 100000 in
theorem w_runs_Range {p0 : List UInt8} {r : Int × Int × Int} (h : m_runs_Range p0 = some r) : Pure Tryz.prog 90 [HV.str p0] (· = HV.tup [HV.int .i64 r.1, HV.int .i64 r.2.1, HV.int .i64 r.2.2]) := by
 unfold m_runs_Range at h
 refine Pure.of_body Tryz.func90 rfl rfl (Nat.le_of_ble_eq_true rfl) fun hf => ?_
 unfold Tryz.f90
 dsimp only [enumS, Nat.reduceAdd]
 refine AW.rgs rfl fun K hK => ?_
 refine mv rfl rfl ?_
 refine mv rfl rfl ?_
 refine mv rfl rfl ?_
 refine b_fin hK (s' := ⟨[(0, HV.str p0)], []⟩) (le_q rfl rfl) ?_
 clear hK K
 refine AW.rgs rfl fun K hK => ?_
 refine mv rfl rfl ?_
 obtain ⟨x1, h2, h⟩ := bS h
 refine b_op rfl (o_call rfl rfl rfl rfl (ACallD.pure0 (w_runs_Charges h2)) ?_)
 refine mv rfl rfl ?_
 refine bv rfl (v_extract rfl rfl) ?_
 refine bv rfl (v_extract rfl rfl) ?_
 refine mv rfl rfl ?_
 refine mv rfl rfl ?_
 refine b_fin hK (s' := ⟨[(5, slE eInt x1.1), (6, HV.int .i64 x1.2)], []⟩) (le_q rfl rfl) ?_
 clear hK K
 refine AW.seq ?_
 refine AW.rgs rfl fun K hK => ?_
 refine mv rfl rfl ?_
 refine bv rfl (v_bin rfl rfl b_neq) ?_
 refine b_fin hK (s' := ⟨[(5, slE eInt x1.1), (6, HV.int .i64 x1.2), (13, HV.bool (decide (x1.2 ≠ 0)))], []⟩) (le_q rfl rfl) ?_
 clear hK K
 refine AW.cond rfl (fun hc => ?_) (fun hc => ?_)
 ·have hc := of_decide_eq_true hc
  have h := ifT hc h
  refine AW.rgs rfl fun K hK => ?_
  refine mv rfl rfl ?_
  refine mv rfl rfl ?_
  refine mv rfl rfl ?_
  refine mv rfl rfl ?_
  refine b_fin hK (s' := ⟨[(2, HV.int .i64 0), (3, HV.int .i64 0), (4, HV.int .i64 x1.2)], []⟩) (le_q rfl rfl) ?_
  clear hK K
  refine AW.ret ?_
  have h := Option.some.inj h
  subst h
  exact ret_pure (hs := [HV.int .i64 0, HV.int .i64 0, HV.int .i64 x1.2]) (q := HV.tup [HV.int .i64 0, HV.int .i64 0, HV.int .i64 x1.2]) (.inr rfl) (resT rfl (resT rfl (resT rfl rfl))) rfl ⟨trivial, trivial, trivial, trivial⟩
 have hc := of_decide_eq_false hc
 have h := ifF hc h
 refine AW.skip ?_
 refine AW.rgs rfl fun K hK => ?_
 refine mv rfl rfl ?_
 obtain ⟨x3, h4, h⟩ := bS h
 refine b_op rfl (o_call rfl rfl rfl rfl (ACallD.pure0 (w_slices_Min_Lint_int h4)) ?_)
 refine mv rfl rfl ?_
 obtain ⟨x5, h6, h⟩ := bS h
 refine b_op rfl (o_call rfl rfl rfl rfl (ACallD.pure0 (w_slices_Max_Lint_int h6)) ?_)
 refine mv rfl rfl ?_
 refine mv rfl rfl ?_
 refine mv rfl rfl ?_
 refine b_fin hK (s' := ⟨[(2, HV.int .i64 x3), (3, HV.int .i64 x5), (4, HV.int .i64 0)], []⟩) (le_q rfl rfl) ?_
 clear hK K
 refine AW.ret ?_
 have h := Option.some.inj h
 subst h
 exact ret_pure (hs := [HV.int .i64 x3, HV.int .i64 x5, HV.int .i64 0]) (q := HV.tup [HV.int .i64 x3, HV.int .i64 x5, HV.int .i64 0]) (.inr rfl) (resT rfl (resT rfl (resT rfl rfl))) rfl ⟨trivial, trivial, trivial, trivial⟩

set_option maxHeartbeats 1600000 in
set_option maxRecDepth 100000 in
theorem w_merging_Charge {p0 : TWordsMerges} {p1 : TLabelsStatesEdges} {p2 : List (Int)} {r : Int × Int × Int} (h : m_merging_Charge p0 p1 p2 = some r) : Pure Tryz.prog 40 [HV.agg [slE eStr p0.1, slE eStr p0.2], HV.agg [HV.int .i64 p1.1, HV.int .i64 p1.2.1, slE eFromLabelTo p1.2.2], slE eInt p2] (· = HV.tup [HV.int .i64 r.1, HV.int .i64 r.2.1, HV.int .i64 r.2.2]) := by
 unfold m_merging_Charge at h
 refine Pure.of_body Tryz.func40 rfl rfl (Nat.le_of_ble_eq_true rfl) fun hf => ?_
 unfold Tryz.f40
 dsimp only [enumS, Nat.reduceAdd]
 refine AW.rgs rfl fun K hK => ?_
 refine b_op rfl (o_box rfl rfl rfl ?_)
 refine b_op rfl (o_box rfl rfl rfl ?_)
 refine mv rfl rfl ?_
 refine mv rfl rfl ?_
 refine mv rfl rfl ?_
 refine b_fin hK (s' := ⟨[(2, slE eInt p2), (3, HV.fptr [slE eStr p0.1, slE eStr p0.2] 0), (4, HV.fptr [HV.int .i64 p1.1, HV.int .i64 p1.2.1, slE eFromLabelTo p1.2.2] 0)], []⟩) (le_q rfl rfl) ?_
 clear hK K
 refine AW.rgs rfl fun K hK => ?_
 refine bv rfl (v_loadF ty24 rfl (l_litA rfl (Nat.le_of_ble_eq_true rfl) rfl)) ?_
 refine bv rfl (v_loadF ty27 rfl (l_litA rfl (Nat.le_of_ble_eq_true rfl) rfl)) ?_
 refine mv rfl rfl ?_
 obtain ⟨x1, h2, h⟩ := bS h
 refine b_op rfl (o_call rfl rfl rfl rfl (ACallD.pure0 (w_merging_Encode h2)) ?_)
 refine mv rfl rfl ?_
 refine bv rfl (v_extract rfl rfl) ?_
 refine bv rfl (v_extract rfl rfl) ?_
 refine mv rfl rfl ?_
 refine mv rfl rfl ?_
 refine b_fin hK (s' := ⟨[(9, HV.str x1.1), (10, HV.int .i64 x1.2)], []⟩) (le_q rfl rfl) ?_
 clear hK K
 refine AW.seq ?_
 refine AW.rgs rfl fun K hK => ?_
 refine mv rfl rfl ?_
 refine bv rfl (v_bin rfl rfl b_neq) ?_
 refine b_fin hK (s' := ⟨[(9, HV.str x1.1), (10, HV.int .i64 x1.2), (19, HV.bool (decide (x1.2 ≠ 0)))], []⟩) (le_q rfl rfl) ?_
 clear hK K
 refine AW.cond rfl (fun hc => ?_) (fun hc => ?_)
 ·have hc := of_decide_eq_true hc
  have h := ifT hc h
  refine AW.rgs rfl fun K hK => ?_
  refine mv rfl rfl ?_
  refine mv rfl rfl ?_
  refine mv rfl rfl ?_
  refine mv rfl rfl ?_
  refine b_fin hK (s' := ⟨[(6, HV.int .i64 0), (7, HV.int .i64 0), (8, HV.int .i64 x1.2)], []⟩) (le_q rfl rfl) ?_
  clear hK K
  refine AW.ret ?_
  have h := Option.some.inj h
  subst h
  exact ret_pure (hs := [HV.int .i64 0, HV.int .i64 0, HV.int .i64 x1.2]) (q := HV.tup [HV.int .i64 0, HV.int .i64 0, HV.int .i64 x1.2]) (.inr rfl) (resT rfl (resT rfl (resT rfl rfl))) rfl ⟨trivial, trivial, trivial, trivial⟩
 have hc := of_decide_eq_false hc
 have h := ifF hc h
 refine AW.skip ?_
 refine AW.rgs rfl fun K hK => ?_
 refine mv rfl rfl ?_
 obtain ⟨x3, h4, h⟩ := bS h
 refine b_op rfl (o_call rfl rfl rfl rfl (ACallD.pure0 (w_runs_Range h4)) ?_)
 refine bv rfl (v_extract rfl rfl) ?_
 refine bv rfl (v_extract rfl rfl) ?_
 refine bv rfl (v_extract rfl rfl) ?_
 refine mv rfl rfl ?_
 refine mv rfl rfl ?_
 refine mv rfl rfl ?_
 refine b_fin hK (s' := ⟨[(6, HV.int .i64 x3.1), (7, HV.int .i64 x3.2.1), (8, HV.int .i64 x3.2.2)], []⟩) (le_q rfl rfl) ?_
 clear hK K
 refine AW.ret ?_
 have h := Option.some.inj h
 subst h
 exact ret_pure (hs := [HV.int .i64 x3.1, HV.int .i64 x3.2.1, HV.int .i64 x3.2.2]) (q := HV.tup [HV.int .i64 x3.1, HV.int .i64 x3.2.1, HV.int .i64 x3.2.2]) (.inr rfl) (resT rfl (resT rfl (resT rfl rfl))) rfl ⟨trivial, trivial, trivial, trivial⟩

set_option maxHeartbeats 1600000 in
set_option maxRecDepth 100000 in
theorem w_law31_MergingCharges {p0 : TWordsMerges} {p1 : TLabelsStatesEdges} {p2 : List (Int)} {r : Bool} (h : m_law31_MergingCharges p0 p1 p2 = some r) : Pure Tryz.prog 9 [HV.agg [slE eStr p0.1, slE eStr p0.2], HV.agg [HV.int .i64 p1.1, HV.int .i64 p1.2.1, slE eFromLabelTo p1.2.2], slE eU8 p2] (· = HV.bool r) := by
 unfold m_law31_MergingCharges at h
 refine Pure.of_body Tryz.func9 rfl rfl (Nat.le_of_ble_eq_true rfl) fun hf => ?_
 unfold Tryz.f9
 dsimp only [enumS, Nat.reduceAdd]
 refine AW.rgs rfl fun K hK => ?_
 refine b_op rfl (o_box rfl rfl rfl ?_)
 refine b_op rfl (o_box rfl rfl rfl ?_)
 refine mv rfl rfl ?_
 refine b_fin hK (s' := ⟨[(2, slE eU8 p2), (3, HV.fptr [slE eStr p0.1, slE eStr p0.2] 0), (4, HV.fptr [HV.int .i64 p1.1, HV.int .i64 p1.2.1, slE eFromLabelTo p1.2.2] 0)], []⟩) (le_q rfl rfl) ?_
 clear hK K
 refine AW.seq ?_
 refine AW.rgs rfl fun K hK => ?_
 refine bv rfl (v_loadF ty24 rfl (l_litA rfl (Nat.le_of_ble_eq_true rfl) rfl)) ?_
 refine bv rfl (v_loadF ty27 rfl (l_litA rfl (Nat.le_of_ble_eq_true rfl) rfl)) ?_
 obtain ⟨x1, h2, h⟩ := bS h
 refine b_op rfl (o_call rfl rfl rfl rfl (ACallD.pure0 (w_law31_valid h2)) ?_)
 refine bv rfl (v_not rfl) ?_
 refine b_fin hK (s' := ⟨[(2, slE eU8 p2), (3, HV.fptr [slE eStr p0.1, slE eStr p0.2] 0), (4, HV.fptr [HV.int .i64 p1.1, HV.int .i64 p1.2.1, slE eFromLabelTo p1.2.2] 0), (18, HV.bool (!x1))], []⟩) (le_q rfl rfl) ?_
 clear hK K
 refine AW.cond rfl (fun hc => ?_) (fun hc => ?_)
 ·have h := ifT hc h
  refine AW.rgs rfl fun K hK => ?_
  obtain ⟨x3, h4, h⟩ := bS h
  refine b_op rfl (o_call rfl rfl rfl rfl (ACallD.pure0 (w_law31_awake h4)) ?_)
  refine mv rfl rfl ?_
  refine b_fin hK (s' := ⟨[(6, HV.bool x3)], []⟩) (le_q rfl rfl) ?_
  clear hK K
  refine AW.ret ?_
  have h := Option.some.inj h
  subst h
  exact ret_pure (hs := [HV.bool x3]) (q := HV.bool x3) (.inr rfl) (resT rfl rfl) rfl trivial
 have h := ifF (bF' hc) h
 refine AW.skip ?_
 refine AW.rgs rfl fun K hK => ?_
 refine bv rfl (v_loadF ty24 rfl (l_litA rfl (Nat.le_of_ble_eq_true rfl) rfl)) ?_
 refine mv rfl rfl ?_
 obtain ⟨x5, h6, h⟩ := bS h
 refine b_op rfl (o_call rfl rfl rfl rfl (ACallD.pure0 (w_law31_list h6)) ?_)
 refine mv rfl rfl ?_
 refine b_fin hK (s' := ⟨[(3, HV.fptr [slE eStr p0.1, slE eStr p0.2] 0), (4, HV.fptr [HV.int .i64 p1.1, HV.int .i64 p1.2.1, slE eFromLabelTo p1.2.2] 0), (7, slE eInt x5)], []⟩) (le_q rfl rfl) ?_
 clear hK K
 refine AW.rgs rfl fun K hK => ?_
 refine bv rfl (v_loadF ty24 rfl (l_litA rfl (Nat.le_of_ble_eq_true rfl) rfl)) ?_
 refine bv rfl (v_loadF ty27 rfl (l_litA rfl (Nat.le_of_ble_eq_true rfl) rfl)) ?_
 refine mv rfl rfl ?_
 obtain ⟨x7, h8, h⟩ := bS h
 refine b_op rfl (o_call rfl rfl rfl rfl (ACallD.pure0 (w_merging_Encode h8)) ?_)
 refine mv rfl rfl ?_
 refine bv rfl (v_extract rfl rfl) ?_
 refine bv rfl (v_extract rfl rfl) ?_
 refine mv rfl rfl ?_
 refine mv rfl rfl ?_
 refine b_fin hK (s' := ⟨[(3, HV.fptr [slE eStr p0.1, slE eStr p0.2] 0), (4, HV.fptr [HV.int .i64 p1.1, HV.int .i64 p1.2.1, slE eFromLabelTo p1.2.2] 0), (7, slE eInt x5), (8, HV.str x7.1), (9, HV.int .i64 x7.2)], []⟩) (le_q rfl rfl) ?_
 clear hK K
 refine AW.rgs rfl fun K hK => ?_
 refine bv rfl (v_loadF ty24 rfl (l_litA rfl (Nat.le_of_ble_eq_true rfl) rfl)) ?_
 refine bv rfl (v_loadF ty27 rfl (l_litA rfl (Nat.le_of_ble_eq_true rfl) rfl)) ?_
 refine mv rfl rfl ?_
 obtain ⟨x9, h10, h⟩ := bS h
 refine b_op rfl (o_call rfl rfl rfl rfl (ACallD.pure0 (w_merging_Charge h10)) ?_)
 refine mv rfl rfl ?_
 refine bv rfl (v_extract rfl rfl) ?_
 refine bv rfl (v_extract rfl rfl) ?_
 refine bv rfl (v_extract rfl rfl) ?_
 refine mv rfl rfl ?_
 refine mv rfl rfl ?_
 refine mv rfl rfl ?_
 refine b_fin hK (s' := ⟨[(8, HV.str x7.1), (9, HV.int .i64 x7.2), (10, HV.int .i64 x9.1), (11, HV.int .i64 x9.2.1), (12, HV.int .i64 x9.2.2)], []⟩) (le_q rfl rfl) ?_
 clear hK K
 refine AW.seq ?_
 refine AW.rgs rfl fun K hK => ?_
 refine mv rfl rfl ?_
 refine bv rfl (v_bin rfl rfl b_neq) ?_
 refine b_fin hK (s' := ⟨[(8, HV.str x7.1), (9, HV.int .i64 x7.2), (10, HV.int .i64 x9.1), (11, HV.int .i64 x9.2.1), (12, HV.int .i64 x9.2.2), (39, HV.bool (decide (x7.2 ≠ 0)))], []⟩) (le_q rfl rfl) ?_
 clear hK K
 refine AW.cond rfl (fun hc => ?_) (fun hc => ?_)
 ·have hc := of_decide_eq_true hc
  have h := ifT hc h
  refine AW.seqJ h (S := Bool) (V := Unit) (fun a v => ⟨[(6, HV.bool a)], []⟩) (fun a11 w12 h => ?_) (fun k13 h => ?_)
  ·refine AW.ret ?_
   have h := Option.some.inj h
   subst h
   exact ret_pure (hs := [HV.bool a11]) (q := HV.bool a11) (.inr rfl) (resT rfl rfl) rfl trivial
  refine AW.rg rfl fun K hK => ?_
  refine mv rfl rfl ?_
  refine mv rfl rfl ?_
  refine bv rfl (v_bin rfl rfl b_eql) ?_
  refine mv rfl rfl ?_
  by_cases hg18 : x9.2.2 = x7.2
  ·have h := ifT hg18 h
   refine b_T rfl rfl rfl rfl (decide_eq_true hg18) (o_val rfl (mv_val rfl rfl).2 ?_)
   refine b_T rfl rfl rfl rfl rfl (o_val rfl (v_bin rfl rfl b_eql) ?_)
   refine bv rfl (v_pickT rfl rfl rfl) ?_
   refine mv rfl rfl ?_
   by_cases hg17 : x9.1 = 0
   ·have h := ifT hg17 h
    refine b_T rfl rfl rfl rfl (decide_eq_true hg17) (o_val rfl (mv_val rfl rfl).2 ?_)
    refine b_T rfl rfl rfl rfl rfl (o_val rfl (v_bin rfl rfl b_eql) ?_)
    refine bv rfl (v_pickT rfl rfl rfl) ?_
    refine mv rfl rfl ?_
    by_cases hg16 : x9.2.1 = 0
    ·have h := ifT hg16 h
     obtain ⟨x14, h15, h⟩ := bS h
     refine b_T rfl rfl rfl rfl (decide_eq_true hg16) (o_call rfl rfl rfl rfl (ACallD.pure0 (w_law31_awake h15)) ?_)
     refine bv rfl (v_pickT rfl rfl rfl) ?_
     refine mv rfl rfl ?_
     refine b_nil (hK _ ?_)
     clear hK K
     exact to_le (s' := ⟨[(6, HV.bool x14)], []⟩) (AS.le_of ⟨rfl, trivial⟩ trivial) ⟨x14, (), h, rfl⟩
    have h := ifF hg16 h
    refine b_F rfl rfl rfl rfl rfl (decide_eq_false hg16) ?_
    refine bv rfl (v_pickF rfl rfl rfl) ?_
    refine mv rfl rfl ?_
    refine b_nil (hK _ ?_)
    clear hK K
    exact to_le (s' := ⟨[(6, HV.bool false)], []⟩) (AS.le_of ⟨rfl, trivial⟩ trivial) ⟨false, (), h, rfl⟩
   have h := ifF hg17 h
   refine b_F rfl rfl rfl rfl rfl (decide_eq_false hg17) ?_
   refine b_F rfl rfl rfl rfl rfl rfl ?_
   refine bv rfl (v_pickF rfl rfl rfl) ?_
   refine mv rfl rfl ?_
   refine b_F rfl rfl rfl rfl rfl rfl ?_
   refine bv rfl (v_pickF rfl rfl rfl) ?_
   refine mv rfl rfl ?_
   refine b_nil (hK _ ?_)
   clear hK K
   exact to_le (s' := ⟨[(6, HV.bool false)], []⟩) (AS.le_of ⟨rfl, trivial⟩ trivial) ⟨false, (), h, rfl⟩
  have h := ifF hg18 h
  refine b_F rfl rfl rfl rfl rfl (decide_eq_false hg18) ?_
  refine b_F rfl rfl rfl rfl rfl rfl ?_
  refine bv rfl (v_pickF rfl rfl rfl) ?_
  refine mv rfl rfl ?_
  refine b_F rfl rfl rfl rfl rfl rfl ?_
  refine b_F rfl rfl rfl rfl rfl rfl ?_
  refine bv rfl (v_pickF rfl rfl rfl) ?_
  refine mv rfl rfl ?_
  refine b_F rfl rfl rfl rfl rfl rfl ?_
  refine bv rfl (v_pickF rfl rfl rfl) ?_
  refine mv rfl rfl ?_
  refine b_nil (hK _ ?_)
  clear hK K
  exact to_le (s' := ⟨[(6, HV.bool false)], []⟩) (AS.le_of ⟨rfl, trivial⟩ trivial) ⟨false, (), h, rfl⟩
 have hc := of_decide_eq_false hc
 have h := ifF hc h
 refine AW.skip ?_
 refine AW.rgs rfl fun K hK => ?_
 refine mv rfl rfl ?_
 obtain ⟨x19, h20, h⟩ := bS h
 refine b_op rfl (o_call rfl rfl rfl rfl (ACallD.pure0 (w_runs_Charges h20)) ?_)
 refine mv rfl rfl ?_
 refine bv rfl (v_extract rfl rfl) ?_
 refine bv rfl (v_extract rfl rfl) ?_
 refine mv rfl rfl ?_
 refine mv rfl rfl ?_
 refine b_fin hK (s' := ⟨[(8, HV.str x7.1), (10, HV.int .i64 x9.1), (11, HV.int .i64 x9.2.1), (12, HV.int .i64 x9.2.2), (13, slE eInt x19.1), (14, HV.int .i64 x19.2)], []⟩) (le_q rfl rfl) ?_
 clear hK K
 refine AW.seqJ h (S := Bool) (V := Unit) (fun a v => ⟨[(6, HV.bool a)], []⟩) (fun a21 w22 h => ?_) (fun k23 h => ?_)
 ·refine AW.ret ?_
  have h := Option.some.inj h
  subst h
  exact ret_pure (hs := [HV.bool a21]) (q := HV.bool a21) (.inr rfl) (resT rfl rfl) rfl trivial
 refine AW.rg rfl fun K hK => ?_
 refine mv rfl rfl ?_
 refine bv rfl (v_bin rfl rfl b_eql) ?_
 refine mv rfl rfl ?_
 by_cases hg34 : x9.2.2 = 0
 ·have h := ifT hg34 h
  refine b_T rfl rfl rfl rfl (decide_eq_true hg34) (o_val rfl (mv_val rfl rfl).2 ?_)
  refine b_T rfl rfl rfl rfl rfl (o_val rfl (v_bin rfl rfl b_eql) ?_)
  refine bv rfl (v_pickT rfl rfl rfl) ?_
  refine mv rfl rfl ?_
  by_cases hg33 : x19.2 = 0
  ·have h := ifT hg33 h
   refine b_T rfl rfl rfl rfl (decide_eq_true hg33) (o_val rfl (mv_val rfl rfl).2 ?_)
   refine b_T rfl rfl rfl rfl rfl (o_val rfl (v_lenF rfl rfl ty31 rfl) ?_)
   refine b_T rfl rfl rfl rfl rfl (o_val rfl (mv_val rfl rfl).2 ?_)
   refine b_T rfl rfl rfl rfl rfl (o_val rfl (v_lenS rfl rfl ty9 rfl) ?_)
   refine b_T rfl rfl rfl rfl rfl (o_val rfl (v_bin rfl rfl b_add) ?_)
   refine b_T rfl rfl rfl rfl rfl (o_val rfl (v_bin rfl rfl b_eql) ?_)
   refine bv rfl (v_pickT rfl rfl rfl) ?_
   refine mv rfl rfl ?_
   by_cases hg32 : ((x19.1).length : Int) = (IntKind.wrap .i64 (((x7.1).length : Int) + 1))
   ·have h := ifT hg32 h
    refine b_T rfl rfl rfl rfl (decide_eq_true hg32) (o_val rfl (mv_val rfl rfl).2 ?_)
    refine b_T rfl rfl rfl rfl rfl (o_val rfl (mv_val rfl rfl).2 ?_)
    obtain ⟨x24, h25, h⟩ := bS h
    refine b_T rfl rfl rfl rfl rfl (o_call rfl rfl rfl rfl (ACallD.pure0 (w_slices_Min_Lint_int h25)) ?_)
    refine b_T rfl rfl rfl rfl rfl (o_val rfl (v_bin rfl rfl b_eql) ?_)
    refine bv rfl (v_pickT rfl rfl rfl) ?_
    refine mv rfl rfl ?_
    by_cases hg31 : x9.1 = x24
    ·have h := ifT hg31 h
     refine b_T rfl rfl rfl rfl (decide_eq_true hg31) (o_val rfl (mv_val rfl rfl).2 ?_)
     refine b_T rfl rfl rfl rfl rfl (o_val rfl (mv_val rfl rfl).2 ?_)
     obtain ⟨x26, h27, h⟩ := bS h
     refine b_T rfl rfl rfl rfl rfl (o_call rfl rfl rfl rfl (ACallD.pure0 (w_slices_Max_Lint_int h27)) ?_)
     refine b_T rfl rfl rfl rfl rfl (o_val rfl (v_bin rfl rfl b_eql) ?_)
     refine bv rfl (v_pickT rfl rfl rfl) ?_
     refine mv rfl rfl ?_
     by_cases hg30 : x9.2.1 = x26
     ·have h := ifT hg30 h
      obtain ⟨x28, h29, h⟩ := bS h
      refine b_T rfl rfl rfl rfl (decide_eq_true hg30) (o_call rfl rfl rfl rfl (ACallD.pure0 (w_law31_awake h29)) ?_)
      refine bv rfl (v_pickT rfl rfl rfl) ?_
      refine mv rfl rfl ?_
      refine b_nil (hK _ ?_)
      clear hK K
      exact to_le (s' := ⟨[(6, HV.bool x28)], []⟩) (AS.le_of ⟨rfl, trivial⟩ trivial) ⟨x28, (), h, rfl⟩
     have h := ifF hg30 h
     refine b_F rfl rfl rfl rfl rfl (decide_eq_false hg30) ?_
     refine bv rfl (v_pickF rfl rfl rfl) ?_
     refine mv rfl rfl ?_
     refine b_nil (hK _ ?_)
     clear hK K
     exact to_le (s' := ⟨[(6, HV.bool false)], []⟩) (AS.le_of ⟨rfl, trivial⟩ trivial) ⟨false, (), h, rfl⟩
    have h := ifF hg31 h
    refine b_F rfl rfl rfl rfl rfl (decide_eq_false hg31) ?_
    refine b_F rfl rfl rfl rfl rfl rfl ?_
    refine b_F rfl rfl rfl rfl rfl rfl ?_
    refine b_F rfl rfl rfl rfl rfl rfl ?_
    refine bv rfl (v_pickF rfl rfl rfl) ?_
    refine mv rfl rfl ?_
    refine b_F rfl rfl rfl rfl rfl rfl ?_
    refine bv rfl (v_pickF rfl rfl rfl) ?_
    refine mv rfl rfl ?_
    refine b_nil (hK _ ?_)
    clear hK K
    exact to_le (s' := ⟨[(6, HV.bool false)], []⟩) (AS.le_of ⟨rfl, trivial⟩ trivial) ⟨false, (), h, rfl⟩
   have h := ifF hg32 h
   refine b_F rfl rfl rfl rfl rfl (decide_eq_false hg32) ?_
   refine b_F rfl rfl rfl rfl rfl rfl ?_
   refine b_F rfl rfl rfl rfl rfl rfl ?_
   refine b_F rfl rfl rfl rfl rfl rfl ?_
   refine bv rfl (v_pickF rfl rfl rfl) ?_
   refine mv rfl rfl ?_
   refine b_F rfl rfl rfl rfl rfl rfl ?_
   refine b_F rfl rfl rfl rfl rfl rfl ?_
   refine b_F rfl rfl rfl rfl rfl rfl ?_
   refine b_F rfl rfl rfl rfl rfl rfl ?_
   refine bv rfl (v_pickF rfl rfl rfl) ?_
   refine mv rfl rfl ?_
   refine b_F rfl rfl rfl rfl rfl rfl ?_
   refine bv rfl (v_pickF rfl rfl rfl) ?_
   refine mv rfl rfl ?_
   refine b_nil (hK _ ?_)
   clear hK K
   exact to_le (s' := ⟨[(6, HV.bool false)], []⟩) (AS.le_of ⟨rfl, trivial⟩ trivial) ⟨false, (), h, rfl⟩
  have h := ifF hg33 h
  refine b_F rfl rfl rfl rfl rfl (decide_eq_false hg33) ?_
  refine b_F rfl rfl rfl rfl rfl rfl ?_
  refine b_F rfl rfl rfl rfl rfl rfl ?_
  refine b_F rfl rfl rfl rfl rfl rfl ?_
  refine b_F rfl rfl rfl rfl rfl rfl ?_
  refine b_F rfl rfl rfl rfl rfl rfl ?_
  refine bv rfl (v_pickF rfl rfl rfl) ?_
  refine mv rfl rfl ?_
  refine b_F rfl rfl rfl rfl rfl rfl ?_
  refine b_F rfl rfl rfl rfl rfl rfl ?_
  refine b_F rfl rfl rfl rfl rfl rfl ?_
  refine b_F rfl rfl rfl rfl rfl rfl ?_
  refine bv rfl (v_pickF rfl rfl rfl) ?_
  refine mv rfl rfl ?_
  refine b_F rfl rfl rfl rfl rfl rfl ?_
  refine b_F rfl rfl rfl rfl rfl rfl ?_
  refine b_F rfl rfl rfl rfl rfl rfl ?_
  refine b_F rfl rfl rfl rfl rfl rfl ?_
  refine bv rfl (v_pickF rfl rfl rfl) ?_
  refine mv rfl rfl ?_
  refine b_F rfl rfl rfl rfl rfl rfl ?_
  refine bv rfl (v_pickF rfl rfl rfl) ?_
  refine mv rfl rfl ?_
  refine b_nil (hK _ ?_)
  clear hK K
  exact to_le (s' := ⟨[(6, HV.bool false)], []⟩) (AS.le_of ⟨rfl, trivial⟩ trivial) ⟨false, (), h, rfl⟩
 have h := ifF hg34 h
 refine b_F rfl rfl rfl rfl rfl (decide_eq_false hg34) ?_
 refine b_F rfl rfl rfl rfl rfl rfl ?_
 refine bv rfl (v_pickF rfl rfl rfl) ?_
 refine mv rfl rfl ?_
 refine b_F rfl rfl rfl rfl rfl rfl ?_
 refine b_F rfl rfl rfl rfl rfl rfl ?_
 refine b_F rfl rfl rfl rfl rfl rfl ?_
 refine b_F rfl rfl rfl rfl rfl rfl ?_
 refine b_F rfl rfl rfl rfl rfl rfl ?_
 refine b_F rfl rfl rfl rfl rfl rfl ?_
 refine bv rfl (v_pickF rfl rfl rfl) ?_
 refine mv rfl rfl ?_
 refine b_F rfl rfl rfl rfl rfl rfl ?_
 refine b_F rfl rfl rfl rfl rfl rfl ?_
 refine b_F rfl rfl rfl rfl rfl rfl ?_
 refine b_F rfl rfl rfl rfl rfl rfl ?_
 refine bv rfl (v_pickF rfl rfl rfl) ?_
 refine mv rfl rfl ?_
 refine b_F rfl rfl rfl rfl rfl rfl ?_
 refine b_F rfl rfl rfl rfl rfl rfl ?_
 refine b_F rfl rfl rfl rfl rfl rfl ?_
 refine b_F rfl rfl rfl rfl rfl rfl ?_
 refine bv rfl (v_pickF rfl rfl rfl) ?_
 refine mv rfl rfl ?_
 refine b_F rfl rfl rfl rfl rfl rfl ?_
 refine bv rfl (v_pickF rfl rfl rfl) ?_
 refine mv rfl rfl ?_
 refine b_nil (hK _ ?_)
 clear hK K
 exact to_le (s' := ⟨[(6, HV.bool false)], []⟩) (AS.le_of ⟨rfl, trivial⟩ trivial) ⟨false, (), h, rfl⟩

end Go.AW



/- Merging codes: laws of what is written. -/
namespace Go.AW
open Go
set_option linter.unusedSimpArgs false
set_option linter.unusedVariables false
theorem disp_app (u v : List UInt8) : disp (u ++ v) = disp u + disp v := by
  simp only [disp, List.count_append, List.length_append]
  omega
def encB (j : Jn) (g : Gr) : List UInt8 → List Int → List UInt8 × Int
  | b, [] => (b, 0)
  | b, x :: xs =>
    if (bestF g (endsL g (upto g.2.1) b) (disp b) (wd j x) j.2).2.2 = true then encB j g (b ++ ((bestF g (endsL g (upto g.2.1) b) (disp b) (wd j x) j.2).1 ++ wd j x)) xs else ([], 13)
theorem encG_eq (j : Jn) (g : Gr) : ∀ (xs : List Int) (b : List UInt8), encG j g (endsL g (upto g.2.1) b) b (disp b) xs = encB j g b xs
  | [], b => rfl
  | x :: xs, b => by
    unfold encG encB
    split
    · rw [← endsL_app, ← disp_app]
      exact encG_eq j g xs _
    · rfl
end Go.AW

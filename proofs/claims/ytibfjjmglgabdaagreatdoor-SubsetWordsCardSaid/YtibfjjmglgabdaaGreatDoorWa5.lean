import Derived.Test.YtibfjjmglgabdaaGreatDoorWa4
namespace Go.AW
open Go Go.Proofs
set_option linter.unusedVariables false
set_option maxHeartbeats 1600000 in
set_option maxRecDepth 100000 in
theorem w_subset_Build {p0 : TLabelsStatesEdges} {r : TLabelsStatesEdges × (List (List (Int))) × Int} (h : m_subset_Build p0 = some r) : Pure Tryz.prog 16 [HV.agg [HV.int .i64 p0.1, HV.int .i64 p0.2.1, slE eFromLabelTo p0.2.2]] (· = HV.tup [HV.agg [HV.int .i64 r.1.1, HV.int .i64 r.1.2.1, slE eFromLabelTo r.1.2.2], slE (eSl eInt) r.2.1, HV.int .i64 r.2.2]) := by
 unfold m_subset_Build at h
 refine Pure.of_body Tryz.func16 rfl rfl (Nat.le_of_ble_eq_true rfl) fun hf => ?_
 unfold Tryz.f16
 dsimp only [enumS, Nat.reduceAdd]
 refine AW.rgs rfl fun K hK => ?_
 refine b_op rfl (o_box rfl rfl rfl ?_)
 refine b_op rfl (o_alloc (fid := 16) (zs := [HV.int .i64 0, HV.int .i64 0, HV.v (.slice none 0 0)]) 16002 rfl rfl ty24 rfl (fun v1 => ?_))
 refine mv rfl rfl ?_
 refine mv rfl rfl ?_
 refine b_fin hK (s' := ⟨[(1, HV.fptr [HV.int .i64 p0.1, HV.int .i64 p0.2.1, slE eFromLabelTo p0.2.2] 0), (2, HV.ptr 16002 v1 0)], [(16002, v1, .arr 3 24 [HV.int .i64 0, HV.int .i64 0, HV.v (.slice none 0 0)])]⟩) (le_q rfl rfl) ?_
 clear hK K
 refine AW.seq ?_
 refine AW.rgs rfl fun K hK => ?_
 refine bv rfl (v_loadF ty24 rfl (l_litA rfl (Nat.le_of_ble_eq_true rfl) rfl)) ?_
 obtain ⟨x2, h3, h⟩ := bS h
 refine b_op rfl (o_call rfl rfl rfl rfl (ACallD.pure0 (w_graph_Check h3)) ?_)
 refine bv rfl (v_bin rfl rfl b_neq) ?_
 refine b_fin hK (s' := ⟨[(1, HV.fptr [HV.int .i64 p0.1, HV.int .i64 p0.2.1, slE eFromLabelTo p0.2.2] 0), (2, HV.ptr 16002 v1 0), (9, HV.bool (decide (x2 ≠ 0)))], [(16002, v1, .arr 3 24 [HV.int .i64 0, HV.int .i64 0, HV.v (.slice none 0 0)])]⟩) (le_q rfl rfl) ?_
 clear hK K
 refine AW.cond rfl (fun hc => ?_) (fun hc => ?_)
 ·have hc := of_decide_eq_true hc
  have h := ifT hc h
  refine AW.rgs rfl fun K hK => ?_
  refine b_op rfl (o_build (cs := [HV.int .i64 0, HV.int .i64 0, HV.v (.slice none 0 0)]) rfl (bl_of ty24 rfl rfl rfl rfl) ?_)
  refine b_op rfl (o_store (cs := [HV.int .i64 0, HV.int .i64 0, HV.v (.slice none 0 0)]) (zs := [HV.int .i64 0, HV.int .i64 0, HV.v (.slice none 0 0)]) rfl rfl rfl ty24 rfl rfl rfl rfl rfl ?_)
  refine mv rfl rfl ?_
  refine mv rfl rfl ?_
  refine b_fin hK (s' := ⟨[(2, HV.ptr 16002 v1 0), (3, HV.v (.slice none 0 0)), (4, HV.int .i64 1)], [(16002, v1, .arr 3 24 [HV.int .i64 0, HV.int .i64 0, HV.v (.slice none 0 0)])]⟩) (le_q rfl rfl) ?_
  clear hK K
  refine AW.to (to_weak ⟨[(2, HV.ptr 16002 v1 0), (3, slE (eSl eInt) ([] : List (List (Int)))), (4, HV.int .i64 1)], [(16002, v1, .arr 3 24 [HV.int .i64 0, HV.int .i64 0, HV.v (.slice none 0 0)])]⟩ ⟨⟨_, rfl, .refl _⟩, ⟨_, rfl, .nil _⟩, ⟨_, rfl, .refl _⟩, trivial⟩ ⟨rfl, trivial⟩ ?_)
  refine AW.to (to_cells 16002 v1 (ds := [HV.int .i64 0, HV.int .i64 0, slE eFromLabelTo ([] : List TFromLabelTo)]) rfl (.cons (.refl _) <| .cons (.refl _) <| .cons (.nil _) <| .nil) ?_)
  refine AW.ret ?_
  have h := Option.some.inj h
  subst h
  exact ret_pure (hs := [HV.agg [HV.int .i64 0, HV.int .i64 0, slE eFromLabelTo ([] : List TFromLabelTo)], slE (eSl eInt) ([] : List (List (Int))), HV.int .i64 1]) (q := HV.tup [HV.agg [HV.int .i64 0, HV.int .i64 0, slE eFromLabelTo ([] : List TFromLabelTo)], slE (eSl eInt) ([] : List (List (Int))), HV.int .i64 1]) (.inr rfl) (resP ty24 rfl rfl (l_litA rfl (Nat.le_of_ble_eq_true rfl) rfl) (resT rfl (resT rfl rfl))) rfl ⟨⟨trivial, trivial, (clean_slE fun _ _ => ⟨trivial, trivial, trivial, trivial⟩), trivial⟩, (clean_slE fun _ _ => ⟨(clean_slE fun _ _ => ⟨trivial, trivial⟩), trivial⟩), trivial, trivial⟩
 ·have hc := of_decide_eq_false hc
  have h := ifF hc h
  refine AW.skip ?_
  refine AW.seq ?_
  refine AW.rgs rfl fun K hK => ?_
  refine bv rfl (v_fieldAddrF fo24_1 rfl) ?_
  refine bv rfl (v_loadF ty3 rfl (l_lit rfl rfl)) ?_
  refine bv rfl (v_bin rfl rfl b_eql) ?_
  refine b_fin hK (s' := ⟨[(1, HV.fptr [HV.int .i64 p0.1, HV.int .i64 p0.2.1, slE eFromLabelTo p0.2.2] 0), (2, HV.ptr 16002 v1 0), (13, HV.bool (decide (p0.2.1 = 0)))], [(16002, v1, .arr 3 24 [HV.int .i64 0, HV.int .i64 0, HV.v (.slice none 0 0)])]⟩) (le_q rfl rfl) ?_
  clear hK K
  refine AW.cond rfl (fun hc => ?_) (fun hc => ?_)
  ·have hc := of_decide_eq_true hc
   have h := ifT hc h
   refine AW.rgs rfl fun K hK => ?_
   refine bv rfl (v_fieldAddrF fo24_0 rfl) ?_
   refine bv rfl (v_loadF ty3 rfl (l_lit rfl rfl)) ?_
   refine b_op rfl (o_build (cs := [HV.int .i64 p0.1, HV.int .i64 0, HV.v (.slice none 0 0)]) rfl (bl_of ty24 rfl rfl rfl rfl) ?_)
   refine b_op rfl (o_store (cs := [HV.int .i64 p0.1, HV.int .i64 0, HV.v (.slice none 0 0)]) (zs := [HV.int .i64 p0.1, HV.int .i64 0, HV.v (.slice none 0 0)]) rfl rfl rfl ty24 rfl rfl rfl rfl rfl ?_)
   refine mv rfl rfl ?_
   refine mv rfl rfl ?_
   refine b_fin hK (s' := ⟨[(2, HV.ptr 16002 v1 0), (3, HV.v (.slice none 0 0)), (4, HV.int .i64 0)], [(16002, v1, .arr 3 24 [HV.int .i64 p0.1, HV.int .i64 0, HV.v (.slice none 0 0)])]⟩) (le_q rfl rfl) ?_
   clear hK K
   refine AW.to (to_weak ⟨[(2, HV.ptr 16002 v1 0), (3, slE (eSl eInt) ([] : List (List (Int)))), (4, HV.int .i64 0)], [(16002, v1, .arr 3 24 [HV.int .i64 p0.1, HV.int .i64 0, HV.v (.slice none 0 0)])]⟩ ⟨⟨_, rfl, .refl _⟩, ⟨_, rfl, .nil _⟩, ⟨_, rfl, .refl _⟩, trivial⟩ ⟨rfl, trivial⟩ ?_)
   refine AW.to (to_cells 16002 v1 (ds := [HV.int .i64 p0.1, HV.int .i64 0, slE eFromLabelTo ([] : List TFromLabelTo)]) rfl (.cons (.refl _) <| .cons (.refl _) <| .cons (.nil _) <| .nil) ?_)
   refine AW.ret ?_
   have h := Option.some.inj h
   subst h
   exact ret_pure (hs := [HV.agg [HV.int .i64 p0.1, HV.int .i64 0, slE eFromLabelTo ([] : List TFromLabelTo)], slE (eSl eInt) ([] : List (List (Int))), HV.int .i64 0]) (q := HV.tup [HV.agg [HV.int .i64 p0.1, HV.int .i64 0, slE eFromLabelTo ([] : List TFromLabelTo)], slE (eSl eInt) ([] : List (List (Int))), HV.int .i64 0]) (.inr rfl) (resP ty24 rfl rfl (l_litA rfl (Nat.le_of_ble_eq_true rfl) rfl) (resT rfl (resT rfl rfl))) rfl ⟨⟨trivial, trivial, (clean_slE fun _ _ => ⟨trivial, trivial, trivial, trivial⟩), trivial⟩, (clean_slE fun _ _ => ⟨(clean_slE fun _ _ => ⟨trivial, trivial⟩), trivial⟩), trivial, trivial⟩
  ·have hc := of_decide_eq_false hc
   have h := ifF hc h
   refine AW.skip ?_
   refine AW.rgs rfl fun K hK => ?_
   refine bv rfl (v_fieldAddrF fo24_1 rfl) ?_
   refine bv rfl (v_loadF ty3 rfl (l_lit rfl rfl)) ?_
   obtain ⟨h5, h⟩ := ifN h
   refine b_op rfl (o_makeE (fid := 16) eInt (0 : Int) 16019 rfl rfl ty27 rfl rfl ty3 rfl rfl h5 (fun v4 => ?_))
   refine mv rfl rfl ?_
   refine b_fin hK (s' := ⟨[(1, HV.fptr [HV.int .i64 p0.1, HV.int .i64 p0.2.1, slE eFromLabelTo p0.2.2] 0), (2, HV.ptr 16002 v1 0), (5, HV.ar 16019 v4 eInt.k 0 ((List.replicate (p0.2.1).toNat (0 : Int)).length))], [(16002, v1, .arr 3 24 [HV.int .i64 0, HV.int .i64 0, HV.v (.slice none 0 0)]), (16019, v4, .arr eInt.k 3 (eInt.E (List.replicate (p0.2.1).toNat (0 : Int))))]⟩) (le_q rfl rfl) ?_
   clear hK K
   refine AW.seq ?_
   refine AW.rgs rfl fun K hK => ?_
   refine mv rfl rfl ?_
   refine bv rfl (v_lenA rfl rfl ty27 rfl rfl) ?_
   refine mv rfl rfl ?_
   refine b_fin hK (s' := ⟨[(1, HV.fptr [HV.int .i64 p0.1, HV.int .i64 p0.2.1, slE eFromLabelTo p0.2.2] 0), (2, HV.ptr 16002 v1 0), (5, HV.ar 16019 v4 eInt.k 0 ((List.replicate (p0.2.1).toNat (0 : Int)).length)), (21, HV.int .i64 (((List.replicate (p0.2.1).toNat (0 : Int)).length : Nat) : Int)), (22, HV.int .i64 0)], [(16002, v1, .arr 3 24 [HV.int .i64 0, HV.int .i64 0, HV.v (.slice none 0 0)]), (16019, v4, .arr eInt.k 3 (eInt.E (List.replicate (p0.2.1).toNat (0 : Int))))]⟩) (le_q rfl rfl) ?_
   clear hK K
   refine AW.lpX h (by first | exact up_then | exact up_to) (S := Int × (List Int)) (V := Unit) (fun a v => ⟨[(1, HV.fptr [HV.int .i64 p0.1, HV.int .i64 p0.2.1, slE eFromLabelTo p0.2.2] 0), (2, HV.ptr 16002 v1 0), (5, HV.ar 16019 v4 eInt.k 0 ((a.2).length)), (21, HV.int .i64 (((List.replicate (p0.2.1).toNat (0 : Int)).length : Nat) : Int)), (22, HV.int .i64 a.1)], [(16002, v1, .arr 3 24 [HV.int .i64 0, HV.int .i64 0, HV.v (.slice none 0 0)]), (16019, v4, .arr eInt.k 3 (eInt.E a.2))]⟩) ?_ (X := (List Int)) (W := Unit) (fun a v => ⟨[(1, HV.fptr [HV.int .i64 p0.1, HV.int .i64 p0.2.1, slE eFromLabelTo p0.2.2] 0), (2, HV.ptr 16002 v1 0), (5, HV.ar 16019 v4 eInt.k 0 ((a).length))], [(16002, v1, .arr 3 24 [HV.int .i64 0, HV.int .i64 0, HV.v (.slice none 0 0)]), (16019, v4, .arr eInt.k 3 (eInt.E a))]⟩) (fun a12 w13 h => ?_) (fun a6 w7 st8 h => ?_)
   ·exact to_le (s' := ⟨[(1, HV.fptr [HV.int .i64 p0.1, HV.int .i64 p0.2.1, slE eFromLabelTo p0.2.2] 0), (2, HV.ptr 16002 v1 0), (5, HV.ar 16019 v4 eInt.k 0 ((List.replicate (p0.2.1).toNat (0 : Int)).length)), (21, HV.int .i64 (((List.replicate (p0.2.1).toNat (0 : Int)).length : Nat) : Int)), (22, HV.int .i64 0)], [(16002, v1, .arr 3 24 [HV.int .i64 0, HV.int .i64 0, HV.v (.slice none 0 0)]), (16019, v4, .arr eInt.k 3 (eInt.E (List.replicate (p0.2.1).toNat (0 : Int))))]⟩) (AS.le_of ⟨rfl, rfl, rfl, rfl, rfl, trivial⟩ ⟨rfl, rfl, trivial⟩) ⟨(), rfl⟩
   ·refine AW.to (to_frz 2 [(16019, v4, .arr eInt.k 3 (eInt.E a12))] ⟨[(1, HV.fptr [HV.int .i64 p0.1, HV.int .i64 p0.2.1, slE eFromLabelTo p0.2.2] 0), (2, HV.ptr 16002 v1 0), (5, slE eInt a12)], [(16002, v1, .arr 3 24 [HV.int .i64 0, HV.int .i64 0, HV.v (.slice none 0 0)])]⟩ ⟨⟨_, rfl, rfl⟩, ⟨_, rfl, rfl⟩, ⟨_, rfl, frz_slE eInt (l := a12) rfl fun _ _ => rfl⟩, trivial⟩ ⟨rfl, trivial⟩ ⟨rfl, trivial⟩ ⟨rfl, trivial⟩ ?_)
    refine AW.rgs rfl fun K hK => ?_
    refine bv rfl (v_loadF ty24 rfl (l_litA rfl (Nat.le_of_ble_eq_true rfl) rfl)) ?_
    refine mv rfl rfl ?_
    obtain ⟨x14, h15, h⟩ := bS h
    refine b_op rfl (o_call rfl rfl rfl rfl (ACallD.pure0 (w_subset_build h15)) ?_)
    refine bv rfl (v_extract rfl rfl) ?_
    refine bv rfl (v_extract rfl rfl) ?_
    refine bv rfl (v_extract rfl rfl) ?_
    refine b_op rfl (o_store (cs := [HV.int .i64 x14.1.1, HV.int .i64 x14.1.2.1, slE eFromLabelTo x14.1.2.2]) (zs := [HV.int .i64 x14.1.1, HV.int .i64 x14.1.2.1, slE eFromLabelTo x14.1.2.2]) rfl rfl rfl ty24 rfl rfl rfl rfl rfl ?_)
    refine mv rfl rfl ?_
    refine mv rfl rfl ?_
    refine b_fin hK (s' := ⟨[(2, HV.ptr 16002 v1 0), (3, slE (eSl eInt) x14.2.1), (4, HV.int .i64 x14.2.2)], [(16002, v1, .arr 3 24 [HV.int .i64 x14.1.1, HV.int .i64 x14.1.2.1, slE eFromLabelTo x14.1.2.2])]⟩) (le_q rfl rfl) ?_
    clear hK K
    refine AW.ret ?_
    have h := Option.some.inj h
    subst h
    exact ret_pure (hs := [HV.agg [HV.int .i64 x14.1.1, HV.int .i64 x14.1.2.1, slE eFromLabelTo x14.1.2.2], slE (eSl eInt) x14.2.1, HV.int .i64 x14.2.2]) (q := HV.tup [HV.agg [HV.int .i64 x14.1.1, HV.int .i64 x14.1.2.1, slE eFromLabelTo x14.1.2.2], slE (eSl eInt) x14.2.1, HV.int .i64 x14.2.2]) (.inr rfl) (resP ty24 rfl rfl (l_litA rfl (Nat.le_of_ble_eq_true rfl) rfl) (resT rfl (resT rfl rfl))) rfl ⟨⟨trivial, trivial, (clean_slE fun _ _ => ⟨trivial, trivial, trivial, trivial⟩), trivial⟩, (clean_slE fun _ _ => ⟨(clean_slE fun _ _ => ⟨trivial, trivial⟩), trivial⟩), trivial, trivial⟩
   ·refine AW.rgs rfl fun K hK => ?_
    refine bv rfl (v_bin rfl rfl b_lss) ?_
    refine b_fin hK (s' := ⟨[(1, HV.fptr [HV.int .i64 p0.1, HV.int .i64 p0.2.1, slE eFromLabelTo p0.2.2] 0), (2, HV.ptr 16002 v1 0), (5, HV.ar 16019 v4 eInt.k 0 ((a6.2).length)), (21, HV.int .i64 (((List.replicate (p0.2.1).toNat (0 : Int)).length : Nat) : Int)), (22, HV.int .i64 a6.1), (23, HV.bool (decide (a6.1 < (((List.replicate (p0.2.1).toNat (0 : Int)).length : Nat) : Int))))], [(16002, v1, .arr 3 24 [HV.int .i64 0, HV.int .i64 0, HV.v (.slice none 0 0)]), (16019, v4, .arr eInt.k 3 (eInt.E a6.2))]⟩) (le_q rfl rfl) ?_
    clear hK K
    refine AW.cseq rfl (fun hc => ?_) (fun hc => ?_)
    ·have hc := of_decide_eq_true hc
     have h := ifT hc h
     refine AW.skip ?_
     refine AW.seq (AW.block ?_)
     refine AW.rgs rfl fun K hK => ?_
     refine mv rfl rfl ?_
     refine mv rfl rfl ?_
     refine b_fin hK (s' := ⟨[(1, HV.fptr [HV.int .i64 p0.1, HV.int .i64 p0.2.1, slE eFromLabelTo p0.2.2] 0), (2, HV.ptr 16002 v1 0), (5, HV.ar 16019 v4 eInt.k 0 ((a6.2).length)), (6, HV.int .i64 a6.1), (21, HV.int .i64 (((List.replicate (p0.2.1).toNat (0 : Int)).length : Nat) : Int)), (22, HV.int .i64 a6.1)], [(16002, v1, .arr 3 24 [HV.int .i64 0, HV.int .i64 0, HV.v (.slice none 0 0)]), (16019, v4, .arr eInt.k 3 (eInt.E a6.2))]⟩) (le_q rfl rfl) ?_
     clear hK K
     refine AW.rg rfl fun K hK => ?_
     refine mv rfl rfl ?_
     refine mv rfl rfl ?_
     refine mv rfl rfl ?_
     obtain ⟨x10, h11, h⟩ := bS h
     refine bv rfl (v_idxA ty27 es27 rfl rfl (idx_lt h11) rfl) ?_
     refine b_op rfl (o_storeE eInt (l := a6.2) (j := a6.1) (v := a6.1) rfl rfl rfl ty3 rfl rfl rfl (idx_lt h11) ?_)
     refine b_fin hK (s' := ⟨[(1, HV.fptr [HV.int .i64 p0.1, HV.int .i64 p0.2.1, slE eFromLabelTo p0.2.2] 0), (2, HV.ptr 16002 v1 0), (5, HV.ar 16019 v4 eInt.k 0 (((a6.2).set (a6.1).toNat a6.1).length)), (21, HV.int .i64 (((List.replicate (p0.2.1).toNat (0 : Int)).length : Nat) : Int)), (22, HV.int .i64 a6.1)], [(16002, v1, .arr 3 24 [HV.int .i64 0, HV.int .i64 0, HV.v (.slice none 0 0)]), (16019, v4, .arr eInt.k 3 (eInt.E ((a6.2).set (a6.1).toNat a6.1)))]⟩) (AS.le_of ⟨rfl, rfl, arl (by first | rfl | simp only [List.length_set, sortI_len, sortS_len]), rfl, rfl, trivial⟩ ⟨rfl, rfl, trivial⟩) ?_
     clear hK K
     refine AW.rg rfl fun K hK => ?_
     refine bv rfl (v_bin rfl rfl b_add) ?_
     refine mv rfl rfl ?_
     refine b_nil (hK _ ?_)
     clear hK K
     exact to_le (s' := ⟨[(1, HV.fptr [HV.int .i64 p0.1, HV.int .i64 p0.2.1, slE eFromLabelTo p0.2.2] 0), (2, HV.ptr 16002 v1 0), (5, HV.ar 16019 v4 eInt.k 0 (((a6.2).set (a6.1).toNat a6.1).length)), (21, HV.int .i64 (((List.replicate (p0.2.1).toNat (0 : Int)).length : Nat) : Int)), (22, HV.int .i64 (IntKind.wrap .i64 (a6.1 + 1)))], [(16002, v1, .arr 3 24 [HV.int .i64 0, HV.int .i64 0, HV.v (.slice none 0 0)]), (16019, v4, .arr eInt.k 3 (eInt.E ((a6.2).set (a6.1).toNat a6.1)))]⟩) (AS.le_of ⟨rfl, rfl, rfl, rfl, rfl, trivial⟩ ⟨rfl, rfl, trivial⟩) ⟨(IntKind.wrap .i64 (a6.1 + 1), (a6.2).set (a6.1).toNat a6.1), (), h, rfl⟩
    ·have hc := of_decide_eq_false hc
     have h := ifF hc h
     refine AW.exit ?_
     exact to_le (s' := ⟨[(1, HV.fptr [HV.int .i64 p0.1, HV.int .i64 p0.2.1, slE eFromLabelTo p0.2.2] 0), (2, HV.ptr 16002 v1 0), (5, HV.ar 16019 v4 eInt.k 0 ((a6.2).length))], [(16002, v1, .arr 3 24 [HV.int .i64 0, HV.int .i64 0, HV.v (.slice none 0 0)]), (16019, v4, .arr eInt.k 3 (eInt.E a6.2))]⟩) (AS.le_of ⟨rfl, rfl, rfl, trivial⟩ ⟨rfl, rfl, trivial⟩) ⟨a6.2, (), h, rfl⟩

set_option maxHeartbeats 1600000 in
set_option maxRecDepth 100000 in
theorem w_subset_Focus {p0 : TLabelsStatesEdges} {r : (List (Int)) × Int × Bool × Int} (h : m_subset_Focus p0 = some r) : Pure Tryz.prog 7 [HV.agg [HV.int .i64 p0.1, HV.int .i64 p0.2.1, slE eFromLabelTo p0.2.2]] (· = HV.tup [slE eInt r.1, HV.int .i64 r.2.1, HV.bool r.2.2.1, HV.int .i64 r.2.2.2]) := by
 unfold m_subset_Focus at h
 refine Pure.of_body Tryz.func7 rfl rfl (Nat.le_of_ble_eq_true rfl) fun hf => ?_
 unfold Tryz.f7
 dsimp only [enumS, Nat.reduceAdd]
 refine AW.rgs rfl fun K hK => ?_
 refine b_op rfl (o_box rfl rfl rfl ?_)
 refine mv rfl rfl ?_
 refine mv rfl rfl ?_
 refine mv rfl rfl ?_
 refine mv rfl rfl ?_
 refine b_fin hK (s' := ⟨[(1, HV.fptr [HV.int .i64 p0.1, HV.int .i64 p0.2.1, slE eFromLabelTo p0.2.2] 0)], []⟩) (le_q rfl rfl) ?_
 clear hK K
 refine AW.rgs rfl fun K hK => ?_
 refine bv rfl (v_loadF ty24 rfl (l_litA rfl (Nat.le_of_ble_eq_true rfl) rfl)) ?_
 obtain ⟨x1, h2, h⟩ := bS h
 refine b_op rfl (o_call rfl rfl rfl rfl (ACallD.pure0 (w_subset_Build h2)) ?_)
 refine mv rfl rfl ?_
 refine bv rfl (v_extract rfl rfl) ?_
 refine bv rfl (v_extract rfl rfl) ?_
 refine bv rfl (v_extract rfl rfl) ?_
 refine b_op rfl (o_alloc (fid := 7) (zs := [HV.int .i64 0, HV.int .i64 0, HV.v (.slice none 0 0)]) 7006 rfl rfl ty24 rfl (fun v3 => ?_))
 refine b_op rfl (o_store (cs := [HV.int .i64 x1.1.1, HV.int .i64 x1.1.2.1, slE eFromLabelTo x1.1.2.2]) (zs := [HV.int .i64 x1.1.1, HV.int .i64 x1.1.2.1, slE eFromLabelTo x1.1.2.2]) rfl rfl rfl ty24 rfl rfl rfl rfl rfl ?_)
 refine mv rfl rfl ?_
 refine mv rfl rfl ?_
 refine b_fin hK (s' := ⟨[(6, HV.ptr 7006 v3 0), (7, slE (eSl eInt) x1.2.1), (8, HV.int .i64 x1.2.2)], [(7006, v3, .arr 3 24 [HV.int .i64 x1.1.1, HV.int .i64 x1.1.2.1, slE eFromLabelTo x1.1.2.2])]⟩) (le_q rfl rfl) ?_
 clear hK K
 refine AW.seq ?_
 refine AW.seqJ h (S := Bool) (V := Unit) (fun a v => ⟨[(6, HV.ptr 7006 v3 0), (7, slE (eSl eInt) x1.2.1), (8, HV.int .i64 x1.2.2), (26, HV.bool a)], [(7006, v3, .arr 3 24 [HV.int .i64 x1.1.1, HV.int .i64 x1.1.2.1, slE eFromLabelTo x1.1.2.2])]⟩) (fun a4 w5 h => ?_) (fun k6 h => ?_)
 ·refine AW.cond rfl (fun hc => ?_) (fun hc => ?_)
  ·have h := ifT hc h
   refine AW.rgs rfl fun K hK => ?_
   refine mv rfl rfl ?_
   refine mv rfl rfl ?_
   refine mv rfl rfl ?_
   refine mv rfl rfl ?_
   refine mv rfl rfl ?_
   refine b_fin hK (s' := ⟨[(2, HV.v (.slice none 0 0)), (3, HV.int .i64 0), (4, HV.bool false), (5, HV.int .i64 x1.2.2)], []⟩) (le_q rfl rfl) ?_
   clear hK K
   refine AW.to (to_weak ⟨[(2, slE eInt ([] : List Int)), (3, HV.int .i64 0), (4, HV.bool false), (5, HV.int .i64 x1.2.2)], []⟩ ⟨⟨_, rfl, .nil _⟩, ⟨_, rfl, .refl _⟩, ⟨_, rfl, .refl _⟩, ⟨_, rfl, .refl _⟩, trivial⟩ trivial ?_)
   refine AW.ret ?_
   have h := Option.some.inj h
   subst h
   exact ret_pure (hs := [slE eInt ([] : List Int), HV.int .i64 0, HV.bool false, HV.int .i64 x1.2.2]) (q := HV.tup [slE eInt ([] : List Int), HV.int .i64 0, HV.bool false, HV.int .i64 x1.2.2]) (.inr rfl) (resT rfl (resT rfl (resT rfl (resT rfl rfl)))) rfl ⟨(clean_slE fun _ _ => ⟨trivial, trivial⟩), trivial, trivial, trivial, trivial⟩
  ·have h := ifF (bF' hc) h
   refine AW.skip ?_
   refine AW.rgs rfl fun K hK => ?_
   refine bv rfl (v_fieldAddrP fo24_1 rfl rfl) ?_
   refine bv rfl (v_loadP ty3 rfl rfl (l_lit rfl rfl)) ?_
   obtain ⟨h8, h⟩ := ifN h
   refine b_op rfl (o_makeN (fid := 7) eInt 7030 rfl rfl ty35 rfl rfl ty27 rfl rfl h8 (fun v7 => ?_))
   refine mv rfl rfl ?_
   refine b_fin hK (s' := ⟨[(6, HV.ptr 7006 v3 0), (7, slE (eSl eInt) x1.2.1), (9, HV.ar 7030 v7 (eSl eInt).k 0 ((List.replicate (x1.1.2.1).toNat ([] : List (Int))).length))], [(7006, v3, .arr 3 24 [HV.int .i64 x1.1.1, HV.int .i64 x1.1.2.1, slE eFromLabelTo x1.1.2.2]), (7030, v7, .arr (eSl eInt).k 27 ((eSl eInt).E (List.replicate (x1.1.2.1).toNat ([] : List (Int)))))]⟩) (le_q rfl rfl) ?_
   clear hK K
   refine AW.seq ?_
   refine AW.rgs rfl fun K hK => ?_
   refine mv rfl rfl ?_
   refine mv rfl rfl ?_
   refine b_fin hK (s' := ⟨[(6, HV.ptr 7006 v3 0), (7, slE (eSl eInt) x1.2.1), (9, HV.ar 7030 v7 (eSl eInt).k 0 ((List.replicate (x1.1.2.1).toNat ([] : List (Int))).length)), (10, HV.int .i64 0), (11, HV.int .i64 1)], [(7006, v3, .arr 3 24 [HV.int .i64 x1.1.1, HV.int .i64 x1.1.2.1, slE eFromLabelTo x1.1.2.2]), (7030, v7, .arr (eSl eInt).k 27 ((eSl eInt).E (List.replicate (x1.1.2.1).toNat ([] : List (Int)))))]⟩) (le_q rfl rfl) ?_
   clear hK K
   refine AW.lpR h (by first | exact up_then | exact up_to) (S := Int × Int × (List (List (Int)))) (V := Unit) (fun a v => ⟨[(6, HV.ptr 7006 v3 0), (7, slE (eSl eInt) x1.2.1), (9, HV.ar 7030 v7 (eSl eInt).k 0 ((a.2.2).length)), (10, HV.int .i64 a.1), (11, HV.int .i64 a.2.1)], [(7006, v3, .arr 3 24 [HV.int .i64 x1.1.1, HV.int .i64 x1.1.2.1, slE eFromLabelTo x1.1.2.2]), (7030, v7, .arr (eSl eInt).k 27 ((eSl eInt).E a.2.2))]⟩) ?_ (X := Unit) (W := Unit) (fun a v => ⟨[], []⟩) (fun a40 w41 h => ?_) (fun a9 w10 st11 h hr12=> ?_)
   ·exact to_le (s' := ⟨[(6, HV.ptr 7006 v3 0), (7, slE (eSl eInt) x1.2.1), (9, HV.ar 7030 v7 (eSl eInt).k 0 ((List.replicate (x1.1.2.1).toNat ([] : List (Int))).length)), (10, HV.int .i64 0), (11, HV.int .i64 1)], [(7006, v3, .arr 3 24 [HV.int .i64 x1.1.1, HV.int .i64 x1.1.2.1, slE eFromLabelTo x1.1.2.2]), (7030, v7, .arr (eSl eInt).k 27 ((eSl eInt).E (List.replicate (x1.1.2.1).toNat ([] : List (Int)))))]⟩) (AS.le_of ⟨rfl, rfl, rfl, rfl, rfl, trivial⟩ ⟨rfl, rfl, trivial⟩) ⟨(), rfl⟩
   ·refine AW.rgs rfl fun K hK => ?_
    refine mv rfl rfl ?_
    refine mv rfl rfl ?_
    refine mv rfl rfl ?_
    refine mv rfl rfl ?_
    refine b_fin hK (s' := ⟨[(2, HV.v (.slice none 0 0)), (3, HV.int .i64 0), (4, HV.bool false), (5, HV.int .i64 0)], []⟩) (le_q rfl rfl) ?_
    clear hK K
    refine AW.to (to_weak ⟨[(2, slE eInt ([] : List Int)), (3, HV.int .i64 0), (4, HV.bool false), (5, HV.int .i64 0)], []⟩ ⟨⟨_, rfl, .nil _⟩, ⟨_, rfl, .refl _⟩, ⟨_, rfl, .refl _⟩, ⟨_, rfl, .refl _⟩, trivial⟩ trivial ?_)
    refine AW.ret ?_
    have h := Option.some.inj h
    subst h
    exact ret_pure (hs := [slE eInt ([] : List Int), HV.int .i64 0, HV.bool false, HV.int .i64 0]) (q := HV.tup [slE eInt ([] : List Int), HV.int .i64 0, HV.bool false, HV.int .i64 0]) (.inr rfl) (resT rfl (resT rfl (resT rfl (resT rfl rfl)))) rfl ⟨(clean_slE fun _ _ => ⟨trivial, trivial⟩), trivial, trivial, trivial, trivial⟩
   ·refine AW.seq ?_
    refine AW.rgs rfl fun K hK => ?_
    refine mv rfl rfl ?_
    refine bv rfl (v_fieldAddrP fo24_1 rfl rfl) ?_
    refine bv rfl (v_loadP ty3 rfl rfl (l_lit rfl rfl)) ?_
    refine bv rfl (v_bin rfl rfl b_lss) ?_
    refine b_fin hK (s' := ⟨[(6, HV.ptr 7006 v3 0), (7, slE (eSl eInt) x1.2.1), (9, HV.ar 7030 v7 (eSl eInt).k 0 ((a9.2.2).length)), (10, HV.int .i64 a9.1), (11, HV.int .i64 a9.2.1), (34, HV.bool (decide (a9.1 < x1.1.2.1)))], [(7006, v3, .arr 3 24 [HV.int .i64 x1.1.1, HV.int .i64 x1.1.2.1, slE eFromLabelTo x1.1.2.2]), (7030, v7, .arr (eSl eInt).k 27 ((eSl eInt).E a9.2.2))]⟩) (le_q rfl rfl) ?_
    clear hK K
    refine AW.cond rfl (fun hc => ?_) (fun hc => ?_)
    ·have hc := of_decide_eq_true hc
     have h := ifT hc h
     refine AW.skip ?_
     refine AW.seq (AW.block ?_)
     refine AW.seq ?_
     refine AW.rgs rfl fun K hK => ?_
     refine mv rfl rfl ?_
     refine mv rfl rfl ?_
     obtain ⟨x13, h14, h⟩ := bS h
     refine bv rfl (v_idxF ty35 es35 rfl rfl (idx_lt h14)) ?_
     refine bv rfl (v_loadF ty27 rfl (l_cell (eSl eInt) h14 (o := 0) rfl rfl)) ?_
     refine bv rfl (v_lenF rfl rfl ty27 rfl) ?_
     refine bv rfl (v_bin rfl rfl b_eql) ?_
     refine b_fin hK (s' := ⟨[(6, HV.ptr 7006 v3 0), (7, slE (eSl eInt) x1.2.1), (9, HV.ar 7030 v7 (eSl eInt).k 0 ((a9.2.2).length)), (10, HV.int .i64 a9.1), (11, HV.int .i64 a9.2.1), (42, HV.bool (decide (((x13).length : Int) = 1)))], [(7006, v3, .arr 3 24 [HV.int .i64 x1.1.1, HV.int .i64 x1.1.2.1, slE eFromLabelTo x1.1.2.2]), (7030, v7, .arr (eSl eInt).k 27 ((eSl eInt).E a9.2.2))]⟩) (le_q rfl rfl) ?_
     clear hK K
     refine AW.cond rfl (fun hc => ?_) (fun hc => ?_)
     ·have hc := of_decide_eq_true hc
      have h := ifT hc h
      refine AW.dgs 14 follows rfl rfl fun K hK => ?_
      refine sm rfl rfl ?_
      refine sm rfl rfl ?_
      obtain ⟨x15, h16, h⟩ := bS h
      refine sv rfl (v_idxA ty35 es35 rfl rfl (idx_lt h16) rfl) ?_
      obtain ⟨x17, h18, h⟩ := bS h
      refine sv rfl (v_loadP ty27 rfl rfl (l_cell (eSl eInt) h18 (o := 0) rfl rfl)) ?_
      refine sm rfl rfl ?_
      refine sm rfl rfl ?_
      obtain ⟨x19, h20, h⟩ := bS h
      refine sv rfl (v_idxF ty35 es35 rfl rfl (idx_lt h20)) ?_
      refine sv rfl (v_loadF ty27 rfl (l_cell (eSl eInt) h20 (o := 0) rfl rfl)) ?_
      obtain ⟨x21, h22, h⟩ := bS h
      refine sv rfl (v_idxF ty27 es27 rfl rfl (idx_lt h22)) ?_
      refine sv rfl (v_loadF ty3 rfl (l_cell eInt h22 (o := 0) rfl rfl)) ?_
      refine sm rfl rfl ?_
      refine sm rfl rfl ?_
      refine sm rfl rfl ?_
      refine sm rfl rfl ?_
      refine s_nil ?_
      refine b_fin hK (s' := ⟨[(2, slE eInt x17), (3, HV.int .i64 x21), (4, HV.bool true), (5, HV.int .i64 0)], []⟩) (le_q rfl rfl) ?_
      clear hK K
      have h := hr12 _ h
      refine AW.ret ?_
      have h := Option.some.inj h
      subst h
      exact ret_pure (hs := [slE eInt x17, HV.int .i64 x21, HV.bool true, HV.int .i64 0]) (q := HV.tup [slE eInt x17, HV.int .i64 x21, HV.bool true, HV.int .i64 0]) (.inr rfl) (resT rfl (resT rfl (resT rfl (resT rfl rfl)))) rfl ⟨(clean_slE fun _ _ => ⟨trivial, trivial⟩), trivial, trivial, trivial, trivial⟩
     ·have hc := of_decide_eq_false hc
      have h := ifF hc h
      refine AW.skip ?_
      refine AW.rgs rfl fun K hK => ?_
      refine bv rfl (v_fieldAddrP fo24_2 rfl rfl) ?_
      refine bv rfl (v_loadP ty22 rfl rfl (l_lit rfl rfl)) ?_
      refine bv rfl (v_lenF rfl rfl ty22 rfl) ?_
      refine mv rfl rfl ?_
      refine b_fin hK (s' := ⟨[(6, HV.ptr 7006 v3 0), (7, slE (eSl eInt) x1.2.1), (9, HV.ar 7030 v7 (eSl eInt).k 0 ((a9.2.2).length)), (10, HV.int .i64 a9.1), (11, HV.int .i64 a9.2.1), (54, slE eFromLabelTo x1.1.2.2), (55, HV.int .i64 ((x1.1.2.2).length : Int)), (56, HV.int .i64 0)], [(7006, v3, .arr 3 24 [HV.int .i64 x1.1.1, HV.int .i64 x1.1.2.1, slE eFromLabelTo x1.1.2.2]), (7030, v7, .arr (eSl eInt).k 27 ((eSl eInt).E a9.2.2))]⟩) (le_q rfl rfl) ?_
      clear hK K
      refine AW.lpX h (by first | exact up_then | exact up_to) (S := Int × Int × (List (List (Int)))) (V := Unit) (fun a v => ⟨[(6, HV.ptr 7006 v3 0), (7, slE (eSl eInt) x1.2.1), (9, HV.ar 7030 v7 (eSl eInt).k 0 ((a.2.2).length)), (10, HV.int .i64 a9.1), (11, HV.int .i64 a.1), (54, slE eFromLabelTo x1.1.2.2), (55, HV.int .i64 ((x1.1.2.2).length : Int)), (56, HV.int .i64 a.2.1)], [(7006, v3, .arr 3 24 [HV.int .i64 x1.1.1, HV.int .i64 x1.1.2.1, slE eFromLabelTo x1.1.2.2]), (7030, v7, .arr (eSl eInt).k 27 ((eSl eInt).E a.2.2))]⟩) ?_ (X := (List (List (Int))) × Int) (W := Unit) (fun a v => ⟨[(6, HV.ptr 7006 v3 0), (7, slE (eSl eInt) x1.2.1), (9, HV.ar 7030 v7 (eSl eInt).k 0 ((a.1).length)), (10, HV.int .i64 a9.1), (11, HV.int .i64 a.2)], [(7006, v3, .arr 3 24 [HV.int .i64 x1.1.1, HV.int .i64 x1.1.2.1, slE eFromLabelTo x1.1.2.2]), (7030, v7, .arr (eSl eInt).k 27 ((eSl eInt).E a.1))]⟩) (fun a38 w39 h => ?_) (fun a23 w24 st25 h => ?_)
      ·exact to_le (s' := ⟨[(6, HV.ptr 7006 v3 0), (7, slE (eSl eInt) x1.2.1), (9, HV.ar 7030 v7 (eSl eInt).k 0 ((a9.2.2).length)), (10, HV.int .i64 a9.1), (11, HV.int .i64 a9.2.1), (54, slE eFromLabelTo x1.1.2.2), (55, HV.int .i64 ((x1.1.2.2).length : Int)), (56, HV.int .i64 0)], [(7006, v3, .arr 3 24 [HV.int .i64 x1.1.1, HV.int .i64 x1.1.2.1, slE eFromLabelTo x1.1.2.2]), (7030, v7, .arr (eSl eInt).k 27 ((eSl eInt).E a9.2.2))]⟩) (AS.le_of ⟨rfl, rfl, rfl, rfl, rfl, rfl, rfl, rfl, trivial⟩ ⟨rfl, rfl, trivial⟩) ⟨(), rfl⟩
      ·refine AW.rg rfl fun K hK => ?_
       refine mv rfl rfl ?_
       refine bv rfl (v_bin rfl rfl b_add) ?_
       refine mv rfl rfl ?_
       refine b_nil (hK _ ?_)
       clear hK K
       exact to_le (s' := ⟨[(6, HV.ptr 7006 v3 0), (7, slE (eSl eInt) x1.2.1), (9, HV.ar 7030 v7 (eSl eInt).k 0 ((a38.1).length)), (10, HV.int .i64 (IntKind.wrap .i64 (a9.1 + 1))), (11, HV.int .i64 a38.2)], [(7006, v3, .arr 3 24 [HV.int .i64 x1.1.1, HV.int .i64 x1.1.2.1, slE eFromLabelTo x1.1.2.2]), (7030, v7, .arr (eSl eInt).k 27 ((eSl eInt).E a38.1))]⟩) (AS.le_of ⟨rfl, rfl, rfl, rfl, rfl, trivial⟩ ⟨rfl, rfl, trivial⟩) ⟨(IntKind.wrap .i64 (a9.1 + 1), a38.2, a38.1), (), h, rfl⟩
      ·refine AW.rgs rfl fun K hK => ?_
       refine bv rfl (v_bin rfl rfl b_lss) ?_
       refine b_fin hK (s' := ⟨[(6, HV.ptr 7006 v3 0), (7, slE (eSl eInt) x1.2.1), (9, HV.ar 7030 v7 (eSl eInt).k 0 ((a23.2.2).length)), (10, HV.int .i64 a9.1), (11, HV.int .i64 a23.1), (54, slE eFromLabelTo x1.1.2.2), (55, HV.int .i64 ((x1.1.2.2).length : Int)), (56, HV.int .i64 a23.2.1), (57, HV.bool (decide (a23.2.1 < ((x1.1.2.2).length : Int))))], [(7006, v3, .arr 3 24 [HV.int .i64 x1.1.1, HV.int .i64 x1.1.2.1, slE eFromLabelTo x1.1.2.2]), (7030, v7, .arr (eSl eInt).k 27 ((eSl eInt).E a23.2.2))]⟩) (le_q rfl rfl) ?_
       clear hK K
       refine AW.cseq rfl (fun hc => ?_) (fun hc => ?_)
       ·have hc := of_decide_eq_true hc
        have h := ifT hc h
        refine AW.skip ?_
        refine AW.seqJ h (S := Int × (List (List (Int)))) (V := Unit) (fun a v => ⟨[(6, HV.ptr 7006 v3 0), (7, slE (eSl eInt) x1.2.1), (9, HV.ar 7030 v7 (eSl eInt).k 0 ((a.2).length)), (10, HV.int .i64 a9.1), (11, HV.int .i64 a.1), (54, slE eFromLabelTo x1.1.2.2), (55, HV.int .i64 ((x1.1.2.2).length : Int)), (56, HV.int .i64 a23.2.1)], [(7006, v3, .arr 3 24 [HV.int .i64 x1.1.1, HV.int .i64 x1.1.2.1, slE eFromLabelTo x1.1.2.2]), (7030, v7, .arr (eSl eInt).k 27 ((eSl eInt).E a.2))]⟩) (fun a27 w28 h => ?_) (fun k29 h => ?_)
        ·refine AW.rg rfl fun K hK => ?_
         refine bv rfl (v_bin rfl rfl b_add) ?_
         refine mv rfl rfl ?_
         refine b_nil (hK _ ?_)
         clear hK K
         exact to_le (s' := ⟨[(6, HV.ptr 7006 v3 0), (7, slE (eSl eInt) x1.2.1), (9, HV.ar 7030 v7 (eSl eInt).k 0 ((a27.2).length)), (10, HV.int .i64 a9.1), (11, HV.int .i64 a27.1), (54, slE eFromLabelTo x1.1.2.2), (55, HV.int .i64 ((x1.1.2.2).length : Int)), (56, HV.int .i64 (IntKind.wrap .i64 (a23.2.1 + 1)))], [(7006, v3, .arr 3 24 [HV.int .i64 x1.1.1, HV.int .i64 x1.1.2.1, slE eFromLabelTo x1.1.2.2]), (7030, v7, .arr (eSl eInt).k 27 ((eSl eInt).E a27.2))]⟩) (AS.le_of ⟨rfl, rfl, rfl, rfl, rfl, rfl, rfl, rfl, trivial⟩ ⟨rfl, rfl, trivial⟩) ⟨(a27.1, IntKind.wrap .i64 (a23.2.1 + 1), a27.2), (), h, rfl⟩
        ·refine AW.block ?_
         refine AW.rgs rfl fun K hK => ?_
         obtain ⟨x30, h31, h⟩ := bS h
         refine bv rfl (v_idxF ty22 es22 rfl rfl (idx_lt h31)) ?_
         refine bv rfl (v_loadF ty56 rfl (l_agg eFromLabelTo h31 rfl rfl)) ?_
         refine b_op rfl (o_alloc (fid := 7) (zs := [HV.int .i64 0, HV.int .i64 0, HV.int .i64 0]) 7013 rfl rfl ty56 rfl (fun v32 => ?_))
         refine b_op rfl (o_store (cs := [HV.int .i64 x30.1, HV.int .i64 x30.2.1, HV.int .i64 x30.2.2]) (zs := [HV.int .i64 x30.1, HV.int .i64 x30.2.1, HV.int .i64 x30.2.2]) rfl rfl rfl ty56 rfl rfl rfl rfl rfl ?_)
         refine b_fin hK (s' := ⟨[(6, HV.ptr 7006 v3 0), (7, slE (eSl eInt) x1.2.1), (9, HV.ar 7030 v7 (eSl eInt).k 0 ((a23.2.2).length)), (10, HV.int .i64 a9.1), (11, HV.int .i64 a23.1), (13, HV.ptr 7013 v32 0), (54, slE eFromLabelTo x1.1.2.2), (55, HV.int .i64 ((x1.1.2.2).length : Int)), (56, HV.int .i64 a23.2.1)], [(7006, v3, .arr 3 24 [HV.int .i64 x1.1.1, HV.int .i64 x1.1.2.1, slE eFromLabelTo x1.1.2.2]), (7030, v7, .arr (eSl eInt).k 27 ((eSl eInt).E a23.2.2)), (7013, v32, .arr 3 56 [HV.int .i64 x30.1, HV.int .i64 x30.2.1, HV.int .i64 x30.2.2])]⟩) (le_q rfl rfl) ?_
         clear hK K
         refine AW.seqJ h (S := Bool) (V := Unit) (fun a v => ⟨[(6, HV.ptr 7006 v3 0), (7, slE (eSl eInt) x1.2.1), (9, HV.ar 7030 v7 (eSl eInt).k 0 ((a23.2.2).length)), (10, HV.int .i64 a9.1), (11, HV.int .i64 a23.1), (13, HV.ptr 7013 v32 0), (54, slE eFromLabelTo x1.1.2.2), (55, HV.int .i64 ((x1.1.2.2).length : Int)), (56, HV.int .i64 a23.2.1), (69, HV.bool a)], [(7006, v3, .arr 3 24 [HV.int .i64 x1.1.1, HV.int .i64 x1.1.2.1, slE eFromLabelTo x1.1.2.2]), (7013, v32, .arr 3 56 [HV.int .i64 x30.1, HV.int .i64 x30.2.1, HV.int .i64 x30.2.2]), (7030, v7, .arr (eSl eInt).k 27 ((eSl eInt).E a23.2.2))]⟩) (fun a33 w34 h => ?_) (fun k35 h => ?_)
         ·refine AW.cond rfl (fun hc => ?_) (fun hc => ?_)
          ·have h := ifT hc h
           refine AW.dls follows fun K hK F hF => ?_
           obtain ⟨x360401, h360402, h⟩ := bS h
           obtain ⟨x360501, h360502, h⟩ := bS h
           obtain ⟨x360601, h360602, h⟩ := bS h
           obtain ⟨h361002, h⟩ := ifN h
           obtain ⟨x361101, h361102, h⟩ := bS h
           refine l_go (L' := []) hF rfl (s' := ⟨[(6, HV.ptr 7006 v3 0), (7, slE (eSl eInt) x1.2.1), (9, HV.ar 7030 v7 (eSl eInt).k 0 ((a23.2.2).length)), (10, HV.int .i64 a9.1), (11, HV.int .i64 a23.1), (13, HV.ptr 7013 v32 0), (54, slE eFromLabelTo x1.1.2.2), (55, HV.int .i64 ((x1.1.2.2).length : Int)), (56, HV.int .i64 a23.2.1)], [(7006, v3, .arr 3 24 [HV.int .i64 x1.1.1, HV.int .i64 x1.1.2.1, slE eFromLabelTo x1.1.2.2]), (7013, v32, .arr 3 56 [HV.int .i64 x30.1, HV.int .i64 x30.2.1, HV.int .i64 x30.2.2]), (7030, v7, .arr (eSl eInt).k 27 ((eSl eInt).E a23.2.2))]⟩) ?_ (le_q rfl rfl)
           have g36_15 : ∀ (v361001 : Nat), F [0, 1, 2, 3, 4, 5, 6, 7, 8, 9, 10, 11, 12] ⟨[(6, HV.ptr 7006 v3 0), (7, slE (eSl eInt) x1.2.1), (9, HV.ar 7030 v7 (eSl eInt).k 0 ((a23.2.2).length)), (10, HV.int .i64 a9.1), (11, HV.int .i64 a23.1), (54, slE eFromLabelTo x1.1.2.2), (55, HV.int .i64 ((x1.1.2.2).length : Int)), (56, HV.int .i64 a23.2.1)], [(7006, v3, .arr 3 24 [HV.int .i64 x1.1.1, HV.int .i64 x1.1.2.1, slE eFromLabelTo x1.1.2.2]), (7013, v32, .arr 3 56 [HV.int .i64 x30.1, HV.int .i64 x30.2.1, HV.int .i64 x30.2.2]), (7030, v7, .arr (eSl eInt).k 27 (((eSl eInt).E a23.2.2).set (a23.1).toNat (HV.ar 7076 v361001 eInt.k 0 ((x360601 ++ [x30.2.1]).length)))), (7076, v361001, .arr eInt.k 3 (eInt.E (x360601 ++ [x30.2.1])))]⟩ := by
            intro v361001
            refine l_done hF rfl rfl (hK _ (AW.to (to_le (s' := ⟨[(6, HV.ptr 7006 v3 0), (7, slE (eSl eInt) x1.2.1), (9, HV.ar 7030 v7 (eSl eInt).k 0 ((a23.2.2).length)), (10, HV.int .i64 a9.1), (11, HV.int .i64 a23.1), (54, slE eFromLabelTo x1.1.2.2), (55, HV.int .i64 ((x1.1.2.2).length : Int)), (56, HV.int .i64 a23.2.1)], [(7006, v3, .arr 3 24 [HV.int .i64 x1.1.1, HV.int .i64 x1.1.2.1, slE eFromLabelTo x1.1.2.2]), (7030, v7, .arr (eSl eInt).k 27 (((eSl eInt).E a23.2.2).set (a23.1).toNat (HV.ar 7076 v361001 eInt.k 0 ((x360601 ++ [x30.2.1]).length)))), (7076, v361001, .arr eInt.k 3 (eInt.E (x360601 ++ [x30.2.1])))]⟩) (le_q rfl rfl) ?_)))
            first | clear hF F hK K | clear hK K
            refine AW.rg rfl fun K hK => ?_
            refine mv rfl rfl ?_
            refine bv rfl (v_bin rfl rfl b_add) ?_
            refine mv rfl rfl ?_
            refine b_nil (hK _ ?_)
            first | clear hF F hK K | clear hK K
            refine to_bind (to_fill 2 [(7076, v361001, .arr eInt.k 3 (eInt.E (x360601 ++ [x30.2.1])))] ⟨[(6, HV.ptr 7006 v3 0), (7, slE (eSl eInt) x1.2.1), (9, HV.ar 7030 v7 (eSl eInt).k 0 ((a23.2.2).length)), (10, HV.int .i64 a9.1), (11, HV.int .i64 (IntKind.wrap .i64 (a23.1 + 1))), (54, slE eFromLabelTo x1.1.2.2), (55, HV.int .i64 ((x1.1.2.2).length : Int)), (56, HV.int .i64 a23.2.1)], [(7006, v3, .arr 3 24 [HV.int .i64 x1.1.1, HV.int .i64 x1.1.2.1, slE eFromLabelTo x1.1.2.2]), (7030, v7, .arr (eSl eInt).k 27 ((eSl eInt).E ((a23.2.2).set (a23.1).toNat (x360601 ++ [x30.2.1]))))]⟩ ⟨⟨_, rfl, rfl⟩, ⟨_, rfl, rfl⟩, ⟨_, rfl, rfl⟩, ⟨_, rfl, rfl⟩, ⟨_, rfl, rfl⟩, ⟨_, rfl, rfl⟩, ⟨_, rfl, rfl⟩, ⟨_, rfl, rfl⟩, trivial⟩ ⟨.inl rfl, .inr ⟨_, _, _, rfl, fill_obj (c := eInt) rfl rfl fun _ => rfl⟩, trivial⟩ ⟨rfl, trivial⟩ ⟨rfl, trivial⟩ ?_)
            exact to_le (s' := ⟨[(6, HV.ptr 7006 v3 0), (7, slE (eSl eInt) x1.2.1), (9, HV.ar 7030 v7 (eSl eInt).k 0 (((a23.2.2).set (a23.1).toNat (x360601 ++ [x30.2.1])).length)), (10, HV.int .i64 a9.1), (11, HV.int .i64 (IntKind.wrap .i64 (a23.1 + 1))), (54, slE eFromLabelTo x1.1.2.2), (55, HV.int .i64 ((x1.1.2.2).length : Int)), (56, HV.int .i64 a23.2.1)], [(7006, v3, .arr 3 24 [HV.int .i64 x1.1.1, HV.int .i64 x1.1.2.1, slE eFromLabelTo x1.1.2.2]), (7030, v7, .arr (eSl eInt).k 27 ((eSl eInt).E ((a23.2.2).set (a23.1).toNat (x360601 ++ [x30.2.1]))))]⟩) (AS.le_of ⟨rfl, rfl, arl (by first | rfl | simp only [List.length_set, sortI_len, sortS_len]), rfl, rfl, rfl, rfl, rfl, trivial⟩ ⟨rfl, rfl, trivial⟩) ⟨(IntKind.wrap .i64 (a23.1 + 1), (a23.2.2).set (a23.1).toNat (x360601 ++ [x30.2.1])), (), h, rfl⟩
           have g36_14 : ∀ (v361001 : Nat), F [0, 1, 2, 3, 4, 5, 6, 7, 8, 9, 10, 11] ⟨[(6, HV.ptr 7006 v3 0), (7, slE (eSl eInt) x1.2.1), (9, HV.ar 7030 v7 (eSl eInt).k 0 ((a23.2.2).length)), (10, HV.int .i64 a9.1), (11, HV.int .i64 a23.1), (54, slE eFromLabelTo x1.1.2.2), (55, HV.int .i64 ((x1.1.2.2).length : Int)), (56, HV.int .i64 a23.2.1), (80, HV.ar 7076 v361001 eInt.k 0 ((x360601 ++ [x30.2.1]).length)), (81, HV.ptr 7030 v7 ((a23.1).toNat * (eSl eInt).k))], [(7006, v3, .arr 3 24 [HV.int .i64 x1.1.1, HV.int .i64 x1.1.2.1, slE eFromLabelTo x1.1.2.2]), (7013, v32, .arr 3 56 [HV.int .i64 x30.1, HV.int .i64 x30.2.1, HV.int .i64 x30.2.2]), (7030, v7, .arr (eSl eInt).k 27 ((eSl eInt).E a23.2.2)), (7076, v361001, .arr eInt.k 3 (eInt.E (x360601 ++ [x30.2.1])))]⟩ := by
            intro v361001
            refine l_step hF rfl [12] rfl rfl ⟨?_, trivial⟩
            ·refine l_op rfl rfl rfl (o_storeH eInt (L := a23.2.2) (j := a23.1) rfl rfl rfl ty27 rfl rfl rfl (idx_lt h361102) ?_)
             exact b_nil (l_go hF rfl (g36_15 v361001) (le_q rfl rfl))
           have g36_13 : ∀ (v361001 : Nat), F [0, 1, 2, 3, 4, 5, 6, 7, 8, 9, 10] ⟨[(6, HV.ptr 7006 v3 0), (7, slE (eSl eInt) x1.2.1), (9, HV.ar 7030 v7 (eSl eInt).k 0 ((a23.2.2).length)), (10, HV.int .i64 a9.1), (11, HV.int .i64 a23.1), (54, slE eFromLabelTo x1.1.2.2), (55, HV.int .i64 ((x1.1.2.2).length : Int)), (56, HV.int .i64 a23.2.1), (70, HV.ar 7030 v7 (eSl eInt).k 0 ((a23.2.2).length)), (71, HV.int .i64 a23.1), (80, HV.ar 7076 v361001 eInt.k 0 ((x360601 ++ [x30.2.1]).length))], [(7006, v3, .arr 3 24 [HV.int .i64 x1.1.1, HV.int .i64 x1.1.2.1, slE eFromLabelTo x1.1.2.2]), (7013, v32, .arr 3 56 [HV.int .i64 x30.1, HV.int .i64 x30.2.1, HV.int .i64 x30.2.2]), (7030, v7, .arr (eSl eInt).k 27 ((eSl eInt).E a23.2.2)), (7076, v361001, .arr eInt.k 3 (eInt.E (x360601 ++ [x30.2.1])))]⟩ := by
            intro v361001
            refine l_take (i := 11) hF rfl rfl rfl (v_idxA ty35 es35 rfl rfl (idx_lt h361102) rfl) ?_
            exact l_go hF rfl (g36_14 v361001) (le_q rfl rfl)
           have g36_12 : ∀ (v360603 : Nat), F [0, 1, 2, 3, 4, 5, 6, 7, 8, 9] ⟨[(6, HV.ptr 7006 v3 0), (7, slE (eSl eInt) x1.2.1), (9, HV.ar 7030 v7 (eSl eInt).k 0 ((a23.2.2).length)), (10, HV.int .i64 a9.1), (11, HV.int .i64 a23.1), (54, slE eFromLabelTo x1.1.2.2), (55, HV.int .i64 ((x1.1.2.2).length : Int)), (56, HV.int .i64 a23.2.1), (70, HV.ar 7030 v7 (eSl eInt).k 0 ((a23.2.2).length)), (71, HV.int .i64 a23.1), (76, HV.ar 7076 v360603 eInt.k 0 ((x360601).length)), (79, slE eInt [x30.2.1])], [(7006, v3, .arr 3 24 [HV.int .i64 x1.1.1, HV.int .i64 x1.1.2.1, slE eFromLabelTo x1.1.2.2]), (7013, v32, .arr 3 56 [HV.int .i64 x30.1, HV.int .i64 x30.2.1, HV.int .i64 x30.2.2]), (7030, v7, .arr (eSl eInt).k 27 ((eSl eInt).E a23.2.2)), (7076, v360603, .arr eInt.k 3 (eInt.E x360601))]⟩ := by
            intro v360603
            refine l_step hF rfl [10] rfl rfl ⟨?_, trivial⟩
            ·refine l_op rfl rfl rfl (o_appE eInt (l := x360601) (m := [x30.2.1]) rfl rfl ty27 ty27 ty3 rfl rfl rfl rfl rfl h361002 (fun v361001 => ?_))
             exact b_nil (l_go hF rfl (g36_13 v361001) (le_q rfl rfl))
           have g36_11 : F [0, 1, 2, 3, 4, 5, 7, 8, 9] ⟨[(6, HV.ptr 7006 v3 0), (7, slE (eSl eInt) x1.2.1), (9, HV.ar 7030 v7 (eSl eInt).k 0 ((a23.2.2).length)), (10, HV.int .i64 a9.1), (11, HV.int .i64 a23.1), (54, slE eFromLabelTo x1.1.2.2), (55, HV.int .i64 ((x1.1.2.2).length : Int)), (56, HV.int .i64 a23.2.1), (70, HV.ar 7030 v7 (eSl eInt).k 0 ((a23.2.2).length)), (71, HV.int .i64 a23.1), (75, slE eInt x360501), (79, slE eInt [x30.2.1])], [(7006, v3, .arr 3 24 [HV.int .i64 x1.1.1, HV.int .i64 x1.1.2.1, slE eFromLabelTo x1.1.2.2]), (7013, v32, .arr 3 56 [HV.int .i64 x30.1, HV.int .i64 x30.2.1, HV.int .i64 x30.2.2]), (7030, v7, .arr (eSl eInt).k 27 ((eSl eInt).E a23.2.2))]⟩ := by
            refine l_step hF rfl [6] rfl rfl ⟨?_, trivial⟩
            ·refine l_op rfl rfl rfl (o_callA rfl rfl rfl rfl (c_cloneO 7076 h360602 fun v360603 => ?_) )
             exact b_nil (l_go hF rfl (g36_12 v360603) (le_q rfl rfl))
           have g36_16 : ∀ (v360603 : Nat), F [0, 1, 2, 3, 4, 5, 6, 7, 8] ⟨[(6, HV.ptr 7006 v3 0), (7, slE (eSl eInt) x1.2.1), (9, HV.ar 7030 v7 (eSl eInt).k 0 ((a23.2.2).length)), (10, HV.int .i64 a9.1), (11, HV.int .i64 a23.1), (54, slE eFromLabelTo x1.1.2.2), (55, HV.int .i64 ((x1.1.2.2).length : Int)), (56, HV.int .i64 a23.2.1), (70, HV.ar 7030 v7 (eSl eInt).k 0 ((a23.2.2).length)), (71, HV.int .i64 a23.1), (76, HV.ar 7076 v360603 eInt.k 0 ((x360601).length)), (78, HV.int .i64 x30.2.1)], [(7006, v3, .arr 3 24 [HV.int .i64 x1.1.1, HV.int .i64 x1.1.2.1, slE eFromLabelTo x1.1.2.2]), (7013, v32, .arr 3 56 [HV.int .i64 x30.1, HV.int .i64 x30.2.1, HV.int .i64 x30.2.2]), (7030, v7, .arr (eSl eInt).k 27 ((eSl eInt).E a23.2.2)), (7076, v360603, .arr eInt.k 3 (eInt.E x360601))]⟩ := by
            intro v360603
            refine l_step hF rfl [9] rfl rfl ⟨?_, trivial⟩
            ·refine l_op rfl rfl rfl (o_bsl rfl rfl (as_of (cs := [HV.int .i64 x30.2.1]) ty27 ty3 rfl rfl rfl rfl rfl) ?_)
             exact b_nil (l_go hF rfl (g36_12 v360603) (le_q rfl rfl))
           have g36_9 : F [0, 1, 2, 3, 4, 5, 7, 8] ⟨[(6, HV.ptr 7006 v3 0), (7, slE (eSl eInt) x1.2.1), (9, HV.ar 7030 v7 (eSl eInt).k 0 ((a23.2.2).length)), (10, HV.int .i64 a9.1), (11, HV.int .i64 a23.1), (54, slE eFromLabelTo x1.1.2.2), (55, HV.int .i64 ((x1.1.2.2).length : Int)), (56, HV.int .i64 a23.2.1), (70, HV.ar 7030 v7 (eSl eInt).k 0 ((a23.2.2).length)), (71, HV.int .i64 a23.1), (75, slE eInt x360501), (78, HV.int .i64 x30.2.1)], [(7006, v3, .arr 3 24 [HV.int .i64 x1.1.1, HV.int .i64 x1.1.2.1, slE eFromLabelTo x1.1.2.2]), (7013, v32, .arr 3 56 [HV.int .i64 x30.1, HV.int .i64 x30.2.1, HV.int .i64 x30.2.2]), (7030, v7, .arr (eSl eInt).k 27 ((eSl eInt).E a23.2.2))]⟩ := by
            refine l_step hF rfl [6, 9] rfl rfl ⟨?_, ?_, trivial⟩
            ·refine l_op rfl rfl rfl (o_callA rfl rfl rfl rfl (c_cloneO 7076 h360602 fun v360603 => ?_) )
             exact b_nil (l_go hF rfl (g36_16 v360603) (le_q rfl rfl))
            ·refine l_op rfl rfl rfl (o_bsl rfl rfl (as_of (cs := [HV.int .i64 x30.2.1]) ty27 ty3 rfl rfl rfl rfl rfl) ?_)
             exact b_nil (l_go hF rfl (g36_11) (le_q rfl rfl))
           have g36_10 : F [0, 1, 2, 3, 4, 7, 8, 9] ⟨[(6, HV.ptr 7006 v3 0), (7, slE (eSl eInt) x1.2.1), (9, HV.ar 7030 v7 (eSl eInt).k 0 ((a23.2.2).length)), (10, HV.int .i64 a9.1), (11, HV.int .i64 a23.1), (54, slE eFromLabelTo x1.1.2.2), (55, HV.int .i64 ((x1.1.2.2).length : Int)), (56, HV.int .i64 a23.2.1), (70, HV.ar 7030 v7 (eSl eInt).k 0 ((a23.2.2).length)), (71, HV.int .i64 a23.1), (74, HV.ptr 7030 v7 ((a9.1).toNat * (eSl eInt).k)), (79, slE eInt [x30.2.1])], [(7006, v3, .arr 3 24 [HV.int .i64 x1.1.1, HV.int .i64 x1.1.2.1, slE eFromLabelTo x1.1.2.2]), (7013, v32, .arr 3 56 [HV.int .i64 x30.1, HV.int .i64 x30.2.1, HV.int .i64 x30.2.2]), (7030, v7, .arr (eSl eInt).k 27 ((eSl eInt).E a23.2.2))]⟩ := by
            refine l_step hF rfl [5] rfl rfl ⟨?_, trivial⟩
            ·refine l_op rfl rfl rfl (o_val rfl (v_loadP ty27 rfl rfl (l_cell (eSl eInt) h360502 (o := 0) rfl rfl)) ?_)
             exact b_nil (l_go hF rfl (g36_11) (le_q rfl rfl))
           have g36_17 : ∀ (v360603 : Nat), F [0, 1, 2, 3, 4, 5, 6, 7] ⟨[(6, HV.ptr 7006 v3 0), (7, slE (eSl eInt) x1.2.1), (9, HV.ar 7030 v7 (eSl eInt).k 0 ((a23.2.2).length)), (10, HV.int .i64 a9.1), (11, HV.int .i64 a23.1), (54, slE eFromLabelTo x1.1.2.2), (55, HV.int .i64 ((x1.1.2.2).length : Int)), (56, HV.int .i64 a23.2.1), (70, HV.ar 7030 v7 (eSl eInt).k 0 ((a23.2.2).length)), (71, HV.int .i64 a23.1), (76, HV.ar 7076 v360603 eInt.k 0 ((x360601).length)), (77, HV.ptr 7013 v32 1)], [(7006, v3, .arr 3 24 [HV.int .i64 x1.1.1, HV.int .i64 x1.1.2.1, slE eFromLabelTo x1.1.2.2]), (7013, v32, .arr 3 56 [HV.int .i64 x30.1, HV.int .i64 x30.2.1, HV.int .i64 x30.2.2]), (7030, v7, .arr (eSl eInt).k 27 ((eSl eInt).E a23.2.2)), (7076, v360603, .arr eInt.k 3 (eInt.E x360601))]⟩ := by
            intro v360603
            refine l_step hF rfl [8] rfl rfl ⟨?_, trivial⟩
            ·refine l_op rfl rfl rfl (o_val rfl (v_loadP ty3 rfl rfl (l_lit rfl rfl)) ?_)
             exact b_nil (l_go hF rfl (g36_16 v360603) (le_q rfl rfl))
           have g36_7 : F [0, 1, 2, 3, 4, 5, 7] ⟨[(6, HV.ptr 7006 v3 0), (7, slE (eSl eInt) x1.2.1), (9, HV.ar 7030 v7 (eSl eInt).k 0 ((a23.2.2).length)), (10, HV.int .i64 a9.1), (11, HV.int .i64 a23.1), (54, slE eFromLabelTo x1.1.2.2), (55, HV.int .i64 ((x1.1.2.2).length : Int)), (56, HV.int .i64 a23.2.1), (70, HV.ar 7030 v7 (eSl eInt).k 0 ((a23.2.2).length)), (71, HV.int .i64 a23.1), (75, slE eInt x360501), (77, HV.ptr 7013 v32 1)], [(7006, v3, .arr 3 24 [HV.int .i64 x1.1.1, HV.int .i64 x1.1.2.1, slE eFromLabelTo x1.1.2.2]), (7013, v32, .arr 3 56 [HV.int .i64 x30.1, HV.int .i64 x30.2.1, HV.int .i64 x30.2.2]), (7030, v7, .arr (eSl eInt).k 27 ((eSl eInt).E a23.2.2))]⟩ := by
            refine l_step hF rfl [6, 8] rfl rfl ⟨?_, ?_, trivial⟩
            ·refine l_op rfl rfl rfl (o_callA rfl rfl rfl rfl (c_cloneO 7076 h360602 fun v360603 => ?_) )
             exact b_nil (l_go hF rfl (g36_17 v360603) (le_q rfl rfl))
            ·refine l_op rfl rfl rfl (o_val rfl (v_loadP ty3 rfl rfl (l_lit rfl rfl)) ?_)
             exact b_nil (l_go hF rfl (g36_9) (le_q rfl rfl))
           have g36_8 : F [0, 1, 2, 3, 4, 7, 8] ⟨[(6, HV.ptr 7006 v3 0), (7, slE (eSl eInt) x1.2.1), (9, HV.ar 7030 v7 (eSl eInt).k 0 ((a23.2.2).length)), (10, HV.int .i64 a9.1), (11, HV.int .i64 a23.1), (54, slE eFromLabelTo x1.1.2.2), (55, HV.int .i64 ((x1.1.2.2).length : Int)), (56, HV.int .i64 a23.2.1), (70, HV.ar 7030 v7 (eSl eInt).k 0 ((a23.2.2).length)), (71, HV.int .i64 a23.1), (74, HV.ptr 7030 v7 ((a9.1).toNat * (eSl eInt).k)), (78, HV.int .i64 x30.2.1)], [(7006, v3, .arr 3 24 [HV.int .i64 x1.1.1, HV.int .i64 x1.1.2.1, slE eFromLabelTo x1.1.2.2]), (7013, v32, .arr 3 56 [HV.int .i64 x30.1, HV.int .i64 x30.2.1, HV.int .i64 x30.2.2]), (7030, v7, .arr (eSl eInt).k 27 ((eSl eInt).E a23.2.2))]⟩ := by
            refine l_step hF rfl [5, 9] rfl rfl ⟨?_, ?_, trivial⟩
            ·refine l_op rfl rfl rfl (o_val rfl (v_loadP ty27 rfl rfl (l_cell (eSl eInt) h360502 (o := 0) rfl rfl)) ?_)
             exact b_nil (l_go hF rfl (g36_9) (le_q rfl rfl))
            ·refine l_op rfl rfl rfl (o_bsl rfl rfl (as_of (cs := [HV.int .i64 x30.2.1]) ty27 ty3 rfl rfl rfl rfl rfl) ?_)
             exact b_nil (l_go hF rfl (g36_10) (le_q rfl rfl))
           have g36_6 : F [0, 1, 2, 3, 4, 7] ⟨[(6, HV.ptr 7006 v3 0), (7, slE (eSl eInt) x1.2.1), (9, HV.ar 7030 v7 (eSl eInt).k 0 ((a23.2.2).length)), (10, HV.int .i64 a9.1), (11, HV.int .i64 a23.1), (54, slE eFromLabelTo x1.1.2.2), (55, HV.int .i64 ((x1.1.2.2).length : Int)), (56, HV.int .i64 a23.2.1), (70, HV.ar 7030 v7 (eSl eInt).k 0 ((a23.2.2).length)), (71, HV.int .i64 a23.1), (74, HV.ptr 7030 v7 ((a9.1).toNat * (eSl eInt).k)), (77, HV.ptr 7013 v32 1)], [(7006, v3, .arr 3 24 [HV.int .i64 x1.1.1, HV.int .i64 x1.1.2.1, slE eFromLabelTo x1.1.2.2]), (7013, v32, .arr 3 56 [HV.int .i64 x30.1, HV.int .i64 x30.2.1, HV.int .i64 x30.2.2]), (7030, v7, .arr (eSl eInt).k 27 ((eSl eInt).E a23.2.2))]⟩ := by
            refine l_step hF rfl [5, 8] rfl rfl ⟨?_, ?_, trivial⟩
            ·refine l_op rfl rfl rfl (o_val rfl (v_loadP ty27 rfl rfl (l_cell (eSl eInt) h360502 (o := 0) rfl rfl)) ?_)
             exact b_nil (l_go hF rfl (g36_7) (le_q rfl rfl))
            ·refine l_op rfl rfl rfl (o_val rfl (v_loadP ty3 rfl rfl (l_lit rfl rfl)) ?_)
             exact b_nil (l_go hF rfl (g36_8) (le_q rfl rfl))
           have g36_5 : F [0, 1, 2, 3, 4] ⟨[(6, HV.ptr 7006 v3 0), (7, slE (eSl eInt) x1.2.1), (9, HV.ar 7030 v7 (eSl eInt).k 0 ((a23.2.2).length)), (10, HV.int .i64 a9.1), (11, HV.int .i64 a23.1), (13, HV.ptr 7013 v32 0), (54, slE eFromLabelTo x1.1.2.2), (55, HV.int .i64 ((x1.1.2.2).length : Int)), (56, HV.int .i64 a23.2.1), (70, HV.ar 7030 v7 (eSl eInt).k 0 ((a23.2.2).length)), (71, HV.int .i64 a23.1), (74, HV.ptr 7030 v7 ((a9.1).toNat * (eSl eInt).k))], [(7006, v3, .arr 3 24 [HV.int .i64 x1.1.1, HV.int .i64 x1.1.2.1, slE eFromLabelTo x1.1.2.2]), (7013, v32, .arr 3 56 [HV.int .i64 x30.1, HV.int .i64 x30.2.1, HV.int .i64 x30.2.2]), (7030, v7, .arr (eSl eInt).k 27 ((eSl eInt).E a23.2.2))]⟩ := by
            refine l_take (i := 7) hF rfl rfl rfl (v_fieldAddrP fo56_1 rfl rfl) ?_
            exact l_go hF rfl (g36_6) (le_q rfl rfl)
           have g36_4 : F [0, 1, 2, 3] ⟨[(6, HV.ptr 7006 v3 0), (7, slE (eSl eInt) x1.2.1), (9, HV.ar 7030 v7 (eSl eInt).k 0 ((a23.2.2).length)), (10, HV.int .i64 a9.1), (11, HV.int .i64 a23.1), (13, HV.ptr 7013 v32 0), (54, slE eFromLabelTo x1.1.2.2), (55, HV.int .i64 ((x1.1.2.2).length : Int)), (56, HV.int .i64 a23.2.1), (70, HV.ar 7030 v7 (eSl eInt).k 0 ((a23.2.2).length)), (71, HV.int .i64 a23.1), (72, HV.ar 7030 v7 (eSl eInt).k 0 ((a23.2.2).length)), (73, HV.int .i64 a9.1)], [(7006, v3, .arr 3 24 [HV.int .i64 x1.1.1, HV.int .i64 x1.1.2.1, slE eFromLabelTo x1.1.2.2]), (7013, v32, .arr 3 56 [HV.int .i64 x30.1, HV.int .i64 x30.2.1, HV.int .i64 x30.2.2]), (7030, v7, .arr (eSl eInt).k 27 ((eSl eInt).E a23.2.2))]⟩ := by
            refine l_take (i := 4) hF rfl rfl rfl (v_idxA ty35 es35 rfl rfl (idx_lt h360402) rfl) ?_
            exact l_go hF rfl (g36_5) (le_q rfl rfl)
           have g36_3 : F [0, 1, 2] ⟨[(6, HV.ptr 7006 v3 0), (7, slE (eSl eInt) x1.2.1), (9, HV.ar 7030 v7 (eSl eInt).k 0 ((a23.2.2).length)), (10, HV.int .i64 a9.1), (11, HV.int .i64 a23.1), (13, HV.ptr 7013 v32 0), (54, slE eFromLabelTo x1.1.2.2), (55, HV.int .i64 ((x1.1.2.2).length : Int)), (56, HV.int .i64 a23.2.1), (70, HV.ar 7030 v7 (eSl eInt).k 0 ((a23.2.2).length)), (71, HV.int .i64 a23.1), (72, HV.ar 7030 v7 (eSl eInt).k 0 ((a23.2.2).length))], [(7006, v3, .arr 3 24 [HV.int .i64 x1.1.1, HV.int .i64 x1.1.2.1, slE eFromLabelTo x1.1.2.2]), (7013, v32, .arr 3 56 [HV.int .i64 x30.1, HV.int .i64 x30.2.1, HV.int .i64 x30.2.2]), (7030, v7, .arr (eSl eInt).k 27 ((eSl eInt).E a23.2.2))]⟩ := by
            refine l_take (i := 3) hF rfl rfl rfl (mv_val rfl rfl).2 ?_
            exact l_go hF rfl (g36_4) (le_q rfl rfl)
           have g36_2 : F [0, 1] ⟨[(6, HV.ptr 7006 v3 0), (7, slE (eSl eInt) x1.2.1), (9, HV.ar 7030 v7 (eSl eInt).k 0 ((a23.2.2).length)), (10, HV.int .i64 a9.1), (11, HV.int .i64 a23.1), (13, HV.ptr 7013 v32 0), (54, slE eFromLabelTo x1.1.2.2), (55, HV.int .i64 ((x1.1.2.2).length : Int)), (56, HV.int .i64 a23.2.1), (70, HV.ar 7030 v7 (eSl eInt).k 0 ((a23.2.2).length)), (71, HV.int .i64 a23.1)], [(7006, v3, .arr 3 24 [HV.int .i64 x1.1.1, HV.int .i64 x1.1.2.1, slE eFromLabelTo x1.1.2.2]), (7013, v32, .arr 3 56 [HV.int .i64 x30.1, HV.int .i64 x30.2.1, HV.int .i64 x30.2.2]), (7030, v7, .arr (eSl eInt).k 27 ((eSl eInt).E a23.2.2))]⟩ := by
            refine l_take (i := 2) hF rfl rfl rfl (mv_val rfl rfl).2 ?_
            exact l_go hF rfl (g36_3) (le_q rfl rfl)
           have g36_1 : F [0] ⟨[(6, HV.ptr 7006 v3 0), (7, slE (eSl eInt) x1.2.1), (9, HV.ar 7030 v7 (eSl eInt).k 0 ((a23.2.2).length)), (10, HV.int .i64 a9.1), (11, HV.int .i64 a23.1), (13, HV.ptr 7013 v32 0), (54, slE eFromLabelTo x1.1.2.2), (55, HV.int .i64 ((x1.1.2.2).length : Int)), (56, HV.int .i64 a23.2.1), (70, HV.ar 7030 v7 (eSl eInt).k 0 ((a23.2.2).length))], [(7006, v3, .arr 3 24 [HV.int .i64 x1.1.1, HV.int .i64 x1.1.2.1, slE eFromLabelTo x1.1.2.2]), (7013, v32, .arr 3 56 [HV.int .i64 x30.1, HV.int .i64 x30.2.1, HV.int .i64 x30.2.2]), (7030, v7, .arr (eSl eInt).k 27 ((eSl eInt).E a23.2.2))]⟩ := by
            refine l_take (i := 1) hF rfl rfl rfl (mv_val rfl rfl).2 ?_
            exact l_go hF rfl (g36_2) (le_q rfl rfl)
           have g36_0 : F [] ⟨[(6, HV.ptr 7006 v3 0), (7, slE (eSl eInt) x1.2.1), (9, HV.ar 7030 v7 (eSl eInt).k 0 ((a23.2.2).length)), (10, HV.int .i64 a9.1), (11, HV.int .i64 a23.1), (13, HV.ptr 7013 v32 0), (54, slE eFromLabelTo x1.1.2.2), (55, HV.int .i64 ((x1.1.2.2).length : Int)), (56, HV.int .i64 a23.2.1)], [(7006, v3, .arr 3 24 [HV.int .i64 x1.1.1, HV.int .i64 x1.1.2.1, slE eFromLabelTo x1.1.2.2]), (7013, v32, .arr 3 56 [HV.int .i64 x30.1, HV.int .i64 x30.2.1, HV.int .i64 x30.2.2]), (7030, v7, .arr (eSl eInt).k 27 ((eSl eInt).E a23.2.2))]⟩ := by
            refine l_take (i := 0) hF rfl rfl rfl (mv_val rfl rfl).2 ?_
            exact l_go hF rfl (g36_1) (le_q rfl rfl)
           exact g36_0
          ·have h := ifF (bF' hc) h
           refine AW.skip ?_
           exact to_le (s' := ⟨[(6, HV.ptr 7006 v3 0), (7, slE (eSl eInt) x1.2.1), (9, HV.ar 7030 v7 (eSl eInt).k 0 ((a23.2.2).length)), (10, HV.int .i64 a9.1), (11, HV.int .i64 a23.1), (54, slE eFromLabelTo x1.1.2.2), (55, HV.int .i64 ((x1.1.2.2).length : Int)), (56, HV.int .i64 a23.2.1)], [(7006, v3, .arr 3 24 [HV.int .i64 x1.1.1, HV.int .i64 x1.1.2.1, slE eFromLabelTo x1.1.2.2]), (7030, v7, .arr (eSl eInt).k 27 ((eSl eInt).E a23.2.2))]⟩) (AS.le_of ⟨rfl, rfl, rfl, rfl, rfl, rfl, rfl, rfl, trivial⟩ ⟨rfl, rfl, trivial⟩) ⟨(a23.1, a23.2.2), (), h, rfl⟩
         ·refine AW.rg rfl fun K hK => ?_
          refine bv rfl (v_fieldAddrP fo56_0 rfl rfl) ?_
          refine bv rfl (v_loadP ty3 rfl rfl (l_lit rfl rfl)) ?_
          refine mv rfl rfl ?_
          refine bv rfl (v_bin rfl rfl b_eql) ?_
          refine mv rfl rfl ?_
          by_cases hg37 : x30.1 = a9.1
          ·have h := ifT hg37 h
           refine b_T rfl rfl rfl rfl (decide_eq_true hg37) (o_val rfl (v_fieldAddrP fo56_2 rfl rfl) ?_)
           refine b_T rfl rfl rfl rfl rfl (o_val rfl (v_loadP ty3 rfl rfl (l_lit rfl rfl)) ?_)
           refine b_T rfl rfl rfl rfl rfl (o_val rfl (mv_val rfl rfl).2 ?_)
           refine b_T rfl rfl rfl rfl rfl (o_val rfl (v_bin rfl rfl b_eql) ?_)
           refine bv rfl (v_pickT rfl rfl rfl) ?_
           refine b_nil (hK _ ?_)
           clear hK K
           exact to_le (s' := ⟨[(6, HV.ptr 7006 v3 0), (7, slE (eSl eInt) x1.2.1), (9, HV.ar 7030 v7 (eSl eInt).k 0 ((a23.2.2).length)), (10, HV.int .i64 a9.1), (11, HV.int .i64 a23.1), (13, HV.ptr 7013 v32 0), (54, slE eFromLabelTo x1.1.2.2), (55, HV.int .i64 ((x1.1.2.2).length : Int)), (56, HV.int .i64 a23.2.1), (69, HV.bool (decide (x30.2.2 = a23.1)))], [(7006, v3, .arr 3 24 [HV.int .i64 x1.1.1, HV.int .i64 x1.1.2.1, slE eFromLabelTo x1.1.2.2]), (7013, v32, .arr 3 56 [HV.int .i64 x30.1, HV.int .i64 x30.2.1, HV.int .i64 x30.2.2]), (7030, v7, .arr (eSl eInt).k 27 ((eSl eInt).E a23.2.2))]⟩) (AS.le_of ⟨rfl, rfl, rfl, rfl, rfl, rfl, rfl, rfl, rfl, rfl, trivial⟩ ⟨rfl, rfl, rfl, trivial⟩) ⟨decide (x30.2.2 = a23.1), (), h, rfl⟩
          ·have h := ifF hg37 h
           refine b_F rfl rfl rfl rfl rfl (decide_eq_false hg37) ?_
           refine b_F rfl rfl rfl rfl rfl rfl ?_
           refine b_F rfl rfl rfl rfl rfl rfl ?_
           refine b_F rfl rfl rfl rfl rfl rfl ?_
           refine bv rfl (v_pickF rfl rfl rfl) ?_
           refine b_nil (hK _ ?_)
           clear hK K
           exact to_le (s' := ⟨[(6, HV.ptr 7006 v3 0), (7, slE (eSl eInt) x1.2.1), (9, HV.ar 7030 v7 (eSl eInt).k 0 ((a23.2.2).length)), (10, HV.int .i64 a9.1), (11, HV.int .i64 a23.1), (13, HV.ptr 7013 v32 0), (54, slE eFromLabelTo x1.1.2.2), (55, HV.int .i64 ((x1.1.2.2).length : Int)), (56, HV.int .i64 a23.2.1), (69, HV.bool false)], [(7006, v3, .arr 3 24 [HV.int .i64 x1.1.1, HV.int .i64 x1.1.2.1, slE eFromLabelTo x1.1.2.2]), (7013, v32, .arr 3 56 [HV.int .i64 x30.1, HV.int .i64 x30.2.1, HV.int .i64 x30.2.2]), (7030, v7, .arr (eSl eInt).k 27 ((eSl eInt).E a23.2.2))]⟩) (AS.le_of ⟨rfl, rfl, rfl, rfl, rfl, rfl, rfl, rfl, rfl, rfl, trivial⟩ ⟨rfl, rfl, rfl, trivial⟩) ⟨false, (), h, rfl⟩
       ·have hc := of_decide_eq_false hc
        have h := ifF hc h
        refine AW.exit ?_
        exact to_le (s' := ⟨[(6, HV.ptr 7006 v3 0), (7, slE (eSl eInt) x1.2.1), (9, HV.ar 7030 v7 (eSl eInt).k 0 ((a23.2.2).length)), (10, HV.int .i64 a9.1), (11, HV.int .i64 a23.1)], [(7006, v3, .arr 3 24 [HV.int .i64 x1.1.1, HV.int .i64 x1.1.2.1, slE eFromLabelTo x1.1.2.2]), (7030, v7, .arr (eSl eInt).k 27 ((eSl eInt).E a23.2.2))]⟩) (AS.le_of ⟨rfl, rfl, rfl, rfl, rfl, trivial⟩ ⟨rfl, rfl, trivial⟩) ⟨(a23.2.2, a23.1), (), h, rfl⟩
    ·have hc := of_decide_eq_false hc
     have h := ifF hc h
     refine AW.exit ?_
     exact to_le (s' := ⟨[], []⟩) (AS.le_of trivial trivial) ⟨(), (), h, rfl⟩
 ·refine AW.rg rfl fun K hK => ?_
  refine mv rfl rfl ?_
  refine bv rfl (v_bin rfl rfl b_neq) ?_
  refine mv rfl rfl ?_
  by_cases hg42 : x1.2.2 ≠ 0
  ·have h := ifT hg42 h
   refine b_F rfl rfl rfl rfl rfl (decide_eq_true hg42) ?_
   refine b_F rfl rfl rfl rfl rfl rfl ?_
   refine b_F rfl rfl rfl rfl rfl rfl ?_
   refine bv rfl (v_pickT rfl rfl rfl) ?_
   refine b_nil (hK _ ?_)
   clear hK K
   exact to_le (s' := ⟨[(6, HV.ptr 7006 v3 0), (7, slE (eSl eInt) x1.2.1), (8, HV.int .i64 x1.2.2), (26, HV.bool true)], [(7006, v3, .arr 3 24 [HV.int .i64 x1.1.1, HV.int .i64 x1.1.2.1, slE eFromLabelTo x1.1.2.2])]⟩) (AS.le_of ⟨rfl, rfl, rfl, rfl, trivial⟩ ⟨rfl, trivial⟩) ⟨true, (), h, rfl⟩
  ·have h := ifF hg42 h
   refine b_T rfl rfl rfl rfl (decide_eq_false hg42) (o_val rfl (v_fieldAddrP fo24_1 rfl rfl) ?_)
   refine b_T rfl rfl rfl rfl rfl (o_val rfl (v_loadP ty3 rfl rfl (l_lit rfl rfl)) ?_)
   refine b_T rfl rfl rfl rfl rfl (o_val rfl (v_bin rfl rfl b_eql) ?_)
   refine bv rfl (v_pickF rfl rfl rfl) ?_
   refine b_nil (hK _ ?_)
   clear hK K
   exact to_le (s' := ⟨[(6, HV.ptr 7006 v3 0), (7, slE (eSl eInt) x1.2.1), (8, HV.int .i64 x1.2.2), (26, HV.bool (decide (x1.1.2.1 = 0)))], [(7006, v3, .arr 3 24 [HV.int .i64 x1.1.1, HV.int .i64 x1.1.2.1, slE eFromLabelTo x1.1.2.2])]⟩) (AS.le_of ⟨rfl, rfl, rfl, rfl, trivial⟩ ⟨rfl, trivial⟩) ⟨decide (x1.1.2.1 = 0), (), h, rfl⟩

end Go.AW

namespace Go.AW
open Go Go.Proofs
set_option linter.unusedVariables false
set_option maxHeartbeats 1600000 in
set_option maxRecDepth 100000 in
theorem w_integer_trim {p0 : List (Int)} {r : (List (Int))} (h : m_integer_trim p0 = some r) : Pure Tryz.prog 66 [slE (encM (HV.int .u32)) p0] (· = slE (encM (HV.int .u32)) r) := by
 unfold m_integer_trim at h
 refine Pure.of_body Tryz.func66 rfl rfl (Nat.le_of_ble_eq_true rfl) fun hf => ?_
 unfold Tryz.f66
 dsimp only [enumS, Nat.reduceAdd]
 refine AW.rgs rfl fun K hK => ?_
 refine mv rfl rfl ?_
 refine b_fin hK (s' := ⟨[(0, slE (encM (HV.int .u32)) p0)], []⟩) (le_q rfl rfl) ?_
 clear hK K
 refine AW.seq (AW.lpX h up_then (S := (List Int)) (V := Unit) (fun a v => ⟨[(0, slE (encM (HV.int .u32)) a)], []⟩) ?_ (X := (List Int)) (W := Unit) (fun a v => ⟨[(0, slE (encM (HV.int .u32)) a)], []⟩) (fun a12 w13 h => ?_) (fun a1 w2 st3 h => ?_))
 ·exact to_le (s' := ⟨[(0, slE (encM (HV.int .u32)) p0)], []⟩) (AS.le_of ⟨rfl, trivial⟩ trivial) ⟨(), rfl⟩
 ·refine AW.rgs rfl fun K hK => ?_
  refine mv rfl rfl ?_
  refine mv rfl rfl ?_
  refine b_fin hK (s' := ⟨[(2, slE (encM (HV.int .u32)) a12)], []⟩) (le_q rfl rfl) ?_
  clear hK K
  refine AW.ret ?_
  have h := Option.some.inj h
  subst h
  exact ret_pure (hs := [slE (encM (HV.int .u32)) a12]) (q := slE (encM (HV.int .u32)) a12) (.inr rfl) (resT rfl rfl) rfl (clean_slE fun _ _ => ⟨trivial, trivial⟩)
 ·refine AW.seq ?_
  refine AW.seqJ h (S := Bool) (V := Unit) (fun a v => ⟨[(0, slE (encM (HV.int .u32)) a1), (14, HV.bool a)], []⟩) (fun a5 w6 h => ?_) (fun k7 h => ?_)
  ·refine AW.cond rfl (fun hc => ?_) (fun hc => ?_)
   ·have h := ifT hc h
    refine AW.skip ?_
    refine AW.block ?_
    refine AW.rg rfl fun K hK => ?_
    refine mv rfl rfl ?_
    refine mv rfl rfl ?_
    refine bv rfl (v_lenF rfl rfl ty82 rfl) ?_
    refine bv rfl (v_bin rfl rfl b_sub) ?_
    obtain ⟨h8, h⟩ := ifN h
    refine bv rfl (v_sliceF (encM (HV.int .u32)) ty82 es82 rfl rfl rfl h8) ?_
    refine mv rfl rfl ?_
    refine b_nil (hK _ ?_)
    clear hK K
    exact to_le (s' := ⟨[(0, slE (encM (HV.int .u32)) ((a1.take (IntKind.wrap .i64 (((a1).length : Int) - 1)).toNat).drop (0 : Int).toNat))], []⟩) (AS.le_of ⟨rfl, trivial⟩ trivial) ⟨(a1.take (IntKind.wrap .i64 (((a1).length : Int) - 1)).toNat).drop (0 : Int).toNat, (), h, rfl⟩
   ·have h := ifF (bF' hc) h
    refine AW.exit ?_
    exact to_le (s' := ⟨[(0, slE (encM (HV.int .u32)) a1)], []⟩) (AS.le_of ⟨rfl, trivial⟩ trivial) ⟨a1, (), h, rfl⟩
  ·refine AW.rg rfl fun K hK => ?_
   refine mv rfl rfl ?_
   refine bv rfl (v_lenF rfl rfl ty82 rfl) ?_
   refine bv rfl (v_bin rfl rfl b_gtr) ?_
   refine mv rfl rfl ?_
   by_cases hg11 : 0 < ((a1).length : Int)
   ·have h := ifT hg11 h
    refine b_T rfl rfl rfl rfl (decide_eq_true hg11) (o_val rfl (mv_val rfl rfl).2 ?_)
    refine b_T rfl rfl rfl rfl rfl (o_val rfl (mv_val rfl rfl).2 ?_)
    refine b_T rfl rfl rfl rfl rfl (o_val rfl (v_lenF rfl rfl ty82 rfl) ?_)
    refine b_T rfl rfl rfl rfl rfl (o_val rfl (v_bin rfl rfl b_sub) ?_)
    obtain ⟨x9, h10, h⟩ := bS h
    refine b_T rfl rfl rfl rfl rfl (o_val rfl (v_idxF ty82 es82 rfl rfl (idx_lt h10)) ?_)
    refine b_T rfl rfl rfl rfl rfl (o_val rfl (v_loadF ty79 rfl (l_cell (encM (HV.int .u32)) h10 (o := 0) rfl rfl)) ?_)
    refine b_T rfl rfl rfl rfl rfl (o_val rfl (v_bin rfl rfl b_eql) ?_)
    refine bv rfl (v_pickT rfl rfl rfl) ?_
    refine b_nil (hK _ ?_)
    clear hK K
    exact to_le (s' := ⟨[(0, slE (encM (HV.int .u32)) a1), (14, HV.bool (decide (x9 = 0)))], []⟩) (AS.le_of ⟨rfl, rfl, trivial⟩ trivial) ⟨decide (x9 = 0), (), h, rfl⟩
   ·have h := ifF hg11 h
    refine b_F rfl rfl rfl rfl rfl (decide_eq_false hg11) ?_
    refine b_F rfl rfl rfl rfl rfl rfl ?_
    refine b_F rfl rfl rfl rfl rfl rfl ?_
    refine b_F rfl rfl rfl rfl rfl rfl ?_
    refine b_F rfl rfl rfl rfl rfl rfl ?_
    refine b_F rfl rfl rfl rfl rfl rfl ?_
    refine b_F rfl rfl rfl rfl rfl rfl ?_
    refine bv rfl (v_pickF rfl rfl rfl) ?_
    refine b_nil (hK _ ?_)
    clear hK K
    exact to_le (s' := ⟨[(0, slE (encM (HV.int .u32)) a1), (14, HV.bool false)], []⟩) (AS.le_of ⟨rfl, rfl, trivial⟩ trivial) ⟨false, (), h, rfl⟩

set_option maxHeartbeats 1600000 in
set_option maxRecDepth 100000 in
theorem w_integer_number {p0 : Bool} {p1 : List (Int)} {r : TNegMag} (h : m_integer_number p0 p1 = some r) : Pure Tryz.prog 41 [HV.bool p0, slE (encM (HV.int .u32)) p1] (· = HV.agg [HV.bool r.1, HV.str r.2]) := by
 unfold m_integer_number at h
 refine Pure.of_body Tryz.func41 rfl rfl (Nat.le_of_ble_eq_true rfl) fun hf => ?_
 unfold Tryz.f41
 dsimp only [enumS, Nat.reduceAdd]
 refine AW.rgs rfl fun K hK => ?_
 refine b_op rfl (o_alloc (fid := 41) (zs := [HV.bool false, HV.str ([] : List UInt8)]) 41004 rfl rfl ty32 rfl (fun v1 => ?_))
 refine b_fin hK (s' := ⟨[(0, HV.bool p0), (1, slE (encM (HV.int .u32)) p1), (4, HV.ptr 41004 v1 0)], [(41004, v1, .arr 2 32 [HV.bool false, HV.str ([] : List UInt8)])]⟩) (le_q rfl rfl) ?_
 clear hK K
 refine AW.rgs rfl fun K hK => ?_
 refine mv rfl rfl ?_
 obtain ⟨x2, h3, h⟩ := bS h
 refine b_op rfl (o_call rfl rfl rfl rfl (ACallD.pure0 (w_integer_trim h3)) ?_)
 refine mv rfl rfl ?_
 refine b_fin hK (s' := ⟨[(0, HV.bool p0), (1, slE (encM (HV.int .u32)) x2), (4, HV.ptr 41004 v1 0)], [(41004, v1, .arr 2 32 [HV.bool false, HV.str ([] : List UInt8)])]⟩) (le_q rfl rfl) ?_
 clear hK K
 refine AW.seq ?_
 refine AW.rgs rfl fun K hK => ?_
 refine mv rfl rfl ?_
 refine bv rfl (v_lenF rfl rfl ty82 rfl) ?_
 refine bv rfl (v_bin rfl rfl b_eql) ?_
 refine b_fin hK (s' := ⟨[(0, HV.bool p0), (1, slE (encM (HV.int .u32)) x2), (4, HV.ptr 41004 v1 0), (13, HV.bool (decide (((x2).length : Int) = 0)))], [(41004, v1, .arr 2 32 [HV.bool false, HV.str ([] : List UInt8)])]⟩) (le_q rfl rfl) ?_
 clear hK K
 refine AW.cond rfl (fun hc => ?_) (fun hc => ?_)
 ·have hc := of_decide_eq_true hc
  have h := ifT hc h
  refine AW.rgs rfl fun K hK => ?_
  refine b_op rfl (o_build (cs := [HV.bool false, HV.str ([] : List UInt8)]) rfl (bl_of ty32 rfl rfl rfl rfl) ?_)
  refine b_op rfl (o_store (cs := [HV.bool false, HV.str ([] : List UInt8)]) (zs := [HV.bool false, HV.str ([] : List UInt8)]) rfl rfl rfl ty32 rfl rfl rfl rfl rfl ?_)
  refine b_fin hK (s' := ⟨[(4, HV.ptr 41004 v1 0)], [(41004, v1, .arr 2 32 [HV.bool false, HV.str ([] : List UInt8)])]⟩) (le_q rfl rfl) ?_
  clear hK K
  refine AW.ret ?_
  have h := Option.some.inj h
  subst h
  exact ret_pure (hs := [HV.agg [HV.bool false, HV.str ([] : List UInt8)]]) (q := HV.agg [HV.bool false, HV.str ([] : List UInt8)]) (.inr rfl) (resP ty32 rfl rfl (l_litA rfl (Nat.le_of_ble_eq_true rfl) rfl) rfl) rfl ⟨trivial, trivial, trivial⟩
 ·have hc := of_decide_eq_false hc
  have h := ifF hc h
  refine AW.skip ?_
  refine AW.rgs rfl fun K hK => ?_
  refine mv rfl rfl ?_
  refine bv rfl (v_lenF rfl rfl ty82 rfl) ?_
  refine bv rfl (v_bin rfl rfl b_mul) ?_
  obtain ⟨h5, h⟩ := ifN h
  refine b_op rfl (o_makeE (fid := 41) eU8 (0 : Int) 41018 rfl rfl ty103 rfl rfl ty5 rfl rfl h5 (fun v4 => ?_))
  refine mv rfl rfl ?_
  refine b_fin hK (s' := ⟨[(0, HV.bool p0), (1, slE (encM (HV.int .u32)) x2), (4, HV.ptr 41004 v1 0), (5, HV.ar 41018 v4 eU8.k 0 ((List.replicate (0 : Int).toNat (0 : Int)).length))], [(41004, v1, .arr 2 32 [HV.bool false, HV.str ([] : List UInt8)]), (41018, v4, .arr eU8.k 5 (eU8.E (List.replicate (0 : Int).toNat (0 : Int))))]⟩) (le_q rfl rfl) ?_
  clear hK K
  refine AW.seq ?_
  refine AW.rgs rfl fun K hK => ?_
  refine mv rfl rfl ?_
  refine bv rfl (v_lenF rfl rfl ty82 rfl) ?_
  refine bv rfl (v_bin rfl rfl b_sub) ?_
  refine mv rfl rfl ?_
  refine b_fin hK (s' := ⟨[(0, HV.bool p0), (1, slE (encM (HV.int .u32)) x2), (4, HV.ptr 41004 v1 0), (5, HV.ar 41018 v4 eU8.k 0 ((List.replicate (0 : Int).toNat (0 : Int)).length)), (6, HV.int .i64 (IntKind.wrap .i64 (((x2).length : Int) - 1)))], [(41004, v1, .arr 2 32 [HV.bool false, HV.str ([] : List UInt8)]), (41018, v4, .arr eU8.k 5 (eU8.E (List.replicate (0 : Int).toNat (0 : Int))))]⟩) (le_q rfl rfl) ?_
  clear hK K
  refine AW.lpX h (by first | exact up_then | exact up_to) (S := Int × (List Int)) (V := Nat) (fun a v => ⟨[(0, HV.bool p0), (1, slE (encM (HV.int .u32)) x2), (4, HV.ptr 41004 v1 0), (5, HV.ar 41018 v eU8.k 0 ((a.2).length)), (6, HV.int .i64 a.1)], [(41004, v1, .arr 2 32 [HV.bool false, HV.str ([] : List UInt8)]), (41018, v, .arr eU8.k 5 (eU8.E a.2))]⟩) ?_ (X := (List Int)) (W := Nat) (fun a v => ⟨[(0, HV.bool p0), (4, HV.ptr 41004 v1 0), (5, HV.ar 41018 v eU8.k 0 ((a).length))], [(41004, v1, .arr 2 32 [HV.bool false, HV.str ([] : List UInt8)]), (41018, v, .arr eU8.k 5 (eU8.E a))]⟩) (fun a28 w29 h => ?_) (fun a6 w7 st8 h => ?_)
  ·exact to_le (s' := ⟨[(0, HV.bool p0), (1, slE (encM (HV.int .u32)) x2), (4, HV.ptr 41004 v1 0), (5, HV.ar 41018 v4 eU8.k 0 ((List.replicate (0 : Int).toNat (0 : Int)).length)), (6, HV.int .i64 (IntKind.wrap .i64 (((x2).length : Int) - 1)))], [(41004, v1, .arr 2 32 [HV.bool false, HV.str ([] : List UInt8)]), (41018, v4, .arr eU8.k 5 (eU8.E (List.replicate (0 : Int).toNat (0 : Int))))]⟩) (AS.le_of ⟨rfl, rfl, rfl, rfl, rfl, trivial⟩ ⟨rfl, rfl, trivial⟩) ⟨v4, rfl⟩
  ·refine AW.to (to_frz 2 [(41018, w29, .arr eU8.k 5 (eU8.E a28))] ⟨[(0, HV.bool p0), (4, HV.ptr 41004 v1 0), (5, slE eU8 a28)], [(41004, v1, .arr 2 32 [HV.bool false, HV.str ([] : List UInt8)])]⟩ ⟨⟨_, rfl, rfl⟩, ⟨_, rfl, rfl⟩, ⟨_, rfl, frz_slE eU8 (l := a28) rfl fun _ _ => rfl⟩, trivial⟩ ⟨rfl, trivial⟩ ⟨rfl, trivial⟩ ⟨rfl, trivial⟩ ?_)
   refine AW.rgs rfl fun K hK => ?_
   refine mv rfl rfl ?_
   refine mv rfl rfl ?_
   refine bv rfl (v_convB (l := a28) ty103 ty5 ty9 rfl) ?_
   refine b_op rfl (o_build (cs := [HV.bool p0, HV.str (a28.map fun (n : Int) => UInt8.ofNat n.toNat)]) rfl (bl_of ty32 rfl rfl rfl rfl) ?_)
   refine b_op rfl (o_store (cs := [HV.bool p0, HV.str (a28.map fun (n : Int) => UInt8.ofNat n.toNat)]) (zs := [HV.bool p0, HV.str (a28.map fun (n : Int) => UInt8.ofNat n.toNat)]) rfl rfl rfl ty32 rfl rfl rfl rfl rfl ?_)
   refine b_fin hK (s' := ⟨[(4, HV.ptr 41004 v1 0)], [(41004, v1, .arr 2 32 [HV.bool p0, HV.str (a28.map fun (n : Int) => UInt8.ofNat n.toNat)])]⟩) (le_q rfl rfl) ?_
   clear hK K
   refine AW.ret ?_
   have h := Option.some.inj h
   subst h
   exact ret_pure (hs := [HV.agg [HV.bool p0, HV.str (a28.map fun (n : Int) => UInt8.ofNat n.toNat)]]) (q := HV.agg [HV.bool p0, HV.str (a28.map fun (n : Int) => UInt8.ofNat n.toNat)]) (.inr rfl) (resP ty32 rfl rfl (l_litA rfl (Nat.le_of_ble_eq_true rfl) rfl) rfl) rfl ⟨trivial, trivial, trivial⟩
  ·refine AW.seq ?_
   refine AW.rgs rfl fun K hK => ?_
   refine mv rfl rfl ?_
   refine bv rfl (v_bin rfl rfl b_geq) ?_
   refine b_fin hK (s' := ⟨[(0, HV.bool p0), (1, slE (encM (HV.int .u32)) x2), (4, HV.ptr 41004 v1 0), (5, HV.ar 41018 w7 eU8.k 0 ((a6.2).length)), (6, HV.int .i64 a6.1), (23, HV.bool (decide (0 ≤ a6.1)))], [(41004, v1, .arr 2 32 [HV.bool false, HV.str ([] : List UInt8)]), (41018, w7, .arr eU8.k 5 (eU8.E a6.2))]⟩) (le_q rfl rfl) ?_
   clear hK K
   refine AW.cond rfl (fun hc => ?_) (fun hc => ?_)
   ·have hc := of_decide_eq_true hc
    have h := ifT hc h
    refine AW.skip ?_
    refine AW.seq (AW.block ?_)
    refine AW.rgs rfl fun K hK => ?_
    refine mv rfl rfl ?_
    refine b_fin hK (s' := ⟨[(0, HV.bool p0), (1, slE (encM (HV.int .u32)) x2), (4, HV.ptr 41004 v1 0), (5, HV.ar 41018 w7 eU8.k 0 ((a6.2).length)), (6, HV.int .i64 a6.1), (7, HV.int .i64 3)], [(41004, v1, .arr 2 32 [HV.bool false, HV.str ([] : List UInt8)]), (41018, w7, .arr eU8.k 5 (eU8.E a6.2))]⟩) (le_q rfl rfl) ?_
    clear hK K
    refine AW.lpX h (by first | exact up_then | exact up_to) (S := Int × (List Int)) (V := Nat) (fun a v => ⟨[(0, HV.bool p0), (1, slE (encM (HV.int .u32)) x2), (4, HV.ptr 41004 v1 0), (5, HV.ar 41018 v eU8.k 0 ((a.2).length)), (6, HV.int .i64 a6.1), (7, HV.int .i64 a.1)], [(41004, v1, .arr 2 32 [HV.bool false, HV.str ([] : List UInt8)]), (41018, v, .arr eU8.k 5 (eU8.E a.2))]⟩) ?_ (X := (List Int)) (W := Nat) (fun a v => ⟨[(0, HV.bool p0), (1, slE (encM (HV.int .u32)) x2), (4, HV.ptr 41004 v1 0), (5, HV.ar 41018 v eU8.k 0 ((a).length)), (6, HV.int .i64 a6.1)], [(41004, v1, .arr 2 32 [HV.bool false, HV.str ([] : List UInt8)]), (41018, v, .arr eU8.k 5 (eU8.E a))]⟩) (fun a26 w27 h => ?_) (fun a10 w11 st12 h => ?_)
    ·exact to_le (s' := ⟨[(0, HV.bool p0), (1, slE (encM (HV.int .u32)) x2), (4, HV.ptr 41004 v1 0), (5, HV.ar 41018 w7 eU8.k 0 ((a6.2).length)), (6, HV.int .i64 a6.1), (7, HV.int .i64 3)], [(41004, v1, .arr 2 32 [HV.bool false, HV.str ([] : List UInt8)]), (41018, w7, .arr eU8.k 5 (eU8.E a6.2))]⟩) (AS.le_of ⟨rfl, rfl, rfl, rfl, rfl, rfl, trivial⟩ ⟨rfl, rfl, trivial⟩) ⟨w7, rfl⟩
    ·refine AW.rg rfl fun K hK => ?_
     refine mv rfl rfl ?_
     refine bv rfl (v_bin rfl rfl b_sub) ?_
     refine mv rfl rfl ?_
     refine b_nil (hK _ ?_)
     clear hK K
     exact to_le (s' := ⟨[(0, HV.bool p0), (1, slE (encM (HV.int .u32)) x2), (4, HV.ptr 41004 v1 0), (5, HV.ar 41018 w27 eU8.k 0 ((a26).length)), (6, HV.int .i64 (IntKind.wrap .i64 (a6.1 - 1)))], [(41004, v1, .arr 2 32 [HV.bool false, HV.str ([] : List UInt8)]), (41018, w27, .arr eU8.k 5 (eU8.E a26))]⟩) (AS.le_of ⟨rfl, rfl, rfl, rfl, rfl, trivial⟩ ⟨rfl, rfl, trivial⟩) ⟨(IntKind.wrap .i64 (a6.1 - 1), a26), w27, h, rfl⟩
    ·refine AW.seq ?_
     refine AW.rgs rfl fun K hK => ?_
     refine mv rfl rfl ?_
     refine bv rfl (v_bin rfl rfl b_geq) ?_
     refine b_fin hK (s' := ⟨[(0, HV.bool p0), (1, slE (encM (HV.int .u32)) x2), (4, HV.ptr 41004 v1 0), (5, HV.ar 41018 w11 eU8.k 0 ((a10.2).length)), (6, HV.int .i64 a6.1), (7, HV.int .i64 a10.1), (27, HV.bool (decide (0 ≤ a10.1)))], [(41004, v1, .arr 2 32 [HV.bool false, HV.str ([] : List UInt8)]), (41018, w11, .arr eU8.k 5 (eU8.E a10.2))]⟩) (le_q rfl rfl) ?_
     clear hK K
     refine AW.cond rfl (fun hc => ?_) (fun hc => ?_)
     ·have hc := of_decide_eq_true hc
      have h := ifT hc h
      refine AW.skip ?_
      refine AW.seqJ h (S := (List Int)) (V := Nat) (fun a v => ⟨[(0, HV.bool p0), (1, slE (encM (HV.int .u32)) x2), (4, HV.ptr 41004 v1 0), (5, HV.ar 41018 v eU8.k 0 ((a).length)), (6, HV.int .i64 a6.1), (7, HV.int .i64 a10.1)], [(41004, v1, .arr 2 32 [HV.bool false, HV.str ([] : List UInt8)]), (41018, v, .arr eU8.k 5 (eU8.E a))]⟩) (fun a14 w15 h => ?_) (fun k16 h => ?_)
      ·refine AW.rg rfl fun K hK => ?_
       refine mv rfl rfl ?_
       refine bv rfl (v_bin rfl rfl b_sub) ?_
       refine mv rfl rfl ?_
       refine b_nil (hK _ ?_)
       clear hK K
       exact to_le (s' := ⟨[(0, HV.bool p0), (1, slE (encM (HV.int .u32)) x2), (4, HV.ptr 41004 v1 0), (5, HV.ar 41018 w15 eU8.k 0 ((a14).length)), (6, HV.int .i64 a6.1), (7, HV.int .i64 (IntKind.wrap .i64 (a10.1 - 1)))], [(41004, v1, .arr 2 32 [HV.bool false, HV.str ([] : List UInt8)]), (41018, w15, .arr eU8.k 5 (eU8.E a14))]⟩) (AS.le_of ⟨rfl, rfl, rfl, rfl, rfl, rfl, trivial⟩ ⟨rfl, rfl, trivial⟩) ⟨(IntKind.wrap .i64 (a10.1 - 1), a14), w15, h, rfl⟩
      ·refine AW.block ?_
       refine AW.rgs rfl fun K hK => ?_
       refine mv rfl rfl ?_
       refine mv rfl rfl ?_
       obtain ⟨x17, h18, h⟩ := bS h
       refine bv rfl (v_idxF ty82 es82 rfl rfl (idx_lt h18)) ?_
       refine bv rfl (v_loadF ty79 rfl (l_cell (encM (HV.int .u32)) h18 (o := 0) rfl rfl)) ?_
       refine mv rfl rfl ?_
       refine bv rfl (v_bin rfl rfl b_mul) ?_
       obtain ⟨h19, h⟩ := ifN h
       refine bv rfl (v_bin rfl rfl (b_shr h19)) ?_
       refine bv rfl (v_convI ty79 ty5 rfl) ?_
       refine mv rfl rfl ?_
       refine b_fin hK (s' := ⟨[(0, HV.bool p0), (1, slE (encM (HV.int .u32)) x2), (4, HV.ptr 41004 v1 0), (5, HV.ar 41018 w11 eU8.k 0 ((a10.2).length)), (6, HV.int .i64 a6.1), (7, HV.int .i64 a10.1), (8, HV.int .u8 (IntKind.wrap .u8 (Int.fdiv x17 (2 ^ (min ((IntKind.wrap .i64 (8 * a10.1))).toNat (IntKind.bits .u32))))))], [(41004, v1, .arr 2 32 [HV.bool false, HV.str ([] : List UInt8)]), (41018, w11, .arr eU8.k 5 (eU8.E a10.2))]⟩) (le_q rfl rfl) ?_
       clear hK K
       refine AW.seqJ h (S := Bool) (V := Unit) (fun a v => ⟨[(0, HV.bool p0), (1, slE (encM (HV.int .u32)) x2), (4, HV.ptr 41004 v1 0), (5, HV.ar 41018 w11 eU8.k 0 ((a10.2).length)), (6, HV.int .i64 a6.1), (7, HV.int .i64 a10.1), (8, HV.int .u8 (IntKind.wrap .u8 (Int.fdiv x17 (2 ^ (min ((IntKind.wrap .i64 (8 * a10.1))).toNat (IntKind.bits .u32)))))), (44, HV.bool a)], [(41004, v1, .arr 2 32 [HV.bool false, HV.str ([] : List UInt8)]), (41018, w11, .arr eU8.k 5 (eU8.E a10.2))]⟩) (fun a20 w21 h => ?_) (fun k22 h => ?_)
       ·refine AW.cond rfl (fun hc => ?_) (fun hc => ?_)
        ·have h := ifT hc h
         refine AW.rg rfl fun K hK => ?_
         refine mv rfl rfl ?_
         refine mv rfl rfl ?_
         refine b_op rfl (o_bsl rfl rfl (as_of (cs := [HV.int .u8 (IntKind.wrap .u8 (Int.fdiv x17 (2 ^ (min ((IntKind.wrap .i64 (8 * a10.1))).toNat (IntKind.bits .u32)))))]) ty103 ty5 rfl rfl rfl rfl rfl) ?_)
         obtain ⟨h24, h⟩ := ifN h
         refine b_op rfl (o_appE eU8 (l := a10.2) (m := [IntKind.wrap .u8 (Int.fdiv x17 (2 ^ (min ((IntKind.wrap .i64 (8 * a10.1))).toNat (IntKind.bits .u32))))]) rfl rfl ty103 ty103 ty5 rfl rfl rfl rfl rfl h24 (fun v23 => ?_))
         refine mv rfl rfl ?_
         refine b_nil (hK _ ?_)
         clear hK K
         exact to_le (s' := ⟨[(0, HV.bool p0), (1, slE (encM (HV.int .u32)) x2), (4, HV.ptr 41004 v1 0), (5, HV.ar 41018 v23 eU8.k 0 ((a10.2 ++ [IntKind.wrap .u8 (Int.fdiv x17 (2 ^ (min ((IntKind.wrap .i64 (8 * a10.1))).toNat (IntKind.bits .u32))))]).length)), (6, HV.int .i64 a6.1), (7, HV.int .i64 a10.1)], [(41004, v1, .arr 2 32 [HV.bool false, HV.str ([] : List UInt8)]), (41018, v23, .arr eU8.k 5 (eU8.E (a10.2 ++ [IntKind.wrap .u8 (Int.fdiv x17 (2 ^ (min ((IntKind.wrap .i64 (8 * a10.1))).toNat (IntKind.bits .u32))))])))]⟩) (AS.le_of ⟨rfl, rfl, rfl, rfl, rfl, rfl, trivial⟩ ⟨rfl, rfl, trivial⟩) ⟨a10.2 ++ [IntKind.wrap .u8 (Int.fdiv x17 (2 ^ (min ((IntKind.wrap .i64 (8 * a10.1))).toNat (IntKind.bits .u32))))], v23, h, rfl⟩
        ·have h := ifF (bF' hc) h
         refine AW.skip ?_
         exact to_le (s' := ⟨[(0, HV.bool p0), (1, slE (encM (HV.int .u32)) x2), (4, HV.ptr 41004 v1 0), (5, HV.ar 41018 w11 eU8.k 0 ((a10.2).length)), (6, HV.int .i64 a6.1), (7, HV.int .i64 a10.1)], [(41004, v1, .arr 2 32 [HV.bool false, HV.str ([] : List UInt8)]), (41018, w11, .arr eU8.k 5 (eU8.E a10.2))]⟩) (AS.le_of ⟨rfl, rfl, rfl, rfl, rfl, rfl, trivial⟩ ⟨rfl, rfl, trivial⟩) ⟨a10.2, w11, h, rfl⟩
       ·refine AW.rg rfl fun K hK => ?_
        refine mv rfl rfl ?_
        refine bv rfl (v_bin rfl rfl b_neq) ?_
        refine mv rfl rfl ?_
        by_cases hg25 : (IntKind.wrap .u8 (Int.fdiv x17 (2 ^ (min ((IntKind.wrap .i64 (8 * a10.1))).toNat (IntKind.bits .u32))))) ≠ 0
        ·have h := ifT hg25 h
         refine b_F rfl rfl rfl rfl rfl (decide_eq_true hg25) ?_
         refine b_F rfl rfl rfl rfl rfl rfl ?_
         refine b_F rfl rfl rfl rfl rfl rfl ?_
         refine bv rfl (v_pickT rfl rfl rfl) ?_
         refine b_nil (hK _ ?_)
         clear hK K
         exact to_le (s' := ⟨[(0, HV.bool p0), (1, slE (encM (HV.int .u32)) x2), (4, HV.ptr 41004 v1 0), (5, HV.ar 41018 w11 eU8.k 0 ((a10.2).length)), (6, HV.int .i64 a6.1), (7, HV.int .i64 a10.1), (8, HV.int .u8 (IntKind.wrap .u8 (Int.fdiv x17 (2 ^ (min ((IntKind.wrap .i64 (8 * a10.1))).toNat (IntKind.bits .u32)))))), (44, HV.bool true)], [(41004, v1, .arr 2 32 [HV.bool false, HV.str ([] : List UInt8)]), (41018, w11, .arr eU8.k 5 (eU8.E a10.2))]⟩) (AS.le_of ⟨rfl, rfl, rfl, rfl, rfl, rfl, rfl, rfl, trivial⟩ ⟨rfl, rfl, trivial⟩) ⟨true, (), h, rfl⟩
        ·have h := ifF hg25 h
         refine b_T rfl rfl rfl rfl (decide_eq_false hg25) (o_val rfl (mv_val rfl rfl).2 ?_)
         refine b_T rfl rfl rfl rfl rfl (o_val rfl (v_lenA rfl rfl ty103 rfl rfl) ?_)
         refine b_T rfl rfl rfl rfl rfl (o_val rfl (v_bin rfl rfl b_gtr) ?_)
         refine bv rfl (v_pickF rfl rfl rfl) ?_
         refine b_nil (hK _ ?_)
         clear hK K
         exact to_le (s' := ⟨[(0, HV.bool p0), (1, slE (encM (HV.int .u32)) x2), (4, HV.ptr 41004 v1 0), (5, HV.ar 41018 w11 eU8.k 0 ((a10.2).length)), (6, HV.int .i64 a6.1), (7, HV.int .i64 a10.1), (8, HV.int .u8 (IntKind.wrap .u8 (Int.fdiv x17 (2 ^ (min ((IntKind.wrap .i64 (8 * a10.1))).toNat (IntKind.bits .u32)))))), (44, HV.bool (decide (0 < (((a10.2).length : Nat) : Int))))], [(41004, v1, .arr 2 32 [HV.bool false, HV.str ([] : List UInt8)]), (41018, w11, .arr eU8.k 5 (eU8.E a10.2))]⟩) (AS.le_of ⟨rfl, rfl, rfl, rfl, rfl, rfl, rfl, rfl, trivial⟩ ⟨rfl, rfl, trivial⟩) ⟨decide (0 < (((a10.2).length : Nat) : Int)), (), h, rfl⟩
     ·have hc := of_decide_eq_false hc
      have h := ifF hc h
      refine AW.exit ?_
      exact to_le (s' := ⟨[(0, HV.bool p0), (1, slE (encM (HV.int .u32)) x2), (4, HV.ptr 41004 v1 0), (5, HV.ar 41018 w11 eU8.k 0 ((a10.2).length)), (6, HV.int .i64 a6.1)], [(41004, v1, .arr 2 32 [HV.bool false, HV.str ([] : List UInt8)]), (41018, w11, .arr eU8.k 5 (eU8.E a10.2))]⟩) (AS.le_of ⟨rfl, rfl, rfl, rfl, rfl, trivial⟩ ⟨rfl, rfl, trivial⟩) ⟨a10.2, w11, h, rfl⟩
   ·have hc := of_decide_eq_false hc
    have h := ifF hc h
    refine AW.exit ?_
    exact to_le (s' := ⟨[(0, HV.bool p0), (4, HV.ptr 41004 v1 0), (5, HV.ar 41018 w7 eU8.k 0 ((a6.2).length))], [(41004, v1, .arr 2 32 [HV.bool false, HV.str ([] : List UInt8)]), (41018, w7, .arr eU8.k 5 (eU8.E a6.2))]⟩) (AS.le_of ⟨rfl, rfl, rfl, trivial⟩ ⟨rfl, rfl, trivial⟩) ⟨a6.2, w7, h, rfl⟩

set_option maxHeartbeats 1600000 in
set_option maxRecDepth 100000 in
theorem w_integer_Of {p0 : Int} {r : TNegMag} (h : m_integer_Of p0 = some r) : Pure Tryz.prog 20 [HV.int .i64 p0] (· = HV.agg [HV.bool r.1, HV.str r.2]) := by
 unfold m_integer_Of at h
 refine Pure.of_body Tryz.func20 rfl rfl (Nat.le_of_ble_eq_true rfl) fun hf => ?_
 unfold Tryz.f20
 dsimp only [enumS, Nat.reduceAdd]
 refine AW.rgs rfl fun K hK => ?_
 refine b_op rfl (o_alloc (fid := 20) (zs := [HV.bool false, HV.str ([] : List UInt8)]) 20002 rfl rfl ty32 rfl (fun v1 => ?_))
 refine b_fin hK (s' := ⟨[(0, HV.int .i64 p0), (2, HV.ptr 20002 v1 0)], [(20002, v1, .arr 2 32 [HV.bool false, HV.str ([] : List UInt8)])]⟩) (le_q rfl rfl) ?_
 clear hK K
 refine AW.rgs rfl fun K hK => ?_
 refine mv rfl rfl ?_
 refine bv rfl (v_convI ty3 ty77 rfl) ?_
 refine mv rfl rfl ?_
 refine b_fin hK (s' := ⟨[(0, HV.int .i64 p0), (2, HV.ptr 20002 v1 0), (3, HV.int .u64 (IntKind.wrap .u64 p0))], [(20002, v1, .arr 2 32 [HV.bool false, HV.str ([] : List UInt8)])]⟩) (le_q rfl rfl) ?_
 clear hK K
 refine AW.seq ?_
 refine AW.rgs rfl fun K hK => ?_
 refine mv rfl rfl ?_
 refine bv rfl (v_bin rfl rfl b_lss) ?_
 refine b_fin hK (s' := ⟨[(0, HV.int .i64 p0), (2, HV.ptr 20002 v1 0), (3, HV.int .u64 (IntKind.wrap .u64 p0)), (7, HV.bool (decide (p0 < 0)))], [(20002, v1, .arr 2 32 [HV.bool false, HV.str ([] : List UInt8)])]⟩) (le_q rfl rfl) ?_
 clear hK K
 refine AW.lastJ h (by first | exact up_then | exact up_to) (S := Int) (V := Unit) (fun a v => ⟨[(0, HV.int .i64 p0), (2, HV.ptr 20002 v1 0), (3, HV.int .u64 a)], [(20002, v1, .arr 2 32 [HV.bool false, HV.str ([] : List UInt8)])]⟩) (fun a2 w3 h => ?_) (fun k4 h => ?_)
 ·refine AW.rgs rfl fun K hK => ?_
  refine mv rfl rfl ?_
  refine bv rfl (v_bin rfl rfl b_lss) ?_
  refine mv rfl rfl ?_
  refine bv rfl (v_convI ty77 ty79 rfl) ?_
  refine mv rfl rfl ?_
  refine bv rfl (v_bin rfl rfl (b_shr (by decide))) ?_
  refine bv rfl (v_convI ty77 ty79 rfl) ?_
  refine b_op rfl (o_bsl rfl rfl (as_of (cs := [HV.int .u32 (IntKind.wrap .u32 a2), HV.int .u32 (IntKind.wrap .u32 (Int.fdiv a2 (2 ^ (min (32 : Int).toNat (IntKind.bits .u64)))))]) ty82 ty79 rfl rfl rfl rfl rfl) ?_)
  obtain ⟨x5, h6, h⟩ := bS h
  refine b_op rfl (o_call rfl rfl rfl rfl (ACallD.pure0 (w_integer_number h6)) ?_)
  refine b_op rfl (o_store (cs := [HV.bool x5.1, HV.str x5.2]) (zs := [HV.bool x5.1, HV.str x5.2]) rfl rfl rfl ty32 rfl rfl rfl rfl rfl ?_)
  refine b_fin hK (s' := ⟨[(2, HV.ptr 20002 v1 0)], [(20002, v1, .arr 2 32 [HV.bool x5.1, HV.str x5.2])]⟩) (le_q rfl rfl) ?_
  clear hK K
  refine AW.ret ?_
  have h := Option.some.inj h
  subst h
  exact ret_pure (hs := [HV.agg [HV.bool x5.1, HV.str x5.2]]) (q := HV.agg [HV.bool x5.1, HV.str x5.2]) (.inr rfl) (resP ty32 rfl rfl (l_litA rfl (Nat.le_of_ble_eq_true rfl) rfl) rfl) rfl ⟨trivial, trivial, trivial⟩
 ·refine AW.cond rfl (fun hc => ?_) (fun hc => ?_)
  ·have hc := of_decide_eq_true hc
   have h := ifT hc h
   refine AW.rg rfl fun K hK => ?_
   refine mv rfl rfl ?_
   refine bv rfl (v_neg rfl) ?_
   refine mv rfl rfl ?_
   refine b_nil (hK _ ?_)
   clear hK K
   exact to_le (s' := ⟨[(0, HV.int .i64 p0), (2, HV.ptr 20002 v1 0), (3, HV.int .u64 (IntKind.wrap .u64 (0 - (IntKind.wrap .u64 p0))))], [(20002, v1, .arr 2 32 [HV.bool false, HV.str ([] : List UInt8)])]⟩) (AS.le_of ⟨rfl, rfl, rfl, trivial⟩ ⟨rfl, trivial⟩) ⟨IntKind.wrap .u64 (0 - (IntKind.wrap .u64 p0)), (), h, rfl⟩
  ·have hc := of_decide_eq_false hc
   have h := ifF hc h
   refine AW.skip ?_
   exact to_le (s' := ⟨[(0, HV.int .i64 p0), (2, HV.ptr 20002 v1 0), (3, HV.int .u64 (IntKind.wrap .u64 p0))], [(20002, v1, .arr 2 32 [HV.bool false, HV.str ([] : List UInt8)])]⟩) (AS.le_of ⟨rfl, rfl, rfl, trivial⟩ ⟨rfl, trivial⟩) ⟨IntKind.wrap .u64 p0, (), h, rfl⟩

set_option maxHeartbeats 1600000 in
set_option maxRecDepth 100000 in
theorem w_integer_digits {p0 : TNegMag} {r : (List (Int))} (h : m_integer_digits p0 = some r) : Pure Tryz.prog 45 [HV.agg [HV.bool p0.1, HV.str p0.2]] (· = slE (encM (HV.int .u32)) r) := by
 unfold m_integer_digits at h
 refine Pure.of_body Tryz.func45 rfl rfl (Nat.le_of_ble_eq_true rfl) fun hf => ?_
 unfold Tryz.f45
 dsimp only [enumS, Nat.reduceAdd]
 refine AW.rgs rfl fun K hK => ?_
 refine b_op rfl (o_box rfl rfl rfl ?_)
 refine mv rfl rfl ?_
 refine b_fin hK (s' := ⟨[(1, HV.fptr [HV.bool p0.1, HV.str p0.2] 0)], []⟩) (le_q rfl rfl) ?_
 clear hK K
 refine AW.rgs rfl fun K hK => ?_
 refine bv rfl (v_fieldAddrF fo32_1 rfl) ?_
 refine bv rfl (v_loadF ty9 rfl (l_lit rfl rfl)) ?_
 refine bv rfl (v_lenS rfl rfl ty9 rfl) ?_
 refine bv rfl (v_bin rfl rfl b_add) ?_
 refine bv rfl (v_bin rfl rfl (b_quo (by decide))) ?_
 obtain ⟨h2, h⟩ := ifN h
 refine b_op rfl (o_makeE (fid := 45) (encM (HV.int .u32)) (0 : Int) 45011 rfl rfl ty82 rfl rfl ty79 rfl rfl h2 (fun v1 => ?_))
 refine mv rfl rfl ?_
 refine b_fin hK (s' := ⟨[(1, HV.fptr [HV.bool p0.1, HV.str p0.2] 0), (3, HV.ar 45011 v1 (encM (HV.int .u32)).k 0 ((List.replicate (IntKind.wrap .i64 (Int.tdiv (IntKind.wrap .i64 (((p0.2).length : Int) + 3)) 4)).toNat (0 : Int)).length))], [(45011, v1, .arr (encM (HV.int .u32)).k 79 ((encM (HV.int .u32)).E (List.replicate (IntKind.wrap .i64 (Int.tdiv (IntKind.wrap .i64 (((p0.2).length : Int) + 3)) 4)).toNat (0 : Int))))]⟩) (le_q rfl rfl) ?_
 clear hK K
 refine AW.seq ?_
 refine AW.rgs rfl fun K hK => ?_
 refine bv rfl (v_fieldAddrF fo32_1 rfl) ?_
 refine bv rfl (v_loadF ty9 rfl (l_lit rfl rfl)) ?_
 refine bv rfl (v_lenS rfl rfl ty9 rfl) ?_
 refine mv rfl rfl ?_
 refine b_fin hK (s' := ⟨[(1, HV.fptr [HV.bool p0.1, HV.str p0.2] 0), (3, HV.ar 45011 v1 (encM (HV.int .u32)).k 0 ((List.replicate (IntKind.wrap .i64 (Int.tdiv (IntKind.wrap .i64 (((p0.2).length : Int) + 3)) 4)).toNat (0 : Int)).length)), (14, HV.int .i64 ((p0.2).length : Int)), (15, HV.int .i64 0)], [(45011, v1, .arr (encM (HV.int .u32)).k 79 ((encM (HV.int .u32)).E (List.replicate (IntKind.wrap .i64 (Int.tdiv (IntKind.wrap .i64 (((p0.2).length : Int) + 3)) 4)).toNat (0 : Int))))]⟩) (le_q rfl rfl) ?_
 clear hK K
 refine AW.lpX h (by first | exact up_then | exact up_to) (S := Int × (List Int)) (V := Unit) (fun a v => ⟨[(1, HV.fptr [HV.bool p0.1, HV.str p0.2] 0), (3, HV.ar 45011 v1 (encM (HV.int .u32)).k 0 ((a.2).length)), (14, HV.int .i64 ((p0.2).length : Int)), (15, HV.int .i64 a.1)], [(45011, v1, .arr (encM (HV.int .u32)).k 79 ((encM (HV.int .u32)).E a.2))]⟩) ?_ (X := (List Int)) (W := Unit) (fun a v => ⟨[(3, HV.ar 45011 v1 (encM (HV.int .u32)).k 0 ((a).length))], [(45011, v1, .arr (encM (HV.int .u32)).k 79 ((encM (HV.int .u32)).E a))]⟩) (fun a16 w17 h => ?_) (fun a3 w4 st5 h => ?_)
 ·exact to_le (s' := ⟨[(1, HV.fptr [HV.bool p0.1, HV.str p0.2] 0), (3, HV.ar 45011 v1 (encM (HV.int .u32)).k 0 ((List.replicate (IntKind.wrap .i64 (Int.tdiv (IntKind.wrap .i64 (((p0.2).length : Int) + 3)) 4)).toNat (0 : Int)).length)), (14, HV.int .i64 ((p0.2).length : Int)), (15, HV.int .i64 0)], [(45011, v1, .arr (encM (HV.int .u32)).k 79 ((encM (HV.int .u32)).E (List.replicate (IntKind.wrap .i64 (Int.tdiv (IntKind.wrap .i64 (((p0.2).length : Int) + 3)) 4)).toNat (0 : Int))))]⟩) (AS.le_of ⟨rfl, rfl, rfl, rfl, trivial⟩ ⟨rfl, trivial⟩) ⟨(), rfl⟩
 ·refine AW.to (to_frz 2 [(45011, v1, .arr (encM (HV.int .u32)).k 79 ((encM (HV.int .u32)).E a16))] ⟨[(3, slE (encM (HV.int .u32)) a16)], []⟩ ⟨⟨_, rfl, frz_slE (encM (HV.int .u32)) (l := a16) rfl fun _ _ => rfl⟩, trivial⟩ trivial ⟨rfl, trivial⟩ ⟨rfl, trivial⟩ ?_)
  refine AW.rgs rfl fun K hK => ?_
  refine mv rfl rfl ?_
  obtain ⟨x18, h19, h⟩ := bS h
  refine b_op rfl (o_call rfl rfl rfl rfl (ACallD.pure0 (w_integer_trim h19)) ?_)
  refine mv rfl rfl ?_
  refine b_fin hK (s' := ⟨[(2, slE (encM (HV.int .u32)) x18)], []⟩) (le_q rfl rfl) ?_
  clear hK K
  refine AW.ret ?_
  have h := Option.some.inj h
  subst h
  exact ret_pure (hs := [slE (encM (HV.int .u32)) x18]) (q := slE (encM (HV.int .u32)) x18) (.inr rfl) (resT rfl rfl) rfl (clean_slE fun _ _ => ⟨trivial, trivial⟩)
 ·refine AW.rgs rfl fun K hK => ?_
  refine bv rfl (v_bin rfl rfl b_lss) ?_
  refine b_fin hK (s' := ⟨[(1, HV.fptr [HV.bool p0.1, HV.str p0.2] 0), (3, HV.ar 45011 v1 (encM (HV.int .u32)).k 0 ((a3.2).length)), (14, HV.int .i64 ((p0.2).length : Int)), (15, HV.int .i64 a3.1), (16, HV.bool (decide (a3.1 < ((p0.2).length : Int))))], [(45011, v1, .arr (encM (HV.int .u32)).k 79 ((encM (HV.int .u32)).E a3.2))]⟩) (le_q rfl rfl) ?_
  clear hK K
  refine AW.cseq rfl (fun hc => ?_) (fun hc => ?_)
  ·have hc := of_decide_eq_true hc
   have h := ifT hc h
   refine AW.skip ?_
   refine AW.seq (AW.block ?_)
   refine AW.rgs rfl fun K hK => ?_
   refine mv rfl rfl ?_
   refine mv rfl rfl ?_
   refine b_fin hK (s' := ⟨[(1, HV.fptr [HV.bool p0.1, HV.str p0.2] 0), (3, HV.ar 45011 v1 (encM (HV.int .u32)).k 0 ((a3.2).length)), (4, HV.int .i64 a3.1), (14, HV.int .i64 ((p0.2).length : Int)), (15, HV.int .i64 a3.1)], [(45011, v1, .arr (encM (HV.int .u32)).k 79 ((encM (HV.int .u32)).E a3.2))]⟩) (le_q rfl rfl) ?_
   clear hK K
   refine AW.rgs rfl fun K hK => ?_
   refine bv rfl (v_fieldAddrF fo32_1 rfl) ?_
   refine bv rfl (v_loadF ty9 rfl (l_lit rfl rfl)) ?_
   refine bv rfl (v_fieldAddrF fo32_1 rfl) ?_
   refine bv rfl (v_loadF ty9 rfl (l_lit rfl rfl)) ?_
   refine bv rfl (v_lenS rfl rfl ty9 rfl) ?_
   refine bv rfl (v_bin rfl rfl b_sub) ?_
   refine mv rfl rfl ?_
   refine bv rfl (v_bin rfl rfl b_sub) ?_
   obtain ⟨x7, h8, h⟩ := bS h
   refine bv rfl (v_idxS ty9 rfl rfl h8) ?_
   refine mv rfl rfl ?_
   refine b_fin hK (s' := ⟨[(1, HV.fptr [HV.bool p0.1, HV.str p0.2] 0), (3, HV.ar 45011 v1 (encM (HV.int .u32)).k 0 ((a3.2).length)), (4, HV.int .i64 a3.1), (5, HV.int .u8 (x7.toNat : Int)), (14, HV.int .i64 ((p0.2).length : Int)), (15, HV.int .i64 a3.1)], [(45011, v1, .arr (encM (HV.int .u32)).k 79 ((encM (HV.int .u32)).E a3.2))]⟩) (le_q rfl rfl) ?_
   clear hK K
   refine AW.dg 13 follows rfl rfl fun K hK => ?_
   refine sm rfl rfl ?_
   refine sm rfl rfl ?_
   refine sv rfl (v_bin rfl rfl (b_quo (by decide))) ?_
   obtain ⟨x9, h10, h⟩ := bS h
   refine sv rfl (v_idxA ty82 es82 rfl rfl (idx_lt h10) rfl) ?_
   obtain ⟨x11, h12, h⟩ := bS h
   refine sv rfl (v_loadP ty79 rfl rfl (l_cell (encM (HV.int .u32)) h12 (o := 0) rfl rfl)) ?_
   refine sm rfl rfl ?_
   refine sv rfl (v_convI ty5 ty79 rfl) ?_
   refine sm rfl rfl ?_
   refine sv rfl (v_bin rfl rfl (b_rem (by decide))) ?_
   refine sv rfl (v_bin rfl rfl b_mul) ?_
   obtain ⟨h13, h⟩ := ifN h
   refine sv rfl (v_bin rfl rfl (b_shl h13)) ?_
   refine sv rfl (v_bin rfl rfl b_or) ?_
   obtain ⟨x14, h15, h⟩ := bS h
   refine sv rfl (v_idxA ty82 es82 rfl rfl (idx_lt h15) rfl) ?_
   refine s_nil ?_
   refine b_op rfl (o_storeE (encM (HV.int .u32)) (l := a3.2) (j := (IntKind.wrap .i64 (Int.tdiv a3.1 4))) (v := IntKind.wrap .u32 (BitVec.ofInt (IntKind.bits .u32) x11 ||| BitVec.ofInt (IntKind.bits .u32) (IntKind.wrap .u32 ((IntKind.wrap .u32 (x7.toNat : Int)) * 2 ^ (min ((IntKind.wrap .i64 (8 * (Int.tmod a3.1 4)))).toNat (IntKind.bits .u32))))).toNat) rfl rfl rfl ty79 rfl rfl rfl (idx_lt h15) ?_)
   refine b_fin hK (s' := ⟨[(1, HV.fptr [HV.bool p0.1, HV.str p0.2] 0), (3, HV.ar 45011 v1 (encM (HV.int .u32)).k 0 (((a3.2).set (IntKind.wrap .i64 (Int.tdiv a3.1 4)).toNat (IntKind.wrap .u32 (BitVec.ofInt (IntKind.bits .u32) x11 ||| BitVec.ofInt (IntKind.bits .u32) (IntKind.wrap .u32 ((IntKind.wrap .u32 (x7.toNat : Int)) * 2 ^ (min ((IntKind.wrap .i64 (8 * (Int.tmod a3.1 4)))).toNat (IntKind.bits .u32))))).toNat)).length)), (14, HV.int .i64 ((p0.2).length : Int)), (15, HV.int .i64 a3.1)], [(45011, v1, .arr (encM (HV.int .u32)).k 79 ((encM (HV.int .u32)).E ((a3.2).set (IntKind.wrap .i64 (Int.tdiv a3.1 4)).toNat (IntKind.wrap .u32 (BitVec.ofInt (IntKind.bits .u32) x11 ||| BitVec.ofInt (IntKind.bits .u32) (IntKind.wrap .u32 ((IntKind.wrap .u32 (x7.toNat : Int)) * 2 ^ (min ((IntKind.wrap .i64 (8 * (Int.tmod a3.1 4)))).toNat (IntKind.bits .u32))))).toNat))))]⟩) (AS.le_of ⟨rfl, arl (by first | rfl | simp only [List.length_set, sortI_len, sortS_len]), rfl, rfl, trivial⟩ ⟨rfl, trivial⟩) ?_
   clear hK K
   refine AW.rg rfl fun K hK => ?_
   refine bv rfl (v_bin rfl rfl b_add) ?_
   refine mv rfl rfl ?_
   refine b_nil (hK _ ?_)
   clear hK K
   exact to_le (s' := ⟨[(1, HV.fptr [HV.bool p0.1, HV.str p0.2] 0), (3, HV.ar 45011 v1 (encM (HV.int .u32)).k 0 (((a3.2).set (IntKind.wrap .i64 (Int.tdiv a3.1 4)).toNat (IntKind.wrap .u32 (BitVec.ofInt (IntKind.bits .u32) x11 ||| BitVec.ofInt (IntKind.bits .u32) (IntKind.wrap .u32 ((IntKind.wrap .u32 (x7.toNat : Int)) * 2 ^ (min ((IntKind.wrap .i64 (8 * (Int.tmod a3.1 4)))).toNat (IntKind.bits .u32))))).toNat)).length)), (14, HV.int .i64 ((p0.2).length : Int)), (15, HV.int .i64 (IntKind.wrap .i64 (a3.1 + 1)))], [(45011, v1, .arr (encM (HV.int .u32)).k 79 ((encM (HV.int .u32)).E ((a3.2).set (IntKind.wrap .i64 (Int.tdiv a3.1 4)).toNat (IntKind.wrap .u32 (BitVec.ofInt (IntKind.bits .u32) x11 ||| BitVec.ofInt (IntKind.bits .u32) (IntKind.wrap .u32 ((IntKind.wrap .u32 (x7.toNat : Int)) * 2 ^ (min ((IntKind.wrap .i64 (8 * (Int.tmod a3.1 4)))).toNat (IntKind.bits .u32))))).toNat))))]⟩) (AS.le_of ⟨rfl, rfl, rfl, rfl, trivial⟩ ⟨rfl, trivial⟩) ⟨(IntKind.wrap .i64 (a3.1 + 1), (a3.2).set (IntKind.wrap .i64 (Int.tdiv a3.1 4)).toNat (IntKind.wrap .u32 (BitVec.ofInt (IntKind.bits .u32) x11 ||| BitVec.ofInt (IntKind.bits .u32) (IntKind.wrap .u32 ((IntKind.wrap .u32 (x7.toNat : Int)) * 2 ^ (min ((IntKind.wrap .i64 (8 * (Int.tmod a3.1 4)))).toNat (IntKind.bits .u32))))).toNat)), (), h, rfl⟩
  ·have hc := of_decide_eq_false hc
   have h := ifF hc h
   refine AW.exit ?_
   exact to_le (s' := ⟨[(3, HV.ar 45011 v1 (encM (HV.int .u32)).k 0 ((a3.2).length))], [(45011, v1, .arr (encM (HV.int .u32)).k 79 ((encM (HV.int .u32)).E a3.2))]⟩) (AS.le_of ⟨rfl, trivial⟩ ⟨rfl, trivial⟩) ⟨a3.2, (), h, rfl⟩

set_option maxHeartbeats 1600000 in
set_option maxRecDepth 100000 in
theorem w_integer_add {p0 : List (Int)} {p1 : List (Int)} {r : (List (Int))} (h : m_integer_add p0 p1 = some r) : Pure Tryz.prog 46 [slE (encM (HV.int .u32)) p0, slE (encM (HV.int .u32)) p1] (· = slE (encM (HV.int .u32)) r) := by
 unfold m_integer_add at h
 refine Pure.of_body Tryz.func46 rfl rfl (Nat.le_of_ble_eq_true rfl) fun hf => ?_
 unfold Tryz.f46
 dsimp only [enumS, Nat.reduceAdd]
 refine AW.rgs rfl fun K hK => ?_
 refine mv rfl rfl ?_
 refine b_fin hK (s' := ⟨[(0, slE (encM (HV.int .u32)) p0), (1, slE (encM (HV.int .u32)) p1)], []⟩) (le_q rfl rfl) ?_
 clear hK K
 refine AW.seq ?_
 refine AW.rgs rfl fun K hK => ?_
 refine mv rfl rfl ?_
 refine bv rfl (v_lenF rfl rfl ty82 rfl) ?_
 refine mv rfl rfl ?_
 refine bv rfl (v_lenF rfl rfl ty82 rfl) ?_
 refine bv rfl (v_bin rfl rfl b_lss) ?_
 refine b_fin hK (s' := ⟨[(0, slE (encM (HV.int .u32)) p0), (1, slE (encM (HV.int .u32)) p1), (13, HV.bool (decide (((p0).length : Int) < ((p1).length : Int))))], []⟩) (le_q rfl rfl) ?_
 clear hK K
 refine AW.lastJ h (by first | exact up_then | exact up_to) (S := (List Int) × (List Int)) (V := Unit) (fun a v => ⟨[(0, slE (encM (HV.int .u32)) a.1), (1, slE (encM (HV.int .u32)) a.2)], []⟩) (fun a1 w2 h => ?_) (fun k3 h => ?_)
 ·refine AW.rgs rfl fun K hK => ?_
  refine mv rfl rfl ?_
  refine bv rfl (v_lenF rfl rfl ty82 rfl) ?_
  refine bv rfl (v_bin rfl rfl b_add) ?_
  obtain ⟨h5, h⟩ := ifN h
  refine b_op rfl (o_makeE (fid := 46) (encM (HV.int .u32)) (0 : Int) 46019 rfl rfl ty82 rfl rfl ty79 rfl rfl h5 (fun v4 => ?_))
  refine mv rfl rfl ?_
  refine b_fin hK (s' := ⟨[(0, slE (encM (HV.int .u32)) a1.1), (1, slE (encM (HV.int .u32)) a1.2), (5, HV.ar 46019 v4 (encM (HV.int .u32)).k 0 ((List.replicate (IntKind.wrap .i64 (((a1.1).length : Int) + 1)).toNat (0 : Int)).length))], [(46019, v4, .arr (encM (HV.int .u32)).k 79 ((encM (HV.int .u32)).E (List.replicate (IntKind.wrap .i64 (((a1.1).length : Int) + 1)).toNat (0 : Int))))]⟩) (le_q rfl rfl) ?_
  clear hK K
  refine AW.rgs rfl fun K hK => ?_
  refine mv rfl rfl ?_
  refine b_fin hK (s' := ⟨[(0, slE (encM (HV.int .u32)) a1.1), (1, slE (encM (HV.int .u32)) a1.2), (5, HV.ar 46019 v4 (encM (HV.int .u32)).k 0 ((List.replicate (IntKind.wrap .i64 (((a1.1).length : Int) + 1)).toNat (0 : Int)).length)), (6, HV.int .u64 0)], [(46019, v4, .arr (encM (HV.int .u32)).k 79 ((encM (HV.int .u32)).E (List.replicate (IntKind.wrap .i64 (((a1.1).length : Int) + 1)).toNat (0 : Int))))]⟩) (le_q rfl rfl) ?_
  clear hK K
  refine AW.seq ?_
  refine AW.rgs rfl fun K hK => ?_
  refine mv rfl rfl ?_
  refine bv rfl (v_lenF rfl rfl ty82 rfl) ?_
  refine mv rfl rfl ?_
  refine b_fin hK (s' := ⟨[(0, slE (encM (HV.int .u32)) a1.1), (1, slE (encM (HV.int .u32)) a1.2), (5, HV.ar 46019 v4 (encM (HV.int .u32)).k 0 ((List.replicate (IntKind.wrap .i64 (((a1.1).length : Int) + 1)).toNat (0 : Int)).length)), (6, HV.int .u64 0), (21, HV.int .i64 ((a1.1).length : Int)), (22, HV.int .i64 0)], [(46019, v4, .arr (encM (HV.int .u32)).k 79 ((encM (HV.int .u32)).E (List.replicate (IntKind.wrap .i64 (((a1.1).length : Int) + 1)).toNat (0 : Int))))]⟩) (le_q rfl rfl) ?_
  clear hK K
  refine AW.lpX h (by first | exact up_then | exact up_to) (S := Int × Int × (List Int)) (V := Unit) (fun a v => ⟨[(0, slE (encM (HV.int .u32)) a1.1), (1, slE (encM (HV.int .u32)) a1.2), (5, HV.ar 46019 v4 (encM (HV.int .u32)).k 0 ((a.2.2).length)), (6, HV.int .u64 a.1), (21, HV.int .i64 ((a1.1).length : Int)), (22, HV.int .i64 a.2.1)], [(46019, v4, .arr (encM (HV.int .u32)).k 79 ((encM (HV.int .u32)).E a.2.2))]⟩) ?_ (X := (List Int) × Int) (W := Unit) (fun a v => ⟨[(0, slE (encM (HV.int .u32)) a1.1), (5, HV.ar 46019 v4 (encM (HV.int .u32)).k 0 ((a.1).length)), (6, HV.int .u64 a.2)], [(46019, v4, .arr (encM (HV.int .u32)).k 79 ((encM (HV.int .u32)).E a.1))]⟩) (fun a19 w20 h => ?_) (fun a6 w7 st8 h => ?_)
  ·exact to_le (s' := ⟨[(0, slE (encM (HV.int .u32)) a1.1), (1, slE (encM (HV.int .u32)) a1.2), (5, HV.ar 46019 v4 (encM (HV.int .u32)).k 0 ((List.replicate (IntKind.wrap .i64 (((a1.1).length : Int) + 1)).toNat (0 : Int)).length)), (6, HV.int .u64 0), (21, HV.int .i64 ((a1.1).length : Int)), (22, HV.int .i64 0)], [(46019, v4, .arr (encM (HV.int .u32)).k 79 ((encM (HV.int .u32)).E (List.replicate (IntKind.wrap .i64 (((a1.1).length : Int) + 1)).toNat (0 : Int))))]⟩) (AS.le_of ⟨rfl, rfl, rfl, rfl, rfl, rfl, trivial⟩ ⟨rfl, trivial⟩) ⟨(), rfl⟩
  ·refine AW.rgs rfl fun K hK => ?_
   refine mv rfl rfl ?_
   refine mv rfl rfl ?_
   refine bv rfl (v_lenF rfl rfl ty82 rfl) ?_
   refine mv rfl rfl ?_
   refine bv rfl (v_convI ty77 ty79 rfl) ?_
   obtain ⟨x21, h22, h⟩ := bS h
   refine bv rfl (v_idxA ty82 es82 rfl rfl (idx_lt h22) rfl) ?_
   refine b_op rfl (o_storeE (encM (HV.int .u32)) (l := a19.1) (j := ((a1.1).length : Int)) (v := IntKind.wrap .u32 a19.2) rfl rfl rfl ty79 rfl rfl rfl (idx_lt h22) ?_)
   refine b_fin hK (s' := ⟨[(5, HV.ar 46019 v4 (encM (HV.int .u32)).k 0 (((a19.1).set (((a1.1).length : Int)).toNat (IntKind.wrap .u32 a19.2)).length))], [(46019, v4, .arr (encM (HV.int .u32)).k 79 ((encM (HV.int .u32)).E ((a19.1).set (((a1.1).length : Int)).toNat (IntKind.wrap .u32 a19.2))))]⟩) (AS.le_of ⟨arl (by first | rfl | simp only [List.length_set, sortI_len, sortS_len]), trivial⟩ ⟨rfl, trivial⟩) ?_
   clear hK K
   refine AW.to (to_frz 2 [(46019, v4, .arr (encM (HV.int .u32)).k 79 ((encM (HV.int .u32)).E ((a19.1).set (((a1.1).length : Int)).toNat (IntKind.wrap .u32 a19.2))))] ⟨[(5, slE (encM (HV.int .u32)) ((a19.1).set (((a1.1).length : Int)).toNat (IntKind.wrap .u32 a19.2)))], []⟩ ⟨⟨_, rfl, frz_slE (encM (HV.int .u32)) (l := (a19.1).set (((a1.1).length : Int)).toNat (IntKind.wrap .u32 a19.2)) rfl fun _ _ => rfl⟩, trivial⟩ trivial ⟨rfl, trivial⟩ ⟨rfl, trivial⟩ ?_)
   refine AW.rgs rfl fun K hK => ?_
   refine mv rfl rfl ?_
   obtain ⟨x23, h24, h⟩ := bS h
   refine b_op rfl (o_call rfl rfl rfl rfl (ACallD.pure0 (w_integer_trim h24)) ?_)
   refine mv rfl rfl ?_
   refine b_fin hK (s' := ⟨[(4, slE (encM (HV.int .u32)) x23)], []⟩) (le_q rfl rfl) ?_
   clear hK K
   refine AW.ret ?_
   have h := Option.some.inj h
   subst h
   exact ret_pure (hs := [slE (encM (HV.int .u32)) x23]) (q := slE (encM (HV.int .u32)) x23) (.inr rfl) (resT rfl rfl) rfl (clean_slE fun _ _ => ⟨trivial, trivial⟩)
  ·refine AW.rgs rfl fun K hK => ?_
   refine bv rfl (v_bin rfl rfl b_lss) ?_
   refine b_fin hK (s' := ⟨[(0, slE (encM (HV.int .u32)) a1.1), (1, slE (encM (HV.int .u32)) a1.2), (5, HV.ar 46019 v4 (encM (HV.int .u32)).k 0 ((a6.2.2).length)), (6, HV.int .u64 a6.1), (21, HV.int .i64 ((a1.1).length : Int)), (22, HV.int .i64 a6.2.1), (23, HV.bool (decide (a6.2.1 < ((a1.1).length : Int))))], [(46019, v4, .arr (encM (HV.int .u32)).k 79 ((encM (HV.int .u32)).E a6.2.2))]⟩) (le_q rfl rfl) ?_
   clear hK K
   refine AW.cseq rfl (fun hc => ?_) (fun hc => ?_)
   ·have hc := of_decide_eq_true hc
    have h := ifT hc h
    refine AW.skip ?_
    refine AW.seq (AW.block ?_)
    refine AW.rgs rfl fun K hK => ?_
    refine mv rfl rfl ?_
    refine mv rfl rfl ?_
    refine b_fin hK (s' := ⟨[(0, slE (encM (HV.int .u32)) a1.1), (1, slE (encM (HV.int .u32)) a1.2), (5, HV.ar 46019 v4 (encM (HV.int .u32)).k 0 ((a6.2.2).length)), (6, HV.int .u64 a6.1), (7, HV.int .i64 a6.2.1), (21, HV.int .i64 ((a1.1).length : Int)), (22, HV.int .i64 a6.2.1)], [(46019, v4, .arr (encM (HV.int .u32)).k 79 ((encM (HV.int .u32)).E a6.2.2))]⟩) (le_q rfl rfl) ?_
    clear hK K
    refine AW.rgs rfl fun K hK => ?_
    refine mv rfl rfl ?_
    refine mv rfl rfl ?_
    obtain ⟨x10, h11, h⟩ := bS h
    refine bv rfl (v_idxF ty82 es82 rfl rfl (idx_lt h11)) ?_
    refine bv rfl (v_loadF ty79 rfl (l_cell (encM (HV.int .u32)) h11 (o := 0) rfl rfl)) ?_
    refine bv rfl (v_convI ty79 ty77 rfl) ?_
    refine mv rfl rfl ?_
    refine bv rfl (v_bin rfl rfl b_add) ?_
    refine mv rfl rfl ?_
    refine b_fin hK (s' := ⟨[(0, slE (encM (HV.int .u32)) a1.1), (1, slE (encM (HV.int .u32)) a1.2), (5, HV.ar 46019 v4 (encM (HV.int .u32)).k 0 ((a6.2.2).length)), (7, HV.int .i64 a6.2.1), (8, HV.int .u64 (IntKind.wrap .u64 ((IntKind.wrap .u64 x10) + a6.1))), (21, HV.int .i64 ((a1.1).length : Int)), (22, HV.int .i64 a6.2.1)], [(46019, v4, .arr (encM (HV.int .u32)).k 79 ((encM (HV.int .u32)).E a6.2.2))]⟩) (le_q rfl rfl) ?_
    clear hK K
    refine AW.seq ?_
    refine AW.rgs rfl fun K hK => ?_
    refine mv rfl rfl ?_
    refine mv rfl rfl ?_
    refine bv rfl (v_lenF rfl rfl ty82 rfl) ?_
    refine bv rfl (v_bin rfl rfl b_lss) ?_
    refine b_fin hK (s' := ⟨[(0, slE (encM (HV.int .u32)) a1.1), (1, slE (encM (HV.int .u32)) a1.2), (5, HV.ar 46019 v4 (encM (HV.int .u32)).k 0 ((a6.2.2).length)), (7, HV.int .i64 a6.2.1), (8, HV.int .u64 (IntKind.wrap .u64 ((IntKind.wrap .u64 x10) + a6.1))), (21, HV.int .i64 ((a1.1).length : Int)), (22, HV.int .i64 a6.2.1), (35, HV.bool (decide (a6.2.1 < ((a1.2).length : Int))))], [(46019, v4, .arr (encM (HV.int .u32)).k 79 ((encM (HV.int .u32)).E a6.2.2))]⟩) (le_q rfl rfl) ?_
    clear hK K
    refine AW.lastJ h (by first | exact up_then | exact up_to) (S := Int) (V := Unit) (fun a v => ⟨[(0, slE (encM (HV.int .u32)) a1.1), (1, slE (encM (HV.int .u32)) a1.2), (5, HV.ar 46019 v4 (encM (HV.int .u32)).k 0 ((a6.2.2).length)), (7, HV.int .i64 a6.2.1), (8, HV.int .u64 a), (21, HV.int .i64 ((a1.1).length : Int)), (22, HV.int .i64 a6.2.1)], [(46019, v4, .arr (encM (HV.int .u32)).k 79 ((encM (HV.int .u32)).E a6.2.2))]⟩) (fun a12 w13 h => ?_) (fun k14 h => ?_)
    ·refine AW.rg rfl fun K hK => ?_
     refine mv rfl rfl ?_
     refine mv rfl rfl ?_
     refine mv rfl rfl ?_
     refine bv rfl (v_convI ty77 ty79 rfl) ?_
     refine mv rfl rfl ?_
     refine bv rfl (v_bin rfl rfl (b_shr (by decide))) ?_
     obtain ⟨x15, h16, h⟩ := bS h
     refine bv rfl (v_idxA ty82 es82 rfl rfl (idx_lt h16) rfl) ?_
     refine b_op rfl (o_storeE (encM (HV.int .u32)) (l := a6.2.2) (j := a6.2.1) (v := IntKind.wrap .u32 a12) rfl rfl rfl ty79 rfl rfl rfl (idx_lt h16) ?_)
     refine mv rfl rfl ?_
     refine b_fin hK (s' := ⟨[(0, slE (encM (HV.int .u32)) a1.1), (1, slE (encM (HV.int .u32)) a1.2), (5, HV.ar 46019 v4 (encM (HV.int .u32)).k 0 (((a6.2.2).set (a6.2.1).toNat (IntKind.wrap .u32 a12)).length)), (6, HV.int .u64 (Int.fdiv a12 (2 ^ (min (32 : Int).toNat (IntKind.bits .u64))))), (21, HV.int .i64 ((a1.1).length : Int)), (22, HV.int .i64 a6.2.1)], [(46019, v4, .arr (encM (HV.int .u32)).k 79 ((encM (HV.int .u32)).E ((a6.2.2).set (a6.2.1).toNat (IntKind.wrap .u32 a12))))]⟩) (AS.le_of ⟨rfl, rfl, arl (by first | rfl | simp only [List.length_set, sortI_len, sortS_len]), rfl, rfl, rfl, trivial⟩ ⟨rfl, trivial⟩) ?_
     clear hK K
     refine AW.rg rfl fun K hK => ?_
     refine bv rfl (v_bin rfl rfl b_add) ?_
     refine mv rfl rfl ?_
     refine b_nil (hK _ ?_)
     clear hK K
     exact to_le (s' := ⟨[(0, slE (encM (HV.int .u32)) a1.1), (1, slE (encM (HV.int .u32)) a1.2), (5, HV.ar 46019 v4 (encM (HV.int .u32)).k 0 (((a6.2.2).set (a6.2.1).toNat (IntKind.wrap .u32 a12)).length)), (6, HV.int .u64 (Int.fdiv a12 (2 ^ (min (32 : Int).toNat (IntKind.bits .u64))))), (21, HV.int .i64 ((a1.1).length : Int)), (22, HV.int .i64 (IntKind.wrap .i64 (a6.2.1 + 1)))], [(46019, v4, .arr (encM (HV.int .u32)).k 79 ((encM (HV.int .u32)).E ((a6.2.2).set (a6.2.1).toNat (IntKind.wrap .u32 a12))))]⟩) (AS.le_of ⟨rfl, rfl, rfl, rfl, rfl, rfl, trivial⟩ ⟨rfl, trivial⟩) ⟨(Int.fdiv a12 (2 ^ (min (32 : Int).toNat (IntKind.bits .u64))), IntKind.wrap .i64 (a6.2.1 + 1), (a6.2.2).set (a6.2.1).toNat (IntKind.wrap .u32 a12)), (), h, rfl⟩
    ·refine AW.cond rfl (fun hc => ?_) (fun hc => ?_)
     ·have hc := of_decide_eq_true hc
      have h := ifT hc h
      refine AW.rg rfl fun K hK => ?_
      refine mv rfl rfl ?_
      refine mv rfl rfl ?_
      refine mv rfl rfl ?_
      obtain ⟨x17, h18, h⟩ := bS h
      refine bv rfl (v_idxF ty82 es82 rfl rfl (idx_lt h18)) ?_
      refine bv rfl (v_loadF ty79 rfl (l_cell (encM (HV.int .u32)) h18 (o := 0) rfl rfl)) ?_
      refine bv rfl (v_convI ty79 ty77 rfl) ?_
      refine bv rfl (v_bin rfl rfl b_add) ?_
      refine mv rfl rfl ?_
      refine b_nil (hK _ ?_)
      clear hK K
      exact to_le (s' := ⟨[(0, slE (encM (HV.int .u32)) a1.1), (1, slE (encM (HV.int .u32)) a1.2), (5, HV.ar 46019 v4 (encM (HV.int .u32)).k 0 ((a6.2.2).length)), (7, HV.int .i64 a6.2.1), (8, HV.int .u64 (IntKind.wrap .u64 ((IntKind.wrap .u64 ((IntKind.wrap .u64 x10) + a6.1)) + (IntKind.wrap .u64 x17)))), (21, HV.int .i64 ((a1.1).length : Int)), (22, HV.int .i64 a6.2.1)], [(46019, v4, .arr (encM (HV.int .u32)).k 79 ((encM (HV.int .u32)).E a6.2.2))]⟩) (AS.le_of ⟨rfl, rfl, rfl, rfl, rfl, rfl, rfl, trivial⟩ ⟨rfl, trivial⟩) ⟨IntKind.wrap .u64 ((IntKind.wrap .u64 ((IntKind.wrap .u64 x10) + a6.1)) + (IntKind.wrap .u64 x17)), (), h, rfl⟩
     ·have hc := of_decide_eq_false hc
      have h := ifF hc h
      refine AW.skip ?_
      exact to_le (s' := ⟨[(0, slE (encM (HV.int .u32)) a1.1), (1, slE (encM (HV.int .u32)) a1.2), (5, HV.ar 46019 v4 (encM (HV.int .u32)).k 0 ((a6.2.2).length)), (7, HV.int .i64 a6.2.1), (8, HV.int .u64 (IntKind.wrap .u64 ((IntKind.wrap .u64 x10) + a6.1))), (21, HV.int .i64 ((a1.1).length : Int)), (22, HV.int .i64 a6.2.1)], [(46019, v4, .arr (encM (HV.int .u32)).k 79 ((encM (HV.int .u32)).E a6.2.2))]⟩) (AS.le_of ⟨rfl, rfl, rfl, rfl, rfl, rfl, rfl, trivial⟩ ⟨rfl, trivial⟩) ⟨IntKind.wrap .u64 ((IntKind.wrap .u64 x10) + a6.1), (), h, rfl⟩
   ·have hc := of_decide_eq_false hc
    have h := ifF hc h
    refine AW.exit ?_
    exact to_le (s' := ⟨[(0, slE (encM (HV.int .u32)) a1.1), (5, HV.ar 46019 v4 (encM (HV.int .u32)).k 0 ((a6.2.2).length)), (6, HV.int .u64 a6.1)], [(46019, v4, .arr (encM (HV.int .u32)).k 79 ((encM (HV.int .u32)).E a6.2.2))]⟩) (AS.le_of ⟨rfl, rfl, rfl, trivial⟩ ⟨rfl, trivial⟩) ⟨(a6.2.2, a6.1), (), h, rfl⟩
 ·refine AW.cond rfl (fun hc => ?_) (fun hc => ?_)
  ·have hc := of_decide_eq_true hc
   have h := ifT hc h
   refine AW.rg rfl fun K hK => ?_
   refine mv rfl rfl ?_
   refine mv rfl rfl ?_
   refine mv rfl rfl ?_
   refine mv rfl rfl ?_
   refine b_nil (hK _ ?_)
   clear hK K
   exact to_le (s' := ⟨[(0, slE (encM (HV.int .u32)) p1), (1, slE (encM (HV.int .u32)) p0)], []⟩) (AS.le_of ⟨rfl, rfl, trivial⟩ trivial) ⟨(p1, p0), (), h, rfl⟩
  ·have hc := of_decide_eq_false hc
   have h := ifF hc h
   refine AW.skip ?_
   exact to_le (s' := ⟨[(0, slE (encM (HV.int .u32)) p0), (1, slE (encM (HV.int .u32)) p1)], []⟩) (AS.le_of ⟨rfl, rfl, trivial⟩ trivial) ⟨(p0, p1), (), h, rfl⟩

set_option maxHeartbeats 1600000 in
set_option maxRecDepth 100000 in
theorem w_integer_compare {p0 : List (Int)} {p1 : List (Int)} {r : Int} (h : m_integer_compare p0 p1 = some r) : Pure Tryz.prog 47 [slE (encM (HV.int .u32)) p0, slE (encM (HV.int .u32)) p1] (· = HV.int .i64 r) := by
 unfold m_integer_compare at h
 refine Pure.of_body Tryz.func47 rfl rfl (Nat.le_of_ble_eq_true rfl) fun hf => ?_
 unfold Tryz.f47
 dsimp only [enumS, Nat.reduceAdd]
 refine AW.rgs rfl fun K hK => ?_
 refine mv rfl rfl ?_
 refine b_fin hK (s' := ⟨[(0, slE (encM (HV.int .u32)) p0), (1, slE (encM (HV.int .u32)) p1)], []⟩) (le_q rfl rfl) ?_
 clear hK K
 refine AW.seq ?_
 refine AW.rgs rfl fun K hK => ?_
 refine mv rfl rfl ?_
 refine bv rfl (v_lenF rfl rfl ty82 rfl) ?_
 refine mv rfl rfl ?_
 refine bv rfl (v_lenF rfl rfl ty82 rfl) ?_
 refine bv rfl (v_bin rfl rfl b_neq) ?_
 refine b_fin hK (s' := ⟨[(0, slE (encM (HV.int .u32)) p0), (1, slE (encM (HV.int .u32)) p1), (10, HV.bool (decide (((p0).length : Int) ≠ ((p1).length : Int))))], []⟩) (le_q rfl rfl) ?_
 clear hK K
 refine AW.cond rfl (fun hc => ?_) (fun hc => ?_)
 ·have hc := of_decide_eq_true hc
  have h := ifT hc h
  refine AW.seq ?_
  refine AW.rgs rfl fun K hK => ?_
  refine mv rfl rfl ?_
  refine bv rfl (v_lenF rfl rfl ty82 rfl) ?_
  refine mv rfl rfl ?_
  refine bv rfl (v_lenF rfl rfl ty82 rfl) ?_
  refine bv rfl (v_bin rfl rfl b_lss) ?_
  refine b_fin hK (s' := ⟨[(15, HV.bool (decide (((p0).length : Int) < ((p1).length : Int))))], []⟩) (le_q rfl rfl) ?_
  clear hK K
  refine AW.cond rfl (fun hc => ?_) (fun hc => ?_)
  ·have hc := of_decide_eq_true hc
   have h := ifT hc h
   refine AW.rgs rfl fun K hK => ?_
   refine mv rfl rfl ?_
   refine b_fin hK (s' := ⟨[(4, HV.int .i64 (-1))], []⟩) (le_q rfl rfl) ?_
   clear hK K
   refine AW.ret ?_
   have h := Option.some.inj h
   subst h
   exact ret_pure (hs := [HV.int .i64 (-1)]) (q := HV.int .i64 (-1)) (.inr rfl) (resT rfl rfl) rfl trivial
  ·have hc := of_decide_eq_false hc
   have h := ifF hc h
   refine AW.skip ?_
   refine AW.rgs rfl fun K hK => ?_
   refine mv rfl rfl ?_
   refine b_fin hK (s' := ⟨[(4, HV.int .i64 1)], []⟩) (le_q rfl rfl) ?_
   clear hK K
   refine AW.ret ?_
   have h := Option.some.inj h
   subst h
   exact ret_pure (hs := [HV.int .i64 1]) (q := HV.int .i64 1) (.inr rfl) (resT rfl rfl) rfl trivial
 ·have hc := of_decide_eq_false hc
  have h := ifF hc h
  refine AW.skip ?_
  refine AW.seq ?_
  refine AW.rgs rfl fun K hK => ?_
  refine mv rfl rfl ?_
  refine bv rfl (v_lenF rfl rfl ty82 rfl) ?_
  refine bv rfl (v_bin rfl rfl b_sub) ?_
  refine mv rfl rfl ?_
  refine b_fin hK (s' := ⟨[(0, slE (encM (HV.int .u32)) p0), (1, slE (encM (HV.int .u32)) p1), (5, HV.int .i64 (IntKind.wrap .i64 (((p0).length : Int) - 1)))], []⟩) (le_q rfl rfl) ?_
  clear hK K
  refine AW.lpR h (by first | exact up_then | exact up_to) (S := Int) (V := Unit) (fun a v => ⟨[(0, slE (encM (HV.int .u32)) p0), (1, slE (encM (HV.int .u32)) p1), (5, HV.int .i64 a)], []⟩) ?_ (X := Unit) (W := Unit) (fun a v => ⟨[], []⟩) (fun a13 w14 h => ?_) (fun a1 w2 st3 h hr4=> ?_)
  ·exact to_le (s' := ⟨[(0, slE (encM (HV.int .u32)) p0), (1, slE (encM (HV.int .u32)) p1), (5, HV.int .i64 (IntKind.wrap .i64 (((p0).length : Int) - 1)))], []⟩) (AS.le_of ⟨rfl, rfl, rfl, trivial⟩ trivial) ⟨(), rfl⟩
  ·refine AW.rgs rfl fun K hK => ?_
   refine mv rfl rfl ?_
   refine b_fin hK (s' := ⟨[(4, HV.int .i64 0)], []⟩) (le_q rfl rfl) ?_
   clear hK K
   refine AW.ret ?_
   have h := Option.some.inj h
   subst h
   exact ret_pure (hs := [HV.int .i64 0]) (q := HV.int .i64 0) (.inr rfl) (resT rfl rfl) rfl trivial
  ·refine AW.seq ?_
   refine AW.rgs rfl fun K hK => ?_
   refine mv rfl rfl ?_
   refine bv rfl (v_bin rfl rfl b_geq) ?_
   refine b_fin hK (s' := ⟨[(0, slE (encM (HV.int .u32)) p0), (1, slE (encM (HV.int .u32)) p1), (5, HV.int .i64 a1), (20, HV.bool (decide (0 ≤ a1)))], []⟩) (le_q rfl rfl) ?_
   clear hK K
   refine AW.cond rfl (fun hc => ?_) (fun hc => ?_)
   ·have hc := of_decide_eq_true hc
    have h := ifT hc h
    refine AW.skip ?_
    refine AW.seq (AW.block ?_)
    refine AW.dgs 9 follows rfl rfl fun K hK => ?_
    refine sm rfl rfl ?_
    refine sm rfl rfl ?_
    obtain ⟨x5, h6, h⟩ := bS h
    refine sv rfl (v_idxF ty82 es82 rfl rfl (idx_lt h6)) ?_
    refine sv rfl (v_loadF ty79 rfl (l_cell (encM (HV.int .u32)) h6 (o := 0) rfl rfl)) ?_
    refine sm rfl rfl ?_
    refine sm rfl rfl ?_
    obtain ⟨x7, h8, h⟩ := bS h
    refine sv rfl (v_idxF ty82 es82 rfl rfl (idx_lt h8)) ?_
    refine sv rfl (v_loadF ty79 rfl (l_cell (encM (HV.int .u32)) h8 (o := 0) rfl rfl)) ?_
    refine sv rfl (v_bin rfl rfl b_neq) ?_
    refine s_nil ?_
    refine b_fin hK (s' := ⟨[(0, slE (encM (HV.int .u32)) p0), (1, slE (encM (HV.int .u32)) p1), (5, HV.int .i64 a1), (31, HV.bool (decide (x5 ≠ x7)))], []⟩) (le_q rfl rfl) ?_
    clear hK K
    refine AW.cond rfl (fun hc => ?_) (fun hc => ?_)
    ·have hc := of_decide_eq_true hc
     have h := ifT hc h
     refine AW.seq ?_
     refine AW.dgs 9 follows rfl rfl fun K hK => ?_
     refine sm rfl rfl ?_
     refine sm rfl rfl ?_
     obtain ⟨x9, h10, h⟩ := bS h
     refine sv rfl (v_idxF ty82 es82 rfl rfl (idx_lt h10)) ?_
     refine sv rfl (v_loadF ty79 rfl (l_cell (encM (HV.int .u32)) h10 (o := 0) rfl rfl)) ?_
     refine sm rfl rfl ?_
     refine sm rfl rfl ?_
     obtain ⟨x11, h12, h⟩ := bS h
     refine sv rfl (v_idxF ty82 es82 rfl rfl (idx_lt h12)) ?_
     refine sv rfl (v_loadF ty79 rfl (l_cell (encM (HV.int .u32)) h12 (o := 0) rfl rfl)) ?_
     refine sv rfl (v_bin rfl rfl b_lss) ?_
     refine s_nil ?_
     refine b_fin hK (s' := ⟨[(40, HV.bool (decide (x9 < x11)))], []⟩) (le_q rfl rfl) ?_
     clear hK K
     refine AW.cond rfl (fun hc => ?_) (fun hc => ?_)
     ·have hc := of_decide_eq_true hc
      have h := ifT hc h
      refine AW.rgs rfl fun K hK => ?_
      refine mv rfl rfl ?_
      refine b_fin hK (s' := ⟨[(4, HV.int .i64 (-1))], []⟩) (le_q rfl rfl) ?_
      clear hK K
      have h := hr4 _ h
      refine AW.ret ?_
      have h := Option.some.inj h
      subst h
      exact ret_pure (hs := [HV.int .i64 (-1)]) (q := HV.int .i64 (-1)) (.inr rfl) (resT rfl rfl) rfl trivial
     ·have hc := of_decide_eq_false hc
      have h := ifF hc h
      refine AW.skip ?_
      refine AW.rgs rfl fun K hK => ?_
      refine mv rfl rfl ?_
      refine b_fin hK (s' := ⟨[(4, HV.int .i64 1)], []⟩) (le_q rfl rfl) ?_
      clear hK K
      have h := hr4 _ h
      refine AW.ret ?_
      have h := Option.some.inj h
      subst h
      exact ret_pure (hs := [HV.int .i64 1]) (q := HV.int .i64 1) (.inr rfl) (resT rfl rfl) rfl trivial
    ·have hc := of_decide_eq_false hc
     have h := ifF hc h
     refine AW.skip ?_
     refine AW.rg rfl fun K hK => ?_
     refine mv rfl rfl ?_
     refine bv rfl (v_bin rfl rfl b_sub) ?_
     refine mv rfl rfl ?_
     refine b_nil (hK _ ?_)
     clear hK K
     exact to_le (s' := ⟨[(0, slE (encM (HV.int .u32)) p0), (1, slE (encM (HV.int .u32)) p1), (5, HV.int .i64 (IntKind.wrap .i64 (a1 - 1)))], []⟩) (AS.le_of ⟨rfl, rfl, rfl, trivial⟩ trivial) ⟨IntKind.wrap .i64 (a1 - 1), (), h, rfl⟩
   ·have hc := of_decide_eq_false hc
    have h := ifF hc h
    refine AW.exit ?_
    exact to_le (s' := ⟨[], []⟩) (AS.le_of trivial trivial) ⟨(), (), h, rfl⟩

end Go.AW

namespace Go.AW
open Go Go.Proofs
set_option linter.unusedVariables false
set_option maxHeartbeats 1600000 in
set_option maxRecDepth 100000 in
theorem w_integer_subtract {p0 : List (Int)} {p1 : List (Int)} {r : (List (Int))} (h : m_integer_subtract p0 p1 = some r) : Pure Tryz.prog 48 [slE (encM (HV.int .u32)) p0, slE (encM (HV.int .u32)) p1] (· = slE (encM (HV.int .u32)) r) := by
 unfold m_integer_subtract at h
 refine Pure.of_body Tryz.func48 rfl rfl (Nat.le_of_ble_eq_true rfl) fun hf => ?_
 unfold Tryz.f48
 dsimp only [enumS, Nat.reduceAdd]
 refine AW.rgs rfl fun K hK => ?_
 refine mv rfl rfl ?_
 refine b_fin hK (s' := ⟨[(0, slE (encM (HV.int .u32)) p0), (1, slE (encM (HV.int .u32)) p1)], []⟩) (le_q rfl rfl) ?_
 clear hK K
 refine AW.rgs rfl fun K hK => ?_
 refine mv rfl rfl ?_
 refine bv rfl (v_lenF rfl rfl ty82 rfl) ?_
 obtain ⟨h2, h⟩ := ifN h
 refine b_op rfl (o_makeE (fid := 48) (encM (HV.int .u32)) (0 : Int) 48011 rfl rfl ty82 rfl rfl ty79 rfl rfl h2 (fun v1 => ?_))
 refine mv rfl rfl ?_
 refine b_fin hK (s' := ⟨[(0, slE (encM (HV.int .u32)) p0), (1, slE (encM (HV.int .u32)) p1), (5, HV.ar 48011 v1 (encM (HV.int .u32)).k 0 ((List.replicate (((p0).length : Int)).toNat (0 : Int)).length))], [(48011, v1, .arr (encM (HV.int .u32)).k 79 ((encM (HV.int .u32)).E (List.replicate (((p0).length : Int)).toNat (0 : Int))))]⟩) (le_q rfl rfl) ?_
 clear hK K
 refine AW.rgs rfl fun K hK => ?_
 refine mv rfl rfl ?_
 refine b_fin hK (s' := ⟨[(0, slE (encM (HV.int .u32)) p0), (1, slE (encM (HV.int .u32)) p1), (5, HV.ar 48011 v1 (encM (HV.int .u32)).k 0 ((List.replicate (((p0).length : Int)).toNat (0 : Int)).length)), (6, HV.int .i64 0)], [(48011, v1, .arr (encM (HV.int .u32)).k 79 ((encM (HV.int .u32)).E (List.replicate (((p0).length : Int)).toNat (0 : Int))))]⟩) (le_q rfl rfl) ?_
 clear hK K
 refine AW.seq ?_
 refine AW.rgs rfl fun K hK => ?_
 refine mv rfl rfl ?_
 refine bv rfl (v_lenF rfl rfl ty82 rfl) ?_
 refine mv rfl rfl ?_
 refine b_fin hK (s' := ⟨[(0, slE (encM (HV.int .u32)) p0), (1, slE (encM (HV.int .u32)) p1), (5, HV.ar 48011 v1 (encM (HV.int .u32)).k 0 ((List.replicate (((p0).length : Int)).toNat (0 : Int)).length)), (6, HV.int .i64 0), (13, HV.int .i64 ((p0).length : Int)), (14, HV.int .i64 0)], [(48011, v1, .arr (encM (HV.int .u32)).k 79 ((encM (HV.int .u32)).E (List.replicate (((p0).length : Int)).toNat (0 : Int))))]⟩) (le_q rfl rfl) ?_
 clear hK K
 refine AW.lpX h (by first | exact up_then | exact up_to) (S := Int × Int × (List Int)) (V := Unit) (fun a v => ⟨[(0, slE (encM (HV.int .u32)) p0), (1, slE (encM (HV.int .u32)) p1), (5, HV.ar 48011 v1 (encM (HV.int .u32)).k 0 ((a.2.2).length)), (6, HV.int .i64 a.1), (13, HV.int .i64 ((p0).length : Int)), (14, HV.int .i64 a.2.1)], [(48011, v1, .arr (encM (HV.int .u32)).k 79 ((encM (HV.int .u32)).E a.2.2))]⟩) ?_ (X := (List Int)) (W := Unit) (fun a v => ⟨[(5, HV.ar 48011 v1 (encM (HV.int .u32)).k 0 ((a).length))], [(48011, v1, .arr (encM (HV.int .u32)).k 79 ((encM (HV.int .u32)).E a))]⟩) (fun a19 w20 h => ?_) (fun a3 w4 st5 h => ?_)
 ·exact to_le (s' := ⟨[(0, slE (encM (HV.int .u32)) p0), (1, slE (encM (HV.int .u32)) p1), (5, HV.ar 48011 v1 (encM (HV.int .u32)).k 0 ((List.replicate (((p0).length : Int)).toNat (0 : Int)).length)), (6, HV.int .i64 0), (13, HV.int .i64 ((p0).length : Int)), (14, HV.int .i64 0)], [(48011, v1, .arr (encM (HV.int .u32)).k 79 ((encM (HV.int .u32)).E (List.replicate (((p0).length : Int)).toNat (0 : Int))))]⟩) (AS.le_of ⟨rfl, rfl, rfl, rfl, rfl, rfl, trivial⟩ ⟨rfl, trivial⟩) ⟨(), rfl⟩
 ·refine AW.to (to_frz 2 [(48011, v1, .arr (encM (HV.int .u32)).k 79 ((encM (HV.int .u32)).E a19))] ⟨[(5, slE (encM (HV.int .u32)) a19)], []⟩ ⟨⟨_, rfl, frz_slE (encM (HV.int .u32)) (l := a19) rfl fun _ _ => rfl⟩, trivial⟩ trivial ⟨rfl, trivial⟩ ⟨rfl, trivial⟩ ?_)
  refine AW.rgs rfl fun K hK => ?_
  refine mv rfl rfl ?_
  obtain ⟨x21, h22, h⟩ := bS h
  refine b_op rfl (o_call rfl rfl rfl rfl (ACallD.pure0 (w_integer_trim h22)) ?_)
  refine mv rfl rfl ?_
  refine b_fin hK (s' := ⟨[(4, slE (encM (HV.int .u32)) x21)], []⟩) (le_q rfl rfl) ?_
  clear hK K
  refine AW.ret ?_
  have h := Option.some.inj h
  subst h
  exact ret_pure (hs := [slE (encM (HV.int .u32)) x21]) (q := slE (encM (HV.int .u32)) x21) (.inr rfl) (resT rfl rfl) rfl (clean_slE fun _ _ => ⟨trivial, trivial⟩)
 ·refine AW.rgs rfl fun K hK => ?_
  refine bv rfl (v_bin rfl rfl b_lss) ?_
  refine b_fin hK (s' := ⟨[(0, slE (encM (HV.int .u32)) p0), (1, slE (encM (HV.int .u32)) p1), (5, HV.ar 48011 v1 (encM (HV.int .u32)).k 0 ((a3.2.2).length)), (6, HV.int .i64 a3.1), (13, HV.int .i64 ((p0).length : Int)), (14, HV.int .i64 a3.2.1), (15, HV.bool (decide (a3.2.1 < ((p0).length : Int))))], [(48011, v1, .arr (encM (HV.int .u32)).k 79 ((encM (HV.int .u32)).E a3.2.2))]⟩) (le_q rfl rfl) ?_
  clear hK K
  refine AW.cseq rfl (fun hc => ?_) (fun hc => ?_)
  ·have hc := of_decide_eq_true hc
   have h := ifT hc h
   refine AW.skip ?_
   refine AW.seq (AW.block ?_)
   refine AW.rgs rfl fun K hK => ?_
   refine mv rfl rfl ?_
   refine mv rfl rfl ?_
   refine b_fin hK (s' := ⟨[(0, slE (encM (HV.int .u32)) p0), (1, slE (encM (HV.int .u32)) p1), (5, HV.ar 48011 v1 (encM (HV.int .u32)).k 0 ((a3.2.2).length)), (6, HV.int .i64 a3.1), (7, HV.int .i64 a3.2.1), (13, HV.int .i64 ((p0).length : Int)), (14, HV.int .i64 a3.2.1)], [(48011, v1, .arr (encM (HV.int .u32)).k 79 ((encM (HV.int .u32)).E a3.2.2))]⟩) (le_q rfl rfl) ?_
   clear hK K
   refine AW.rgs rfl fun K hK => ?_
   refine mv rfl rfl ?_
   refine mv rfl rfl ?_
   obtain ⟨x7, h8, h⟩ := bS h
   refine bv rfl (v_idxF ty82 es82 rfl rfl (idx_lt h8)) ?_
   refine bv rfl (v_loadF ty79 rfl (l_cell (encM (HV.int .u32)) h8 (o := 0) rfl rfl)) ?_
   refine bv rfl (v_convI ty79 ty2 rfl) ?_
   refine mv rfl rfl ?_
   refine bv rfl (v_bin rfl rfl b_sub) ?_
   refine mv rfl rfl ?_
   refine b_fin hK (s' := ⟨[(0, slE (encM (HV.int .u32)) p0), (1, slE (encM (HV.int .u32)) p1), (5, HV.ar 48011 v1 (encM (HV.int .u32)).k 0 ((a3.2.2).length)), (7, HV.int .i64 a3.2.1), (8, HV.int .i64 (IntKind.wrap .i64 ((IntKind.wrap .i64 x7) - a3.1))), (13, HV.int .i64 ((p0).length : Int)), (14, HV.int .i64 a3.2.1)], [(48011, v1, .arr (encM (HV.int .u32)).k 79 ((encM (HV.int .u32)).E a3.2.2))]⟩) (le_q rfl rfl) ?_
   clear hK K
   refine AW.seq ?_
   refine AW.rgs rfl fun K hK => ?_
   refine mv rfl rfl ?_
   refine mv rfl rfl ?_
   refine bv rfl (v_lenF rfl rfl ty82 rfl) ?_
   refine bv rfl (v_bin rfl rfl b_lss) ?_
   refine b_fin hK (s' := ⟨[(0, slE (encM (HV.int .u32)) p0), (1, slE (encM (HV.int .u32)) p1), (5, HV.ar 48011 v1 (encM (HV.int .u32)).k 0 ((a3.2.2).length)), (7, HV.int .i64 a3.2.1), (8, HV.int .i64 (IntKind.wrap .i64 ((IntKind.wrap .i64 x7) - a3.1))), (13, HV.int .i64 ((p0).length : Int)), (14, HV.int .i64 a3.2.1), (27, HV.bool (decide (a3.2.1 < ((p1).length : Int))))], [(48011, v1, .arr (encM (HV.int .u32)).k 79 ((encM (HV.int .u32)).E a3.2.2))]⟩) (le_q rfl rfl) ?_
   clear hK K
   refine AW.lastJ h (by first | exact up_then | exact up_to) (S := Int) (V := Unit) (fun a v => ⟨[(0, slE (encM (HV.int .u32)) p0), (1, slE (encM (HV.int .u32)) p1), (5, HV.ar 48011 v1 (encM (HV.int .u32)).k 0 ((a3.2.2).length)), (7, HV.int .i64 a3.2.1), (8, HV.int .i64 a), (13, HV.int .i64 ((p0).length : Int)), (14, HV.int .i64 a3.2.1)], [(48011, v1, .arr (encM (HV.int .u32)).k 79 ((encM (HV.int .u32)).E a3.2.2))]⟩) (fun a9 w10 h => ?_) (fun k11 h => ?_)
   ·refine AW.rgs rfl fun K hK => ?_
    refine mv rfl rfl ?_
    refine b_fin hK (s' := ⟨[(0, slE (encM (HV.int .u32)) p0), (1, slE (encM (HV.int .u32)) p1), (5, HV.ar 48011 v1 (encM (HV.int .u32)).k 0 ((a3.2.2).length)), (6, HV.int .i64 0), (7, HV.int .i64 a3.2.1), (8, HV.int .i64 a9), (13, HV.int .i64 ((p0).length : Int)), (14, HV.int .i64 a3.2.1)], [(48011, v1, .arr (encM (HV.int .u32)).k 79 ((encM (HV.int .u32)).E a3.2.2))]⟩) (le_q rfl rfl) ?_
    clear hK K
    refine AW.seq ?_
    refine AW.rgs rfl fun K hK => ?_
    refine mv rfl rfl ?_
    refine bv rfl (v_bin rfl rfl b_lss) ?_
    refine b_fin hK (s' := ⟨[(0, slE (encM (HV.int .u32)) p0), (1, slE (encM (HV.int .u32)) p1), (5, HV.ar 48011 v1 (encM (HV.int .u32)).k 0 ((a3.2.2).length)), (6, HV.int .i64 0), (7, HV.int .i64 a3.2.1), (8, HV.int .i64 a9), (13, HV.int .i64 ((p0).length : Int)), (14, HV.int .i64 a3.2.1), (36, HV.bool (decide (a9 < 0)))], [(48011, v1, .arr (encM (HV.int .u32)).k 79 ((encM (HV.int .u32)).E a3.2.2))]⟩) (le_q rfl rfl) ?_
    clear hK K
    refine AW.lastJ h (by first | exact up_then | exact up_to) (S := Int × Int) (V := Unit) (fun a v => ⟨[(0, slE (encM (HV.int .u32)) p0), (1, slE (encM (HV.int .u32)) p1), (5, HV.ar 48011 v1 (encM (HV.int .u32)).k 0 ((a3.2.2).length)), (6, HV.int .i64 a.1), (7, HV.int .i64 a3.2.1), (8, HV.int .i64 a.2), (13, HV.int .i64 ((p0).length : Int)), (14, HV.int .i64 a3.2.1)], [(48011, v1, .arr (encM (HV.int .u32)).k 79 ((encM (HV.int .u32)).E a3.2.2))]⟩) (fun a12 w13 h => ?_) (fun k14 h => ?_)
    ·refine AW.rg rfl fun K hK => ?_
     refine mv rfl rfl ?_
     refine mv rfl rfl ?_
     refine mv rfl rfl ?_
     refine bv rfl (v_convI ty2 ty79 rfl) ?_
     obtain ⟨x15, h16, h⟩ := bS h
     refine bv rfl (v_idxA ty82 es82 rfl rfl (idx_lt h16) rfl) ?_
     refine b_op rfl (o_storeE (encM (HV.int .u32)) (l := a3.2.2) (j := a3.2.1) (v := IntKind.wrap .u32 a12.2) rfl rfl rfl ty79 rfl rfl rfl (idx_lt h16) ?_)
     refine b_fin hK (s' := ⟨[(0, slE (encM (HV.int .u32)) p0), (1, slE (encM (HV.int .u32)) p1), (5, HV.ar 48011 v1 (encM (HV.int .u32)).k 0 (((a3.2.2).set (a3.2.1).toNat (IntKind.wrap .u32 a12.2)).length)), (6, HV.int .i64 a12.1), (13, HV.int .i64 ((p0).length : Int)), (14, HV.int .i64 a3.2.1)], [(48011, v1, .arr (encM (HV.int .u32)).k 79 ((encM (HV.int .u32)).E ((a3.2.2).set (a3.2.1).toNat (IntKind.wrap .u32 a12.2))))]⟩) (AS.le_of ⟨rfl, rfl, arl (by first | rfl | simp only [List.length_set, sortI_len, sortS_len]), rfl, rfl, rfl, trivial⟩ ⟨rfl, trivial⟩) ?_
     clear hK K
     refine AW.rg rfl fun K hK => ?_
     refine bv rfl (v_bin rfl rfl b_add) ?_
     refine mv rfl rfl ?_
     refine b_nil (hK _ ?_)
     clear hK K
     exact to_le (s' := ⟨[(0, slE (encM (HV.int .u32)) p0), (1, slE (encM (HV.int .u32)) p1), (5, HV.ar 48011 v1 (encM (HV.int .u32)).k 0 (((a3.2.2).set (a3.2.1).toNat (IntKind.wrap .u32 a12.2)).length)), (6, HV.int .i64 a12.1), (13, HV.int .i64 ((p0).length : Int)), (14, HV.int .i64 (IntKind.wrap .i64 (a3.2.1 + 1)))], [(48011, v1, .arr (encM (HV.int .u32)).k 79 ((encM (HV.int .u32)).E ((a3.2.2).set (a3.2.1).toNat (IntKind.wrap .u32 a12.2))))]⟩) (AS.le_of ⟨rfl, rfl, rfl, rfl, rfl, rfl, trivial⟩ ⟨rfl, trivial⟩) ⟨(a12.1, IntKind.wrap .i64 (a3.2.1 + 1), (a3.2.2).set (a3.2.1).toNat (IntKind.wrap .u32 a12.2)), (), h, rfl⟩
    ·refine AW.cond rfl (fun hc => ?_) (fun hc => ?_)
     ·have hc := of_decide_eq_true hc
      have h := ifT hc h
      refine AW.rgs rfl fun K hK => ?_
      refine mv rfl rfl ?_
      refine bv rfl (v_bin rfl rfl b_add) ?_
      refine mv rfl rfl ?_
      refine b_fin hK (s' := ⟨[(0, slE (encM (HV.int .u32)) p0), (1, slE (encM (HV.int .u32)) p1), (5, HV.ar 48011 v1 (encM (HV.int .u32)).k 0 ((a3.2.2).length)), (7, HV.int .i64 a3.2.1), (8, HV.int .i64 (IntKind.wrap .i64 (a9 + 4294967296))), (13, HV.int .i64 ((p0).length : Int)), (14, HV.int .i64 a3.2.1)], [(48011, v1, .arr (encM (HV.int .u32)).k 79 ((encM (HV.int .u32)).E a3.2.2))]⟩) (le_q rfl rfl) ?_
      clear hK K
      refine AW.rg rfl fun K hK => ?_
      refine mv rfl rfl ?_
      refine b_nil (hK _ ?_)
      clear hK K
      exact to_le (s' := ⟨[(0, slE (encM (HV.int .u32)) p0), (1, slE (encM (HV.int .u32)) p1), (5, HV.ar 48011 v1 (encM (HV.int .u32)).k 0 ((a3.2.2).length)), (6, HV.int .i64 1), (7, HV.int .i64 a3.2.1), (8, HV.int .i64 (IntKind.wrap .i64 (a9 + 4294967296))), (13, HV.int .i64 ((p0).length : Int)), (14, HV.int .i64 a3.2.1)], [(48011, v1, .arr (encM (HV.int .u32)).k 79 ((encM (HV.int .u32)).E a3.2.2))]⟩) (AS.le_of ⟨rfl, rfl, rfl, rfl, rfl, rfl, rfl, rfl, trivial⟩ ⟨rfl, trivial⟩) ⟨(1, IntKind.wrap .i64 (a9 + 4294967296)), (), h, rfl⟩
     ·have hc := of_decide_eq_false hc
      have h := ifF hc h
      refine AW.skip ?_
      exact to_le (s' := ⟨[(0, slE (encM (HV.int .u32)) p0), (1, slE (encM (HV.int .u32)) p1), (5, HV.ar 48011 v1 (encM (HV.int .u32)).k 0 ((a3.2.2).length)), (6, HV.int .i64 0), (7, HV.int .i64 a3.2.1), (8, HV.int .i64 a9), (13, HV.int .i64 ((p0).length : Int)), (14, HV.int .i64 a3.2.1)], [(48011, v1, .arr (encM (HV.int .u32)).k 79 ((encM (HV.int .u32)).E a3.2.2))]⟩) (AS.le_of ⟨rfl, rfl, rfl, rfl, rfl, rfl, rfl, rfl, trivial⟩ ⟨rfl, trivial⟩) ⟨(0, a9), (), h, rfl⟩
   ·refine AW.cond rfl (fun hc => ?_) (fun hc => ?_)
    ·have hc := of_decide_eq_true hc
     have h := ifT hc h
     refine AW.rg rfl fun K hK => ?_
     refine mv rfl rfl ?_
     refine mv rfl rfl ?_
     refine mv rfl rfl ?_
     obtain ⟨x17, h18, h⟩ := bS h
     refine bv rfl (v_idxF ty82 es82 rfl rfl (idx_lt h18)) ?_
     refine bv rfl (v_loadF ty79 rfl (l_cell (encM (HV.int .u32)) h18 (o := 0) rfl rfl)) ?_
     refine bv rfl (v_convI ty79 ty2 rfl) ?_
     refine bv rfl (v_bin rfl rfl b_sub) ?_
     refine mv rfl rfl ?_
     refine b_nil (hK _ ?_)
     clear hK K
     exact to_le (s' := ⟨[(0, slE (encM (HV.int .u32)) p0), (1, slE (encM (HV.int .u32)) p1), (5, HV.ar 48011 v1 (encM (HV.int .u32)).k 0 ((a3.2.2).length)), (7, HV.int .i64 a3.2.1), (8, HV.int .i64 (IntKind.wrap .i64 ((IntKind.wrap .i64 ((IntKind.wrap .i64 x7) - a3.1)) - (IntKind.wrap .i64 x17)))), (13, HV.int .i64 ((p0).length : Int)), (14, HV.int .i64 a3.2.1)], [(48011, v1, .arr (encM (HV.int .u32)).k 79 ((encM (HV.int .u32)).E a3.2.2))]⟩) (AS.le_of ⟨rfl, rfl, rfl, rfl, rfl, rfl, rfl, trivial⟩ ⟨rfl, trivial⟩) ⟨IntKind.wrap .i64 ((IntKind.wrap .i64 ((IntKind.wrap .i64 x7) - a3.1)) - (IntKind.wrap .i64 x17)), (), h, rfl⟩
    ·have hc := of_decide_eq_false hc
     have h := ifF hc h
     refine AW.skip ?_
     exact to_le (s' := ⟨[(0, slE (encM (HV.int .u32)) p0), (1, slE (encM (HV.int .u32)) p1), (5, HV.ar 48011 v1 (encM (HV.int .u32)).k 0 ((a3.2.2).length)), (7, HV.int .i64 a3.2.1), (8, HV.int .i64 (IntKind.wrap .i64 ((IntKind.wrap .i64 x7) - a3.1))), (13, HV.int .i64 ((p0).length : Int)), (14, HV.int .i64 a3.2.1)], [(48011, v1, .arr (encM (HV.int .u32)).k 79 ((encM (HV.int .u32)).E a3.2.2))]⟩) (AS.le_of ⟨rfl, rfl, rfl, rfl, rfl, rfl, rfl, trivial⟩ ⟨rfl, trivial⟩) ⟨IntKind.wrap .i64 ((IntKind.wrap .i64 x7) - a3.1), (), h, rfl⟩
  ·have hc := of_decide_eq_false hc
   have h := ifF hc h
   refine AW.exit ?_
   exact to_le (s' := ⟨[(5, HV.ar 48011 v1 (encM (HV.int .u32)).k 0 ((a3.2.2).length))], [(48011, v1, .arr (encM (HV.int .u32)).k 79 ((encM (HV.int .u32)).E a3.2.2))]⟩) (AS.le_of ⟨rfl, trivial⟩ ⟨rfl, trivial⟩) ⟨a3.2.2, (), h, rfl⟩

set_option maxHeartbeats 1600000 in
set_option maxRecDepth 100000 in
theorem w_integer_Add {p0 : TNegMag} {p1 : TNegMag} {r : TNegMag} (h : m_integer_Add p0 p1 = some r) : Pure Tryz.prog 27 [HV.agg [HV.bool p0.1, HV.str p0.2], HV.agg [HV.bool p1.1, HV.str p1.2]] (· = HV.agg [HV.bool r.1, HV.str r.2]) := by
 unfold m_integer_Add at h
 refine Pure.of_body Tryz.func27 rfl rfl (Nat.le_of_ble_eq_true rfl) fun hf => ?_
 unfold Tryz.f27
 dsimp only [enumS, Nat.reduceAdd]
 refine AW.rgs rfl fun K hK => ?_
 refine b_op rfl (o_box rfl rfl rfl ?_)
 refine b_op rfl (o_box rfl rfl rfl ?_)
 refine b_op rfl (o_alloc (fid := 27) (zs := [HV.bool false, HV.str ([] : List UInt8)]) 27004 rfl rfl ty32 rfl (fun v1 => ?_))
 refine b_fin hK (s' := ⟨[(2, HV.fptr [HV.bool p0.1, HV.str p0.2] 0), (3, HV.fptr [HV.bool p1.1, HV.str p1.2] 0), (4, HV.ptr 27004 v1 0)], [(27004, v1, .arr 2 32 [HV.bool false, HV.str ([] : List UInt8)])]⟩) (le_q rfl rfl) ?_
 clear hK K
 refine AW.dgs 6 follows rfl rfl fun K hK => ?_
 refine sv rfl (v_loadF ty32 rfl (l_litA rfl (Nat.le_of_ble_eq_true rfl) rfl)) ?_
 obtain ⟨x2, h3, h⟩ := bS h
 refine s_op rfl rfl (ops_call rfl rfl rfl rfl (ACallD.pure0 (w_integer_digits h3)) ?_)
 refine sv rfl (v_loadF ty32 rfl (l_litA rfl (Nat.le_of_ble_eq_true rfl) rfl)) ?_
 obtain ⟨x4, h5, h⟩ := bS h
 refine s_op rfl rfl (ops_call rfl rfl rfl rfl (ACallD.pure0 (w_integer_digits h5)) ?_)
 refine sm rfl rfl ?_
 refine sm rfl rfl ?_
 refine s_nil ?_
 refine b_fin hK (s' := ⟨[(2, HV.fptr [HV.bool p0.1, HV.str p0.2] 0), (3, HV.fptr [HV.bool p1.1, HV.str p1.2] 0), (4, HV.ptr 27004 v1 0), (5, slE (encM (HV.int .u32)) x2), (6, slE (encM (HV.int .u32)) x4)], [(27004, v1, .arr 2 32 [HV.bool false, HV.str ([] : List UInt8)])]⟩) (le_q rfl rfl) ?_
 clear hK K
 refine AW.seq ?_
 refine AW.rgs rfl fun K hK => ?_
 refine bv rfl (v_fieldAddrF fo32_0 rfl) ?_
 refine bv rfl (v_loadF ty4 rfl (l_lit rfl rfl)) ?_
 refine bv rfl (v_fieldAddrF fo32_0 rfl) ?_
 refine bv rfl (v_loadF ty4 rfl (l_lit rfl rfl)) ?_
 refine bv rfl (v_bin rfl rfl (b_eqB ty4)) ?_
 refine b_fin hK (s' := ⟨[(2, HV.fptr [HV.bool p0.1, HV.str p0.2] 0), (3, HV.fptr [HV.bool p1.1, HV.str p1.2] 0), (4, HV.ptr 27004 v1 0), (5, slE (encM (HV.int .u32)) x2), (6, slE (encM (HV.int .u32)) x4), (15, HV.bool (p0.1 == p1.1))], [(27004, v1, .arr 2 32 [HV.bool false, HV.str ([] : List UInt8)])]⟩) (le_q rfl rfl) ?_
 clear hK K
 refine AW.cond rfl (fun hc => ?_) (fun hc => ?_)
 ·have h := ifT hc h
  refine AW.dgs 6 follows rfl rfl fun K hK => ?_
  refine sv rfl (v_fieldAddrF fo32_0 rfl) ?_
  refine sv rfl (v_loadF ty4 rfl (l_lit rfl rfl)) ?_
  refine sm rfl rfl ?_
  refine sm rfl rfl ?_
  obtain ⟨x6, h7, h⟩ := bS h
  refine s_op rfl rfl (ops_call rfl rfl rfl rfl (ACallD.pure0 (w_integer_add h7)) ?_)
  obtain ⟨x8, h9, h⟩ := bS h
  refine s_op rfl rfl (ops_call rfl rfl rfl rfl (ACallD.pure0 (w_integer_number h9)) ?_)
  refine s_nil ?_
  refine b_op rfl (o_store (cs := [HV.bool x8.1, HV.str x8.2]) (zs := [HV.bool x8.1, HV.str x8.2]) rfl rfl rfl ty32 rfl rfl rfl rfl rfl ?_)
  refine b_fin hK (s' := ⟨[(4, HV.ptr 27004 v1 0)], [(27004, v1, .arr 2 32 [HV.bool x8.1, HV.str x8.2])]⟩) (le_q rfl rfl) ?_
  clear hK K
  refine AW.ret ?_
  have h := Option.some.inj h
  subst h
  exact ret_pure (hs := [HV.agg [HV.bool x8.1, HV.str x8.2]]) (q := HV.agg [HV.bool x8.1, HV.str x8.2]) (.inr rfl) (resP ty32 rfl rfl (l_litA rfl (Nat.le_of_ble_eq_true rfl) rfl) rfl) rfl ⟨trivial, trivial, trivial⟩
 ·have h := ifF (bF' hc) h
  refine AW.skip ?_
  refine AW.seq ?_
  refine AW.rgs rfl fun K hK => ?_
  refine mv rfl rfl ?_
  refine mv rfl rfl ?_
  obtain ⟨x10, h11, h⟩ := bS h
  refine b_op rfl (o_call rfl rfl rfl rfl (ACallD.pure0 (w_integer_compare h11)) ?_)
  refine bv rfl (v_bin rfl rfl b_lss) ?_
  refine b_fin hK (s' := ⟨[(2, HV.fptr [HV.bool p0.1, HV.str p0.2] 0), (3, HV.fptr [HV.bool p1.1, HV.str p1.2] 0), (4, HV.ptr 27004 v1 0), (5, slE (encM (HV.int .u32)) x2), (6, slE (encM (HV.int .u32)) x4), (25, HV.bool (decide (x10 < 0)))], [(27004, v1, .arr 2 32 [HV.bool false, HV.str ([] : List UInt8)])]⟩) (le_q rfl rfl) ?_
  clear hK K
  refine AW.cond rfl (fun hc => ?_) (fun hc => ?_)
  ·have hc := of_decide_eq_true hc
   have h := ifT hc h
   refine AW.dgs 6 follows rfl rfl fun K hK => ?_
   refine sv rfl (v_fieldAddrF fo32_0 rfl) ?_
   refine sv rfl (v_loadF ty4 rfl (l_lit rfl rfl)) ?_
   refine sm rfl rfl ?_
   refine sm rfl rfl ?_
   obtain ⟨x12, h13, h⟩ := bS h
   refine s_op rfl rfl (ops_call rfl rfl rfl rfl (ACallD.pure0 (w_integer_subtract h13)) ?_)
   obtain ⟨x14, h15, h⟩ := bS h
   refine s_op rfl rfl (ops_call rfl rfl rfl rfl (ACallD.pure0 (w_integer_number h15)) ?_)
   refine s_nil ?_
   refine b_op rfl (o_store (cs := [HV.bool x14.1, HV.str x14.2]) (zs := [HV.bool x14.1, HV.str x14.2]) rfl rfl rfl ty32 rfl rfl rfl rfl rfl ?_)
   refine b_fin hK (s' := ⟨[(4, HV.ptr 27004 v1 0)], [(27004, v1, .arr 2 32 [HV.bool x14.1, HV.str x14.2])]⟩) (le_q rfl rfl) ?_
   clear hK K
   refine AW.ret ?_
   have h := Option.some.inj h
   subst h
   exact ret_pure (hs := [HV.agg [HV.bool x14.1, HV.str x14.2]]) (q := HV.agg [HV.bool x14.1, HV.str x14.2]) (.inr rfl) (resP ty32 rfl rfl (l_litA rfl (Nat.le_of_ble_eq_true rfl) rfl) rfl) rfl ⟨trivial, trivial, trivial⟩
  ·have hc := of_decide_eq_false hc
   have h := ifF hc h
   refine AW.skip ?_
   refine AW.dgs 6 follows rfl rfl fun K hK => ?_
   refine sv rfl (v_fieldAddrF fo32_0 rfl) ?_
   refine sv rfl (v_loadF ty4 rfl (l_lit rfl rfl)) ?_
   refine sm rfl rfl ?_
   refine sm rfl rfl ?_
   obtain ⟨x16, h17, h⟩ := bS h
   refine s_op rfl rfl (ops_call rfl rfl rfl rfl (ACallD.pure0 (w_integer_subtract h17)) ?_)
   obtain ⟨x18, h19, h⟩ := bS h
   refine s_op rfl rfl (ops_call rfl rfl rfl rfl (ACallD.pure0 (w_integer_number h19)) ?_)
   refine s_nil ?_
   refine b_op rfl (o_store (cs := [HV.bool x18.1, HV.str x18.2]) (zs := [HV.bool x18.1, HV.str x18.2]) rfl rfl rfl ty32 rfl rfl rfl rfl rfl ?_)
   refine b_fin hK (s' := ⟨[(4, HV.ptr 27004 v1 0)], [(27004, v1, .arr 2 32 [HV.bool x18.1, HV.str x18.2])]⟩) (le_q rfl rfl) ?_
   clear hK K
   refine AW.ret ?_
   have h := Option.some.inj h
   subst h
   exact ret_pure (hs := [HV.agg [HV.bool x18.1, HV.str x18.2]]) (q := HV.agg [HV.bool x18.1, HV.str x18.2]) (.inr rfl) (resP ty32 rfl rfl (l_litA rfl (Nat.le_of_ble_eq_true rfl) rfl) rfl) rfl ⟨trivial, trivial, trivial⟩

set_option maxHeartbeats 1600000 in
set_option maxRecDepth 100000 in
theorem w_subset_Count {p0 : TLabelsStatesEdges} {p1 : Int} {r : TNegMag × Int} (h : m_subset_Count p0 p1 = some r) : Pure Tryz.prog 9 [HV.agg [HV.int .i64 p0.1, HV.int .i64 p0.2.1, slE eFromLabelTo p0.2.2], HV.int .i64 p1] (· = HV.tup [HV.agg [HV.bool r.1.1, HV.str r.1.2], HV.int .i64 r.2]) := by
 unfold m_subset_Count at h
 refine Pure.of_body Tryz.func9 rfl rfl (Nat.le_of_ble_eq_true rfl) fun hf => ?_
 unfold Tryz.f9
 dsimp only [enumS, Nat.reduceAdd]
 refine AW.rgs rfl fun K hK => ?_
 refine b_op rfl (o_box rfl rfl rfl ?_)
 refine b_op rfl (o_alloc (fid := 9) (zs := [HV.bool false, HV.str ([] : List UInt8)]) 9004 rfl rfl ty32 rfl (fun v1 => ?_))
 refine mv rfl rfl ?_
 refine b_fin hK (s' := ⟨[(1, HV.int .i64 p1), (2, HV.fptr [HV.int .i64 p0.1, HV.int .i64 p0.2.1, slE eFromLabelTo p0.2.2] 0), (4, HV.ptr 9004 v1 0)], [(9004, v1, .arr 2 32 [HV.bool false, HV.str ([] : List UInt8)])]⟩) (le_q rfl rfl) ?_
 clear hK K
 refine AW.seq (AW.block ?_)
 refine AW.rgs rfl fun K hK => ?_
 refine bv rfl (v_loadF ty24 rfl (l_litA rfl (Nat.le_of_ble_eq_true rfl) rfl)) ?_
 obtain ⟨x2, h3, h⟩ := bS h
 refine b_op rfl (o_call rfl rfl rfl rfl (ACallD.pure0 (w_graph_Check h3)) ?_)
 refine bv rfl (v_bin rfl rfl b_neq) ?_
 refine mv rfl rfl ?_
 refine b_fin hK (s' := ⟨[(1, HV.int .i64 p1), (2, HV.fptr [HV.int .i64 p0.1, HV.int .i64 p0.2.1, slE eFromLabelTo p0.2.2] 0), (4, HV.ptr 9004 v1 0), (16, HV.bool (decide (x2 ≠ 0)))], [(9004, v1, .arr 2 32 [HV.bool false, HV.str ([] : List UInt8)])]⟩) (le_q rfl rfl) ?_
 clear hK K
 refine AW.cond rfl (fun hc => ?_) (fun hc => ?_)
 ·have hc := of_decide_eq_true hc
  have h := ifT hc h
  refine AW.rgs rfl fun K hK => ?_
  refine b_op rfl (o_build (cs := [HV.bool false, HV.str ([] : List UInt8)]) rfl (bl_of ty32 rfl rfl rfl rfl) ?_)
  refine b_op rfl (o_store (cs := [HV.bool false, HV.str ([] : List UInt8)]) (zs := [HV.bool false, HV.str ([] : List UInt8)]) rfl rfl rfl ty32 rfl rfl rfl rfl rfl ?_)
  refine mv rfl rfl ?_
  refine b_fin hK (s' := ⟨[(4, HV.ptr 9004 v1 0), (5, HV.int .i64 1)], [(9004, v1, .arr 2 32 [HV.bool false, HV.str ([] : List UInt8)])]⟩) (le_q rfl rfl) ?_
  clear hK K
  refine AW.ret ?_
  have h := Option.some.inj h
  subst h
  exact ret_pure (hs := [HV.agg [HV.bool false, HV.str ([] : List UInt8)], HV.int .i64 1]) (q := HV.tup [HV.agg [HV.bool false, HV.str ([] : List UInt8)], HV.int .i64 1]) (.inr rfl) (resP ty32 rfl rfl (l_litA rfl (Nat.le_of_ble_eq_true rfl) rfl) (resT rfl rfl)) rfl ⟨⟨trivial, trivial, trivial⟩, trivial, trivial⟩
 ·have hc := of_decide_eq_false hc
  have h := ifF hc h
  refine AW.seqJ h (S := Bool) (V := Unit) (fun a v => ⟨[(1, HV.int .i64 p1), (2, HV.fptr [HV.int .i64 p0.1, HV.int .i64 p0.2.1, slE eFromLabelTo p0.2.2] 0), (4, HV.ptr 9004 v1 0), (21, HV.bool a)], [(9004, v1, .arr 2 32 [HV.bool false, HV.str ([] : List UInt8)])]⟩) (fun a4 w5 h => ?_) (fun k6 h => ?_)
  ·refine AW.cond rfl (fun hc => ?_) (fun hc => ?_)
   ·have h := ifT hc h
    refine AW.rgs rfl fun K hK => ?_
    refine b_op rfl (o_build (cs := [HV.bool false, HV.str ([] : List UInt8)]) rfl (bl_of ty32 rfl rfl rfl rfl) ?_)
    refine b_op rfl (o_store (cs := [HV.bool false, HV.str ([] : List UInt8)]) (zs := [HV.bool false, HV.str ([] : List UInt8)]) rfl rfl rfl ty32 rfl rfl rfl rfl rfl ?_)
    refine mv rfl rfl ?_
    refine b_fin hK (s' := ⟨[(4, HV.ptr 9004 v1 0), (5, HV.int .i64 2)], [(9004, v1, .arr 2 32 [HV.bool false, HV.str ([] : List UInt8)])]⟩) (le_q rfl rfl) ?_
    clear hK K
    refine AW.ret ?_
    have h := Option.some.inj h
    subst h
    exact ret_pure (hs := [HV.agg [HV.bool false, HV.str ([] : List UInt8)], HV.int .i64 2]) (q := HV.tup [HV.agg [HV.bool false, HV.str ([] : List UInt8)], HV.int .i64 2]) (.inr rfl) (resP ty32 rfl rfl (l_litA rfl (Nat.le_of_ble_eq_true rfl) rfl) (resT rfl rfl)) rfl ⟨⟨trivial, trivial, trivial⟩, trivial, trivial⟩
   ·have h := ifF (bF' hc) h
    refine AW.skip ?_
    refine AW.rgs rfl fun K hK => ?_
    refine bv rfl (v_loadF ty24 rfl (l_litA rfl (Nat.le_of_ble_eq_true rfl) rfl)) ?_
    obtain ⟨x7, h8, h⟩ := bS h
    refine b_op rfl (o_call rfl rfl rfl rfl (ACallD.pure0 (w_subset_Build h8)) ?_)
    refine mv rfl rfl ?_
    refine bv rfl (v_extract rfl rfl) ?_
    refine bv rfl (v_extract rfl rfl) ?_
    refine bv rfl (v_extract rfl rfl) ?_
    refine b_op rfl (o_alloc (fid := 9) (zs := [HV.int .i64 0, HV.int .i64 0, HV.v (.slice none 0 0)]) 9006 rfl rfl ty24 rfl (fun v9 => ?_))
    refine b_op rfl (o_store (cs := [HV.int .i64 x7.1.1, HV.int .i64 x7.1.2.1, slE eFromLabelTo x7.1.2.2]) (zs := [HV.int .i64 x7.1.1, HV.int .i64 x7.1.2.1, slE eFromLabelTo x7.1.2.2]) rfl rfl rfl ty24 rfl rfl rfl rfl rfl ?_)
    refine mv rfl rfl ?_
    refine mv rfl rfl ?_
    refine b_fin hK (s' := ⟨[(1, HV.int .i64 p1), (4, HV.ptr 9004 v1 0), (6, HV.ptr 9006 v9 0), (8, HV.int .i64 x7.2.2)], [(9004, v1, .arr 2 32 [HV.bool false, HV.str ([] : List UInt8)]), (9006, v9, .arr 3 24 [HV.int .i64 x7.1.1, HV.int .i64 x7.1.2.1, slE eFromLabelTo x7.1.2.2])]⟩) (le_q rfl rfl) ?_
    clear hK K
    refine AW.seq ?_
    refine AW.seqJ h (S := Bool) (V := Unit) (fun a v => ⟨[(1, HV.int .i64 p1), (4, HV.ptr 9004 v1 0), (6, HV.ptr 9006 v9 0), (8, HV.int .i64 x7.2.2), (41, HV.bool a)], [(9004, v1, .arr 2 32 [HV.bool false, HV.str ([] : List UInt8)]), (9006, v9, .arr 3 24 [HV.int .i64 x7.1.1, HV.int .i64 x7.1.2.1, slE eFromLabelTo x7.1.2.2])]⟩) (fun a10 w11 h => ?_) (fun k12 h => ?_)
    ·refine AW.cond rfl (fun hc => ?_) (fun hc => ?_)
     ·have h := ifT hc h
      refine AW.rgs rfl fun K hK => ?_
      refine b_op rfl (o_build (cs := [HV.bool false, HV.str ([] : List UInt8)]) rfl (bl_of ty32 rfl rfl rfl rfl) ?_)
      refine mv rfl rfl ?_
      refine b_op rfl (o_store (cs := [HV.bool false, HV.str ([] : List UInt8)]) (zs := [HV.bool false, HV.str ([] : List UInt8)]) rfl rfl rfl ty32 rfl rfl rfl rfl rfl ?_)
      refine mv rfl rfl ?_
      refine b_fin hK (s' := ⟨[(4, HV.ptr 9004 v1 0), (5, HV.int .i64 x7.2.2)], [(9004, v1, .arr 2 32 [HV.bool false, HV.str ([] : List UInt8)])]⟩) (le_q rfl rfl) ?_
      clear hK K
      refine AW.ret ?_
      have h := Option.some.inj h
      subst h
      exact ret_pure (hs := [HV.agg [HV.bool false, HV.str ([] : List UInt8)], HV.int .i64 x7.2.2]) (q := HV.tup [HV.agg [HV.bool false, HV.str ([] : List UInt8)], HV.int .i64 x7.2.2]) (.inr rfl) (resP ty32 rfl rfl (l_litA rfl (Nat.le_of_ble_eq_true rfl) rfl) (resT rfl rfl)) rfl ⟨⟨trivial, trivial, trivial⟩, trivial, trivial⟩
     ·have h := ifF (bF' hc) h
      refine AW.skip ?_
      refine AW.rgs rfl fun K hK => ?_
      refine bv rfl (v_fieldAddrP fo24_1 rfl rfl) ?_
      refine bv rfl (v_loadP ty3 rfl rfl (l_lit rfl rfl)) ?_
      obtain ⟨h14, h⟩ := ifN h
      refine b_op rfl (o_makeE (fid := 9) eNegMag ((false, ([] : List UInt8)) : TNegMag) 9046 rfl rfl ty59 rfl rfl ty32 rfl rfl h14 (fun v13 => ?_))
      refine mv rfl rfl ?_
      refine b_fin hK (s' := ⟨[(1, HV.int .i64 p1), (4, HV.ptr 9004 v1 0), (6, HV.ptr 9006 v9 0), (9, HV.ar 9046 v13 eNegMag.k 0 ((List.replicate (x7.1.2.1).toNat ((false, ([] : List UInt8)) : TNegMag)).length))], [(9004, v1, .arr 2 32 [HV.bool false, HV.str ([] : List UInt8)]), (9006, v9, .arr 3 24 [HV.int .i64 x7.1.1, HV.int .i64 x7.1.2.1, slE eFromLabelTo x7.1.2.2]), (9046, v13, .arr eNegMag.k 32 (eNegMag.E (List.replicate (x7.1.2.1).toNat ((false, ([] : List UInt8)) : TNegMag))))]⟩) (le_q rfl rfl) ?_
      clear hK K
      refine AW.rgs rfl fun K hK => ?_
      refine mv rfl rfl ?_
      obtain ⟨x15, h16, h⟩ := bS h
      refine b_op rfl (o_call rfl rfl rfl rfl (ACallD.pure0 (w_integer_Of h16)) ?_)
      obtain ⟨x17, h18, h⟩ := bS h
      refine bv rfl (v_idxA ty59 es59 rfl rfl (idx_lt h18) rfl) ?_
      refine b_op rfl (o_storeE eNegMag (l := (List.replicate (x7.1.2.1).toNat ((false, ([] : List UInt8)) : TNegMag))) (j := (0 : Int)) (v := x15) rfl rfl rfl ty32 rfl rfl rfl (idx_lt h18) ?_)
      refine b_fin hK (s' := ⟨[(1, HV.int .i64 p1), (4, HV.ptr 9004 v1 0), (6, HV.ptr 9006 v9 0), (9, HV.ar 9046 v13 eNegMag.k 0 (((List.replicate (x7.1.2.1).toNat ((false, ([] : List UInt8)) : TNegMag)).set (0 : Int).toNat x15).length))], [(9004, v1, .arr 2 32 [HV.bool false, HV.str ([] : List UInt8)]), (9006, v9, .arr 3 24 [HV.int .i64 x7.1.1, HV.int .i64 x7.1.2.1, slE eFromLabelTo x7.1.2.2]), (9046, v13, .arr eNegMag.k 32 (eNegMag.E ((List.replicate (x7.1.2.1).toNat ((false, ([] : List UInt8)) : TNegMag)).set (0 : Int).toNat x15)))]⟩) (AS.le_of ⟨rfl, rfl, rfl, arl (by first | rfl | simp only [List.length_set, sortI_len, sortS_len]), trivial⟩ ⟨rfl, rfl, rfl, trivial⟩) ?_
      clear hK K
      refine AW.seq ?_
      refine AW.rgs rfl fun K hK => ?_
      refine mv rfl rfl ?_
      refine mv rfl rfl ?_
      refine b_fin hK (s' := ⟨[(4, HV.ptr 9004 v1 0), (6, HV.ptr 9006 v9 0), (9, HV.ar 9046 v13 eNegMag.k 0 (((List.replicate (x7.1.2.1).toNat ((false, ([] : List UInt8)) : TNegMag)).set (0 : Int).toNat x15).length)), (50, HV.int .i64 p1), (51, HV.int .i64 0)], [(9004, v1, .arr 2 32 [HV.bool false, HV.str ([] : List UInt8)]), (9006, v9, .arr 3 24 [HV.int .i64 x7.1.1, HV.int .i64 x7.1.2.1, slE eFromLabelTo x7.1.2.2]), (9046, v13, .arr eNegMag.k 32 (eNegMag.E ((List.replicate (x7.1.2.1).toNat ((false, ([] : List UInt8)) : TNegMag)).set (0 : Int).toNat x15)))]⟩) (le_q rfl rfl) ?_
      clear hK K
      refine AW.lpX h (by first | exact up_then | exact up_to) (S := (List TNegMag) × Int) (V := Unit) (fun a v => ⟨[(4, HV.ptr 9004 v1 0), (6, HV.ptr 9006 v9 0), (9, slE eNegMag a.1), (50, HV.int .i64 p1), (51, HV.int .i64 a.2)], [(9004, v1, .arr 2 32 [HV.bool false, HV.str ([] : List UInt8)]), (9006, v9, .arr 3 24 [HV.int .i64 x7.1.1, HV.int .i64 x7.1.2.1, slE eFromLabelTo x7.1.2.2])]⟩) ?_ (X := (List TNegMag)) (W := Unit) (fun a v => ⟨[(4, HV.ptr 9004 v1 0), (9, slE eNegMag a)], [(9004, v1, .arr 2 32 [HV.bool false, HV.str ([] : List UInt8)])]⟩) (fun a44 w45 h => ?_) (fun a19 w20 st21 h => ?_)
      ·refine to_bind (to_frz 2 [(9046, v13, .arr eNegMag.k 32 (eNegMag.E ((List.replicate (x7.1.2.1).toNat ((false, ([] : List UInt8)) : TNegMag)).set (0 : Int).toNat x15)))] ⟨[(4, HV.ptr 9004 v1 0), (6, HV.ptr 9006 v9 0), (9, slE eNegMag ((List.replicate (x7.1.2.1).toNat ((false, ([] : List UInt8)) : TNegMag)).set (0 : Int).toNat x15)), (50, HV.int .i64 p1), (51, HV.int .i64 0)], [(9004, v1, .arr 2 32 [HV.bool false, HV.str ([] : List UInt8)]), (9006, v9, .arr 3 24 [HV.int .i64 x7.1.1, HV.int .i64 x7.1.2.1, slE eFromLabelTo x7.1.2.2])]⟩ ⟨⟨_, rfl, rfl⟩, ⟨_, rfl, rfl⟩, ⟨_, rfl, frz_slE eNegMag (l := (List.replicate (x7.1.2.1).toNat ((false, ([] : List UInt8)) : TNegMag)).set (0 : Int).toNat x15) rfl fun _ _ => rfl⟩, ⟨_, rfl, rfl⟩, ⟨_, rfl, rfl⟩, trivial⟩ ⟨rfl, rfl, trivial⟩ ⟨rfl, trivial⟩ ⟨rfl, trivial⟩ ?_)
       exact to_le (s' := ⟨[(4, HV.ptr 9004 v1 0), (6, HV.ptr 9006 v9 0), (9, slE eNegMag ((List.replicate (x7.1.2.1).toNat ((false, ([] : List UInt8)) : TNegMag)).set (0 : Int).toNat x15)), (50, HV.int .i64 p1), (51, HV.int .i64 0)], [(9004, v1, .arr 2 32 [HV.bool false, HV.str ([] : List UInt8)]), (9006, v9, .arr 3 24 [HV.int .i64 x7.1.1, HV.int .i64 x7.1.2.1, slE eFromLabelTo x7.1.2.2])]⟩) (AS.le_of ⟨rfl, rfl, rfl, rfl, rfl, trivial⟩ ⟨rfl, rfl, trivial⟩) ⟨(), rfl⟩
      ·refine AW.rgs rfl fun K hK => ?_
       refine b_op rfl (o_alloc (fid := 9) (zs := [HV.bool false, HV.str ([] : List UInt8)]) 9013 rfl rfl ty32 rfl (fun v46 => ?_))
       refine b_fin hK (s' := ⟨[(4, HV.ptr 9004 v1 0), (9, slE eNegMag a44), (13, HV.ptr 9013 v46 0)], [(9004, v1, .arr 2 32 [HV.bool false, HV.str ([] : List UInt8)]), (9013, v46, .arr 2 32 [HV.bool false, HV.str ([] : List UInt8)])]⟩) (le_q rfl rfl) ?_
       clear hK K
       refine AW.seq ?_
       refine AW.rgs rfl fun K hK => ?_
       refine mv rfl rfl ?_
       refine bv rfl (v_lenF rfl rfl ty59 rfl) ?_
       refine mv rfl rfl ?_
       refine b_fin hK (s' := ⟨[(4, HV.ptr 9004 v1 0), (13, HV.ptr 9013 v46 0), (81, slE eNegMag a44), (82, HV.int .i64 ((a44).length : Int)), (83, HV.int .i64 0)], [(9004, v1, .arr 2 32 [HV.bool false, HV.str ([] : List UInt8)]), (9013, v46, .arr 2 32 [HV.bool false, HV.str ([] : List UInt8)])]⟩) (le_q rfl rfl) ?_
       clear hK K
       refine AW.lpX h (by first | exact up_then | exact up_to) (S := Int × Bool × (List UInt8)) (V := Unit) (fun a v => ⟨[(4, HV.ptr 9004 v1 0), (13, HV.ptr 9013 v46 0), (81, slE eNegMag a44), (82, HV.int .i64 ((a44).length : Int)), (83, HV.int .i64 a.1)], [(9004, v1, .arr 2 32 [HV.bool false, HV.str ([] : List UInt8)]), (9013, v46, .arr 2 32 [HV.bool a.2.1, HV.str a.2.2])]⟩) ?_ (X := Bool × (List UInt8)) (W := Unit) (fun a v => ⟨[(4, HV.ptr 9004 v1 0), (13, HV.ptr 9013 v46 0)], [(9004, v1, .arr 2 32 [HV.bool false, HV.str ([] : List UInt8)]), (9013, v46, .arr 2 32 [HV.bool a.1, HV.str a.2])]⟩) (fun a56 w57 h => ?_) (fun a47 w48 st49 h => ?_)
       ·exact to_le (s' := ⟨[(4, HV.ptr 9004 v1 0), (13, HV.ptr 9013 v46 0), (81, slE eNegMag a44), (82, HV.int .i64 ((a44).length : Int)), (83, HV.int .i64 0)], [(9004, v1, .arr 2 32 [HV.bool false, HV.str ([] : List UInt8)]), (9013, v46, .arr 2 32 [HV.bool false, HV.str ([] : List UInt8)])]⟩) (AS.le_of ⟨rfl, rfl, rfl, rfl, rfl, trivial⟩ ⟨rfl, rfl, trivial⟩) ⟨(), rfl⟩
       ·refine AW.rgs rfl fun K hK => ?_
        refine bv rfl (v_loadP ty32 rfl rfl (l_litA rfl (Nat.le_of_ble_eq_true rfl) rfl)) ?_
        refine b_op rfl (o_store (cs := [HV.bool a56.1, HV.str a56.2]) (zs := [HV.bool a56.1, HV.str a56.2]) rfl rfl rfl ty32 rfl rfl rfl rfl rfl ?_)
        refine mv rfl rfl ?_
        refine b_fin hK (s' := ⟨[(4, HV.ptr 9004 v1 0), (5, HV.int .i64 0)], [(9004, v1, .arr 2 32 [HV.bool a56.1, HV.str a56.2])]⟩) (le_q rfl rfl) ?_
        clear hK K
        refine AW.ret ?_
        have h := Option.some.inj h
        subst h
        exact ret_pure (hs := [HV.agg [HV.bool a56.1, HV.str a56.2], HV.int .i64 0]) (q := HV.tup [HV.agg [HV.bool a56.1, HV.str a56.2], HV.int .i64 0]) (.inr rfl) (resP ty32 rfl rfl (l_litA rfl (Nat.le_of_ble_eq_true rfl) rfl) (resT rfl rfl)) rfl ⟨⟨trivial, trivial, trivial⟩, trivial, trivial⟩
       ·refine AW.rgs rfl fun K hK => ?_
        refine bv rfl (v_bin rfl rfl b_lss) ?_
        refine b_fin hK (s' := ⟨[(4, HV.ptr 9004 v1 0), (13, HV.ptr 9013 v46 0), (81, slE eNegMag a44), (82, HV.int .i64 ((a44).length : Int)), (83, HV.int .i64 a47.1), (84, HV.bool (decide (a47.1 < ((a44).length : Int))))], [(9004, v1, .arr 2 32 [HV.bool false, HV.str ([] : List UInt8)]), (9013, v46, .arr 2 32 [HV.bool a47.2.1, HV.str a47.2.2])]⟩) (le_q rfl rfl) ?_
        clear hK K
        refine AW.cseq rfl (fun hc => ?_) (fun hc => ?_)
        ·have hc := of_decide_eq_true hc
         have h := ifT hc h
         refine AW.skip ?_
         refine AW.seq (AW.block ?_)
         refine AW.rgs rfl fun K hK => ?_
         obtain ⟨x51, h52, h⟩ := bS h
         refine bv rfl (v_idxF ty59 es59 rfl rfl (idx_lt h52)) ?_
         refine bv rfl (v_loadF ty32 rfl (l_agg eNegMag h52 rfl rfl)) ?_
         refine b_op rfl (o_alloc (fid := 9) (zs := [HV.bool false, HV.str ([] : List UInt8)]) 9015 rfl rfl ty32 rfl (fun v53 => ?_))
         refine b_op rfl (o_store (cs := [HV.bool x51.1, HV.str x51.2]) (zs := [HV.bool x51.1, HV.str x51.2]) rfl rfl rfl ty32 rfl rfl rfl rfl rfl ?_)
         refine b_fin hK (s' := ⟨[(4, HV.ptr 9004 v1 0), (13, HV.ptr 9013 v46 0), (15, HV.ptr 9015 v53 0), (81, slE eNegMag a44), (82, HV.int .i64 ((a44).length : Int)), (83, HV.int .i64 a47.1)], [(9004, v1, .arr 2 32 [HV.bool false, HV.str ([] : List UInt8)]), (9013, v46, .arr 2 32 [HV.bool a47.2.1, HV.str a47.2.2]), (9015, v53, .arr 2 32 [HV.bool x51.1, HV.str x51.2])]⟩) (le_q rfl rfl) ?_
         clear hK K
         refine AW.rg rfl fun K hK => ?_
         refine bv rfl (v_loadP ty32 rfl rfl (l_litA rfl (Nat.le_of_ble_eq_true rfl) rfl)) ?_
         refine bv rfl (v_loadP ty32 rfl rfl (l_litA rfl (Nat.le_of_ble_eq_true rfl) rfl)) ?_
         obtain ⟨x54, h55, h⟩ := bS h
         refine b_op rfl (o_call rfl rfl rfl rfl (ACallD.pure0 (w_integer_Add h55)) ?_)
         refine b_op rfl (o_store (cs := [HV.bool x54.1, HV.str x54.2]) (zs := [HV.bool x54.1, HV.str x54.2]) rfl rfl rfl ty32 rfl rfl rfl rfl rfl ?_)
         refine b_fin hK (s' := ⟨[(4, HV.ptr 9004 v1 0), (13, HV.ptr 9013 v46 0), (81, slE eNegMag a44), (82, HV.int .i64 ((a44).length : Int)), (83, HV.int .i64 a47.1)], [(9004, v1, .arr 2 32 [HV.bool false, HV.str ([] : List UInt8)]), (9013, v46, .arr 2 32 [HV.bool x54.1, HV.str x54.2])]⟩) (le_q rfl rfl) ?_
         clear hK K
         refine AW.rg rfl fun K hK => ?_
         refine bv rfl (v_bin rfl rfl b_add) ?_
         refine mv rfl rfl ?_
         refine b_nil (hK _ ?_)
         clear hK K
         exact to_le (s' := ⟨[(4, HV.ptr 9004 v1 0), (13, HV.ptr 9013 v46 0), (81, slE eNegMag a44), (82, HV.int .i64 ((a44).length : Int)), (83, HV.int .i64 (IntKind.wrap .i64 (a47.1 + 1)))], [(9004, v1, .arr 2 32 [HV.bool false, HV.str ([] : List UInt8)]), (9013, v46, .arr 2 32 [HV.bool x54.1, HV.str x54.2])]⟩) (AS.le_of ⟨rfl, rfl, rfl, rfl, rfl, trivial⟩ ⟨rfl, rfl, trivial⟩) ⟨(IntKind.wrap .i64 (a47.1 + 1), x54.1, x54.2), (), h, rfl⟩
        ·have hc := of_decide_eq_false hc
         have h := ifF hc h
         refine AW.exit ?_
         exact to_le (s' := ⟨[(4, HV.ptr 9004 v1 0), (13, HV.ptr 9013 v46 0)], [(9004, v1, .arr 2 32 [HV.bool false, HV.str ([] : List UInt8)]), (9013, v46, .arr 2 32 [HV.bool a47.2.1, HV.str a47.2.2])]⟩) (AS.le_of ⟨rfl, rfl, trivial⟩ ⟨rfl, rfl, trivial⟩) ⟨(a47.2.1, a47.2.2), (), h, rfl⟩
      ·refine AW.rgs rfl fun K hK => ?_
       refine bv rfl (v_bin rfl rfl b_lss) ?_
       refine b_fin hK (s' := ⟨[(4, HV.ptr 9004 v1 0), (6, HV.ptr 9006 v9 0), (9, slE eNegMag a19.1), (50, HV.int .i64 p1), (51, HV.int .i64 a19.2), (52, HV.bool (decide (a19.2 < p1)))], [(9004, v1, .arr 2 32 [HV.bool false, HV.str ([] : List UInt8)]), (9006, v9, .arr 3 24 [HV.int .i64 x7.1.1, HV.int .i64 x7.1.2.1, slE eFromLabelTo x7.1.2.2])]⟩) (le_q rfl rfl) ?_
       clear hK K
       refine AW.cseq rfl (fun hc => ?_) (fun hc => ?_)
       ·have hc := of_decide_eq_true hc
        have h := ifT hc h
        refine AW.skip ?_
        refine AW.seq (AW.block ?_)
        refine AW.rgs rfl fun K hK => ?_
        refine bv rfl (v_fieldAddrP fo24_1 rfl rfl) ?_
        refine bv rfl (v_loadP ty3 rfl rfl (l_lit rfl rfl)) ?_
        obtain ⟨h24, h⟩ := ifN h
        refine b_op rfl (o_makeE (fid := 9) eNegMag ((false, ([] : List UInt8)) : TNegMag) 9055 rfl rfl ty59 rfl rfl ty32 rfl rfl h24 (fun v23 => ?_))
        refine mv rfl rfl ?_
        refine b_fin hK (s' := ⟨[(4, HV.ptr 9004 v1 0), (6, HV.ptr 9006 v9 0), (9, slE eNegMag a19.1), (10, HV.ar 9055 v23 eNegMag.k 0 ((List.replicate (x7.1.2.1).toNat ((false, ([] : List UInt8)) : TNegMag)).length)), (50, HV.int .i64 p1), (51, HV.int .i64 a19.2)], [(9004, v1, .arr 2 32 [HV.bool false, HV.str ([] : List UInt8)]), (9006, v9, .arr 3 24 [HV.int .i64 x7.1.1, HV.int .i64 x7.1.2.1, slE eFromLabelTo x7.1.2.2]), (9055, v23, .arr eNegMag.k 32 (eNegMag.E (List.replicate (x7.1.2.1).toNat ((false, ([] : List UInt8)) : TNegMag))))]⟩) (le_q rfl rfl) ?_
        clear hK K
        refine AW.seq ?_
        refine AW.rgs rfl fun K hK => ?_
        refine bv rfl (v_fieldAddrP fo24_2 rfl rfl) ?_
        refine bv rfl (v_loadP ty22 rfl rfl (l_lit rfl rfl)) ?_
        refine bv rfl (v_lenF rfl rfl ty22 rfl) ?_
        refine mv rfl rfl ?_
        refine b_fin hK (s' := ⟨[(4, HV.ptr 9004 v1 0), (6, HV.ptr 9006 v9 0), (9, slE eNegMag a19.1), (10, HV.ar 9055 v23 eNegMag.k 0 ((List.replicate (x7.1.2.1).toNat ((false, ([] : List UInt8)) : TNegMag)).length)), (50, HV.int .i64 p1), (51, HV.int .i64 a19.2), (57, slE eFromLabelTo x7.1.2.2), (58, HV.int .i64 ((x7.1.2.2).length : Int)), (59, HV.int .i64 0)], [(9004, v1, .arr 2 32 [HV.bool false, HV.str ([] : List UInt8)]), (9006, v9, .arr 3 24 [HV.int .i64 x7.1.1, HV.int .i64 x7.1.2.1, slE eFromLabelTo x7.1.2.2]), (9055, v23, .arr eNegMag.k 32 (eNegMag.E (List.replicate (x7.1.2.1).toNat ((false, ([] : List UInt8)) : TNegMag))))]⟩) (le_q rfl rfl) ?_
        clear hK K
        refine AW.lpX h (by first | exact up_then | exact up_to) (S := Int × (List TNegMag)) (V := Unit) (fun a v => ⟨[(4, HV.ptr 9004 v1 0), (6, HV.ptr 9006 v9 0), (9, slE eNegMag a19.1), (10, HV.ar 9055 v23 eNegMag.k 0 ((a.2).length)), (50, HV.int .i64 p1), (51, HV.int .i64 a19.2), (57, slE eFromLabelTo x7.1.2.2), (58, HV.int .i64 ((x7.1.2.2).length : Int)), (59, HV.int .i64 a.1)], [(9004, v1, .arr 2 32 [HV.bool false, HV.str ([] : List UInt8)]), (9006, v9, .arr 3 24 [HV.int .i64 x7.1.1, HV.int .i64 x7.1.2.1, slE eFromLabelTo x7.1.2.2]), (9055, v23, .arr eNegMag.k 32 (eNegMag.E a.2))]⟩) ?_ (X := (List TNegMag)) (W := Unit) (fun a v => ⟨[(4, HV.ptr 9004 v1 0), (6, HV.ptr 9006 v9 0), (10, HV.ar 9055 v23 eNegMag.k 0 ((a).length)), (50, HV.int .i64 p1), (51, HV.int .i64 a19.2)], [(9004, v1, .arr 2 32 [HV.bool false, HV.str ([] : List UInt8)]), (9006, v9, .arr 3 24 [HV.int .i64 x7.1.1, HV.int .i64 x7.1.2.1, slE eFromLabelTo x7.1.2.2]), (9055, v23, .arr eNegMag.k 32 (eNegMag.E a))]⟩) (fun a42 w43 h => ?_) (fun a25 w26 st27 h => ?_)
        ·exact to_le (s' := ⟨[(4, HV.ptr 9004 v1 0), (6, HV.ptr 9006 v9 0), (9, slE eNegMag a19.1), (10, HV.ar 9055 v23 eNegMag.k 0 ((List.replicate (x7.1.2.1).toNat ((false, ([] : List UInt8)) : TNegMag)).length)), (50, HV.int .i64 p1), (51, HV.int .i64 a19.2), (57, slE eFromLabelTo x7.1.2.2), (58, HV.int .i64 ((x7.1.2.2).length : Int)), (59, HV.int .i64 0)], [(9004, v1, .arr 2 32 [HV.bool false, HV.str ([] : List UInt8)]), (9006, v9, .arr 3 24 [HV.int .i64 x7.1.1, HV.int .i64 x7.1.2.1, slE eFromLabelTo x7.1.2.2]), (9055, v23, .arr eNegMag.k 32 (eNegMag.E (List.replicate (x7.1.2.1).toNat ((false, ([] : List UInt8)) : TNegMag))))]⟩) (AS.le_of ⟨rfl, rfl, rfl, rfl, rfl, rfl, rfl, rfl, rfl, trivial⟩ ⟨rfl, rfl, rfl, trivial⟩) ⟨(), rfl⟩
        ·refine AW.rg rfl fun K hK => ?_
         refine mv rfl rfl ?_
         refine mv rfl rfl ?_
         refine b_fin hK (s' := ⟨[(4, HV.ptr 9004 v1 0), (6, HV.ptr 9006 v9 0), (9, HV.ar 9055 v23 eNegMag.k 0 ((a42).length)), (50, HV.int .i64 p1), (51, HV.int .i64 a19.2)], [(9004, v1, .arr 2 32 [HV.bool false, HV.str ([] : List UInt8)]), (9006, v9, .arr 3 24 [HV.int .i64 x7.1.1, HV.int .i64 x7.1.2.1, slE eFromLabelTo x7.1.2.2]), (9055, v23, .arr eNegMag.k 32 (eNegMag.E a42))]⟩) (le_q rfl rfl) ?_
         clear hK K
         refine AW.rg rfl fun K hK => ?_
         refine bv rfl (v_bin rfl rfl b_add) ?_
         refine mv rfl rfl ?_
         refine b_nil (hK _ ?_)
         clear hK K
         refine to_bind (to_frz 2 [(9055, v23, .arr eNegMag.k 32 (eNegMag.E a42))] ⟨[(4, HV.ptr 9004 v1 0), (6, HV.ptr 9006 v9 0), (9, slE eNegMag a42), (50, HV.int .i64 p1), (51, HV.int .i64 (IntKind.wrap .i64 (a19.2 + 1)))], [(9004, v1, .arr 2 32 [HV.bool false, HV.str ([] : List UInt8)]), (9006, v9, .arr 3 24 [HV.int .i64 x7.1.1, HV.int .i64 x7.1.2.1, slE eFromLabelTo x7.1.2.2])]⟩ ⟨⟨_, rfl, rfl⟩, ⟨_, rfl, rfl⟩, ⟨_, rfl, frz_slE eNegMag (l := a42) rfl fun _ _ => rfl⟩, ⟨_, rfl, rfl⟩, ⟨_, rfl, rfl⟩, trivial⟩ ⟨rfl, rfl, trivial⟩ ⟨rfl, trivial⟩ ⟨rfl, trivial⟩ ?_)
         exact to_le (s' := ⟨[(4, HV.ptr 9004 v1 0), (6, HV.ptr 9006 v9 0), (9, slE eNegMag a42), (50, HV.int .i64 p1), (51, HV.int .i64 (IntKind.wrap .i64 (a19.2 + 1)))], [(9004, v1, .arr 2 32 [HV.bool false, HV.str ([] : List UInt8)]), (9006, v9, .arr 3 24 [HV.int .i64 x7.1.1, HV.int .i64 x7.1.2.1, slE eFromLabelTo x7.1.2.2])]⟩) (AS.le_of ⟨rfl, rfl, rfl, rfl, rfl, trivial⟩ ⟨rfl, rfl, trivial⟩) ⟨(a42, IntKind.wrap .i64 (a19.2 + 1)), (), h, rfl⟩
        ·refine AW.rgs rfl fun K hK => ?_
         refine bv rfl (v_bin rfl rfl b_lss) ?_
         refine b_fin hK (s' := ⟨[(4, HV.ptr 9004 v1 0), (6, HV.ptr 9006 v9 0), (9, slE eNegMag a19.1), (10, HV.ar 9055 v23 eNegMag.k 0 ((a25.2).length)), (50, HV.int .i64 p1), (51, HV.int .i64 a19.2), (57, slE eFromLabelTo x7.1.2.2), (58, HV.int .i64 ((x7.1.2.2).length : Int)), (59, HV.int .i64 a25.1), (60, HV.bool (decide (a25.1 < ((x7.1.2.2).length : Int))))], [(9004, v1, .arr 2 32 [HV.bool false, HV.str ([] : List UInt8)]), (9006, v9, .arr 3 24 [HV.int .i64 x7.1.1, HV.int .i64 x7.1.2.1, slE eFromLabelTo x7.1.2.2]), (9055, v23, .arr eNegMag.k 32 (eNegMag.E a25.2))]⟩) (le_q rfl rfl) ?_
         clear hK K
         refine AW.cseq rfl (fun hc => ?_) (fun hc => ?_)
         ·have hc := of_decide_eq_true hc
          have h := ifT hc h
          refine AW.skip ?_
          refine AW.seq (AW.block ?_)
          refine AW.rgs rfl fun K hK => ?_
          obtain ⟨x29, h30, h⟩ := bS h
          refine bv rfl (v_idxF ty22 es22 rfl rfl (idx_lt h30)) ?_
          refine bv rfl (v_loadF ty56 rfl (l_agg eFromLabelTo h30 rfl rfl)) ?_
          refine b_op rfl (o_alloc (fid := 9) (zs := [HV.int .i64 0, HV.int .i64 0, HV.int .i64 0]) 9012 rfl rfl ty56 rfl (fun v31 => ?_))
          refine b_op rfl (o_store (cs := [HV.int .i64 x29.1, HV.int .i64 x29.2.1, HV.int .i64 x29.2.2]) (zs := [HV.int .i64 x29.1, HV.int .i64 x29.2.1, HV.int .i64 x29.2.2]) rfl rfl rfl ty56 rfl rfl rfl rfl rfl ?_)
          refine b_fin hK (s' := ⟨[(4, HV.ptr 9004 v1 0), (6, HV.ptr 9006 v9 0), (9, slE eNegMag a19.1), (10, HV.ar 9055 v23 eNegMag.k 0 ((a25.2).length)), (12, HV.ptr 9012 v31 0), (50, HV.int .i64 p1), (51, HV.int .i64 a19.2), (57, slE eFromLabelTo x7.1.2.2), (58, HV.int .i64 ((x7.1.2.2).length : Int)), (59, HV.int .i64 a25.1)], [(9004, v1, .arr 2 32 [HV.bool false, HV.str ([] : List UInt8)]), (9006, v9, .arr 3 24 [HV.int .i64 x7.1.1, HV.int .i64 x7.1.2.1, slE eFromLabelTo x7.1.2.2]), (9055, v23, .arr eNegMag.k 32 (eNegMag.E a25.2)), (9012, v31, .arr 3 56 [HV.int .i64 x29.1, HV.int .i64 x29.2.1, HV.int .i64 x29.2.2])]⟩) (le_q rfl rfl) ?_
          clear hK K
          refine AW.dg 15 follows rfl rfl fun K hK => ?_
          refine sm rfl rfl ?_
          refine sv rfl (v_fieldAddrP fo56_2 rfl rfl) ?_
          refine sv rfl (v_loadP ty3 rfl rfl (l_lit rfl rfl)) ?_
          refine sm rfl rfl ?_
          refine sv rfl (v_fieldAddrP fo56_2 rfl rfl) ?_
          refine sv rfl (v_loadP ty3 rfl rfl (l_lit rfl rfl)) ?_
          obtain ⟨x32, h33, h⟩ := bS h
          refine sv rfl (v_idxA ty59 es59 rfl rfl (idx_lt h33) rfl) ?_
          obtain ⟨x34, h35, h⟩ := bS h
          refine sv rfl (v_loadP ty32 rfl rfl (l_agg eNegMag h35 rfl rfl)) ?_
          refine sm rfl rfl ?_
          refine sv rfl (v_fieldAddrP fo56_0 rfl rfl) ?_
          refine sv rfl (v_loadP ty3 rfl rfl (l_lit rfl rfl)) ?_
          obtain ⟨x36, h37, h⟩ := bS h
          refine sv rfl (v_idxF ty59 es59 rfl rfl (idx_lt h37)) ?_
          refine sv rfl (v_loadF ty32 rfl (l_agg eNegMag h37 rfl rfl)) ?_
          obtain ⟨x38, h39, h⟩ := bS h
          refine s_op rfl rfl (ops_call rfl rfl rfl rfl (ACallD.pure0 (w_integer_Add h39)) ?_)
          obtain ⟨x40, h41, h⟩ := bS h
          refine sv rfl (v_idxA ty59 es59 rfl rfl (idx_lt h41) rfl) ?_
          refine s_nil ?_
          refine b_op rfl (o_storeE eNegMag (l := a25.2) (j := x29.2.2) (v := x38) rfl rfl rfl ty32 rfl rfl rfl (idx_lt h41) ?_)
          refine b_fin hK (s' := ⟨[(4, HV.ptr 9004 v1 0), (6, HV.ptr 9006 v9 0), (9, slE eNegMag a19.1), (10, HV.ar 9055 v23 eNegMag.k 0 (((a25.2).set (x29.2.2).toNat x38).length)), (50, HV.int .i64 p1), (51, HV.int .i64 a19.2), (57, slE eFromLabelTo x7.1.2.2), (58, HV.int .i64 ((x7.1.2.2).length : Int)), (59, HV.int .i64 a25.1)], [(9004, v1, .arr 2 32 [HV.bool false, HV.str ([] : List UInt8)]), (9006, v9, .arr 3 24 [HV.int .i64 x7.1.1, HV.int .i64 x7.1.2.1, slE eFromLabelTo x7.1.2.2]), (9055, v23, .arr eNegMag.k 32 (eNegMag.E ((a25.2).set (x29.2.2).toNat x38)))]⟩) (AS.le_of ⟨rfl, rfl, rfl, arl (by first | rfl | simp only [List.length_set, sortI_len, sortS_len]), rfl, rfl, rfl, rfl, rfl, trivial⟩ ⟨rfl, rfl, rfl, trivial⟩) ?_
          clear hK K
          refine AW.rg rfl fun K hK => ?_
          refine bv rfl (v_bin rfl rfl b_add) ?_
          refine mv rfl rfl ?_
          refine b_nil (hK _ ?_)
          clear hK K
          exact to_le (s' := ⟨[(4, HV.ptr 9004 v1 0), (6, HV.ptr 9006 v9 0), (9, slE eNegMag a19.1), (10, HV.ar 9055 v23 eNegMag.k 0 (((a25.2).set (x29.2.2).toNat x38).length)), (50, HV.int .i64 p1), (51, HV.int .i64 a19.2), (57, slE eFromLabelTo x7.1.2.2), (58, HV.int .i64 ((x7.1.2.2).length : Int)), (59, HV.int .i64 (IntKind.wrap .i64 (a25.1 + 1)))], [(9004, v1, .arr 2 32 [HV.bool false, HV.str ([] : List UInt8)]), (9006, v9, .arr 3 24 [HV.int .i64 x7.1.1, HV.int .i64 x7.1.2.1, slE eFromLabelTo x7.1.2.2]), (9055, v23, .arr eNegMag.k 32 (eNegMag.E ((a25.2).set (x29.2.2).toNat x38)))]⟩) (AS.le_of ⟨rfl, rfl, rfl, rfl, rfl, rfl, rfl, rfl, rfl, trivial⟩ ⟨rfl, rfl, rfl, trivial⟩) ⟨(IntKind.wrap .i64 (a25.1 + 1), (a25.2).set (x29.2.2).toNat x38), (), h, rfl⟩
         ·have hc := of_decide_eq_false hc
          have h := ifF hc h
          refine AW.exit ?_
          exact to_le (s' := ⟨[(4, HV.ptr 9004 v1 0), (6, HV.ptr 9006 v9 0), (10, HV.ar 9055 v23 eNegMag.k 0 ((a25.2).length)), (50, HV.int .i64 p1), (51, HV.int .i64 a19.2)], [(9004, v1, .arr 2 32 [HV.bool false, HV.str ([] : List UInt8)]), (9006, v9, .arr 3 24 [HV.int .i64 x7.1.1, HV.int .i64 x7.1.2.1, slE eFromLabelTo x7.1.2.2]), (9055, v23, .arr eNegMag.k 32 (eNegMag.E a25.2))]⟩) (AS.le_of ⟨rfl, rfl, rfl, rfl, rfl, trivial⟩ ⟨rfl, rfl, rfl, trivial⟩) ⟨a25.2, (), h, rfl⟩
       ·have hc := of_decide_eq_false hc
        have h := ifF hc h
        refine AW.exit ?_
        exact to_le (s' := ⟨[(4, HV.ptr 9004 v1 0), (9, slE eNegMag a19.1)], [(9004, v1, .arr 2 32 [HV.bool false, HV.str ([] : List UInt8)])]⟩) (AS.le_of ⟨rfl, rfl, trivial⟩ ⟨rfl, trivial⟩) ⟨a19.1, (), h, rfl⟩
    ·refine AW.rg rfl fun K hK => ?_
     refine mv rfl rfl ?_
     refine bv rfl (v_bin rfl rfl b_neq) ?_
     refine mv rfl rfl ?_
     by_cases hg58 : x7.2.2 ≠ 0
     ·have h := ifT hg58 h
      refine b_F rfl rfl rfl rfl rfl (decide_eq_true hg58) ?_
      refine b_F rfl rfl rfl rfl rfl rfl ?_
      refine b_F rfl rfl rfl rfl rfl rfl ?_
      refine bv rfl (v_pickT rfl rfl rfl) ?_
      refine b_nil (hK _ ?_)
      clear hK K
      exact to_le (s' := ⟨[(1, HV.int .i64 p1), (4, HV.ptr 9004 v1 0), (6, HV.ptr 9006 v9 0), (8, HV.int .i64 x7.2.2), (41, HV.bool true)], [(9004, v1, .arr 2 32 [HV.bool false, HV.str ([] : List UInt8)]), (9006, v9, .arr 3 24 [HV.int .i64 x7.1.1, HV.int .i64 x7.1.2.1, slE eFromLabelTo x7.1.2.2])]⟩) (AS.le_of ⟨rfl, rfl, rfl, rfl, rfl, trivial⟩ ⟨rfl, rfl, trivial⟩) ⟨true, (), h, rfl⟩
     ·have h := ifF hg58 h
      refine b_T rfl rfl rfl rfl (decide_eq_false hg58) (o_val rfl (v_fieldAddrP fo24_1 rfl rfl) ?_)
      refine b_T rfl rfl rfl rfl rfl (o_val rfl (v_loadP ty3 rfl rfl (l_lit rfl rfl)) ?_)
      refine b_T rfl rfl rfl rfl rfl (o_val rfl (v_bin rfl rfl b_eql) ?_)
      refine bv rfl (v_pickF rfl rfl rfl) ?_
      refine b_nil (hK _ ?_)
      clear hK K
      exact to_le (s' := ⟨[(1, HV.int .i64 p1), (4, HV.ptr 9004 v1 0), (6, HV.ptr 9006 v9 0), (8, HV.int .i64 x7.2.2), (41, HV.bool (decide (x7.1.2.1 = 0)))], [(9004, v1, .arr 2 32 [HV.bool false, HV.str ([] : List UInt8)]), (9006, v9, .arr 3 24 [HV.int .i64 x7.1.1, HV.int .i64 x7.1.2.1, slE eFromLabelTo x7.1.2.2])]⟩) (AS.le_of ⟨rfl, rfl, rfl, rfl, rfl, trivial⟩ ⟨rfl, rfl, trivial⟩) ⟨decide (x7.1.2.1 = 0), (), h, rfl⟩
  ·refine AW.rg rfl fun K hK => ?_
   refine mv rfl rfl ?_
   refine bv rfl (v_bin rfl rfl b_lss) ?_
   refine mv rfl rfl ?_
   by_cases hg59 : p1 < 0
   ·have h := ifT hg59 h
    refine b_F rfl rfl rfl rfl rfl (decide_eq_true hg59) ?_
    refine b_F rfl rfl rfl rfl rfl rfl ?_
    refine bv rfl (v_pickT rfl rfl rfl) ?_
    refine mv rfl rfl ?_
    refine b_nil (hK _ ?_)
    clear hK K
    exact to_le (s' := ⟨[(1, HV.int .i64 p1), (2, HV.fptr [HV.int .i64 p0.1, HV.int .i64 p0.2.1, slE eFromLabelTo p0.2.2] 0), (4, HV.ptr 9004 v1 0), (21, HV.bool true)], [(9004, v1, .arr 2 32 [HV.bool false, HV.str ([] : List UInt8)])]⟩) (AS.le_of ⟨rfl, rfl, rfl, rfl, trivial⟩ ⟨rfl, trivial⟩) ⟨true, (), h, rfl⟩
   ·have h := ifF hg59 h
    refine b_T rfl rfl rfl rfl (decide_eq_false hg59) (o_val rfl (mv_val rfl rfl).2 ?_)
    refine b_T rfl rfl rfl rfl rfl (o_val rfl (v_bin rfl rfl b_gtr) ?_)
    refine bv rfl (v_pickF rfl rfl rfl) ?_
    refine mv rfl rfl ?_
    refine b_nil (hK _ ?_)
    clear hK K
    exact to_le (s' := ⟨[(1, HV.int .i64 p1), (2, HV.fptr [HV.int .i64 p0.1, HV.int .i64 p0.2.1, slE eFromLabelTo p0.2.2] 0), (4, HV.ptr 9004 v1 0), (21, HV.bool (decide (4096 < p1)))], [(9004, v1, .arr 2 32 [HV.bool false, HV.str ([] : List UInt8)])]⟩) (AS.le_of ⟨rfl, rfl, rfl, rfl, trivial⟩ ⟨rfl, trivial⟩) ⟨decide (4096 < p1), (), h, rfl⟩

set_option maxHeartbeats 1600000 in
set_option maxRecDepth 100000 in
theorem w_ref12_Same {p0 : List (Int)} {p1 : List (Int)} {r : Bool} (h : m_ref12_Same p0 p1 = some r) : Pure Tryz.prog 13 [slE eInt p0, slE eInt p1] (· = HV.bool r) := by
 unfold m_ref12_Same at h
 refine Pure.of_body Tryz.func13 rfl rfl (Nat.le_of_ble_eq_true rfl) fun hf => ?_
 unfold Tryz.f13
 dsimp only [enumS, Nat.reduceAdd]
 refine AW.rgs rfl fun K hK => ?_
 refine mv rfl rfl ?_
 refine b_fin hK (s' := ⟨[(0, slE eInt p0), (1, slE eInt p1)], []⟩) (le_q rfl rfl) ?_
 clear hK K
 refine AW.seq ?_
 refine AW.rgs rfl fun K hK => ?_
 refine mv rfl rfl ?_
 refine bv rfl (v_lenF rfl rfl ty27 rfl) ?_
 refine mv rfl rfl ?_
 refine bv rfl (v_lenF rfl rfl ty27 rfl) ?_
 refine bv rfl (v_bin rfl rfl b_neq) ?_
 refine b_fin hK (s' := ⟨[(0, slE eInt p0), (1, slE eInt p1), (10, HV.bool (decide (((p0).length : Int) ≠ ((p1).length : Int))))], []⟩) (le_q rfl rfl) ?_
 clear hK K
 refine AW.cond rfl (fun hc => ?_) (fun hc => ?_)
 ·have hc := of_decide_eq_true hc
  have h := ifT hc h
  refine AW.rgs rfl fun K hK => ?_
  refine mv rfl rfl ?_
  refine b_fin hK (s' := ⟨[(4, HV.bool false)], []⟩) (le_q rfl rfl) ?_
  clear hK K
  refine AW.ret ?_
  have h := Option.some.inj h
  subst h
  exact ret_pure (hs := [HV.bool false]) (q := HV.bool false) (.inr rfl) (resT rfl rfl) rfl trivial
 ·have hc := of_decide_eq_false hc
  have h := ifF hc h
  refine AW.skip ?_
  refine AW.seq ?_
  refine AW.rgs rfl fun K hK => ?_
  refine mv rfl rfl ?_
  refine b_fin hK (s' := ⟨[(0, slE eInt p0), (1, slE eInt p1), (5, HV.int .i64 0)], []⟩) (le_q rfl rfl) ?_
  clear hK K
  refine AW.lpR h (by first | exact up_then | exact up_to) (S := Int) (V := Unit) (fun a v => ⟨[(0, slE eInt p0), (1, slE eInt p1), (5, HV.int .i64 a)], []⟩) ?_ (X := Unit) (W := Unit) (fun a v => ⟨[], []⟩) (fun a9 w10 h => ?_) (fun a1 w2 st3 h hr4=> ?_)
  ·exact to_le (s' := ⟨[(0, slE eInt p0), (1, slE eInt p1), (5, HV.int .i64 0)], []⟩) (AS.le_of ⟨rfl, rfl, rfl, trivial⟩ trivial) ⟨(), rfl⟩
  ·refine AW.rgs rfl fun K hK => ?_
   refine mv rfl rfl ?_
   refine b_fin hK (s' := ⟨[(4, HV.bool true)], []⟩) (le_q rfl rfl) ?_
   clear hK K
   refine AW.ret ?_
   have h := Option.some.inj h
   subst h
   exact ret_pure (hs := [HV.bool true]) (q := HV.bool true) (.inr rfl) (resT rfl rfl) rfl trivial
  ·refine AW.seq ?_
   refine AW.rgs rfl fun K hK => ?_
   refine mv rfl rfl ?_
   refine mv rfl rfl ?_
   refine bv rfl (v_lenF rfl rfl ty27 rfl) ?_
   refine bv rfl (v_bin rfl rfl b_lss) ?_
   refine b_fin hK (s' := ⟨[(0, slE eInt p0), (1, slE eInt p1), (5, HV.int .i64 a1), (14, HV.bool (decide (a1 < ((p0).length : Int))))], []⟩) (le_q rfl rfl) ?_
   clear hK K
   refine AW.cond rfl (fun hc => ?_) (fun hc => ?_)
   ·have hc := of_decide_eq_true hc
    have h := ifT hc h
    refine AW.skip ?_
    refine AW.seq (AW.block ?_)
    refine AW.dgs 9 follows rfl rfl fun K hK => ?_
    refine sm rfl rfl ?_
    refine sm rfl rfl ?_
    obtain ⟨x5, h6, h⟩ := bS h
    refine sv rfl (v_idxF ty27 es27 rfl rfl (idx_lt h6)) ?_
    refine sv rfl (v_loadF ty3 rfl (l_cell eInt h6 (o := 0) rfl rfl)) ?_
    refine sm rfl rfl ?_
    refine sm rfl rfl ?_
    obtain ⟨x7, h8, h⟩ := bS h
    refine sv rfl (v_idxF ty27 es27 rfl rfl (idx_lt h8)) ?_
    refine sv rfl (v_loadF ty3 rfl (l_cell eInt h8 (o := 0) rfl rfl)) ?_
    refine sv rfl (v_bin rfl rfl b_neq) ?_
    refine s_nil ?_
    refine b_fin hK (s' := ⟨[(0, slE eInt p0), (1, slE eInt p1), (5, HV.int .i64 a1), (25, HV.bool (decide (x5 ≠ x7)))], []⟩) (le_q rfl rfl) ?_
    clear hK K
    refine AW.cond rfl (fun hc => ?_) (fun hc => ?_)
    ·have hc := of_decide_eq_true hc
     have h := ifT hc h
     refine AW.rgs rfl fun K hK => ?_
     refine mv rfl rfl ?_
     refine b_fin hK (s' := ⟨[(4, HV.bool false)], []⟩) (le_q rfl rfl) ?_
     clear hK K
     have h := hr4 _ h
     refine AW.ret ?_
     have h := Option.some.inj h
     subst h
     exact ret_pure (hs := [HV.bool false]) (q := HV.bool false) (.inr rfl) (resT rfl rfl) rfl trivial
    ·have hc := of_decide_eq_false hc
     have h := ifF hc h
     refine AW.skip ?_
     refine AW.rg rfl fun K hK => ?_
     refine mv rfl rfl ?_
     refine bv rfl (v_bin rfl rfl b_add) ?_
     refine mv rfl rfl ?_
     refine b_nil (hK _ ?_)
     clear hK K
     exact to_le (s' := ⟨[(0, slE eInt p0), (1, slE eInt p1), (5, HV.int .i64 (IntKind.wrap .i64 (a1 + 1)))], []⟩) (AS.le_of ⟨rfl, rfl, rfl, trivial⟩ trivial) ⟨IntKind.wrap .i64 (a1 + 1), (), h, rfl⟩
   ·have hc := of_decide_eq_false hc
    have h := ifF hc h
    refine AW.exit ?_
    exact to_le (s' := ⟨[], []⟩) (AS.le_of trivial trivial) ⟨(), (), h, rfl⟩

end Go.AW

namespace Go.AW
open Go Go.Proofs
set_option linter.unusedVariables false
set_option maxHeartbeats 1600000 in
set_option maxRecDepth 100000 in
theorem w_law12_even  {r : TLabelsStatesEdges} (h : m_law12_even  = some r) : Pure Tryz.prog 22 [] (· = HV.agg [HV.int .i64 r.1, HV.int .i64 r.2.1, slE eFromLabelTo r.2.2]) := by
 unfold m_law12_even at h
 refine Pure.of_body Tryz.func22 rfl rfl (Nat.le_of_ble_eq_true rfl) fun hf => ?_
 unfold Tryz.f22
 dsimp only [enumS, Nat.reduceAdd]
 refine AW.rgs rfl fun K hK => ?_
 refine b_op rfl (o_alloc (fid := 22) (zs := [HV.int .i64 0, HV.int .i64 0, HV.v (.slice none 0 0)]) 22000 rfl rfl ty24 rfl (fun v1 => ?_))
 refine b_fin hK (s' := ⟨[(0, HV.ptr 22000 v1 0)], [(22000, v1, .arr 3 24 [HV.int .i64 0, HV.int .i64 0, HV.v (.slice none 0 0)])]⟩) (le_q rfl rfl) ?_
 clear hK K
 refine AW.rgs rfl fun K hK => ?_
 refine b_op rfl (o_build (cs := [HV.int .i64 0, HV.int .i64 0, HV.int .i64 1]) rfl (bl_of ty56 rfl rfl rfl rfl) ?_)
 refine b_op rfl (o_build (cs := [HV.int .i64 0, HV.int .i64 1, HV.int .i64 0]) rfl (bl_of ty56 rfl rfl rfl rfl) ?_)
 refine b_op rfl (o_build (cs := [HV.int .i64 1, HV.int .i64 0, HV.int .i64 0]) rfl (bl_of ty56 rfl rfl rfl rfl) ?_)
 refine b_op rfl (o_bsl rfl rfl (as_of (cs := [HV.int .i64 0, HV.int .i64 0, HV.int .i64 1, HV.int .i64 0, HV.int .i64 1, HV.int .i64 0, HV.int .i64 1, HV.int .i64 0, HV.int .i64 0]) ty22 ty56 rfl rfl rfl rfl rfl) ?_)
 refine b_op rfl (o_build (cs := [HV.int .i64 2, HV.int .i64 2, slE eFromLabelTo [(0, 0, 1), (0, 1, 0), (1, 0, 0)]]) rfl (bl_of ty24 rfl rfl rfl rfl) ?_)
 refine b_op rfl (o_store (cs := [HV.int .i64 2, HV.int .i64 2, slE eFromLabelTo [(0, 0, 1), (0, 1, 0), (1, 0, 0)]]) (zs := [HV.int .i64 2, HV.int .i64 2, slE eFromLabelTo [(0, 0, 1), (0, 1, 0), (1, 0, 0)]]) rfl rfl rfl ty24 rfl rfl rfl rfl rfl ?_)
 refine b_fin hK (s' := ⟨[(0, HV.ptr 22000 v1 0)], [(22000, v1, .arr 3 24 [HV.int .i64 2, HV.int .i64 2, slE eFromLabelTo [(0, 0, 1), (0, 1, 0), (1, 0, 0)]])]⟩) (le_q rfl rfl) ?_
 clear hK K
 refine AW.ret ?_
 have h := Option.some.inj h
 subst h
 exact ret_pure (hs := [HV.agg [HV.int .i64 2, HV.int .i64 2, slE eFromLabelTo [(0, 0, 1), (0, 1, 0), (1, 0, 0)]]]) (q := HV.agg [HV.int .i64 2, HV.int .i64 2, slE eFromLabelTo [(0, 0, 1), (0, 1, 0), (1, 0, 0)]]) (.inr rfl) (resP ty24 rfl rfl (l_litA rfl (Nat.le_of_ble_eq_true rfl) rfl) rfl) rfl ⟨trivial, trivial, (clean_slE fun _ _ => ⟨trivial, trivial, trivial, trivial⟩), trivial⟩

set_option maxHeartbeats 1600000 in
set_option maxRecDepth 100000 in
theorem w_ref01_mag {p0 : Int} {r : (List UInt8)} (h : m_ref01_mag p0 = some r) : Pure Tryz.prog 42 [HV.int .i64 p0] (· = HV.str r) := by
 unfold m_ref01_mag at h
 refine Pure.of_body Tryz.func42 rfl rfl (Nat.le_of_ble_eq_true rfl) fun hf => ?_
 unfold Tryz.f42
 dsimp only [enumS, Nat.reduceAdd]
 refine AW.rgs rfl fun K hK => ?_
 refine mv rfl rfl ?_
 refine b_fin hK (s' := ⟨[(0, HV.int .i64 p0)], []⟩) (le_q rfl rfl) ?_
 clear hK K
 refine AW.seq ?_
 refine AW.rgs rfl fun K hK => ?_
 refine mv rfl rfl ?_
 refine bv rfl (v_bin rfl rfl b_lss) ?_
 refine b_fin hK (s' := ⟨[(0, HV.int .i64 p0), (6, HV.bool (decide (p0 < 256)))], []⟩) (le_q rfl rfl) ?_
 clear hK K
 refine AW.cond rfl (fun hc => ?_) (fun hc => ?_)
 ·have hc := of_decide_eq_true hc
  have h := ifT hc h
  refine AW.seq ?_
  refine AW.rgs rfl fun K hK => ?_
  refine mv rfl rfl ?_
  refine bv rfl (v_bin rfl rfl b_eql) ?_
  refine b_fin hK (s' := ⟨[(0, HV.int .i64 p0), (8, HV.bool (decide (p0 = 0)))], []⟩) (le_q rfl rfl) ?_
  clear hK K
  refine AW.cond rfl (fun hc => ?_) (fun hc => ?_)
  ·have hc := of_decide_eq_true hc
   have h := ifT hc h
   refine AW.rgs rfl fun K hK => ?_
   refine mv rfl rfl ?_
   refine b_fin hK (s' := ⟨[(2, HV.str ([] : List UInt8))], []⟩) (le_q rfl rfl) ?_
   clear hK K
   refine AW.ret ?_
   have h := Option.some.inj h
   subst h
   exact ret_pure (hs := [HV.str ([] : List UInt8)]) (q := HV.str ([] : List UInt8)) (.inr rfl) (resT rfl rfl) rfl trivial
  ·have hc := of_decide_eq_false hc
   have h := ifF hc h
   refine AW.skip ?_
   refine AW.rgs rfl fun K hK => ?_
   refine mv rfl rfl ?_
   refine bv rfl (v_convI ty3 ty5 rfl) ?_
   refine b_op rfl (o_bsl rfl rfl (as_of (cs := [HV.int .u8 (IntKind.wrap .u8 p0)]) ty103 ty5 rfl rfl rfl rfl rfl) ?_)
   refine bv rfl (v_convB (l := [IntKind.wrap .u8 p0]) ty103 ty5 ty9 rfl) ?_
   refine mv rfl rfl ?_
   refine b_fin hK (s' := ⟨[(2, HV.str ([IntKind.wrap .u8 p0].map fun (n : Int) => UInt8.ofNat n.toNat))], []⟩) (le_q rfl rfl) ?_
   clear hK K
   refine AW.ret ?_
   have h := Option.some.inj h
   subst h
   exact ret_pure (hs := [HV.str ([IntKind.wrap .u8 p0].map fun (n : Int) => UInt8.ofNat n.toNat)]) (q := HV.str ([IntKind.wrap .u8 p0].map fun (n : Int) => UInt8.ofNat n.toNat)) (.inr rfl) (resT rfl rfl) rfl trivial
 ·have hc := of_decide_eq_false hc
  have h := ifF hc h
  refine AW.skip ?_
  cases h

set_option maxHeartbeats 1600000 in
set_option maxRecDepth 100000 in
theorem w_ref01_Of {p0 : Int} {r : TNegMag} (h : m_ref01_Of p0 = some r) : Pure Tryz.prog 23 [HV.int .i64 p0] (· = HV.agg [HV.bool r.1, HV.str r.2]) := by
 unfold m_ref01_Of at h
 refine Pure.of_body Tryz.func23 rfl rfl (Nat.le_of_ble_eq_true rfl) fun hf => ?_
 unfold Tryz.f23
 dsimp only [enumS, Nat.reduceAdd]
 refine AW.rgs rfl fun K hK => ?_
 refine b_op rfl (o_alloc (fid := 23) (zs := [HV.bool false, HV.str ([] : List UInt8)]) 23002 rfl rfl ty32 rfl (fun v1 => ?_))
 refine b_fin hK (s' := ⟨[(0, HV.int .i64 p0), (2, HV.ptr 23002 v1 0)], [(23002, v1, .arr 2 32 [HV.bool false, HV.str ([] : List UInt8)])]⟩) (le_q rfl rfl) ?_
 clear hK K
 refine AW.seq ?_
 refine AW.rgs rfl fun K hK => ?_
 refine mv rfl rfl ?_
 refine bv rfl (v_bin rfl rfl b_geq) ?_
 refine b_fin hK (s' := ⟨[(0, HV.int .i64 p0), (2, HV.ptr 23002 v1 0), (4, HV.bool (decide (0 ≤ p0)))], [(23002, v1, .arr 2 32 [HV.bool false, HV.str ([] : List UInt8)])]⟩) (le_q rfl rfl) ?_
 clear hK K
 refine AW.cond rfl (fun hc => ?_) (fun hc => ?_)
 ·have hc := of_decide_eq_true hc
  have h := ifT hc h
  refine AW.rgs rfl fun K hK => ?_
  refine mv rfl rfl ?_
  obtain ⟨x2, h3, h⟩ := bS h
  refine b_op rfl (o_call rfl rfl rfl rfl (ACallD.pure0 (w_ref01_mag h3)) ?_)
  refine b_op rfl (o_build (cs := [HV.bool false, HV.str x2]) rfl (bl_of ty32 rfl rfl rfl rfl) ?_)
  refine b_op rfl (o_store (cs := [HV.bool false, HV.str x2]) (zs := [HV.bool false, HV.str x2]) rfl rfl rfl ty32 rfl rfl rfl rfl rfl ?_)
  refine b_fin hK (s' := ⟨[(2, HV.ptr 23002 v1 0)], [(23002, v1, .arr 2 32 [HV.bool false, HV.str x2])]⟩) (le_q rfl rfl) ?_
  clear hK K
  refine AW.ret ?_
  have h := Option.some.inj h
  subst h
  exact ret_pure (hs := [HV.agg [HV.bool false, HV.str x2]]) (q := HV.agg [HV.bool false, HV.str x2]) (.inr rfl) (resP ty32 rfl rfl (l_litA rfl (Nat.le_of_ble_eq_true rfl) rfl) rfl) rfl ⟨trivial, trivial, trivial⟩
 ·have hc := of_decide_eq_false hc
  have h := ifF hc h
  refine AW.skip ?_
  refine AW.seq ?_
  refine AW.rgs rfl fun K hK => ?_
  refine mv rfl rfl ?_
  refine mv rfl rfl ?_
  refine bv rfl (v_neg rfl) ?_
  refine bv rfl (v_bin rfl rfl b_eql) ?_
  refine b_fin hK (s' := ⟨[(0, HV.int .i64 p0), (2, HV.ptr 23002 v1 0), (11, HV.bool (decide (p0 = (IntKind.wrap .i64 (0 - p0)))))], [(23002, v1, .arr 2 32 [HV.bool false, HV.str ([] : List UInt8)])]⟩) (le_q rfl rfl) ?_
  clear hK K
  refine AW.cond rfl (fun hc => ?_) (fun hc => ?_)
  ·have hc := of_decide_eq_true hc
   have h := ifT hc h
   refine AW.rgs rfl fun K hK => ?_
   refine b_op rfl (o_build (cs := [HV.bool true, HV.str [128, 0, 0, 0, 0, 0, 0, 0]]) rfl (bl_of ty32 rfl rfl rfl rfl) ?_)
   refine b_op rfl (o_store (cs := [HV.bool true, HV.str [128, 0, 0, 0, 0, 0, 0, 0]]) (zs := [HV.bool true, HV.str [128, 0, 0, 0, 0, 0, 0, 0]]) rfl rfl rfl ty32 rfl rfl rfl rfl rfl ?_)
   refine b_fin hK (s' := ⟨[(2, HV.ptr 23002 v1 0)], [(23002, v1, .arr 2 32 [HV.bool true, HV.str [128, 0, 0, 0, 0, 0, 0, 0]])]⟩) (le_q rfl rfl) ?_
   clear hK K
   refine AW.ret ?_
   have h := Option.some.inj h
   subst h
   exact ret_pure (hs := [HV.agg [HV.bool true, HV.str [128, 0, 0, 0, 0, 0, 0, 0]]]) (q := HV.agg [HV.bool true, HV.str [128, 0, 0, 0, 0, 0, 0, 0]]) (.inr rfl) (resP ty32 rfl rfl (l_litA rfl (Nat.le_of_ble_eq_true rfl) rfl) rfl) rfl ⟨trivial, trivial, trivial⟩
  ·have hc := of_decide_eq_false hc
   have h := ifF hc h
   refine AW.skip ?_
   refine AW.rgs rfl fun K hK => ?_
   refine mv rfl rfl ?_
   refine bv rfl (v_neg rfl) ?_
   obtain ⟨x4, h5, h⟩ := bS h
   refine b_op rfl (o_call rfl rfl rfl rfl (ACallD.pure0 (w_ref01_mag h5)) ?_)
   refine b_op rfl (o_build (cs := [HV.bool true, HV.str x4]) rfl (bl_of ty32 rfl rfl rfl rfl) ?_)
   refine b_op rfl (o_store (cs := [HV.bool true, HV.str x4]) (zs := [HV.bool true, HV.str x4]) rfl rfl rfl ty32 rfl rfl rfl rfl rfl ?_)
   refine b_fin hK (s' := ⟨[(2, HV.ptr 23002 v1 0)], [(23002, v1, .arr 2 32 [HV.bool true, HV.str x4])]⟩) (le_q rfl rfl) ?_
   clear hK K
   refine AW.ret ?_
   have h := Option.some.inj h
   subst h
   exact ret_pure (hs := [HV.agg [HV.bool true, HV.str x4]]) (q := HV.agg [HV.bool true, HV.str x4]) (.inr rfl) (resP ty32 rfl rfl (l_litA rfl (Nat.le_of_ble_eq_true rfl) rfl) rfl) rfl ⟨trivial, trivial, trivial⟩

set_option maxHeartbeats 1600000 in
set_option maxRecDepth 100000 in
theorem w_ref12_SameSets {p0 : List (List (Int))} {p1 : List (List (Int))} {r : Bool} (h : m_ref12_SameSets p0 p1 = some r) : Pure Tryz.prog 24 [slE (eSl eInt) p0, slE (eSl eInt) p1] (· = HV.bool r) := by
 unfold m_ref12_SameSets at h
 refine Pure.of_body Tryz.func24 rfl rfl (Nat.le_of_ble_eq_true rfl) fun hf => ?_
 unfold Tryz.f24
 dsimp only [enumS, Nat.reduceAdd]
 refine AW.rgs rfl fun K hK => ?_
 refine mv rfl rfl ?_
 refine b_fin hK (s' := ⟨[(0, slE (eSl eInt) p0), (1, slE (eSl eInt) p1)], []⟩) (le_q rfl rfl) ?_
 clear hK K
 refine AW.seq ?_
 refine AW.rgs rfl fun K hK => ?_
 refine mv rfl rfl ?_
 refine bv rfl (v_lenF rfl rfl ty35 rfl) ?_
 refine mv rfl rfl ?_
 refine bv rfl (v_lenF rfl rfl ty35 rfl) ?_
 refine bv rfl (v_bin rfl rfl b_neq) ?_
 refine b_fin hK (s' := ⟨[(0, slE (eSl eInt) p0), (1, slE (eSl eInt) p1), (10, HV.bool (decide (((p0).length : Int) ≠ ((p1).length : Int))))], []⟩) (le_q rfl rfl) ?_
 clear hK K
 refine AW.cond rfl (fun hc => ?_) (fun hc => ?_)
 ·have hc := of_decide_eq_true hc
  have h := ifT hc h
  refine AW.rgs rfl fun K hK => ?_
  refine mv rfl rfl ?_
  refine b_fin hK (s' := ⟨[(4, HV.bool false)], []⟩) (le_q rfl rfl) ?_
  clear hK K
  refine AW.ret ?_
  have h := Option.some.inj h
  subst h
  exact ret_pure (hs := [HV.bool false]) (q := HV.bool false) (.inr rfl) (resT rfl rfl) rfl trivial
 ·have hc := of_decide_eq_false hc
  have h := ifF hc h
  refine AW.skip ?_
  refine AW.seq ?_
  refine AW.rgs rfl fun K hK => ?_
  refine mv rfl rfl ?_
  refine b_fin hK (s' := ⟨[(0, slE (eSl eInt) p0), (1, slE (eSl eInt) p1), (5, HV.int .i64 0)], []⟩) (le_q rfl rfl) ?_
  clear hK K
  refine AW.lpR h (by first | exact up_then | exact up_to) (S := Int) (V := Unit) (fun a v => ⟨[(0, slE (eSl eInt) p0), (1, slE (eSl eInt) p1), (5, HV.int .i64 a)], []⟩) ?_ (X := Unit) (W := Unit) (fun a v => ⟨[], []⟩) (fun a11 w12 h => ?_) (fun a1 w2 st3 h hr4=> ?_)
  ·exact to_le (s' := ⟨[(0, slE (eSl eInt) p0), (1, slE (eSl eInt) p1), (5, HV.int .i64 0)], []⟩) (AS.le_of ⟨rfl, rfl, rfl, trivial⟩ trivial) ⟨(), rfl⟩
  ·refine AW.rgs rfl fun K hK => ?_
   refine mv rfl rfl ?_
   refine b_fin hK (s' := ⟨[(4, HV.bool true)], []⟩) (le_q rfl rfl) ?_
   clear hK K
   refine AW.ret ?_
   have h := Option.some.inj h
   subst h
   exact ret_pure (hs := [HV.bool true]) (q := HV.bool true) (.inr rfl) (resT rfl rfl) rfl trivial
  ·refine AW.seq ?_
   refine AW.rgs rfl fun K hK => ?_
   refine mv rfl rfl ?_
   refine mv rfl rfl ?_
   refine bv rfl (v_lenF rfl rfl ty35 rfl) ?_
   refine bv rfl (v_bin rfl rfl b_lss) ?_
   refine b_fin hK (s' := ⟨[(0, slE (eSl eInt) p0), (1, slE (eSl eInt) p1), (5, HV.int .i64 a1), (14, HV.bool (decide (a1 < ((p0).length : Int))))], []⟩) (le_q rfl rfl) ?_
   clear hK K
   refine AW.cond rfl (fun hc => ?_) (fun hc => ?_)
   ·have hc := of_decide_eq_true hc
    have h := ifT hc h
    refine AW.skip ?_
    refine AW.seq (AW.block ?_)
    refine AW.dgs 10 follows rfl rfl fun K hK => ?_
    refine sm rfl rfl ?_
    refine sm rfl rfl ?_
    obtain ⟨x5, h6, h⟩ := bS h
    refine sv rfl (v_idxF ty35 es35 rfl rfl (idx_lt h6)) ?_
    refine sv rfl (v_loadF ty27 rfl (l_cell (eSl eInt) h6 (o := 0) rfl rfl)) ?_
    refine sm rfl rfl ?_
    refine sm rfl rfl ?_
    obtain ⟨x7, h8, h⟩ := bS h
    refine sv rfl (v_idxF ty35 es35 rfl rfl (idx_lt h8)) ?_
    refine sv rfl (v_loadF ty27 rfl (l_cell (eSl eInt) h8 (o := 0) rfl rfl)) ?_
    obtain ⟨x9, h10, h⟩ := bS h
    refine s_op rfl rfl (ops_call rfl rfl rfl rfl (ACallD.pure0 (w_ref12_Same h10)) ?_)
    refine sv rfl (v_not rfl) ?_
    refine s_nil ?_
    refine b_fin hK (s' := ⟨[(0, slE (eSl eInt) p0), (1, slE (eSl eInt) p1), (5, HV.int .i64 a1), (26, HV.bool (!x9))], []⟩) (le_q rfl rfl) ?_
    clear hK K
    refine AW.cond rfl (fun hc => ?_) (fun hc => ?_)
    ·have h := ifT hc h
     refine AW.rgs rfl fun K hK => ?_
     refine mv rfl rfl ?_
     refine b_fin hK (s' := ⟨[(4, HV.bool false)], []⟩) (le_q rfl rfl) ?_
     clear hK K
     have h := hr4 _ h
     refine AW.ret ?_
     have h := Option.some.inj h
     subst h
     exact ret_pure (hs := [HV.bool false]) (q := HV.bool false) (.inr rfl) (resT rfl rfl) rfl trivial
    ·have h := ifF (bF' hc) h
     refine AW.skip ?_
     refine AW.rg rfl fun K hK => ?_
     refine mv rfl rfl ?_
     refine bv rfl (v_bin rfl rfl b_add) ?_
     refine mv rfl rfl ?_
     refine b_nil (hK _ ?_)
     clear hK K
     exact to_le (s' := ⟨[(0, slE (eSl eInt) p0), (1, slE (eSl eInt) p1), (5, HV.int .i64 (IntKind.wrap .i64 (a1 + 1)))], []⟩) (AS.le_of ⟨rfl, rfl, rfl, trivial⟩ trivial) ⟨IntKind.wrap .i64 (a1 + 1), (), h, rfl⟩
   ·have hc := of_decide_eq_false hc
    have h := ifF hc h
    refine AW.exit ?_
    exact to_le (s' := ⟨[], []⟩) (AS.le_of trivial trivial) ⟨(), (), h, rfl⟩

set_option maxHeartbeats 1600000 in
set_option maxRecDepth 100000 in
theorem w_law12_awakeG  {r : Bool} (h : m_law12_awakeG  = some r) : Pure Tryz.prog 6 [] (· = HV.bool r) := by
 unfold m_law12_awakeG at h
 refine Pure.of_body Tryz.func6 rfl rfl (Nat.le_of_ble_eq_true rfl) fun hf => ?_
 unfold Tryz.f6
 dsimp only [enumS, Nat.reduceAdd]
 refine AW.rgs rfl fun K hK => ?_
 refine mv rfl rfl ?_
 refine b_fin hK (s' := ⟨[], []⟩) (le_q rfl rfl) ?_
 clear hK K
 refine AW.rgs rfl fun K hK => ?_
 obtain ⟨x1, h2, h⟩ := bS h
 refine b_op rfl (o_call rfl rfl rfl rfl (ACallD.pure0 (w_law12_even h2)) ?_)
 obtain ⟨x3, h4, h⟩ := bS h
 refine b_op rfl (o_call rfl rfl rfl rfl (ACallD.pure0 (w_subset_Build h4)) ?_)
 refine mv rfl rfl ?_
 refine bv rfl (v_extract rfl rfl) ?_
 refine bv rfl (v_extract rfl rfl) ?_
 refine bv rfl (v_extract rfl rfl) ?_
 refine b_op rfl (o_alloc (fid := 6) (zs := [HV.int .i64 0, HV.int .i64 0, HV.v (.slice none 0 0)]) 6001 rfl rfl ty24 rfl (fun v5 => ?_))
 refine b_op rfl (o_store (cs := [HV.int .i64 x3.1.1, HV.int .i64 x3.1.2.1, slE eFromLabelTo x3.1.2.2]) (zs := [HV.int .i64 x3.1.1, HV.int .i64 x3.1.2.1, slE eFromLabelTo x3.1.2.2]) rfl rfl rfl ty24 rfl rfl rfl rfl rfl ?_)
 refine mv rfl rfl ?_
 refine mv rfl rfl ?_
 refine b_fin hK (s' := ⟨[(1, HV.ptr 6001 v5 0), (2, slE (eSl eInt) x3.2.1), (3, HV.int .i64 x3.2.2)], [(6001, v5, .arr 3 24 [HV.int .i64 x3.1.1, HV.int .i64 x3.1.2.1, slE eFromLabelTo x3.1.2.2])]⟩) (le_q rfl rfl) ?_
 clear hK K
 refine AW.rgs rfl fun K hK => ?_
 obtain ⟨x6, h7, h⟩ := bS h
 refine b_op rfl (o_call rfl rfl rfl rfl (ACallD.pure0 (w_law12_even h7)) ?_)
 obtain ⟨x8, h9, h⟩ := bS h
 refine b_op rfl (o_call rfl rfl rfl rfl (ACallD.pure0 (w_subset_Focus h9)) ?_)
 refine mv rfl rfl ?_
 refine bv rfl (v_extract rfl rfl) ?_
 refine bv rfl (v_extract rfl rfl) ?_
 refine bv rfl (v_extract rfl rfl) ?_
 refine bv rfl (v_extract rfl rfl) ?_
 refine mv rfl rfl ?_
 refine mv rfl rfl ?_
 refine mv rfl rfl ?_
 refine mv rfl rfl ?_
 refine b_fin hK (s' := ⟨[(1, HV.ptr 6001 v5 0), (2, slE (eSl eInt) x3.2.1), (3, HV.int .i64 x3.2.2), (4, slE eInt x8.1), (5, HV.int .i64 x8.2.1), (6, HV.bool x8.2.2.1), (7, HV.int .i64 x8.2.2.2)], [(6001, v5, .arr 3 24 [HV.int .i64 x3.1.1, HV.int .i64 x3.1.2.1, slE eFromLabelTo x3.1.2.2])]⟩) (le_q rfl rfl) ?_
 clear hK K
 refine AW.rgs rfl fun K hK => ?_
 obtain ⟨x10, h11, h⟩ := bS h
 refine b_op rfl (o_call rfl rfl rfl rfl (ACallD.pure0 (w_law12_even h11)) ?_)
 obtain ⟨x12, h13, h⟩ := bS h
 refine b_op rfl (o_call rfl rfl rfl rfl (ACallD.pure0 (w_subset_Count h13)) ?_)
 refine mv rfl rfl ?_
 refine bv rfl (v_extract rfl rfl) ?_
 refine bv rfl (v_extract rfl rfl) ?_
 refine b_op rfl (o_alloc (fid := 6) (zs := [HV.bool false, HV.str ([] : List UInt8)]) 6008 rfl rfl ty32 rfl (fun v14 => ?_))
 refine b_op rfl (o_store (cs := [HV.bool x12.1.1, HV.str x12.1.2]) (zs := [HV.bool x12.1.1, HV.str x12.1.2]) rfl rfl rfl ty32 rfl rfl rfl rfl rfl ?_)
 refine mv rfl rfl ?_
 refine b_fin hK (s' := ⟨[(1, HV.ptr 6001 v5 0), (2, slE (eSl eInt) x3.2.1), (3, HV.int .i64 x3.2.2), (4, slE eInt x8.1), (5, HV.int .i64 x8.2.1), (6, HV.bool x8.2.2.1), (7, HV.int .i64 x8.2.2.2), (8, HV.ptr 6008 v14 0), (9, HV.int .i64 x12.2)], [(6001, v5, .arr 3 24 [HV.int .i64 x3.1.1, HV.int .i64 x3.1.2.1, slE eFromLabelTo x3.1.2.2]), (6008, v14, .arr 2 32 [HV.bool x12.1.1, HV.str x12.1.2])]⟩) (le_q rfl rfl) ?_
 clear hK K
 refine AW.seqJ h (S := Bool) (V := Unit) (fun a v => ⟨[(1, HV.ptr 6001 v5 0), (2, slE (eSl eInt) x3.2.1), (10, HV.bool a)], [(6001, v5, .arr 3 24 [HV.int .i64 x3.1.1, HV.int .i64 x3.1.2.1, slE eFromLabelTo x3.1.2.2])]⟩) (fun a15 w16 h => ?_) (fun k17 h => ?_)
 ·refine AW.seqJ h (S := Bool) (V := Unit) (fun a v => ⟨[(0, HV.bool a)], []⟩) (fun a18 w19 h => ?_) (fun k20 h => ?_)
  ·refine AW.ret ?_
   have h := Option.some.inj h
   subst h
   exact ret_pure (hs := [HV.bool a18]) (q := HV.bool a18) (.inr rfl) (resT rfl rfl) rfl trivial
  ·refine AW.rg rfl fun K hK => ?_
   refine mv rfl rfl ?_
   refine mv rfl rfl ?_
   by_cases hg25 : a15 = true
   ·have h := ifT hg25 h
    refine b_T rfl rfl rfl rfl hg25 (o_val rfl (v_fieldAddrP fo24_1 rfl rfl) ?_)
    refine b_T rfl rfl rfl rfl rfl (o_val rfl (v_loadP ty3 rfl rfl (l_lit rfl rfl)) ?_)
    refine b_T rfl rfl rfl rfl rfl (o_val rfl (v_bin rfl rfl b_eql) ?_)
    refine bv rfl (v_pickT rfl rfl rfl) ?_
    refine mv rfl rfl ?_
    by_cases hg24 : x3.1.2.1 = 3
    ·have h := ifT hg24 h
     refine b_T rfl rfl rfl rfl (decide_eq_true hg24) (o_val rfl (v_fieldAddrP fo24_2 rfl rfl) ?_)
     refine b_T rfl rfl rfl rfl rfl (o_val rfl (v_loadP ty22 rfl rfl (l_lit rfl rfl)) ?_)
     refine b_T rfl rfl rfl rfl rfl (o_val rfl (v_lenF rfl rfl ty22 rfl) ?_)
     refine b_T rfl rfl rfl rfl rfl (o_val rfl (v_bin rfl rfl b_eql) ?_)
     refine bv rfl (v_pickT rfl rfl rfl) ?_
     refine mv rfl rfl ?_
     by_cases hg23 : ((x3.1.2.2).length : Int) = 5
     ·have h := ifT hg23 h
      refine b_T rfl rfl rfl rfl (decide_eq_true hg23) (o_val rfl (mv_val rfl rfl).2 ?_)
      refine b_T rfl rfl rfl rfl rfl (o_bsl rfl rfl (as_of (cs := [HV.int .i64 0, HV.int .i64 1]) ty27 ty3 rfl rfl rfl rfl rfl) ?_)
      refine b_T rfl rfl rfl rfl rfl (o_bsl rfl rfl (as_of (cs := [HV.int .i64 0]) ty27 ty3 rfl rfl rfl rfl rfl) ?_)
      refine b_T rfl rfl rfl rfl rfl (o_bsl rfl rfl (as_of (cs := [HV.int .i64 1]) ty27 ty3 rfl rfl rfl rfl rfl) ?_)
      refine b_T rfl rfl rfl rfl rfl (o_bsl rfl rfl (as_of (cs := [slE eInt [0, 1], slE eInt [0], slE eInt [1]]) ty35 ty27 rfl rfl rfl rfl rfl) ?_)
      obtain ⟨x21, h22, h⟩ := bS h
      refine b_T rfl rfl rfl rfl rfl (o_call rfl rfl rfl rfl (ACallD.pure0 (w_ref12_SameSets h22)) ?_)
      refine bv rfl (v_pickT rfl rfl rfl) ?_
      refine mv rfl rfl ?_
      refine b_nil (hK _ ?_)
      clear hK K
      exact to_le (s' := ⟨[(0, HV.bool x21)], []⟩) (AS.le_of ⟨rfl, trivial⟩ trivial) ⟨x21, (), h, rfl⟩
     ·have h := ifF hg23 h
      refine b_F rfl rfl rfl rfl rfl (decide_eq_false hg23) ?_
      refine b_F rfl rfl rfl rfl rfl rfl ?_
      refine b_F rfl rfl rfl rfl rfl rfl ?_
      refine b_F rfl rfl rfl rfl rfl rfl ?_
      refine b_F rfl rfl rfl rfl rfl rfl ?_
      refine b_F rfl rfl rfl rfl rfl rfl ?_
      refine bv rfl (v_pickF rfl rfl rfl) ?_
      refine mv rfl rfl ?_
      refine b_nil (hK _ ?_)
      clear hK K
      exact to_le (s' := ⟨[(0, HV.bool false)], []⟩) (AS.le_of ⟨rfl, trivial⟩ trivial) ⟨false, (), h, rfl⟩
    ·have h := ifF hg24 h
     refine b_F rfl rfl rfl rfl rfl (decide_eq_false hg24) ?_
     refine b_F rfl rfl rfl rfl rfl rfl ?_
     refine b_F rfl rfl rfl rfl rfl rfl ?_
     refine b_F rfl rfl rfl rfl rfl rfl ?_
     refine bv rfl (v_pickF rfl rfl rfl) ?_
     refine mv rfl rfl ?_
     refine b_F rfl rfl rfl rfl rfl rfl ?_
     refine b_F rfl rfl rfl rfl rfl rfl ?_
     refine b_F rfl rfl rfl rfl rfl rfl ?_
     refine b_F rfl rfl rfl rfl rfl rfl ?_
     refine b_F rfl rfl rfl rfl rfl rfl ?_
     refine b_F rfl rfl rfl rfl rfl rfl ?_
     refine bv rfl (v_pickF rfl rfl rfl) ?_
     refine mv rfl rfl ?_
     refine b_nil (hK _ ?_)
     clear hK K
     exact to_le (s' := ⟨[(0, HV.bool false)], []⟩) (AS.le_of ⟨rfl, trivial⟩ trivial) ⟨false, (), h, rfl⟩
   ·have h := ifF hg25 h
    refine b_F rfl rfl rfl rfl rfl (bF hg25) ?_
    refine b_F rfl rfl rfl rfl rfl rfl ?_
    refine b_F rfl rfl rfl rfl rfl rfl ?_
    refine bv rfl (v_pickF rfl rfl rfl) ?_
    refine mv rfl rfl ?_
    refine b_F rfl rfl rfl rfl rfl rfl ?_
    refine b_F rfl rfl rfl rfl rfl rfl ?_
    refine b_F rfl rfl rfl rfl rfl rfl ?_
    refine b_F rfl rfl rfl rfl rfl rfl ?_
    refine bv rfl (v_pickF rfl rfl rfl) ?_
    refine mv rfl rfl ?_
    refine b_F rfl rfl rfl rfl rfl rfl ?_
    refine b_F rfl rfl rfl rfl rfl rfl ?_
    refine b_F rfl rfl rfl rfl rfl rfl ?_
    refine b_F rfl rfl rfl rfl rfl rfl ?_
    refine b_F rfl rfl rfl rfl rfl rfl ?_
    refine b_F rfl rfl rfl rfl rfl rfl ?_
    refine bv rfl (v_pickF rfl rfl rfl) ?_
    refine mv rfl rfl ?_
    refine b_nil (hK _ ?_)
    clear hK K
    exact to_le (s' := ⟨[(0, HV.bool false)], []⟩) (AS.le_of ⟨rfl, trivial⟩ trivial) ⟨false, (), h, rfl⟩
 ·refine AW.dg 23 follows rfl rfl fun K hK => ?_
  refine sm rfl rfl ?_
  refine sm rfl rfl ?_
  refine sm rfl rfl ?_
  refine sv rfl (v_max3 rfl rfl rfl rfl) ?_
  refine sv rfl (v_bin rfl rfl b_eql) ?_
  refine sm rfl rfl ?_
  by_cases hg33 : (max (max x3.2.2 x8.2.2.2) x12.2) = 0
  ·have h := ifT hg33 h
   refine s_T rfl rfl rfl rfl rfl (decide_eq_true hg33) (ops_val rfl (mv_val rfl rfl).2 ?_)
   refine sv rfl (v_pickT rfl rfl rfl) ?_
   refine sm rfl rfl ?_
   by_cases hg32 : x8.2.2.1 = true
   ·have h := ifT hg32 h
    refine s_T rfl rfl rfl rfl rfl hg32 (ops_val rfl (mv_val rfl rfl).2 ?_)
    refine s_T rfl rfl rfl rfl rfl rfl (ops_val rfl (v_bin rfl rfl b_eql) ?_)
    refine sv rfl (v_pickT rfl rfl rfl) ?_
    refine sm rfl rfl ?_
    by_cases hg31 : x8.2.1 = 0
    ·have h := ifT hg31 h
     refine s_T rfl rfl rfl rfl rfl (decide_eq_true hg31) (ops_val rfl (mv_val rfl rfl).2 ?_)
     refine s_T rfl rfl rfl rfl rfl rfl (ops_bsl rfl rfl (as_of (cs := [HV.int .i64 1]) ty27 ty3 rfl rfl rfl rfl rfl) ?_)
     obtain ⟨x26, h27, h⟩ := bS h
     refine s_T rfl rfl rfl rfl rfl rfl (ops_call rfl rfl rfl rfl (ACallD.pure0 (w_ref12_Same h27)) ?_)
     refine sv rfl (v_pickT rfl rfl rfl) ?_
     refine sm rfl rfl ?_
     by_cases hg30 : x26 = true
     ·have h := ifT hg30 h
      refine s_T rfl rfl rfl rfl rfl hg30 (ops_val rfl (v_loadP ty32 rfl rfl (l_litA rfl (Nat.le_of_ble_eq_true rfl) rfl)) ?_)
      obtain ⟨x28, h29, h⟩ := bS h
      refine s_T rfl rfl rfl rfl rfl rfl (ops_call rfl rfl rfl rfl (ACallD.pure0 (w_ref01_Of h29)) ?_)
      refine s_T rfl rfl rfl rfl rfl rfl (ops_val rfl (v_bin rfl rfl (b_aeql (hk32 _ _) (hk32 _ _) hc32 (hq32 _ _))) ?_)
      refine sv rfl (v_pickT rfl rfl rfl) ?_
      refine sm rfl rfl ?_
      refine s_nil ?_
      refine b_nil (hK _ ?_)
      clear hK K
      exact to_le (s' := ⟨[(1, HV.ptr 6001 v5 0), (2, slE (eSl eInt) x3.2.1), (10, HV.bool (decide (x12.1 = x28)))], [(6001, v5, .arr 3 24 [HV.int .i64 x3.1.1, HV.int .i64 x3.1.2.1, slE eFromLabelTo x3.1.2.2])]⟩) (AS.le_of ⟨rfl, rfl, rfl, trivial⟩ ⟨rfl, trivial⟩) ⟨decide (x12.1 = x28), (), h, rfl⟩
     ·have h := ifF hg30 h
      refine s_F rfl rfl rfl rfl rfl (bF hg30) ?_
      refine s_F rfl rfl rfl rfl rfl rfl ?_
      refine s_F rfl rfl rfl rfl rfl rfl ?_
      refine sv rfl (v_pickF rfl rfl rfl) ?_
      refine sm rfl rfl ?_
      refine s_nil ?_
      refine b_nil (hK _ ?_)
      clear hK K
      exact to_le (s' := ⟨[(1, HV.ptr 6001 v5 0), (2, slE (eSl eInt) x3.2.1), (10, HV.bool false)], [(6001, v5, .arr 3 24 [HV.int .i64 x3.1.1, HV.int .i64 x3.1.2.1, slE eFromLabelTo x3.1.2.2])]⟩) (AS.le_of ⟨rfl, rfl, rfl, trivial⟩ ⟨rfl, trivial⟩) ⟨false, (), h, rfl⟩
    ·have h := ifF hg31 h
     refine s_F rfl rfl rfl rfl rfl (decide_eq_false hg31) ?_
     refine s_F rfl rfl rfl rfl rfl rfl ?_
     refine s_F rfl rfl rfl rfl rfl rfl ?_
     refine sv rfl (v_pickF rfl rfl rfl) ?_
     refine sm rfl rfl ?_
     refine s_F rfl rfl rfl rfl rfl rfl ?_
     refine s_F rfl rfl rfl rfl rfl rfl ?_
     refine s_F rfl rfl rfl rfl rfl rfl ?_
     refine sv rfl (v_pickF rfl rfl rfl) ?_
     refine sm rfl rfl ?_
     refine s_nil ?_
     refine b_nil (hK _ ?_)
     clear hK K
     exact to_le (s' := ⟨[(1, HV.ptr 6001 v5 0), (2, slE (eSl eInt) x3.2.1), (10, HV.bool false)], [(6001, v5, .arr 3 24 [HV.int .i64 x3.1.1, HV.int .i64 x3.1.2.1, slE eFromLabelTo x3.1.2.2])]⟩) (AS.le_of ⟨rfl, rfl, rfl, trivial⟩ ⟨rfl, trivial⟩) ⟨false, (), h, rfl⟩
   ·have h := ifF hg32 h
    refine s_F rfl rfl rfl rfl rfl (bF hg32) ?_
    refine s_F rfl rfl rfl rfl rfl rfl ?_
    refine sv rfl (v_pickF rfl rfl rfl) ?_
    refine sm rfl rfl ?_
    refine s_F rfl rfl rfl rfl rfl rfl ?_
    refine s_F rfl rfl rfl rfl rfl rfl ?_
    refine s_F rfl rfl rfl rfl rfl rfl ?_
    refine sv rfl (v_pickF rfl rfl rfl) ?_
    refine sm rfl rfl ?_
    refine s_F rfl rfl rfl rfl rfl rfl ?_
    refine s_F rfl rfl rfl rfl rfl rfl ?_
    refine s_F rfl rfl rfl rfl rfl rfl ?_
    refine sv rfl (v_pickF rfl rfl rfl) ?_
    refine sm rfl rfl ?_
    refine s_nil ?_
    refine b_nil (hK _ ?_)
    clear hK K
    exact to_le (s' := ⟨[(1, HV.ptr 6001 v5 0), (2, slE (eSl eInt) x3.2.1), (10, HV.bool false)], [(6001, v5, .arr 3 24 [HV.int .i64 x3.1.1, HV.int .i64 x3.1.2.1, slE eFromLabelTo x3.1.2.2])]⟩) (AS.le_of ⟨rfl, rfl, rfl, trivial⟩ ⟨rfl, trivial⟩) ⟨false, (), h, rfl⟩
  ·have h := ifF hg33 h
   refine s_F rfl rfl rfl rfl rfl (decide_eq_false hg33) ?_
   refine sv rfl (v_pickF rfl rfl rfl) ?_
   refine sm rfl rfl ?_
   refine s_F rfl rfl rfl rfl rfl rfl ?_
   refine s_F rfl rfl rfl rfl rfl rfl ?_
   refine sv rfl (v_pickF rfl rfl rfl) ?_
   refine sm rfl rfl ?_
   refine s_F rfl rfl rfl rfl rfl rfl ?_
   refine s_F rfl rfl rfl rfl rfl rfl ?_
   refine s_F rfl rfl rfl rfl rfl rfl ?_
   refine sv rfl (v_pickF rfl rfl rfl) ?_
   refine sm rfl rfl ?_
   refine s_F rfl rfl rfl rfl rfl rfl ?_
   refine s_F rfl rfl rfl rfl rfl rfl ?_
   refine s_F rfl rfl rfl rfl rfl rfl ?_
   refine sv rfl (v_pickF rfl rfl rfl) ?_
   refine sm rfl rfl ?_
   refine s_nil ?_
   refine b_nil (hK _ ?_)
   clear hK K
   exact to_le (s' := ⟨[(1, HV.ptr 6001 v5 0), (2, slE (eSl eInt) x3.2.1), (10, HV.bool false)], [(6001, v5, .arr 3 24 [HV.int .i64 x3.1.1, HV.int .i64 x3.1.2.1, slE eFromLabelTo x3.1.2.2])]⟩) (AS.le_of ⟨rfl, rfl, rfl, trivial⟩ ⟨rfl, trivial⟩) ⟨false, (), h, rfl⟩

end Go.AW



/- What the functions of graphs compute: checks, steps, sets of states. -/
namespace Go.AW
open Go
set_option linter.unusedSimpArgs false
set_option linter.unusedVariables false

theorem loopW_eq {S X : Type} (body : S → Option (Stp S X)) (s : S) : loopW body s = match body s with
    | none => none
    | some (.exit x) => some x
    | some (.next s') => loopW body s' := by
  cases h : body s with
  | none => exact loopW_stuck h
  | some r => cases r with
    | exit x => exact loopW_exit h
    | next s' => exact loopW_next h

abbrev Gr := TLabelsStatesEdges
abbrev Ed := TFromLabelTo

def cmp3 (x y : Ed) : Int := if x.1 < y.1 then -1 else if y.1 < x.1 then 1 else if x.2.1 < y.2.1 then -1 else if y.2.1 < x.2.1 then 1 else if x.2.2 < y.2.2 then -1 else if y.2.2 < x.2.2 then 1 else 0

theorem cmpC (a b : Int) : m_cmp_Compare_int a b = some (if a < b then -1 else if b < a then 1 else 0) := by
  unfold m_cmp_Compare_int m_cmp_isNaN_int
  simp only [ne_eq, not_true_eq_false, decide_false, Option.bind_some, Bool.false_eq_true, if_false]
  split <;> (try rfl)
  split <;> rfl

theorem wr0 : IntKind.wrap .i64 (0 + 1) = 1 := by decide
theorem wr1 : IntKind.wrap .i64 (1 + 1) = 2 := by decide
theorem wr2 : IntKind.wrap .i64 (2 + 1) = 3 := by decide

theorem ix3_0 (a b c : Int) : idx [a, b, c] 0 = some a := rfl
theorem ix3_1 (a b c : Int) : idx [a, b, c] 1 = some b := rfl
theorem ix3_2 (a b c : Int) : idx [a, b, c] 2 = some c := rfl
theorem len3 (a b c : Int) : (([a, b, c] : List Int).length : Int) = 3 := rfl

theorem by1_eq (x y : Ed) : m_graph_by_api_Edge_1 x y = some (cmp3 x y) := by
  unfold m_graph_by_api_Edge_1 m_graph_list m_slices_Compare_Lint_int cmp3
  simp only [Option.bind_some, len3]
  rw [loopW_eq]
  simp only [ix3_0, cmpC, Option.bind_some, wr0]
  by_cases a1 : x.1 < y.1
  · simp [a1, lpO]
  by_cases a2 : y.1 < x.1
  · simp [a1, a2, lpO]
  simp only [a1, a2, if_false, ne_eq, not_true_eq_false, if_true, Int.reduceLT, Int.reduceLE]
  rw [loopW_eq]
  simp only [ix3_1, cmpC, Option.bind_some, wr1]
  by_cases b1 : x.2.1 < y.2.1
  · simp [b1, lpO]
  by_cases b2 : y.2.1 < x.2.1
  · simp [b1, b2, lpO]
  simp only [b1, b2, if_false, ne_eq, not_true_eq_false, if_true, Int.reduceLT, Int.reduceLE]
  rw [loopW_eq]
  simp only [ix3_2, cmpC, Option.bind_some, wr2]
  by_cases c1 : x.2.2 < y.2.2
  · simp [c1, lpO]
  by_cases c2 : y.2.2 < x.2.2
  · simp [c1, c2, lpO]
  simp only [c1, c2, if_false, ne_eq, not_true_eq_false, if_true, Int.reduceLT, Int.reduceLE]
  rw [loopW_eq]
  simp [lpO]

theorem cmp_eq (x y : Ed) : m_ref09_Compare x y = some (cmp3 x y) := by
  unfold m_ref09_Compare cmp3
  rw [loopW_eq]
  simp only [ix3_0, Option.bind_some, wr0]
  by_cases a1 : x.1 < y.1
  · simp [a1, lpO]
  by_cases a2 : y.1 < x.1
  · simp [a1, a2, lpO]
  simp only [a1, a2, if_false, if_true, Int.reduceLT]
  rw [loopW_eq]
  simp only [ix3_1, Option.bind_some, wr1]
  by_cases b1 : x.2.1 < y.2.1
  · simp [b1, lpO]
  by_cases b2 : y.2.1 < x.2.1
  · simp [b1, b2, lpO]
  simp only [b1, b2, if_false, if_true, Int.reduceLT]
  rw [loopW_eq]
  simp only [ix3_2, Option.bind_some, wr2]
  by_cases c1 : x.2.2 < y.2.2
  · simp [c1, lpO]
  by_cases c2 : y.2.2 < x.2.2
  · simp [c1, c2, lpO]
  simp only [c1, c2, if_false, if_true, Int.reduceLT]
  rw [loopW_eq]
  simp [lpO]

/-- the program's check is the reference's -/
theorem Check_ref (g : Gr) : m_graph_Check g = m_ref09_Check g := by
  unfold m_graph_Check m_ref09_Check
  have key : ∀ (x : Ed) (k : Bool → Option (Stp Int (Ou Unit Int))), (if (min (min x.1 x.2.1) x.2.2) < 0 then k true else if g.2.1 ≤ (max x.1 x.2.2) then k true else k (decide (g.1 ≤ x.2.1))) =
      (if x.1 < 0 then k true else if g.2.1 ≤ x.1 then k true else if x.2.2 < 0 then k true else if g.2.1 ≤ x.2.2 then k true else if x.2.1 < 0 then k true else k (decide (g.1 ≤ x.2.1))) := by
    intro x k
    by_cases h1 : x.1 < 0
    · rw [if_pos (by omega), if_pos h1]
    by_cases h2 : g.2.1 ≤ x.1
    · rw [if_neg h1, if_pos h2]
      split
      · rfl
      · rw [if_pos (by omega)]
    by_cases h3 : x.2.2 < 0
    · rw [if_neg h1, if_neg h2, if_pos h3, if_pos (by omega)]
    by_cases h4 : g.2.1 ≤ x.2.2
    · rw [if_neg h1, if_neg h2, if_neg h3, if_pos h4]
      split
      · rfl
      · rw [if_pos (by omega)]
    by_cases h5 : x.2.1 < 0
    · rw [if_neg h1, if_neg h2, if_neg h3, if_neg h4, if_pos h5, if_pos (by omega)]
    · rw [if_neg h1, if_neg h2, if_neg h3, if_neg h4, if_neg h5, if_neg (by omega), if_neg (by omega)]
  simp only [by1_eq, cmp_eq, key]

/-- what of a valid graph is used -/
structure VG (g : Gr) : Prop where
  l1 : 1 ≤ g.1
  l2 : g.1 ≤ 256
  s0 : 0 ≤ g.2.1
  s1 : g.2.1 ≤ 64
  el : g.2.2.length ≤ 1024
  ed : ∀ x ∈ g.2.2, 0 ≤ x.1 ∧ x.1 < g.2.1 ∧ 0 ≤ x.2.2 ∧ x.2.2 < g.2.1 ∧ 0 ≤ x.2.1 ∧ x.2.1 < g.1
  ord : ∀ (i : Nat) (h : i + 1 < g.2.2.length), cmp3 (g.2.2[i]'(by omega)) g.2.2[i + 1] < 0

theorem ix_pred {α : Type} {l : List α} {i : Nat} (h : i < l.length) (hm : l.length ≤ 9223372036854775807) (h0 : 0 < i) : idx l (IntKind.wrap .i64 ((i : Int) - 1)) = some (l[i - 1]'(by omega)) := by
  rw [w64 (by omega) (by omega), show ((i : Int) - 1) = ((i - 1 : Nat) : Int) by omega]
  exact ix (by omega)

theorem lpO_ex {V R Y : Type} {o : Option (Ou V R)} {M : V → Option Y} {Rt : R → Option Y} {C : Y → Prop} (Q : Ou V R → Prop) (h : ∃ x, o = some x ∧ Q x) (k : ∀ x, Q x → ∃ e, lpO (some x) M Rt = some e ∧ C e) : ∃ e, lpO o M Rt = some e ∧ C e := by
  obtain ⟨x, rfl, hq⟩ := h
  exact k x hq

theorem Check_tot (g : Gr) : ∃ e, m_ref09_Check g = some e ∧ (e = 0 ↔ VG g) := by
  unfold m_ref09_Check
  simp only [jp]
  by_cases h1 : g.1 < 1
  · exact ⟨12, by simp [h1], by simp; intro v; have := v.l1; omega⟩
  by_cases h2 : 256 < g.1
  · exact ⟨12, by simp [h1, h2], by simp; intro v; have := v.l2; omega⟩
  by_cases h3 : g.2.1 < 0
  · exact ⟨2, by simp [h1, h2, h3], by simp; intro v; have := v.s0; omega⟩
  by_cases h4 : 64 < g.2.1
  · exact ⟨4, by simp [h1, h2, h3, h4], by simp; intro v; have := v.s1; omega⟩
  by_cases h5 : 1024 < (g.2.2.length : Int)
  · exact ⟨4, by simp [h1, h2, h3, h4, h5], by simp; intro v; have := v.el; omega⟩
  simp only [h1, h2, h3, h4, h5, if_false, decide_false, Bool.false_eq_true, cmp_eq, Option.bind_some, if_true]
  refine lpO_ex (fun x => (x = .ret 2 ∧ ¬ VG g) ∨ (x = .ret 10 ∧ ¬ VG g) ∨ (x = .go () ∧ VG g)) ?_ ?_
  · refine loopN g.2.2.length (fun i s => s = (i : Int) ∧ (∀ (j : Nat) (h : j < i) (hj : j < g.2.2.length), 0 ≤ g.2.2[j].1 ∧ g.2.2[j].1 < g.2.1 ∧ 0 ≤ g.2.2[j].2.2 ∧ g.2.2[j].2.2 < g.2.1 ∧ 0 ≤ g.2.2[j].2.1 ∧ g.2.2[j].2.1 < g.1) ∧
        ∀ (j : Nat) (h : j + 1 < i) (hj : j + 1 < g.2.2.length), cmp3 (g.2.2[j]'(by omega)) g.2.2[j + 1] < 0) ?_ ?_ 0 _ (Nat.zero_le _) ⟨rfl, fun _ h => by omega, fun _ h => by omega⟩
    · rintro i s hi ⟨rfl, he, ho⟩
      rw [if_pos (lt_int hi), ix hi]
      simp only [Option.bind_some]
      by_cases hg : 0 ≤ g.2.2[i].1 ∧ g.2.2[i].1 < g.2.1 ∧ 0 ≤ g.2.2[i].2.2 ∧ g.2.2[i].2.2 < g.2.1 ∧ 0 ≤ g.2.2[i].2.1 ∧ g.2.2[i].2.1 < g.1
      · obtain ⟨e1, e2, e3, e4, e5, e6⟩ := hg
        rw [if_neg (by omega), if_neg (by omega), if_neg (by omega), if_neg (by omega), if_neg (by omega)]
        have hd : decide (g.1 ≤ g.2.2[i].2.1) = false := decide_eq_false (by omega)
        rw [hd]
        simp only [Bool.false_eq_true, if_false]
        have he' : ∀ (j : Nat) (h : j < i + 1) (hj : j < g.2.2.length), 0 ≤ g.2.2[j].1 ∧ g.2.2[j].1 < g.2.1 ∧ 0 ≤ g.2.2[j].2.2 ∧ g.2.2[j].2.2 < g.2.1 ∧ 0 ≤ g.2.2[j].2.1 ∧ g.2.2[j].2.1 < g.1 := by
          intro j hj hjl
          by_cases hji : j = i
          · subst hji; exact ⟨e1, e2, e3, e4, e5, e6⟩
          · exact he j (by omega) hjl
        by_cases h0 : 0 < i
        · rw [if_pos (by omega), ix_pred hi (by omega) h0]
          simp only [Option.bind_some]
          by_cases hc : 0 ≤ cmp3 (g.2.2[i - 1]'(by omega)) g.2.2[i]
          · refine .inr ⟨.ret 10, by rw [if_pos (decide_eq_true hc)], .inr (.inl ⟨rfl, fun v => ?_⟩)⟩
            have := v.ord (i - 1) (by omega)
            simp only [show i - 1 + 1 = i by omega] at this
            omega
          · refine .inl ⟨_, by rw [if_neg (by simpa using hc)], by rw [nx (by omega : g.2.2.length ≤ _) hi], he', fun j hj hjl => ?_⟩
            by_cases hji : j + 1 = i
            · have hj' : j = i - 1 := by omega
              subst hj'
              simp only [show i - 1 + 1 = i by omega]
              omega
            · exact ho j (by omega) hjl
        · refine .inl ⟨_, by rw [if_neg (by omega)], by rw [nx (by omega : g.2.2.length ≤ _) hi], he', fun j hj hjl => by omega⟩
      · have hv : ¬ VG g := fun v => hg (v.ed _ (List.getElem_mem hi))
        refine .inr ⟨.ret 2, ?_, .inl ⟨rfl, hv⟩⟩
        by_cases e1 : g.2.2[i].1 < 0
        · rw [if_pos e1]
        rw [if_neg e1]
        by_cases e2 : g.2.1 ≤ g.2.2[i].1
        · rw [if_pos e2]
        rw [if_neg e2]
        by_cases e3 : g.2.2[i].2.2 < 0
        · rw [if_pos e3]
        rw [if_neg e3]
        by_cases e4 : g.2.1 ≤ g.2.2[i].2.2
        · rw [if_pos e4]
        rw [if_neg e4]
        by_cases e5 : g.2.2[i].2.1 < 0
        · rw [if_pos e5]
        rw [if_neg e5, if_pos (decide_eq_true (by omega))]
    · rintro s ⟨rfl, he, ho⟩
      rw [if_neg (not_lt_int _)]
      refine ⟨_, rfl, .inr (.inr ⟨rfl, ⟨by omega, by omega, by omega, by omega, by omega, fun x hx => ?_, fun i h => ho i h h⟩⟩)⟩
      obtain ⟨j, hj, rfl⟩ := List.getElem_of_mem hx
      exact he j hj hj
  · rintro x (⟨rfl, hv⟩ | ⟨rfl, hv⟩ | ⟨rfl, hv⟩)
    · exact ⟨2, rfl, by simp [hv]⟩
    · exact ⟨10, rfl, by simp [hv]⟩
    · exact ⟨0, rfl, by simp [hv]⟩
end Go.AW

/- A step of a set of states, in the program and in the reference. -/
namespace Go.AW
open Go
set_option linter.unusedSimpArgs false
set_option linter.unusedVariables false

theorem asc_uniq {l m : List Int} (hl : l.Pairwise (· < ·)) (hm : m.Pairwise (· < ·)) (h : ∀ x, x ∈ l ↔ x ∈ m) : l = m := by
  have nl : l.Nodup := hl.imp fun h => Int.ne_of_lt h
  have nm : m.Nodup := hm.imp fun h => Int.ne_of_lt h
  have hp : l.Perm m := (List.perm_ext_iff_of_nodup nl nm).2 h
  exact hp.eq_of_pairwise (fun a b _ _ h1 h2 => by omega) hl hm

theorem sortI_mem {l : List Int} {x : Int} : x ∈ sortI l ↔ x ∈ l := (List.mergeSort_perm l _).mem_iff
theorem sortI_asc (l : List Int) : (sortI l).Pairwise (· ≤ ·) := by
  have := List.pairwise_mergeSort (le := fun x y : Int => decide (x ≤ y)) (fun a b c h1 h2 => by simp at *; omega) (fun a b => by simp; omega) l
  exact this.imp fun h => by simpa using h

theorem keeps_iff (d : Array Int) (j : Nat) : Lib.keeps d j = true ↔ j = 0 ∨ d[j]! ≠ d[j - 1]! := by
  simp [Lib.keeps]

theorem compact_asc {l : List Int} (h : l.Pairwise (· ≤ ·)) : (compact_ l).Pairwise (· < ·) := by
  show (Lib.compactUpTo l.toArray l.length).Pairwise (· < ·)
  unfold Lib.compactUpTo
  rw [List.pairwise_map]
  refine List.Pairwise.imp_of_mem ?_ ((List.pairwise_lt_range (n := l.length)).filter _)
  intro i j hi hj hij
  have hi' := List.mem_range.1 (List.mem_filter.1 hi).1
  have hj' := List.mem_range.1 (List.mem_filter.1 hj).1
  have hk := (keeps_iff _ _).1 (List.mem_filter.1 hj).2
  have e1 : l.toArray[i]! = l[i] := by simp [hi']
  have e2 : l.toArray[j]! = l[j] := by simp [hj']
  have e3 : l.toArray[j - 1]! = l[j - 1]'(by omega) := by simp [show j - 1 < l.length by omega]
  rw [e2, e3] at hk
  rw [e1, e2]
  have hp := List.pairwise_iff_getElem.1 h
  have h1 : l[i] ≤ l[j - 1]'(by omega) := by
    by_cases hie : i = j - 1
    · subst hie; exact Int.le_refl _
    · exact hp i (j - 1) hi' (by omega) (by omega)
  have h2 : l[j - 1]'(by omega) ≤ l[j] := hp (j - 1) j (by omega) hj' (by omega)
  omega

theorem compact_has {l : List Int} {x : Int} (h : x ∈ l) : x ∈ compact_ l := by
  show x ∈ Lib.compactUpTo l.toArray l.length
  unfold Lib.compactUpTo
  obtain ⟨i, hi, rfl⟩ := List.getElem_of_mem h
  obtain ⟨j, ⟨hjl, hj⟩, hmin⟩ := least (fun j => ∃ h : j < l.length, l[j] = l[i]) ⟨i, hi, rfl⟩
  refine List.mem_map.2 ⟨j, List.mem_filter.2 ⟨List.mem_range.2 hjl, (keeps_iff _ _).2 ?_⟩, by simp [hjl, hj]⟩
  by_cases h0 : j = 0
  · exact .inl h0
  · right
    intro he
    have e2 : l.toArray[j]! = l[j] := by simp [hjl]
    have e3 : l.toArray[j - 1]! = l[j - 1]'(by omega) := by simp [show j - 1 < l.length by omega]
    rw [e2, e3] at he
    have := hmin (j - 1) ⟨by omega, by rw [← he, hj]⟩
    omega

theorem compact_sort_mem {l : List Int} {x : Int} : x ∈ compact_ (sortI l) ↔ x ∈ l := ⟨fun h => sortI_mem.1 (compact_mem h), fun h => compact_has (sortI_mem.2 h)⟩

/-- the states of a set, ascending -/
def SetOk (g : Gr) (a : List Int) : Prop := a.Pairwise (· < ·) ∧ ∀ x ∈ a, 0 ≤ x ∧ x < g.2.1

/-- all states up to a number -/
def upto (n : Int) : List Int := (List.range n.toNat).map Int.ofNat
theorem mem_upto {n x : Int} : x ∈ upto n ↔ 0 ≤ x ∧ x < n := by
  simp only [upto, List.mem_map, List.mem_range]
  constructor
  · rintro ⟨i, hi, rfl⟩; simp only [Int.ofNat_eq_natCast]; omega
  · rintro ⟨h0, h1⟩; exact ⟨x.toNat, by omega, by simp only [Int.ofNat_eq_natCast]; omega⟩
theorem upto_asc (n : Int) : (upto n).Pairwise (· < ·) := by
  rw [upto, List.pairwise_map]
  exact (List.pairwise_lt_range (n := n.toNat)).imp fun h => by simp only [Int.ofNat_eq_natCast]; omega
theorem upto_len (n : Int) : (upto n).length = n.toNat := by simp [upto]

/-- where a label leads from a set -/
def stepL (g : Gr) (a : List Int) (c : Int) : List Int := (upto g.2.1).filter fun t => g.2.2.any fun e => decide (e.2.2 = t ∧ e.2.1 = c ∧ e.1 ∈ a)
theorem mem_stepL {g : Gr} (hv : VG g) {a : List Int} {c t : Int} : t ∈ stepL g a c ↔ ∃ e ∈ g.2.2, e.2.2 = t ∧ e.2.1 = c ∧ e.1 ∈ a := by
  simp only [stepL, List.mem_filter, List.any_eq_true, decide_eq_true_eq, mem_upto]
  constructor
  · rintro ⟨_, h⟩; exact h
  · rintro ⟨e, he, h1, h2, h3⟩
    have := hv.ed e he
    exact ⟨by omega, e, he, h1, h2, h3⟩
theorem stepL_ok (g : Gr) (a : List Int) (c : Int) : SetOk g (stepL g a c) :=
  ⟨(upto_asc _).filter _, fun x hx => mem_upto.1 (List.mem_filter.1 hx).1⟩
theorem upto_ok (g : Gr) : SetOk g (upto g.2.1) := ⟨upto_asc _, fun x hx => mem_upto.1 hx⟩

theorem setOk_len {g : Gr} {a : List Int} (hv : VG g) (h : SetOk g a) : a.length ≤ 64 := by
  have e : a = (upto g.2.1).filter fun x => decide (x ∈ a) := asc_uniq h.1 ((upto_asc _).filter _) fun x => by
    simp only [List.mem_filter, mem_upto, decide_eq_true_eq]
    exact ⟨fun hx => ⟨h.2 x hx, hx⟩, fun hx => hx.2⟩
  rw [e]
  refine Nat.le_trans (List.length_filter_le _ _) ?_
  rw [upto_len]
  have := hv.s1
  omega

/-- the check of a set -/
theorem checkSet_ok {g : Gr} {a : List Int} (h : SetOk g a) (hm : a.length ≤ 9223372036854775807) : m_graph_checkSet g a = some 0 := by
  unfold m_graph_checkSet
  simp only [jp]
  refine lpL (loop_is (fun i => (i : Int)) a.length (Ou.go ()) (fun i hi => ?_) (by rw [if_neg (not_lt_int _)]) rfl) rfl
  obtain ⟨h0, h1⟩ := h.2 a[i] (List.getElem_mem hi)
  rw [if_pos (lt_int hi), ix hi]
  simp only [Option.bind_some]
  rw [if_neg (by omega)]
  have hd : decide (g.2.1 ≤ a[i]) = false := decide_eq_false (by omega)
  simp only [hd, Bool.false_eq_true, if_false]
  by_cases hz : 0 < i
  · have hlt := List.pairwise_iff_getElem.1 h.1 (i - 1) i (by omega) hi (by omega)
    rw [if_pos (by omega), ix_pred hi hm hz]
    simp only [Option.bind_some]
    have hd2 : decide (a[i] ≤ a[i - 1]'(by omega)) = false := decide_eq_false (by omega)
    simp only [hd2, Bool.false_eq_true, if_false, nx hm hi]
  · rw [if_neg (by omega)]
    simp only [Bool.false_eq_true, if_false, nx hm hi]

/-- what the edges of a state with a label lead to -/
def outL (g : Gr) (s c : Int) : List Int := ((leaveL g.2.2 s).filter fun x => decide (x.2.2.1 = c)).map fun x => x.2.2.2
theorem mem_leaveL {es : List Ed} {s : Int} {x : Ed} : (∃ i, (i, x) ∈ leaveL es s) ↔ x ∈ es ∧ x.1 = s := by
  constructor
  · rintro ⟨i, h⟩
    obtain ⟨p, hp, he⟩ := List.mem_map.1 h
    obtain ⟨hp1, hp2⟩ := List.mem_filter.1 hp
    cases he
    exact ⟨List.fst_mem_of_mem_zipIdx hp1, of_decide_eq_true hp2⟩
  · rintro ⟨hm, hs⟩
    obtain ⟨k, hk, rfl⟩ := List.getElem_of_mem hm
    exact ⟨_, List.mem_map.2 ⟨(es[k], k), List.mem_filter.2 ⟨by rw [List.mem_zipIdx_iff_getElem?]; exact List.getElem?_eq_getElem hk, decide_eq_true hs⟩, rfl⟩⟩
theorem mem_outL {g : Gr} {s c t : Int} : t ∈ outL g s c ↔ ∃ e ∈ g.2.2, e.2.2 = t ∧ e.2.1 = c ∧ e.1 = s := by
  simp only [outL, List.mem_map, List.mem_filter, decide_eq_true_eq]
  constructor
  · rintro ⟨⟨i, x⟩, ⟨hm, hc⟩, rfl⟩
    obtain ⟨h1, h2⟩ := mem_leaveL.1 ⟨i, hm⟩
    exact ⟨x, h1, rfl, hc, h2⟩
  · rintro ⟨x, hx, rfl, hc, hs⟩
    obtain ⟨i, hi⟩ := mem_leaveL.2 ⟨hx, hs⟩
    exact ⟨(i, x), ⟨hi, hc⟩, rfl⟩
theorem outL_len (g : Gr) (s c : Int) : (outL g s c).length ≤ g.2.2.length := by
  simp only [outL, leaveL, List.length_map]
  refine Nat.le_trans (List.length_filter_le _ _) ?_
  rw [List.length_map]
  refine Nat.le_trans (List.length_filter_le _ _) ?_
  simp

theorem fold_out (c : Int) : ∀ (L : List (Int × Ed)) (acc : List Int), L.foldl (fun (a : List Int) (x : Int × Ed) => if x.2.2.1 = c then a ++ [x.2.2.2] else a) acc = acc ++ (L.filter fun x => decide (x.2.2.1 = c)).map fun x => x.2.2.2
  | [], acc => by simp
  | x :: L, acc => by
    rw [List.foldl_cons, fold_out c L]
    by_cases h : x.2.2.1 = c
    · rw [if_pos h, List.filter_cons_of_pos (by simpa using h)]; simp
    · rw [if_neg h, List.filter_cons_of_neg (by simpa using h)]

theorem forL_foldI {S α X : Type} {body : S → α → Option (Stp S X)} (f : S → α → S) (P : Nat → S → Prop) : ∀ (L : List α) (s : S) (k : Nat), (∀ i s x, i < L.length → x ∈ L → P (k + i) s → body s x = some (.next (f s x)) ∧ P (k + i + 1) (f s x)) → P k s → forL body L s = some (.go (L.foldl f s))
  | [], _, _, _, _ => rfl
  | x :: L, s, k, h, hs => by
    obtain ⟨h1, h2⟩ := h 0 s x (by simp) (List.mem_cons_self ..) hs
    simp only [forL, h1]
    exact forL_foldI f P L _ (k + 1) (fun i s y hi hy hP => by
      have e : k + 1 + i = k + (i + 1) := by omega
      rw [e] at hP ⊢
      exact h (i + 1) s y (by simp; omega) (List.mem_cons_of_mem _ hy) hP) h2

theorem fits_le {k n : Nat} (h : n * k ≤ 140737488355328) (h2 : n ≤ 1048576) : fits k n := ⟨h, by simp only [maxLen]; omega⟩

/-- a step of the program -/
theorem Step_eq {g : Gr} (hv : VG g) {a : List Int} (ha : SetOk g a) {c : Int} (h0 : 0 ≤ c) (h1 : c < g.1) : m_graph_Step g a c = some (stepL g a c, 0) := by
  obtain ⟨e, he, hz⟩ := Check_tot g
  have he0 := hz.2 hv
  subst he0
  have hl := setOk_len hv ha
  have hel := hv.el
  unfold m_graph_Step
  rw [Check_ref, he, Option.bind_some, checkSet_ok ha (by omega)]
  simp only [ne_eq, not_true_eq_false, if_false, Option.bind_some, jp]
  rw [if_neg (by omega)]
  have hd : decide (g.1 ≤ c) = false := decide_eq_false (by omega)
  simp only [hd, Bool.false_eq_true, if_false]
  have hy : ∀ x, y_graph_leaving g x = some (leaveL g.2.2 x) := fun x => by unfold y_graph_leaving; rw [if_pos (by omega)]
  have hlen : ∀ i, i ≤ a.length → ((a.take i).flatMap fun s => outL g s c).length ≤ i * 1024 := by
    intro i
    induction i with
    | zero => intro _; simp
    | succ i ih =>
      intro hi
      have := ih (by omega)
      rw [List.take_add_one, List.getElem?_eq_getElem (by omega)]
      simp only [Option.toList_some, List.flatMap_append, List.flatMap_cons, List.flatMap_nil, List.append_nil, List.length_append]
      have h2 := outL_len g a[i] c
      omega
  refine bindL (loop_is (fun i => ((i : Int), (a.take i).flatMap fun s => outL g s c)) a.length (a.flatMap fun s => outL g s c) (fun i hi => ?_) ?_ (by simp)) ?_
  · dsimp only
    rw [if_pos (lt_int hi), ix hi]
    simp only [Option.bind_some, hy]
    have hb := hlen i (by omega)
    have hll : (leaveL g.2.2 a[i]).length ≤ 1024 := by
      simp only [leaveL, List.length_map]
      refine Nat.le_trans (List.length_filter_le _ _) ?_
      simp; omega
    rw [forL_foldI (fun (acc : List Int) (x : Int × Ed) => if x.2.2.1 = c then acc ++ [x.2.2.2] else acc) (fun k s => s.length ≤ i * 1024 + k) _ _ 0 (fun k s x hk hx hP => ?_) (Nat.le_trans hb (Nat.le_add_right _ _))]
    · simp only [lpO, nx (by omega : a.length ≤ _) hi, fold_out, Option.some.injEq, Stp.next.injEq, Prod.mk.injEq, true_and]
      rw [List.take_add_one, List.getElem?_eq_getElem hi]
      simp only [Option.toList_some, List.flatMap_append, List.flatMap_cons, List.flatMap_nil, List.append_nil]
      rfl
    · by_cases hc : x.2.2.1 = c
      · rw [if_pos hc, if_pos hc, if_pos (fits_le (by simp; omega) (by simp; omega))]
        exact ⟨rfl, by simp; omega⟩
      · rw [if_neg hc, if_neg hc]
        exact ⟨rfl, by omega⟩
  · dsimp only
    rw [if_neg (not_lt_int _), List.take_length]
  · have hb := hlen a.length (Nat.le_refl _)
    rw [List.take_length] at hb
    rw [if_pos (by omega)]
    congr 2
    refine asc_uniq (compact_asc (sortI_asc _)) (stepL_ok g a c).1 fun x => ?_
    rw [compact_sort_mem, mem_stepL hv]
    simp only [List.mem_flatMap, mem_outL]
    constructor
    · rintro ⟨s, hs, e, he, h1, h2, rfl⟩; exact ⟨e, he, h1, h2, hs⟩
    · rintro ⟨e, he, h1, h2, hs⟩; exact ⟨_, hs, e, he, h1, h2, rfl⟩
end Go.AW

/- The words of a graph: the reference's lists, and the program's. -/
namespace Go.AW
open Go
set_option linter.unusedSimpArgs false
set_option linter.unusedVariables false

theorem has_eq {l : List Int} (hm : l.length ≤ 9223372036854775807) (n : Int) : m_ref11_has l n = some (decide (n ∈ l)) := by
  unfold m_ref11_has
  refine lpL (loop_any (fun i => (i : Int)) l.length (fun i => decide (l.getD i 0 = n)) (Ou.ret true) (Ou.go ()) (fun i hi => ?_) (by rw [if_neg (not_lt_int _)]) rfl) ?_
  · have e1 : l.getD i 0 = l[i] := by simp [List.getD, hi]
    rw [if_pos (lt_int hi), ix hi]
    simp only [Option.bind_some, nx hm hi, e1, decide_eq_true_eq]
  · by_cases h : n ∈ l
    · obtain ⟨i, hi, he⟩ := List.getElem_of_mem h
      rw [if_pos]
      · simp [lpO, h]
      · exact List.any_eq_true.2 ⟨i, List.mem_range.2 hi, by simp [List.getD, hi, he]⟩
    · rw [if_neg]
      · simp [lpO, h]
      · intro hx
        obtain ⟨i, hi, hp⟩ := List.any_eq_true.1 hx
        have hi := List.mem_range.1 hi
        have e1 : l.getD i 0 = l[i] := by simp [List.getD, hi]
        rw [e1] at hp
        exact h (of_decide_eq_true hp ▸ List.getElem_mem hi)

/-- a step of the reference -/
theorem refStep_eq {g : Gr} (hv : VG g) {a : List Int} (hl : a.length ≤ 9223372036854775807) {c : Int} : m_ref11_Step g a c = some (stepL g a c) := by
  have hel := hv.el
  have hs1 := hv.s1
  have hs0 := hv.s0
  obtain ⟨m, hm⟩ := Int.eq_ofNat_of_zero_le hs0
  have hfl : ∀ i, ((((List.range i).map Int.ofNat).filter fun t => g.2.2.any fun e => decide (e.2.2 = t ∧ e.2.1 = c ∧ e.1 ∈ a)) : List Int).length ≤ i := fun i => Nat.le_trans (List.length_filter_le _ _) (by simp)
  unfold m_ref11_Step
  refine bindL (loop_is (fun i => ((i : Int), ((List.range i).map Int.ofNat).filter fun t => g.2.2.any fun e => decide (e.2.2 = t ∧ e.2.1 = c ∧ e.1 ∈ a))) m (stepL g a c) (fun i hi => ?_) ?_ (by simp)) rfl
  · dsimp only
    rw [if_pos (by omega)]
    simp only [jp]
    have hin : loopW (S := Bool × Int) (X := Bool) (fun a9 =>
              if a9.2 < ((g.2.2).length : Int) then
                (idx g.2.2 a9.2).bind fun x19 =>
                  if x19.2.2 = (i : Int) then
                    (idx g.2.2 a9.2).bind fun x21 =>
                      if x21.2.1 = c then
                        (idx g.2.2 a9.2).bind fun x23 => (m_ref11_has a x23.1).bind fun x25 => if x25 = true then some (Stp.next (true, IntKind.wrap .i64 (a9.2 + 1))) else some (Stp.next (a9.1, IntKind.wrap .i64 (a9.2 + 1)))
                      else if false = true then some (Stp.next (true, IntKind.wrap .i64 (a9.2 + 1))) else some (Stp.next (a9.1, IntKind.wrap .i64 (a9.2 + 1)))
                  else if false = true then some (Stp.next (true, IntKind.wrap .i64 (a9.2 + 1))) else some (Stp.next (a9.1, IntKind.wrap .i64 (a9.2 + 1)))
              else
                some (Stp.exit a9.1)) (false, 0) = some (g.2.2.any fun e => decide (e.2.2 = (i : Int) ∧ e.2.1 = c ∧ e.1 ∈ a)) := by
      refine loop_is (fun k => ((g.2.2.take k).any fun e => decide (e.2.2 = (i : Int) ∧ e.2.1 = c ∧ e.1 ∈ a), (k : Int))) g.2.2.length _ (fun k hk => ?_) ?_ (by simp)
      · dsimp only
        rw [if_pos (lt_int hk), ix hk]
        simp only [Option.bind_some, has_eq hl, nx (by omega : g.2.2.length ≤ _) hk, Bool.false_eq_true, if_false, decide_eq_true_eq]
        have e : (g.2.2.take (k + 1)).any (fun e => decide (e.2.2 = (i : Int) ∧ e.2.1 = c ∧ e.1 ∈ a)) = ((g.2.2.take k).any (fun e => decide (e.2.2 = (i : Int) ∧ e.2.1 = c ∧ e.1 ∈ a)) || decide (g.2.2[k].2.2 = (i : Int) ∧ g.2.2[k].2.1 = c ∧ g.2.2[k].1 ∈ a)) := by
          rw [List.take_add_one, List.getElem?_eq_getElem hk, List.any_append]
          congr 1
          simp
        rw [e]
        by_cases h1 : g.2.2[k].2.2 = (i : Int)
        · by_cases h2 : g.2.2[k].2.1 = c
          · by_cases h3 : g.2.2[k].1 ∈ a
            · simp [h1, h2, h3]
            · simp [h1, h2, h3]
          · simp [h1, h2]
        · simp [h1]
      · dsimp only
        rw [if_neg (not_lt_int _), List.take_length]
    rw [hin]
    simp only [Option.bind_some]
    have er : (List.range (i + 1)).map Int.ofNat = (List.range i).map Int.ofNat ++ [(i : Int)] := by rw [List.range_succ, List.map_append]; rfl
    rw [er, List.filter_append]
    by_cases hb : (g.2.2.any fun e => decide (e.2.2 = (i : Int) ∧ e.2.1 = c ∧ e.1 ∈ a)) = true
    · have := hfl i
      rw [if_pos hb, if_pos (fits_le (by simp only [List.length_cons, List.length_nil]; omega) (by simp only [List.length_cons, List.length_nil]; omega)), nx (by omega : m ≤ _) hi, List.filter_cons_of_pos (by exact hb)]
      rfl
    · rw [if_neg hb, nx (by omega : m ≤ _) hi, List.filter_cons_of_neg (by exact hb)]
      simp
  · dsimp only
    rw [if_neg (by omega)]
    simp only [stepL, upto, hm, Int.toNat_natCast]

theorem All_eq {g : Gr} (hv : VG g) : m_ref11_All g = some (upto g.2.1) := by
  have hs1 := hv.s1
  obtain ⟨m, hm⟩ := Int.eq_ofNat_of_zero_le hv.s0
  unfold m_ref11_All
  refine bindL (loop_is (fun i => ((i : Int), (List.range i).map Int.ofNat)) m (upto g.2.1) (fun i hi => ?_) ?_ (by simp)) rfl
  · dsimp only
    rw [if_pos (by omega), if_pos (fits_le (by simp; omega) (by simp; omega)), nx (by omega : m ≤ _) hi, List.range_succ, List.map_append]
    rfl
  · dsimp only
    rw [if_neg (by omega)]
    simp only [upto, hm, Int.toNat_natCast]
theorem states_eq {g : Gr} (hv : VG g) : m_language_states g = some (upto g.2.1) := by
  have hs1 := hv.s1
  obtain ⟨m, hm⟩ := Int.eq_ofNat_of_zero_le hv.s0
  unfold m_language_states
  rw [if_pos (by omega)]
  simp only [hm, Int.toNat_natCast, List.length_replicate]
  refine bindL (loop_is (fun i => ((i : Int), (List.range i).map Int.ofNat ++ List.replicate (m - i) (0 : Int))) m (upto m) (fun i hi => ?_) ?_ (by simp)) rfl
  · dsimp only
    have hlen : ((List.range i).map Int.ofNat ++ List.replicate (m - i) (0 : Int)).length = m := by simp; omega
    rw [if_pos (lt_int hi), ix (by omega)]
    simp only [Option.bind_some, nx (by omega : m ≤ _) hi, Int.toNat_natCast]
    congr 3
    rw [List.set_append_right _ _ (by simp), List.range_succ, List.map_append]
    have e : m - i = (m - (i + 1)) + 1 := by omega
    simp only [List.length_map, List.length_range, Nat.sub_self, e, List.replicate_succ, List.set_cons_zero]
    simp
  · dsimp only
    rw [if_neg (not_lt_int _)]
    simp [upto]
end Go.AW

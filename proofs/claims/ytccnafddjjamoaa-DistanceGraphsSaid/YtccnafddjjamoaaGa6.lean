/- DistanceGraphs: for every graph and both numbers the law's function returns true, and the input reads as it did. -/
import Derived.Test.YtccnafddjjamoaaGa5
import Derived.ChangeMaps5
import Derived.OpenShut
import Derived.ProofKit
import Derived.SliceStrings
import Derived.Test.YtccnafddjjamoaaRows
import Derived.WalkKit
import Derived.WideKeyArgs
namespace Go.AW
open Go Go.Proofs
set_option linter.unusedVariables false
set_option maxHeartbeats 1600000 in
set_option maxRecDepth 100000 in
theorem w_ref11_grow {p0 : TLabelsStatesEdges} {p1 : List (TWordEnds)} {r : (List (TWordEnds))} (h : m_ref11_grow p0 p1 = some r) : Pure Try.prog 176 [HV.agg [HV.int .i64 p0.1, HV.int .i64 p0.2.1, slE eFromLabelTo p0.2.2], slE eWordEnds p1] (· = slE eWordEnds r) := by
  unfold m_ref11_grow at h
  refine Pure.of_body Try.func176 rfl rfl (Nat.le_of_ble_eq_true rfl) fun hf => ?_
  unfold Try.f176
  dsimp only [enumS, Nat.reduceAdd]
  refine AW.rgs rfl fun K hK => ?_
  refine b_op rfl (o_box rfl rfl rfl ?_)
  refine mv rfl rfl ?_
  refine b_nil (hK _ (AW.to (to_le (s' := ⟨[(1, slE eWordEnds p1), (2, HV.fptr [HV.int .i64 p0.1, HV.int .i64 p0.2.1, slE eFromLabelTo p0.2.2] 0)], []⟩) (AS.le_of ⟨rfl, rfl, trivial⟩ trivial) ?_)))
  clear hK K
  refine AW.rgs rfl fun K hK => ?_
  refine b_op rfl (o_bslM (fid := 176) 176009 rfl rfl rfl (as_of (cs := []) ty189 ty211 rfl rfl rfl rfl rfl) (fun v1 => ?_))
  refine mv rfl rfl ?_
  refine b_nil (hK _ (AW.to (to_le (s' := ⟨[(1, slE eWordEnds p1), (2, HV.fptr [HV.int .i64 p0.1, HV.int .i64 p0.2.1, slE eFromLabelTo p0.2.2] 0), (5, HV.ar 176009 v1 eWordEnds.k 0 0)], [(176009, v1, .arr eWordEnds.k 211 [])]⟩) (AS.le_of ⟨rfl, rfl, rfl, trivial⟩ ⟨rfl, trivial⟩) ?_)))
  clear hK K
  refine AW.seq ?_
  refine AW.rgs rfl fun K hK => ?_
  refine mv rfl rfl ?_
  refine b_nil (hK _ (AW.to (to_le (s' := ⟨[(1, slE eWordEnds p1), (2, HV.fptr [HV.int .i64 p0.1, HV.int .i64 p0.2.1, slE eFromLabelTo p0.2.2] 0), (5, HV.ar 176009 v1 eWordEnds.k 0 0), (6, HV.int .i64 0)], [(176009, v1, .arr eWordEnds.k 211 [])]⟩) (AS.le_of ⟨rfl, rfl, rfl, rfl, trivial⟩ ⟨rfl, trivial⟩) ?_)))
  clear hK K
  refine AW.lpX h (by first | exact up_then | exact up_to) (S := Int × (List TWordEnds)) (V := Nat) (fun a v => ⟨[(1, slE eWordEnds p1), (2, HV.fptr [HV.int .i64 p0.1, HV.int .i64 p0.2.1, slE eFromLabelTo p0.2.2] 0), (5, HV.ar 176009 v eWordEnds.k 0 ((a.2).length)), (6, HV.int .i64 a.1)], [(176009, v, .arr eWordEnds.k 211 (eWordEnds.E a.2))]⟩) ?_ (X := (List TWordEnds)) (W := Nat) (fun a v => ⟨[(5, HV.ar 176009 v eWordEnds.k 0 ((a).length))], [(176009, v, .arr eWordEnds.k 211 (eWordEnds.E a))]⟩) (fun a25 w26 h => ?_) (fun a2 w3 st4 h => ?_)
  · exact to_le (s' := ⟨[(1, slE eWordEnds p1), (2, HV.fptr [HV.int .i64 p0.1, HV.int .i64 p0.2.1, slE eFromLabelTo p0.2.2] 0), (5, HV.ar 176009 v1 eWordEnds.k 0 0), (6, HV.int .i64 0)], [(176009, v1, .arr eWordEnds.k 211 [])]⟩) (AS.le_of ⟨rfl, rfl, rfl, rfl, trivial⟩ ⟨rfl, trivial⟩) ⟨v1, rfl⟩
  · refine AW.rgs rfl fun K hK => ?_
    refine mv rfl rfl ?_
    refine mv rfl rfl ?_
    refine b_nil (hK _ (AW.to (to_le (s' := ⟨[(4, HV.ar 176009 w26 eWordEnds.k 0 ((a25).length))], [(176009, w26, .arr eWordEnds.k 211 (eWordEnds.E a25))]⟩) (AS.le_of ⟨rfl, trivial⟩ ⟨rfl, trivial⟩) ?_)))
    clear hK K
    refine AW.to (to_frz 2 [(176009, w26, .arr eWordEnds.k 211 (eWordEnds.E a25))] ⟨[(4, slE eWordEnds a25)], []⟩ ⟨⟨_, rfl, frz_slE eWordEnds (l := a25) rfl fun _ _ => rfl⟩, trivial⟩ trivial ⟨rfl, trivial⟩ ⟨rfl, trivial⟩ ?_)
    refine AW.ret ?_
    have h := Option.some.inj h
    subst h
    exact ret_pure (hs := [slE eWordEnds a25]) (q := slE eWordEnds a25) (.inr rfl) (resT rfl rfl) rfl (clean_slE fun _ _ => ⟨trivial, (clean_slE fun _ _ => ⟨trivial, trivial⟩), trivial⟩)
  · refine AW.seq ?_
    refine AW.rgs rfl fun K hK => ?_
    refine mv rfl rfl ?_
    refine mv rfl rfl ?_
    refine bv rfl (v_lenF rfl rfl ty189 rfl) ?_
    refine bv rfl (v_bin rfl rfl b_lss) ?_
    refine b_nil (hK _ (AW.to (to_le (s' := ⟨[(1, slE eWordEnds p1), (2, HV.fptr [HV.int .i64 p0.1, HV.int .i64 p0.2.1, slE eFromLabelTo p0.2.2] 0), (5, HV.ar 176009 w3 eWordEnds.k 0 ((a2.2).length)), (6, HV.int .i64 a2.1), (13, HV.bool (decide (a2.1 < ((p1).length : Int))))], [(176009, w3, .arr eWordEnds.k 211 (eWordEnds.E a2.2))]⟩) (AS.le_of ⟨rfl, rfl, rfl, rfl, rfl, trivial⟩ ⟨rfl, trivial⟩) ?_)))
    clear hK K
    refine AW.cond rfl (fun hc => ?_) (fun hc => ?_)
    · have hc := of_decide_eq_true hc
      have h := ifT hc h
      refine AW.skip ?_
      refine AW.seq (AW.block ?_)
      refine AW.rgs rfl fun K hK => ?_
      refine mv rfl rfl ?_
      refine b_nil (hK _ (AW.to (to_le (s' := ⟨[(1, slE eWordEnds p1), (2, HV.fptr [HV.int .i64 p0.1, HV.int .i64 p0.2.1, slE eFromLabelTo p0.2.2] 0), (5, HV.ar 176009 w3 eWordEnds.k 0 ((a2.2).length)), (6, HV.int .i64 a2.1), (7, HV.int .i64 0)], [(176009, w3, .arr eWordEnds.k 211 (eWordEnds.E a2.2))]⟩) (AS.le_of ⟨rfl, rfl, rfl, rfl, rfl, trivial⟩ ⟨rfl, trivial⟩) ?_)))
      clear hK K
      refine AW.lpX h (by first | exact up_then | exact up_to) (S := Int × (List TWordEnds)) (V := Nat) (fun a v => ⟨[(1, slE eWordEnds p1), (2, HV.fptr [HV.int .i64 p0.1, HV.int .i64 p0.2.1, slE eFromLabelTo p0.2.2] 0), (5, HV.ar 176009 v eWordEnds.k 0 ((a.2).length)), (6, HV.int .i64 a2.1), (7, HV.int .i64 a.1)], [(176009, v, .arr eWordEnds.k 211 (eWordEnds.E a.2))]⟩) ?_ (X := (List TWordEnds)) (W := Nat) (fun a v => ⟨[(1, slE eWordEnds p1), (2, HV.fptr [HV.int .i64 p0.1, HV.int .i64 p0.2.1, slE eFromLabelTo p0.2.2] 0), (5, HV.ar 176009 v eWordEnds.k 0 ((a).length)), (6, HV.int .i64 a2.1)], [(176009, v, .arr eWordEnds.k 211 (eWordEnds.E a))]⟩) (fun a23 w24 h => ?_) (fun a6 w7 st8 h => ?_)
      · exact to_le (s' := ⟨[(1, slE eWordEnds p1), (2, HV.fptr [HV.int .i64 p0.1, HV.int .i64 p0.2.1, slE eFromLabelTo p0.2.2] 0), (5, HV.ar 176009 w3 eWordEnds.k 0 ((a2.2).length)), (6, HV.int .i64 a2.1), (7, HV.int .i64 0)], [(176009, w3, .arr eWordEnds.k 211 (eWordEnds.E a2.2))]⟩) (AS.le_of ⟨rfl, rfl, rfl, rfl, rfl, trivial⟩ ⟨rfl, trivial⟩) ⟨w3, rfl⟩
      · refine AW.rg rfl fun K hK => ?_
        refine mv rfl rfl ?_
        refine bv rfl (v_bin rfl rfl b_add) ?_
        refine mv rfl rfl ?_
        refine b_nil (hK _ ?_)
        clear hK K
        exact to_le (s' := ⟨[(1, slE eWordEnds p1), (2, HV.fptr [HV.int .i64 p0.1, HV.int .i64 p0.2.1, slE eFromLabelTo p0.2.2] 0), (5, HV.ar 176009 w24 eWordEnds.k 0 ((a23).length)), (6, HV.int .i64 (IntKind.wrap .i64 (a2.1 + 1)))], [(176009, w24, .arr eWordEnds.k 211 (eWordEnds.E a23))]⟩) (AS.le_of ⟨rfl, rfl, rfl, rfl, trivial⟩ ⟨rfl, trivial⟩) ⟨(IntKind.wrap .i64 (a2.1 + 1), a23), w24, h, rfl⟩
      · refine AW.seq ?_
        refine AW.rgs rfl fun K hK => ?_
        refine mv rfl rfl ?_
        refine bv rfl (v_fieldAddrF fo24_0 rfl) ?_
        refine bv rfl (v_loadF ty3 rfl (l_lit rfl rfl)) ?_
        refine bv rfl (v_bin rfl rfl b_lss) ?_
        refine b_nil (hK _ (AW.to (to_le (s' := ⟨[(1, slE eWordEnds p1), (2, HV.fptr [HV.int .i64 p0.1, HV.int .i64 p0.2.1, slE eFromLabelTo p0.2.2] 0), (5, HV.ar 176009 w7 eWordEnds.k 0 ((a6.2).length)), (6, HV.int .i64 a2.1), (7, HV.int .i64 a6.1), (19, HV.bool (decide (a6.1 < p0.1)))], [(176009, w7, .arr eWordEnds.k 211 (eWordEnds.E a6.2))]⟩) (AS.le_of ⟨rfl, rfl, rfl, rfl, rfl, rfl, trivial⟩ ⟨rfl, trivial⟩) ?_)))
        clear hK K
        refine AW.cond rfl (fun hc => ?_) (fun hc => ?_)
        · have hc := of_decide_eq_true hc
          have h := ifT hc h
          refine AW.skip ?_
          refine AW.seqJ h (S := (List TWordEnds)) (V := Nat) (fun a v => ⟨[(1, slE eWordEnds p1), (2, HV.fptr [HV.int .i64 p0.1, HV.int .i64 p0.2.1, slE eFromLabelTo p0.2.2] 0), (5, HV.ar 176009 v eWordEnds.k 0 ((a).length)), (6, HV.int .i64 a2.1), (7, HV.int .i64 a6.1)], [(176009, v, .arr eWordEnds.k 211 (eWordEnds.E a))]⟩) (fun a10 w11 h => ?_) (fun k12 h => ?_)
          · refine AW.rg rfl fun K hK => ?_
            refine mv rfl rfl ?_
            refine bv rfl (v_bin rfl rfl b_add) ?_
            refine mv rfl rfl ?_
            refine b_nil (hK _ ?_)
            clear hK K
            exact to_le (s' := ⟨[(1, slE eWordEnds p1), (2, HV.fptr [HV.int .i64 p0.1, HV.int .i64 p0.2.1, slE eFromLabelTo p0.2.2] 0), (5, HV.ar 176009 w11 eWordEnds.k 0 ((a10).length)), (6, HV.int .i64 a2.1), (7, HV.int .i64 (IntKind.wrap .i64 (a6.1 + 1)))], [(176009, w11, .arr eWordEnds.k 211 (eWordEnds.E a10))]⟩) (AS.le_of ⟨rfl, rfl, rfl, rfl, rfl, trivial⟩ ⟨rfl, trivial⟩) ⟨(IntKind.wrap .i64 (a6.1 + 1), a10), w11, h, rfl⟩
          · refine AW.block ?_
            refine AW.dgs 9 follows rfl rfl fun K hK => ?_
            refine sv rfl (v_loadF ty24 rfl (l_litA rfl (Nat.le_of_ble_eq_true rfl) rfl)) ?_
            refine sm rfl rfl ?_
            refine sm rfl rfl ?_
            obtain ⟨x13, h14, h⟩ := bS h
            refine sv rfl (v_idxF ty189 es189 rfl rfl (idx_lt h14)) ?_
            refine sv rfl (v_fieldAddrF fo211_1 rfl) ?_
            refine sv rfl (v_loadF ty42 rfl (l_cell eWordEnds h14 (o := 1) rfl rfl)) ?_
            refine sm rfl rfl ?_
            obtain ⟨x15, h16, h⟩ := bS h
            refine s_op rfl rfl (ops_call rfl rfl rfl rfl (ACallD.pure0 (w_ref11_Step h16)) ?_)
            refine sm rfl rfl ?_
            refine s_nil ?_
            refine b_nil (hK _ (AW.to (to_le (s' := ⟨[(1, slE eWordEnds p1), (2, HV.fptr [HV.int .i64 p0.1, HV.int .i64 p0.2.1, slE eFromLabelTo p0.2.2] 0), (5, HV.ar 176009 w7 eWordEnds.k 0 ((a6.2).length)), (6, HV.int .i64 a2.1), (7, HV.int .i64 a6.1), (8, slE eInt x15)], [(176009, w7, .arr eWordEnds.k 211 (eWordEnds.E a6.2))]⟩) (AS.le_of ⟨rfl, rfl, rfl, rfl, rfl, rfl, trivial⟩ ⟨rfl, trivial⟩) ?_)))
            clear hK K
            refine AW.rgs rfl fun K hK => ?_
            refine mv rfl rfl ?_
            refine bv rfl (v_lenF rfl rfl ty42 rfl) ?_
            refine bv rfl (v_bin rfl rfl b_gtr) ?_
            refine b_nil (hK _ (AW.to (to_le (s' := ⟨[(1, slE eWordEnds p1), (2, HV.fptr [HV.int .i64 p0.1, HV.int .i64 p0.2.1, slE eFromLabelTo p0.2.2] 0), (5, HV.ar 176009 w7 eWordEnds.k 0 ((a6.2).length)), (6, HV.int .i64 a2.1), (7, HV.int .i64 a6.1), (8, slE eInt x15), (32, HV.bool (decide (0 < ((x15).length : Int))))], [(176009, w7, .arr eWordEnds.k 211 (eWordEnds.E a6.2))]⟩) (AS.le_of ⟨rfl, rfl, rfl, rfl, rfl, rfl, rfl, trivial⟩ ⟨rfl, trivial⟩) ?_)))
            clear hK K
            refine AW.cond rfl (fun hc => ?_) (fun hc => ?_)
            · have hc := of_decide_eq_true hc
              have h := ifT hc h
              refine AW.dg 14 follows rfl rfl fun K hK => ?_
              refine sm rfl rfl ?_
              refine sm rfl rfl ?_
              refine sm rfl rfl ?_
              obtain ⟨x17, h18, h⟩ := bS h
              refine sv rfl (v_idxF ty189 es189 rfl rfl (idx_lt h18)) ?_
              refine sv rfl (v_fieldAddrF fo211_0 rfl) ?_
              refine sv rfl (v_loadF ty9 rfl (l_cell eWordEnds h18 (o := 0) rfl rfl)) ?_
              refine sm rfl rfl ?_
              refine sm rfl rfl ?_
              refine sv rfl (v_bin rfl rfl b_add) ?_
              obtain ⟨h19, h⟩ := ifN h
              refine sv rfl (v_sliceS ty9 rfl rfl rfl h19) ?_
              obtain ⟨h20, h⟩ := ifN h
              refine sv rfl (v_bin rfl rfl (b_sadd h20)) ?_
              refine sm rfl rfl ?_
              refine s_op rfl rfl (ops_build (cs := [HV.str (x17.1 ++ ((([48, 49, 50, 51, 52, 53, 54, 55, 56, 57, 97, 98, 99, 100, 101, 102] : List UInt8).take (IntKind.wrap .i64 (a6.1 + 1)).toNat).drop (a6.1).toNat)), slE eInt x15]) rfl (bl_of ty211 rfl rfl rfl rfl) ?_)
              refine s_op rfl rfl (ops_bsl rfl rfl (as_of (cs := [HV.str (x17.1 ++ ((([48, 49, 50, 51, 52, 53, 54, 55, 56, 57, 97, 98, 99, 100, 101, 102] : List UInt8).take (IntKind.wrap .i64 (a6.1 + 1)).toNat).drop (a6.1).toNat)), slE eInt x15]) ty189 ty211 rfl rfl rfl rfl rfl) ?_)
              refine s_nil ?_
              obtain ⟨h22, h⟩ := ifN h
              refine b_op rfl (o_appE eWordEnds (l := a6.2) (m := [(x17.1 ++ ((([48, 49, 50, 51, 52, 53, 54, 55, 56, 57, 97, 98, 99, 100, 101, 102] : List UInt8).take (IntKind.wrap .i64 (a6.1 + 1)).toNat).drop (a6.1).toNat), x15)]) rfl rfl ty189 ty189 ty211 rfl rfl rfl rfl rfl h22 (fun v21 => ?_))
              refine mv rfl rfl ?_
              refine b_nil (hK _ ?_)
              clear hK K
              exact to_le (s' := ⟨[(1, slE eWordEnds p1), (2, HV.fptr [HV.int .i64 p0.1, HV.int .i64 p0.2.1, slE eFromLabelTo p0.2.2] 0), (5, HV.ar 176009 v21 eWordEnds.k 0 ((a6.2 ++ [(x17.1 ++ ((([48, 49, 50, 51, 52, 53, 54, 55, 56, 57, 97, 98, 99, 100, 101, 102] : List UInt8).take (IntKind.wrap .i64 (a6.1 + 1)).toNat).drop (a6.1).toNat), x15)]).length)), (6, HV.int .i64 a2.1), (7, HV.int .i64 a6.1)], [(176009, v21, .arr eWordEnds.k 211 (eWordEnds.E (a6.2 ++ [(x17.1 ++ ((([48, 49, 50, 51, 52, 53, 54, 55, 56, 57, 97, 98, 99, 100, 101, 102] : List UInt8).take (IntKind.wrap .i64 (a6.1 + 1)).toNat).drop (a6.1).toNat), x15)])))]⟩) (AS.le_of ⟨rfl, rfl, rfl, rfl, rfl, trivial⟩ ⟨rfl, trivial⟩) ⟨a6.2 ++ [(x17.1 ++ ((([48, 49, 50, 51, 52, 53, 54, 55, 56, 57, 97, 98, 99, 100, 101, 102] : List UInt8).take (IntKind.wrap .i64 (a6.1 + 1)).toNat).drop (a6.1).toNat), x15)], v21, h, rfl⟩
            · have hc := of_decide_eq_false hc
              have h := ifF hc h
              refine AW.skip ?_
              exact to_le (s' := ⟨[(1, slE eWordEnds p1), (2, HV.fptr [HV.int .i64 p0.1, HV.int .i64 p0.2.1, slE eFromLabelTo p0.2.2] 0), (5, HV.ar 176009 w7 eWordEnds.k 0 ((a6.2).length)), (6, HV.int .i64 a2.1), (7, HV.int .i64 a6.1)], [(176009, w7, .arr eWordEnds.k 211 (eWordEnds.E a6.2))]⟩) (AS.le_of ⟨rfl, rfl, rfl, rfl, rfl, trivial⟩ ⟨rfl, trivial⟩) ⟨a6.2, w7, h, rfl⟩
        · have hc := of_decide_eq_false hc
          have h := ifF hc h
          refine AW.exit ?_
          exact to_le (s' := ⟨[(1, slE eWordEnds p1), (2, HV.fptr [HV.int .i64 p0.1, HV.int .i64 p0.2.1, slE eFromLabelTo p0.2.2] 0), (5, HV.ar 176009 w7 eWordEnds.k 0 ((a6.2).length)), (6, HV.int .i64 a2.1)], [(176009, w7, .arr eWordEnds.k 211 (eWordEnds.E a6.2))]⟩) (AS.le_of ⟨rfl, rfl, rfl, rfl, trivial⟩ ⟨rfl, trivial⟩) ⟨a6.2, w7, h, rfl⟩
    · have hc := of_decide_eq_false hc
      have h := ifF hc h
      refine AW.exit ?_
      exact to_le (s' := ⟨[(5, HV.ar 176009 w3 eWordEnds.k 0 ((a2.2).length))], [(176009, w3, .arr eWordEnds.k 211 (eWordEnds.E a2.2))]⟩) (AS.le_of ⟨rfl, trivial⟩ ⟨rfl, trivial⟩) ⟨a2.2, w3, h, rfl⟩

set_option maxHeartbeats 1600000 in
set_option maxRecDepth 100000 in
theorem w_ref11_words {p0 : TLabelsStatesEdges} {p1 : List (Int)} {p2 : Int} {r : (List (TWordEnds)) × Int} (h : m_ref11_words p0 p1 p2 = some r) : Pure Try.prog 156 [HV.agg [HV.int .i64 p0.1, HV.int .i64 p0.2.1, slE eFromLabelTo p0.2.2], slE eInt p1, HV.int .i64 p2] (· = HV.tup [slE eWordEnds r.1, HV.int .i64 r.2]) := by
  unfold m_ref11_words at h
  refine Pure.of_body Try.func156 rfl rfl (Nat.le_of_ble_eq_true rfl) fun hf => ?_
  unfold Try.f156
  dsimp only [enumS, Nat.reduceAdd]
  refine AW.rgs rfl fun K hK => ?_
  refine b_op rfl (o_box rfl rfl rfl ?_)
  refine mv rfl rfl ?_
  refine mv rfl rfl ?_
  refine b_nil (hK _ (AW.to (to_le (s' := ⟨[(1, slE eInt p1), (2, HV.int .i64 p2), (3, HV.fptr [HV.int .i64 p0.1, HV.int .i64 p0.2.1, slE eFromLabelTo p0.2.2] 0)], []⟩) (AS.le_of ⟨rfl, rfl, rfl, trivial⟩ trivial) ?_)))
  clear hK K
  refine AW.rgs rfl fun K hK => ?_
  refine b_op rfl (o_bslM (fid := 156) 156010 rfl rfl rfl (as_of (cs := []) ty189 ty211 rfl rfl rfl rfl rfl) (fun v1 => ?_))
  refine mv rfl rfl ?_
  refine b_nil (hK _ (AW.to (to_le (s' := ⟨[(1, slE eInt p1), (2, HV.int .i64 p2), (3, HV.fptr [HV.int .i64 p0.1, HV.int .i64 p0.2.1, slE eFromLabelTo p0.2.2] 0), (8, HV.ar 156010 v1 eWordEnds.k 0 0)], [(156010, v1, .arr eWordEnds.k 211 [])]⟩) (AS.le_of ⟨rfl, rfl, rfl, rfl, trivial⟩ ⟨rfl, trivial⟩) ?_)))
  clear hK K
  refine AW.seq ?_
  refine AW.rgs rfl fun K hK => ?_
  refine mv rfl rfl ?_
  refine bv rfl (v_lenF rfl rfl ty42 rfl) ?_
  refine bv rfl (v_bin rfl rfl b_gtr) ?_
  refine b_nil (hK _ (AW.to (to_le (s' := ⟨[(1, slE eInt p1), (2, HV.int .i64 p2), (3, HV.fptr [HV.int .i64 p0.1, HV.int .i64 p0.2.1, slE eFromLabelTo p0.2.2] 0), (8, HV.ar 156010 v1 eWordEnds.k 0 0), (13, HV.bool (decide (0 < ((p1).length : Int))))], [(156010, v1, .arr eWordEnds.k 211 [])]⟩) (AS.le_of ⟨rfl, rfl, rfl, rfl, rfl, trivial⟩ ⟨rfl, trivial⟩) ?_)))
  clear hK K
  refine AW.lastJ h (by first | exact up_then | exact up_to) (S := (List TWordEnds)) (V := Nat) (fun a v => ⟨[(2, HV.int .i64 p2), (3, HV.fptr [HV.int .i64 p0.1, HV.int .i64 p0.2.1, slE eFromLabelTo p0.2.2] 0), (8, HV.ar 156010 v eWordEnds.k 0 ((a).length))], [(156010, v, .arr eWordEnds.k 211 (eWordEnds.E a))]⟩) (fun a2 w3 h => ?_) (fun k4 h => ?_)
  · refine AW.seq ?_
    refine AW.rgs rfl fun K hK => ?_
    refine mv rfl rfl ?_
    refine b_nil (hK _ (AW.to (to_le (s' := ⟨[(2, HV.int .i64 p2), (3, HV.fptr [HV.int .i64 p0.1, HV.int .i64 p0.2.1, slE eFromLabelTo p0.2.2] 0), (8, HV.ar 156010 w3 eWordEnds.k 0 ((a2).length)), (9, HV.int .i64 0)], [(156010, w3, .arr eWordEnds.k 211 (eWordEnds.E a2))]⟩) (AS.le_of ⟨rfl, rfl, rfl, rfl, trivial⟩ ⟨rfl, trivial⟩) ?_)))
    clear hK K
    refine AW.lpR h (by first | exact up_then | exact up_to) (S := (List TWordEnds) × Int) (V := Unit) (fun a v => ⟨[(2, HV.int .i64 p2), (3, HV.fptr [HV.int .i64 p0.1, HV.int .i64 p0.2.1, slE eFromLabelTo p0.2.2] 0), (8, slE eWordEnds a.1), (9, HV.int .i64 a.2)], []⟩) ?_ (X := (List TWordEnds)) (W := Unit) (fun a v => ⟨[(8, slE eWordEnds a)], []⟩) (fun a15 w16 h => ?_) (fun a5 w6 st7 h hr8=> ?_)
    · refine to_bind (to_frz 2 [(156010, w3, .arr eWordEnds.k 211 (eWordEnds.E a2))] ⟨[(2, HV.int .i64 p2), (3, HV.fptr [HV.int .i64 p0.1, HV.int .i64 p0.2.1, slE eFromLabelTo p0.2.2] 0), (8, slE eWordEnds a2), (9, HV.int .i64 0)], []⟩ ⟨⟨_, rfl, rfl⟩, ⟨_, rfl, rfl⟩, ⟨_, rfl, frz_slE eWordEnds (l := a2) rfl fun _ _ => rfl⟩, ⟨_, rfl, rfl⟩, trivial⟩ trivial ⟨rfl, trivial⟩ ⟨rfl, trivial⟩ ?_)
      exact to_le (s' := ⟨[(2, HV.int .i64 p2), (3, HV.fptr [HV.int .i64 p0.1, HV.int .i64 p0.2.1, slE eFromLabelTo p0.2.2] 0), (8, slE eWordEnds a2), (9, HV.int .i64 0)], []⟩) (AS.le_of ⟨rfl, rfl, rfl, rfl, trivial⟩ trivial) ⟨(), rfl⟩
    · refine AW.rgs rfl fun K hK => ?_
      refine mv rfl rfl ?_
      refine mv rfl rfl ?_
      refine mv rfl rfl ?_
      refine b_nil (hK _ (AW.to (to_le (s' := ⟨[(6, slE eWordEnds a15), (7, HV.int .i64 0)], []⟩) (AS.le_of ⟨rfl, rfl, trivial⟩ trivial) ?_)))
      clear hK K
      refine AW.ret ?_
      have h := Option.some.inj h
      subst h
      exact ret_pure (hs := [slE eWordEnds a15, HV.int .i64 0]) (q := HV.tup [slE eWordEnds a15, HV.int .i64 0]) (.inr rfl) (resT rfl (resT rfl rfl)) rfl ⟨(clean_slE fun _ _ => ⟨trivial, (clean_slE fun _ _ => ⟨trivial, trivial⟩), trivial⟩), trivial, trivial⟩
    · refine AW.seq ?_
      refine AW.seqJ h (S := Bool) (V := Unit) (fun a v => ⟨[(2, HV.int .i64 p2), (3, HV.fptr [HV.int .i64 p0.1, HV.int .i64 p0.2.1, slE eFromLabelTo p0.2.2] 0), (8, slE eWordEnds a5.1), (9, HV.int .i64 a5.2), (26, HV.bool a)], []⟩) (fun a9 w10 h => ?_) (fun k11 h => ?_)
      · refine AW.cond rfl (fun hc => ?_) (fun hc => ?_)
        · have h := ifT hc h
          refine AW.skip ?_
          refine AW.seq (AW.block ?_)
          refine AW.rgs rfl fun K hK => ?_
          refine bv rfl (v_loadF ty24 rfl (l_litA rfl (Nat.le_of_ble_eq_true rfl) rfl)) ?_
          refine mv rfl rfl ?_
          obtain ⟨x12, h13, h⟩ := bS h
          refine b_op rfl (o_call rfl rfl rfl rfl (ACallD.pure0 (w_ref11_grow h13)) ?_)
          refine mv rfl rfl ?_
          refine b_nil (hK _ (AW.to (to_le (s' := ⟨[(2, HV.int .i64 p2), (3, HV.fptr [HV.int .i64 p0.1, HV.int .i64 p0.2.1, slE eFromLabelTo p0.2.2] 0), (8, slE eWordEnds x12), (9, HV.int .i64 a5.2)], []⟩) (AS.le_of ⟨rfl, rfl, rfl, rfl, trivial⟩ trivial) ?_)))
          clear hK K
          refine AW.rgs rfl fun K hK => ?_
          refine mv rfl rfl ?_
          refine bv rfl (v_lenF rfl rfl ty189 rfl) ?_
          refine bv rfl (v_bin rfl rfl b_gtr) ?_
          refine b_nil (hK _ (AW.to (to_le (s' := ⟨[(2, HV.int .i64 p2), (3, HV.fptr [HV.int .i64 p0.1, HV.int .i64 p0.2.1, slE eFromLabelTo p0.2.2] 0), (8, slE eWordEnds x12), (9, HV.int .i64 a5.2), (34, HV.bool (decide (4096 < ((x12).length : Int))))], []⟩) (AS.le_of ⟨rfl, rfl, rfl, rfl, rfl, trivial⟩ trivial) ?_)))
          clear hK K
          refine AW.cond rfl (fun hc => ?_) (fun hc => ?_)
          · have hc := of_decide_eq_true hc
            have h := ifT hc h
            refine AW.rgs rfl fun K hK => ?_
            refine mv rfl rfl ?_
            refine mv rfl rfl ?_
            refine b_nil (hK _ (AW.to (to_le (s' := ⟨[(6, HV.v (.slice none 0 0)), (7, HV.int .i64 4)], []⟩) (AS.le_of ⟨rfl, rfl, trivial⟩ trivial) ?_)))
            clear hK K
            have h := hr8 _ h
            refine AW.to (to_weak ⟨[(6, slE eWordEnds ([] : List TWordEnds)), (7, HV.int .i64 4)], []⟩ ⟨⟨_, rfl, .nil _⟩, ⟨_, rfl, .refl _⟩, trivial⟩ trivial ?_)
            refine AW.ret ?_
            have h := Option.some.inj h
            subst h
            exact ret_pure (hs := [slE eWordEnds ([] : List TWordEnds), HV.int .i64 4]) (q := HV.tup [slE eWordEnds ([] : List TWordEnds), HV.int .i64 4]) (.inr rfl) (resT rfl (resT rfl rfl)) rfl ⟨(clean_slE fun _ _ => ⟨trivial, (clean_slE fun _ _ => ⟨trivial, trivial⟩), trivial⟩), trivial, trivial⟩
          · have hc := of_decide_eq_false hc
            have h := ifF hc h
            refine AW.skip ?_
            refine AW.rg rfl fun K hK => ?_
            refine mv rfl rfl ?_
            refine bv rfl (v_bin rfl rfl b_add) ?_
            refine mv rfl rfl ?_
            refine b_nil (hK _ ?_)
            clear hK K
            exact to_le (s' := ⟨[(2, HV.int .i64 p2), (3, HV.fptr [HV.int .i64 p0.1, HV.int .i64 p0.2.1, slE eFromLabelTo p0.2.2] 0), (8, slE eWordEnds x12), (9, HV.int .i64 (IntKind.wrap .i64 (a5.2 + 1)))], []⟩) (AS.le_of ⟨rfl, rfl, rfl, rfl, trivial⟩ trivial) ⟨(x12, IntKind.wrap .i64 (a5.2 + 1)), (), h, rfl⟩
        · have h := ifF (bF' hc) h
          refine AW.exit ?_
          exact to_le (s' := ⟨[(8, slE eWordEnds a5.1)], []⟩) (AS.le_of ⟨rfl, trivial⟩ trivial) ⟨a5.1, (), h, rfl⟩
      · refine AW.rg rfl fun K hK => ?_
        refine mv rfl rfl ?_
        refine mv rfl rfl ?_
        refine bv rfl (v_bin rfl rfl b_lss) ?_
        refine mv rfl rfl ?_
        by_cases hg14 : a5.2 < p2
        · have h := ifT hg14 h
          refine b_T rfl rfl rfl rfl (decide_eq_true hg14) (o_val rfl (mv_val rfl rfl).2 ?_)
          refine b_T rfl rfl rfl rfl rfl (o_val rfl (v_lenF rfl rfl ty189 rfl) ?_)
          refine b_T rfl rfl rfl rfl rfl (o_val rfl (v_bin rfl rfl b_gtr) ?_)
          refine bv rfl (v_pickT rfl rfl rfl) ?_
          refine b_nil (hK _ ?_)
          clear hK K
          exact to_le (s' := ⟨[(2, HV.int .i64 p2), (3, HV.fptr [HV.int .i64 p0.1, HV.int .i64 p0.2.1, slE eFromLabelTo p0.2.2] 0), (8, slE eWordEnds a5.1), (9, HV.int .i64 a5.2), (26, HV.bool (decide (0 < ((a5.1).length : Int))))], []⟩) (AS.le_of ⟨rfl, rfl, rfl, rfl, rfl, trivial⟩ trivial) ⟨decide (0 < ((a5.1).length : Int)), (), h, rfl⟩
        · have h := ifF hg14 h
          refine b_F rfl rfl rfl rfl rfl (decide_eq_false hg14) ?_
          refine b_F rfl rfl rfl rfl rfl rfl ?_
          refine b_F rfl rfl rfl rfl rfl rfl ?_
          refine bv rfl (v_pickF rfl rfl rfl) ?_
          refine b_nil (hK _ ?_)
          clear hK K
          exact to_le (s' := ⟨[(2, HV.int .i64 p2), (3, HV.fptr [HV.int .i64 p0.1, HV.int .i64 p0.2.1, slE eFromLabelTo p0.2.2] 0), (8, slE eWordEnds a5.1), (9, HV.int .i64 a5.2), (26, HV.bool false)], []⟩) (AS.le_of ⟨rfl, rfl, rfl, rfl, rfl, trivial⟩ trivial) ⟨false, (), h, rfl⟩
  · refine AW.cond rfl (fun hc => ?_) (fun hc => ?_)
    · have hc := of_decide_eq_true hc
      have h := ifT hc h
      refine AW.rg rfl fun K hK => ?_
      refine mv rfl rfl ?_
      refine mv rfl rfl ?_
      refine b_op rfl (o_build (cs := [HV.str ([] : List UInt8), slE eInt p1]) rfl (bl_of ty211 rfl rfl rfl rfl) ?_)
      refine b_op rfl (o_bsl rfl rfl (as_of (cs := [HV.str ([] : List UInt8), slE eInt p1]) ty189 ty211 rfl rfl rfl rfl rfl) ?_)
      obtain ⟨h18, h⟩ := ifN h
      refine b_op rfl (o_appE eWordEnds (l := []) (m := [(([] : List UInt8), p1)]) rfl rfl ty189 ty189 ty211 rfl rfl rfl rfl rfl h18 (fun v17 => ?_))
      refine mv rfl rfl ?_
      refine b_nil (hK _ ?_)
      clear hK K
      exact to_le (s' := ⟨[(2, HV.int .i64 p2), (3, HV.fptr [HV.int .i64 p0.1, HV.int .i64 p0.2.1, slE eFromLabelTo p0.2.2] 0), (8, HV.ar 156010 v17 eWordEnds.k 0 ((([] : List TWordEnds) ++ [(([] : List UInt8), p1)]).length))], [(156010, v17, .arr eWordEnds.k 211 (eWordEnds.E (([] : List TWordEnds) ++ [(([] : List UInt8), p1)])))]⟩) (AS.le_of ⟨rfl, rfl, rfl, trivial⟩ ⟨rfl, trivial⟩) ⟨([] : List TWordEnds) ++ [(([] : List UInt8), p1)], v17, h, rfl⟩
    · have hc := of_decide_eq_false hc
      have h := ifF hc h
      refine AW.skip ?_
      exact to_le (s' := ⟨[(2, HV.int .i64 p2), (3, HV.fptr [HV.int .i64 p0.1, HV.int .i64 p0.2.1, slE eFromLabelTo p0.2.2] 0), (8, HV.ar 156010 v1 eWordEnds.k 0 0)], [(156010, v1, .arr eWordEnds.k 211 [])]⟩) (AS.le_of ⟨rfl, rfl, rfl, trivial⟩ ⟨rfl, trivial⟩) ⟨[], v1, h, rfl⟩

set_option maxHeartbeats 1600000 in
set_option maxRecDepth 100000 in
theorem w_ref11_All {p0 : TLabelsStatesEdges} {r : (List (Int))} (h : m_ref11_All p0 = some r) : Pure Try.prog 157 [HV.agg [HV.int .i64 p0.1, HV.int .i64 p0.2.1, slE eFromLabelTo p0.2.2]] (· = slE eInt r) := by
  unfold m_ref11_All at h
  refine Pure.of_body Try.func157 rfl rfl (Nat.le_of_ble_eq_true rfl) fun hf => ?_
  unfold Try.f157
  dsimp only [enumS, Nat.reduceAdd]
  refine AW.rgs rfl fun K hK => ?_
  refine b_op rfl (o_box rfl rfl rfl ?_)
  refine mv rfl rfl ?_
  refine b_nil (hK _ (AW.to (to_le (s' := ⟨[(1, HV.fptr [HV.int .i64 p0.1, HV.int .i64 p0.2.1, slE eFromLabelTo p0.2.2] 0)], []⟩) (AS.le_of ⟨rfl, trivial⟩ trivial) ?_)))
  clear hK K
  refine AW.rgs rfl fun K hK => ?_
  refine b_op rfl (o_bslM (fid := 157) 157005 rfl rfl rfl (as_of (cs := []) ty42 ty3 rfl rfl rfl rfl rfl) (fun v1 => ?_))
  refine mv rfl rfl ?_
  refine b_nil (hK _ (AW.to (to_le (s' := ⟨[(1, HV.fptr [HV.int .i64 p0.1, HV.int .i64 p0.2.1, slE eFromLabelTo p0.2.2] 0), (3, HV.ar 157005 v1 eInt.k 0 0)], [(157005, v1, .arr eInt.k 3 [])]⟩) (AS.le_of ⟨rfl, rfl, trivial⟩ ⟨rfl, trivial⟩) ?_)))
  clear hK K
  refine AW.seq ?_
  refine AW.rgs rfl fun K hK => ?_
  refine mv rfl rfl ?_
  refine b_nil (hK _ (AW.to (to_le (s' := ⟨[(1, HV.fptr [HV.int .i64 p0.1, HV.int .i64 p0.2.1, slE eFromLabelTo p0.2.2] 0), (3, HV.ar 157005 v1 eInt.k 0 0), (4, HV.int .i64 0)], [(157005, v1, .arr eInt.k 3 [])]⟩) (AS.le_of ⟨rfl, rfl, rfl, trivial⟩ ⟨rfl, trivial⟩) ?_)))
  clear hK K
  refine AW.lpX h (by first | exact up_then | exact up_to) (S := Int × (List Int)) (V := Nat) (fun a v => ⟨[(1, HV.fptr [HV.int .i64 p0.1, HV.int .i64 p0.2.1, slE eFromLabelTo p0.2.2] 0), (3, HV.ar 157005 v eInt.k 0 ((a.2).length)), (4, HV.int .i64 a.1)], [(157005, v, .arr eInt.k 3 (eInt.E a.2))]⟩) ?_ (X := (List Int)) (W := Nat) (fun a v => ⟨[(3, HV.ar 157005 v eInt.k 0 ((a).length))], [(157005, v, .arr eInt.k 3 (eInt.E a))]⟩) (fun a8 w9 h => ?_) (fun a2 w3 st4 h => ?_)
  · exact to_le (s' := ⟨[(1, HV.fptr [HV.int .i64 p0.1, HV.int .i64 p0.2.1, slE eFromLabelTo p0.2.2] 0), (3, HV.ar 157005 v1 eInt.k 0 0), (4, HV.int .i64 0)], [(157005, v1, .arr eInt.k 3 [])]⟩) (AS.le_of ⟨rfl, rfl, rfl, trivial⟩ ⟨rfl, trivial⟩) ⟨v1, rfl⟩
  · refine AW.rgs rfl fun K hK => ?_
    refine mv rfl rfl ?_
    refine mv rfl rfl ?_
    refine b_nil (hK _ (AW.to (to_le (s' := ⟨[(2, HV.ar 157005 w9 eInt.k 0 ((a8).length))], [(157005, w9, .arr eInt.k 3 (eInt.E a8))]⟩) (AS.le_of ⟨rfl, trivial⟩ ⟨rfl, trivial⟩) ?_)))
    clear hK K
    refine AW.to (to_frz 2 [(157005, w9, .arr eInt.k 3 (eInt.E a8))] ⟨[(2, slE eInt a8)], []⟩ ⟨⟨_, rfl, frz_slE eInt (l := a8) rfl fun _ _ => rfl⟩, trivial⟩ trivial ⟨rfl, trivial⟩ ⟨rfl, trivial⟩ ?_)
    refine AW.ret ?_
    have h := Option.some.inj h
    subst h
    exact ret_pure (hs := [slE eInt a8]) (q := slE eInt a8) (.inr rfl) (resT rfl rfl) rfl (clean_slE fun _ _ => ⟨trivial, trivial⟩)
  · refine AW.seq ?_
    refine AW.rgs rfl fun K hK => ?_
    refine mv rfl rfl ?_
    refine bv rfl (v_fieldAddrF fo24_1 rfl) ?_
    refine bv rfl (v_loadF ty3 rfl (l_lit rfl rfl)) ?_
    refine bv rfl (v_bin rfl rfl b_lss) ?_
    refine b_nil (hK _ (AW.to (to_le (s' := ⟨[(1, HV.fptr [HV.int .i64 p0.1, HV.int .i64 p0.2.1, slE eFromLabelTo p0.2.2] 0), (3, HV.ar 157005 w3 eInt.k 0 ((a2.2).length)), (4, HV.int .i64 a2.1), (9, HV.bool (decide (a2.1 < p0.2.1)))], [(157005, w3, .arr eInt.k 3 (eInt.E a2.2))]⟩) (AS.le_of ⟨rfl, rfl, rfl, rfl, trivial⟩ ⟨rfl, trivial⟩) ?_)))
    clear hK K
    refine AW.cond rfl (fun hc => ?_) (fun hc => ?_)
    · have hc := of_decide_eq_true hc
      have h := ifT hc h
      refine AW.skip ?_
      refine AW.seq (AW.block ?_)
      refine AW.rg rfl fun K hK => ?_
      refine mv rfl rfl ?_
      refine mv rfl rfl ?_
      refine b_op rfl (o_bsl rfl rfl (as_of (cs := [HV.int .i64 a2.1]) ty42 ty3 rfl rfl rfl rfl rfl) ?_)
      obtain ⟨h7, h⟩ := ifN h
      refine b_op rfl (o_appE eInt (l := a2.2) (m := [a2.1]) rfl rfl ty42 ty42 ty3 rfl rfl rfl rfl rfl h7 (fun v6 => ?_))
      refine mv rfl rfl ?_
      refine b_nil (hK _ (AW.to (to_le (s' := ⟨[(1, HV.fptr [HV.int .i64 p0.1, HV.int .i64 p0.2.1, slE eFromLabelTo p0.2.2] 0), (3, HV.ar 157005 v6 eInt.k 0 ((a2.2 ++ [a2.1]).length)), (4, HV.int .i64 a2.1)], [(157005, v6, .arr eInt.k 3 (eInt.E (a2.2 ++ [a2.1])))]⟩) (AS.le_of ⟨rfl, rfl, rfl, trivial⟩ ⟨rfl, trivial⟩) ?_)))
      clear hK K
      refine AW.rg rfl fun K hK => ?_
      refine mv rfl rfl ?_
      refine bv rfl (v_bin rfl rfl b_add) ?_
      refine mv rfl rfl ?_
      refine b_nil (hK _ ?_)
      clear hK K
      exact to_le (s' := ⟨[(1, HV.fptr [HV.int .i64 p0.1, HV.int .i64 p0.2.1, slE eFromLabelTo p0.2.2] 0), (3, HV.ar 157005 v6 eInt.k 0 ((a2.2 ++ [a2.1]).length)), (4, HV.int .i64 (IntKind.wrap .i64 (a2.1 + 1)))], [(157005, v6, .arr eInt.k 3 (eInt.E (a2.2 ++ [a2.1])))]⟩) (AS.le_of ⟨rfl, rfl, rfl, trivial⟩ ⟨rfl, trivial⟩) ⟨(IntKind.wrap .i64 (a2.1 + 1), a2.2 ++ [a2.1]), v6, h, rfl⟩
    · have hc := of_decide_eq_false hc
      have h := ifF hc h
      refine AW.exit ?_
      exact to_le (s' := ⟨[(3, HV.ar 157005 w3 eInt.k 0 ((a2.2).length))], [(157005, w3, .arr eInt.k 3 (eInt.E a2.2))]⟩) (AS.le_of ⟨rfl, trivial⟩ ⟨rfl, trivial⟩) ⟨a2.2, w3, h, rfl⟩

set_option maxHeartbeats 1600000 in
set_option maxRecDepth 100000 in
theorem w_ref11_texts {p0 : List (TWordEnds)} {r : (List (List UInt8))} (h : m_ref11_texts p0 = some r) : Pure Try.prog 158 [slE eWordEnds p0] (· = slE eStr r) := by
  unfold m_ref11_texts at h
  refine Pure.of_body Try.func158 rfl rfl (Nat.le_of_ble_eq_true rfl) fun hf => ?_
  unfold Try.f158
  dsimp only [enumS, Nat.reduceAdd]
  refine AW.rgs rfl fun K hK => ?_
  refine mv rfl rfl ?_
  refine b_nil (hK _ (AW.to (to_le (s' := ⟨[(0, slE eWordEnds p0)], []⟩) (AS.le_of ⟨rfl, trivial⟩ trivial) ?_)))
  clear hK K
  refine AW.rgs rfl fun K hK => ?_
  refine b_op rfl (o_bslM (fid := 158) 158005 rfl rfl rfl (as_of (cs := []) ty30 ty9 rfl rfl rfl rfl rfl) (fun v1 => ?_))
  refine mv rfl rfl ?_
  refine b_nil (hK _ (AW.to (to_le (s' := ⟨[(0, slE eWordEnds p0), (3, HV.ar 158005 v1 eStr.k 0 0)], [(158005, v1, .arr eStr.k 9 [])]⟩) (AS.le_of ⟨rfl, rfl, trivial⟩ ⟨rfl, trivial⟩) ?_)))
  clear hK K
  refine AW.seq ?_
  refine AW.rgs rfl fun K hK => ?_
  refine mv rfl rfl ?_
  refine b_nil (hK _ (AW.to (to_le (s' := ⟨[(0, slE eWordEnds p0), (3, HV.ar 158005 v1 eStr.k 0 0), (4, HV.int .i64 0)], [(158005, v1, .arr eStr.k 9 [])]⟩) (AS.le_of ⟨rfl, rfl, rfl, trivial⟩ ⟨rfl, trivial⟩) ?_)))
  clear hK K
  refine AW.lpX h (by first | exact up_then | exact up_to) (S := Int × (List (List UInt8))) (V := Nat) (fun a v => ⟨[(0, slE eWordEnds p0), (3, HV.ar 158005 v eStr.k 0 ((a.2).length)), (4, HV.int .i64 a.1)], [(158005, v, .arr eStr.k 9 (eStr.E a.2))]⟩) ?_ (X := (List (List UInt8))) (W := Nat) (fun a v => ⟨[(3, HV.ar 158005 v eStr.k 0 ((a).length))], [(158005, v, .arr eStr.k 9 (eStr.E a))]⟩) (fun a10 w11 h => ?_) (fun a2 w3 st4 h => ?_)
  · exact to_le (s' := ⟨[(0, slE eWordEnds p0), (3, HV.ar 158005 v1 eStr.k 0 0), (4, HV.int .i64 0)], [(158005, v1, .arr eStr.k 9 [])]⟩) (AS.le_of ⟨rfl, rfl, rfl, trivial⟩ ⟨rfl, trivial⟩) ⟨v1, rfl⟩
  · refine AW.rgs rfl fun K hK => ?_
    refine mv rfl rfl ?_
    refine mv rfl rfl ?_
    refine b_nil (hK _ (AW.to (to_le (s' := ⟨[(2, HV.ar 158005 w11 eStr.k 0 ((a10).length))], [(158005, w11, .arr eStr.k 9 (eStr.E a10))]⟩) (AS.le_of ⟨rfl, trivial⟩ ⟨rfl, trivial⟩) ?_)))
    clear hK K
    refine AW.to (to_frz 2 [(158005, w11, .arr eStr.k 9 (eStr.E a10))] ⟨[(2, slE eStr a10)], []⟩ ⟨⟨_, rfl, frz_slE eStr (l := a10) rfl fun _ _ => rfl⟩, trivial⟩ trivial ⟨rfl, trivial⟩ ⟨rfl, trivial⟩ ?_)
    refine AW.ret ?_
    have h := Option.some.inj h
    subst h
    exact ret_pure (hs := [slE eStr a10]) (q := slE eStr a10) (.inr rfl) (resT rfl rfl) rfl (clean_slE fun _ _ => ⟨trivial, trivial⟩)
  · refine AW.seq ?_
    refine AW.rgs rfl fun K hK => ?_
    refine mv rfl rfl ?_
    refine mv rfl rfl ?_
    refine bv rfl (v_lenF rfl rfl ty189 rfl) ?_
    refine bv rfl (v_bin rfl rfl b_lss) ?_
    refine b_nil (hK _ (AW.to (to_le (s' := ⟨[(0, slE eWordEnds p0), (3, HV.ar 158005 w3 eStr.k 0 ((a2.2).length)), (4, HV.int .i64 a2.1), (9, HV.bool (decide (a2.1 < ((p0).length : Int))))], [(158005, w3, .arr eStr.k 9 (eStr.E a2.2))]⟩) (AS.le_of ⟨rfl, rfl, rfl, rfl, trivial⟩ ⟨rfl, trivial⟩) ?_)))
    clear hK K
    refine AW.cond rfl (fun hc => ?_) (fun hc => ?_)
    · have hc := of_decide_eq_true hc
      have h := ifT hc h
      refine AW.skip ?_
      refine AW.seq (AW.block ?_)
      refine AW.rg rfl fun K hK => ?_
      refine mv rfl rfl ?_
      refine mv rfl rfl ?_
      refine mv rfl rfl ?_
      obtain ⟨x6, h7, h⟩ := bS h
      refine bv rfl (v_idxF ty189 es189 rfl rfl (idx_lt h7)) ?_
      refine bv rfl (v_fieldAddrF fo211_0 rfl) ?_
      refine bv rfl (v_loadF ty9 rfl (l_cell eWordEnds h7 (o := 0) rfl rfl)) ?_
      refine b_op rfl (o_bsl rfl rfl (as_of (cs := [HV.str x6.1]) ty30 ty9 rfl rfl rfl rfl rfl) ?_)
      obtain ⟨h9, h⟩ := ifN h
      refine b_op rfl (o_appE eStr (l := a2.2) (m := [x6.1]) rfl rfl ty30 ty30 ty9 rfl rfl rfl rfl rfl h9 (fun v8 => ?_))
      refine mv rfl rfl ?_
      refine b_nil (hK _ (AW.to (to_le (s' := ⟨[(0, slE eWordEnds p0), (3, HV.ar 158005 v8 eStr.k 0 ((a2.2 ++ [x6.1]).length)), (4, HV.int .i64 a2.1)], [(158005, v8, .arr eStr.k 9 (eStr.E (a2.2 ++ [x6.1])))]⟩) (AS.le_of ⟨rfl, rfl, rfl, trivial⟩ ⟨rfl, trivial⟩) ?_)))
      clear hK K
      refine AW.rg rfl fun K hK => ?_
      refine mv rfl rfl ?_
      refine bv rfl (v_bin rfl rfl b_add) ?_
      refine mv rfl rfl ?_
      refine b_nil (hK _ ?_)
      clear hK K
      exact to_le (s' := ⟨[(0, slE eWordEnds p0), (3, HV.ar 158005 v8 eStr.k 0 ((a2.2 ++ [x6.1]).length)), (4, HV.int .i64 (IntKind.wrap .i64 (a2.1 + 1)))], [(158005, v8, .arr eStr.k 9 (eStr.E (a2.2 ++ [x6.1])))]⟩) (AS.le_of ⟨rfl, rfl, rfl, trivial⟩ ⟨rfl, trivial⟩) ⟨(IntKind.wrap .i64 (a2.1 + 1), a2.2 ++ [x6.1]), v8, h, rfl⟩
    · have hc := of_decide_eq_false hc
      have h := ifF hc h
      refine AW.exit ?_
      exact to_le (s' := ⟨[(3, HV.ar 158005 w3 eStr.k 0 ((a2.2).length))], [(158005, w3, .arr eStr.k 9 (eStr.E a2.2))]⟩) (AS.le_of ⟨rfl, trivial⟩ ⟨rfl, trivial⟩) ⟨a2.2, w3, h, rfl⟩

set_option maxHeartbeats 1600000 in
set_option maxRecDepth 100000 in
theorem w_ref11_Words {p0 : TLabelsStatesEdges} {p1 : Int} {r : (List (List UInt8)) × Int} (h : m_ref11_Words p0 p1 = some r) : Pure Try.prog 122 [HV.agg [HV.int .i64 p0.1, HV.int .i64 p0.2.1, slE eFromLabelTo p0.2.2], HV.int .i64 p1] (· = HV.tup [slE eStr r.1, HV.int .i64 r.2]) := by
  unfold m_ref11_Words at h
  refine Pure.of_body Try.func122 rfl rfl (Nat.le_of_ble_eq_true rfl) fun hf => ?_
  unfold Try.f122
  dsimp only [enumS, Nat.reduceAdd]
  refine AW.rgs rfl fun K hK => ?_
  refine b_op rfl (o_box rfl rfl rfl ?_)
  refine mv rfl rfl ?_
  refine mv rfl rfl ?_
  refine b_nil (hK _ (AW.to (to_le (s' := ⟨[(1, HV.int .i64 p1), (2, HV.fptr [HV.int .i64 p0.1, HV.int .i64 p0.2.1, slE eFromLabelTo p0.2.2] 0)], []⟩) (AS.le_of ⟨rfl, rfl, trivial⟩ trivial) ?_)))
  clear hK K
  refine AW.seq ?_
  refine AW.rgs rfl fun K hK => ?_
  refine bv rfl (v_loadF ty24 rfl (l_litA rfl (Nat.le_of_ble_eq_true rfl) rfl)) ?_
  refine mv rfl rfl ?_
  obtain ⟨x1, h2, h⟩ := bS h
  refine b_op rfl (o_call rfl rfl rfl rfl (ACallD.pure0 (w_ref11_checkNumber h2)) ?_)
  refine mv rfl rfl ?_
  refine b_nil (hK _ (AW.to (to_le (s' := ⟨[(1, HV.int .i64 p1), (2, HV.fptr [HV.int .i64 p0.1, HV.int .i64 p0.2.1, slE eFromLabelTo p0.2.2] 0), (6, HV.int .i64 x1)], []⟩) (AS.le_of ⟨rfl, rfl, rfl, trivial⟩ trivial) ?_)))
  clear hK K
  refine AW.rgs rfl fun K hK => ?_
  refine mv rfl rfl ?_
  refine bv rfl (v_bin rfl rfl b_neq) ?_
  refine b_nil (hK _ (AW.to (to_le (s' := ⟨[(1, HV.int .i64 p1), (2, HV.fptr [HV.int .i64 p0.1, HV.int .i64 p0.2.1, slE eFromLabelTo p0.2.2] 0), (6, HV.int .i64 x1), (13, HV.bool (decide (x1 ≠ 0)))], []⟩) (AS.le_of ⟨rfl, rfl, rfl, rfl, trivial⟩ trivial) ?_)))
  clear hK K
  refine AW.cond rfl (fun hc => ?_) (fun hc => ?_)
  · have hc := of_decide_eq_true hc
    have h := ifT hc h
    refine AW.rgs rfl fun K hK => ?_
    refine mv rfl rfl ?_
    refine mv rfl rfl ?_
    refine mv rfl rfl ?_
    refine b_nil (hK _ (AW.to (to_le (s' := ⟨[(4, HV.v (.slice none 0 0)), (5, HV.int .i64 x1)], []⟩) (AS.le_of ⟨rfl, rfl, trivial⟩ trivial) ?_)))
    clear hK K
    refine AW.to (to_weak ⟨[(4, slE eStr ([] : List (List UInt8))), (5, HV.int .i64 x1)], []⟩ ⟨⟨_, rfl, .nil _⟩, ⟨_, rfl, .refl _⟩, trivial⟩ trivial ?_)
    refine AW.ret ?_
    have h := Option.some.inj h
    subst h
    exact ret_pure (hs := [slE eStr ([] : List (List UInt8)), HV.int .i64 x1]) (q := HV.tup [slE eStr ([] : List (List UInt8)), HV.int .i64 x1]) (.inr rfl) (resT rfl (resT rfl rfl)) rfl ⟨(clean_slE fun _ _ => ⟨trivial, trivial⟩), trivial, trivial⟩
  · have hc := of_decide_eq_false hc
    have h := ifF hc h
    refine AW.skip ?_
    refine AW.dgs 10 follows rfl rfl fun K hK => ?_
    refine sv rfl (v_loadF ty24 rfl (l_litA rfl (Nat.le_of_ble_eq_true rfl) rfl)) ?_
    refine sv rfl (v_loadF ty24 rfl (l_litA rfl (Nat.le_of_ble_eq_true rfl) rfl)) ?_
    obtain ⟨x3, h4, h⟩ := bS h
    refine s_op rfl rfl (ops_call rfl rfl rfl rfl (ACallD.pure0 (w_ref11_All h4)) ?_)
    refine sm rfl rfl ?_
    obtain ⟨x5, h6, h⟩ := bS h
    refine s_op rfl rfl (ops_call rfl rfl rfl rfl (ACallD.pure0 (w_ref11_words h6)) ?_)
    refine sm rfl rfl ?_
    refine sv rfl (v_extract rfl rfl) ?_
    refine sv rfl (v_extract rfl rfl) ?_
    refine sm rfl rfl ?_
    refine sm rfl rfl ?_
    refine s_nil ?_
    refine b_nil (hK _ (AW.to (to_le (s' := ⟨[(7, slE eWordEnds x5.1), (8, HV.int .i64 x5.2)], []⟩) (AS.le_of ⟨rfl, rfl, trivial⟩ trivial) ?_)))
    clear hK K
    refine AW.seq ?_
    refine AW.rgs rfl fun K hK => ?_
    refine mv rfl rfl ?_
    refine bv rfl (v_bin rfl rfl b_neq) ?_
    refine b_nil (hK _ (AW.to (to_le (s' := ⟨[(7, slE eWordEnds x5.1), (8, HV.int .i64 x5.2), (24, HV.bool (decide (x5.2 ≠ 0)))], []⟩) (AS.le_of ⟨rfl, rfl, rfl, trivial⟩ trivial) ?_)))
    clear hK K
    refine AW.cond rfl (fun hc => ?_) (fun hc => ?_)
    · have hc := of_decide_eq_true hc
      have h := ifT hc h
      refine AW.rgs rfl fun K hK => ?_
      refine mv rfl rfl ?_
      refine mv rfl rfl ?_
      refine mv rfl rfl ?_
      refine b_nil (hK _ (AW.to (to_le (s' := ⟨[(4, HV.v (.slice none 0 0)), (5, HV.int .i64 x5.2)], []⟩) (AS.le_of ⟨rfl, rfl, trivial⟩ trivial) ?_)))
      clear hK K
      refine AW.to (to_weak ⟨[(4, slE eStr ([] : List (List UInt8))), (5, HV.int .i64 x5.2)], []⟩ ⟨⟨_, rfl, .nil _⟩, ⟨_, rfl, .refl _⟩, trivial⟩ trivial ?_)
      refine AW.ret ?_
      have h := Option.some.inj h
      subst h
      exact ret_pure (hs := [slE eStr ([] : List (List UInt8)), HV.int .i64 x5.2]) (q := HV.tup [slE eStr ([] : List (List UInt8)), HV.int .i64 x5.2]) (.inr rfl) (resT rfl (resT rfl rfl)) rfl ⟨(clean_slE fun _ _ => ⟨trivial, trivial⟩), trivial, trivial⟩
    · have hc := of_decide_eq_false hc
      have h := ifF hc h
      refine AW.skip ?_
      refine AW.rgs rfl fun K hK => ?_
      refine mv rfl rfl ?_
      obtain ⟨x7, h8, h⟩ := bS h
      refine b_op rfl (o_call rfl rfl rfl rfl (ACallD.pure0 (w_ref11_texts h8)) ?_)
      refine mv rfl rfl ?_
      refine mv rfl rfl ?_
      refine b_nil (hK _ (AW.to (to_le (s' := ⟨[(4, slE eStr x7), (5, HV.int .i64 0)], []⟩) (AS.le_of ⟨rfl, rfl, trivial⟩ trivial) ?_)))
      clear hK K
      refine AW.ret ?_
      have h := Option.some.inj h
      subst h
      exact ret_pure (hs := [slE eStr x7, HV.int .i64 0]) (q := HV.tup [slE eStr x7, HV.int .i64 0]) (.inr rfl) (resT rfl (resT rfl rfl)) rfl ⟨(clean_slE fun _ _ => ⟨trivial, trivial⟩), trivial, trivial⟩

end Go.AW

/- language.list and what is made of its maps, as contracts. -/
namespace Go.AW
open Go Go.Proofs
set_option linter.unusedVariables false

theorem list_steps {g : TLabelsStatesEdges} {set : List Int} (h : StepsOk g set) : ∃ A : List Int → Prop, A set ∧ (∀ a c, A a → c ∈ letters.take g.1.toNat → A (stpM g a c)) ∧
    ∀ a c, A a → c ∈ letters.take g.1.toNat → Pure Try.prog 125 [HV.agg [HV.int .i64 g.1, HV.int .i64 g.2.1, slE eFromLabelTo g.2.2], ints a, .int .u8 c.toNat] (· = ints (stpM g a c)) := by
  obtain ⟨A, h0, hs⟩ := h
  refine ⟨A, h0, fun a c ha hc => ?_, fun a c ha hc => ?_⟩
  · obtain ⟨b, hb, hA⟩ := hs a c ha hc
    simp only [stpM, hb, Option.getD_some]
    exact hA
  · obtain ⟨b, hb, hA⟩ := hs a c ha hc
    simp only [stpM, hb, Option.getD_some]
    exact w_language_step hb

theorem c_listT {g : TLabelsStatesEdges} {set : List Int} {n : Int} {x : List WS × Bool} (h : m_language_list g set n = some x) (hx : x.2 = true) {K : HV → Heap → Prop}
    (hK : ∀ id ver es, es.Perm (x.1.map ent) ∧ (x.1.map (·.1)).Nodup ∧ x.1.length ≤ 1099511627776 → K (.tup [.mp id ver, .bool true]) [(id, ver, .map es)]) : ACall Try.prog 79 [HV.agg [HV.int .i64 g.1, HV.int .i64 g.2.1, slE eFromLabelTo g.2.2], slE eInt set, .int .i64 n] [] K := by
  unfold m_language_list at h
  split at h
  · rename_i hc
    obtain ⟨h1, h2, h3, h4⟩ := hc
    cases h
    split at hx
    · rename_i hok
      rw [if_pos hok] at hK
      obtain ⟨A, hA0, hA, hstep⟩ := list_steps h4
      obtain ⟨gl, gs, ge⟩ := g
      try dsimp only at h1
      try dsimp only at h2
      try dsimp only at hA
      try dsimp only at hstep
      try dsimp only at hok
      try dsimp only
      try dsimp only at hK
      obtain ⟨L, rfl⟩ := Int.eq_ofNat_of_zero_le h1
      obtain ⟨m, rfl⟩ := Int.eq_ofNat_of_zero_le h3
      simp only [Int.toNat_natCast] at hok hK hA hstep
      refine (w79 (L := L) (n := m) (gS := HV.int .i64 gs) (gE := slE eFromLabelTo ge) (by omega) rfl rfl hA0 hA hstep).mono ?_
      rintro r H' (⟨hok', id, ver, es, rfl, rfl, hes⟩ | ⟨j, j1, j2, j3, rfl, rfl⟩)
      · refine hK id ver es ⟨hes, lvl_keys (letters_nodup.sublist (List.take_sublist _ _)) m, ?_⟩
        cases m with
        | zero => simp only [lvl]; split <;> simp
        | succ m => have := hok' (m + 1) (by omega) (Nat.le_refl _); omega
      · have := okLvl_iff.1 hok j j1 j2
        omega
    · cases hx
  · cases h

theorem c_listF {g : TLabelsStatesEdges} {set : List Int} {n : Int} {x : List WS × Bool} (h : m_language_list g set n = some x) (hx : ¬ x.2 = true) {K : HV → Heap → Prop}
    (hK : K (.tup [.v (.map none), .bool false]) []) : ACall Try.prog 79 [HV.agg [HV.int .i64 g.1, HV.int .i64 g.2.1, slE eFromLabelTo g.2.2], slE eInt set, .int .i64 n] [] K := by
  unfold m_language_list at h
  split at h
  · rename_i hc
    obtain ⟨h1, h2, h3, h4⟩ := hc
    cases h
    split at hx
    · exact absurd rfl hx
    · rename_i hok
      obtain ⟨A, hA0, hA, hstep⟩ := list_steps h4
      obtain ⟨gl, gs, ge⟩ := g
      try dsimp only at h1
      try dsimp only at h2
      try dsimp only at hA
      try dsimp only at hstep
      try dsimp only at hok
      try dsimp only
      obtain ⟨L, rfl⟩ := Int.eq_ofNat_of_zero_le h1
      obtain ⟨m, rfl⟩ := Int.eq_ofNat_of_zero_le h3
      simp only [Int.toNat_natCast] at hok hA hstep
      refine (w79 (L := L) (n := m) (gS := HV.int .i64 gs) (gE := slE eFromLabelTo ge) (by omega) rfl rfl hA0 hA hstep).mono ?_
      rintro r H' (⟨hok', id, ver, es, rfl, rfl, hes⟩ | ⟨j, j1, j2, j3, rfl, rfl⟩)
      · exact absurd (okLvl_iff.2 hok') hok
      · exact hK
  · cases h

/-- slices.Sorted(maps.Keys(m)) -/
theorem c_sortedKeys {id ver : Nat} {es : List (List UInt8 × HV)} {l : List WS} (hes : es.Perm (l.map ent) ∧ (l.map (·.1)).Nodup ∧ l.length ≤ 1099511627776) {K : HV → Heap → Prop} (hK : K (slE eStr (sortS (l.map (·.1)))) []) :
    ACall Try.prog 81 [.fn (.func 127) [] [.fptr [.mp id ver] 0]] [(id, ver, .map es)] K := by
  obtain ⟨hp, hn, hb⟩ := hes
  have hlen : es.length = l.length := by rw [hp.length_eq, List.length_map]
  have hsk : sortS (es.map (·.1)) = sortS (l.map (·.1)) := by
    refine sortS_perm ?_
    have := hp.map (·.1)
    rw [List.map_map] at this
    exact this
  refine (w81 (f := id + 1) (perm_keys hp hn) (by omega) (by omega) (by omega) (by omega) (by omega)).conv' ?_
  rintro r H' (⟨he, rfl, rfl⟩ | ⟨id', av, hen, rfl, rfl⟩)
  · have hl : l = [] := List.eq_nil_of_length_eq_zero (by rw [← hlen, he]; rfl)
    subst hl
    have e0 : sortS (([] : List WS).map (·.1)) = [] := List.eq_nil_of_length_eq_zero (by rw [sortS_len]; rfl)
    rw [e0] at hK
    exact ⟨slE eStr [], [], Conv.le (.nil 1), hK⟩
  · refine ⟨_, [], Conv.all 2, ?_⟩
    have e : es.length = (sortS (es.map (·.1))).length := by rw [sortS_len, List.length_map]
    rw [e]
    have hf := frz_slE eStr (D := [(id', av, .arr 1 9 ((sortS (es.map (·.1))).map .str))]) (l := sortS (es.map (·.1))) hget_0 (fun _ _ => rfl)
    have hk2 := hK
    rw [← hsk, ← hf] at hk2
    exact hk2
end Go.AW

namespace Go.AW
open Go Go.Proofs
set_option linter.unusedVariables false
set_option maxHeartbeats 1600000 in
set_option maxRecDepth 100000 in
theorem w_ref10_Great {p0 : TLabelsStatesEdges} {r : Bool} (h : m_ref10_Great p0 = some r) : Pure Try.prog 66 [HV.agg [HV.int .i64 p0.1, HV.int .i64 p0.2.1, slE eFromLabelTo p0.2.2]] (· = HV.bool r) := by
  unfold m_ref10_Great at h
  refine Pure.of_body Try.func66 rfl rfl (Nat.le_of_ble_eq_true rfl) fun hf => ?_
  unfold Try.f66
  dsimp only [enumS, Nat.reduceAdd]
  refine AW.rgs rfl fun K hK => ?_
  refine b_op rfl (o_box rfl rfl rfl ?_)
  refine mv rfl rfl ?_
  refine b_nil (hK _ (AW.to (to_le (s' := ⟨[(1, HV.fptr [HV.int .i64 p0.1, HV.int .i64 p0.2.1, slE eFromLabelTo p0.2.2] 0)], []⟩) (AS.le_of ⟨rfl, trivial⟩ trivial) ?_)))
  clear hK K
  refine AW.seqJ h (S := Bool) (V := Unit) (fun a v => ⟨[(2, HV.bool a)], []⟩) (fun a1 w2 h => ?_) (fun k3 h => ?_)
  · refine AW.ret ?_
    have h := Option.some.inj h
    subst h
    exact ret_pure (hs := [HV.bool a1]) (q := HV.bool a1) (.inr rfl) (resT rfl rfl) rfl trivial
  · refine AW.rg rfl fun K hK => ?_
    refine bv rfl (v_fieldAddrF fo24_1 rfl) ?_
    refine bv rfl (v_loadF ty3 rfl (l_lit rfl rfl)) ?_
    refine bv rfl (v_bin rfl rfl b_gtr) ?_
    refine mv rfl rfl ?_
    by_cases hg9 : 8 < p0.2.1
    · have h := ifT hg9 h
      refine b_T rfl rfl rfl rfl (decide_eq_true hg9) (o_val rfl (v_fieldAddrF fo24_1 rfl) ?_)
      refine b_T rfl rfl rfl rfl rfl (o_val rfl (v_loadF ty3 rfl (l_lit rfl rfl)) ?_)
      refine b_T rfl rfl rfl rfl rfl (o_val rfl (v_bin rfl rfl b_leq) ?_)
      refine bv rfl (v_pickT rfl rfl rfl) ?_
      refine mv rfl rfl ?_
      by_cases hg6 : p0.2.1 ≤ 64
      · have h := ifT hg6 h
        refine b_F rfl rfl rfl rfl rfl (decide_eq_true hg6) ?_
        refine b_F rfl rfl rfl rfl rfl rfl ?_
        refine b_F rfl rfl rfl rfl rfl rfl ?_
        refine b_F rfl rfl rfl rfl rfl rfl ?_
        refine b_F rfl rfl rfl rfl rfl rfl ?_
        refine b_U rfl rfl rfl rfl rfl ?_
        refine b_U rfl rfl rfl rfl rfl ?_
        refine b_U rfl rfl rfl rfl rfl ?_
        refine b_U rfl rfl rfl rfl rfl ?_
        refine b_F rfl rfl rfl rfl rfl rfl ?_
        refine bv rfl (v_pickT rfl rfl rfl) ?_
        refine mv rfl rfl ?_
        refine b_F rfl rfl rfl rfl rfl rfl ?_
        refine b_F rfl rfl rfl rfl rfl rfl ?_
        refine b_F rfl rfl rfl rfl rfl rfl ?_
        refine b_F rfl rfl rfl rfl rfl rfl ?_
        refine bv rfl (v_pickT rfl rfl rfl) ?_
        refine mv rfl rfl ?_
        refine b_nil (hK _ ?_)
        clear hK K
        exact to_le (s' := ⟨[(2, HV.bool true)], []⟩) (AS.le_of ⟨rfl, trivial⟩ trivial) ⟨true, (), h, rfl⟩
      · have h := ifF hg6 h
        refine b_T rfl rfl rfl rfl (decide_eq_false hg6) (o_val rfl (v_fieldAddrF fo24_2 rfl) ?_)
        refine b_T rfl rfl rfl rfl rfl (o_val rfl (v_loadF ty22 rfl (l_lit rfl rfl)) ?_)
        refine b_T rfl rfl rfl rfl rfl (o_val rfl (v_lenF rfl rfl ty22 rfl) ?_)
        refine b_T rfl rfl rfl rfl rfl (o_val rfl (v_bin rfl rfl b_gtr) ?_)
        refine b_T rfl rfl rfl rfl rfl (o_val rfl (mv_val rfl rfl).2 ?_)
        by_cases hg5 : 30 < ((p0.2.2).length : Int)
        · have h := ifT hg5 h
          refine b_T rfl rfl rfl rfl (decide_eq_true hg5) (o_val rfl (v_fieldAddrF fo24_2 rfl) ?_)
          refine b_T rfl rfl rfl rfl rfl (o_val rfl (v_loadF ty22 rfl (l_lit rfl rfl)) ?_)
          refine b_T rfl rfl rfl rfl rfl (o_val rfl (v_lenF rfl rfl ty22 rfl) ?_)
          refine b_T rfl rfl rfl rfl rfl (o_val rfl (v_bin rfl rfl b_leq) ?_)
          refine b_T rfl rfl rfl rfl rfl (o_val rfl (v_pickT rfl rfl rfl) ?_)
          refine bv rfl (v_pickF rfl rfl rfl) ?_
          refine mv rfl rfl ?_
          by_cases hg4 : ((p0.2.2).length : Int) ≤ 1024
          · have h := ifT hg4 h
            refine b_F rfl rfl rfl rfl rfl (decide_eq_true hg4) ?_
            refine b_F rfl rfl rfl rfl rfl rfl ?_
            refine b_F rfl rfl rfl rfl rfl rfl ?_
            refine b_F rfl rfl rfl rfl rfl rfl ?_
            refine bv rfl (v_pickT rfl rfl rfl) ?_
            refine mv rfl rfl ?_
            refine b_nil (hK _ ?_)
            clear hK K
            exact to_le (s' := ⟨[(2, HV.bool true)], []⟩) (AS.le_of ⟨rfl, trivial⟩ trivial) ⟨true, (), h, rfl⟩
          · have h := ifF hg4 h
            refine b_T rfl rfl rfl rfl (decide_eq_false hg4) (o_val rfl (v_fieldAddrF fo24_2 rfl) ?_)
            refine b_T rfl rfl rfl rfl rfl (o_val rfl (v_loadF ty22 rfl (l_lit rfl rfl)) ?_)
            refine b_T rfl rfl rfl rfl rfl (o_val rfl (v_lenF rfl rfl ty22 rfl) ?_)
            refine b_T rfl rfl rfl rfl rfl (o_val rfl (v_bin rfl rfl b_gtr) ?_)
            refine bv rfl (v_pickF rfl rfl rfl) ?_
            refine mv rfl rfl ?_
            refine b_nil (hK _ ?_)
            clear hK K
            exact to_le (s' := ⟨[(2, HV.bool (decide (1027 < ((p0.2.2).length : Int))))], []⟩) (AS.le_of ⟨rfl, trivial⟩ trivial) ⟨decide (1027 < ((p0.2.2).length : Int)), (), h, rfl⟩
        · have h := ifF hg5 h
          refine b_F rfl rfl rfl rfl rfl (decide_eq_false hg5) ?_
          refine b_F rfl rfl rfl rfl rfl rfl ?_
          refine b_F rfl rfl rfl rfl rfl rfl ?_
          refine b_F rfl rfl rfl rfl rfl rfl ?_
          refine b_T rfl rfl rfl rfl rfl (o_val rfl (v_pickF rfl rfl rfl) ?_)
          refine bv rfl (v_pickF rfl rfl rfl) ?_
          refine mv rfl rfl ?_
          refine b_T rfl rfl rfl rfl rfl (o_val rfl (v_fieldAddrF fo24_2 rfl) ?_)
          refine b_T rfl rfl rfl rfl rfl (o_val rfl (v_loadF ty22 rfl (l_lit rfl rfl)) ?_)
          refine b_T rfl rfl rfl rfl rfl (o_val rfl (v_lenF rfl rfl ty22 rfl) ?_)
          refine b_T rfl rfl rfl rfl rfl (o_val rfl (v_bin rfl rfl b_gtr) ?_)
          refine bv rfl (v_pickF rfl rfl rfl) ?_
          refine mv rfl rfl ?_
          refine b_nil (hK _ ?_)
          clear hK K
          exact to_le (s' := ⟨[(2, HV.bool (decide (1027 < ((p0.2.2).length : Int))))], []⟩) (AS.le_of ⟨rfl, trivial⟩ trivial) ⟨decide (1027 < ((p0.2.2).length : Int)), (), h, rfl⟩
    · have h := ifF hg9 h
      refine b_F rfl rfl rfl rfl rfl (decide_eq_false hg9) ?_
      refine b_F rfl rfl rfl rfl rfl rfl ?_
      refine b_F rfl rfl rfl rfl rfl rfl ?_
      refine bv rfl (v_pickF rfl rfl rfl) ?_
      refine mv rfl rfl ?_
      refine b_T rfl rfl rfl rfl rfl (o_val rfl (v_fieldAddrF fo24_2 rfl) ?_)
      refine b_T rfl rfl rfl rfl rfl (o_val rfl (v_loadF ty22 rfl (l_lit rfl rfl)) ?_)
      refine b_T rfl rfl rfl rfl rfl (o_val rfl (v_lenF rfl rfl ty22 rfl) ?_)
      refine b_T rfl rfl rfl rfl rfl (o_val rfl (v_bin rfl rfl b_gtr) ?_)
      refine b_T rfl rfl rfl rfl rfl (o_val rfl (mv_val rfl rfl).2 ?_)
      by_cases hg8 : 30 < ((p0.2.2).length : Int)
      · have h := ifT hg8 h
        refine b_T rfl rfl rfl rfl (decide_eq_true hg8) (o_val rfl (v_fieldAddrF fo24_2 rfl) ?_)
        refine b_T rfl rfl rfl rfl rfl (o_val rfl (v_loadF ty22 rfl (l_lit rfl rfl)) ?_)
        refine b_T rfl rfl rfl rfl rfl (o_val rfl (v_lenF rfl rfl ty22 rfl) ?_)
        refine b_T rfl rfl rfl rfl rfl (o_val rfl (v_bin rfl rfl b_leq) ?_)
        refine b_T rfl rfl rfl rfl rfl (o_val rfl (v_pickT rfl rfl rfl) ?_)
        refine bv rfl (v_pickF rfl rfl rfl) ?_
        refine mv rfl rfl ?_
        by_cases hg7 : ((p0.2.2).length : Int) ≤ 1024
        · have h := ifT hg7 h
          refine b_F rfl rfl rfl rfl rfl (decide_eq_true hg7) ?_
          refine b_F rfl rfl rfl rfl rfl rfl ?_
          refine b_F rfl rfl rfl rfl rfl rfl ?_
          refine b_F rfl rfl rfl rfl rfl rfl ?_
          refine bv rfl (v_pickT rfl rfl rfl) ?_
          refine mv rfl rfl ?_
          refine b_nil (hK _ ?_)
          clear hK K
          exact to_le (s' := ⟨[(2, HV.bool true)], []⟩) (AS.le_of ⟨rfl, trivial⟩ trivial) ⟨true, (), h, rfl⟩
        · have h := ifF hg7 h
          refine b_T rfl rfl rfl rfl (decide_eq_false hg7) (o_val rfl (v_fieldAddrF fo24_2 rfl) ?_)
          refine b_T rfl rfl rfl rfl rfl (o_val rfl (v_loadF ty22 rfl (l_lit rfl rfl)) ?_)
          refine b_T rfl rfl rfl rfl rfl (o_val rfl (v_lenF rfl rfl ty22 rfl) ?_)
          refine b_T rfl rfl rfl rfl rfl (o_val rfl (v_bin rfl rfl b_gtr) ?_)
          refine bv rfl (v_pickF rfl rfl rfl) ?_
          refine mv rfl rfl ?_
          refine b_nil (hK _ ?_)
          clear hK K
          exact to_le (s' := ⟨[(2, HV.bool (decide (1027 < ((p0.2.2).length : Int))))], []⟩) (AS.le_of ⟨rfl, trivial⟩ trivial) ⟨decide (1027 < ((p0.2.2).length : Int)), (), h, rfl⟩
      · have h := ifF hg8 h
        refine b_F rfl rfl rfl rfl rfl (decide_eq_false hg8) ?_
        refine b_F rfl rfl rfl rfl rfl rfl ?_
        refine b_F rfl rfl rfl rfl rfl rfl ?_
        refine b_F rfl rfl rfl rfl rfl rfl ?_
        refine b_T rfl rfl rfl rfl rfl (o_val rfl (v_pickF rfl rfl rfl) ?_)
        refine bv rfl (v_pickF rfl rfl rfl) ?_
        refine mv rfl rfl ?_
        refine b_T rfl rfl rfl rfl rfl (o_val rfl (v_fieldAddrF fo24_2 rfl) ?_)
        refine b_T rfl rfl rfl rfl rfl (o_val rfl (v_loadF ty22 rfl (l_lit rfl rfl)) ?_)
        refine b_T rfl rfl rfl rfl rfl (o_val rfl (v_lenF rfl rfl ty22 rfl) ?_)
        refine b_T rfl rfl rfl rfl rfl (o_val rfl (v_bin rfl rfl b_gtr) ?_)
        refine bv rfl (v_pickF rfl rfl rfl) ?_
        refine mv rfl rfl ?_
        refine b_nil (hK _ ?_)
        clear hK K
        exact to_le (s' := ⟨[(2, HV.bool (decide (1027 < ((p0.2.2).length : Int))))], []⟩) (AS.le_of ⟨rfl, trivial⟩ trivial) ⟨decide (1027 < ((p0.2.2).length : Int)), (), h, rfl⟩

set_option maxHeartbeats 1600000 in
set_option maxRecDepth 100000 in
theorem w_law46_small {p0 : TLabelsStatesEdges} {p1 : Int} {r : Bool} (h : m_law46_small p0 p1 = some r) : Pure Try.prog 14 [HV.agg [HV.int .i64 p0.1, HV.int .i64 p0.2.1, slE eFromLabelTo p0.2.2], HV.int .i64 p1] (· = HV.bool r) := by
  unfold m_law46_small at h
  refine Pure.of_body Try.func14 rfl rfl (Nat.le_of_ble_eq_true rfl) fun hf => ?_
  unfold Try.f14
  dsimp only [enumS, Nat.reduceAdd]
  refine AW.rgs rfl fun K hK => ?_
  refine b_op rfl (o_box rfl rfl rfl ?_)
  refine mv rfl rfl ?_
  refine b_nil (hK _ (AW.to (to_le (s' := ⟨[(1, HV.int .i64 p1), (2, HV.fptr [HV.int .i64 p0.1, HV.int .i64 p0.2.1, slE eFromLabelTo p0.2.2] 0)], []⟩) (AS.le_of ⟨rfl, rfl, trivial⟩ trivial) ?_)))
  clear hK K
  refine AW.seqJ h (S := Bool) (V := Unit) (fun a v => ⟨[(4, HV.bool a)], []⟩) (fun a1 w2 h => ?_) (fun k3 h => ?_)
  · refine AW.ret ?_
    have h := Option.some.inj h
    subst h
    exact ret_pure (hs := [HV.bool a1]) (q := HV.bool a1) (.inr rfl) (resT rfl rfl) rfl trivial
  · refine AW.rg rfl fun K hK => ?_
    refine bv rfl (v_loadF ty24 rfl (l_litA rfl (Nat.le_of_ble_eq_true rfl) rfl)) ?_
    obtain ⟨x4, h5, h⟩ := bS h
    refine b_op rfl (o_call rfl rfl rfl rfl (ACallD.pure0 (w_ref10_Great h5)) ?_)
    refine bv rfl (v_not rfl) ?_
    refine mv rfl rfl ?_
    by_cases hg10 : (!x4) = true
    · have h := ifT hg10 h
      refine b_T rfl rfl rfl rfl hg10 (o_val rfl (v_fieldAddrF fo24_0 rfl) ?_)
      refine b_T rfl rfl rfl rfl rfl (o_val rfl (v_loadF ty3 rfl (l_lit rfl rfl)) ?_)
      refine b_T rfl rfl rfl rfl rfl (o_val rfl (v_bin rfl rfl b_leq) ?_)
      refine b_T rfl rfl rfl rfl rfl (o_val rfl (mv_val rfl rfl).2 ?_)
      by_cases hg9 : p0.1 ≤ 3
      · have h := ifT hg9 h
        refine b_F rfl rfl rfl rfl rfl (decide_eq_true hg9) ?_
        refine b_F rfl rfl rfl rfl rfl rfl ?_
        refine b_F rfl rfl rfl rfl rfl rfl ?_
        refine b_T rfl rfl rfl rfl rfl (o_val rfl (v_pickT rfl rfl rfl) ?_)
        refine bv rfl (v_pickT rfl rfl rfl) ?_
        refine mv rfl rfl ?_
        refine b_T rfl rfl rfl rfl rfl (o_val rfl (mv_val rfl rfl).2 ?_)
        refine b_T rfl rfl rfl rfl rfl (o_val rfl (v_bin rfl rfl b_leq) ?_)
        refine b_T rfl rfl rfl rfl rfl (o_val rfl (mv_val rfl rfl).2 ?_)
        by_cases hg6 : p1 ≤ 5
        · have h := ifT hg6 h
          refine b_F rfl rfl rfl rfl rfl (decide_eq_true hg6) ?_
          refine b_F rfl rfl rfl rfl rfl rfl ?_
          refine b_T rfl rfl rfl rfl rfl (o_val rfl (v_pickT rfl rfl rfl) ?_)
          refine bv rfl (v_pickT rfl rfl rfl) ?_
          refine mv rfl rfl ?_
          refine b_nil (hK _ ?_)
          clear hK K
          exact to_le (s' := ⟨[(4, HV.bool true)], []⟩) (AS.le_of ⟨rfl, trivial⟩ trivial) ⟨true, (), h, rfl⟩
        · have h := ifF hg6 h
          refine b_T rfl rfl rfl rfl (decide_eq_false hg6) (o_val rfl (mv_val rfl rfl).2 ?_)
          refine b_T rfl rfl rfl rfl rfl (o_val rfl (v_bin rfl rfl b_gtr) ?_)
          refine b_T rfl rfl rfl rfl rfl (o_val rfl (v_pickF rfl rfl rfl) ?_)
          refine bv rfl (v_pickT rfl rfl rfl) ?_
          refine mv rfl rfl ?_
          refine b_nil (hK _ ?_)
          clear hK K
          exact to_le (s' := ⟨[(4, HV.bool (decide (65536 < p1)))], []⟩) (AS.le_of ⟨rfl, trivial⟩ trivial) ⟨decide (65536 < p1), (), h, rfl⟩
      · have h := ifF hg9 h
        refine b_T rfl rfl rfl rfl (decide_eq_false hg9) (o_val rfl (v_fieldAddrF fo24_0 rfl) ?_)
        refine b_T rfl rfl rfl rfl rfl (o_val rfl (v_loadF ty3 rfl (l_lit rfl rfl)) ?_)
        refine b_T rfl rfl rfl rfl rfl (o_val rfl (v_bin rfl rfl b_gtr) ?_)
        refine b_T rfl rfl rfl rfl rfl (o_val rfl (v_pickF rfl rfl rfl) ?_)
        refine bv rfl (v_pickT rfl rfl rfl) ?_
        refine mv rfl rfl ?_
        by_cases hg8 : 16 < p0.1
        · have h := ifT hg8 h
          refine b_T rfl rfl rfl rfl (decide_eq_true hg8) (o_val rfl (mv_val rfl rfl).2 ?_)
          refine b_T rfl rfl rfl rfl rfl (o_val rfl (v_bin rfl rfl b_leq) ?_)
          refine b_T rfl rfl rfl rfl rfl (o_val rfl (mv_val rfl rfl).2 ?_)
          by_cases hg7 : p1 ≤ 5
          · have h := ifT hg7 h
            refine b_F rfl rfl rfl rfl rfl (decide_eq_true hg7) ?_
            refine b_F rfl rfl rfl rfl rfl rfl ?_
            refine b_T rfl rfl rfl rfl rfl (o_val rfl (v_pickT rfl rfl rfl) ?_)
            refine bv rfl (v_pickT rfl rfl rfl) ?_
            refine mv rfl rfl ?_
            refine b_nil (hK _ ?_)
            clear hK K
            exact to_le (s' := ⟨[(4, HV.bool true)], []⟩) (AS.le_of ⟨rfl, trivial⟩ trivial) ⟨true, (), h, rfl⟩
          · have h := ifF hg7 h
            refine b_T rfl rfl rfl rfl (decide_eq_false hg7) (o_val rfl (mv_val rfl rfl).2 ?_)
            refine b_T rfl rfl rfl rfl rfl (o_val rfl (v_bin rfl rfl b_gtr) ?_)
            refine b_T rfl rfl rfl rfl rfl (o_val rfl (v_pickF rfl rfl rfl) ?_)
            refine bv rfl (v_pickT rfl rfl rfl) ?_
            refine mv rfl rfl ?_
            refine b_nil (hK _ ?_)
            clear hK K
            exact to_le (s' := ⟨[(4, HV.bool (decide (65536 < p1)))], []⟩) (AS.le_of ⟨rfl, trivial⟩ trivial) ⟨decide (65536 < p1), (), h, rfl⟩
        · have h := ifF hg8 h
          refine b_F rfl rfl rfl rfl rfl (decide_eq_false hg8) ?_
          refine b_F rfl rfl rfl rfl rfl rfl ?_
          refine b_F rfl rfl rfl rfl rfl rfl ?_
          refine b_U rfl rfl rfl rfl rfl ?_
          refine b_U rfl rfl rfl rfl rfl ?_
          refine b_F rfl rfl rfl rfl rfl rfl ?_
          refine bv rfl (v_pickF rfl rfl rfl) ?_
          refine mv rfl rfl ?_
          refine b_nil (hK _ ?_)
          clear hK K
          exact to_le (s' := ⟨[(4, HV.bool false)], []⟩) (AS.le_of ⟨rfl, trivial⟩ trivial) ⟨false, (), h, rfl⟩
    · have h := ifF hg10 h
      refine b_F rfl rfl rfl rfl rfl (bF hg10) ?_
      refine b_F rfl rfl rfl rfl rfl rfl ?_
      refine b_F rfl rfl rfl rfl rfl rfl ?_
      refine b_F rfl rfl rfl rfl rfl rfl ?_
      refine b_U rfl rfl rfl rfl rfl ?_
      refine b_U rfl rfl rfl rfl rfl ?_
      refine b_U rfl rfl rfl rfl rfl ?_
      refine b_F rfl rfl rfl rfl rfl rfl ?_
      refine bv rfl (v_pickF rfl rfl rfl) ?_
      refine mv rfl rfl ?_
      refine b_F rfl rfl rfl rfl rfl rfl ?_
      refine b_F rfl rfl rfl rfl rfl rfl ?_
      refine b_F rfl rfl rfl rfl rfl rfl ?_
      refine b_U rfl rfl rfl rfl rfl ?_
      refine b_U rfl rfl rfl rfl rfl ?_
      refine b_F rfl rfl rfl rfl rfl rfl ?_
      refine bv rfl (v_pickF rfl rfl rfl) ?_
      refine mv rfl rfl ?_
      refine b_nil (hK _ ?_)
      clear hK K
      exact to_le (s' := ⟨[(4, HV.bool false)], []⟩) (AS.le_of ⟨rfl, trivial⟩ trivial) ⟨false, (), h, rfl⟩

set_option maxHeartbeats 1600000 in
set_option maxRecDepth 100000 in
theorem w_language_Words {p0 : TLabelsStatesEdges} {p1 : Int} {r : (List (List UInt8)) × Int} (h : m_language_Words p0 p1 = some r) : Pure Try.prog 36 [HV.agg [HV.int .i64 p0.1, HV.int .i64 p0.2.1, slE eFromLabelTo p0.2.2], HV.int .i64 p1] (· = HV.tup [slE eStr r.1, HV.int .i64 r.2]) := by
  unfold m_language_Words at h
  refine Pure.of_body Try.func36 rfl rfl (Nat.le_of_ble_eq_true rfl) fun hf => ?_
  unfold Try.f36
  dsimp only [enumS, Nat.reduceAdd]
  refine AW.rgs rfl fun K hK => ?_
  refine b_op rfl (o_box rfl rfl rfl ?_)
  refine mv rfl rfl ?_
  refine mv rfl rfl ?_
  refine b_nil (hK _ (AW.to (to_le (s' := ⟨[(1, HV.int .i64 p1), (2, HV.fptr [HV.int .i64 p0.1, HV.int .i64 p0.2.1, slE eFromLabelTo p0.2.2] 0)], []⟩) (AS.le_of ⟨rfl, rfl, trivial⟩ trivial) ?_)))
  clear hK K
  refine AW.seq ?_
  refine AW.rgs rfl fun K hK => ?_
  refine bv rfl (v_loadF ty24 rfl (l_litA rfl (Nat.le_of_ble_eq_true rfl) rfl)) ?_
  refine mv rfl rfl ?_
  obtain ⟨x1, h2, h⟩ := bS h
  refine b_op rfl (o_call rfl rfl rfl rfl (ACallD.pure0 (w_language_lengths h2)) ?_)
  refine mv rfl rfl ?_
  refine b_nil (hK _ (AW.to (to_le (s' := ⟨[(1, HV.int .i64 p1), (2, HV.fptr [HV.int .i64 p0.1, HV.int .i64 p0.2.1, slE eFromLabelTo p0.2.2] 0), (6, HV.int .i64 x1)], []⟩) (AS.le_of ⟨rfl, rfl, rfl, trivial⟩ trivial) ?_)))
  clear hK K
  refine AW.rgs rfl fun K hK => ?_
  refine mv rfl rfl ?_
  refine bv rfl (v_bin rfl rfl b_neq) ?_
  refine b_nil (hK _ (AW.to (to_le (s' := ⟨[(1, HV.int .i64 p1), (2, HV.fptr [HV.int .i64 p0.1, HV.int .i64 p0.2.1, slE eFromLabelTo p0.2.2] 0), (6, HV.int .i64 x1), (13, HV.bool (decide (x1 ≠ 0)))], []⟩) (AS.le_of ⟨rfl, rfl, rfl, rfl, trivial⟩ trivial) ?_)))
  clear hK K
  refine AW.cond rfl (fun hc => ?_) (fun hc => ?_)
  · have hc := of_decide_eq_true hc
    have h := ifT hc h
    refine AW.rgs rfl fun K hK => ?_
    refine mv rfl rfl ?_
    refine mv rfl rfl ?_
    refine mv rfl rfl ?_
    refine b_nil (hK _ (AW.to (to_le (s' := ⟨[(4, HV.v (.slice none 0 0)), (5, HV.int .i64 x1)], []⟩) (AS.le_of ⟨rfl, rfl, trivial⟩ trivial) ?_)))
    clear hK K
    refine AW.to (to_weak ⟨[(4, slE eStr ([] : List (List UInt8))), (5, HV.int .i64 x1)], []⟩ ⟨⟨_, rfl, .nil _⟩, ⟨_, rfl, .refl _⟩, trivial⟩ trivial ?_)
    refine AW.ret ?_
    have h := Option.some.inj h
    subst h
    exact ret_pure (hs := [slE eStr ([] : List (List UInt8)), HV.int .i64 x1]) (q := HV.tup [slE eStr ([] : List (List UInt8)), HV.int .i64 x1]) (.inr rfl) (resT rfl (resT rfl rfl)) rfl ⟨(clean_slE fun _ _ => ⟨trivial, trivial⟩), trivial, trivial⟩
  · have hc := of_decide_eq_false hc
    have h := ifF hc h
    refine AW.skip ?_
    refine AW.dys follows fun K hK => ?_
    refine y_st 4 rfl rfl ?_
    refine sv rfl (v_loadF ty24 rfl (l_litA rfl (Nat.le_of_ble_eq_true rfl) rfl)) ?_
    refine sv rfl (v_loadF ty24 rfl (l_litA rfl (Nat.le_of_ble_eq_true rfl) rfl)) ?_
    obtain ⟨x3, h4, h⟩ := bS h
    refine s_op rfl rfl (ops_call rfl rfl rfl rfl (ACallD.pure0 (w_language_states h4)) ?_)
    refine sm rfl rfl ?_
    refine s_nil ?_
    obtain ⟨x5, h6, h⟩ := bS h
    by_cases hg7 : x5.2 = true
    · have h := ifT hg7 h
      refine y_op rfl rfl rfl rfl (o_callA rfl rfl rfl rfl (c_listT h6 hg7 fun i8 v9 es10 hes11 => ?_) )
      refine b_nil ?_
      refine y_st 10 rfl rfl ?_
      refine sm rfl rfl ?_
      refine sv rfl (v_extract rfl rfl) ?_
      refine sv rfl (v_extract rfl rfl) ?_
      refine sm rfl rfl ?_
      refine sm rfl rfl ?_
      refine s_nil ?_
      refine y_nil rfl (hK _ (AW.to (to_le (s' := ⟨[(7, HV.mp i8 v9), (8, HV.bool true)], [(i8, v9, .map es10)]⟩) (AS.le_of ⟨rfl, rfl, trivial⟩ ⟨hget_0, trivial⟩) ?_)))
      clear hK K
      refine AW.seq ?_
      refine AW.rgs rfl fun K hK => ?_
      refine mv rfl rfl ?_
      refine bv rfl (v_not rfl) ?_
      refine b_nil (hK _ (AW.to (to_le (s' := ⟨[(7, HV.mp i8 v9), (24, HV.bool false)], [(i8, v9, .map es10)]⟩) (AS.le_of ⟨rfl, rfl, trivial⟩ ⟨hget_0, trivial⟩) ?_)))
      clear hK K
      refine AW.cond rfl (fun hc => by cases hc) (fun _ => ?_)
      refine AW.skip ?_
      refine AW.rgs rfl fun K hK => ?_
      refine mv rfl rfl ?_
      refine b_op rfl (o_callK [(i8, v9, .map es10)] rfl rfl rfl rfl (fun K hK => w82 hK) ?_)
      refine b_op rfl (o_callK (q := slE eStr (sortS ((x5.1).map Prod.fst))) [] rfl rfl rfl rfl (fun K hK => c_sortedKeys hes11 hK) ?_)
      refine mv rfl rfl ?_
      refine mv rfl rfl ?_
      refine b_nil (hK _ (AW.to (to_le (s' := ⟨[(4, slE eStr (sortS ((x5.1).map Prod.fst))), (5, HV.int .i64 0)], []⟩) (AS.le_of ⟨rfl, rfl, trivial⟩ trivial) ?_)))
      clear hK K
      refine AW.ret ?_
      have h := Option.some.inj h
      subst h
      exact ret_pure (hs := [slE eStr (sortS ((x5.1).map Prod.fst)), HV.int .i64 0]) (q := HV.tup [slE eStr (sortS ((x5.1).map Prod.fst)), HV.int .i64 0]) (.inr rfl) (resT rfl (resT rfl rfl)) rfl ⟨(clean_slE fun _ _ => ⟨trivial, trivial⟩), trivial, trivial⟩
    · have h := ifF hg7 h
      refine y_op rfl rfl rfl rfl (o_callA rfl rfl rfl rfl (c_listF h6 hg7 ?_) )
      refine b_nil ?_
      refine y_st 10 rfl rfl ?_
      refine sm rfl rfl ?_
      refine sv rfl (v_extract rfl rfl) ?_
      refine sv rfl (v_extract rfl rfl) ?_
      refine sm rfl rfl ?_
      refine sm rfl rfl ?_
      refine s_nil ?_
      refine y_nil rfl (hK _ (AW.to (to_le (s' := ⟨[(7, HV.v (.map none)), (8, HV.bool false)], []⟩) (AS.le_of ⟨rfl, rfl, trivial⟩ trivial) ?_)))
      clear hK K
      refine AW.seq ?_
      refine AW.rgs rfl fun K hK => ?_
      refine mv rfl rfl ?_
      refine bv rfl (v_not rfl) ?_
      refine b_nil (hK _ (AW.to (to_le (s' := ⟨[(7, HV.v (.map none)), (24, HV.bool true)], []⟩) (AS.le_of ⟨rfl, rfl, trivial⟩ trivial) ?_)))
      clear hK K
      refine AW.cond rfl (fun _ => ?_) (fun hc => by cases hc)
      refine AW.rgs rfl fun K hK => ?_
      refine mv rfl rfl ?_
      refine mv rfl rfl ?_
      refine b_nil (hK _ (AW.to (to_le (s' := ⟨[(4, HV.v (.slice none 0 0)), (5, HV.int .i64 4)], []⟩) (AS.le_of ⟨rfl, rfl, trivial⟩ trivial) ?_)))
      clear hK K
      refine AW.to (to_weak ⟨[(4, slE eStr ([] : List (List UInt8))), (5, HV.int .i64 4)], []⟩ ⟨⟨_, rfl, .nil _⟩, ⟨_, rfl, .refl _⟩, trivial⟩ trivial ?_)
      refine AW.ret ?_
      have h := Option.some.inj h
      subst h
      exact ret_pure (hs := [slE eStr ([] : List (List UInt8)), HV.int .i64 4]) (q := HV.tup [slE eStr ([] : List (List UInt8)), HV.int .i64 4]) (.inr rfl) (resT rfl (resT rfl rfl)) rfl ⟨(clean_slE fun _ _ => ⟨trivial, trivial⟩), trivial, trivial⟩

set_option maxHeartbeats 1600000 in
set_option maxRecDepth 100000 in
theorem w_distance_words {p0 : TLabelsStatesEdges} {p1 : Int} {r : (List (List UInt8)) × Int} (h : m_distance_words p0 p1 = some r) : Pure Try.prog 67 [HV.agg [HV.int .i64 p0.1, HV.int .i64 p0.2.1, slE eFromLabelTo p0.2.2], HV.int .i64 p1] (· = HV.tup [slE eStr r.1, HV.int .i64 r.2]) := by
  unfold m_distance_words at h
  refine Pure.of_body Try.func67 rfl rfl (Nat.le_of_ble_eq_true rfl) fun hf => ?_
  unfold Try.f67
  dsimp only [enumS, Nat.reduceAdd]
  refine AW.rgs rfl fun K hK => ?_
  refine b_op rfl (o_box rfl rfl rfl ?_)
  refine mv rfl rfl ?_
  refine mv rfl rfl ?_
  refine b_nil (hK _ (AW.to (to_le (s' := ⟨[(1, HV.int .i64 p1), (2, HV.fptr [HV.int .i64 p0.1, HV.int .i64 p0.2.1, slE eFromLabelTo p0.2.2] 0)], []⟩) (AS.le_of ⟨rfl, rfl, trivial⟩ trivial) ?_)))
  clear hK K
  refine AW.rgs rfl fun K hK => ?_
  refine bv rfl (v_loadF ty24 rfl (l_litA rfl (Nat.le_of_ble_eq_true rfl) rfl)) ?_
  refine mv rfl rfl ?_
  obtain ⟨x1, h2, h⟩ := bS h
  refine b_op rfl (o_call rfl rfl rfl rfl (ACallD.pure0 (w_language_Words h2)) ?_)
  refine mv rfl rfl ?_
  refine bv rfl (v_extract rfl rfl) ?_
  refine bv rfl (v_extract rfl rfl) ?_
  refine mv rfl rfl ?_
  refine mv rfl rfl ?_
  refine b_nil (hK _ (AW.to (to_le (s' := ⟨[(6, slE eStr x1.1), (7, HV.int .i64 x1.2)], []⟩) (AS.le_of ⟨rfl, rfl, trivial⟩ trivial) ?_)))
  clear hK K
  refine AW.seq (AW.block ?_)
  refine AW.rgs rfl fun K hK => ?_
  refine mv rfl rfl ?_
  refine bv rfl (v_bin rfl rfl b_neq) ?_
  refine mv rfl rfl ?_
  refine b_nil (hK _ (AW.to (to_le (s' := ⟨[(6, slE eStr x1.1), (7, HV.int .i64 x1.2), (14, HV.bool (decide (x1.2 ≠ 0)))], []⟩) (AS.le_of ⟨rfl, rfl, rfl, trivial⟩ trivial) ?_)))
  clear hK K
  refine AW.cond rfl (fun hc => ?_) (fun hc => ?_)
  · have hc := of_decide_eq_true hc
    have h := ifT hc h
    refine AW.rgs rfl fun K hK => ?_
    refine mv rfl rfl ?_
    refine mv rfl rfl ?_
    refine mv rfl rfl ?_
    refine b_nil (hK _ (AW.to (to_le (s' := ⟨[(4, HV.v (.slice none 0 0)), (5, HV.int .i64 x1.2)], []⟩) (AS.le_of ⟨rfl, rfl, trivial⟩ trivial) ?_)))
    clear hK K
    refine AW.to (to_weak ⟨[(4, slE eStr ([] : List (List UInt8))), (5, HV.int .i64 x1.2)], []⟩ ⟨⟨_, rfl, .nil _⟩, ⟨_, rfl, .refl _⟩, trivial⟩ trivial ?_)
    refine AW.ret ?_
    have h := Option.some.inj h
    subst h
    exact ret_pure (hs := [slE eStr ([] : List (List UInt8)), HV.int .i64 x1.2]) (q := HV.tup [slE eStr ([] : List (List UInt8)), HV.int .i64 x1.2]) (.inr rfl) (resT rfl (resT rfl rfl)) rfl ⟨(clean_slE fun _ _ => ⟨trivial, trivial⟩), trivial, trivial⟩
  · have hc := of_decide_eq_false hc
    have h := ifF hc h
    refine AW.rgs rfl fun K hK => ?_
    refine mv rfl rfl ?_
    refine bv rfl (v_lenF rfl rfl ty30 rfl) ?_
    refine bv rfl (v_bin rfl rfl b_gtr) ?_
    refine mv rfl rfl ?_
    refine b_nil (hK _ (AW.to (to_le (s' := ⟨[(6, slE eStr x1.1), (18, HV.bool (decide (512 < ((x1.1).length : Int))))], []⟩) (AS.le_of ⟨rfl, rfl, trivial⟩ trivial) ?_)))
    clear hK K
    refine AW.cond rfl (fun hc => ?_) (fun hc => ?_)
    · have hc := of_decide_eq_true hc
      have h := ifT hc h
      refine AW.rgs rfl fun K hK => ?_
      refine mv rfl rfl ?_
      refine mv rfl rfl ?_
      refine b_nil (hK _ (AW.to (to_le (s' := ⟨[(4, HV.v (.slice none 0 0)), (5, HV.int .i64 4)], []⟩) (AS.le_of ⟨rfl, rfl, trivial⟩ trivial) ?_)))
      clear hK K
      refine AW.to (to_weak ⟨[(4, slE eStr ([] : List (List UInt8))), (5, HV.int .i64 4)], []⟩ ⟨⟨_, rfl, .nil _⟩, ⟨_, rfl, .refl _⟩, trivial⟩ trivial ?_)
      refine AW.ret ?_
      have h := Option.some.inj h
      subst h
      exact ret_pure (hs := [slE eStr ([] : List (List UInt8)), HV.int .i64 4]) (q := HV.tup [slE eStr ([] : List (List UInt8)), HV.int .i64 4]) (.inr rfl) (resT rfl (resT rfl rfl)) rfl ⟨(clean_slE fun _ _ => ⟨trivial, trivial⟩), trivial, trivial⟩
    · have hc := of_decide_eq_false hc
      have h := ifF hc h
      refine AW.skip ?_
      refine AW.rgs rfl fun K hK => ?_
      refine mv rfl rfl ?_
      refine mv rfl rfl ?_
      refine mv rfl rfl ?_
      refine b_nil (hK _ (AW.to (to_le (s' := ⟨[(4, slE eStr x1.1), (5, HV.int .i64 0)], []⟩) (AS.le_of ⟨rfl, rfl, trivial⟩ trivial) ?_)))
      clear hK K
      refine AW.ret ?_
      have h := Option.some.inj h
      subst h
      exact ret_pure (hs := [slE eStr x1.1, HV.int .i64 0]) (q := HV.tup [slE eStr x1.1, HV.int .i64 0]) (.inr rfl) (resT rfl (resT rfl rfl)) rfl ⟨(clean_slE fun _ _ => ⟨trivial, trivial⟩), trivial, trivial⟩

set_option maxHeartbeats 1600000 in
set_option maxRecDepth 100000 in
theorem w_distance_Of {p0 : TLabelsStatesEdges} {p1 : Int} {r : Int × Int} (h : m_distance_Of p0 p1 = some r) : Pure Try.prog 16 [HV.agg [HV.int .i64 p0.1, HV.int .i64 p0.2.1, slE eFromLabelTo p0.2.2], HV.int .i64 p1] (· = HV.tup [HV.int .i64 r.1, HV.int .i64 r.2]) := by
  unfold m_distance_Of at h
  refine Pure.of_body Try.func16 rfl rfl (Nat.le_of_ble_eq_true rfl) fun hf => ?_
  unfold Try.f16
  dsimp only [enumS, Nat.reduceAdd]
  refine AW.rgs rfl fun K hK => ?_
  refine b_op rfl (o_box rfl rfl rfl ?_)
  refine mv rfl rfl ?_
  refine mv rfl rfl ?_
  refine b_nil (hK _ (AW.to (to_le (s' := ⟨[(1, HV.int .i64 p1), (2, HV.fptr [HV.int .i64 p0.1, HV.int .i64 p0.2.1, slE eFromLabelTo p0.2.2] 0)], []⟩) (AS.le_of ⟨rfl, rfl, trivial⟩ trivial) ?_)))
  clear hK K
  refine AW.rgs rfl fun K hK => ?_
  refine bv rfl (v_loadF ty24 rfl (l_litA rfl (Nat.le_of_ble_eq_true rfl) rfl)) ?_
  refine mv rfl rfl ?_
  obtain ⟨x1, h2, h⟩ := bS h
  refine b_op rfl (o_call rfl rfl rfl rfl (ACallD.pure0 (w_distance_words h2)) ?_)
  refine mv rfl rfl ?_
  refine bv rfl (v_extract rfl rfl) ?_
  refine bv rfl (v_extract rfl rfl) ?_
  refine mv rfl rfl ?_
  refine mv rfl rfl ?_
  refine b_nil (hK _ (AW.to (to_le (s' := ⟨[(6, slE eStr x1.1), (7, HV.int .i64 x1.2)], []⟩) (AS.le_of ⟨rfl, rfl, trivial⟩ trivial) ?_)))
  clear hK K
  refine AW.seq ?_
  refine AW.rgs rfl fun K hK => ?_
  refine mv rfl rfl ?_
  refine bv rfl (v_bin rfl rfl b_neq) ?_
  refine b_nil (hK _ (AW.to (to_le (s' := ⟨[(6, slE eStr x1.1), (7, HV.int .i64 x1.2), (15, HV.bool (decide (x1.2 ≠ 0)))], []⟩) (AS.le_of ⟨rfl, rfl, rfl, trivial⟩ trivial) ?_)))
  clear hK K
  refine AW.cond rfl (fun hc => ?_) (fun hc => ?_)
  · have hc := of_decide_eq_true hc
    have h := ifT hc h
    refine AW.rgs rfl fun K hK => ?_
    refine mv rfl rfl ?_
    refine mv rfl rfl ?_
    refine mv rfl rfl ?_
    refine b_nil (hK _ (AW.to (to_le (s' := ⟨[(4, HV.int .i64 0), (5, HV.int .i64 x1.2)], []⟩) (AS.le_of ⟨rfl, rfl, trivial⟩ trivial) ?_)))
    clear hK K
    refine AW.ret ?_
    have h := Option.some.inj h
    subst h
    exact ret_pure (hs := [HV.int .i64 0, HV.int .i64 x1.2]) (q := HV.tup [HV.int .i64 0, HV.int .i64 x1.2]) (.inr rfl) (resT rfl (resT rfl rfl)) rfl ⟨trivial, trivial, trivial⟩
  · have hc := of_decide_eq_false hc
    have h := ifF hc h
    refine AW.skip ?_
    refine AW.rgs rfl fun K hK => ?_
    refine mv rfl rfl ?_
    obtain ⟨x3, h4, h⟩ := bS h
    refine b_op rfl (o_call rfl rfl rfl rfl (ACallD.pure0 (w_distance_Least h4)) ?_)
    refine bv rfl (v_extract rfl rfl) ?_
    refine bv rfl (v_extract rfl rfl) ?_
    refine mv rfl rfl ?_
    refine mv rfl rfl ?_
    refine b_nil (hK _ (AW.to (to_le (s' := ⟨[(4, HV.int .i64 x3.1), (5, HV.int .i64 x3.2)], []⟩) (AS.le_of ⟨rfl, rfl, trivial⟩ trivial) ?_)))
    clear hK K
    refine AW.ret ?_
    have h := Option.some.inj h
    subst h
    exact ret_pure (hs := [HV.int .i64 x3.1, HV.int .i64 x3.2]) (q := HV.tup [HV.int .i64 x3.1, HV.int .i64 x3.2]) (.inr rfl) (resT rfl (resT rfl rfl)) rfl ⟨trivial, trivial, trivial⟩

set_option maxHeartbeats 1600000 in
set_option maxRecDepth 100000 in
theorem w_ref46_words {p0 : TLabelsStatesEdges} {p1 : Int} {r : (List (List UInt8)) × Int} (h : m_ref46_words p0 p1 = some r) : Pure Try.prog 68 [HV.agg [HV.int .i64 p0.1, HV.int .i64 p0.2.1, slE eFromLabelTo p0.2.2], HV.int .i64 p1] (· = HV.tup [slE eStr r.1, HV.int .i64 r.2]) := by
  unfold m_ref46_words at h
  refine Pure.of_body Try.func68 rfl rfl (Nat.le_of_ble_eq_true rfl) fun hf => ?_
  unfold Try.f68
  dsimp only [enumS, Nat.reduceAdd]
  refine AW.rgs rfl fun K hK => ?_
  refine b_op rfl (o_box rfl rfl rfl ?_)
  refine mv rfl rfl ?_
  refine mv rfl rfl ?_
  refine b_nil (hK _ (AW.to (to_le (s' := ⟨[(1, HV.int .i64 p1), (2, HV.fptr [HV.int .i64 p0.1, HV.int .i64 p0.2.1, slE eFromLabelTo p0.2.2] 0)], []⟩) (AS.le_of ⟨rfl, rfl, trivial⟩ trivial) ?_)))
  clear hK K
  refine AW.rgs rfl fun K hK => ?_
  refine bv rfl (v_loadF ty24 rfl (l_litA rfl (Nat.le_of_ble_eq_true rfl) rfl)) ?_
  refine mv rfl rfl ?_
  obtain ⟨x1, h2, h⟩ := bS h
  refine b_op rfl (o_call rfl rfl rfl rfl (ACallD.pure0 (w_ref11_Words h2)) ?_)
  refine mv rfl rfl ?_
  refine bv rfl (v_extract rfl rfl) ?_
  refine bv rfl (v_extract rfl rfl) ?_
  refine mv rfl rfl ?_
  refine mv rfl rfl ?_
  refine b_nil (hK _ (AW.to (to_le (s' := ⟨[(6, slE eStr x1.1), (7, HV.int .i64 x1.2)], []⟩) (AS.le_of ⟨rfl, rfl, trivial⟩ trivial) ?_)))
  clear hK K
  refine AW.seq ?_
  refine AW.rgs rfl fun K hK => ?_
  refine mv rfl rfl ?_
  refine bv rfl (v_bin rfl rfl b_neq) ?_
  refine b_nil (hK _ (AW.to (to_le (s' := ⟨[(6, slE eStr x1.1), (7, HV.int .i64 x1.2), (15, HV.bool (decide (x1.2 ≠ 0)))], []⟩) (AS.le_of ⟨rfl, rfl, rfl, trivial⟩ trivial) ?_)))
  clear hK K
  refine AW.cond rfl (fun hc => ?_) (fun hc => ?_)
  · have hc := of_decide_eq_true hc
    have h := ifT hc h
    refine AW.rgs rfl fun K hK => ?_
    refine b_op rfl (o_bslM (fid := 68) 68016 rfl rfl rfl (as_of (cs := []) ty30 ty9 rfl rfl rfl rfl rfl) (fun v3 => ?_))
    refine mv rfl rfl ?_
    refine mv rfl rfl ?_
    refine mv rfl rfl ?_
    refine b_nil (hK _ (AW.to (to_le (s' := ⟨[(4, HV.ar 68016 v3 eStr.k 0 0), (5, HV.int .i64 x1.2)], [(68016, v3, .arr eStr.k 9 [])]⟩) (AS.le_of ⟨rfl, rfl, trivial⟩ ⟨rfl, trivial⟩) ?_)))
    clear hK K
    refine AW.to (to_frz 2 [(68016, v3, .arr eStr.k 9 [])] ⟨[(4, slE eStr []), (5, HV.int .i64 x1.2)], []⟩ ⟨⟨_, rfl, frz_slE eStr (l := []) rfl fun _ _ => rfl⟩, ⟨_, rfl, rfl⟩, trivial⟩ trivial ⟨rfl, trivial⟩ ⟨rfl, trivial⟩ ?_)
    refine AW.ret ?_
    have h := Option.some.inj h
    subst h
    exact ret_pure (hs := [slE eStr [], HV.int .i64 x1.2]) (q := HV.tup [slE eStr [], HV.int .i64 x1.2]) (.inr rfl) (resT rfl (resT rfl rfl)) rfl ⟨(clean_slE fun _ _ => ⟨trivial, trivial⟩), trivial, trivial⟩
  · have hc := of_decide_eq_false hc
    have h := ifF hc h
    refine AW.skip ?_
    refine AW.seq ?_
    refine AW.rgs rfl fun K hK => ?_
    refine mv rfl rfl ?_
    refine bv rfl (v_lenF rfl rfl ty30 rfl) ?_
    refine bv rfl (v_bin rfl rfl b_gtr) ?_
    refine b_nil (hK _ (AW.to (to_le (s' := ⟨[(6, slE eStr x1.1), (20, HV.bool (decide (512 < ((x1.1).length : Int))))], []⟩) (AS.le_of ⟨rfl, rfl, trivial⟩ trivial) ?_)))
    clear hK K
    refine AW.cond rfl (fun hc => ?_) (fun hc => ?_)
    · have hc := of_decide_eq_true hc
      have h := ifT hc h
      refine AW.rgs rfl fun K hK => ?_
      refine b_op rfl (o_bslM (fid := 68) 68021 rfl rfl rfl (as_of (cs := []) ty30 ty9 rfl rfl rfl rfl rfl) (fun v4 => ?_))
      refine mv rfl rfl ?_
      refine mv rfl rfl ?_
      refine b_nil (hK _ (AW.to (to_le (s' := ⟨[(4, HV.ar 68021 v4 eStr.k 0 0), (5, HV.int .i64 4)], [(68021, v4, .arr eStr.k 9 [])]⟩) (AS.le_of ⟨rfl, rfl, trivial⟩ ⟨rfl, trivial⟩) ?_)))
      clear hK K
      refine AW.to (to_frz 2 [(68021, v4, .arr eStr.k 9 [])] ⟨[(4, slE eStr []), (5, HV.int .i64 4)], []⟩ ⟨⟨_, rfl, frz_slE eStr (l := []) rfl fun _ _ => rfl⟩, ⟨_, rfl, rfl⟩, trivial⟩ trivial ⟨rfl, trivial⟩ ⟨rfl, trivial⟩ ?_)
      refine AW.ret ?_
      have h := Option.some.inj h
      subst h
      exact ret_pure (hs := [slE eStr [], HV.int .i64 4]) (q := HV.tup [slE eStr [], HV.int .i64 4]) (.inr rfl) (resT rfl (resT rfl rfl)) rfl ⟨(clean_slE fun _ _ => ⟨trivial, trivial⟩), trivial, trivial⟩
    · have hc := of_decide_eq_false hc
      have h := ifF hc h
      refine AW.skip ?_
      refine AW.rgs rfl fun K hK => ?_
      refine mv rfl rfl ?_
      refine mv rfl rfl ?_
      refine mv rfl rfl ?_
      refine b_nil (hK _ (AW.to (to_le (s' := ⟨[(4, slE eStr x1.1), (5, HV.int .i64 0)], []⟩) (AS.le_of ⟨rfl, rfl, trivial⟩ trivial) ?_)))
      clear hK K
      refine AW.ret ?_
      have h := Option.some.inj h
      subst h
      exact ret_pure (hs := [slE eStr x1.1, HV.int .i64 0]) (q := HV.tup [slE eStr x1.1, HV.int .i64 0]) (.inr rfl) (resT rfl (resT rfl rfl)) rfl ⟨(clean_slE fun _ _ => ⟨trivial, trivial⟩), trivial, trivial⟩

set_option maxHeartbeats 1600000 in
set_option maxRecDepth 100000 in
theorem w_ref46_Of {p0 : TLabelsStatesEdges} {p1 : Int} {r : Int × Int} (h : m_ref46_Of p0 p1 = some r) : Pure Try.prog 17 [HV.agg [HV.int .i64 p0.1, HV.int .i64 p0.2.1, slE eFromLabelTo p0.2.2], HV.int .i64 p1] (· = HV.tup [HV.int .i64 r.1, HV.int .i64 r.2]) := by
  unfold m_ref46_Of at h
  refine Pure.of_body Try.func17 rfl rfl (Nat.le_of_ble_eq_true rfl) fun hf => ?_
  unfold Try.f17
  dsimp only [enumS, Nat.reduceAdd]
  refine AW.rgs rfl fun K hK => ?_
  refine b_op rfl (o_box rfl rfl rfl ?_)
  refine mv rfl rfl ?_
  refine mv rfl rfl ?_
  refine b_nil (hK _ (AW.to (to_le (s' := ⟨[(1, HV.int .i64 p1), (2, HV.fptr [HV.int .i64 p0.1, HV.int .i64 p0.2.1, slE eFromLabelTo p0.2.2] 0)], []⟩) (AS.le_of ⟨rfl, rfl, trivial⟩ trivial) ?_)))
  clear hK K
  refine AW.rgs rfl fun K hK => ?_
  refine bv rfl (v_loadF ty24 rfl (l_litA rfl (Nat.le_of_ble_eq_true rfl) rfl)) ?_
  refine mv rfl rfl ?_
  obtain ⟨x1, h2, h⟩ := bS h
  refine b_op rfl (o_call rfl rfl rfl rfl (ACallD.pure0 (w_ref46_words h2)) ?_)
  refine mv rfl rfl ?_
  refine bv rfl (v_extract rfl rfl) ?_
  refine bv rfl (v_extract rfl rfl) ?_
  refine mv rfl rfl ?_
  refine mv rfl rfl ?_
  refine b_nil (hK _ (AW.to (to_le (s' := ⟨[(6, slE eStr x1.1), (7, HV.int .i64 x1.2)], []⟩) (AS.le_of ⟨rfl, rfl, trivial⟩ trivial) ?_)))
  clear hK K
  refine AW.seq ?_
  refine AW.rgs rfl fun K hK => ?_
  refine mv rfl rfl ?_
  refine bv rfl (v_bin rfl rfl b_neq) ?_
  refine b_nil (hK _ (AW.to (to_le (s' := ⟨[(6, slE eStr x1.1), (7, HV.int .i64 x1.2), (15, HV.bool (decide (x1.2 ≠ 0)))], []⟩) (AS.le_of ⟨rfl, rfl, rfl, trivial⟩ trivial) ?_)))
  clear hK K
  refine AW.cond rfl (fun hc => ?_) (fun hc => ?_)
  · have hc := of_decide_eq_true hc
    have h := ifT hc h
    refine AW.rgs rfl fun K hK => ?_
    refine mv rfl rfl ?_
    refine mv rfl rfl ?_
    refine mv rfl rfl ?_
    refine b_nil (hK _ (AW.to (to_le (s' := ⟨[(4, HV.int .i64 0), (5, HV.int .i64 x1.2)], []⟩) (AS.le_of ⟨rfl, rfl, trivial⟩ trivial) ?_)))
    clear hK K
    refine AW.ret ?_
    have h := Option.some.inj h
    subst h
    exact ret_pure (hs := [HV.int .i64 0, HV.int .i64 x1.2]) (q := HV.tup [HV.int .i64 0, HV.int .i64 x1.2]) (.inr rfl) (resT rfl (resT rfl rfl)) rfl ⟨trivial, trivial, trivial⟩
  · have hc := of_decide_eq_false hc
    have h := ifF hc h
    refine AW.skip ?_
    refine AW.rgs rfl fun K hK => ?_
    refine mv rfl rfl ?_
    obtain ⟨x3, h4, h⟩ := bS h
    refine b_op rfl (o_call rfl rfl rfl rfl (ACallD.pure0 (w_ref46_Least h4)) ?_)
    refine bv rfl (v_extract rfl rfl) ?_
    refine bv rfl (v_extract rfl rfl) ?_
    refine mv rfl rfl ?_
    refine mv rfl rfl ?_
    refine b_nil (hK _ (AW.to (to_le (s' := ⟨[(4, HV.int .i64 x3.1), (5, HV.int .i64 x3.2)], []⟩) (AS.le_of ⟨rfl, rfl, trivial⟩ trivial) ?_)))
    clear hK K
    refine AW.ret ?_
    have h := Option.some.inj h
    subst h
    exact ret_pure (hs := [HV.int .i64 x3.1, HV.int .i64 x3.2]) (q := HV.tup [HV.int .i64 x3.1, HV.int .i64 x3.2]) (.inr rfl) (resT rfl (resT rfl rfl)) rfl ⟨trivial, trivial, trivial⟩

set_option maxHeartbeats 1600000 in
set_option maxRecDepth 100000 in
theorem w_distance_Greedy {p0 : TLabelsStatesEdges} {p1 : Int} {p2 : Int} {r : (List (List UInt8)) × Int} (h : m_distance_Greedy p0 p1 p2 = some r) : Pure Try.prog 18 [HV.agg [HV.int .i64 p0.1, HV.int .i64 p0.2.1, slE eFromLabelTo p0.2.2], HV.int .i64 p1, HV.int .i64 p2] (· = HV.tup [slE eStr r.1, HV.int .i64 r.2]) := by
  unfold m_distance_Greedy at h
  refine Pure.of_body Try.func18 rfl rfl (Nat.le_of_ble_eq_true rfl) fun hf => ?_
  unfold Try.f18
  dsimp only [enumS, Nat.reduceAdd]
  refine AW.rgs rfl fun K hK => ?_
  refine b_op rfl (o_box rfl rfl rfl ?_)
  refine mv rfl rfl ?_
  refine mv rfl rfl ?_
  refine b_nil (hK _ (AW.to (to_le (s' := ⟨[(1, HV.int .i64 p1), (2, HV.int .i64 p2), (3, HV.fptr [HV.int .i64 p0.1, HV.int .i64 p0.2.1, slE eFromLabelTo p0.2.2] 0)], []⟩) (AS.le_of ⟨rfl, rfl, rfl, trivial⟩ trivial) ?_)))
  clear hK K
  refine AW.seq ?_
  refine AW.seqJ h (S := Bool) (V := Unit) (fun a v => ⟨[(1, HV.int .i64 p1), (2, HV.int .i64 p2), (3, HV.fptr [HV.int .i64 p0.1, HV.int .i64 p0.2.1, slE eFromLabelTo p0.2.2] 0), (21, HV.bool a)], []⟩) (fun a1 w2 h => ?_) (fun k3 h => ?_)
  · refine AW.cond rfl (fun hc => ?_) (fun hc => ?_)
    · have h := ifT hc h
      refine AW.rgs rfl fun K hK => ?_
      refine mv rfl rfl ?_
      refine mv rfl rfl ?_
      refine b_nil (hK _ (AW.to (to_le (s' := ⟨[(6, HV.v (.slice none 0 0)), (7, HV.int .i64 2)], []⟩) (AS.le_of ⟨rfl, rfl, trivial⟩ trivial) ?_)))
      clear hK K
      refine AW.to (to_weak ⟨[(6, slE eStr ([] : List (List UInt8))), (7, HV.int .i64 2)], []⟩ ⟨⟨_, rfl, .nil _⟩, ⟨_, rfl, .refl _⟩, trivial⟩ trivial ?_)
      refine AW.ret ?_
      have h := Option.some.inj h
      subst h
      exact ret_pure (hs := [slE eStr ([] : List (List UInt8)), HV.int .i64 2]) (q := HV.tup [slE eStr ([] : List (List UInt8)), HV.int .i64 2]) (.inr rfl) (resT rfl (resT rfl rfl)) rfl ⟨(clean_slE fun _ _ => ⟨trivial, trivial⟩), trivial, trivial⟩
    · have h := ifF (bF' hc) h
      refine AW.skip ?_
      refine AW.rgs rfl fun K hK => ?_
      refine bv rfl (v_loadF ty24 rfl (l_litA rfl (Nat.le_of_ble_eq_true rfl) rfl)) ?_
      refine mv rfl rfl ?_
      obtain ⟨x4, h5, h⟩ := bS h
      refine b_op rfl (o_call rfl rfl rfl rfl (ACallD.pure0 (w_distance_words h5)) ?_)
      refine mv rfl rfl ?_
      refine bv rfl (v_extract rfl rfl) ?_
      refine bv rfl (v_extract rfl rfl) ?_
      refine mv rfl rfl ?_
      refine mv rfl rfl ?_
      refine b_nil (hK _ (AW.to (to_le (s' := ⟨[(2, HV.int .i64 p2), (8, slE eStr x4.1), (9, HV.int .i64 x4.2)], []⟩) (AS.le_of ⟨rfl, rfl, rfl, trivial⟩ trivial) ?_)))
      clear hK K
      refine AW.seq ?_
      refine AW.rgs rfl fun K hK => ?_
      refine mv rfl rfl ?_
      refine bv rfl (v_bin rfl rfl b_neq) ?_
      refine b_nil (hK _ (AW.to (to_le (s' := ⟨[(2, HV.int .i64 p2), (8, slE eStr x4.1), (9, HV.int .i64 x4.2), (29, HV.bool (decide (x4.2 ≠ 0)))], []⟩) (AS.le_of ⟨rfl, rfl, rfl, rfl, trivial⟩ trivial) ?_)))
      clear hK K
      refine AW.cond rfl (fun hc => ?_) (fun hc => ?_)
      · have hc := of_decide_eq_true hc
        have h := ifT hc h
        refine AW.rgs rfl fun K hK => ?_
        refine mv rfl rfl ?_
        refine mv rfl rfl ?_
        refine mv rfl rfl ?_
        refine b_nil (hK _ (AW.to (to_le (s' := ⟨[(6, HV.v (.slice none 0 0)), (7, HV.int .i64 x4.2)], []⟩) (AS.le_of ⟨rfl, rfl, trivial⟩ trivial) ?_)))
        clear hK K
        refine AW.to (to_weak ⟨[(6, slE eStr ([] : List (List UInt8))), (7, HV.int .i64 x4.2)], []⟩ ⟨⟨_, rfl, .nil _⟩, ⟨_, rfl, .refl _⟩, trivial⟩ trivial ?_)
        refine AW.ret ?_
        have h := Option.some.inj h
        subst h
        exact ret_pure (hs := [slE eStr ([] : List (List UInt8)), HV.int .i64 x4.2]) (q := HV.tup [slE eStr ([] : List (List UInt8)), HV.int .i64 x4.2]) (.inr rfl) (resT rfl (resT rfl rfl)) rfl ⟨(clean_slE fun _ _ => ⟨trivial, trivial⟩), trivial, trivial⟩
      · have hc := of_decide_eq_false hc
        have h := ifF hc h
        refine AW.skip ?_
        refine AW.rgs rfl fun K hK => ?_
        refine mv rfl rfl ?_
        refine b_nil (hK _ (AW.to (to_le (s' := ⟨[(2, HV.int .i64 p2), (8, slE eStr x4.1), (10, HV.v (.slice none 0 0))], []⟩) (AS.le_of ⟨rfl, rfl, rfl, trivial⟩ trivial) ?_)))
        clear hK K
        refine AW.seq ?_
        refine AW.rgs rfl fun K hK => ?_
        refine mv rfl rfl ?_
        refine bv rfl (v_lenF rfl rfl ty30 rfl) ?_
        refine mv rfl rfl ?_
        refine b_nil (hK _ (AW.to (to_le (s' := ⟨[(2, HV.int .i64 p2), (10, HV.v (.slice none 0 0)), (31, slE eStr x4.1), (32, HV.int .i64 ((x4.1).length : Int)), (33, HV.int .i64 0)], []⟩) (AS.le_of ⟨rfl, rfl, rfl, rfl, rfl, trivial⟩ trivial) ?_)))
        clear hK K
        refine AW.lpX h (by first | exact up_then | exact up_to) (S := Int × (List (List UInt8))) (V := Nat) (fun a v => ⟨[(2, HV.int .i64 p2), (10, HV.ar 18056 v eStr.k 0 ((a.2).length)), (31, slE eStr x4.1), (32, HV.int .i64 ((x4.1).length : Int)), (33, HV.int .i64 a.1)], [(18056, v, .arr eStr.k 9 (eStr.E a.2))]⟩) ?_ (X := (List (List UInt8))) (W := Nat) (fun a v => ⟨[(10, HV.ar 18056 v eStr.k 0 ((a).length))], [(18056, v, .arr eStr.k 9 (eStr.E a))]⟩) (fun a34 w35 h => ?_) (fun a6 w7 st8 h => ?_)
        · refine to_bind (to_own 18056 10 eStr.k 9 rfl fun v33 => ?_)
          exact to_le (s' := ⟨[(2, HV.int .i64 p2), (10, HV.ar 18056 v33 eStr.k 0 ((([] : List (List UInt8))).length)), (31, slE eStr x4.1), (32, HV.int .i64 ((x4.1).length : Int)), (33, HV.int .i64 0)], [(18056, v33, .arr eStr.k 9 (eStr.E ([] : List (List UInt8))))]⟩) (AS.le_of ⟨rfl, arl (by first | rfl | simp only [List.length_set, sortI_len, sortS_len]), rfl, rfl, rfl, trivial⟩ ⟨rfl, trivial⟩) ⟨v33, rfl⟩
        · refine AW.rgs rfl fun K hK => ?_
          refine mv rfl rfl ?_
          refine mv rfl rfl ?_
          refine mv rfl rfl ?_
          refine b_nil (hK _ (AW.to (to_le (s' := ⟨[(6, HV.ar 18056 w35 eStr.k 0 ((a34).length)), (7, HV.int .i64 0)], [(18056, w35, .arr eStr.k 9 (eStr.E a34))]⟩) (AS.le_of ⟨rfl, rfl, trivial⟩ ⟨rfl, trivial⟩) ?_)))
          clear hK K
          refine AW.to (to_frz 2 [(18056, w35, .arr eStr.k 9 (eStr.E a34))] ⟨[(6, slE eStr a34), (7, HV.int .i64 0)], []⟩ ⟨⟨_, rfl, frz_slE eStr (l := a34) rfl fun _ _ => rfl⟩, ⟨_, rfl, rfl⟩, trivial⟩ trivial ⟨rfl, trivial⟩ ⟨rfl, trivial⟩ ?_)
          refine AW.ret ?_
          have h := Option.some.inj h
          subst h
          exact ret_pure (hs := [slE eStr a34, HV.int .i64 0]) (q := HV.tup [slE eStr a34, HV.int .i64 0]) (.inr rfl) (resT rfl (resT rfl rfl)) rfl ⟨(clean_slE fun _ _ => ⟨trivial, trivial⟩), trivial, trivial⟩
        · refine AW.rgs rfl fun K hK => ?_
          refine bv rfl (v_bin rfl rfl b_lss) ?_
          refine b_nil (hK _ (AW.to (to_le (s' := ⟨[(2, HV.int .i64 p2), (10, HV.ar 18056 w7 eStr.k 0 ((a6.2).length)), (31, slE eStr x4.1), (32, HV.int .i64 ((x4.1).length : Int)), (33, HV.int .i64 a6.1), (34, HV.bool (decide (a6.1 < ((x4.1).length : Int))))], [(18056, w7, .arr eStr.k 9 (eStr.E a6.2))]⟩) (AS.le_of ⟨rfl, rfl, rfl, rfl, rfl, rfl, trivial⟩ ⟨rfl, trivial⟩) ?_)))
          clear hK K
          refine AW.cseq rfl (fun hc => ?_) (fun hc => ?_)
          · have hc := of_decide_eq_true hc
            have h := ifT hc h
            refine AW.skip ?_
            refine AW.seqJ h (S := (List (List UInt8))) (V := Nat) (fun a v => ⟨[(2, HV.int .i64 p2), (10, HV.ar 18056 v eStr.k 0 ((a).length)), (31, slE eStr x4.1), (32, HV.int .i64 ((x4.1).length : Int)), (33, HV.int .i64 a6.1)], [(18056, v, .arr eStr.k 9 (eStr.E a))]⟩) (fun a10 w11 h => ?_) (fun k12 h => ?_)
            · refine AW.rg rfl fun K hK => ?_
              refine bv rfl (v_bin rfl rfl b_add) ?_
              refine mv rfl rfl ?_
              refine b_nil (hK _ ?_)
              clear hK K
              exact to_le (s' := ⟨[(2, HV.int .i64 p2), (10, HV.ar 18056 w11 eStr.k 0 ((a10).length)), (31, slE eStr x4.1), (32, HV.int .i64 ((x4.1).length : Int)), (33, HV.int .i64 (IntKind.wrap .i64 (a6.1 + 1)))], [(18056, w11, .arr eStr.k 9 (eStr.E a10))]⟩) (AS.le_of ⟨rfl, rfl, rfl, rfl, rfl, trivial⟩ ⟨rfl, trivial⟩) ⟨(IntKind.wrap .i64 (a6.1 + 1), a10), w11, h, rfl⟩
            · refine AW.block ?_
              refine AW.rgs rfl fun K hK => ?_
              obtain ⟨x13, h14, h⟩ := bS h
              refine bv rfl (v_idxF ty30 es30 rfl rfl (idx_lt h14)) ?_
              refine bv rfl (v_loadF ty9 rfl (l_cell eStr h14 (o := 0) rfl rfl)) ?_
              refine mv rfl rfl ?_
              refine b_nil (hK _ (AW.to (to_le (s' := ⟨[(2, HV.int .i64 p2), (10, HV.ar 18056 w7 eStr.k 0 ((a6.2).length)), (12, HV.str x13), (31, slE eStr x4.1), (32, HV.int .i64 ((x4.1).length : Int)), (33, HV.int .i64 a6.1)], [(18056, w7, .arr eStr.k 9 (eStr.E a6.2))]⟩) (AS.le_of ⟨rfl, rfl, rfl, rfl, rfl, rfl, trivial⟩ ⟨rfl, trivial⟩) ?_)))
              clear hK K
              refine AW.rgs rfl fun K hK => ?_
              refine mv rfl rfl ?_
              refine b_nil (hK _ (AW.to (to_le (s' := ⟨[(2, HV.int .i64 p2), (10, HV.ar 18056 w7 eStr.k 0 ((a6.2).length)), (12, HV.str x13), (13, HV.bool true), (31, slE eStr x4.1), (32, HV.int .i64 ((x4.1).length : Int)), (33, HV.int .i64 a6.1)], [(18056, w7, .arr eStr.k 9 (eStr.E a6.2))]⟩) (AS.le_of ⟨rfl, rfl, rfl, rfl, rfl, rfl, rfl, trivial⟩ ⟨rfl, trivial⟩) ?_)))
              clear hK K
              refine AW.seq ?_
              refine AW.rgs rfl fun K hK => ?_
              refine mv rfl rfl ?_
              refine bv rfl (v_lenA rfl rfl ty30 rfl rfl) ?_
              refine mv rfl rfl ?_
              refine b_nil (hK _ (AW.to (to_le (s' := ⟨[(2, HV.int .i64 p2), (10, HV.ar 18056 w7 eStr.k 0 ((a6.2).length)), (12, HV.str x13), (13, HV.bool true), (31, slE eStr x4.1), (32, HV.int .i64 ((x4.1).length : Int)), (33, HV.int .i64 a6.1), (37, HV.ar 18056 w7 eStr.k 0 ((a6.2).length)), (38, HV.int .i64 (((a6.2).length : Nat) : Int)), (39, HV.int .i64 0)], [(18056, w7, .arr eStr.k 9 (eStr.E a6.2))]⟩) (AS.le_of ⟨rfl, rfl, rfl, rfl, rfl, rfl, rfl, rfl, rfl, rfl, trivial⟩ ⟨rfl, trivial⟩) ?_)))
              clear hK K
              refine AW.lpX h (by first | exact up_then | exact up_to) (S := Bool × Int) (V := Unit) (fun a v => ⟨[(2, HV.int .i64 p2), (10, HV.ar 18056 w7 eStr.k 0 ((a6.2).length)), (12, HV.str x13), (13, HV.bool a.1), (31, slE eStr x4.1), (32, HV.int .i64 ((x4.1).length : Int)), (33, HV.int .i64 a6.1), (37, HV.ar 18056 w7 eStr.k 0 ((a6.2).length)), (38, HV.int .i64 (((a6.2).length : Nat) : Int)), (39, HV.int .i64 a.2)], [(18056, w7, .arr eStr.k 9 (eStr.E a6.2))]⟩) ?_ (X := Bool) (W := Unit) (fun a v => ⟨[(2, HV.int .i64 p2), (10, HV.ar 18056 w7 eStr.k 0 ((a6.2).length)), (12, HV.str x13), (13, HV.bool a), (31, slE eStr x4.1), (32, HV.int .i64 ((x4.1).length : Int)), (33, HV.int .i64 a6.1)], [(18056, w7, .arr eStr.k 9 (eStr.E a6.2))]⟩) (fun a29 w30 h => ?_) (fun a15 w16 st17 h => ?_)
              · exact to_le (s' := ⟨[(2, HV.int .i64 p2), (10, HV.ar 18056 w7 eStr.k 0 ((a6.2).length)), (12, HV.str x13), (13, HV.bool true), (31, slE eStr x4.1), (32, HV.int .i64 ((x4.1).length : Int)), (33, HV.int .i64 a6.1), (37, HV.ar 18056 w7 eStr.k 0 ((a6.2).length)), (38, HV.int .i64 (((a6.2).length : Nat) : Int)), (39, HV.int .i64 0)], [(18056, w7, .arr eStr.k 9 (eStr.E a6.2))]⟩) (AS.le_of ⟨rfl, rfl, rfl, rfl, rfl, rfl, rfl, rfl, rfl, rfl, trivial⟩ ⟨rfl, trivial⟩) ⟨(), rfl⟩
              · refine AW.rgs rfl fun K hK => ?_
                refine mv rfl rfl ?_
                refine b_nil (hK _ (AW.to (to_le (s' := ⟨[(2, HV.int .i64 p2), (10, HV.ar 18056 w7 eStr.k 0 ((a6.2).length)), (12, HV.str x13), (31, slE eStr x4.1), (32, HV.int .i64 ((x4.1).length : Int)), (33, HV.int .i64 a6.1), (52, HV.bool a29)], [(18056, w7, .arr eStr.k 9 (eStr.E a6.2))]⟩) (AS.le_of ⟨rfl, rfl, rfl, rfl, rfl, rfl, rfl, trivial⟩ ⟨rfl, trivial⟩) ?_)))
                clear hK K
                refine AW.cond rfl (fun hc => ?_) (fun hc => ?_)
                · have h := ifT hc h
                  refine AW.rg rfl fun K hK => ?_
                  refine mv rfl rfl ?_
                  refine mv rfl rfl ?_
                  refine b_op rfl (o_bsl rfl rfl (as_of (cs := [HV.str x13]) ty30 ty9 rfl rfl rfl rfl rfl) ?_)
                  obtain ⟨h32, h⟩ := ifN h
                  refine b_op rfl (o_appE eStr (l := a6.2) (m := [x13]) rfl rfl ty30 ty30 ty9 rfl rfl rfl rfl rfl h32 (fun v31 => ?_))
                  refine mv rfl rfl ?_
                  refine b_nil (hK _ ?_)
                  clear hK K
                  exact to_le (s' := ⟨[(2, HV.int .i64 p2), (10, HV.ar 18056 v31 eStr.k 0 ((a6.2 ++ [x13]).length)), (31, slE eStr x4.1), (32, HV.int .i64 ((x4.1).length : Int)), (33, HV.int .i64 a6.1)], [(18056, v31, .arr eStr.k 9 (eStr.E (a6.2 ++ [x13])))]⟩) (AS.le_of ⟨rfl, rfl, rfl, rfl, rfl, trivial⟩ ⟨rfl, trivial⟩) ⟨a6.2 ++ [x13], v31, h, rfl⟩
                · have h := ifF (bF' hc) h
                  refine AW.skip ?_
                  exact to_le (s' := ⟨[(2, HV.int .i64 p2), (10, HV.ar 18056 w7 eStr.k 0 ((a6.2).length)), (31, slE eStr x4.1), (32, HV.int .i64 ((x4.1).length : Int)), (33, HV.int .i64 a6.1)], [(18056, w7, .arr eStr.k 9 (eStr.E a6.2))]⟩) (AS.le_of ⟨rfl, rfl, rfl, rfl, rfl, trivial⟩ ⟨rfl, trivial⟩) ⟨a6.2, w7, h, rfl⟩
              · refine AW.rgs rfl fun K hK => ?_
                refine bv rfl (v_bin rfl rfl b_lss) ?_
                refine b_nil (hK _ (AW.to (to_le (s' := ⟨[(2, HV.int .i64 p2), (10, HV.ar 18056 w7 eStr.k 0 ((a6.2).length)), (12, HV.str x13), (13, HV.bool a15.1), (31, slE eStr x4.1), (32, HV.int .i64 ((x4.1).length : Int)), (33, HV.int .i64 a6.1), (37, HV.ar 18056 w7 eStr.k 0 ((a6.2).length)), (38, HV.int .i64 (((a6.2).length : Nat) : Int)), (39, HV.int .i64 a15.2), (40, HV.bool (decide (a15.2 < (((a6.2).length : Nat) : Int))))], [(18056, w7, .arr eStr.k 9 (eStr.E a6.2))]⟩) (AS.le_of ⟨rfl, rfl, rfl, rfl, rfl, rfl, rfl, rfl, rfl, rfl, rfl, trivial⟩ ⟨rfl, trivial⟩) ?_)))
                clear hK K
                refine AW.cseq rfl (fun hc => ?_) (fun hc => ?_)
                · have hc := of_decide_eq_true hc
                  have h := ifT hc h
                  refine AW.skip ?_
                  refine AW.seqJ h (S := Bool) (V := Unit) (fun a v => ⟨[(2, HV.int .i64 p2), (10, HV.ar 18056 w7 eStr.k 0 ((a6.2).length)), (12, HV.str x13), (13, HV.bool a), (31, slE eStr x4.1), (32, HV.int .i64 ((x4.1).length : Int)), (33, HV.int .i64 a6.1), (37, HV.ar 18056 w7 eStr.k 0 ((a6.2).length)), (38, HV.int .i64 (((a6.2).length : Nat) : Int)), (39, HV.int .i64 a15.2)], [(18056, w7, .arr eStr.k 9 (eStr.E a6.2))]⟩) (fun a19 w20 h => ?_) (fun k21 h => ?_)
                  · refine AW.rg rfl fun K hK => ?_
                    refine bv rfl (v_bin rfl rfl b_add) ?_
                    refine mv rfl rfl ?_
                    refine b_nil (hK _ ?_)
                    clear hK K
                    exact to_le (s' := ⟨[(2, HV.int .i64 p2), (10, HV.ar 18056 w7 eStr.k 0 ((a6.2).length)), (12, HV.str x13), (13, HV.bool a19), (31, slE eStr x4.1), (32, HV.int .i64 ((x4.1).length : Int)), (33, HV.int .i64 a6.1), (37, HV.ar 18056 w7 eStr.k 0 ((a6.2).length)), (38, HV.int .i64 (((a6.2).length : Nat) : Int)), (39, HV.int .i64 (IntKind.wrap .i64 (a15.2 + 1)))], [(18056, w7, .arr eStr.k 9 (eStr.E a6.2))]⟩) (AS.le_of ⟨rfl, rfl, rfl, rfl, rfl, rfl, rfl, rfl, rfl, rfl, trivial⟩ ⟨rfl, trivial⟩) ⟨(a19, IntKind.wrap .i64 (a15.2 + 1)), (), h, rfl⟩
                  · refine AW.block ?_
                    refine AW.rgs rfl fun K hK => ?_
                    obtain ⟨x22, h23, h⟩ := bS h
                    refine bv rfl (v_idxA ty30 es30 rfl rfl (idx_lt h23) rfl) ?_
                    obtain ⟨x24, h25, h⟩ := bS h
                    refine bv rfl (v_loadP ty9 rfl rfl (l_cell eStr h25 (o := 0) rfl rfl)) ?_
                    refine mv rfl rfl ?_
                    refine b_nil (hK _ (AW.to (to_le (s' := ⟨[(2, HV.int .i64 p2), (10, HV.ar 18056 w7 eStr.k 0 ((a6.2).length)), (12, HV.str x13), (13, HV.bool a15.1), (15, HV.str x24), (31, slE eStr x4.1), (32, HV.int .i64 ((x4.1).length : Int)), (33, HV.int .i64 a6.1), (37, HV.ar 18056 w7 eStr.k 0 ((a6.2).length)), (38, HV.int .i64 (((a6.2).length : Nat) : Int)), (39, HV.int .i64 a15.2)], [(18056, w7, .arr eStr.k 9 (eStr.E a6.2))]⟩) (AS.le_of ⟨rfl, rfl, rfl, rfl, rfl, rfl, rfl, rfl, rfl, rfl, rfl, trivial⟩ ⟨rfl, trivial⟩) ?_)))
                    clear hK K
                    refine AW.rg rfl fun K hK => ?_
                    refine mv rfl rfl ?_
                    refine mv rfl rfl ?_
                    by_cases hg28 : a15.1 = true
                    · have h := ifT hg28 h
                      refine b_T rfl rfl rfl rfl hg28 (o_val rfl (mv_val rfl rfl).2 ?_)
                      refine b_T rfl rfl rfl rfl rfl (o_val rfl (mv_val rfl rfl).2 ?_)
                      obtain ⟨x26, h27, h⟩ := bS h
                      refine b_T rfl rfl rfl rfl rfl (o_call rfl rfl rfl rfl (ACallD.pure0 (w_distance_hamming h27)) ?_)
                      refine b_T rfl rfl rfl rfl rfl (o_val rfl (mv_val rfl rfl).2 ?_)
                      refine b_T rfl rfl rfl rfl rfl (o_val rfl (v_bin rfl rfl b_geq) ?_)
                      refine bv rfl (v_pickT rfl rfl rfl) ?_
                      refine mv rfl rfl ?_
                      refine b_nil (hK _ ?_)
                      clear hK K
                      exact to_le (s' := ⟨[(2, HV.int .i64 p2), (10, HV.ar 18056 w7 eStr.k 0 ((a6.2).length)), (12, HV.str x13), (13, HV.bool (decide (p2 ≤ x26))), (31, slE eStr x4.1), (32, HV.int .i64 ((x4.1).length : Int)), (33, HV.int .i64 a6.1), (37, HV.ar 18056 w7 eStr.k 0 ((a6.2).length)), (38, HV.int .i64 (((a6.2).length : Nat) : Int)), (39, HV.int .i64 a15.2)], [(18056, w7, .arr eStr.k 9 (eStr.E a6.2))]⟩) (AS.le_of ⟨rfl, rfl, rfl, rfl, rfl, rfl, rfl, rfl, rfl, rfl, trivial⟩ ⟨rfl, trivial⟩) ⟨decide (p2 ≤ x26), (), h, rfl⟩
                    · have h := ifF hg28 h
                      refine b_F rfl rfl rfl rfl rfl (bF hg28) ?_
                      refine b_F rfl rfl rfl rfl rfl rfl ?_
                      refine b_F rfl rfl rfl rfl rfl rfl ?_
                      refine b_F rfl rfl rfl rfl rfl rfl ?_
                      refine b_F rfl rfl rfl rfl rfl rfl ?_
                      refine bv rfl (v_pickF rfl rfl rfl) ?_
                      refine mv rfl rfl ?_
                      refine b_nil (hK _ ?_)
                      clear hK K
                      exact to_le (s' := ⟨[(2, HV.int .i64 p2), (10, HV.ar 18056 w7 eStr.k 0 ((a6.2).length)), (12, HV.str x13), (13, HV.bool false), (31, slE eStr x4.1), (32, HV.int .i64 ((x4.1).length : Int)), (33, HV.int .i64 a6.1), (37, HV.ar 18056 w7 eStr.k 0 ((a6.2).length)), (38, HV.int .i64 (((a6.2).length : Nat) : Int)), (39, HV.int .i64 a15.2)], [(18056, w7, .arr eStr.k 9 (eStr.E a6.2))]⟩) (AS.le_of ⟨rfl, rfl, rfl, rfl, rfl, rfl, rfl, rfl, rfl, rfl, trivial⟩ ⟨rfl, trivial⟩) ⟨false, (), h, rfl⟩
                · have hc := of_decide_eq_false hc
                  have h := ifF hc h
                  refine AW.exit ?_
                  exact to_le (s' := ⟨[(2, HV.int .i64 p2), (10, HV.ar 18056 w7 eStr.k 0 ((a6.2).length)), (12, HV.str x13), (13, HV.bool a15.1), (31, slE eStr x4.1), (32, HV.int .i64 ((x4.1).length : Int)), (33, HV.int .i64 a6.1)], [(18056, w7, .arr eStr.k 9 (eStr.E a6.2))]⟩) (AS.le_of ⟨rfl, rfl, rfl, rfl, rfl, rfl, rfl, trivial⟩ ⟨rfl, trivial⟩) ⟨a15.1, (), h, rfl⟩
          · have hc := of_decide_eq_false hc
            have h := ifF hc h
            refine AW.exit ?_
            exact to_le (s' := ⟨[(10, HV.ar 18056 w7 eStr.k 0 ((a6.2).length))], [(18056, w7, .arr eStr.k 9 (eStr.E a6.2))]⟩) (AS.le_of ⟨rfl, trivial⟩ ⟨rfl, trivial⟩) ⟨a6.2, w7, h, rfl⟩
  · refine AW.rg rfl fun K hK => ?_
    refine mv rfl rfl ?_
    refine bv rfl (v_bin rfl rfl b_lss) ?_
    refine mv rfl rfl ?_
    by_cases hg36 : p2 < 1
    · have h := ifT hg36 h
      refine b_F rfl rfl rfl rfl rfl (decide_eq_true hg36) ?_
      refine b_F rfl rfl rfl rfl rfl rfl ?_
      refine bv rfl (v_pickT rfl rfl rfl) ?_
      refine b_nil (hK _ ?_)
      clear hK K
      exact to_le (s' := ⟨[(1, HV.int .i64 p1), (2, HV.int .i64 p2), (3, HV.fptr [HV.int .i64 p0.1, HV.int .i64 p0.2.1, slE eFromLabelTo p0.2.2] 0), (21, HV.bool true)], []⟩) (AS.le_of ⟨rfl, rfl, rfl, rfl, trivial⟩ trivial) ⟨true, (), h, rfl⟩
    · have h := ifF hg36 h
      refine b_T rfl rfl rfl rfl (decide_eq_false hg36) (o_val rfl (mv_val rfl rfl).2 ?_)
      refine b_T rfl rfl rfl rfl rfl (o_val rfl (v_bin rfl rfl b_gtr) ?_)
      refine bv rfl (v_pickF rfl rfl rfl) ?_
      refine b_nil (hK _ ?_)
      clear hK K
      exact to_le (s' := ⟨[(1, HV.int .i64 p1), (2, HV.int .i64 p2), (3, HV.fptr [HV.int .i64 p0.1, HV.int .i64 p0.2.1, slE eFromLabelTo p0.2.2] 0), (21, HV.bool (decide (65536 < p2)))], []⟩) (AS.le_of ⟨rfl, rfl, rfl, rfl, trivial⟩ trivial) ⟨decide (65536 < p2), (), h, rfl⟩

end Go.AW

namespace Go.AW
open Go Go.Proofs
set_option linter.unusedVariables false
set_option maxHeartbeats 1600000 in
set_option maxRecDepth 100000 in
theorem w_ref46_Greedy {p0 : TLabelsStatesEdges} {p1 : Int} {p2 : Int} {r : (List (List UInt8)) × Int} (h : m_ref46_Greedy p0 p1 p2 = some r) : Pure Try.prog 19 [HV.agg [HV.int .i64 p0.1, HV.int .i64 p0.2.1, slE eFromLabelTo p0.2.2], HV.int .i64 p1, HV.int .i64 p2] (· = HV.tup [slE eStr r.1, HV.int .i64 r.2]) := by
  unfold m_ref46_Greedy at h
  refine Pure.of_body Try.func19 rfl rfl (Nat.le_of_ble_eq_true rfl) fun hf => ?_
  unfold Try.f19
  dsimp only [enumS, Nat.reduceAdd]
  refine AW.rgs rfl fun K hK => ?_
  refine b_op rfl (o_box rfl rfl rfl ?_)
  refine mv rfl rfl ?_
  refine mv rfl rfl ?_
  refine b_nil (hK _ (AW.to (to_le (s' := ⟨[(1, HV.int .i64 p1), (2, HV.int .i64 p2), (3, HV.fptr [HV.int .i64 p0.1, HV.int .i64 p0.2.1, slE eFromLabelTo p0.2.2] 0)], []⟩) (AS.le_of ⟨rfl, rfl, rfl, trivial⟩ trivial) ?_)))
  clear hK K
  refine AW.seq ?_
  refine AW.seqJ h (S := Bool) (V := Unit) (fun a v => ⟨[(1, HV.int .i64 p1), (2, HV.int .i64 p2), (3, HV.fptr [HV.int .i64 p0.1, HV.int .i64 p0.2.1, slE eFromLabelTo p0.2.2] 0), (19, HV.bool a)], []⟩) (fun a1 w2 h => ?_) (fun k3 h => ?_)
  · refine AW.cond rfl (fun hc => ?_) (fun hc => ?_)
    · have h := ifT hc h
      refine AW.rgs rfl fun K hK => ?_
      refine b_op rfl (o_bslM (fid := 19) 19020 rfl rfl rfl (as_of (cs := []) ty30 ty9 rfl rfl rfl rfl rfl) (fun v4 => ?_))
      refine mv rfl rfl ?_
      refine mv rfl rfl ?_
      refine b_nil (hK _ (AW.to (to_le (s' := ⟨[(6, HV.ar 19020 v4 eStr.k 0 0), (7, HV.int .i64 2)], [(19020, v4, .arr eStr.k 9 [])]⟩) (AS.le_of ⟨rfl, rfl, trivial⟩ ⟨rfl, trivial⟩) ?_)))
      clear hK K
      refine AW.to (to_frz 2 [(19020, v4, .arr eStr.k 9 [])] ⟨[(6, slE eStr []), (7, HV.int .i64 2)], []⟩ ⟨⟨_, rfl, frz_slE eStr (l := []) rfl fun _ _ => rfl⟩, ⟨_, rfl, rfl⟩, trivial⟩ trivial ⟨rfl, trivial⟩ ⟨rfl, trivial⟩ ?_)
      refine AW.ret ?_
      have h := Option.some.inj h
      subst h
      exact ret_pure (hs := [slE eStr [], HV.int .i64 2]) (q := HV.tup [slE eStr [], HV.int .i64 2]) (.inr rfl) (resT rfl (resT rfl rfl)) rfl ⟨(clean_slE fun _ _ => ⟨trivial, trivial⟩), trivial, trivial⟩
    · have h := ifF (bF' hc) h
      refine AW.skip ?_
      refine AW.rgs rfl fun K hK => ?_
      refine bv rfl (v_loadF ty24 rfl (l_litA rfl (Nat.le_of_ble_eq_true rfl) rfl)) ?_
      refine mv rfl rfl ?_
      obtain ⟨x5, h6, h⟩ := bS h
      refine b_op rfl (o_call rfl rfl rfl rfl (ACallD.pure0 (w_ref46_words h6)) ?_)
      refine mv rfl rfl ?_
      refine bv rfl (v_extract rfl rfl) ?_
      refine bv rfl (v_extract rfl rfl) ?_
      refine mv rfl rfl ?_
      refine mv rfl rfl ?_
      refine b_nil (hK _ (AW.to (to_le (s' := ⟨[(2, HV.int .i64 p2), (8, slE eStr x5.1), (9, HV.int .i64 x5.2)], []⟩) (AS.le_of ⟨rfl, rfl, rfl, trivial⟩ trivial) ?_)))
      clear hK K
      refine AW.seq ?_
      refine AW.rgs rfl fun K hK => ?_
      refine mv rfl rfl ?_
      refine bv rfl (v_bin rfl rfl b_neq) ?_
      refine b_nil (hK _ (AW.to (to_le (s' := ⟨[(2, HV.int .i64 p2), (8, slE eStr x5.1), (9, HV.int .i64 x5.2), (28, HV.bool (decide (x5.2 ≠ 0)))], []⟩) (AS.le_of ⟨rfl, rfl, rfl, rfl, trivial⟩ trivial) ?_)))
      clear hK K
      refine AW.cond rfl (fun hc => ?_) (fun hc => ?_)
      · have hc := of_decide_eq_true hc
        have h := ifT hc h
        refine AW.rgs rfl fun K hK => ?_
        refine b_op rfl (o_bslM (fid := 19) 19029 rfl rfl rfl (as_of (cs := []) ty30 ty9 rfl rfl rfl rfl rfl) (fun v7 => ?_))
        refine mv rfl rfl ?_
        refine mv rfl rfl ?_
        refine mv rfl rfl ?_
        refine b_nil (hK _ (AW.to (to_le (s' := ⟨[(6, HV.ar 19029 v7 eStr.k 0 0), (7, HV.int .i64 x5.2)], [(19029, v7, .arr eStr.k 9 [])]⟩) (AS.le_of ⟨rfl, rfl, trivial⟩ ⟨rfl, trivial⟩) ?_)))
        clear hK K
        refine AW.to (to_frz 2 [(19029, v7, .arr eStr.k 9 [])] ⟨[(6, slE eStr []), (7, HV.int .i64 x5.2)], []⟩ ⟨⟨_, rfl, frz_slE eStr (l := []) rfl fun _ _ => rfl⟩, ⟨_, rfl, rfl⟩, trivial⟩ trivial ⟨rfl, trivial⟩ ⟨rfl, trivial⟩ ?_)
        refine AW.ret ?_
        have h := Option.some.inj h
        subst h
        exact ret_pure (hs := [slE eStr [], HV.int .i64 x5.2]) (q := HV.tup [slE eStr [], HV.int .i64 x5.2]) (.inr rfl) (resT rfl (resT rfl rfl)) rfl ⟨(clean_slE fun _ _ => ⟨trivial, trivial⟩), trivial, trivial⟩
      · have hc := of_decide_eq_false hc
        have h := ifF hc h
        refine AW.skip ?_
        refine AW.rgs rfl fun K hK => ?_
        refine b_op rfl (o_bslM (fid := 19) 19031 rfl rfl rfl (as_of (cs := []) ty30 ty9 rfl rfl rfl rfl rfl) (fun v8 => ?_))
        refine mv rfl rfl ?_
        refine b_nil (hK _ (AW.to (to_le (s' := ⟨[(2, HV.int .i64 p2), (8, slE eStr x5.1), (10, HV.ar 19031 v8 eStr.k 0 0)], [(19031, v8, .arr eStr.k 9 [])]⟩) (AS.le_of ⟨rfl, rfl, rfl, trivial⟩ ⟨rfl, trivial⟩) ?_)))
        clear hK K
        refine AW.seq ?_
        refine AW.rgs rfl fun K hK => ?_
        refine mv rfl rfl ?_
        refine b_nil (hK _ (AW.to (to_le (s' := ⟨[(2, HV.int .i64 p2), (8, slE eStr x5.1), (10, HV.ar 19031 v8 eStr.k 0 0), (11, HV.int .i64 0)], [(19031, v8, .arr eStr.k 9 [])]⟩) (AS.le_of ⟨rfl, rfl, rfl, rfl, trivial⟩ ⟨rfl, trivial⟩) ?_)))
        clear hK K
        refine AW.lpX h (by first | exact up_then | exact up_to) (S := Int × (List (List UInt8))) (V := Nat) (fun a v => ⟨[(2, HV.int .i64 p2), (8, slE eStr x5.1), (10, HV.ar 19031 v eStr.k 0 ((a.2).length)), (11, HV.int .i64 a.1)], [(19031, v, .arr eStr.k 9 (eStr.E a.2))]⟩) ?_ (X := (List (List UInt8))) (W := Nat) (fun a v => ⟨[(10, HV.ar 19031 v eStr.k 0 ((a).length))], [(19031, v, .arr eStr.k 9 (eStr.E a))]⟩) (fun a38 w39 h => ?_) (fun a9 w10 st11 h => ?_)
        · exact to_le (s' := ⟨[(2, HV.int .i64 p2), (8, slE eStr x5.1), (10, HV.ar 19031 v8 eStr.k 0 0), (11, HV.int .i64 0)], [(19031, v8, .arr eStr.k 9 [])]⟩) (AS.le_of ⟨rfl, rfl, rfl, rfl, trivial⟩ ⟨rfl, trivial⟩) ⟨v8, rfl⟩
        · refine AW.rgs rfl fun K hK => ?_
          refine mv rfl rfl ?_
          refine mv rfl rfl ?_
          refine mv rfl rfl ?_
          refine b_nil (hK _ (AW.to (to_le (s' := ⟨[(6, HV.ar 19031 w39 eStr.k 0 ((a38).length)), (7, HV.int .i64 0)], [(19031, w39, .arr eStr.k 9 (eStr.E a38))]⟩) (AS.le_of ⟨rfl, rfl, trivial⟩ ⟨rfl, trivial⟩) ?_)))
          clear hK K
          refine AW.to (to_frz 2 [(19031, w39, .arr eStr.k 9 (eStr.E a38))] ⟨[(6, slE eStr a38), (7, HV.int .i64 0)], []⟩ ⟨⟨_, rfl, frz_slE eStr (l := a38) rfl fun _ _ => rfl⟩, ⟨_, rfl, rfl⟩, trivial⟩ trivial ⟨rfl, trivial⟩ ⟨rfl, trivial⟩ ?_)
          refine AW.ret ?_
          have h := Option.some.inj h
          subst h
          exact ret_pure (hs := [slE eStr a38, HV.int .i64 0]) (q := HV.tup [slE eStr a38, HV.int .i64 0]) (.inr rfl) (resT rfl (resT rfl rfl)) rfl ⟨(clean_slE fun _ _ => ⟨trivial, trivial⟩), trivial, trivial⟩
        · refine AW.seq ?_
          refine AW.rgs rfl fun K hK => ?_
          refine mv rfl rfl ?_
          refine mv rfl rfl ?_
          refine bv rfl (v_lenF rfl rfl ty30 rfl) ?_
          refine bv rfl (v_bin rfl rfl b_lss) ?_
          refine b_nil (hK _ (AW.to (to_le (s' := ⟨[(2, HV.int .i64 p2), (8, slE eStr x5.1), (10, HV.ar 19031 w10 eStr.k 0 ((a9.2).length)), (11, HV.int .i64 a9.1), (35, HV.bool (decide (a9.1 < ((x5.1).length : Int))))], [(19031, w10, .arr eStr.k 9 (eStr.E a9.2))]⟩) (AS.le_of ⟨rfl, rfl, rfl, rfl, rfl, trivial⟩ ⟨rfl, trivial⟩) ?_)))
          clear hK K
          refine AW.cond rfl (fun hc => ?_) (fun hc => ?_)
          · have hc := of_decide_eq_true hc
            have h := ifT hc h
            refine AW.skip ?_
            refine AW.seqJ h (S := (List (List UInt8))) (V := Nat) (fun a v => ⟨[(2, HV.int .i64 p2), (8, slE eStr x5.1), (10, HV.ar 19031 v eStr.k 0 ((a).length)), (11, HV.int .i64 a9.1)], [(19031, v, .arr eStr.k 9 (eStr.E a))]⟩) (fun a13 w14 h => ?_) (fun k15 h => ?_)
            · refine AW.rg rfl fun K hK => ?_
              refine mv rfl rfl ?_
              refine bv rfl (v_bin rfl rfl b_add) ?_
              refine mv rfl rfl ?_
              refine b_nil (hK _ ?_)
              clear hK K
              exact to_le (s' := ⟨[(2, HV.int .i64 p2), (8, slE eStr x5.1), (10, HV.ar 19031 w14 eStr.k 0 ((a13).length)), (11, HV.int .i64 (IntKind.wrap .i64 (a9.1 + 1)))], [(19031, w14, .arr eStr.k 9 (eStr.E a13))]⟩) (AS.le_of ⟨rfl, rfl, rfl, rfl, trivial⟩ ⟨rfl, trivial⟩) ⟨(IntKind.wrap .i64 (a9.1 + 1), a13), w14, h, rfl⟩
            · refine AW.block ?_
              refine AW.rgs rfl fun K hK => ?_
              refine mv rfl rfl ?_
              refine b_nil (hK _ (AW.to (to_le (s' := ⟨[(2, HV.int .i64 p2), (8, slE eStr x5.1), (10, HV.ar 19031 w10 eStr.k 0 ((a9.2).length)), (11, HV.int .i64 a9.1), (12, HV.bool true)], [(19031, w10, .arr eStr.k 9 (eStr.E a9.2))]⟩) (AS.le_of ⟨rfl, rfl, rfl, rfl, rfl, trivial⟩ ⟨rfl, trivial⟩) ?_)))
              clear hK K
              refine AW.seq ?_
              refine AW.rgs rfl fun K hK => ?_
              refine mv rfl rfl ?_
              refine b_nil (hK _ (AW.to (to_le (s' := ⟨[(2, HV.int .i64 p2), (8, slE eStr x5.1), (10, HV.ar 19031 w10 eStr.k 0 ((a9.2).length)), (11, HV.int .i64 a9.1), (12, HV.bool true), (13, HV.int .i64 0)], [(19031, w10, .arr eStr.k 9 (eStr.E a9.2))]⟩) (AS.le_of ⟨rfl, rfl, rfl, rfl, rfl, rfl, trivial⟩ ⟨rfl, trivial⟩) ?_)))
              clear hK K
              refine AW.lpX h (by first | exact up_then | exact up_to) (S := Bool × Int) (V := Unit) (fun a v => ⟨[(2, HV.int .i64 p2), (8, slE eStr x5.1), (10, HV.ar 19031 w10 eStr.k 0 ((a9.2).length)), (11, HV.int .i64 a9.1), (12, HV.bool a.1), (13, HV.int .i64 a.2)], [(19031, w10, .arr eStr.k 9 (eStr.E a9.2))]⟩) ?_ (X := Bool) (W := Unit) (fun a v => ⟨[(2, HV.int .i64 p2), (8, slE eStr x5.1), (10, HV.ar 19031 w10 eStr.k 0 ((a9.2).length)), (11, HV.int .i64 a9.1), (12, HV.bool a)], [(19031, w10, .arr eStr.k 9 (eStr.E a9.2))]⟩) (fun a32 w33 h => ?_) (fun a16 w17 st18 h => ?_)
              · exact to_le (s' := ⟨[(2, HV.int .i64 p2), (8, slE eStr x5.1), (10, HV.ar 19031 w10 eStr.k 0 ((a9.2).length)), (11, HV.int .i64 a9.1), (12, HV.bool true), (13, HV.int .i64 0)], [(19031, w10, .arr eStr.k 9 (eStr.E a9.2))]⟩) (AS.le_of ⟨rfl, rfl, rfl, rfl, rfl, rfl, trivial⟩ ⟨rfl, trivial⟩) ⟨(), rfl⟩
              · refine AW.rgs rfl fun K hK => ?_
                refine mv rfl rfl ?_
                refine b_nil (hK _ (AW.to (to_le (s' := ⟨[(2, HV.int .i64 p2), (8, slE eStr x5.1), (10, HV.ar 19031 w10 eStr.k 0 ((a9.2).length)), (11, HV.int .i64 a9.1), (58, HV.bool a32)], [(19031, w10, .arr eStr.k 9 (eStr.E a9.2))]⟩) (AS.le_of ⟨rfl, rfl, rfl, rfl, rfl, trivial⟩ ⟨rfl, trivial⟩) ?_)))
                clear hK K
                refine AW.cond rfl (fun hc => ?_) (fun hc => ?_)
                · have h := ifT hc h
                  refine AW.rg rfl fun K hK => ?_
                  refine mv rfl rfl ?_
                  refine mv rfl rfl ?_
                  refine mv rfl rfl ?_
                  obtain ⟨x34, h35, h⟩ := bS h
                  refine bv rfl (v_idxF ty30 es30 rfl rfl (idx_lt h35)) ?_
                  refine bv rfl (v_loadF ty9 rfl (l_cell eStr h35 (o := 0) rfl rfl)) ?_
                  refine b_op rfl (o_bsl rfl rfl (as_of (cs := [HV.str x34]) ty30 ty9 rfl rfl rfl rfl rfl) ?_)
                  obtain ⟨h37, h⟩ := ifN h
                  refine b_op rfl (o_appE eStr (l := a9.2) (m := [x34]) rfl rfl ty30 ty30 ty9 rfl rfl rfl rfl rfl h37 (fun v36 => ?_))
                  refine mv rfl rfl ?_
                  refine b_nil (hK _ ?_)
                  clear hK K
                  exact to_le (s' := ⟨[(2, HV.int .i64 p2), (8, slE eStr x5.1), (10, HV.ar 19031 v36 eStr.k 0 ((a9.2 ++ [x34]).length)), (11, HV.int .i64 a9.1)], [(19031, v36, .arr eStr.k 9 (eStr.E (a9.2 ++ [x34])))]⟩) (AS.le_of ⟨rfl, rfl, rfl, rfl, trivial⟩ ⟨rfl, trivial⟩) ⟨a9.2 ++ [x34], v36, h, rfl⟩
                · have h := ifF (bF' hc) h
                  refine AW.skip ?_
                  exact to_le (s' := ⟨[(2, HV.int .i64 p2), (8, slE eStr x5.1), (10, HV.ar 19031 w10 eStr.k 0 ((a9.2).length)), (11, HV.int .i64 a9.1)], [(19031, w10, .arr eStr.k 9 (eStr.E a9.2))]⟩) (AS.le_of ⟨rfl, rfl, rfl, rfl, trivial⟩ ⟨rfl, trivial⟩) ⟨a9.2, w10, h, rfl⟩
              · refine AW.seq ?_
                refine AW.rgs rfl fun K hK => ?_
                refine mv rfl rfl ?_
                refine mv rfl rfl ?_
                refine bv rfl (v_lenA rfl rfl ty30 rfl rfl) ?_
                refine bv rfl (v_bin rfl rfl b_lss) ?_
                refine b_nil (hK _ (AW.to (to_le (s' := ⟨[(2, HV.int .i64 p2), (8, slE eStr x5.1), (10, HV.ar 19031 w10 eStr.k 0 ((a9.2).length)), (11, HV.int .i64 a9.1), (12, HV.bool a16.1), (13, HV.int .i64 a16.2), (41, HV.bool (decide (a16.2 < (((a9.2).length : Nat) : Int))))], [(19031, w10, .arr eStr.k 9 (eStr.E a9.2))]⟩) (AS.le_of ⟨rfl, rfl, rfl, rfl, rfl, rfl, rfl, trivial⟩ ⟨rfl, trivial⟩) ?_)))
                clear hK K
                refine AW.cond rfl (fun hc => ?_) (fun hc => ?_)
                · have hc := of_decide_eq_true hc
                  have h := ifT hc h
                  refine AW.skip ?_
                  refine AW.seqJ h (S := Bool) (V := Unit) (fun a v => ⟨[(2, HV.int .i64 p2), (8, slE eStr x5.1), (10, HV.ar 19031 w10 eStr.k 0 ((a9.2).length)), (11, HV.int .i64 a9.1), (12, HV.bool a), (13, HV.int .i64 a16.2)], [(19031, w10, .arr eStr.k 9 (eStr.E a9.2))]⟩) (fun a20 w21 h => ?_) (fun k22 h => ?_)
                  · refine AW.rg rfl fun K hK => ?_
                    refine mv rfl rfl ?_
                    refine bv rfl (v_bin rfl rfl b_add) ?_
                    refine mv rfl rfl ?_
                    refine b_nil (hK _ ?_)
                    clear hK K
                    exact to_le (s' := ⟨[(2, HV.int .i64 p2), (8, slE eStr x5.1), (10, HV.ar 19031 w10 eStr.k 0 ((a9.2).length)), (11, HV.int .i64 a9.1), (12, HV.bool a20), (13, HV.int .i64 (IntKind.wrap .i64 (a16.2 + 1)))], [(19031, w10, .arr eStr.k 9 (eStr.E a9.2))]⟩) (AS.le_of ⟨rfl, rfl, rfl, rfl, rfl, rfl, trivial⟩ ⟨rfl, trivial⟩) ⟨(a20, IntKind.wrap .i64 (a16.2 + 1)), (), h, rfl⟩
                  · refine AW.block ?_
                    refine AW.dg 15 follows rfl rfl fun K hK => ?_
                    refine sm rfl rfl ?_
                    refine sm rfl rfl ?_
                    by_cases hg31 : a16.1 = true
                    · have h := ifT hg31 h
                      refine s_T rfl rfl rfl rfl rfl hg31 (ops_val rfl (mv_val rfl rfl).2 ?_)
                      refine s_T rfl rfl rfl rfl rfl rfl (ops_val rfl (mv_val rfl rfl).2 ?_)
                      obtain ⟨x23, h24, h⟩ := bS h
                      refine s_T rfl rfl rfl rfl rfl rfl (ops_val rfl (v_idxF ty30 es30 rfl rfl (idx_lt h24)) ?_)
                      refine s_T rfl rfl rfl rfl rfl rfl (ops_val rfl (v_loadF ty9 rfl (l_cell eStr h24 (o := 0) rfl rfl)) ?_)
                      refine s_T rfl rfl rfl rfl rfl rfl (ops_val rfl (mv_val rfl rfl).2 ?_)
                      refine s_T rfl rfl rfl rfl rfl rfl (ops_val rfl (mv_val rfl rfl).2 ?_)
                      obtain ⟨x25, h26, h⟩ := bS h
                      refine s_T rfl rfl rfl rfl rfl rfl (ops_val rfl (v_idxA ty30 es30 rfl rfl (idx_lt h26) rfl) ?_)
                      obtain ⟨x27, h28, h⟩ := bS h
                      refine s_T rfl rfl rfl rfl rfl rfl (ops_val rfl (v_loadP ty9 rfl rfl (l_cell eStr h28 (o := 0) rfl rfl)) ?_)
                      obtain ⟨x29, h30, h⟩ := bS h
                      refine s_T rfl rfl rfl rfl rfl rfl (ops_call rfl rfl rfl rfl (ACallD.pure0 (w_ref46_hamming h30)) ?_)
                      refine s_T rfl rfl rfl rfl rfl rfl (ops_val rfl (mv_val rfl rfl).2 ?_)
                      refine s_T rfl rfl rfl rfl rfl rfl (ops_val rfl (v_bin rfl rfl b_geq) ?_)
                      refine sv rfl (v_pickT rfl rfl rfl) ?_
                      refine sm rfl rfl ?_
                      refine s_nil ?_
                      refine b_nil (hK _ ?_)
                      clear hK K
                      exact to_le (s' := ⟨[(2, HV.int .i64 p2), (8, slE eStr x5.1), (10, HV.ar 19031 w10 eStr.k 0 ((a9.2).length)), (11, HV.int .i64 a9.1), (12, HV.bool (decide (p2 ≤ x29))), (13, HV.int .i64 a16.2)], [(19031, w10, .arr eStr.k 9 (eStr.E a9.2))]⟩) (AS.le_of ⟨rfl, rfl, rfl, rfl, rfl, rfl, trivial⟩ ⟨rfl, trivial⟩) ⟨decide (p2 ≤ x29), (), h, rfl⟩
                    · have h := ifF hg31 h
                      refine s_F rfl rfl rfl rfl rfl (bF hg31) ?_
                      refine s_F rfl rfl rfl rfl rfl rfl ?_
                      refine s_F rfl rfl rfl rfl rfl rfl ?_
                      refine s_F rfl rfl rfl rfl rfl rfl ?_
                      refine s_F rfl rfl rfl rfl rfl rfl ?_
                      refine s_F rfl rfl rfl rfl rfl rfl ?_
                      refine s_F rfl rfl rfl rfl rfl rfl ?_
                      refine s_F rfl rfl rfl rfl rfl rfl ?_
                      refine s_F rfl rfl rfl rfl rfl rfl ?_
                      refine s_F rfl rfl rfl rfl rfl rfl ?_
                      refine s_F rfl rfl rfl rfl rfl rfl ?_
                      refine sv rfl (v_pickF rfl rfl rfl) ?_
                      refine sm rfl rfl ?_
                      refine s_nil ?_
                      refine b_nil (hK _ ?_)
                      clear hK K
                      exact to_le (s' := ⟨[(2, HV.int .i64 p2), (8, slE eStr x5.1), (10, HV.ar 19031 w10 eStr.k 0 ((a9.2).length)), (11, HV.int .i64 a9.1), (12, HV.bool false), (13, HV.int .i64 a16.2)], [(19031, w10, .arr eStr.k 9 (eStr.E a9.2))]⟩) (AS.le_of ⟨rfl, rfl, rfl, rfl, rfl, rfl, trivial⟩ ⟨rfl, trivial⟩) ⟨false, (), h, rfl⟩
                · have hc := of_decide_eq_false hc
                  have h := ifF hc h
                  refine AW.exit ?_
                  exact to_le (s' := ⟨[(2, HV.int .i64 p2), (8, slE eStr x5.1), (10, HV.ar 19031 w10 eStr.k 0 ((a9.2).length)), (11, HV.int .i64 a9.1), (12, HV.bool a16.1)], [(19031, w10, .arr eStr.k 9 (eStr.E a9.2))]⟩) (AS.le_of ⟨rfl, rfl, rfl, rfl, rfl, trivial⟩ ⟨rfl, trivial⟩) ⟨a16.1, (), h, rfl⟩
          · have hc := of_decide_eq_false hc
            have h := ifF hc h
            refine AW.exit ?_
            exact to_le (s' := ⟨[(10, HV.ar 19031 w10 eStr.k 0 ((a9.2).length))], [(19031, w10, .arr eStr.k 9 (eStr.E a9.2))]⟩) (AS.le_of ⟨rfl, trivial⟩ ⟨rfl, trivial⟩) ⟨a9.2, w10, h, rfl⟩
  · refine AW.rg rfl fun K hK => ?_
    refine mv rfl rfl ?_
    refine bv rfl (v_bin rfl rfl b_lss) ?_
    refine mv rfl rfl ?_
    by_cases hg40 : p2 < 1
    · have h := ifT hg40 h
      refine b_F rfl rfl rfl rfl rfl (decide_eq_true hg40) ?_
      refine b_F rfl rfl rfl rfl rfl rfl ?_
      refine bv rfl (v_pickT rfl rfl rfl) ?_
      refine b_nil (hK _ ?_)
      clear hK K
      exact to_le (s' := ⟨[(1, HV.int .i64 p1), (2, HV.int .i64 p2), (3, HV.fptr [HV.int .i64 p0.1, HV.int .i64 p0.2.1, slE eFromLabelTo p0.2.2] 0), (19, HV.bool true)], []⟩) (AS.le_of ⟨rfl, rfl, rfl, rfl, trivial⟩ trivial) ⟨true, (), h, rfl⟩
    · have h := ifF hg40 h
      refine b_T rfl rfl rfl rfl (decide_eq_false hg40) (o_val rfl (mv_val rfl rfl).2 ?_)
      refine b_T rfl rfl rfl rfl rfl (o_val rfl (v_bin rfl rfl b_gtr) ?_)
      refine bv rfl (v_pickF rfl rfl rfl) ?_
      refine b_nil (hK _ ?_)
      clear hK K
      exact to_le (s' := ⟨[(1, HV.int .i64 p1), (2, HV.int .i64 p2), (3, HV.fptr [HV.int .i64 p0.1, HV.int .i64 p0.2.1, slE eFromLabelTo p0.2.2] 0), (19, HV.bool (decide (65536 < p2)))], []⟩) (AS.le_of ⟨rfl, rfl, rfl, rfl, trivial⟩ trivial) ⟨decide (65536 < p2), (), h, rfl⟩

set_option maxHeartbeats 1600000 in
set_option maxRecDepth 100000 in
theorem w_slices_Equal_Lstring_string {p0 : List (List UInt8)} {p1 : List (List UInt8)} {r : Bool} (h : m_slices_Equal_Lstring_string p0 p1 = some r) : Pure Try.prog 20 [slE eStr p0, slE eStr p1] (· = HV.bool r) := by
  unfold m_slices_Equal_Lstring_string at h
  refine Pure.of_body Try.func20 rfl rfl (Nat.le_of_ble_eq_true rfl) fun hf => ?_
  unfold Try.f20
  dsimp only [enumS, Nat.reduceAdd]
  refine AW.rgs rfl fun K hK => ?_
  refine mv rfl rfl ?_
  refine b_nil (hK _ (AW.to (to_le (s' := ⟨[(0, slE eStr p0), (1, slE eStr p1)], []⟩) (AS.le_of ⟨rfl, rfl, trivial⟩ trivial) ?_)))
  clear hK K
  refine AW.seq ?_
  refine AW.rgs rfl fun K hK => ?_
  refine mv rfl rfl ?_
  refine bv rfl (v_lenF rfl rfl ty30 rfl) ?_
  refine mv rfl rfl ?_
  refine bv rfl (v_lenF rfl rfl ty30 rfl) ?_
  refine bv rfl (v_bin rfl rfl b_neq) ?_
  refine b_nil (hK _ (AW.to (to_le (s' := ⟨[(0, slE eStr p0), (1, slE eStr p1), (10, HV.bool (decide (((p0).length : Int) ≠ ((p1).length : Int))))], []⟩) (AS.le_of ⟨rfl, rfl, rfl, trivial⟩ trivial) ?_)))
  clear hK K
  refine AW.cond rfl (fun hc => ?_) (fun hc => ?_)
  · have hc := of_decide_eq_true hc
    have h := ifT hc h
    refine AW.rgs rfl fun K hK => ?_
    refine mv rfl rfl ?_
    refine b_nil (hK _ (AW.to (to_le (s' := ⟨[(4, HV.bool false)], []⟩) (AS.le_of ⟨rfl, trivial⟩ trivial) ?_)))
    clear hK K
    refine AW.ret ?_
    have h := Option.some.inj h
    subst h
    exact ret_pure (hs := [HV.bool false]) (q := HV.bool false) (.inr rfl) (resT rfl rfl) rfl trivial
  · have hc := of_decide_eq_false hc
    have h := ifF hc h
    refine AW.skip ?_
    refine AW.seq ?_
    refine AW.rgs rfl fun K hK => ?_
    refine mv rfl rfl ?_
    refine bv rfl (v_lenF rfl rfl ty30 rfl) ?_
    refine mv rfl rfl ?_
    refine b_nil (hK _ (AW.to (to_le (s' := ⟨[(0, slE eStr p0), (1, slE eStr p1), (12, HV.int .i64 ((p0).length : Int)), (13, HV.int .i64 0)], []⟩) (AS.le_of ⟨rfl, rfl, rfl, rfl, trivial⟩ trivial) ?_)))
    clear hK K
    refine AW.lpR h (by first | exact up_then | exact up_to) (S := Int) (V := Unit) (fun a v => ⟨[(0, slE eStr p0), (1, slE eStr p1), (12, HV.int .i64 ((p0).length : Int)), (13, HV.int .i64 a)], []⟩) ?_ (X := Unit) (W := Unit) (fun a v => ⟨[], []⟩) (fun a9 w10 h => ?_) (fun a1 w2 st3 h hr4=> ?_)
    · exact to_le (s' := ⟨[(0, slE eStr p0), (1, slE eStr p1), (12, HV.int .i64 ((p0).length : Int)), (13, HV.int .i64 0)], []⟩) (AS.le_of ⟨rfl, rfl, rfl, rfl, trivial⟩ trivial) ⟨(), rfl⟩
    · refine AW.rgs rfl fun K hK => ?_
      refine mv rfl rfl ?_
      refine b_nil (hK _ (AW.to (to_le (s' := ⟨[(4, HV.bool true)], []⟩) (AS.le_of ⟨rfl, trivial⟩ trivial) ?_)))
      clear hK K
      refine AW.ret ?_
      have h := Option.some.inj h
      subst h
      exact ret_pure (hs := [HV.bool true]) (q := HV.bool true) (.inr rfl) (resT rfl rfl) rfl trivial
    · refine AW.rgs rfl fun K hK => ?_
      refine bv rfl (v_bin rfl rfl b_lss) ?_
      refine b_nil (hK _ (AW.to (to_le (s' := ⟨[(0, slE eStr p0), (1, slE eStr p1), (12, HV.int .i64 ((p0).length : Int)), (13, HV.int .i64 a1), (14, HV.bool (decide (a1 < ((p0).length : Int))))], []⟩) (AS.le_of ⟨rfl, rfl, rfl, rfl, rfl, trivial⟩ trivial) ?_)))
      clear hK K
      refine AW.cseq rfl (fun hc => ?_) (fun hc => ?_)
      · have hc := of_decide_eq_true hc
        have h := ifT hc h
        refine AW.skip ?_
        refine AW.seq (AW.block ?_)
        refine AW.rgs rfl fun K hK => ?_
        refine mv rfl rfl ?_
        refine mv rfl rfl ?_
        refine b_nil (hK _ (AW.to (to_le (s' := ⟨[(0, slE eStr p0), (1, slE eStr p1), (5, HV.int .i64 a1), (12, HV.int .i64 ((p0).length : Int)), (13, HV.int .i64 a1)], []⟩) (AS.le_of ⟨rfl, rfl, rfl, rfl, rfl, trivial⟩ trivial) ?_)))
        clear hK K
        refine AW.dgs 9 follows rfl rfl fun K hK => ?_
        refine sm rfl rfl ?_
        refine sm rfl rfl ?_
        obtain ⟨x5, h6, h⟩ := bS h
        refine sv rfl (v_idxF ty30 es30 rfl rfl (idx_lt h6)) ?_
        refine sv rfl (v_loadF ty9 rfl (l_cell eStr h6 (o := 0) rfl rfl)) ?_
        refine sm rfl rfl ?_
        refine sm rfl rfl ?_
        obtain ⟨x7, h8, h⟩ := bS h
        refine sv rfl (v_idxF ty30 es30 rfl rfl (idx_lt h8)) ?_
        refine sv rfl (v_loadF ty9 rfl (l_cell eStr h8 (o := 0) rfl rfl)) ?_
        refine sv rfl (v_bin rfl rfl b_sneq) ?_
        refine s_nil ?_
        refine b_nil (hK _ (AW.to (to_le (s' := ⟨[(0, slE eStr p0), (1, slE eStr p1), (12, HV.int .i64 ((p0).length : Int)), (13, HV.int .i64 a1), (24, HV.bool (decide (x5 ≠ x7)))], []⟩) (AS.le_of ⟨rfl, rfl, rfl, rfl, rfl, trivial⟩ trivial) ?_)))
        clear hK K
        refine AW.cond rfl (fun hc => ?_) (fun hc => ?_)
        · have hc := of_decide_eq_true hc
          have h := ifT hc h
          refine AW.rgs rfl fun K hK => ?_
          refine mv rfl rfl ?_
          refine b_nil (hK _ (AW.to (to_le (s' := ⟨[(4, HV.bool false)], []⟩) (AS.le_of ⟨rfl, trivial⟩ trivial) ?_)))
          clear hK K
          have h := hr4 _ h
          refine AW.ret ?_
          have h := Option.some.inj h
          subst h
          exact ret_pure (hs := [HV.bool false]) (q := HV.bool false) (.inr rfl) (resT rfl rfl) rfl trivial
        · have hc := of_decide_eq_false hc
          have h := ifF hc h
          refine AW.skip ?_
          refine AW.rg rfl fun K hK => ?_
          refine bv rfl (v_bin rfl rfl b_add) ?_
          refine mv rfl rfl ?_
          refine b_nil (hK _ ?_)
          clear hK K
          exact to_le (s' := ⟨[(0, slE eStr p0), (1, slE eStr p1), (12, HV.int .i64 ((p0).length : Int)), (13, HV.int .i64 (IntKind.wrap .i64 (a1 + 1)))], []⟩) (AS.le_of ⟨rfl, rfl, rfl, rfl, trivial⟩ trivial) ⟨IntKind.wrap .i64 (a1 + 1), (), h, rfl⟩
      · have hc := of_decide_eq_false hc
        have h := ifF hc h
        refine AW.exit ?_
        exact to_le (s' := ⟨[], []⟩) (AS.le_of trivial trivial) ⟨(), (), h, rfl⟩

set_option maxHeartbeats 1600000 in
set_option maxRecDepth 100000 in
theorem w_law46_DistanceGraphs {p0 : TLabelsStatesEdges} {p1 : Int} {p2 : Int} {r : Bool} (h : m_law46_DistanceGraphs p0 p1 p2 = some r) : Pure Try.prog 3 [HV.agg [HV.int .i64 p0.1, HV.int .i64 p0.2.1, slE eFromLabelTo p0.2.2], HV.int .i64 p1, HV.int .i64 p2] (· = HV.bool r) := by
  unfold m_law46_DistanceGraphs at h
  refine Pure.of_body Try.func3 rfl rfl (Nat.le_of_ble_eq_true rfl) fun hf => ?_
  unfold Try.f3
  dsimp only [enumS, Nat.reduceAdd]
  refine AW.rgs rfl fun K hK => ?_
  refine b_op rfl (o_box rfl rfl rfl ?_)
  refine mv rfl rfl ?_
  refine b_nil (hK _ (AW.to (to_le (s' := ⟨[(1, HV.int .i64 p1), (2, HV.int .i64 p2), (3, HV.fptr [HV.int .i64 p0.1, HV.int .i64 p0.2.1, slE eFromLabelTo p0.2.2] 0)], []⟩) (AS.le_of ⟨rfl, rfl, rfl, trivial⟩ trivial) ?_)))
  clear hK K
  refine AW.seq ?_
  refine AW.rgs rfl fun K hK => ?_
  refine bv rfl (v_loadF ty24 rfl (l_litA rfl (Nat.le_of_ble_eq_true rfl) rfl)) ?_
  refine mv rfl rfl ?_
  obtain ⟨x1, h2, h⟩ := bS h
  refine b_op rfl (o_call rfl rfl rfl rfl (ACallD.pure0 (w_law46_small h2)) ?_)
  refine bv rfl (v_not rfl) ?_
  refine b_nil (hK _ (AW.to (to_le (s' := ⟨[(1, HV.int .i64 p1), (2, HV.int .i64 p2), (3, HV.fptr [HV.int .i64 p0.1, HV.int .i64 p0.2.1, slE eFromLabelTo p0.2.2] 0), (18, HV.bool (!x1))], []⟩) (AS.le_of ⟨rfl, rfl, rfl, rfl, trivial⟩ trivial) ?_)))
  clear hK K
  refine AW.cond rfl (fun hc => ?_) (fun hc => ?_)
  · have h := ifT hc h
    refine AW.rgs rfl fun K hK => ?_
    obtain ⟨x3, h4, h⟩ := bS h
    refine b_op rfl (o_call rfl rfl rfl rfl (ACallD.pure0 (w_law46_awake h4)) ?_)
    refine mv rfl rfl ?_
    refine b_nil (hK _ (AW.to (to_le (s' := ⟨[(6, HV.bool x3)], []⟩) (AS.le_of ⟨rfl, trivial⟩ trivial) ?_)))
    clear hK K
    refine AW.ret ?_
    have h := Option.some.inj h
    subst h
    exact ret_pure (hs := [HV.bool x3]) (q := HV.bool x3) (.inr rfl) (resT rfl rfl) rfl trivial
  · have h := ifF (bF' hc) h
    refine AW.skip ?_
    refine AW.rgs rfl fun K hK => ?_
    refine bv rfl (v_loadF ty24 rfl (l_litA rfl (Nat.le_of_ble_eq_true rfl) rfl)) ?_
    refine mv rfl rfl ?_
    obtain ⟨x5, h6, h⟩ := bS h
    refine b_op rfl (o_call rfl rfl rfl rfl (ACallD.pure0 (w_distance_Of h6)) ?_)
    refine mv rfl rfl ?_
    refine bv rfl (v_extract rfl rfl) ?_
    refine bv rfl (v_extract rfl rfl) ?_
    refine mv rfl rfl ?_
    refine mv rfl rfl ?_
    refine b_nil (hK _ (AW.to (to_le (s' := ⟨[(1, HV.int .i64 p1), (2, HV.int .i64 p2), (3, HV.fptr [HV.int .i64 p0.1, HV.int .i64 p0.2.1, slE eFromLabelTo p0.2.2] 0), (7, HV.int .i64 x5.1), (8, HV.int .i64 x5.2)], []⟩) (AS.le_of ⟨rfl, rfl, rfl, rfl, rfl, trivial⟩ trivial) ?_)))
    clear hK K
    refine AW.rgs rfl fun K hK => ?_
    refine bv rfl (v_loadF ty24 rfl (l_litA rfl (Nat.le_of_ble_eq_true rfl) rfl)) ?_
    refine mv rfl rfl ?_
    obtain ⟨x7, h8, h⟩ := bS h
    refine b_op rfl (o_call rfl rfl rfl rfl (ACallD.pure0 (w_ref46_Of h8)) ?_)
    refine mv rfl rfl ?_
    refine bv rfl (v_extract rfl rfl) ?_
    refine bv rfl (v_extract rfl rfl) ?_
    refine mv rfl rfl ?_
    refine mv rfl rfl ?_
    refine b_nil (hK _ (AW.to (to_le (s' := ⟨[(1, HV.int .i64 p1), (2, HV.int .i64 p2), (3, HV.fptr [HV.int .i64 p0.1, HV.int .i64 p0.2.1, slE eFromLabelTo p0.2.2] 0), (7, HV.int .i64 x5.1), (8, HV.int .i64 x5.2), (9, HV.int .i64 x7.1), (10, HV.int .i64 x7.2)], []⟩) (AS.le_of ⟨rfl, rfl, rfl, rfl, rfl, rfl, rfl, trivial⟩ trivial) ?_)))
    clear hK K
    refine AW.rgs rfl fun K hK => ?_
    refine bv rfl (v_loadF ty24 rfl (l_litA rfl (Nat.le_of_ble_eq_true rfl) rfl)) ?_
    refine mv rfl rfl ?_
    refine mv rfl rfl ?_
    obtain ⟨x9, h10, h⟩ := bS h
    refine b_op rfl (o_call rfl rfl rfl rfl (ACallD.pure0 (w_distance_Greedy h10)) ?_)
    refine mv rfl rfl ?_
    refine bv rfl (v_extract rfl rfl) ?_
    refine bv rfl (v_extract rfl rfl) ?_
    refine mv rfl rfl ?_
    refine mv rfl rfl ?_
    refine b_nil (hK _ (AW.to (to_le (s' := ⟨[(1, HV.int .i64 p1), (2, HV.int .i64 p2), (3, HV.fptr [HV.int .i64 p0.1, HV.int .i64 p0.2.1, slE eFromLabelTo p0.2.2] 0), (7, HV.int .i64 x5.1), (8, HV.int .i64 x5.2), (9, HV.int .i64 x7.1), (10, HV.int .i64 x7.2), (11, slE eStr x9.1), (12, HV.int .i64 x9.2)], []⟩) (AS.le_of ⟨rfl, rfl, rfl, rfl, rfl, rfl, rfl, rfl, rfl, trivial⟩ trivial) ?_)))
    clear hK K
    refine AW.rgs rfl fun K hK => ?_
    refine bv rfl (v_loadF ty24 rfl (l_litA rfl (Nat.le_of_ble_eq_true rfl) rfl)) ?_
    refine mv rfl rfl ?_
    refine mv rfl rfl ?_
    obtain ⟨x11, h12, h⟩ := bS h
    refine b_op rfl (o_call rfl rfl rfl rfl (ACallD.pure0 (w_ref46_Greedy h12)) ?_)
    refine mv rfl rfl ?_
    refine bv rfl (v_extract rfl rfl) ?_
    refine bv rfl (v_extract rfl rfl) ?_
    refine mv rfl rfl ?_
    refine mv rfl rfl ?_
    refine b_nil (hK _ (AW.to (to_le (s' := ⟨[(7, HV.int .i64 x5.1), (8, HV.int .i64 x5.2), (9, HV.int .i64 x7.1), (10, HV.int .i64 x7.2), (11, slE eStr x9.1), (12, HV.int .i64 x9.2), (13, slE eStr x11.1), (14, HV.int .i64 x11.2)], []⟩) (AS.le_of ⟨rfl, rfl, rfl, rfl, rfl, rfl, rfl, rfl, trivial⟩ trivial) ?_)))
    clear hK K
    refine AW.seqJ h (S := Bool) (V := Unit) (fun a v => ⟨[(6, HV.bool a)], []⟩) (fun a13 w14 h => ?_) (fun k15 h => ?_)
    · refine AW.ret ?_
      have h := Option.some.inj h
      subst h
      exact ret_pure (hs := [HV.bool a13]) (q := HV.bool a13) (.inr rfl) (resT rfl rfl) rfl trivial
    · refine AW.rg rfl fun K hK => ?_
      refine mv rfl rfl ?_
      refine mv rfl rfl ?_
      refine bv rfl (v_bin rfl rfl b_eql) ?_
      refine mv rfl rfl ?_
      by_cases hg23 : x5.1 = x7.1
      · have h := ifT hg23 h
        refine b_T rfl rfl rfl rfl (decide_eq_true hg23) (o_val rfl (mv_val rfl rfl).2 ?_)
        refine b_T rfl rfl rfl rfl rfl (o_val rfl (mv_val rfl rfl).2 ?_)
        refine b_T rfl rfl rfl rfl rfl (o_val rfl (v_bin rfl rfl b_eql) ?_)
        refine bv rfl (v_pickT rfl rfl rfl) ?_
        refine mv rfl rfl ?_
        by_cases hg22 : x5.2 = x7.2
        · have h := ifT hg22 h
          refine b_T rfl rfl rfl rfl (decide_eq_true hg22) (o_val rfl (mv_val rfl rfl).2 ?_)
          refine b_T rfl rfl rfl rfl rfl (o_val rfl (mv_val rfl rfl).2 ?_)
          obtain ⟨x16, h17, h⟩ := bS h
          refine b_T rfl rfl rfl rfl rfl (o_call rfl rfl rfl rfl (ACallD.pure0 (w_slices_Equal_Lstring_string h17)) ?_)
          refine bv rfl (v_pickT rfl rfl rfl) ?_
          refine mv rfl rfl ?_
          by_cases hg21 : x16 = true
          · have h := ifT hg21 h
            refine b_T rfl rfl rfl rfl hg21 (o_val rfl (mv_val rfl rfl).2 ?_)
            refine b_T rfl rfl rfl rfl rfl (o_val rfl (mv_val rfl rfl).2 ?_)
            refine b_T rfl rfl rfl rfl rfl (o_val rfl (v_bin rfl rfl b_eql) ?_)
            refine bv rfl (v_pickT rfl rfl rfl) ?_
            refine mv rfl rfl ?_
            by_cases hg20 : x9.2 = x11.2
            · have h := ifT hg20 h
              obtain ⟨x18, h19, h⟩ := bS h
              refine b_T rfl rfl rfl rfl (decide_eq_true hg20) (o_call rfl rfl rfl rfl (ACallD.pure0 (w_law46_awake h19)) ?_)
              refine bv rfl (v_pickT rfl rfl rfl) ?_
              refine mv rfl rfl ?_
              refine b_nil (hK _ ?_)
              clear hK K
              exact to_le (s' := ⟨[(6, HV.bool x18)], []⟩) (AS.le_of ⟨rfl, trivial⟩ trivial) ⟨x18, (), h, rfl⟩
            · have h := ifF hg20 h
              refine b_F rfl rfl rfl rfl rfl (decide_eq_false hg20) ?_
              refine bv rfl (v_pickF rfl rfl rfl) ?_
              refine mv rfl rfl ?_
              refine b_nil (hK _ ?_)
              clear hK K
              exact to_le (s' := ⟨[(6, HV.bool false)], []⟩) (AS.le_of ⟨rfl, trivial⟩ trivial) ⟨false, (), h, rfl⟩
          · have h := ifF hg21 h
            refine b_F rfl rfl rfl rfl rfl (bF hg21) ?_
            refine b_F rfl rfl rfl rfl rfl rfl ?_
            refine b_F rfl rfl rfl rfl rfl rfl ?_
            refine bv rfl (v_pickF rfl rfl rfl) ?_
            refine mv rfl rfl ?_
            refine b_F rfl rfl rfl rfl rfl rfl ?_
            refine bv rfl (v_pickF rfl rfl rfl) ?_
            refine mv rfl rfl ?_
            refine b_nil (hK _ ?_)
            clear hK K
            exact to_le (s' := ⟨[(6, HV.bool false)], []⟩) (AS.le_of ⟨rfl, trivial⟩ trivial) ⟨false, (), h, rfl⟩
        · have h := ifF hg22 h
          refine b_F rfl rfl rfl rfl rfl (decide_eq_false hg22) ?_
          refine b_F rfl rfl rfl rfl rfl rfl ?_
          refine b_F rfl rfl rfl rfl rfl rfl ?_
          refine bv rfl (v_pickF rfl rfl rfl) ?_
          refine mv rfl rfl ?_
          refine b_F rfl rfl rfl rfl rfl rfl ?_
          refine b_F rfl rfl rfl rfl rfl rfl ?_
          refine b_F rfl rfl rfl rfl rfl rfl ?_
          refine bv rfl (v_pickF rfl rfl rfl) ?_
          refine mv rfl rfl ?_
          refine b_F rfl rfl rfl rfl rfl rfl ?_
          refine bv rfl (v_pickF rfl rfl rfl) ?_
          refine mv rfl rfl ?_
          refine b_nil (hK _ ?_)
          clear hK K
          exact to_le (s' := ⟨[(6, HV.bool false)], []⟩) (AS.le_of ⟨rfl, trivial⟩ trivial) ⟨false, (), h, rfl⟩
      · have h := ifF hg23 h
        refine b_F rfl rfl rfl rfl rfl (decide_eq_false hg23) ?_
        refine b_F rfl rfl rfl rfl rfl rfl ?_
        refine b_F rfl rfl rfl rfl rfl rfl ?_
        refine bv rfl (v_pickF rfl rfl rfl) ?_
        refine mv rfl rfl ?_
        refine b_F rfl rfl rfl rfl rfl rfl ?_
        refine b_F rfl rfl rfl rfl rfl rfl ?_
        refine b_F rfl rfl rfl rfl rfl rfl ?_
        refine bv rfl (v_pickF rfl rfl rfl) ?_
        refine mv rfl rfl ?_
        refine b_F rfl rfl rfl rfl rfl rfl ?_
        refine b_F rfl rfl rfl rfl rfl rfl ?_
        refine b_F rfl rfl rfl rfl rfl rfl ?_
        refine bv rfl (v_pickF rfl rfl rfl) ?_
        refine mv rfl rfl ?_
        refine b_F rfl rfl rfl rfl rfl rfl ?_
        refine bv rfl (v_pickF rfl rfl rfl) ?_
        refine mv rfl rfl ?_
        refine b_nil (hK _ ?_)
        clear hK K
        exact to_le (s' := ⟨[(6, HV.bool false)], []⟩) (AS.le_of ⟨rfl, trivial⟩ trivial) ⟨false, (), h, rfl⟩

end Go.AW

namespace Go.AW
open Go Go.Proofs
set_option linter.unusedVariables false
end Go.AW

namespace Go.AW
open Go Go.ChangeShapes Go.WideShapes Go.ChangeAt Go.RowKit

/-- of what was there nothing turns -/
def Kept (W W' : World) : Prop := W'.os = W.os ∧ W'.output = W.output ∧ W.heap.size ≤ W'.heap.size ∧ ∀ b : Nat, b < W.heap.size → W'.heap[b]? = W.heap[b]?

theorem Kept.frame {W W' : World} (h : Kept W W') (may : MemPlace → Prop) : W.keptBut W' may := by
  refine ⟨h.1, h.2.1, fun i hi => ?_⟩
  rw [h.2.2.2 i hi]
  cases W.heap[i]? with
  | none => rfl
  | some o => cases o with
    | cells c t fr => exact ⟨rfl, rfl, rfl, fun _ _ => rfl⟩
    | map es clock => exact .inr ⟨rfl, rfl⟩
    | _ => rfl

theorem Kept.frozen {W W' : World} (h : Kept W W') (a : Addr) (ha : a.block < W.heap.size) : W'.frozen? a = W.frozen? a := by
  simp only [World.frozen?, h.2.2.2 _ ha]

def Mu.zero : Mu := { nx := 0, loc := fun _ => none, held := fun _ => False }

theorem SR.zero (W : World) : SR W Mu.zero [] :=
  ⟨(fun _ _ _ h => by cases h), (fun _ _ _ h => by cases h), (fun _ _ h => by cases h), (fun _ _ _ _ _ h => by cases h), (fun _ h => h.elim)⟩

theorem calls_of_pure {P : Program} {f : FuncId} {args : List HV} {vs : List Value} {W : World} (hp : Pure P f args (· = .bool true)) (hr : RepL W Mu.zero args vs) :
    Calls P f vs.toArray W fun e W' => e = .returned (.bool true) ∧ Kept W W' := by
  refine (hp.2 Mu.zero W vs (SR.zero W) hr).mono ?_
  rintro e W' ⟨v, r, H', μ', rfl, ⟨rfl, _, _⟩, hs, hv, E⟩
  have hv' : v = .bool true := hv
  subst hv'
  exact ⟨rfl, E.os, E.output, E.size, fun b hb => E.keep b hb fun ⟨_, _, hl⟩ => by cases hl⟩

theorem post_of_kept {H : Type} {enc : TypeId × Value → H} {P : Program} {f : Func} {s : ChangeSpec} {apart fresh handsOn again : Bool} {W W' : World} {args : Array Value} {v : Value} {ds gs : List (DataW H)} {before pa pv : List MemPlace}
    (hW : DataW.Whole enc P f.params.toList s.vars apart W args.toList ds gs before)
    (hres : ∀ (b : Nat) (sp : Nat → Bool) (hd : Bool), DataW.TrodAll enc P W' b sp hd f.resultTypes.toList (v.resultList f.resultTypes.size) (s.fn H (ds ++ gs)).results [])
    (hargs : ∀ sp : Nat → Bool, (∀ p ∈ before, sp p.block = true) → DataW.TrodAll enc P W' 0 sp true f.params.toList args.toList (s.fn H (ds ++ gs)).args pa)
    (hvars : ∀ sp : Nat → Bool, (∀ p ∈ before, sp p.block = true) → DataW.TrodVars enc P W' sp s.vars (s.fn H (ds ++ gs)).vars pv)
    (hps : before = pa ++ pv) (hk : Kept W W')
    (hok : ∀ (j : Nat) (t : TypeId) (r : Value), f.resultTypes[j]? = some t → (v.resultList f.resultTypes.size)[j]? = some r → Value.okWide P W' .any 0 t r) :
    s.post enc P f apart fresh handsOn again W args v W' := by
  have hold : ∀ p ∈ before, (fun b => decide (b < W.heap.size)) p.block = true := fun p hp => by simpa using hW.lt p hp
  refine ⟨ds, gs, before, [], pa, pv, hW, hres _ _ _, hargs _ hold, hvars _ hold, World.keptBut_mono (fun p hp => ⟨hp, ?_⟩) (hk.frame (· ∈ before)), fun _ => ?_⟩
  · rw [hps, List.mem_append] at hp
    exact Or.inr hp
  · have hlt := hW.lt
    obtain ⟨_, _, _, _, _, hz, hn⟩ := hW
    refine ⟨hok, _, _, ([] ++ pa) ++ pv, ⟨[] ++ pa, pv, trodAll_append (hargs _ (fun _ _ => rfl)) (hres _ _ _), hvars _ (fun _ _ => rfl), rfl, ?_, ?_⟩, ?_⟩
    · intro b off hp
      have hp' : MemPlace.cell b off ∈ before := by rw [hps]; simpa using hp
      rw [hk.frozen _ (hlt _ hp')]
      exact hz b off hp'
    · intro ha
      have := hn ha
      rw [hps] at this
      simpa using this
    · intro p hp _
      rw [hps]
      simpa using hp
end Go.AW

/- Arguments: from what is read of them to what the layer says of them; and the law's end for any arguments. -/
namespace Go.AW
open Go Go.ChangeShapes Go.WideShapes Go.ChangeAt Go.RowKit

theorem rowAt_le {p : Program} {fits : TypeId → Bool} {d : Nat} {e : TypeId} {count off n : Nat} (h : rowAt p fits d e count off n = true) : off ≤ count * p.cellsOf e := by
  cases d with
  | zero => simp [rowAt] at h
  | succ d =>
    unfold rowAt at h
    simp only at h
    split at h
    · cases h
    · rename_i hs
      have hs' : 0 < p.cellsOf e := Nat.pos_of_ne_zero hs
      have hd := Nat.div_add_mod off (p.cellsOf e)
      rw [Nat.mul_comm] at hd
      simp only [Bool.or_eq_true, Bool.and_eq_true, beq_iff_eq, decide_eq_true_eq] at h
      rcases h with ⟨⟨h0, h1⟩, _⟩ | ⟨h1, _⟩
      · rw [← hd, h0, Nat.add_zero]
        exact Nat.mul_le_mul_right _ (by omega)
      · have hm := Nat.mod_lt off hs'
        have : (off / p.cellsOf e + 1) * p.cellsOf e ≤ count * p.cellsOf e := Nat.mul_le_mul_right _ h1
        rw [Nat.add_mul] at this
        omega

theorem liesAt_le {p : Program} {d : Nat} {e u : TypeId} {count off n : Nat} (h : liesAt p d e count off u n = true) : off ≤ count * p.cellsOf e := by
  induction d generalizing u n with
  | zero => simp [liesAt] at h
  | succ d ih =>
    unfold liesAt at h
    rw [Bool.or_eq_true] at h
    rcases h with h | h
    · exact rowAt_le h
    · split at h
      · exact ih h
      · cases h

/-- where an argument's slice lies -/
theorem has_seg {P : Program} {W : World} {r : Reach} {base : Nat} {a : Addr} {e : TypeId} {cap : Nat} (h : W.has P r base a e cap) {vs : List Value} (hc : ∀ i (hi : i < vs.length), W.cell? (a.add i) = some vs[i]) :
    ∃ b off, a = ⟨b, off, none⟩ ∧ Seg W b off vs := by
  obtain ⟨_, hsp, row, cells, hsh, hl⟩ := h
  obtain ⟨b, off, spot⟩ := a
  dsimp only at hsp hsh hl
  subst hsp
  refine ⟨b, off, rfl, ?_⟩
  unfold World.shape? at hsh
  split at hsh
  · rename_i cur e' fr hb
    simp only [Option.some.injEq, Prod.mk.injEq] at hsh
    obtain ⟨rfl, rfl⟩ := hsh
    have hoff : off ≤ cur.size := Nat.le_trans (liesAt_le hl) (Nat.div_mul_le_self _ _)
    have hget : ∀ i (hi : i < vs.length), cur.toList[off + i]? = some vs[i] := fun i hi => by
      have := hc i hi
      rw [add_plain] at this
      unfold World.cell? at this
      rw [hb] at this
      simpa using this
    refine ⟨cur, e', fr, cur.toList.take off, cur.toList.drop (off + vs.length), hb, ?_, by simp [hoff]⟩
    have hvs : vs = (cur.toList.drop off).take vs.length := by
      apply List.ext_getElem?
      intro i
      rcases Nat.lt_or_ge i vs.length with hi | hi
      · rw [List.getElem?_take_of_lt hi, List.getElem?_drop, hget i hi, List.getElem?_eq_getElem hi]
      · rw [List.getElem?_eq_none hi, List.getElem?_eq_none (by simp; omega)]
    have : vs ++ cur.toList.drop (off + vs.length) = cur.toList.drop off := by
      conv => lhs; arg 1; rw [hvs]
      rw [← List.drop_drop]
      exact List.take_append_drop _ _
    rw [List.append_assoc, this, List.take_append_drop]
  · cases hsh

theorem nown (b : Nat) : ¬ Mu.zero.owns b := fun h => h.elim (fun ⟨_, _, h⟩ => by cases h) id

/-- a number -/
theorem open_num {H : Type} {enc : TypeId × Value → H} {P : Program} {W : World} {base : Nat} {t : TypeId} {k : IntKind} {v : Value} {d : DataW H} {ps : List MemPlace} (ht : P.underlying t = some (.int k))
    (hval : Value.okWide P W .any base t v) (h : DataW.Trod enc P W 0 (fun _ => true) true t v d ps) : ∃ n : Int, (Lit.int k n).wf = true ∧ Rep W Mu.zero (.int k n) v := by
  obtain ⟨n, rfl, _, _, hw⟩ := open_int ht hval h
  exact ⟨n, hw, rfl, hw⟩

/-- the arguments read again -/
theorem trodAll_stays {H : Type} {enc : TypeId × Value → H} {P : Program} (hl : laidOutB P = true) {W W' : World} {sp : Nat → Bool} : ∀ {ts : List TypeId} {vs : List Value} {ds : List (DataW H)} {ps : List MemPlace},
    (ts.all fun t => P.readableRec t && decide (t < P.types.size)) = true → DataW.TrodAll enc P W 0 (fun _ => true) true ts vs ds ps → (∀ p ∈ ps, W.sameAt W' p) → (∀ p ∈ ps, sp p.block = true) → DataW.TrodAll enc P W' 0 sp true ts vs ds ps
  | [], vs, ds, ps, _, h, _, _ => by
    obtain ⟨rfl, rfl, rfl⟩ := trodAll_nil h
    exact trodAll_mk0
  | t :: ts, vs, ds, ps, ht, h, h1, h2 => by
    obtain ⟨v, vs', d, ds', p, q, rfl, rfl, rfl, h3, h4⟩ := trodAll_cons h
    simp only [List.all_cons, Bool.and_eq_true, decide_eq_true_eq] at ht
    exact trodAll_cons_mk (WideElems.Trod_stays hl ht.1.1 ht.1.2 h3 (fun x hx => h1 x (List.mem_append_left _ hx)) (fun x hx => h2 x (List.mem_append_left _ hx)))
      (trodAll_stays hl ht.2 h4 (fun x hx => h1 x (List.mem_append_right _ hx)) (fun x hx => h2 x (List.mem_append_right _ hx)))

theorem Kept.same {W W' : World} (h : Kept W W') (p : MemPlace) (hp : p.block < W.heap.size) : W.sameAt W' p := by
  cases p with
  | cell b off =>
    show W'.cell? ⟨b, off, none⟩ = W.cell? ⟨b, off, none⟩
    unfold World.cell?
    rw [h.2.2.2 b hp]
  | map b => exact h.2.2.2 b hp

/-- A LAW'S END: true, and the arguments read as they did. -/
theorem post_of_true {H : Type} {enc : TypeId × Value → H} {P : Program} {f : Func} {s : ChangeSpec} {apart fresh handsOn again : Bool} {W W' : World} {args : Array Value} {ds gs : List (DataW H)} {before : List MemPlace} {t : TypeId}
    (hl : laidOutB P = true) (hps : (f.params.toList.all fun t => P.readableRec t && decide (t < P.types.size)) = true) (hres : f.resultTypes = #[t]) (ht : P.underlying t = some .bool) (hv : s.vars = [])
    (hW : DataW.Whole enc P f.params.toList s.vars apart W args.toList ds gs before) (hk : Kept W W')
    (h1 : (s.fn H (ds ++ gs)).results = [.lit (.bool true)]) (h2 : (s.fn H (ds ++ gs)).args = ds) (h3 : (s.fn H (ds ++ gs)).vars = []) :
    s.post enc P f apart fresh handsOn again W args (.bool true) W' := by
  have hlt := hW.lt
  have hW' := hW
  obtain ⟨p, q, hA, hV, rfl, _, _⟩ := hW
  rw [hv] at hV
  obtain ⟨rfl, rfl⟩ := trodVars_none hV
  refine post_of_kept (pa := p) (pv := []) hW' (fun _ _ _ => ?_) (fun sp hsp => ?_) (fun _ _ => ?_) (by simp) hk (ok_one hres rfl (okWide_bool_mk ht _))
  · rw [hres, h1]
    exact trodAll_cons_mk (shut_bool ht _) trodAll_mk0
  · rw [h2]
    exact trodAll_stays hl hps hA (fun x hx => hk.same x (hlt x (by simpa using hx))) (fun x hx => hsp x (by simpa using hx))
  · rw [h3, hv]
    rfl
end Go.AW

/- Arguments that are graphs: what is read of them, and what the layer says of them. -/
namespace Go.AW
open Go Go.ChangeShapes Go.WideShapes Go.ChangeAt Go.RowKit

section
variable {H : Type} {enc : TypeId × Value → H} {P : Program} {W : World} {base : Nat}

theorem repL_app {μ : Mu} : ∀ {hs ks : List HV} {vs us : List Value}, RepL W μ hs vs → RepL W μ ks us → RepL W μ (hs ++ ks) (vs ++ us)
  | [], _, _, _, h, h' => by cases h; exact h'
  | _ :: _, _, _, _, ⟨x, xs, rfl, h1, h2⟩, h' => ⟨x, _, rfl, h1, repL_app h2 h'⟩

theorem add_adds (a : Addr) (i j : Nat) : (a.add i).add j = a.add (i + j) := by
  unfold Addr.add
  repeat' split
  all_goals simp_all [Nat.add_assoc]

theorem open_rows {α : Type} (c : EncL α) {fuel : Nat} {t e : TypeId} {cs : List Value} {x : DataW H × List MemPlace} (ht : P.underlying t = some (.slice e)) (hk : P.cellsOf e = c.k) (hone : ∀ x, ones (c.C x))
    (hel : ∀ n cs y, DataW.trod enc P W 0 (fun _ => true) true n e cs = some y → ∃ x : α, RepL W Mu.zero (c.C x) cs)
    (hhas : ∀ a len cap, cs = [.slice (some a) len cap] → W.has P .any base a e cap) (h : DataW.trod enc P W 0 (fun _ => true) true fuel t cs = some x) : ∃ l : List α, RepL W Mu.zero [slE c l] cs := by
  rcases DataW.trod_slice ht h with ⟨rfl, _⟩ | ⟨a, len, cap, elems, rest, n, _, rfl, _, _, hl, hm, hlen, hel', _, _⟩
  · refine ⟨[], _, _, rfl, ?_, rfl⟩
    show _ ∧ _
    exact ⟨(by rw [c.nil]; exact fun _ h => nomatch h), (by rw [c.nil]; simp), Nat.zero_le _, .inl ⟨rfl, rfl⟩⟩
  · have each : ∀ i, i < len → ∃ cs' x, W.cells? 0 (a.add (i * c.k)) c.k = some cs' ∧ RepL W Mu.zero (c.C x) cs' := fun i hi => by
      have h1 := hel' i hi
      rw [List.getElem?_eq_getElem (by omega), Option.bind_eq_some_iff, hk] at h1
      obtain ⟨cs', h2, h3⟩ := h1
      obtain ⟨x, hx⟩ := hel _ _ _ h3
      exact ⟨cs', x, h2, hx⟩
    have build : ∀ m, m ≤ len → ∃ (l : List α) (vs : List Value), l.length = m ∧ vs.length = m * c.k ∧ RepL W Mu.zero (c.E l) vs ∧ ∀ i (hi : i < vs.length), W.cell? (a.add i) = some vs[i] := by
      intro m
      induction m with
      | zero => exact fun _ => ⟨[], [], rfl, by simp, by rw [c.nil]; rfl, fun i hi => by simp at hi⟩
      | succ m ih =>
        intro hm
        obtain ⟨l, vs, h1, h2, h3, h4⟩ := ih (by omega)
        obtain ⟨cs', x, h5, h6⟩ := each m (by omega)
        obtain ⟨_, h7, h8⟩ := World.cells?_some h5
        refine ⟨l ++ [x], vs ++ cs', by simp [h1], by rw [List.length_append, h2, h7, Nat.succ_mul], by rw [c.append, c.one]; exact repL_app h3 h6, fun i hi => ?_⟩
        rcases Nat.lt_or_ge i vs.length with hi' | hi'
        · rw [List.getElem_append_left hi']; exact h4 i hi'
        · rw [List.getElem_append_right hi']
          rw [List.length_append] at hi
          have := h8 (i - vs.length) (by omega)
          rw [add_adds, h2, show m * c.k + (i - m * c.k) = i by omega] at this
          rw [this, List.getElem?_eq_getElem (by omega)]
          simp only [h2]
    obtain ⟨l, vs, h1, h2, h3, h4⟩ := build len (Nat.le_refl _)
    obtain ⟨b, off, rfl, hseg⟩ := has_seg (hhas _ _ _ rfl) h4
    refine ⟨l, _, _, rfl, ?_, rfl⟩
    show _ ∧ _
    refine ⟨fun d hd => ?_, c.len l, by omega, .inr ⟨b, off, cap, vs, by rw [h1], by omega, nown b, hseg, h3⟩⟩
    rw [c.hE] at hd
    obtain ⟨x, _, hdx⟩ := List.mem_flatMap.1 hd
    exact hone x d hdx

theorem open3 {t : TypeId} {f0 f1 f2 : Field} {fuel : Nat} {cs : List Value} {x : DataW H × List MemPlace} (ht : P.underlying t = some (.struct #[f0, f1, f2])) (o0 : f0.offset = 0) (o1 : f1.offset = 1) (o2 : f2.offset = 2) (c : P.cellsOf t = 3)
    (c0 : P.cellsOf f0.type = 1) (c1 : P.cellsOf f1.type = 1) (c2 : P.cellsOf f2.type = 1) (h : DataW.trod enc P W 0 (fun _ => true) true fuel t cs = some x) :
    ∃ v0 v1 v2 y0 y1 y2 n, cs = [v0, v1, v2] ∧ DataW.trod enc P W 0 (fun _ => true) true n f0.type [v0] = some y0 ∧ DataW.trod enc P W 0 (fun _ => true) true n f1.type [v1] = some y1 ∧ DataW.trod enc P W 0 (fun _ => true) true n f2.type [v2] = some y2 := by
  obtain ⟨xs, n, _, rfl, hl, hlen, hf⟩ := DataW.trod_struct ht h
  rw [c] at hl
  match cs, hl with
  | [v0, v1, v2], _ =>
    match xs, hlen with
    | [y0, y1, y2], _ =>
      refine ⟨v0, v1, v2, y0, y1, y2, n, rfl, ?_, ?_, ?_⟩
      · have := hf 0 f0 rfl; rw [o0, c0] at this; exact this
      · have := hf 1 f1 rfl; rw [o1, c1] at this; exact this
      · have := hf 2 f2 rfl; rw [o2, c2] at this; exact this

theorem rep_i64 {n : Int} {ti : TypeId} {m : Nat} {v : Value} {y : DataW H × List MemPlace} (hti : P.underlying ti = some (.int .i64)) (h : DataW.trod enc P W 0 (fun _ => true) true m ti [v] = some y) : ∃ n : Int, Rep W Mu.zero (.int .i64 n) v := by
  obtain ⟨n, hv, _, hw⟩ := DataW.trod_int hti h
  cases hv
  exact ⟨n, rfl, hw⟩

/-- a graph -/
theorem open_graph {t ti ts te : TypeId} {f0 f1 f2 e0 e1 e2 : Field} {v : Value} {d : DataW H} {ps : List MemPlace} (ht : P.underlying t = some (.struct #[f0, f1, f2])) (o : f0.offset = 0 ∧ f1.offset = 1 ∧ f2.offset = 2) (y : f0.type = ti ∧ f1.type = ti ∧ f2.type = ts)
    (c : P.cellsOf t = 3) (ci : P.cellsOf ti = 1) (cs : P.cellsOf ts = 1) (ct : P.cellTypes P.depth t = some [ti, ti, ts]) (hti : P.underlying ti = some (.int .i64)) (hts : P.underlying ts = some (.slice te))
    (hte : P.underlying te = some (.struct #[e0, e1, e2])) (oe : e0.offset = 0 ∧ e1.offset = 1 ∧ e2.offset = 2) (ye : e0.type = ti ∧ e1.type = ti ∧ e2.type = ti) (ce : P.cellsOf te = 3)
    (hval : Value.okWide P W .any base t v) (h : DataW.Trod enc P W 0 (fun _ => true) true t v d ps) : ∃ g : TLabelsStatesEdges, Rep W Mu.zero (.agg [.int .i64 g.1, .int .i64 g.2.1, slE eFromLabelTo g.2.2]) v := by
  obtain ⟨y0, y1, y2⟩ := y
  obtain ⟨z0, z1, z2⟩ := ye
  simp only [Value.okWide, ht] at hval
  obtain ⟨arr, rfl, _, hrow⟩ := hval
  obtain ⟨fuel, hf⟩ := h
  obtain ⟨v0, v1, v2, a0, a1, a2, n, hcs, h0, h1, h2⟩ := open3 ht o.1 o.2.1 o.2.2 c (by rw [y0]; exact ci) (by rw [y1]; exact ci) (by rw [y2]; exact cs) hf
  have harr : arr = #[v0, v1, v2] := by
    have : arr.toList = [v0, v1, v2] := hcs
    cases arr
    simp_all
  subst harr
  rw [y0] at h0
  rw [y1] at h1
  rw [y2] at h2
  obtain ⟨l, r0⟩ := rep_i64 (n := 0) hti h0
  obtain ⟨s, r1⟩ := rep_i64 (n := 0) hti h1
  obtain ⟨es, _, _, r2, r2', r2''⟩ := open_rows (base := base) eFromLabelTo hts ce (fun x d hd => by
      have hd : d ∈ [HV.int .i64 x.1, HV.int .i64 x.2.1, HV.int .i64 x.2.2] := hd
      simp only [List.mem_cons, List.not_mem_nil, or_false] at hd
      rcases hd with rfl | rfl | rfl <;> rfl) (fun m cs' y hy => by
      obtain ⟨w0, w1, w2, b0, b1, b2, n', rfl, k0, k1, k2⟩ := open3 hte oe.1 oe.2.1 oe.2.2 ce (by rw [z0]; exact ci) (by rw [z1]; exact ci) (by rw [z2]; exact ci) hy
      rw [z0] at k0
      rw [z1] at k1
      rw [z2] at k2
      obtain ⟨p0, q0⟩ := rep_i64 (n := 0) hti k0
      obtain ⟨p1, q1⟩ := rep_i64 (n := 0) hti k1
      obtain ⟨p2, q2⟩ := rep_i64 (n := 0) hti k2
      exact ⟨(p0, p1, p2), _, _, rfl, q0, _, _, rfl, q1, _, _, rfl, q2, rfl⟩) (fun a len cap e => by
      cases e
      obtain ⟨tys, ht1, _, hcell⟩ := hrow
      rw [ct] at ht1
      cases ht1
      obtain ⟨u, hu, hok⟩ := hcell 2 (.slice (some a) len cap) rfl
      cases hu
      simp only [Cell.okWide, hts, Cell.ok] at hok
      exact hok.2.2) h2
  cases r2
  refine ⟨(l, s, es), ?_⟩
  show _ ∧ _
  refine ⟨fun d hd => ?_, _, rfl, _, _, rfl, r0, _, _, rfl, r1, _, _, rfl, r2', rfl⟩
  simp only [List.mem_cons, List.not_mem_nil, or_false] at hd
  rcases hd with rfl | rfl | rfl <;> rfl
end
end Go.AW

namespace Go.Proofs.Ytccnafddjjamoaa
open Go Go.AW Go.ChangeShapes Go.WideShapes Go.ChangeAt Go.RowKit Go.ChangeMaps
set_option linter.unusedVariables false

theorem ownM : ownKnob Try.prog.godebug = none := by kernel_rfl
theorem laidB : laidOutB Try.prog = true := by kernel_rfl

theorem w3 (g : TLabelsStatesEdges) (n d : Int) : Pure Try.prog 3 [HV.agg [HV.int .i64 g.1, HV.int .i64 g.2.1, slE eFromLabelTo g.2.2], .int .i64 n, .int .i64 d] (· = .bool true) := w_law46_DistanceGraphs (law_graphs g n d)

set_option maxRecDepth 100000 in
theorem liftedL (os : Os) (started : os.Started) (H : Type) (enc : TypeId × Value → H) :
    ReturnsInHanded {} Try.checked os 3 .any (Rows.distanceGraphsSpec.pre6 enc Try.prog Try.f3 Rows.distanceGraphsRow.domain false) (Rows.distanceGraphsSpec.post enc Try.prog Try.f3 false true false false) := by
  refine returnsInHanded_of_change (C := Try.checked) ownM started (by kernel_rfl) Try.func3
    (ChangeSpec.witness6 (enc := enc) (C := Try.checked) false ⟨#[], #[.agg #[.int .i64 0, .int .i64 0, .slice none 0 0], .int .i64 0, .int .i64 0], []⟩ 8 (by kernel_rfl) (by kernel_rfl) (by kernel_rfl) (by kernel_rfl)) ?_
  intro W base args ds gs before hval0 hW hcnd _
  have hval : ∀ (j : Nat) t v, Try.f3.params[j]? = some t → args[j]? = some v → Value.okWide Try.prog W .any base t v := hval0
  have hW' := hW
  obtain ⟨p, q, hA0, hV, rfl, hfz, hnd⟩ := hW
  have hA : DataW.TrodAll enc Try.prog W 0 (fun _ => true) true Try.f3.params.toList args.toList ds p := hA0
  rw [Try.params3] at hA hval
  obtain ⟨v0, vs0, d0, ds0, p0, q0, hargs, rfl, rfl, h0, r0⟩ := trodAll_cons hA
  obtain ⟨v1, vs1, d1, ds1, p1, q1, rfl, rfl, rfl, h1, r1⟩ := trodAll_cons r0
  obtain ⟨v2, vs2, d2, ds2, p2, q2, rfl, rfl, rfl, h2, r2⟩ := trodAll_cons r1
  obtain ⟨rfl, rfl, rfl⟩ := trodAll_nil r2
  obtain rfl : args = #[v0, v1, v2] := by cases args; simp_all
  obtain ⟨rfl, rfl⟩ := trodVars_none hV
  obtain ⟨g, hr0⟩ := open_graph Try.underlying24 ⟨rfl, rfl, rfl⟩ ⟨rfl, rfl, rfl⟩ (by kernel_rfl) (by kernel_rfl) (by kernel_rfl) (by kernel_rfl) Try.underlying3 Try.underlying22 Try.underlying66 ⟨rfl, rfl, rfl⟩ ⟨rfl, rfl, rfl⟩ (by kernel_rfl) (hval 0 24 v0 rfl rfl) h0
  obtain ⟨n, _, hr1⟩ := open_num Try.underlying3 (hval 1 3 v1 rfl rfl) h1
  obtain ⟨d, _, hr2⟩ := open_num Try.underlying3 (hval 2 3 v2 rfl rfl) h2
  refine (calls_of_pure (vs := [v0, v1, v2]) (w3 g n d) ⟨_, _, rfl, hr0, _, _, rfl, hr1, _, _, rfl, hr2, rfl⟩).mono fun e W' ⟨he, hk⟩ => ?_
  subst he
  exact ⟨_, rfl, post_of_true laidB (by kernel_rfl) rfl Try.underlying4 rfl hW' hk rfl rfl rfl⟩

theorem distanceGraphsProved : Rows.DistanceGraphsSaid :=
  OpenClaim.holds_of_wide 3 Try.f3 rfl rfl rfl rfl rfl rfl rfl ⟨rfl, rfl, rfl, rfl, rfl⟩ rfl rfl rfl rfl rfl (by kernel_rfl) Try.func3 (by kernel_rfl)
    (of_decide_eq_true (by kernel_rfl)) (by unfold Func.isWrapper; first | (rw [if_pos (by decide +kernel)]; kernel_rfl) | (rw [if_neg (by decide +kernel)]; exact ⟨rfl, rfl⟩))
    (fun os started H enc _ => liftedL os started H enc)
#print axioms distanceGraphsProved
end Go.Proofs.Ytccnafddjjamoaa

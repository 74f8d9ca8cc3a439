import Derived.Test.YtccnafddjjamoaaLa4
namespace Go.AW
open Go Go.Proofs
set_option linter.unusedVariables false
set_option maxHeartbeats 1600000 in
set_option maxRecDepth 100000 in
theorem w_language_ends {p0 : TLabelsStatesEdges} {p1 : List (Int)} {p2 : List UInt8} {r : (List (Int))} (h : m_language_ends p0 p1 p2 = some r) : Pure Try.prog 96 [HV.agg [HV.int .i64 p0.1, HV.int .i64 p0.2.1, slE eFromLabelTo p0.2.2], slE eInt p1, HV.str p2] (· = slE eInt r) := by
  unfold m_language_ends at h
  refine Pure.of_body Try.func96 rfl rfl (Nat.le_of_ble_eq_true rfl) fun hf => ?_
  unfold Try.f96
  dsimp only [enumS, Nat.reduceAdd]
  refine AW.rgs rfl fun K hK => ?_
  refine b_op rfl (o_box rfl rfl rfl ?_)
  refine mv rfl rfl ?_
  refine b_nil (hK _ (AW.to (to_le (s' := ⟨[(1, slE eInt p1), (2, HV.str p2), (3, HV.fptr [HV.int .i64 p0.1, HV.int .i64 p0.2.1, slE eFromLabelTo p0.2.2] 0)], []⟩) (AS.le_of ⟨rfl, rfl, rfl, trivial⟩ trivial) ?_)))
  clear hK K
  refine AW.seq ?_
  refine AW.rgs rfl fun K hK => ?_
  refine mv rfl rfl ?_
  refine b_nil (hK _ (AW.to (to_le (s' := ⟨[(1, slE eInt p1), (2, HV.str p2), (3, HV.fptr [HV.int .i64 p0.1, HV.int .i64 p0.2.1, slE eFromLabelTo p0.2.2] 0), (7, HV.int .i64 0)], []⟩) (AS.le_of ⟨rfl, rfl, rfl, rfl, trivial⟩ trivial) ?_)))
  clear hK K
  refine AW.lpX h (by first | exact up_then | exact up_to) (S := (List Int) × Int) (V := Unit) (fun a v => ⟨[(1, slE eInt a.1), (2, HV.str p2), (3, HV.fptr [HV.int .i64 p0.1, HV.int .i64 p0.2.1, slE eFromLabelTo p0.2.2] 0), (7, HV.int .i64 a.2)], []⟩) ?_ (X := (List Int)) (W := Unit) (fun a v => ⟨[(1, slE eInt a)], []⟩) (fun a13 w14 h => ?_) (fun a1 w2 st3 h => ?_)
  · exact to_le (s' := ⟨[(1, slE eInt p1), (2, HV.str p2), (3, HV.fptr [HV.int .i64 p0.1, HV.int .i64 p0.2.1, slE eFromLabelTo p0.2.2] 0), (7, HV.int .i64 0)], []⟩) (AS.le_of ⟨rfl, rfl, rfl, rfl, trivial⟩ trivial) ⟨(), rfl⟩
  · refine AW.rgs rfl fun K hK => ?_
    refine mv rfl rfl ?_
    refine mv rfl rfl ?_
    refine b_nil (hK _ (AW.to (to_le (s' := ⟨[(6, slE eInt a13)], []⟩) (AS.le_of ⟨rfl, trivial⟩ trivial) ?_)))
    clear hK K
    refine AW.ret ?_
    have h := Option.some.inj h
    subst h
    exact ret_pure (hs := [slE eInt a13]) (q := slE eInt a13) (.inr rfl) (resT rfl rfl) rfl (clean_slE fun _ _ => ⟨trivial, trivial⟩)
  · refine AW.seq ?_
    refine AW.seqJ h (S := Bool) (V := Unit) (fun a v => ⟨[(1, slE eInt a1.1), (2, HV.str p2), (3, HV.fptr [HV.int .i64 p0.1, HV.int .i64 p0.2.1, slE eFromLabelTo p0.2.2] 0), (7, HV.int .i64 a1.2), (16, HV.bool a)], []⟩) (fun a5 w6 h => ?_) (fun k7 h => ?_)
    · refine AW.cond rfl (fun hc => ?_) (fun hc => ?_)
      · have h := ifT hc h
        refine AW.skip ?_
        refine AW.seq (AW.block ?_)
        refine AW.dg 7 follows rfl rfl fun K hK => ?_
        refine sv rfl (v_loadF ty24 rfl (l_litA rfl (Nat.le_of_ble_eq_true rfl) rfl)) ?_
        refine sm rfl rfl ?_
        refine sm rfl rfl ?_
        refine sm rfl rfl ?_
        obtain ⟨x8, h9, h⟩ := bS h
        refine sv rfl (v_idxS ty9 rfl rfl h9) ?_
        obtain ⟨x10, h11, h⟩ := bS h
        refine s_op rfl rfl (ops_call rfl rfl rfl rfl (ACallD.pure0 (w_language_step h11)) ?_)
        refine sm rfl rfl ?_
        refine s_nil ?_
        refine b_nil (hK _ (AW.to (to_le (s' := ⟨[(1, slE eInt x10), (2, HV.str p2), (3, HV.fptr [HV.int .i64 p0.1, HV.int .i64 p0.2.1, slE eFromLabelTo p0.2.2] 0), (7, HV.int .i64 a1.2)], []⟩) (AS.le_of ⟨rfl, rfl, rfl, rfl, trivial⟩ trivial) ?_)))
        clear hK K
        refine AW.rg rfl fun K hK => ?_
        refine mv rfl rfl ?_
        refine bv rfl (v_bin rfl rfl b_add) ?_
        refine mv rfl rfl ?_
        refine b_nil (hK _ ?_)
        clear hK K
        exact to_le (s' := ⟨[(1, slE eInt x10), (2, HV.str p2), (3, HV.fptr [HV.int .i64 p0.1, HV.int .i64 p0.2.1, slE eFromLabelTo p0.2.2] 0), (7, HV.int .i64 (IntKind.wrap .i64 (a1.2 + 1)))], []⟩) (AS.le_of ⟨rfl, rfl, rfl, rfl, trivial⟩ trivial) ⟨(x10, IntKind.wrap .i64 (a1.2 + 1)), (), h, rfl⟩
      · have h := ifF (bF' hc) h
        refine AW.exit ?_
        exact to_le (s' := ⟨[(1, slE eInt a1.1)], []⟩) (AS.le_of ⟨rfl, trivial⟩ trivial) ⟨a1.1, (), h, rfl⟩
    · refine AW.rg rfl fun K hK => ?_
      refine mv rfl rfl ?_
      refine mv rfl rfl ?_
      refine bv rfl (v_lenS rfl rfl ty9 rfl) ?_
      refine bv rfl (v_bin rfl rfl b_lss) ?_
      refine mv rfl rfl ?_
      by_cases hg12 : a1.2 < ((p2).length : Int)
      · have h := ifT hg12 h
        refine b_T rfl rfl rfl rfl (decide_eq_true hg12) (o_val rfl (mv_val rfl rfl).2 ?_)
        refine b_T rfl rfl rfl rfl rfl (o_val rfl (v_lenF rfl rfl ty42 rfl) ?_)
        refine b_T rfl rfl rfl rfl rfl (o_val rfl (v_bin rfl rfl b_gtr) ?_)
        refine bv rfl (v_pickT rfl rfl rfl) ?_
        refine b_nil (hK _ ?_)
        clear hK K
        exact to_le (s' := ⟨[(1, slE eInt a1.1), (2, HV.str p2), (3, HV.fptr [HV.int .i64 p0.1, HV.int .i64 p0.2.1, slE eFromLabelTo p0.2.2] 0), (7, HV.int .i64 a1.2), (16, HV.bool (decide (0 < ((a1.1).length : Int))))], []⟩) (AS.le_of ⟨rfl, rfl, rfl, rfl, rfl, trivial⟩ trivial) ⟨decide (0 < ((a1.1).length : Int)), (), h, rfl⟩
      · have h := ifF hg12 h
        refine b_F rfl rfl rfl rfl rfl (decide_eq_false hg12) ?_
        refine b_F rfl rfl rfl rfl rfl rfl ?_
        refine b_F rfl rfl rfl rfl rfl rfl ?_
        refine bv rfl (v_pickF rfl rfl rfl) ?_
        refine b_nil (hK _ ?_)
        clear hK K
        exact to_le (s' := ⟨[(1, slE eInt a1.1), (2, HV.str p2), (3, HV.fptr [HV.int .i64 p0.1, HV.int .i64 p0.2.1, slE eFromLabelTo p0.2.2] 0), (7, HV.int .i64 a1.2), (16, HV.bool false)], []⟩) (AS.le_of ⟨rfl, rfl, rfl, rfl, rfl, trivial⟩ trivial) ⟨false, (), h, rfl⟩

set_option maxHeartbeats 1600000 in
set_option maxRecDepth 100000 in
theorem w_language_Accepts {p0 : TLabelsStatesEdges} {p1 : List UInt8} {r : Bool × Int} (h : m_language_Accepts p0 p1 = some r) : Pure Try.prog 48 [HV.agg [HV.int .i64 p0.1, HV.int .i64 p0.2.1, slE eFromLabelTo p0.2.2], HV.str p1] (· = HV.tup [HV.bool r.1, HV.int .i64 r.2]) := by
  unfold m_language_Accepts at h
  refine Pure.of_body Try.func48 rfl rfl (Nat.le_of_ble_eq_true rfl) fun hf => ?_
  unfold Try.f48
  dsimp only [enumS, Nat.reduceAdd]
  refine AW.rgs rfl fun K hK => ?_
  refine b_op rfl (o_box rfl rfl rfl ?_)
  refine mv rfl rfl ?_
  refine mv rfl rfl ?_
  refine b_nil (hK _ (AW.to (to_le (s' := ⟨[(1, HV.str p1), (2, HV.fptr [HV.int .i64 p0.1, HV.int .i64 p0.2.1, slE eFromLabelTo p0.2.2] 0)], []⟩) (AS.le_of ⟨rfl, rfl, trivial⟩ trivial) ?_)))
  clear hK K
  refine AW.seq ?_
  refine AW.rgs rfl fun K hK => ?_
  refine bv rfl (v_loadF ty24 rfl (l_litA rfl (Nat.le_of_ble_eq_true rfl) rfl)) ?_
  refine mv rfl rfl ?_
  obtain ⟨x1, h2, h⟩ := bS h
  refine b_op rfl (o_call rfl rfl rfl rfl (ACallD.pure0 (w_language_spells h2)) ?_)
  refine mv rfl rfl ?_
  refine b_nil (hK _ (AW.to (to_le (s' := ⟨[(1, HV.str p1), (2, HV.fptr [HV.int .i64 p0.1, HV.int .i64 p0.2.1, slE eFromLabelTo p0.2.2] 0), (6, HV.int .i64 x1)], []⟩) (AS.le_of ⟨rfl, rfl, rfl, trivial⟩ trivial) ?_)))
  clear hK K
  refine AW.rgs rfl fun K hK => ?_
  refine mv rfl rfl ?_
  refine bv rfl (v_bin rfl rfl b_neq) ?_
  refine b_nil (hK _ (AW.to (to_le (s' := ⟨[(1, HV.str p1), (2, HV.fptr [HV.int .i64 p0.1, HV.int .i64 p0.2.1, slE eFromLabelTo p0.2.2] 0), (6, HV.int .i64 x1), (11, HV.bool (decide (x1 ≠ 0)))], []⟩) (AS.le_of ⟨rfl, rfl, rfl, rfl, trivial⟩ trivial) ?_)))
  clear hK K
  refine AW.cond rfl (fun hc => ?_) (fun hc => ?_)
  · have hc := of_decide_eq_true hc
    have h := ifT hc h
    refine AW.rgs rfl fun K hK => ?_
    refine mv rfl rfl ?_
    refine mv rfl rfl ?_
    refine mv rfl rfl ?_
    refine b_nil (hK _ (AW.to (to_le (s' := ⟨[(4, HV.bool false), (5, HV.int .i64 x1)], []⟩) (AS.le_of ⟨rfl, rfl, trivial⟩ trivial) ?_)))
    clear hK K
    refine AW.ret ?_
    have h := Option.some.inj h
    subst h
    exact ret_pure (hs := [HV.bool false, HV.int .i64 x1]) (q := HV.tup [HV.bool false, HV.int .i64 x1]) (.inr rfl) (resT rfl (resT rfl rfl)) rfl ⟨trivial, trivial, trivial⟩
  · have hc := of_decide_eq_false hc
    have h := ifF hc h
    refine AW.skip ?_
    refine AW.dgs 9 follows rfl rfl fun K hK => ?_
    refine sv rfl (v_loadF ty24 rfl (l_litA rfl (Nat.le_of_ble_eq_true rfl) rfl)) ?_
    refine sv rfl (v_loadF ty24 rfl (l_litA rfl (Nat.le_of_ble_eq_true rfl) rfl)) ?_
    obtain ⟨x3, h4, h⟩ := bS h
    refine s_op rfl rfl (ops_call rfl rfl rfl rfl (ACallD.pure0 (w_language_states h4)) ?_)
    refine sm rfl rfl ?_
    obtain ⟨x5, h6, h⟩ := bS h
    refine s_op rfl rfl (ops_call rfl rfl rfl rfl (ACallD.pure0 (w_language_ends h6)) ?_)
    refine sv rfl (v_lenF rfl rfl ty42 rfl) ?_
    refine sv rfl (v_bin rfl rfl b_gtr) ?_
    refine sm rfl rfl ?_
    refine sm rfl rfl ?_
    refine s_nil ?_
    refine b_nil (hK _ (AW.to (to_le (s' := ⟨[(4, HV.bool (decide (0 < ((x5).length : Int)))), (5, HV.int .i64 0)], []⟩) (AS.le_of ⟨rfl, rfl, trivial⟩ trivial) ?_)))
    clear hK K
    refine AW.ret ?_
    have h := Option.some.inj h
    subst h
    exact ret_pure (hs := [HV.bool (decide (0 < ((x5).length : Int))), HV.int .i64 0]) (q := HV.tup [HV.bool (decide (0 < ((x5).length : Int))), HV.int .i64 0]) (.inr rfl) (resT rfl (resT rfl rfl)) rfl ⟨trivial, trivial, trivial⟩

set_option maxHeartbeats 1600000 in
set_option maxRecDepth 100000 in
theorem w_ref11_Great {p0 : TLabelsStatesEdges} {r : Bool} (h : m_ref11_Great p0 = some r) : Pure Try.prog 85 [HV.agg [HV.int .i64 p0.1, HV.int .i64 p0.2.1, slE eFromLabelTo p0.2.2]] (· = HV.bool r) := by
  unfold m_ref11_Great at h
  refine Pure.of_body Try.func85 rfl rfl (Nat.le_of_ble_eq_true rfl) fun hf => ?_
  unfold Try.f85
  dsimp only [enumS, Nat.reduceAdd]
  refine AW.rgs rfl fun K hK => ?_
  refine b_op rfl (o_box rfl rfl rfl ?_)
  refine mv rfl rfl ?_
  refine b_nil (hK _ (AW.to (to_le (s' := ⟨[(1, HV.fptr [HV.int .i64 p0.1, HV.int .i64 p0.2.1, slE eFromLabelTo p0.2.2] 0)], []⟩) (AS.le_of ⟨rfl, trivial⟩ trivial) ?_)))
  clear hK K
  refine AW.seqJ h (S := Bool) (V := Unit) (fun a v => ⟨[(2, HV.bool a)], []⟩) (fun a1 w2 h => ?_) (fun k3 h => ?_)
  · refine AW.ret ?_
    have h := Option.some.inj h
    subst h
    exact ret_pure (hs := [HV.bool a1]) (q := HV.bool a1) (.inr rfl) (resT rfl rfl) rfl trivial
  · refine AW.rg rfl fun K hK => ?_
    refine bv rfl (v_fieldAddrF fo24_1 rfl) ?_
    refine bv rfl (v_loadF ty3 rfl (l_lit rfl rfl)) ?_
    refine bv rfl (v_bin rfl rfl b_gtr) ?_
    refine mv rfl rfl ?_
    by_cases hg9 : 8 < p0.2.1
    · have h := ifT hg9 h
      refine b_T rfl rfl rfl rfl (decide_eq_true hg9) (o_val rfl (v_fieldAddrF fo24_1 rfl) ?_)
      refine b_T rfl rfl rfl rfl rfl (o_val rfl (v_loadF ty3 rfl (l_lit rfl rfl)) ?_)
      refine b_T rfl rfl rfl rfl rfl (o_val rfl (v_bin rfl rfl b_leq) ?_)
      refine bv rfl (v_pickT rfl rfl rfl) ?_
      refine mv rfl rfl ?_
      by_cases hg6 : p0.2.1 ≤ 64
      · have h := ifT hg6 h
        refine b_F rfl rfl rfl rfl rfl (decide_eq_true hg6) ?_
        refine b_F rfl rfl rfl rfl rfl rfl ?_
        refine b_F rfl rfl rfl rfl rfl rfl ?_
        refine b_F rfl rfl rfl rfl rfl rfl ?_
        refine b_F rfl rfl rfl rfl rfl rfl ?_
        refine b_U rfl rfl rfl rfl rfl ?_
        refine b_U rfl rfl rfl rfl rfl ?_
        refine b_U rfl rfl rfl rfl rfl ?_
        refine b_U rfl rfl rfl rfl rfl ?_
        refine b_F rfl rfl rfl rfl rfl rfl ?_
        refine bv rfl (v_pickT rfl rfl rfl) ?_
        refine mv rfl rfl ?_
        refine b_F rfl rfl rfl rfl rfl rfl ?_
        refine b_F rfl rfl rfl rfl rfl rfl ?_
        refine b_F rfl rfl rfl rfl rfl rfl ?_
        refine b_F rfl rfl rfl rfl rfl rfl ?_
        refine bv rfl (v_pickT rfl rfl rfl) ?_
        refine mv rfl rfl ?_
        refine b_nil (hK _ ?_)
        clear hK K
        exact to_le (s' := ⟨[(2, HV.bool true)], []⟩) (AS.le_of ⟨rfl, trivial⟩ trivial) ⟨true, (), h, rfl⟩
      · have h := ifF hg6 h
        refine b_T rfl rfl rfl rfl (decide_eq_false hg6) (o_val rfl (v_fieldAddrF fo24_2 rfl) ?_)
        refine b_T rfl rfl rfl rfl rfl (o_val rfl (v_loadF ty22 rfl (l_lit rfl rfl)) ?_)
        refine b_T rfl rfl rfl rfl rfl (o_val rfl (v_lenF rfl rfl ty22 rfl) ?_)
        refine b_T rfl rfl rfl rfl rfl (o_val rfl (v_bin rfl rfl b_gtr) ?_)
        refine b_T rfl rfl rfl rfl rfl (o_val rfl (mv_val rfl rfl).2 ?_)
        by_cases hg5 : 30 < ((p0.2.2).length : Int)
        · have h := ifT hg5 h
          refine b_T rfl rfl rfl rfl (decide_eq_true hg5) (o_val rfl (v_fieldAddrF fo24_2 rfl) ?_)
          refine b_T rfl rfl rfl rfl rfl (o_val rfl (v_loadF ty22 rfl (l_lit rfl rfl)) ?_)
          refine b_T rfl rfl rfl rfl rfl (o_val rfl (v_lenF rfl rfl ty22 rfl) ?_)
          refine b_T rfl rfl rfl rfl rfl (o_val rfl (v_bin rfl rfl b_leq) ?_)
          refine b_T rfl rfl rfl rfl rfl (o_val rfl (v_pickT rfl rfl rfl) ?_)
          refine bv rfl (v_pickF rfl rfl rfl) ?_
          refine mv rfl rfl ?_
          by_cases hg4 : ((p0.2.2).length : Int) ≤ 1024
          · have h := ifT hg4 h
            refine b_F rfl rfl rfl rfl rfl (decide_eq_true hg4) ?_
            refine b_F rfl rfl rfl rfl rfl rfl ?_
            refine b_F rfl rfl rfl rfl rfl rfl ?_
            refine b_F rfl rfl rfl rfl rfl rfl ?_
            refine bv rfl (v_pickT rfl rfl rfl) ?_
            refine mv rfl rfl ?_
            refine b_nil (hK _ ?_)
            clear hK K
            exact to_le (s' := ⟨[(2, HV.bool true)], []⟩) (AS.le_of ⟨rfl, trivial⟩ trivial) ⟨true, (), h, rfl⟩
          · have h := ifF hg4 h
            refine b_T rfl rfl rfl rfl (decide_eq_false hg4) (o_val rfl (v_fieldAddrF fo24_2 rfl) ?_)
            refine b_T rfl rfl rfl rfl rfl (o_val rfl (v_loadF ty22 rfl (l_lit rfl rfl)) ?_)
            refine b_T rfl rfl rfl rfl rfl (o_val rfl (v_lenF rfl rfl ty22 rfl) ?_)
            refine b_T rfl rfl rfl rfl rfl (o_val rfl (v_bin rfl rfl b_gtr) ?_)
            refine bv rfl (v_pickF rfl rfl rfl) ?_
            refine mv rfl rfl ?_
            refine b_nil (hK _ ?_)
            clear hK K
            exact to_le (s' := ⟨[(2, HV.bool (decide (1027 < ((p0.2.2).length : Int))))], []⟩) (AS.le_of ⟨rfl, trivial⟩ trivial) ⟨decide (1027 < ((p0.2.2).length : Int)), (), h, rfl⟩
        · have h := ifF hg5 h
          refine b_F rfl rfl rfl rfl rfl (decide_eq_false hg5) ?_
          refine b_F rfl rfl rfl rfl rfl rfl ?_
          refine b_F rfl rfl rfl rfl rfl rfl ?_
          refine b_F rfl rfl rfl rfl rfl rfl ?_
          refine b_T rfl rfl rfl rfl rfl (o_val rfl (v_pickF rfl rfl rfl) ?_)
          refine bv rfl (v_pickF rfl rfl rfl) ?_
          refine mv rfl rfl ?_
          refine b_T rfl rfl rfl rfl rfl (o_val rfl (v_fieldAddrF fo24_2 rfl) ?_)
          refine b_T rfl rfl rfl rfl rfl (o_val rfl (v_loadF ty22 rfl (l_lit rfl rfl)) ?_)
          refine b_T rfl rfl rfl rfl rfl (o_val rfl (v_lenF rfl rfl ty22 rfl) ?_)
          refine b_T rfl rfl rfl rfl rfl (o_val rfl (v_bin rfl rfl b_gtr) ?_)
          refine bv rfl (v_pickF rfl rfl rfl) ?_
          refine mv rfl rfl ?_
          refine b_nil (hK _ ?_)
          clear hK K
          exact to_le (s' := ⟨[(2, HV.bool (decide (1027 < ((p0.2.2).length : Int))))], []⟩) (AS.le_of ⟨rfl, trivial⟩ trivial) ⟨decide (1027 < ((p0.2.2).length : Int)), (), h, rfl⟩
    · have h := ifF hg9 h
      refine b_F rfl rfl rfl rfl rfl (decide_eq_false hg9) ?_
      refine b_F rfl rfl rfl rfl rfl rfl ?_
      refine b_F rfl rfl rfl rfl rfl rfl ?_
      refine bv rfl (v_pickF rfl rfl rfl) ?_
      refine mv rfl rfl ?_
      refine b_T rfl rfl rfl rfl rfl (o_val rfl (v_fieldAddrF fo24_2 rfl) ?_)
      refine b_T rfl rfl rfl rfl rfl (o_val rfl (v_loadF ty22 rfl (l_lit rfl rfl)) ?_)
      refine b_T rfl rfl rfl rfl rfl (o_val rfl (v_lenF rfl rfl ty22 rfl) ?_)
      refine b_T rfl rfl rfl rfl rfl (o_val rfl (v_bin rfl rfl b_gtr) ?_)
      refine b_T rfl rfl rfl rfl rfl (o_val rfl (mv_val rfl rfl).2 ?_)
      by_cases hg8 : 30 < ((p0.2.2).length : Int)
      · have h := ifT hg8 h
        refine b_T rfl rfl rfl rfl (decide_eq_true hg8) (o_val rfl (v_fieldAddrF fo24_2 rfl) ?_)
        refine b_T rfl rfl rfl rfl rfl (o_val rfl (v_loadF ty22 rfl (l_lit rfl rfl)) ?_)
        refine b_T rfl rfl rfl rfl rfl (o_val rfl (v_lenF rfl rfl ty22 rfl) ?_)
        refine b_T rfl rfl rfl rfl rfl (o_val rfl (v_bin rfl rfl b_leq) ?_)
        refine b_T rfl rfl rfl rfl rfl (o_val rfl (v_pickT rfl rfl rfl) ?_)
        refine bv rfl (v_pickF rfl rfl rfl) ?_
        refine mv rfl rfl ?_
        by_cases hg7 : ((p0.2.2).length : Int) ≤ 1024
        · have h := ifT hg7 h
          refine b_F rfl rfl rfl rfl rfl (decide_eq_true hg7) ?_
          refine b_F rfl rfl rfl rfl rfl rfl ?_
          refine b_F rfl rfl rfl rfl rfl rfl ?_
          refine b_F rfl rfl rfl rfl rfl rfl ?_
          refine bv rfl (v_pickT rfl rfl rfl) ?_
          refine mv rfl rfl ?_
          refine b_nil (hK _ ?_)
          clear hK K
          exact to_le (s' := ⟨[(2, HV.bool true)], []⟩) (AS.le_of ⟨rfl, trivial⟩ trivial) ⟨true, (), h, rfl⟩
        · have h := ifF hg7 h
          refine b_T rfl rfl rfl rfl (decide_eq_false hg7) (o_val rfl (v_fieldAddrF fo24_2 rfl) ?_)
          refine b_T rfl rfl rfl rfl rfl (o_val rfl (v_loadF ty22 rfl (l_lit rfl rfl)) ?_)
          refine b_T rfl rfl rfl rfl rfl (o_val rfl (v_lenF rfl rfl ty22 rfl) ?_)
          refine b_T rfl rfl rfl rfl rfl (o_val rfl (v_bin rfl rfl b_gtr) ?_)
          refine bv rfl (v_pickF rfl rfl rfl) ?_
          refine mv rfl rfl ?_
          refine b_nil (hK _ ?_)
          clear hK K
          exact to_le (s' := ⟨[(2, HV.bool (decide (1027 < ((p0.2.2).length : Int))))], []⟩) (AS.le_of ⟨rfl, trivial⟩ trivial) ⟨decide (1027 < ((p0.2.2).length : Int)), (), h, rfl⟩
      · have h := ifF hg8 h
        refine b_F rfl rfl rfl rfl rfl (decide_eq_false hg8) ?_
        refine b_F rfl rfl rfl rfl rfl rfl ?_
        refine b_F rfl rfl rfl rfl rfl rfl ?_
        refine b_F rfl rfl rfl rfl rfl rfl ?_
        refine b_T rfl rfl rfl rfl rfl (o_val rfl (v_pickF rfl rfl rfl) ?_)
        refine bv rfl (v_pickF rfl rfl rfl) ?_
        refine mv rfl rfl ?_
        refine b_T rfl rfl rfl rfl rfl (o_val rfl (v_fieldAddrF fo24_2 rfl) ?_)
        refine b_T rfl rfl rfl rfl rfl (o_val rfl (v_loadF ty22 rfl (l_lit rfl rfl)) ?_)
        refine b_T rfl rfl rfl rfl rfl (o_val rfl (v_lenF rfl rfl ty22 rfl) ?_)
        refine b_T rfl rfl rfl rfl rfl (o_val rfl (v_bin rfl rfl b_gtr) ?_)
        refine bv rfl (v_pickF rfl rfl rfl) ?_
        refine mv rfl rfl ?_
        refine b_nil (hK _ ?_)
        clear hK K
        exact to_le (s' := ⟨[(2, HV.bool (decide (1027 < ((p0.2.2).length : Int))))], []⟩) (AS.le_of ⟨rfl, trivial⟩ trivial) ⟨decide (1027 < ((p0.2.2).length : Int)), (), h, rfl⟩

set_option maxHeartbeats 1600000 in
set_option maxRecDepth 100000 in
theorem w_law11_fine {p0 : TLabelsStatesEdges} {r : Bool} (h : m_law11_fine p0 = some r) : Pure Try.prog 39 [HV.agg [HV.int .i64 p0.1, HV.int .i64 p0.2.1, slE eFromLabelTo p0.2.2]] (· = HV.bool r) := by
  unfold m_law11_fine at h
  refine Pure.of_body Try.func39 rfl rfl (Nat.le_of_ble_eq_true rfl) fun hf => ?_
  unfold Try.f39
  dsimp only [enumS, Nat.reduceAdd]
  refine AW.rgs rfl fun K hK => ?_
  refine b_op rfl (o_box rfl rfl rfl ?_)
  refine mv rfl rfl ?_
  refine b_nil (hK _ (AW.to (to_le (s' := ⟨[(1, HV.fptr [HV.int .i64 p0.1, HV.int .i64 p0.2.1, slE eFromLabelTo p0.2.2] 0)], []⟩) (AS.le_of ⟨rfl, trivial⟩ trivial) ?_)))
  clear hK K
  refine AW.seqJ h (S := Bool) (V := Unit) (fun a v => ⟨[(2, HV.bool a)], []⟩) (fun a1 w2 h => ?_) (fun k3 h => ?_)
  · refine AW.ret ?_
    have h := Option.some.inj h
    subst h
    exact ret_pure (hs := [HV.bool a1]) (q := HV.bool a1) (.inr rfl) (resT rfl rfl) rfl trivial
  · refine AW.rg rfl fun K hK => ?_
    refine bv rfl (v_loadF ty24 rfl (l_litA rfl (Nat.le_of_ble_eq_true rfl) rfl)) ?_
    obtain ⟨x4, h5, h⟩ := bS h
    refine b_op rfl (o_call rfl rfl rfl rfl (ACallD.pure0 (w_ref11_Great h5)) ?_)
    refine bv rfl (v_not rfl) ?_
    refine mv rfl rfl ?_
    by_cases hg9 : (!x4) = true
    · have h := ifT hg9 h
      refine b_T rfl rfl rfl rfl hg9 (o_val rfl (v_loadF ty24 rfl (l_litA rfl (Nat.le_of_ble_eq_true rfl) rfl)) ?_)
      obtain ⟨x6, h7, h⟩ := bS h
      refine b_T rfl rfl rfl rfl rfl (o_call rfl rfl rfl rfl (ACallD.pure0 (w_graph_Check h7)) ?_)
      refine b_T rfl rfl rfl rfl rfl (o_val rfl (v_bin rfl rfl b_eql) ?_)
      refine bv rfl (v_pickT rfl rfl rfl) ?_
      refine mv rfl rfl ?_
      by_cases hg8 : x6 = 0
      · have h := ifT hg8 h
        refine b_T rfl rfl rfl rfl (decide_eq_true hg8) (o_val rfl (v_fieldAddrF fo24_0 rfl) ?_)
        refine b_T rfl rfl rfl rfl rfl (o_val rfl (v_loadF ty3 rfl (l_lit rfl rfl)) ?_)
        refine b_T rfl rfl rfl rfl rfl (o_val rfl (v_bin rfl rfl b_leq) ?_)
        refine bv rfl (v_pickT rfl rfl rfl) ?_
        refine mv rfl rfl ?_
        refine b_nil (hK _ ?_)
        clear hK K
        exact to_le (s' := ⟨[(2, HV.bool (decide (p0.1 ≤ 16)))], []⟩) (AS.le_of ⟨rfl, trivial⟩ trivial) ⟨decide (p0.1 ≤ 16), (), h, rfl⟩
      · have h := ifF hg8 h
        refine b_F rfl rfl rfl rfl rfl (decide_eq_false hg8) ?_
        refine b_F rfl rfl rfl rfl rfl rfl ?_
        refine b_F rfl rfl rfl rfl rfl rfl ?_
        refine bv rfl (v_pickF rfl rfl rfl) ?_
        refine mv rfl rfl ?_
        refine b_nil (hK _ ?_)
        clear hK K
        exact to_le (s' := ⟨[(2, HV.bool false)], []⟩) (AS.le_of ⟨rfl, trivial⟩ trivial) ⟨false, (), h, rfl⟩
    · have h := ifF hg9 h
      refine b_F rfl rfl rfl rfl rfl (bF hg9) ?_
      refine b_F rfl rfl rfl rfl rfl rfl ?_
      refine b_F rfl rfl rfl rfl rfl rfl ?_
      refine bv rfl (v_pickF rfl rfl rfl) ?_
      refine mv rfl rfl ?_
      refine b_F rfl rfl rfl rfl rfl rfl ?_
      refine b_F rfl rfl rfl rfl rfl rfl ?_
      refine b_F rfl rfl rfl rfl rfl rfl ?_
      refine bv rfl (v_pickF rfl rfl rfl) ?_
      refine mv rfl rfl ?_
      refine b_nil (hK _ ?_)
      clear hK K
      exact to_le (s' := ⟨[(2, HV.bool false)], []⟩) (AS.le_of ⟨rfl, trivial⟩ trivial) ⟨false, (), h, rfl⟩

end Go.AW



namespace Go.AW
open Go Go.Proofs

theorem pick_key {vis rest ks : List (List UInt8)} {k : List UInt8} (hp : (vis ++ rest).Perm ks) (hm : k ∈ ks) (hk : k ∉ vis) : ∃ l1 l2, rest = l1 ++ k :: l2 ∧ ((k :: vis) ++ (l1 ++ l2)).Perm ks := by
  have hx : k ∈ rest := (List.mem_append.1 (hp.mem_iff.2 hm)).resolve_left hk
  obtain ⟨l1, l2, rfl⟩ := List.append_of_mem hx
  refine ⟨l1, l2, rfl, List.Perm.trans ?_ hp⟩
  have e1 : (k :: vis) ++ (l1 ++ l2) = k :: ((vis ++ l1) ++ l2) := by simp
  have e2 : vis ++ (l1 ++ k :: l2) = (vis ++ l1) ++ k :: l2 := by simp
  rw [e1, e2]
  exact List.perm_middle.symm

theorem no_rest {vis rest ks : List (List UInt8)} (hn : ks.Nodup) (hp : (vis ++ rest).Perm ks) (hall : ∀ k ∈ ks, k ∈ vis) : rest = [] := by
  cases rest with
  | nil => rfl
  | cons x rest =>
    have h1 := hp.nodup_iff.2 hn
    have hx : x ∈ vis := hall x (hp.mem_iff.1 (by simp))
    exact absurd rfl ((List.nodup_append.1 h1).2.2 x hx x (List.mem_cons_self ..))

set_option linter.unusedSimpArgs false
/-- the iterator over a map's keys -/
theorem w127 {f mid mver lid lver : Nat} {es : List (List UInt8 × HV)} {H : Heap} {K : HV → Heap → Prop} (hn : (es.map (·.1)).Nodup) (hne : f * 1000 + 5 ≠ mid) (hm : hget H mid = some (mver, .map es)) (J : Nat → List (List UInt8) → Heap → Prop)
    (hJm : ∀ iv vis H, J iv vis H → hget H mid = some (mver, .map es)) (hJi : ∀ iv vis H, J iv vis H → ∃ cur, hget H (f * 1000 + 5) = some (iv, .iter mid mver vis cur))
    (h0 : ∀ iv, J iv [] (hset H (f * 1000 + 5) iv (.iter mid mver [] false)))
    (hstep : ∀ iv vis k H, J iv vis H → k ∈ es.map (·.1) → k ∉ vis → vis.length < es.length → YCall Try.prog lid lver [.str k] (hset H (f * 1000 + 5) iv (.iter mid mver (k :: vis) true)) fun r H' => r = .bool true ∧ J iv (k :: vis) H')
    (hdone : ∀ iv vis H, J iv vis H → vis.Perm (es.map (·.1)) → K (.tup []) H) : ACall Try.prog 127 [.yl lid lver, .fptr [.mp mid mver] 0] H K := by
  refine ACall.of_body Try.func127 rfl rfl (Nat.le_of_ble_eq_true rfl) ?_
  unfold Try.f127
  dsimp only [enumS, Nat.reduceAdd]
  refine AW.rseq (fid := f) (mt := []) [0, 5] rfl fun K1 hK1 => ?_
  simp only [go_sem, reduceIte, Nat.reduceEqDiff, Int.reduceLE, List.getElem?_cons_zero, hm]
  refine ⟨hne, fun iv => hK1 _ ?_⟩
  clear hK1 K1
  refine AW.block ?_
  refine AW.loopS (fun p : List (List UInt8) × List (List UInt8) × Heap => ⟨[(0, .yl lid lver), (5, .it (f * 1000 + 5) iv)], p.2.2⟩) (fun p => (p.1 ++ p.2.1).Perm (es.map (·.1)) ∧ J iv p.1 p.2.2) (fun p => p.2.1.length) ([], es.map (·.1), _)
    (AS.le_refl _) ⟨List.Perm.refl _, h0 iv⟩ ?_
  rintro ⟨vis, rest, H1⟩ ⟨hp, hj⟩
  dsimp only at hp hj ⊢
  have hm1 := hJm _ _ _ hj
  obtain ⟨cur, hi1⟩ := hJi _ _ _ hj
  refine AW.rseq (fid := f) (mt := []) [0, 5, 7] rfl fun K1 hK1 => ?_
  simp only [go_sem, reduceIte, Nat.reduceEqDiff, Int.reduceLE, hi1, hm1, List.getElem?_cons_zero]
  refine ⟨fun hall => hK1 _ ?_, fun k v hkv hks => hK1 _ ?_⟩
  · clear hK1 K1
    have hr := no_rest hn hp fun k hk => by
      obtain ⟨q, hq, rfl⟩ := List.mem_map.1 hk
      exact hall q hq
    subst hr
    rw [List.append_nil] at hp
    refine AW.cseq rfl (fun hc => by cases hc) (fun _ => ?_)
    refine AW.exit ?_
    refine ⟨.inl rfl, ?_⟩
    simp only [go_sem, reduceIte, Nat.reduceEqDiff]
    exact ⟨_, _, Conv.refl _ _, hdone _ _ _ hj hp⟩
  · clear hK1 K1
    have hk : k ∈ es.map (·.1) := List.mem_map.2 ⟨_, hkv, rfl⟩
    obtain ⟨l1, l2, rfl, hp'⟩ := pick_key hp hk hks
    refine AW.cseq rfl (fun _ => ?_) (fun hc => by cases hc)
    refine AW.skip ?_
    refine AW.block ?_
    refine AW.rseq (fid := f) (mt := []) [0, 3, 5] rfl fun K1 hK1 => ?_
    simp only [go_sem, reduceIte, Nat.reduceEqDiff, Int.reduceLE, hget_hset, hm1, if_neg (Ne.symm hne), List.getElem?_cons_zero]
    refine ⟨v, alook_mem hn hkv, hK1 _ ?_⟩
    clear hK1 K1
    refine AW.rseq (fid := f) (mt := []) [0, 5, 13] rfl fun K1 hK1 => ?_
    simp only [go_sem, reduceIte, Nat.reduceEqDiff, Int.reduceLE]
    refine (hstep iv vis k H1 hj hk hks (by have := hp.length_eq; simp at this; omega)).mono ?_
    rintro r H2 ⟨rfl, hj2⟩
    simp only [go_sem, reduceIte, Nat.reduceEqDiff, Int.reduceLE]
    refine hK1 _ ?_
    clear hK1 K1
    refine AW.cond rfl (fun hc => by cases hc) (fun _ => ?_)
    refine AW.skip ?_
    exact ⟨(k :: vis, l1 ++ l2, H2), ⟨hp', hj2⟩, by simp, ⟨leS_get ⟨rfl, rfl, trivial⟩, fun _ _ h => h⟩⟩

/-- a range over a function, with its record named -/
theorem AW.rangeFuncL {P : Program} {N : Nat} {s : AS} {Q : Exit → AS → Prop} {g : Operand} {ps : Array Tmp} {assign body : Code} {f : FuncId} {fs cs : List HV} (id : Nat) (hg : s.ev g = some (.fn (.func f) fs cs))
    (h : ∀ fn ver (L : LoopState → Option Code → AObj), (∀ st pend, L st pend = .loop st pend fn N s.slots ps assign body) → ACall P f (fs ++ [.yl id ver] ++ cs) (hset s.heap id ver (L .ready none)) fun _ H' =>
      ∃ st pend, hget H' id = some (ver, L st pend) ∧ st ≠ .busy ∧ match pend with
        | none => Q .normal { s with heap := hset H' id ver (L .exhausted none) }
        | some c => AW P none N c Q { s with heap := hset H' id ver (L .exhausted (some c)) }) :
    AW P none N (.rangeFunc g ps assign body) Q s :=
  AW.rangeFunc id hg fun fn ver => h fn ver (fun st pend => .loop st pend fn N s.slots ps assign body) fun _ _ => rfl

set_option maxHeartbeats 1000000 in
/-- slices.AppendSeq of a map's keys to nothing -/
theorem w160 {f mid mver : Nat} {es : List (List UInt8 × HV)} (hn : (es.map (·.1)).Nodup) (hbig : es.length ≤ 1099511627776) (h2 : f * 1000 + 2 ≠ mid) (h5 : f * 1000 + 5 ≠ mid) (h11 : f * 1000 + 11 ≠ mid) (h9 : f * 1000 + 900 ≠ mid) :
    ACall Try.prog 160 [.v (.slice none 0 0), .fn (.func 127) [] [.fptr [.mp mid mver] 0]] [(mid, mver, .map es)] fun r H' => ∃ l, l.Perm (es.map (·.1)) ∧ ((l = [] ∧ r = .v (.slice none 0 0) ∧ H' = []) ∨
      ∃ id av, l ≠ [] ∧ r = .ar id av 1 0 l.length ∧ H' = [(id, av, .arr 1 9 (l.map .str))]) := by
  refine ACall.of_body Try.func160 rfl rfl (Nat.le_of_ble_eq_true rfl) ?_
  unfold Try.f160
  dsimp only [enumS, Nat.reduceAdd]
  refine AW.rseq (fid := f) (mt := [2]) [1, 2] rfl fun K hK => ?_
  simp only [go_sem, reduceIte, Nat.reduceEqDiff, Int.reduceLE, h2]
  intro bv
  refine hK _ ?_
  clear hK K
  refine AW.seq ?_
  refine AW.rseq (fid := f) (mt := [2]) [2, 6] rfl fun K hK => ?_
  simp only [go_sem, reduceIte, Nat.reduceEqDiff, Int.reduceLE]
  refine hK _ ?_
  clear hK K
  refine AW.block ?_
  have n95 : f * 1000 + 900 ≠ f * 1000 + 5 := by simp
  have n92 : f * 1000 + 900 ≠ f * 1000 + 2 := by simp
  have n911 : f * 1000 + 900 ≠ f * 1000 + 11 := by simp
  have n52 : f * 1000 + 5 ≠ f * 1000 + 2 := by simp
  have n511 : f * 1000 + 5 ≠ f * 1000 + 11 := by simp
  have n112 : f * 1000 + 11 ≠ f * 1000 + 2 := by simp
  refine AW.rangeFuncL (f * 1000 + 900) rfl fun fn lver L hL => ?_
  dsimp only [List.length_cons, List.length_nil, Nat.reduceAdd] at hL ⊢
  refine w127 (f := f) hn h5 (by rw [hget_hset, if_neg (Ne.symm h9)]; exact hget_0) (fun iv vis H => hget H mid = some (mver, .map es) ∧ (∃ cur, hget H (f * 1000 + 5) = some (iv, .iter mid mver vis cur)) ∧
    hget H (f * 1000 + 900) = some (lver, L .ready none) ∧
    ((vis = [] ∧ hget H (f * 1000 + 2) = some (bv, .arr 1 30 [.v (.slice none 0 0)])) ∨
      ∃ av, vis ≠ [] ∧ hget H (f * 1000 + 2) = some (bv, .arr 1 30 [.ar (f * 1000 + 11) av 1 0 vis.length]) ∧ hget H (f * 1000 + 11) = some (av, .arr 1 9 (vis.reverse.map .str)))) (fun _ _ _ h => h.1) (fun _ _ _ h => h.2.1) (fun iv => ?_) ?_ ?_
  · simp [hget_hset, hget, hset, h2, h5, h9, h11, Ne.symm h2, Ne.symm h5, Ne.symm h9, Ne.symm h11]
  · rintro iv vis k H1 ⟨hm, ⟨cur, hi⟩, hlp, hac⟩ hk hks hlt
    rw [hL] at hlp
    refine ⟨_, _, _, _, _, _, (by rw [hget_hset, if_neg n95]; exact hlp), rfl, by simp, fun l => ?_⟩
    dsimp only [setPs]
    refine AW.region (fid := f) (mt := [2]) [2, 5] rfl fun K hK => ?_
    simp only [go_sem, reduceIte, Nat.reduceEqDiff, Int.reduceLE]
    refine hK _ ?_
    clear hK K
    refine ⟨rfl, by rw [hget_hset, if_neg n95]; exact hlp, ?_⟩
    refine AW.block ?_
    have fin : ∀ (av : Nat) (H2 : Heap) (o : AObj), o = L .ready none → hget H2 mid = some (mver, .map es) → hget H2 (f * 1000 + 5) = some (iv, .iter mid mver (k :: vis) true) →
        hget H2 (f * 1000 + 2) = some (bv, .arr 1 30 [.ar (f * 1000 + 11) av 1 0 (vis.length + 1)]) → hget H2 (f * 1000 + 11) = some (av, .arr 1 9 ((k :: vis).reverse.map .str)) →
        HV.bool true = .bool true ∧ hget (hset H2 (f * 1000 + 900) lver o) mid = some (mver, .map es) ∧ (∃ cur, hget (hset H2 (f * 1000 + 900) lver o) (f * 1000 + 5) = some (iv, .iter mid mver (k :: vis) cur)) ∧
    hget (hset H2 (f * 1000 + 900) lver o) (f * 1000 + 900) = some (lver, L .ready none) ∧
    ((k :: vis = [] ∧ hget (hset H2 (f * 1000 + 900) lver o) (f * 1000 + 2) = some (bv, .arr 1 30 [.v (.slice none 0 0)])) ∨
      ∃ av, k :: vis ≠ [] ∧ hget (hset H2 (f * 1000 + 900) lver o) (f * 1000 + 2) = some (bv, .arr 1 30 [.ar (f * 1000 + 11) av 1 0 (k :: vis).length]) ∧ hget (hset H2 (f * 1000 + 900) lver o) (f * 1000 + 11) = some (av, .arr 1 9 ((k :: vis).reverse.map .str))) := by
      intro av H2 o ho g1 g2 g4 g5
      refine ⟨rfl, ?_, ⟨true, ?_⟩, ?_, .inr ⟨av, by simp, ?_, ?_⟩⟩
      · rw [hget_hset, if_neg (Ne.symm h9)]; exact g1
      · rw [hget_hset, if_neg (Ne.symm n95)]; exact g2
      · rw [hget_hset, if_pos rfl, ho]
      · rw [hget_hset, if_neg (Ne.symm n92)]; exact g4
      · rw [hget_hset, if_neg (Ne.symm n911)]; exact g5
    have hm2 : maxLen = 9223372036854775807 := rfl
    rcases hac with ⟨rfl, hb⟩ | ⟨av, _, hb, ha⟩
    · refine AW.region (fid := f) (mt := [2]) [2, 5] rfl fun K hK => ?_
      simp only [go_sem, reduceIte, Nat.reduceEqDiff, Int.reduceLE, hget_hset, Nat.add_left_cancel_iff, hb, List.getElem?_cons_zero, Nat.add_zero, List.length_nil, List.length_cons, Nat.zero_le, HV.one, zrep, List.replicate_succ, List.replicate_zero, List.flatten_cons, List.flatten_nil,
        List.set_cons_zero, Option.any_some, Nat.reduceAdd, Nat.reduceMul, Nat.reduceLeDiff, Nat.reduceBEq, Bool.or_false, BEq.rfl, List.take_succ_cons, List.take_zero, List.drop_zero]
      refine ⟨by simp [maxLen], fun av' => hK _ ?_⟩
      clear hK K
      refine ⟨?_, fin av' _ _ (hL _ _).symm ?_ ?_ ?_ ?_⟩
      · rw [hget_hset, if_neg n92, hget_hset, if_neg n911, hget_hset, if_pos rfl]
      · rw [hget_hset, if_neg (Ne.symm h2), hget_hset, if_neg (Ne.symm h11), hget_hset, if_neg (Ne.symm h9), hget_hset, if_neg (Ne.symm h5)]; exact hm
      · rw [hget_hset, if_neg n52, hget_hset, if_neg n511, hget_hset, if_neg (Ne.symm n95), hget_hset, if_pos rfl]
      · rw [hget_hset, if_pos rfl]; rfl
      · rw [hget_hset, if_neg n112, hget_hset, if_pos rfl]; simp
    · refine AW.region (fid := f) (mt := [2]) [2, 5] rfl fun K hK => ?_
      simp only [go_sem, reduceIte, Nat.reduceEqDiff, Int.reduceLE, hget_hset, Nat.add_left_cancel_iff, hb, ha, List.getElem?_cons_zero, Nat.add_zero, List.length_nil, List.length_cons, Nat.zero_le, HV.one, zrep, List.replicate_succ, List.replicate_zero, List.flatten_cons, List.flatten_nil,
        List.set_cons_zero, Option.any_some, Nat.reduceAdd, Nat.reduceMul, Nat.reduceLeDiff, Nat.reduceBEq, Bool.or_false, BEq.rfl, List.take_succ_cons, List.take_zero, List.drop_zero]
      have hb1 : (vis.length + 1) * 16 ≤ 140737488355328 := by clear fin hL hlp; omega
      have hb2 : vis.length + 1 ≤ maxLen := by clear fin hL hlp; omega
      refine ⟨by simp, hb1, hb2, fun av' => hK _ ?_⟩
      clear hK K
      refine ⟨?_, fin av' _ _ (hL _ _).symm ?_ ?_ ?_ ?_⟩
      · rw [hget_hset, if_neg n92, hget_hset, if_neg n911, hget_hset, if_pos rfl]
      · rw [hget_hset, if_neg (Ne.symm h2), hget_hset, if_neg (Ne.symm h11), hget_hset, if_neg (Ne.symm h9), hget_hset, if_neg (Ne.symm h5)]; exact hm
      · rw [hget_hset, if_neg n52, hget_hset, if_neg n511, hget_hset, if_neg (Ne.symm n95), hget_hset, if_pos rfl]
      · rw [hget_hset, if_pos rfl]
      · rw [hget_hset, if_neg n112, hget_hset, if_pos rfl, List.take_of_length_le (by simp)]; simp
  · rintro iv vis H1 ⟨hm, _, hlp, ⟨hv0, hb⟩ | ⟨av, hvn, hb, ha⟩⟩ hp
    · refine ⟨.ready, none, hlp, by simp, ?_⟩
      dsimp only [blockQ, thenQ]
      clear hL
      refine AW.rseq (fid := f) (mt := [2]) [4] rfl fun K hK => ?_
      simp only [go_sem, reduceIte, Nat.reduceEqDiff, Int.reduceLE, hget_hset, Nat.add_left_cancel_iff, hb, List.getElem?_cons_zero]
      refine hK _ ?_
      clear hK K
      refine AW.ret ⟨.inr rfl, ?_⟩
      simp only [go_sem, reduceIte, Nat.reduceEqDiff]
      exact ⟨_, [], Conv.drop (fun _ _ h => by cases h), [], hv0 ▸ hp, .inl ⟨rfl, rfl, rfl⟩⟩
    · refine ⟨.ready, none, hlp, by simp, ?_⟩
      dsimp only [blockQ, thenQ]
      clear hL
      refine AW.rseq (fid := f) (mt := [2]) [4] rfl fun K hK => ?_
      simp only [go_sem, reduceIte, Nat.reduceEqDiff, Int.reduceLE, hget_hset, Nat.add_left_cancel_iff, hb, List.getElem?_cons_zero]
      refine hK _ ?_
      clear hK K
      refine AW.ret ⟨.inr rfl, ?_⟩
      simp only [go_sem, reduceIte, Nat.reduceEqDiff]
      refine ⟨_, [(f * 1000 + 11, av, .arr 1 9 (vis.reverse.map .str))], Conv.drop (leH_get ⟨?_, trivial⟩), vis.reverse, (List.reverse_perm vis).trans hp, .inr ⟨_, av, by simpa using hvn, by rw [List.length_reverse], rfl⟩⟩
      rw [hget_hset, if_neg (Ne.symm n911)]; exact ha
end Go.AW

namespace Go.AW
open Go Go.Proofs

def nilS : HV := .v (.slice none 0 0)
/-- a list of texts as the code makes it: nil if there is none -/
def strsN (l : List (List UInt8)) : HV := if l = [] then nilS else strs l

set_option linter.unusedSimpArgs false
theorem w126 {f mid mver : Nat} {es : List (List UInt8 × HV)} (hn : (es.map (·.1)).Nodup) (hbig : es.length ≤ 1099511627776) (h2 : f * 1000 + 2 ≠ mid) (h5 : f * 1000 + 5 ≠ mid) (h11 : f * 1000 + 11 ≠ mid) (h9 : f * 1000 + 900 ≠ mid) :
    ACall Try.prog 126 [.fn (.func 127) [] [.fptr [.mp mid mver] 0]] [(mid, mver, .map es)] fun r H' => ∃ l, l.Perm (es.map (·.1)) ∧ ((l = [] ∧ r = .v (.slice none 0 0) ∧ H' = []) ∨
      ∃ id av, l ≠ [] ∧ r = .ar id av 1 0 l.length ∧ H' = [(id, av, .arr 1 9 (l.map .str))]) := by
  refine ACall.of_body Try.func126 rfl rfl (Nat.le_of_ble_eq_true rfl) ?_
  unfold Try.f126
  dsimp only [enumS, Nat.reduceAdd]
  refine AW.rseq (fid := f) (mt := []) [0] rfl fun K hK => ?_
  simp only [go_sem, reduceIte, Nat.reduceEqDiff, Int.reduceLE]
  refine hK _ ?_
  clear hK K
  refine AW.rseq (fid := f) (mt := []) [2] rfl fun K hK => ?_
  simp only [go_sem, reduceIte, Nat.reduceEqDiff, Int.reduceLE]
  refine (w160 hn hbig h2 h5 h11 h9).mono ?_
  rintro r H' hr
  refine hK _ ?_
  clear hK K
  refine AW.ret ⟨.inr rfl, ?_⟩
  simp only [go_sem, reduceIte, Nat.reduceEqDiff]
  exact ⟨_, _, Conv.refl _ _, hr⟩

/-- slices.Sorted of a map's keys -/
theorem w81 {f mid mver : Nat} {es : List (List UInt8 × HV)} (hn : (es.map (·.1)).Nodup) (hbig : es.length ≤ 1099511627776) (h2 : f * 1000 + 2 ≠ mid) (h5 : f * 1000 + 5 ≠ mid) (h11 : f * 1000 + 11 ≠ mid) (h9 : f * 1000 + 900 ≠ mid) :
    ACall Try.prog 81 [.fn (.func 127) [] [.fptr [.mp mid mver] 0]] [(mid, mver, .map es)] fun r H' => (es = [] ∧ r = nilS ∧ H' = []) ∨
      ∃ id av, es ≠ [] ∧ r = .ar id av 1 0 es.length ∧ H' = [(id, av, .arr 1 9 ((sortS (es.map (·.1))).map .str))] := by
  refine ACall.of_body Try.func81 rfl rfl (Nat.le_of_ble_eq_true rfl) ?_
  unfold Try.f81
  dsimp only [enumS, Nat.reduceAdd]
  refine AW.rseq (fid := f) (mt := []) [0] rfl fun K hK => ?_
  simp only [go_sem, reduceIte, Nat.reduceEqDiff, Int.reduceLE]
  refine hK _ ?_
  clear hK K
  refine AW.rseq (fid := f) (mt := []) [3] rfl fun K hK => ?_
  simp only [go_sem, reduceIte, Nat.reduceEqDiff, Int.reduceLE]
  refine (w126 hn hbig h2 h5 h11 h9).mono ?_
  rintro r H' ⟨l, hp, ⟨rfl, rfl, rfl⟩ | ⟨id, av, hln, rfl, rfl⟩⟩
  · refine hK _ ?_
    clear hK K
    have he : es = [] := by
      have := hp.length_eq
      simp only [List.length_nil, List.length_map] at this
      exact List.eq_nil_of_length_eq_zero this.symm
    refine AW.rseq (fid := f) (mt := []) [3] rfl fun K hK => ?_
    simp only [go_sem, reduceIte, Nat.reduceEqDiff, Int.reduceLE]
    refine w45n ?_
    refine hK _ ?_
    clear hK K
    refine AW.rseq (fid := f) (mt := []) [2] rfl fun K hK => ?_
    simp only [go_sem, reduceIte, Nat.reduceEqDiff, Int.reduceLE]
    refine hK _ ?_
    clear hK K
    refine AW.ret ⟨.inr rfl, ?_⟩
    simp only [go_sem, reduceIte, Nat.reduceEqDiff]
    exact ⟨_, _, Conv.refl _ _, .inl ⟨he, rfl, rfl⟩⟩
  · refine hK _ ?_
    clear hK K
    have hlen := hp.length_eq
    rw [List.length_map] at hlen
    refine AW.rseq (fid := f) (mt := []) [3] rfl fun K hK => ?_
    simp only [go_sem, reduceIte, Nat.reduceEqDiff, Int.reduceLE]
    refine w45 hget_0 (by omega) ?_
    simp only [go_sem, reduceIte, Nat.reduceEqDiff, Int.reduceLE]
    refine hK _ ?_
    clear hK K
    refine AW.rseq (fid := f) (mt := []) [2] rfl fun K hK => ?_
    simp only [go_sem, reduceIte, Nat.reduceEqDiff, Int.reduceLE]
    refine hK _ ?_
    clear hK K
    refine AW.ret ⟨.inr rfl, ?_⟩
    simp only [go_sem, reduceIte, Nat.reduceEqDiff]
    exact ⟨_, _, Conv.refl _ _, .inr ⟨id, av, by rintro rfl; exact hln (List.eq_nil_of_length_eq_zero hlen), by rw [hlen], by rw [sortS_perm hp]⟩⟩

/-- maps.Keys -/
theorem w82 {id ver : Nat} {H : Heap} {K : HV → Heap → Prop} (hK : K (.fn (.func 127) [] [.fptr [.mp id ver] 0]) H) : ACall Try.prog 82 [.mp id ver] H K := by
  refine ACall.of_body Try.func82 rfl rfl (Nat.le_of_ble_eq_true rfl) ?_
  unfold Try.f82
  dsimp only [enumS, Nat.reduceAdd]
  refine AW.rseq (fid := 82) (mt := []) [1] rfl fun K1 hK1 => ?_
  simp only [go_sem, reduceIte, Nat.reduceEqDiff, Int.reduceLE, HV.one]
  refine hK1 _ ?_
  clear hK1 K1
  refine AW.rseq (fid := 82) (mt := []) [2] rfl fun K1 hK1 => ?_
  simp only [go_sem, reduceIte, Nat.reduceEqDiff, Int.reduceLE]
  refine hK1 _ ?_
  clear hK1 K1
  refine AW.ret ⟨.inr rfl, ?_⟩
  simp only [go_sem, reduceIte, Nat.reduceEqDiff]
  exact ⟨_, _, Conv.refl _ _, hK⟩

def wordsR (stp : List Int → UInt8 → List Int) (cs : List UInt8) (set : List Int) (n : Nat) : HV :=
  if okLvl stp cs set n = true then .tup [strsN (sortS ((lvl stp cs set n).map (·.1))), .int .i64 0] else .tup [nilS, .int .i64 4]

end Go.AW

/- language.list and what is made of its maps, as contracts. -/
namespace Go.AW
open Go Go.Proofs
set_option linter.unusedVariables false

theorem list_steps {g : TLabelsStatesEdges} {set : List Int} (h : StepsOk g set) : ∃ A : List Int → Prop, A set ∧ (∀ a c, A a → c ∈ letters.take g.1.toNat → A (stpM g a c)) ∧
    ∀ a c, A a → c ∈ letters.take g.1.toNat → Pure Try.prog 125 [HV.agg [HV.int .i64 g.1, HV.int .i64 g.2.1, slE eFromLabelTo g.2.2], ints a, .int .u8 c.toNat] (· = ints (stpM g a c)) := by
  obtain ⟨A, h0, hs⟩ := h
  refine ⟨A, h0, fun a c ha hc => ?_, fun a c ha hc => ?_⟩
  · obtain ⟨b, hb, hA⟩ := hs a c ha hc
    simp only [stpM, hb, Option.getD_some]
    exact hA
  · obtain ⟨b, hb, hA⟩ := hs a c ha hc
    simp only [stpM, hb, Option.getD_some]
    exact w_language_step hb

theorem c_listT {g : TLabelsStatesEdges} {set : List Int} {n : Int} {x : List WS × Bool} (h : m_language_list g set n = some x) (hx : x.2 = true) {K : HV → Heap → Prop}
    (hK : ∀ id ver es, es.Perm (x.1.map ent) ∧ (x.1.map (·.1)).Nodup ∧ x.1.length ≤ 1099511627776 → K (.tup [.mp id ver, .bool true]) [(id, ver, .map es)]) : ACall Try.prog 79 [HV.agg [HV.int .i64 g.1, HV.int .i64 g.2.1, slE eFromLabelTo g.2.2], slE eInt set, .int .i64 n] [] K := by
  unfold m_language_list at h
  split at h
  · rename_i hc
    obtain ⟨h1, h2, h3, h4⟩ := hc
    cases h
    split at hx
    · rename_i hok
      rw [if_pos hok] at hK
      obtain ⟨A, hA0, hA, hstep⟩ := list_steps h4
      obtain ⟨gl, gs, ge⟩ := g
      try dsimp only at h1
      try dsimp only at h2
      try dsimp only at hA
      try dsimp only at hstep
      try dsimp only at hok
      try dsimp only
      try dsimp only at hK
      obtain ⟨L, rfl⟩ := Int.eq_ofNat_of_zero_le h1
      obtain ⟨m, rfl⟩ := Int.eq_ofNat_of_zero_le h3
      simp only [Int.toNat_natCast] at hok hK hA hstep
      refine (w79 (L := L) (n := m) (gS := HV.int .i64 gs) (gE := slE eFromLabelTo ge) (by omega) rfl rfl hA0 hA hstep).mono ?_
      rintro r H' (⟨hok', id, ver, es, rfl, rfl, hes⟩ | ⟨j, j1, j2, j3, rfl, rfl⟩)
      · refine hK id ver es ⟨hes, lvl_keys (letters_nodup.sublist (List.take_sublist _ _)) m, ?_⟩
        cases m with
        | zero => simp only [lvl]; split <;> simp
        | succ m => have := hok' (m + 1) (by omega) (Nat.le_refl _); omega
      · have := okLvl_iff.1 hok j j1 j2
        omega
    · cases hx
  · cases h

theorem c_listF {g : TLabelsStatesEdges} {set : List Int} {n : Int} {x : List WS × Bool} (h : m_language_list g set n = some x) (hx : ¬ x.2 = true) {K : HV → Heap → Prop}
    (hK : K (.tup [.v (.map none), .bool false]) []) : ACall Try.prog 79 [HV.agg [HV.int .i64 g.1, HV.int .i64 g.2.1, slE eFromLabelTo g.2.2], slE eInt set, .int .i64 n] [] K := by
  unfold m_language_list at h
  split at h
  · rename_i hc
    obtain ⟨h1, h2, h3, h4⟩ := hc
    cases h
    split at hx
    · exact absurd rfl hx
    · rename_i hok
      obtain ⟨A, hA0, hA, hstep⟩ := list_steps h4
      obtain ⟨gl, gs, ge⟩ := g
      try dsimp only at h1
      try dsimp only at h2
      try dsimp only at hA
      try dsimp only at hstep
      try dsimp only at hok
      try dsimp only
      obtain ⟨L, rfl⟩ := Int.eq_ofNat_of_zero_le h1
      obtain ⟨m, rfl⟩ := Int.eq_ofNat_of_zero_le h3
      simp only [Int.toNat_natCast] at hok hA hstep
      refine (w79 (L := L) (n := m) (gS := HV.int .i64 gs) (gE := slE eFromLabelTo ge) (by omega) rfl rfl hA0 hA hstep).mono ?_
      rintro r H' (⟨hok', id, ver, es, rfl, rfl, hes⟩ | ⟨j, j1, j2, j3, rfl, rfl⟩)
      · exact absurd (okLvl_iff.2 hok') hok
      · exact hK
  · cases h

/-- slices.Sorted(maps.Keys(m)) -/
theorem c_sortedKeys {id ver : Nat} {es : List (List UInt8 × HV)} {l : List WS} (hes : es.Perm (l.map ent) ∧ (l.map (·.1)).Nodup ∧ l.length ≤ 1099511627776) {K : HV → Heap → Prop} (hK : K (slE eStr (sortS (l.map (·.1)))) []) :
    ACall Try.prog 81 [.fn (.func 127) [] [.fptr [.mp id ver] 0]] [(id, ver, .map es)] K := by
  obtain ⟨hp, hn, hb⟩ := hes
  have hlen : es.length = l.length := by rw [hp.length_eq, List.length_map]
  have hsk : sortS (es.map (·.1)) = sortS (l.map (·.1)) := by
    refine sortS_perm ?_
    have := hp.map (·.1)
    rw [List.map_map] at this
    exact this
  refine (w81 (f := id + 1) (perm_keys hp hn) (by omega) (by omega) (by omega) (by omega) (by omega)).conv' ?_
  rintro r H' (⟨he, rfl, rfl⟩ | ⟨id', av, hen, rfl, rfl⟩)
  · have hl : l = [] := List.eq_nil_of_length_eq_zero (by rw [← hlen, he]; rfl)
    subst hl
    have e0 : sortS (([] : List WS).map (·.1)) = [] := List.eq_nil_of_length_eq_zero (by rw [sortS_len]; rfl)
    rw [e0] at hK
    exact ⟨slE eStr [], [], Conv.le (.nil 1), hK⟩
  · refine ⟨_, [], Conv.all 2, ?_⟩
    have e : es.length = (sortS (es.map (·.1))).length := by rw [sortS_len, List.length_map]
    rw [e]
    have hf := frz_slE eStr (D := [(id', av, .arr 1 9 ((sortS (es.map (·.1))).map .str))]) (l := sortS (es.map (·.1))) hget_0 (fun _ _ => rfl)
    have hk2 := hK
    rw [← hsk, ← hf] at hk2
    exact hk2
end Go.AW

/- Renaming the versions of an abstract state: what an evaluation of closed code may count, and how the count is read in a run. -/
namespace Go.AW
open Go

mutual
def HV.ren (ρ : Nat → Nat) : HV → HV
  | .int k n => .int k n
  | .bool b => .bool b
  | .str l => .str l
  | .v x => .v x
  | .agg cs => .agg (renL ρ cs)
  | .tup cs => .tup (renL ρ cs)
  | .sl k n cs => .sl k n (renL ρ cs)
  | .ar id ver k off n => .ar id (ρ ver) k off n
  | .ptr id ver off => .ptr id (ρ ver) off
  | .fptr cs off => .fptr (renL ρ cs) off
  | .fn f fs cs => .fn f (renL ρ fs) (renL ρ cs)
  | .mp id ver => .mp id (ρ ver)
  | .yl id ver => .yl id (ρ ver)
  | .it id ver => .it id (ρ ver)
def renL (ρ : Nat → Nat) : List HV → List HV
  | [] => []
  | c :: cs => c.ren ρ :: renL ρ cs
end

theorem renL_map (ρ : Nat → Nat) : ∀ cs, renL ρ cs = cs.map (HV.ren ρ)
  | [] => by simp [renL]
  | c :: cs => by simp [renL, renL_map ρ cs]

def renS (ρ : Nat → Nat) : List (Nat × HV) → List (Nat × HV)
  | [] => []
  | (t, h) :: l => (t, h.ren ρ) :: renS ρ l

def renE (ρ : Nat → Nat) : List (List UInt8 × HV) → List (List UInt8 × HV)
  | [] => []
  | (t, h) :: l => (t, h.ren ρ) :: renE ρ l

def AObj.ren (ρ : Nat → Nat) : AObj → AObj
  | .arr k e cs => .arr k e (renL ρ cs)
  | .map es => .map (renE ρ es)
  | .iter mid mver seen cur => .iter mid (ρ mver) seen cur
  | .loop st pend f n snap ps assign body => .loop st pend (ρ f) n (renS ρ snap) ps assign body

def renH (ρ : Nat → Nat) : Heap → Heap
  | [] => []
  | (i, v, o) :: l => (i, ρ v, o.ren ρ) :: renH ρ l

def AS.ren (ρ : Nat → Nat) (s : AS) : AS := ⟨renS ρ s.slots, renH ρ s.heap⟩

theorem sget_ren (ρ : Nat → Nat) : ∀ (l : List (Nat × HV)) (t : Nat), sget (renS ρ l) t = (sget l t).map (HV.ren ρ)
  | [], t => rfl
  | (i, h) :: l, t => by
    simp only [renS, sget]
    split
    · rfl
    · exact sget_ren ρ l t

theorem hget_ren (ρ : Nat → Nat) : ∀ (l : Heap) (t : Nat), hget (renH ρ l) t = (hget l t).map fun x => (ρ x.1, x.2.ren ρ)
  | [], t => rfl
  | (i, v, o) :: l, t => by
    simp only [renH, hget]
    split
    · rfl
    · exact hget_ren ρ l t

theorem renS_set (ρ : Nat → Nat) : ∀ (l : List (Nat × HV)) (t : Nat) (h : HV), renS ρ (sset l t h) = sset (renS ρ l) t (h.ren ρ)
  | [], t, h => rfl
  | (i, g) :: l, t, h => by
    simp only [renS, sset]
    split
    · rfl
    · simp only [renS, renS_set ρ l t h]

theorem renH_set (ρ : Nat → Nat) : ∀ (l : Heap) (t v : Nat) (o : AObj), renH ρ (hset l t v o) = hset (renH ρ l) t (ρ v) (o.ren ρ)
  | [], t, v, o => rfl
  | (i, w, p) :: l, t, v, o => by
    simp only [renH, hset]
    split
    · rfl
    · simp only [renH, renH_set ρ l t v o]

theorem ren_put (ρ : Nat → Nat) (s : AS) (d : Option Tmp) (h : HV) : (s.put d h).ren ρ = (s.ren ρ).put d (h.ren ρ) := by
  cases d with
  | none => rfl
  | some t => simp [AS.put, AS.ren, renS_set]

theorem constHV_ren (ρ : Nat → Nat) (v : Value) : (constHV v).map (HV.ren ρ) = constHV v := by
  cases v with
  | int k n => simp only [constHV]; split <;> rfl
  | string s => simp only [constHV]; split <;> rfl
  | _ => rfl

theorem ev_ren (ρ : Nat → Nat) (s : AS) (x : Operand) : (s.ren ρ).ev x = (s.ev x).map (HV.ren ρ) := by
  cases x with
  | tmp t => exact sget_ren ρ s.slots t
  | const v => exact (constHV_ren ρ v).symm
  | global g => rfl
  | func f => rfl

theorem evL_ren (ρ : Nat → Nat) (s : AS) : ∀ xs : List Operand, xs.mapM (s.ren ρ).ev = (xs.mapM s.ev).map (renL ρ)
  | [] => rfl
  | x :: xs => by
    simp only [List.mapM_cons, Option.pure_def, Option.bind_eq_bind, ev_ren, evL_ren ρ s xs]
    cases s.ev x with
    | none => rfl
    | some h => cases xs.mapM s.ev <;> rfl

theorem cells_ren (ρ : Nat → Nat) (h : HV) : (h.ren ρ).cells? = h.cells?.map (renL ρ) := by
  cases h with
  | v x => simp only [HV.ren, HV.cells?]; split <;> rfl
  | _ => rfl

theorem renL_len (ρ : Nat → Nat) (cs : List HV) : (renL ρ cs).length = cs.length := by simp [renL_map]
theorem renL_get (ρ : Nat → Nat) (cs : List HV) (i : Nat) : (renL ρ cs)[i]? = cs[i]?.map (HV.ren ρ) := by simp [renL_map]
theorem renL_drop (ρ : Nat → Nat) (cs : List HV) (i : Nat) : renL ρ (cs.drop i) = (renL ρ cs).drop i := by simp [renL_map]
theorem renL_take (ρ : Nat → Nat) (cs : List HV) (i : Nat) : renL ρ (cs.take i) = (renL ρ cs).take i := by simp [renL_map]
theorem renL_append (ρ : Nat → Nat) (cs ds : List HV) : renL ρ (cs ++ ds) = renL ρ cs ++ renL ρ ds := by simp [renL_map]
theorem renL_set (ρ : Nat → Nat) (cs : List HV) (i : Nat) (c : HV) : renL ρ (cs.set i c) = (renL ρ cs).set i (c.ren ρ) := by simp [renL_map, List.map_set]
theorem renL_splice (ρ : Nat → Nat) (xs : List HV) (off : Nat) (cs : List HV) : renL ρ (splice xs off cs) = splice (renL ρ xs) off (renL ρ cs) := by
  match cs with
  | [] => simp [splice, renL, renL_append, renL_take, renL_drop]
  | [c] => simp [splice, renL, renL_set]
  | c :: d :: cs => simp [splice, renL, renL_append, renL_take, renL_drop, renL_len]

/-! versions below n -/
mutual
def HV.sc (n : Nat) : HV → Bool
  | .agg cs | .tup cs | .sl _ _ cs | .fptr cs _ => scL n cs
  | .ar _ ver _ _ _ | .ptr _ ver _ | .mp _ ver | .yl _ ver | .it _ ver => Nat.blt ver n
  | .fn _ fs cs => scL n fs && scL n cs
  | _ => true
def scL (n : Nat) : List HV → Bool
  | [] => true
  | c :: cs => c.sc n && scL n cs
end
def scS (n : Nat) : List (Nat × HV) → Bool
  | [] => true
  | (_, h) :: l => h.sc n && scS n l
def scE (n : Nat) : List (List UInt8 × HV) → Bool
  | [] => true
  | (_, h) :: l => h.sc n && scE n l
def AObj.sc (n : Nat) : AObj → Bool
  | .arr _ _ cs => scL n cs
  | .map es => scE n es
  | .iter _ mver _ _ => Nat.blt mver n
  | .loop _ _ f _ snap _ _ _ => Nat.blt f n && scS n snap
def scH (n : Nat) : Heap → Bool
  | [] => true
  | (i, v, o) :: l => (Nat.blt i n && Nat.blt v n) && o.sc n && scH n l
def AS.sc (n : Nat) (s : AS) : Bool := scS n s.slots && scH n s.heap

def Agree (n : Nat) (ρ ρ' : Nat → Nat) : Prop := ∀ v, v < n → ρ v = ρ' v
theorem Agree.refl (n : Nat) (ρ : Nat → Nat) : Agree n ρ ρ := fun _ _ => rfl
theorem Agree.trans {n m : Nat} {ρ ρ' ρ'' : Nat → Nat} (h : Agree n ρ ρ') (hn : n ≤ m) (h' : Agree m ρ' ρ'') : Agree n ρ ρ'' := fun v hv => (h v hv).trans (h' v (by omega))
def upd (ρ : Nat → Nat) (n v : Nat) : Nat → Nat := fun x => if x = n then v else ρ x
theorem Agree.upd (n v : Nat) (ρ : Nat → Nat) : Agree n ρ (upd ρ n v) := fun x hx => by simp only [AW.upd]; rw [if_neg (by omega)]
theorem upd_at (ρ : Nat → Nat) (n v : Nat) : upd ρ n v n = v := by simp [AW.upd]

section
variable {n m : Nat} {ρ ρ' : Nat → Nat}
theorem blt_lt {a b : Nat} (h : Nat.blt a b = true) : a < b := by simpa [Nat.blt_eq] using h

mutual
theorem HV.ren_agree (ha : Agree n ρ ρ') : ∀ h : HV, h.sc n = true → h.ren ρ = h.ren ρ'
  | .int _ _, _ => rfl
  | .bool _, _ => rfl
  | .str _, _ => rfl
  | .v _, _ => rfl
  | .agg cs, h => congrArg HV.agg (renL_agree ha cs h)
  | .tup cs, h => congrArg HV.tup (renL_agree ha cs h)
  | .sl k m cs, h => congrArg (HV.sl k m) (renL_agree ha cs h)
  | .ar id ver k off m, h => by simp only [HV.ren]; rw [ha ver (blt_lt h)]
  | .ptr id ver off, h => by simp only [HV.ren]; rw [ha ver (blt_lt h)]
  | .fptr cs off, h => congrArg (fun x => HV.fptr x off) (renL_agree ha cs h)
  | .fn f fs cs, h => by
    simp only [HV.sc, Bool.and_eq_true] at h
    simp only [HV.ren]
    rw [renL_agree ha fs h.1, renL_agree ha cs h.2]
  | .mp id ver, h => by simp only [HV.ren]; rw [ha ver (blt_lt h)]
  | .yl id ver, h => by simp only [HV.ren]; rw [ha ver (blt_lt h)]
  | .it id ver, h => by simp only [HV.ren]; rw [ha ver (blt_lt h)]
theorem renL_agree (ha : Agree n ρ ρ') : ∀ cs : List HV, scL n cs = true → renL ρ cs = renL ρ' cs
  | [], _ => rfl
  | c :: cs, h => by
    simp only [scL, Bool.and_eq_true] at h
    simp only [renL]
    rw [HV.ren_agree ha c h.1, renL_agree ha cs h.2]
end
theorem renS_agree (ha : Agree n ρ ρ') : ∀ l, scS n l = true → renS ρ l = renS ρ' l
  | [], _ => rfl
  | (_, c) :: cs, h => by
    simp only [scS, Bool.and_eq_true] at h
    simp only [renS]
    rw [HV.ren_agree ha c h.1, renS_agree ha cs h.2]
theorem renE_agree (ha : Agree n ρ ρ') : ∀ l, scE n l = true → renE ρ l = renE ρ' l
  | [], _ => rfl
  | (_, c) :: cs, h => by
    simp only [scE, Bool.and_eq_true] at h
    simp only [renE]
    rw [HV.ren_agree ha c h.1, renE_agree ha cs h.2]
theorem AObj.ren_agree (ha : Agree n ρ ρ') : ∀ o : AObj, o.sc n = true → o.ren ρ = o.ren ρ'
  | .arr k e cs, h => congrArg (AObj.arr k e) (renL_agree ha cs h)
  | .map es, h => congrArg AObj.map (renE_agree ha es h)
  | .iter mid mver seen cur, h => by simp only [AObj.ren]; rw [ha mver (blt_lt h)]
  | .loop st pend f n' snap ps a b, h => by
    simp only [AObj.sc, Bool.and_eq_true] at h
    simp only [AObj.ren]; rw [ha f (blt_lt h.1), renS_agree ha snap h.2]
theorem renH_agree (ha : Agree n ρ ρ') : ∀ l, scH n l = true → renH ρ l = renH ρ' l
  | [], _ => rfl
  | (i, v, o) :: cs, h => by
    simp only [scH, Bool.and_eq_true] at h
    simp only [renH]
    rw [ha v (blt_lt h.1.1.2), AObj.ren_agree ha o h.1.2, renH_agree ha cs h.2]
theorem AS.ren_agree (ha : Agree n ρ ρ') (s : AS) (h : s.sc n = true) : s.ren ρ = s.ren ρ' := by
  simp only [AS.sc, Bool.and_eq_true] at h
  simp only [AS.ren]
  rw [renS_agree ha _ h.1, renH_agree ha _ h.2]

theorem blt_mono {a : Nat} (hm : n ≤ m) (h : Nat.blt a n = true) : Nat.blt a m = true := by
  have := blt_lt h
  simp [Nat.blt_eq]; omega
mutual
theorem HV.sc_mono (hm : n ≤ m) : ∀ h : HV, h.sc n = true → h.sc m = true
  | .int _ _, _ => rfl
  | .bool _, _ => rfl
  | .str _, _ => rfl
  | .v _, _ => rfl
  | .agg cs, h => scL_mono hm cs h
  | .tup cs, h => scL_mono hm cs h
  | .sl k _ cs, h => scL_mono hm cs h
  | .ar id ver k off _, h => blt_mono hm h
  | .ptr id ver off, h => blt_mono hm h
  | .fptr cs off, h => scL_mono hm cs h
  | .fn f fs cs, h => by
    simp only [HV.sc, Bool.and_eq_true] at h ⊢
    exact ⟨scL_mono hm fs h.1, scL_mono hm cs h.2⟩
  | .mp id ver, h => blt_mono hm h
  | .yl id ver, h => blt_mono hm h
  | .it id ver, h => blt_mono hm h
theorem scL_mono (hm : n ≤ m) : ∀ cs : List HV, scL n cs = true → scL m cs = true
  | [], _ => rfl
  | c :: cs, h => by
    simp only [scL, Bool.and_eq_true] at h ⊢
    exact ⟨HV.sc_mono hm c h.1, scL_mono hm cs h.2⟩
end
theorem scS_mono (hm : n ≤ m) : ∀ l, scS n l = true → scS m l = true
  | [], _ => rfl
  | (_, c) :: cs, h => by
    simp only [scS, Bool.and_eq_true] at h ⊢
    exact ⟨HV.sc_mono hm c h.1, scS_mono hm cs h.2⟩
theorem scE_mono (hm : n ≤ m) : ∀ l, scE n l = true → scE m l = true
  | [], _ => rfl
  | (_, c) :: cs, h => by
    simp only [scE, Bool.and_eq_true] at h ⊢
    exact ⟨HV.sc_mono hm c h.1, scE_mono hm cs h.2⟩
theorem AObj.sc_mono (hm : n ≤ m) : ∀ o : AObj, o.sc n = true → o.sc m = true
  | .arr k e cs, h => scL_mono hm cs h
  | .map es, h => scE_mono hm es h
  | .iter mid mver seen cur, h => blt_mono hm h
  | .loop st pend f n' snap ps a b, h => by
    simp only [AObj.sc, Bool.and_eq_true] at h ⊢
    exact ⟨blt_mono hm h.1, scS_mono hm snap h.2⟩
theorem scH_mono (hm : n ≤ m) : ∀ l, scH n l = true → scH m l = true
  | [], _ => rfl
  | (i, v, o) :: cs, h => by
    simp only [scH, Bool.and_eq_true] at h ⊢
    exact ⟨⟨⟨blt_mono hm h.1.1.1, blt_mono hm h.1.1.2⟩, AObj.sc_mono hm o h.1.2⟩, scH_mono hm cs h.2⟩
theorem AS.sc_mono (hm : n ≤ m) (s : AS) (h : s.sc n = true) : s.sc m = true := by
  simp only [AS.sc, Bool.and_eq_true] at h ⊢
  exact ⟨scS_mono hm _ h.1, scH_mono hm _ h.2⟩

theorem scS_set : ∀ (l : List (Nat × HV)) (t : Nat) (h : HV), scS n l = true → h.sc n = true → scS n (sset l t h) = true
  | [], t, h, _, hh => by simp [sset, scS, hh]
  | (i, g) :: l, t, h, hl, hh => by
    simp only [scS, Bool.and_eq_true] at hl
    simp only [sset]
    split
    · simp [scS, hh, hl.2]
    · simp only [scS, Bool.and_eq_true]
      exact ⟨hl.1, scS_set l t h hl.2 hh⟩
theorem scH_set : ∀ (l : Heap) (t v : Nat) (o : AObj), scH n l = true → t < n → v < n → o.sc n = true → scH n (hset l t v o) = true
  | [], t, v, o, _, ht, hv, hh => by simp [hset, scH, hh, Nat.blt_eq, hv, ht]
  | (i, w, g) :: l, t, v, o, hl, ht, hv, hh => by
    simp only [scH, Bool.and_eq_true] at hl
    simp only [hset]
    split
    · rename_i e
      subst e
      simp [scH, hh, hl.2, Nat.blt_eq, hv, ht]
    · simp only [scH, Bool.and_eq_true]
      exact ⟨hl.1, scH_set l t v o hl.2 ht hv hh⟩
theorem sc_put {s : AS} {d : Option Tmp} {h : HV} (hs : s.sc n = true) (hh : h.sc n = true) : (s.put d h).sc n = true := by
  cases d with
  | none => exact hs
  | some t =>
    simp only [AS.sc, Bool.and_eq_true] at hs
    simp only [AS.put, AS.sc, Bool.and_eq_true]
    exact ⟨scS_set _ _ _ hs.1 hh, hs.2⟩
theorem sc_heap {s : AS} {id v : Nat} {o : AObj} (hs : s.sc n = true) (ht : id < n) (hv : v < n) (hh : o.sc n = true) : ({ s with heap := hset s.heap id v o } : AS).sc n = true := by
  simp only [AS.sc, Bool.and_eq_true] at hs ⊢
  exact ⟨hs.1, scH_set _ _ _ _ hs.2 ht hv hh⟩
theorem sc_get {l : List (Nat × HV)} {t : Nat} {h : HV} (hl : scS n l = true) (hg : sget l t = some h) : h.sc n = true := by
  induction l with
  | nil => cases hg
  | cons x l ih =>
    obtain ⟨i, g⟩ := x
    simp only [scS, Bool.and_eq_true] at hl
    simp only [sget] at hg
    split at hg
    · cases hg; exact hl.1
    · exact ih hl.2 hg
theorem sch_get {l : Heap} {id v : Nat} {o : AObj} (hl : scH n l = true) (hg : hget l id = some (v, o)) : (id < n ∧ v < n) ∧ o.sc n = true := by
  induction l with
  | nil => cases hg
  | cons x l ih =>
    obtain ⟨i, w, g⟩ := x
    simp only [scH, Bool.and_eq_true] at hl
    simp only [hget] at hg
    split at hg
    · rename_i e; subst e; cases hg; exact ⟨⟨blt_lt hl.1.1.1, blt_lt hl.1.1.2⟩, hl.1.2⟩
    · exact ih hl.2 hg
end
end Go.AW

/- The look-ups of the evaluator, by recursors: the kernel evaluates them an order of magnitude faster. -/
namespace Go.AW
open Go

noncomputable def sgetR (l : List (Nat × HV)) : Nat → Option HV :=
  List.rec (motive := fun _ => Nat → Option HV) (fun _ => none) (fun p _ ih t => Bool.rec (motive := fun _ => Option HV) (ih t) (some p.2) (Nat.beq t p.1)) l
noncomputable def ssetR (l : List (Nat × HV)) : Nat → HV → List (Nat × HV) :=
  List.rec (motive := fun _ => Nat → HV → List (Nat × HV)) (fun t v => [(t, v)]) (fun p l ih t v => Bool.rec (motive := fun _ => List (Nat × HV)) (p :: ih t v) ((p.1, v) :: l) (Nat.beq t p.1)) l
noncomputable def hgetR (l : Heap) : Nat → Option (Nat × AObj) :=
  List.rec (motive := fun _ => Nat → Option (Nat × AObj)) (fun _ => none) (fun p _ ih t => Bool.rec (motive := fun _ => Option (Nat × AObj)) (ih t) (some (p.2.1, p.2.2)) (Nat.beq t p.1)) l
noncomputable def hsetR (l : Heap) : Nat → Nat → AObj → Heap :=
  List.rec (motive := fun _ => Nat → Nat → AObj → Heap) (fun t v o => [(t, v, o)]) (fun p l ih t v o => Bool.rec (motive := fun _ => Heap) (p :: ih t v o) ((p.1, v, o) :: l) (Nat.beq t p.1)) l

theorem beq_if {α : Type} (a b : Nat) (x y : α) : Bool.rec (motive := fun _ => α) y x (Nat.beq a b) = if a = b then x else y := by
  by_cases h : a = b
  · subst h
    rw [if_pos rfl, Nat.beq_refl]
  · rw [if_neg h]
    have : Nat.beq a b = false := by
      cases hb : Nat.beq a b with
      | false => rfl
      | true => exact absurd (Nat.eq_of_beq_eq_true hb) h
    rw [this]

theorem sgetR_eq : sgetR = sget := by
  funext l
  induction l with
  | nil => rfl
  | cons p l ih =>
    funext t
    obtain ⟨i, v⟩ := p
    show Bool.rec (motive := fun _ => Option HV) (sgetR l t) (some v) (Nat.beq t i) = _
    rw [beq_if, ih]
    rfl
theorem ssetR_eq : ssetR = sset := by
  funext l
  induction l with
  | nil => rfl
  | cons p l ih =>
    funext t v
    obtain ⟨i, u⟩ := p
    show Bool.rec (motive := fun _ => List (Nat × HV)) ((i, u) :: ssetR l t v) ((i, v) :: l) (Nat.beq t i) = _
    rw [beq_if, ih]
    rfl
theorem hgetR_eq : hgetR = hget := by
  funext l
  induction l with
  | nil => rfl
  | cons p l ih =>
    funext t
    obtain ⟨i, v, o⟩ := p
    show Bool.rec (motive := fun _ => Option (Nat × AObj)) (hgetR l t) (some (v, o)) (Nat.beq t i) = _
    rw [beq_if, ih]
    rfl
theorem hsetR_eq : hsetR = hset := by
  funext l
  induction l with
  | nil => rfl
  | cons p l ih =>
    funext t v o
    obtain ⟨i, u, q⟩ := p
    show Bool.rec (motive := fun _ => Heap) ((i, u, q) :: hsetR l t v o) ((i, v, o) :: l) (Nat.beq t i) = _
    rw [beq_if, ih]
    rfl

noncomputable def AS.evR (s : AS) (x : Operand) : Option HV := match x with
  | .tmp t => sgetR s.slots t
  | .const v => constHV v
  | .global g => some (.v (.pointer (some ⟨g, 0, none⟩)))
  | .func f => some (.fn (.func f) [] [])
theorem evR_eq : AS.evR = AS.ev := by
  funext s x
  cases x with
  | tmp t => show sgetR s.slots t = sget s.slots t; rw [sgetR_eq]
  | const v => rfl
  | global g => rfl
  | func f => rfl

noncomputable def AS.putR (s : AS) (d : Option Tmp) (h : HV) : AS := match d with
  | some t => { s with slots := ssetR s.slots t h }
  | none => s
theorem putR_eq : AS.putR = AS.put := by
  funext s d h
  cases d with
  | none => rfl
  | some t => show ({ s with slots := ssetR s.slots t h } : AS) = { s with slots := sset s.slots t h }; rw [ssetR_eq]

noncomputable def aslR (s : AS) (lo : Option Operand) (d : Int) : Option Int := match lo with
  | none => some d
  | some x => match s.evR x with
    | some (.int _ n) => some n
    | _ => none
theorem aslR_eq : aslR = asl := by
  funext s lo d
  unfold aslR asl
  rw [evR_eq]
  rfl

noncomputable def apartsR (s : AS) (ps : List (Nat × Operand)) : Option (List (Nat × HV)) := ps.mapM fun p => (s.evR p.2).map fun h => (p.1, h)
theorem apartsR_eq : apartsR = aparts := by
  funext s ps
  unfold apartsR aparts
  rw [evR_eq]

/-- the slots that are kept, laid out anew -/
def keepL (l : List (Nat × HV)) : List Nat → List (Nat × HV)
  | [] => []
  | t :: ts => match sget l t with
    | some v => (t, v) :: keepL l ts
    | none => keepL l ts
noncomputable def keepK {α : Type} (l : List (Nat × HV)) (ks : List Nat) : (List (Nat × HV) → α) → α :=
  List.rec (motive := fun _ => (List (Nat × HV) → α) → α) (fun k => k []) (fun t _ ih k => match sgetR l t with
    | some v => ih (fun l' => k ((t, v) :: l'))
    | none => ih k) ks
theorem keepK_eq {α : Type} (l : List (Nat × HV)) : ∀ (ks : List Nat) (k : List (Nat × HV) → α), keepK l ks k = k (keepL l ks)
  | [], _ => rfl
  | t :: ts, k => by
    show (match sgetR l t with
      | some v => keepK l ts (fun l' => k ((t, v) :: l'))
      | none => keepK l ts k) = _
    rw [sgetR_eq]
    simp only [keepL]
    cases sget l t with
    | none => exact keepK_eq l ts k
    | some v => exact keepK_eq l ts _

theorem keepL_get {l : List (Nat × HV)} : ∀ {ks : List Nat} {t : Nat} {h : HV}, sget (keepL l ks) t = some h → sget l t = some h
  | [], _, _, h => by cases h
  | k :: ks, t, g, h => by
    simp only [keepL] at h
    cases hk : sget l k with
    | none => rw [hk] at h; exact keepL_get h
    | some v =>
      rw [hk] at h
      simp only [sget] at h
      split at h
      · rename_i e
        subst e
        rw [hk]
        exact h
      · exact keepL_get h
theorem keepL_sc {n : Nat} {l : List (Nat × HV)} (hl : scS n l = true) : ∀ ks : List Nat, scS n (keepL l ks) = true
  | [] => rfl
  | k :: ks => by
    simp only [keepL]
    cases hk : sget l k with
    | none => exact keepL_sc hl ks
    | some v =>
      simp only [scS, Bool.and_eq_true]
      exact ⟨sc_get hl hk, keepL_sc hl ks⟩
theorem keepL_le (ρ : Nat → Nat) (s : AS) (ks : List Nat) : (s.ren ρ).le ((⟨keepL s.slots ks, s.heap⟩ : AS).ren ρ) := by
  refine ⟨fun t hv h => ?_, fun _ _ h => h⟩
  simp only [AS.ren] at h ⊢
  rw [sget_ren] at h ⊢
  cases hk : sget (keepL s.slots ks) t with
  | none => rw [hk] at h; cases h
  | some v => rw [hk] at h; rw [keepL_get hk]; exact h
end Go.AW

/- The evaluation of closed code: what an operation that only computes gives (sval), and that it is what is asked (aval). -/
namespace Go.AW
open Go
set_option linter.unusedSimpArgs false

def TabOk (P : Program) (T : TypeId → Option TyI) : Prop := ∀ t x, T t = some x → ty P t = some x

def sload (T : TyI) (cs : List HV) (off : Nat) : Option HV :=
  bif aggD T.desc then (bif Nat.ble (off + T.size) cs.length then some (.agg ((cs.drop off).take T.size)) else none) else cs[off]?

theorem sload_sound {T : TyI} {cs : List HV} {off : Nat} {h : HV} (hs : sload T cs off = some h) {ρ : Nat → Nat} {R : HV → Prop} (hr : R (h.ren ρ)) : loadK T (renL ρ cs) off R := by
  unfold sload at hs
  unfold loadK
  cases ha : aggD T.desc with
  | true =>
    rw [ha] at hs
    simp only [cond_true, if_true] at hs ⊢
    by_cases hb : Nat.ble (off + T.size) cs.length = true
    · rw [hb] at hs
      cases hs
      refine ⟨by rw [renL_len]; exact Nat.le_of_ble_eq_true hb, ?_⟩
      simpa only [HV.ren, renL_take, renL_drop] using hr
    · simp [Bool.not_eq_true _ ▸ hb] at hs
  | false =>
    rw [ha] at hs
    simp only [cond_false, Bool.false_eq_true, if_false] at hs ⊢
    rw [renL_get, hs]
    exact hr

def sbin (op : BinOp) (x y : HV) : Option HV :=
  match op, x, y with
  | .add, .int k a, .int k' b => if k = k' then some (.int k (k.wrap (a + b))) else none
  | .sub, .int k a, .int k' b => if k = k' then some (.int k (k.wrap (a - b))) else none
  | .mul, .int k a, .int k' b => if k = k' then some (.int k (k.wrap (a * b))) else none
  | .quo, .int k a, .int k' b => if k = k' ∧ b ≠ 0 then some (.int k (k.wrap (a.tdiv b))) else none
  | .rem, .int k a, .int k' b => if k = k' ∧ b ≠ 0 then some (.int k (a.tmod b)) else none
  | .eql, .int k a, .int k' b => if k = k' then some (.bool (decide (a = b))) else none
  | .neq, .int k a, .int k' b => if k = k' then some (.bool (decide (a ≠ b))) else none
  | .lss, .int k a, .int k' b => if k = k' then some (.bool (decide (a < b))) else none
  | .leq, .int k a, .int k' b => if k = k' then some (.bool (decide (a ≤ b))) else none
  | .gtr, .int k a, .int k' b => if k = k' then some (.bool (decide (b < a))) else none
  | .geq, .int k a, .int k' b => if k = k' then some (.bool (decide (b ≤ a))) else none
  | .add, .str a, .str b => if a.length + b.length ≤ maxLen then some (.str (a ++ b)) else none
  | .eql, .str a, .str b => some (.bool (decide (a = b)))
  | .neq, .str a, .str b => some (.bool (decide (a ≠ b)))
  | .lss, .str a, .str b => some (.bool (Op.bytesLess a b))
  | .gtr, .str a, .str b => some (.bool (!(Op.bytesLess a b || decide (a = b))))
  | .leq, .str a, .str b => some (.bool (Op.bytesLess a b || decide (a = b)))
  | .geq, .str a, .str b => some (.bool (!(Op.bytesLess a b)))
  | _, _, _ => none

theorem sbin_sound {op : BinOp} {x y h : HV} (hs : sbin op x y = some h) {ρ : Nat → Nat} {R : HV → Prop} (hr : R (h.ren ρ)) : abin op (x.ren ρ) (y.ren ρ) R := by
  unfold sbin at hs
  split at hs <;> first
    | (cases hs; exact hr)
    | (split at hs
       · rename_i hc
         cases hs
         first
           | exact ⟨hc, hr⟩
           | exact ⟨hc.1, hc.2, hr⟩
       · cases hs)
    | cases hs

def sasl (s : AS) (lo : Option Operand) (d : Int) : Option Int := asl s lo d
theorem asl_ren (ρ : Nat → Nat) (s : AS) (lo : Option Operand) (d : Int) : asl (s.ren ρ) lo d = asl s lo d := by
  unfold asl
  cases lo with
  | none => rfl
  | some x =>
    simp only [ev_ren]
    cases s.ev x with
    | none => rfl
    | some h => cases h <;> rfl

def sElem (T : TypeId → Option TyI) (t : TypeId) : Option Nat :=
  match T t with
  | some ⟨.slice e, _, _, _⟩ => (T e).map (·.size)
  | some ⟨.array _ e, _, _, _⟩ => (T e).map (·.size)
  | _ => none

def sField (T : TypeId → Option TyI) (S : TypeId) (f : Nat) : Option (Nat × TyI) :=
  match T S with
  | some ⟨.struct fs, _, _, _⟩ => match fs[f]? with
    | some fd => match T fd.type with
      | some U => if U.size = 0 then none else some (fd.offset, U)
      | none => none
    | none => none
  | _ => none

section
variable {P : Program} {T : TypeId → Option TyI}

theorem sElem_sound (hT : TabOk P T) {t : TypeId} {k : Nat} (h : sElem T t = some k) : elemSize P t = some k := by
  unfold sElem at h
  split at h
  · rename_i e _ _ _ ht
    obtain ⟨U, hU, rfl⟩ := Option.map_eq_some_iff.1 h
    simp [elemSize, hT _ _ ht, hT _ _ hU]
  · rename_i n e _ _ _ ht
    obtain ⟨U, hU, rfl⟩ := Option.map_eq_some_iff.1 h
    simp [elemSize, hT _ _ ht, hT _ _ hU]
  · cases h

theorem sField_sound (hT : TabOk P T) {S : TypeId} {f : Nat} {r : Nat × TyI} (h : sField T S f = some r) : fieldOf P S f = some r := by
  unfold sField at h
  split at h
  · rename_i fs _ _ _ ht
    split at h
    · rename_i fd hfd
      split at h
      · rename_i U hU
        split at h
        · cases h
        · rename_i h0
          cases h
          simp [fieldOf, hT _ _ ht, hfd, hT _ _ hU, h0]
      · cases h
    · cases h
  · cases h
end

noncomputable def aliveB (H : Heap) (id ver : Nat) : Bool := match hgetR H id with
  | some (v, _) => Nat.beq v ver
  | none => false

theorem aliveB_sound {H : Heap} {id ver : Nat} {ρ : Nat → Nat} (h : aliveB H id ver = true) : alive (renH ρ H) id (ρ ver) := by
  unfold aliveB at h
  rw [hgetR_eq] at h
  unfold alive
  rw [hget_ren]
  cases hg : hget H id with
  | none => rw [hg] at h; cases h
  | some x =>
    obtain ⟨v, o⟩ := x
    rw [hg] at h
    have : v = ver := Nat.eq_of_beq_eq_true h
    simp [this]

def guardO {α : Type} (c : Bool) (x : Option α) : Option α := match c with
  | true => x
  | false => none
theorem guardO_some {α : Type} {c : Bool} {x : Option α} {y : α} (h : guardO c x = some y) : c = true ∧ x = some y := by
  cases c with
  | true => exact ⟨rfl, h⟩
  | false => cases h

def sbinT (T : TypeId → Option TyI) (op : BinOp) (tx : TypeId) (x y : HV) : Option HV :=
  match x, y with
  | .bool a, .bool b => match op, T tx with
    | .eql, some ⟨.bool, _, _, _⟩ => some (.bool (a == b))
    | .neq, some ⟨.bool, _, _, _⟩ => some (.bool (!(a == b)))
    | _, _ => none
  | _, _ => sbin op x y

theorem sbinT_sound {P : Program} {T : TypeId → Option TyI} (hT : TabOk P T) {op : BinOp} {tx : TypeId} {x y h : HV} (hs : sbinT T op tx x y = some h) {ρ : Nat → Nat} {R : HV → Prop} (hr : R (h.ren ρ)) : abinT P op tx (x.ren ρ) (y.ren ρ) R := by
  unfold sbinT at hs
  split at hs
  · split at hs
    · rename_i hU
      cases hs
      simp only [HV.ren, abinT, hT _ _ hU]
      exact hr
    · rename_i hU
      cases hs
      simp only [HV.ren, abinT, hT _ _ hU]
      exact hr
    · cases hs
  · rename_i hno
    have := sbin_sound hs hr
    unfold abinT
    split
    · rename_i e1 e2
      exfalso
      cases x with
      | bool a => cases y with
        | bool b => exact hno _ _ rfl rfl
        | _ => cases e2
      | _ => cases e1
    · exact this

noncomputable def svPick (s : AS) (c a b : Operand) : Option HV := match s.evR c, s.evR a, s.evR b with
    | some (.bool true), some h, some _ => some h
    | some (.bool false), some _, some h => some h
    | _, _, _ => none
noncomputable def svLoad (T : TypeId → Option TyI) (s : AS) (t : TypeId) (a : Operand) : Option HV := match T t, s.evR a with
    | some U, some (.fptr cs off) => sload U cs off
    | some U, some (.ptr id ver off) => match hgetR s.heap id with
      | some (ver', .arr _ _ cs) => guardO (Nat.beq ver ver') (sload U cs off)
      | _ => none
    | _, _ => none
noncomputable def svNil (s : AS) (x : Operand) : Option HV := match s.evR x with
    | some (.ptr id ver off) => guardO (aliveB s.heap id ver) (some (.ptr id ver off))
    | some (.fptr cs off) => some (.fptr cs off)
    | _ => none
noncomputable def svBin (T : TypeId → Option TyI) (s : AS) (op : BinOp) (tx : TypeId) (x y : Operand) : Option HV := match s.evR x, s.evR y with
    | some h, some g => sbinT T op tx h g
    | _, _ => none
noncomputable def svUn (s : AS) (op : UnOp) (x : Operand) : Option HV := match op, s.evR x with
    | .not, some (.bool b) => some (.bool (!b))
    | .neg, some (.int k n) => some (.int k (k.wrap (0 - n)))
    | _, _ => none
noncomputable def svConv (T : TypeId → Option TyI) (s : AS) (src dst : TypeId) (x : Operand) : Option HV := match T src, T dst, s.evR x with
    | some _, some ⟨.int k, _, _, _⟩, some (.int _ n) => some (.int k (k.wrap n))
    | some _, some ⟨.string, _, _, _⟩, some (.int _ n) => some (.str (Utf8.encode n).data.toList)
    | some _, some ⟨.string, _, _, _⟩, some (.str l) => some (.str l)
    | _, _, _ => none
noncomputable def svFunc (s : AS) (fn : Fn) (first caps : Array Operand) : Option HV := match first.toList.mapM s.evR, caps.toList.mapM s.evR with
    | some fs, some cs => some (.fn fn fs cs)
    | _, _ => none
noncomputable def svFieldAddr (T : TypeId → Option TyI) (s : AS) (S : TypeId) (x : Operand) (f : Nat) : Option HV := match sField T S f, s.evR x with
    | some (o, _), some (.ptr id ver off) => guardO (aliveB s.heap id ver) (some (.ptr id ver (off + o)))
    | some (o, _), some (.fptr cs off) => some (.fptr cs (off + o))
    | _, _ => none
noncomputable def svField (T : TypeId → Option TyI) (s : AS) (S : TypeId) (x : Operand) (f : Nat) : Option HV := match sField T S f, s.evR x with
    | some (o, U), some (.agg cs) => sload U cs o
    | _, _ => none
noncomputable def svIndexAddr (T : TypeId → Option TyI) (s : AS) (t : TypeId) (x i : Operand) : Option HV := match T t, sElem T t, s.evR x, s.evR i with
    | some ⟨.slice _, _, _, _⟩, some k', some (.sl k n cs), some (.int _ j) => guardO (decide (k = k' ∧ 0 ≤ j ∧ j < n)) (some (.fptr cs (j.toNat * k)))
    | some ⟨.slice _, _, _, _⟩, some k', some (.ar id ver k off n), some (.int _ j) => guardO (decide (k = k' ∧ 0 ≤ j ∧ j < n)) (guardO (aliveB s.heap id ver) (some (.ptr id ver (off + j.toNat * k))))
    | some ⟨.array len _, _, _, _⟩, some k', some (.ptr id ver off), some (.int _ j) => guardO (decide (0 ≤ j ∧ j < len)) (guardO (aliveB s.heap id ver) (some (.ptr id ver (off + j.toNat * k'))))
    | some ⟨.array len _, _, _, _⟩, some k', some (.fptr cs off), some (.int _ j) => guardO (decide (0 ≤ j ∧ j < len)) (some (.fptr cs (off + j.toNat * k')))
    | _, _, _, _ => none
noncomputable def svIndex (T : TypeId → Option TyI) (s : AS) (t : TypeId) (x i : Operand) : Option HV := match T t, s.evR x, s.evR i with
    | some ⟨.string, _, _, _⟩, some (.str l), some (.int _ j) => guardO (decide (0 ≤ j)) (match l[j.toNat]? with
      | some b => some (.int .u8 b.toNat)
      | none => none)
    | some ⟨.array len e, _, _, _⟩, some (.agg cs), some (.int _ j) => guardO (decide (0 ≤ j ∧ j < len)) (match T e with
      | some U => sload U cs (j.toNat * U.size)
      | none => none)
    | _, _, _ => none
noncomputable def svExtract (s : AS) (x : Operand) (i : Nat) : Option HV := match s.evR x with
    | some (.tup vs) => vs[i]?
    | _ => none
noncomputable def svSlice (T : TypeId → Option TyI) (s : AS) (t : TypeId) (x : Operand) (lo hi : Option Operand) : Option HV := match T t, sElem T t, s.evR x with
    | some ⟨.string, _, _, _⟩, _, some (.str l) => match aslR s lo 0, aslR s hi l.length with
      | some a, some b => guardO (decide (0 ≤ a ∧ a ≤ b ∧ b ≤ l.length)) (some (.str ((l.take b.toNat).drop a.toNat)))
      | _, _ => none
    | some ⟨.slice _, _, _, _⟩, some k', some (.sl k n cs) => match aslR s lo 0, aslR s hi n with
      | some a, some b => guardO (decide (k = k' ∧ 0 ≤ a ∧ a ≤ b ∧ b ≤ n)) (some (.sl k (b.toNat - a.toNat) ((cs.take (b.toNat * k)).drop (a.toNat * k))))
      | _, _ => none
    | some ⟨.slice _, _, _, _⟩, some k', some (.ar id ver k off n) => match aslR s lo 0, aslR s hi n with
      | some a, some b => guardO (decide (k = k' ∧ 0 ≤ a ∧ a ≤ b ∧ b ≤ n ∧ (a = 0 ∨ a < n))) (guardO (aliveB s.heap id ver) (some (.ar id ver k (off + a.toNat * k) (b.toNat - a.toNat))))
      | _, _ => none
    | _, _, _ => none
noncomputable def svCall (T : TypeId → Option TyI) (s : AS) (c : Call) : Option HV := match c.callee, c.argTypes.toList, c.args.toList with
    | .builtin .len, [t], [x] => match T t, s.evR x with
      | some ⟨.string, _, _, _⟩, some (.str l) => some (.int .i64 l.length)
      | some ⟨.slice _, _, _, _⟩, some (.sl _ n _) => some (.int .i64 n)
      | some ⟨.slice _, _, _, _⟩, some (.ar id ver _ _ n) => guardO (aliveB s.heap id ver) (some (.int .i64 n))
      | some ⟨.slice _, _, _, _⟩, some (.v (.slice none 0 0)) => some (.int .i64 0)
      | some ⟨.map _ _, _, _, _⟩, some (.v (.map none)) => some (.int .i64 0)
      | some ⟨.map _ _, _, _, _⟩, some (.mp id ver) => match hgetR s.heap id with
        | some (ver', .map es) => guardO (Nat.beq ver ver' && Nat.ble es.length maxLen) (some (.int .i64 es.length))
        | _ => none
      | _, _ => none
    | .builtin .min, _, [x, y] => match s.evR x, s.evR y with
      | some (.int k a), some (.int k' c) => guardO (decide (k = k')) (some (.int k (min a c)))
      | _, _ => none
    | .builtin .max, _, [x, y] => match s.evR x, s.evR y with
      | some (.int k a), some (.int k' c) => guardO (decide (k = k')) (some (.int k (max a c)))
      | _, _ => none
    | .builtin .min, _, [x, y, z] => match s.evR x, s.evR y, s.evR z with
      | some (.int k a), some (.int k' c), some (.int k'' d) => guardO (decide (k = k' ∧ k = k'')) (some (.int k (min (min a c) d)))
      | _, _, _ => none
    | .builtin .max, _, [x, y, z] => match s.evR x, s.evR y, s.evR z with
      | some (.int k a), some (.int k' c), some (.int k'' d) => guardO (decide (k = k' ∧ k = k'')) (some (.int k (max (max a c) d)))
      | _, _, _ => none
    | _, _, _ => none

noncomputable def sval (T : TypeId → Option TyI) (op : Op) (s : AS) : Option HV :=
  match op with
  | .move x => s.evR x
  | .assign x => s.evR x
  | .pick c a b => svPick s c a b
  | .load t a => svLoad T s t a
  | .nilCheck x => svNil s x
  | .binOp op tx x y _ => svBin T s op tx x y
  | .unOp op _ x => svUn s op x
  | .convert src dst x => svConv T s src dst x
  | .makeFunc fn first caps => svFunc s fn first caps
  | .fieldAddr S x f => svFieldAddr T s S x f
  | .field S x f => svField T s S x f
  | .indexAddr t x i => svIndexAddr T s t x i
  | .index t x i => svIndex T s t x i
  | .extract x i => svExtract s x i
  | .slice t x lo hi none => svSlice T s t x lo hi
  | .call c => svCall T s c
  | _ => none

theorem renE_len (ρ : Nat → Nat) : ∀ l, (renE ρ l).length = l.length
  | [] => rfl
  | _ :: l => by simp [renE, renE_len ρ l]

theorem hget_s (ρ : Nat → Nat) {s : AS} {id v : Nat} {o : AObj} (h : hget s.heap id = some (v, o)) : hget (s.ren ρ).heap id = some (ρ v, o.ren ρ) := by
  show hget (renH ρ s.heap) id = _
  rw [hget_ren, h]
  rfl

section
variable {P : Program} {T : TypeId → Option TyI} {s : AS} {ρ : Nat → Nat} {R : HV → Prop}

theorem sval_sound (hT : TabOk P T) {op : Op} {r : HV} (h : sval T op s = some r) (hr : R (r.ren ρ)) : aval P op (s.ren ρ) R := by
  unfold sval at h
  simp only [evR_eq, hgetR_eq, hsetR_eq, sgetR_eq, putR_eq, aslR_eq, apartsR_eq] at h
  split at h
  · simp only [aval, ev_ren, h, Option.map_some]; exact hr
  · simp only [aval, ev_ren, h, Option.map_some]; exact hr
  · -- pick
    unfold svPick at h
    try simp only [evR_eq, hgetR_eq, hsetR_eq, sgetR_eq, putR_eq, aslR_eq, apartsR_eq] at h
    rename_i c a b
    split at h
    · rename_i h1 g hc ha hb
      cases h
      simp only [aval, ev_ren, hc, ha, hb, Option.map_some, HV.ren]
      split
      all_goals simp_all
    · rename_i g h1 hc ha hb
      cases h
      simp only [aval, ev_ren, hc, ha, hb, Option.map_some, HV.ren]
      split
      all_goals simp_all
    · cases h
  · -- load
    unfold svLoad at h
    try simp only [evR_eq, hgetR_eq, hsetR_eq, sgetR_eq, putR_eq, aslR_eq, apartsR_eq] at h
    split at h
    · rename_i U cs off hU hx
      simp only [aval, ev_ren, hT _ _ hU, hx, Option.map_some, HV.ren]
      exact sload_sound h hr
    · rename_i U id ver off hU hx
      split at h
      · rename_i ver' k e cs hg
        obtain ⟨hv, h'⟩ := guardO_some h
        have hv := Nat.eq_of_beq_eq_true hv
        subst hv
        simp only [aval, ev_ren, hT _ _ hU, hx, Option.map_some, HV.ren, hget_s ρ hg, AObj.ren]
        exact ⟨trivial, sload_sound h' hr⟩
      · cases h
    · cases h
  · -- nilCheck
    unfold svNil at h
    try simp only [evR_eq, hgetR_eq, hsetR_eq, sgetR_eq, putR_eq, aslR_eq, apartsR_eq] at h
    split at h
    · rename_i id ver off hx
      obtain ⟨hv, h⟩ := guardO_some h
      cases h
      have := aliveB_sound (ρ := ρ) hv
      simp only [aval, ev_ren, hx, Option.map_some, HV.ren]
      unfold alive at this
      have e : (s.ren ρ).heap = renH ρ s.heap := rfl
      rw [e]
      cases hh : hget (renH ρ s.heap) id with
      | none => rw [hh] at this; exact this
      | some x => rw [hh] at this; exact ⟨this.symm, hr⟩
    · rename_i cs off hx
      cases h
      simp only [aval, ev_ren, hx, Option.map_some, HV.ren]
      exact hr
    · cases h
  · -- binOp
    unfold svBin at h
    try simp only [evR_eq, hgetR_eq, hsetR_eq, sgetR_eq, putR_eq, aslR_eq, apartsR_eq] at h
    split at h
    · rename_i x y hx hy
      simp only [aval, ev_ren, hx, hy, Option.map_some]
      exact sbinT_sound hT h hr
    · cases h
  · -- unOp
    unfold svUn at h
    try simp only [evR_eq, hgetR_eq, hsetR_eq, sgetR_eq, putR_eq, aslR_eq, apartsR_eq] at h
    split at h
    · rename_i b hx
      cases h
      simp only [aval, ev_ren, hx, Option.map_some, HV.ren]
      exact hr
    · rename_i k n hx
      cases h
      simp only [aval, ev_ren, hx, Option.map_some, HV.ren]
      exact hr
    · cases h
  · -- convert
    unfold svConv at h
    try simp only [evR_eq, hgetR_eq, hsetR_eq, sgetR_eq, putR_eq, aslR_eq, apartsR_eq] at h
    split at h
    · rename_i U k _ _ _ k0 n hU hD hx
      cases h
      simp only [aval, ev_ren, hT _ _ hU, hT _ _ hD, hx, Option.map_some, HV.ren]
      exact hr
    · rename_i U _ _ _ k0 n hU hD hx
      cases h
      simp only [aval, ev_ren, hT _ _ hU, hT _ _ hD, hx, Option.map_some, HV.ren]
      exact hr
    · rename_i U _ _ _ l hU hD hx
      cases h
      simp only [aval, ev_ren, hT _ _ hU, hT _ _ hD, hx, Option.map_some, HV.ren]
      exact hr
    · cases h
  · -- makeFunc
    unfold svFunc at h
    try simp only [evR_eq, hgetR_eq, hsetR_eq, sgetR_eq, putR_eq, aslR_eq, apartsR_eq] at h
    split at h
    · rename_i fs cs hf hc
      cases h
      simp only [aval, evL_ren, hf, hc, Option.map_some]
      exact hr
    · cases h
  · -- fieldAddr
    unfold svFieldAddr at h
    try simp only [evR_eq, hgetR_eq, hsetR_eq, sgetR_eq, putR_eq, aslR_eq, apartsR_eq] at h
    split at h
    · rename_i o U id ver off hF hx
      obtain ⟨hv, h⟩ := guardO_some h
      cases h
      simp only [aval, sField_sound hT hF, ev_ren, hx, Option.map_some, HV.ren]
      exact ⟨aliveB_sound hv, hr⟩
    · rename_i o U cs off hF hx
      cases h
      simp only [aval, sField_sound hT hF, ev_ren, hx, Option.map_some, HV.ren]
      exact hr
    · cases h
  · -- field
    unfold svField at h
    try simp only [evR_eq, hgetR_eq, hsetR_eq, sgetR_eq, putR_eq, aslR_eq, apartsR_eq] at h
    split at h
    · rename_i o U cs hF hx
      simp only [aval, sField_sound hT hF, ev_ren, hx, Option.map_some, HV.ren]
      exact sload_sound h hr
    · cases h
  · -- indexAddr
    unfold svIndexAddr at h
    try simp only [evR_eq, hgetR_eq, hsetR_eq, sgetR_eq, putR_eq, aslR_eq, apartsR_eq] at h
    split at h
    · rename_i e _ _ _ k' k n cs kk j hU hE hx hi
      obtain ⟨hv, h⟩ := guardO_some h
      cases h
      simp only [aval, hT _ _ hU, sElem_sound hT hE, ev_ren, hx, hi, Option.map_some, HV.ren]
      obtain ⟨h1, h2, h3⟩ := of_decide_eq_true hv
      exact ⟨h1, h2, h3, hr⟩
    · rename_i e _ _ _ k' id ver k off n kk j hU hE hx hi
      obtain ⟨hv, h⟩ := guardO_some h
      obtain ⟨ha, h⟩ := guardO_some h
      cases h
      simp only [aval, hT _ _ hU, sElem_sound hT hE, ev_ren, hx, hi, Option.map_some, HV.ren]
      obtain ⟨h1, h2, h3⟩ := of_decide_eq_true hv
      exact ⟨h1, h2, h3, aliveB_sound ha, hr⟩
    · rename_i len e _ _ _ k' id ver off kk j hU hE hx hi
      obtain ⟨hv, h⟩ := guardO_some h
      obtain ⟨ha, h⟩ := guardO_some h
      cases h
      simp only [aval, hT _ _ hU, sElem_sound hT hE, ev_ren, hx, hi, Option.map_some, HV.ren]
      obtain ⟨h1, h2⟩ := of_decide_eq_true hv
      exact ⟨h1, h2, aliveB_sound ha, hr⟩
    · rename_i len e _ _ _ k' cs off kk j hU hE hx hi
      obtain ⟨hv, h⟩ := guardO_some h
      cases h
      simp only [aval, hT _ _ hU, sElem_sound hT hE, ev_ren, hx, hi, Option.map_some, HV.ren]
      obtain ⟨h1, h2⟩ := of_decide_eq_true hv
      exact ⟨h1, h2, hr⟩
    · cases h
  · -- index
    unfold svIndex at h
    try simp only [evR_eq, hgetR_eq, hsetR_eq, sgetR_eq, putR_eq, aslR_eq, apartsR_eq] at h
    split at h
    · rename_i _ _ _ l k j hU hx hi
      obtain ⟨hv, h⟩ := guardO_some h
      split at h
      · rename_i b hb
        cases h
        simp only [aval, hT _ _ hU, ev_ren, hx, hi, Option.map_some, HV.ren, hb]
        exact ⟨of_decide_eq_true hv, hr⟩
      · cases h
    · rename_i len e _ _ _ cs k j hU hx hi
      obtain ⟨hv, h⟩ := guardO_some h
      split at h
      · rename_i U hE
        simp only [aval, hT _ _ hU, ev_ren, hx, hi, Option.map_some, HV.ren, hT _ _ hE]
        obtain ⟨h1, h2⟩ := of_decide_eq_true hv
        exact ⟨h1, h2, sload_sound h hr⟩
      · cases h
    · cases h
  · -- extract
    unfold svExtract at h
    try simp only [evR_eq, hgetR_eq, hsetR_eq, sgetR_eq, putR_eq, aslR_eq, apartsR_eq] at h
    split at h
    · rename_i vs hx
      simp only [aval, ev_ren, hx, Option.map_some, HV.ren, renL_get, h]
      exact hr
    · cases h
  · -- slice
    unfold svSlice at h
    try simp only [evR_eq, hgetR_eq, hsetR_eq, sgetR_eq, putR_eq, aslR_eq, apartsR_eq] at h
    split at h
    · rename_i _ _ _ l hU hx
      split at h
      · rename_i a b ha hb
        obtain ⟨hv, h⟩ := guardO_some h
        cases h
        simp only [aval, hT _ _ hU, ev_ren, hx, Option.map_some, HV.ren, asl_ren, ha, hb]
        obtain ⟨h1, h2, h3⟩ := of_decide_eq_true hv
        exact ⟨h1, h2, h3, hr⟩
      · cases h
    · rename_i e _ _ _ k' k n cs hU hE hx
      split at h
      · rename_i a b ha hb
        obtain ⟨hv, h⟩ := guardO_some h
        cases h
        simp only [aval, hT _ _ hU, sElem_sound hT hE, ev_ren, hx, Option.map_some, HV.ren, asl_ren, ha, hb]
        obtain ⟨h1, h2, h3, h4⟩ := of_decide_eq_true hv
        refine ⟨h1, h2, h3, h4, ?_⟩
        rw [← renL_take, ← renL_drop]
        exact hr
      · cases h
    · rename_i e _ _ _ k' id ver k off n hU hE hx
      split at h
      · rename_i a b ha hb
        obtain ⟨hv, h⟩ := guardO_some h
        obtain ⟨hl, h⟩ := guardO_some h
        cases h
        simp only [aval, hT _ _ hU, sElem_sound hT hE, ev_ren, hx, Option.map_some, HV.ren, asl_ren, ha, hb]
        obtain ⟨h1, h2, h3, h4, h5⟩ := of_decide_eq_true hv
        exact ⟨h1, h2, h3, h4, h5, aliveB_sound hl, hr⟩
      · cases h
    · cases h
  · -- call
    unfold svCall at h
    try simp only [evR_eq, hgetR_eq, hsetR_eq, sgetR_eq, putR_eq, aslR_eq, apartsR_eq] at h
    split at h
    · rename_i c t x hc ht hx
      split at h
      · rename_i _ _ _ l hU hl
        cases h
        simp only [aval, hc, ht, hx, hT _ _ hU, ev_ren, hl, Option.map_some, HV.ren]; exact hr
      · rename_i e _ _ _ k n cs hU hl
        cases h
        simp only [aval, hc, ht, hx, hT _ _ hU, ev_ren, hl, Option.map_some, HV.ren]; exact hr
      · rename_i e _ _ _ id ver k off n hU hl
        obtain ⟨hv, h⟩ := guardO_some h
        cases h
        simp only [aval, hc, ht, hx, hT _ _ hU, ev_ren, hl, Option.map_some, HV.ren]; exact ⟨aliveB_sound hv, hr⟩
      · rename_i e _ _ _ hU hl
        cases h
        simp only [aval, hc, ht, hx, hT _ _ hU, ev_ren, hl, Option.map_some, HV.ren]; exact hr
      · rename_i e _ _ _ hU hl
        cases h
        simp only [aval, hc, ht, hx, hT _ _ hU, ev_ren, hl, Option.map_some, HV.ren]; exact hr
      · rename_i e _ _ _ _ id ver hU hl
        split at h
        · rename_i ver' es hg
          obtain ⟨hv, h⟩ := guardO_some h
          cases h
          simp only [Bool.and_eq_true] at hv
          have hve := Nat.eq_of_beq_eq_true hv.1
          subst hve
          simp only [aval, hc, ht, hx, hT _ _ hU, ev_ren, hl, Option.map_some, HV.ren, hget_s ρ hg, AObj.ren, renE_len]
          exact ⟨trivial, Nat.le_of_ble_eq_true hv.2, hr⟩
        · cases h
      · cases h
    · rename_i c x y hc hx
      split at h
      · rename_i k a k' b ha hb
        obtain ⟨hv, h⟩ := guardO_some h
        cases h
        simp only [aval, hc, hx, ev_ren, ha, hb, Option.map_some, HV.ren]
        exact ⟨.inl trivial, of_decide_eq_true hv, hr⟩
      · cases h
    · rename_i c x y hc hx
      split at h
      · rename_i k a k' b ha hb
        obtain ⟨hv, h⟩ := guardO_some h
        cases h
        simp only [aval, hc, hx, ev_ren, ha, hb, Option.map_some, HV.ren]
        exact ⟨.inr trivial, of_decide_eq_true hv, hr⟩
      · cases h
    · rename_i c x y z hc hx
      split at h
      · rename_i k a k' b k'' d ha hb hd
        obtain ⟨hv, h⟩ := guardO_some h
        cases h
        simp only [aval, hc, hx, ev_ren, ha, hb, hd, Option.map_some, HV.ren]
        obtain ⟨h1, h2⟩ := of_decide_eq_true hv
        exact ⟨.inl trivial, h1, h2, hr⟩
      · cases h
    · rename_i c x y z hc hx
      split at h
      · rename_i k a k' b k'' d ha hb hd
        obtain ⟨hv, h⟩ := guardO_some h
        cases h
        simp only [aval, hc, hx, ev_ren, ha, hb, hd, Option.map_some, HV.ren]
        obtain ⟨h1, h2⟩ := of_decide_eq_true hv
        exact ⟨.inr trivial, h1, h2, hr⟩
      · cases h
    · cases h
  · cases h
end
end Go.AW

/- The evaluation of closed code: operations that change something, what a task's evaluation says. -/
namespace Go.AW
open Go
set_option linter.unusedSimpArgs false

/-- a loop's record stays the record of its loop -/
def LoopKeep (H H' : Heap) : Prop := ∀ id v st pend f n snap ps a b, hget H id = some (v, .loop st pend f n snap ps a b) → ∀ x, hget H' id = some x → ∃ st' pend', x = (v, .loop st' pend' f n snap ps a b)

theorem LoopKeep.refl (H : Heap) : LoopKeep H H := fun _ _ _ _ _ _ _ _ _ _ h x hx => by rw [h] at hx; cases hx; exact ⟨_, _, rfl⟩
theorem LoopKeep.set {H : Heap} {id v : Nat} {o : AObj} (h : ∀ v st pend f n snap ps a b, hget H id ≠ some (v, .loop st pend f n snap ps a b)) : LoopKeep H (hset H id v o) := by
  intro j u st pend f n snap ps a b hj x hx
  rw [hget_hset] at hx
  split at hx
  · rename_i e; subst e; exact absurd hj (h _ _ _ _ _ _ _ _ _)
  · rw [hj] at hx; cases hx; exact ⟨_, _, rfl⟩
theorem LoopKeep.setL {H : Heap} {id v : Nat} {st st' : LoopState} {pend pend' : Option Code} {f n : Nat} {snap : List (Nat × HV)} {ps : Array Tmp} {a b : Code}
    (h : hget H id = some (v, .loop st pend f n snap ps a b)) : LoopKeep H (hset H id v (.loop st' pend' f n snap ps a b)) := by
  intro j u st2 pend2 f2 n2 snap2 ps2 a2 b2 hj x hx
  rw [hget_hset] at hx
  split at hx
  · rename_i e; subst e; rw [h] at hj; cases hj; cases hx; exact ⟨_, _, rfl⟩
  · rw [hj] at hx; cases hx; exact ⟨_, _, rfl⟩
/-- dropping between -/
theorem LoopKeep.trans {H H1 H2 : Heap} (h : LoopKeep H H1) (h' : LoopKeep H1 H2) (hd : ∀ id x, hget H id = some x → ∀ y, hget H2 id = some y → ∃ z, hget H1 id = some z) : LoopKeep H H2 := by
  intro j u st pend f n snap ps a b hj x hx
  obtain ⟨z, hz⟩ := hd j _ hj x hx
  obtain ⟨st1, p1, rfl⟩ := h _ _ _ _ _ _ _ _ _ _ hj z hz
  exact h' _ _ _ _ _ _ _ _ _ _ hz x hx

/-- what stays is what was there (objects with number below n) -/
def Back (n : Nat) (H H' : Heap) : Prop := ∀ id, id < n → ∀ y, hget H' id = some y → ∃ z, hget H id = some z
theorem Back.refl (n : Nat) (H : Heap) : Back n H H := fun _ _ y h => ⟨y, h⟩
theorem Back.trans {n m : Nat} {H H1 H2 : Heap} (h : Back n H H1) (hn : n ≤ m) (h' : Back m H1 H2) : Back n H H2 := fun id hid y hy => by
  obtain ⟨z, hz⟩ := h' id (by omega) y hy
  exact h id hid z hz
theorem Back.set {n id v : Nat} {H : Heap} {o : AObj} (h : n ≤ id ∨ ∃ x, hget H id = some x) : Back n H (hset H id v o) := fun j hj y hy => by
  rw [hget_hset] at hy
  split at hy
  · rename_i e; subst e; exact h.elim (fun h => by omega) id
  · exact ⟨y, hy⟩

theorem sch_lt {n id : Nat} {H : Heap} {x : Nat × AObj} (h : scH n H = true) (hg : hget H id = some x) : id < n := (sch_get (o := x.2) (v := x.1) h hg).1.1
theorem sch_fresh {n : Nat} {H : Heap} (h : scH n H = true) : hget H n = none := by
  cases hg : hget H n with
  | none => rfl
  | some x => exact absurd (sch_lt h hg) (by omega)

/-- the state's loops stay, nothing of a lower number comes -/
structure Step (n n' : Nat) (H H' : Heap) : Prop where
  le : n ≤ n'
  loop : LoopKeep H H'
  back : Back n H H'

theorem Step.refl (n : Nat) (H : Heap) : Step n n H H := ⟨Nat.le_refl _, LoopKeep.refl H, Back.refl n H⟩
theorem Step.trans {n n1 n2 : Nat} {H H1 H2 : Heap} (hs : scH n H = true) (h : Step n n1 H H1) (h' : Step n1 n2 H1 H2) : Step n n2 H H2 :=
  ⟨Nat.le_trans h.le h'.le, h.loop.trans h'.loop fun id x hx y hy => h'.back id (Nat.lt_of_lt_of_le (sch_lt hs hx) h.le) y hy, h.back.trans h.le h'.back⟩

inductive Task where
  | code (top : Bool) (N : Nat) (c : Code) (s : AS) (n : Nat)
  | call (f : FuncId) (args : List HV) (H : Heap) (n : Nat)

inductive Out where
  | code (e : Exit) (s : AS) (n : Nat)
  | call (rv : HV) (H : Heap) (n : Nat)

def Sem (P : Program) : Task → Out → Prop
  | .code top N c s n, .code e s' n' => s.sc n = true → s'.sc n' = true ∧ Step n n' s.heap s'.heap ∧
      ∀ (ρ : Nat → Nat) (ro : Option Nat) (Q : Exit → AS → Prop), (top = true → ro = none) → (∀ ρ', Agree n ρ ρ' → Q e (s'.ren ρ')) → AW P ro N c Q (s.ren ρ)
  | .call f args H n, .call rv H' n' => scL n args = true → scH n H = true → rv.sc n' = true ∧ scH n' H' = true ∧ Step n n' H H' ∧
      ∀ (ρ : Nat → Nat) (K : HV → Heap → Prop), (∀ ρ', Agree n ρ ρ' → K (rv.ren ρ') (renH ρ' H')) → ACall P f (renL ρ args) (renH ρ H) K
  | _, _ => False

def Good (P : Program) (r : Task → Option Out) : Prop := ∀ t o, r t = some o → Sem P t o

/-- what an operation's evaluation says -/
def OpOk (P : Program) (N : Nat) (o : Oper) (s : AS) (n : Nat) (s' : AS) (n' : Nat) : Prop := s'.sc n' = true ∧ Step n n' s.heap s'.heap ∧
  ∀ (ρ : Nat → Nat) (ro : Option Nat) (K : AS → Prop), (∀ ρ', Agree n ρ ρ' → K (s'.ren ρ')) → AOp P ro N o K (s.ren ρ)

noncomputable def fin (s : AS) (n : Nat) (d : Option Tmp) (h : HV) : Option (AS × Nat) := guardO (h.sc n) (some (s.putR d h, n))
noncomputable def new (s : AS) (n : Nat) (d : Option Tmp) (id : Nat) (o : AObj) (h : HV) : Option (AS × Nat) := guardO (o.sc n) (some (({ s with heap := hsetR s.heap id n o } : AS).putR d h, n + 1))

section
variable {P : Program} {N n n' : Nat} {o : Oper} {s s' : AS}

theorem sc_heap_of (hs : s.sc n = true) : scH n s.heap = true := by
  simp only [AS.sc, Bool.and_eq_true] at hs; exact hs.2
theorem sc_slots_of (hs : s.sc n = true) : scS n s.slots = true := by
  simp only [AS.sc, Bool.and_eq_true] at hs; exact hs.1

theorem put_heap' (s : AS) (d : Option Tmp) (h : HV) : (s.put d h).heap = s.heap := by cases d <;> rfl

theorem fin_ok {h : HV} (hs : s.sc n = true) (he : fin s n o.dst h = some (s', n')) (hk : ∀ (ρ : Nat → Nat) (ro : Option Nat) (K : AS → Prop), K ((s.ren ρ).put o.dst (h.ren ρ)) → AOp P ro N o K (s.ren ρ)) : OpOk P N o s n s' n' := by
  unfold fin at he
  rw [putR_eq] at he
  obtain ⟨h1, h2⟩ := guardO_some he
  cases h2
  refine ⟨sc_put hs h1, by rw [put_heap']; exact Step.refl _ _, fun ρ ro K hK => hk ρ ro K ?_⟩
  rw [← ren_put]
  exact hK ρ (Agree.refl _ _)

theorem new_ok {id : Nat} {ob : AObj} {h : HV} (hs : s.sc n = true) (hid : id = n ∨ ∃ v k e cs, hget s.heap id = some (v, .arr k e cs)) (hh : h.sc (n + 1) = true) (he : new s n o.dst id ob h = some (s', n'))
    (hk : ∀ (ρ : Nat → Nat) (ro : Option Nat) (K : AS → Prop), (∀ ver, K ((⟨(s.ren ρ).slots, hset (s.ren ρ).heap id ver (ob.ren ρ)⟩ : AS).put o.dst (h.ren (upd ρ n ver)))) → AOp P ro N o K (s.ren ρ)) : OpOk P N o s n s' n' := by
  unfold new at he
  rw [putR_eq, hsetR_eq] at he
  obtain ⟨h1, h2⟩ := guardO_some he
  cases h2
  have hsh := sc_heap_of hs
  have hidn : id < n + 1 := by
    rcases hid with rfl | ⟨v, k, e, cs, hg⟩
    · omega
    · have := sch_lt hsh hg; omega
  refine ⟨sc_put (sc_heap (AS.sc_mono (Nat.le_succ n) s hs) hidn (by omega) (AObj.sc_mono (Nat.le_succ n) ob h1)) hh, ?_, fun ρ ro K hK => hk ρ ro K fun ver => ?_⟩
  · rw [put_heap']
    refine ⟨by omega, LoopKeep.set ?_, Back.set ?_⟩
    · rcases hid with rfl | ⟨v, k, e, cs, hg⟩
      · rw [sch_fresh hsh]; intros; simp
      · rw [hg]; intros; simp
    · rcases hid with rfl | ⟨v, k, e, cs, hg⟩
      · exact .inl (Nat.le_refl _)
      · exact .inr ⟨_, hg⟩
  · have := hK (upd ρ n ver) (Agree.upd n ver ρ)
    rw [ren_put] at this
    have e : (⟨s.slots, hset s.heap id n ob⟩ : AS).ren (upd ρ n ver) = ⟨(s.ren ρ).slots, hset (s.ren ρ).heap id ver (ob.ren ρ)⟩ := by
      simp only [AS.ren, renH_set, upd_at]
      rw [← renS_agree (Agree.upd n ver ρ) _ (sc_slots_of hs), ← renH_agree (Agree.upd n ver ρ) _ hsh, ← AObj.ren_agree (Agree.upd n ver ρ) _ h1]
    rw [e] at this
    exact this
end

/-! the parts of literals -/
theorem aparts_ren (ρ : Nat → Nat) (s : AS) : ∀ ps : List (Nat × Operand), aparts (s.ren ρ) ps = (aparts s ps).map (renS ρ)
  | [] => rfl
  | p :: ps => by
    have ih := aparts_ren ρ s ps
    unfold aparts at ih ⊢
    simp only [List.mapM_cons, Option.pure_def, Option.bind_eq_bind]
    rw [ih, ev_ren]
    cases s.ev p.2 with
    | none => rfl
    | some h =>
      simp only [Option.map_some, Option.bind_some]
      cases List.mapM (fun p => Option.map (fun h => (p.fst, h)) (s.ev p.snd)) ps with
      | none => rfl
      | some qs => rfl

theorem afill_ren (ρ : Nat → Nat) (place : Nat → Option (Nat × Nat)) : ∀ (qs : List (Nat × HV)) (cells : List HV), afill place (renS ρ qs) (renL ρ cells) = (afill place qs cells).map (renL ρ)
  | [], cells => rfl
  | (i, h) :: qs, cells => by
    simp only [renS, afill, cells_ren]
    cases place i with
    | none => rfl
    | some p =>
      obtain ⟨off, size⟩ := p
      cases h.cells? with
      | none => rfl
      | some cs =>
        simp only [Option.map_some, renL_len]
        split
        · rw [← renL_splice, afill_ren ρ place qs]
        · rfl

theorem consts_ren (ρ : Nat → Nat) : ∀ (vs : List Value) (hs : List HV), vs.mapM constHV = some hs → renL ρ hs = hs
  | [], hs, h => by simp at h; subst h; rfl
  | v :: vs, hs, h => by
    simp only [List.mapM_cons, Option.pure_def, Option.bind_eq_bind, Option.bind_eq_some_iff] at h
    obtain ⟨c, hc, ds, hd, he⟩ := h
    cases he
    have h1 := constHV_ren ρ v
    rw [hc] at h1
    simp only [Option.map_some, Option.some.injEq] at h1
    simp only [renL, h1, consts_ren ρ vs ds hd]

theorem zcells_ren (ρ : Nat → Nat) {z : Value} {zs : List HV} (h : zcells z = some zs) : renL ρ zs = zs := by
  have one : ∀ {v : Value}, (match constHV v with
      | some h => if h.one then some [h] else none
      | none => none) = some zs → renL ρ zs = zs := fun {v} h => by
    have h1 := constHV_ren ρ v
    split at h
    · rename_i c hc
      rw [hc] at h1
      simp only [Option.map_some, Option.some.injEq] at h1
      split at h
      · cases h; simp only [renL, h1]
      · cases h
    · cases h
  unfold zcells at h
  split at h
  · split at h
    · rename_i hs hm
      split at h
      · cases h; exact consts_ren ρ _ _ hm
      · cases h
    · cases h
  · cases h
  · exact one h

theorem zrep_ren (ρ : Nat → Nat) {zs : List HV} (h : renL ρ zs = zs) (n : Nat) : renL ρ (zrep zs n) = zrep zs n := by
  induction n with
  | zero => rfl
  | succ n ih =>
    simp only [zrep, List.replicate_succ, List.flatten_cons, renL_append, h] at ih ⊢
    rw [ih]

noncomputable def sslice (T : TypeId → Option TyI) (s : AS) (t : TypeId) (n : Nat) (ps : List (Nat × Operand)) : Option (Nat × TypeId × List HV) :=
  match T t with
  | some ⟨.slice e, _, _, _⟩ => match T e with
    | some U => match zcells U.zero, apartsR s ps with
      | some zs, some qs => guardO (Nat.beq zs.length U.size && Nat.ble (n * U.size) 16777216) (match afill (fun i => some (i * U.size, U.size)) qs (zrep zs n) with
        | some cs => some (U.size, e, cs)
        | none => none)
      | _, _ => none
    | none => none
  | _ => none

def sPlaces (T : TypeId → Option TyI) : List Field → Option (List (Nat × Nat))
  | [] => some []
  | f :: fs => match T f.type, sPlaces T fs with
    | some U, some l => some ((f.offset, U.size) :: l)
    | _, _ => none

noncomputable def sbuild (T : TypeId → Option TyI) (s : AS) (t : TypeId) (ps : List (Nat × Operand)) : Option HV :=
  match T t with
  | some ⟨.struct fs, _, _, z⟩ => match sPlaces T fs.toList, zcells z, apartsR s ps with
    | some pl, some zs, some qs => match afill (fun i => pl[i]?) qs zs with
      | some cs => some (.agg cs)
      | none => none
    | _, _, _ => none
  | _ => none

noncomputable def ssrc (T : TypeId → Option TyI) (s : AS) (xt : TypeId) (k : Nat) (x : HV) : Option (Nat × List HV) :=
  match T xt, x with
  | some ⟨.slice _, _, _, _⟩, .sl k' m cs => guardO (Nat.beq k' k) (some (m, cs))
  | some ⟨.slice _, _, _, _⟩, .ar id ver k' off m => match hgetR s.heap id with
    | some (ver', .arr _ _ cs) => guardO (Nat.beq ver ver' && (Nat.beq k' k && Nat.ble (off + m * k) cs.length)) (some (m, (cs.drop off).take (m * k)))
    | _ => none
  | some ⟨.slice _, _, _, _⟩, .v (.slice none 0 0) => some (0, [])
  | some ⟨.string, _, _, _⟩, .str l => guardO (Nat.beq k 1) (some (l.length, l.map fun b => .int .u8 b.toNat))
  | _, _ => none

noncomputable def sbase (s : AS) (k : Nat) (e : TypeId) (x : HV) : Option (Nat × List HV) :=
  match x with
  | .v (.slice none 0 0) => some (0, [])
  | .ar id ver k' off n => match hgetR s.heap id with
    | some (ver', .arr _ e' cs) => guardO (Nat.beq ver ver' && (Nat.beq k' k && (Nat.beq e' e && (Nat.beq off 0 && Nat.ble (n * k) cs.length)))) (some (n, cs.take (n * k)))
    | _ => none
  | _ => none

section
variable {P : Program} {T : TypeId → Option TyI} {s : AS} {ρ : Nat → Nat}

theorem sslice_sound (hT : TabOk P T) {t : TypeId} {n k : Nat} {e : TypeId} {ps : List (Nat × Operand)} {cs : List HV} {R : Nat → TypeId → List HV → Prop} (h : sslice T s t n ps = some (k, e, cs)) (hr : R k e (renL ρ cs)) : aslice P (s.ren ρ) t n ps R := by
  unfold sslice at h
  simp only [evR_eq, hgetR_eq, hsetR_eq, sgetR_eq, putR_eq, aslR_eq, apartsR_eq] at h
  split at h
  · rename_i e' _ _ _ ht
    split at h
    · rename_i U hU
      split at h
      · rename_i zs qs hz hq
        obtain ⟨hv, h⟩ := guardO_some h
        simp only [Bool.and_eq_true] at hv
        split at h
        · rename_i cs' hc
          cases h
          have hf := afill_ren ρ (fun i => some (i * U.size, U.size)) qs (zrep zs n)
          rw [hc, zrep_ren ρ (zcells_ren ρ hz)] at hf
          simp only [aslice, hT _ _ ht, hT _ _ hU, hz, aparts_ren, hq, Option.map_some, hf]
          exact ⟨Nat.eq_of_beq_eq_true hv.1, Nat.le_of_ble_eq_true hv.2, hr⟩
        · cases h
      · cases h
    · cases h
  · cases h

theorem sPlaces_sound (hT : TabOk P T) : ∀ {fs : List Field} {l : List (Nat × Nat)}, sPlaces T fs = some l → placesOf P fs = some l
  | [], l, h => h
  | f :: fs, l, h => by
    simp only [sPlaces] at h
    split at h
    · rename_i U l' hU hl
      cases h
      simp [placesOf, hT _ _ hU, sPlaces_sound hT hl]
    · cases h

theorem sbuild_sound (hT : TabOk P T) {t : TypeId} {ps : List (Nat × Operand)} {r : HV} {R : HV → Prop} (h : sbuild T s t ps = some r) (hr : R (r.ren ρ)) : abuild P (s.ren ρ) t ps R := by
  unfold sbuild at h
  simp only [evR_eq, hgetR_eq, hsetR_eq, sgetR_eq, putR_eq, aslR_eq, apartsR_eq] at h
  split at h
  · rename_i fs _ _ z ht
    split at h
    · rename_i pl zs qs hpl hz hq
      split at h
      · rename_i cs hc
        cases h
        have hf := afill_ren ρ (fun i => pl[i]?) qs zs
        rw [hc, zcells_ren ρ hz] at hf
        simp only [abuild, hT _ _ ht, sPlaces_sound hT hpl, hz, aparts_ren, hq, Option.map_some, hf]
        exact hr
      · cases h
    · cases h
  · cases h

theorem bytes_ren (ρ : Nat → Nat) (l : List UInt8) : renL ρ (l.map fun b => HV.int .u8 b.toNat) = l.map fun b => HV.int .u8 b.toNat := by
  induction l with
  | nil => rfl
  | cons b l ih => simp only [List.map_cons, renL, HV.ren, ih]

theorem ssrc_sound (hT : TabOk P T) {xt : TypeId} {k m : Nat} {x : HV} {cs : List HV} (h : ssrc T s xt k x = some (m, cs)) : asrc P (s.ren ρ) xt k (x.ren ρ) fun m' cs' => m' = m ∧ cs' = renL ρ cs := by
  unfold ssrc at h
  simp only [evR_eq, hgetR_eq, hsetR_eq, sgetR_eq, putR_eq, aslR_eq, apartsR_eq] at h
  split at h
  · rename_i e _ _ _ k' m' cs' ht
    obtain ⟨hv, h⟩ := guardO_some h
    cases h
    simp only [asrc, hT _ _ ht, HV.ren]
    exact ⟨Nat.eq_of_beq_eq_true hv, trivial, trivial⟩
  · rename_i e _ _ _ id ver k' off m' ht
    split at h
    · rename_i ver' k2 e2 cs' hg
      obtain ⟨hv, h⟩ := guardO_some h
      cases h
      simp only [Bool.and_eq_true] at hv
      have h1 := Nat.eq_of_beq_eq_true hv.1
      subst h1
      simp only [asrc, hT _ _ ht, HV.ren, hget_s ρ hg, AObj.ren]
      refine ⟨trivial, Nat.eq_of_beq_eq_true hv.2.1, by rw [renL_len]; exact Nat.le_of_ble_eq_true hv.2.2, trivial, ?_⟩
      rw [renL_take, renL_drop]
    · cases h
  · rename_i e _ _ _ ht
    cases h
    simp only [asrc, hT _ _ ht, HV.ren]
    exact ⟨trivial, rfl⟩
  · rename_i _ _ _ l ht
    obtain ⟨hv, h⟩ := guardO_some h
    cases h
    simp only [asrc, hT _ _ ht, HV.ren]
    exact ⟨Nat.eq_of_beq_eq_true hv, trivial, (bytes_ren ρ l).symm⟩
  · cases h

theorem sbase_sound {e : TypeId} {k m : Nat} {x : HV} {cs : List HV} (h : sbase s k e x = some (m, cs)) : abase (s.ren ρ) k e (x.ren ρ) fun m' cs' => m' = m ∧ cs' = renL ρ cs := by
  unfold sbase at h
  simp only [evR_eq, hgetR_eq, hsetR_eq, sgetR_eq, putR_eq, aslR_eq, apartsR_eq] at h
  split at h
  · cases h
    simp only [abase, HV.ren]
    exact ⟨trivial, rfl⟩
  · rename_i id ver k' off m'
    split at h
    · rename_i ver' k2 e2 cs' hg
      obtain ⟨hv, h⟩ := guardO_some h
      cases h
      simp only [Bool.and_eq_true] at hv
      have h1 := Nat.eq_of_beq_eq_true hv.1
      subst h1
      simp only [abase, HV.ren, hget_s ρ hg, AObj.ren]
      refine ⟨trivial, Nat.eq_of_beq_eq_true hv.2.1, Nat.eq_of_beq_eq_true hv.2.2.1, Nat.eq_of_beq_eq_true hv.2.2.2.1, by rw [renL_len]; exact Nat.le_of_ble_eq_true hv.2.2.2.2, trivial, ?_⟩
      rw [renL_take]
    · cases h
  · cases h
end
end Go.AW

/- The evaluation of closed code: one operation, a region, control, calls; and that what it gives is so. -/
namespace Go.AW
open Go
set_option linter.unusedSimpArgs false

/-- what is known of the program: its types, functions, and functions that are known to change nothing, with their results -/
structure Tabs where
  ty : TypeId → Option TyI
  fn : FuncId → Option Func
  ext : FuncId → List HV → Option HV
  /-- functions that sort in place: texts (true), numbers (false) -/
  sort : FuncId → Option Bool
  /-- the slots that are read behind a region: by the function's number of slots, and the region's number -/
  keep : Nat → Nat → Option (List Nat)

structure Tabs.Ok (P : Program) (T : Tabs) : Prop where
  ty : TabOk P T.ty
  fn : ∀ f x, T.fn f = some x → P.funcs[f]? = some x ∧ (x.name == "runtime.NumGoroutine") = false
  ext : ∀ f args r, T.ext f args = some r → Fresh P f args r
  sortS : ∀ f, T.sort f = some true → SortsS P f
  sortI : ∀ f, T.sort f = some false → SortsI P f
  draw : P.follows .mixedOrders = true

def noIterB (id : Nat) : Heap → Bool
  | [] => true
  | (_, _, .iter m _ _ _) :: H => (!Nat.beq m id) && noIterB id H
  | _ :: H => noIterB id H

def unseen (seen : List (List UInt8)) : List (List UInt8 × HV) → List (List UInt8 × HV)
  | [] => []
  | (k, v) :: es => if k ∈ seen then unseen seen es else (k, v) :: unseen seen es

noncomputable def opBox (o : Oper) (s : AS) (n : Nat) (e : TypeId) (x : Operand) : Option (AS × Nat) := match s.evR x with
    | some hv => match hv.cells? with
      | some cs => new s n o.dst n (.arr cs.length e cs) (.ptr n n 0)
      | none => none
    | none => none
noncomputable def opAlloc (T : Tabs) (o : Oper) (s : AS) (n : Nat) (e : TypeId) : Option (AS × Nat) := match T.ty e with
    | some U => match zcells U.zero with
      | some zs => new s n o.dst n (.arr zs.length e zs) (.ptr n n 0)
      | none => none
    | none => none
noncomputable def opStore (T : Tabs) (o : Oper) (s : AS) (n : Nat) (t : TypeId) (x y : Operand) : Option (AS × Nat) := match s.evR x, s.evR y, T.ty t with
    | some (.ptr id ver off), some hv, some U => match hv.cells?, hgetR s.heap id with
      | some cs, some (ver', .arr k e xs) => guardO (Nat.beq ver ver' && (Nat.beq U.size cs.length && Nat.ble (off + cs.length) xs.length))
          (guardO (scL n (splice xs off cs)) (some (({ s with heap := hsetR s.heap id ver (.arr k e (splice xs off cs)) } : AS).putR o.dst (.v undef), n)))
      | _, _ => none
    | _, _, _ => none
noncomputable def opBuildSlice (T : Tabs) (o : Oper) (s : AS) (n : Nat) (t : TypeId) (m : Nat) (ps : Array (Nat × Operand)) : Option (AS × Nat) := guardO (Nat.ble m 16777216) (match sslice T.ty s t m ps.toList with
    | some (k, e, cs) => new s n o.dst n (.arr k e cs) (.ar n n k 0 m)
    | none => none)
noncomputable def opMakeSlice (T : Tabs) (o : Oper) (s : AS) (n : Nat) (t : TypeId) (x y : Operand) : Option (AS × Nat) := match T.ty t, s.evR x, s.evR y with
    | some ⟨.slice e, _, _, _⟩, some (.int .i64 l), some (.int .i64 c) => match T.ty e with
      | some Te => match zcells Te.zero with
        | some zs => guardO (Nat.beq zs.length Te.size && decide (0 ≤ l ∧ l ≤ c ∧ c * Te.bytes ≤ 281474976710656)) (new s n o.dst n (.arr Te.size e (zrep zs l.toNat)) (.ar n n Te.size 0 l.toNat))
        | none => none
      | none => none
    | _, _, _ => none
noncomputable def opAppend (T : Tabs) (o : Oper) (s : AS) (n : Nat) (aa : Array Operand) (ts : Array TypeId) : Option (AS × Nat) := match aa.toList, ts.toList with
    | [x, y], [t, xt] => match T.ty t, s.evR x, s.evR y with
      | some ⟨.slice e, _, _, _⟩, some hx, some hy => match T.ty e with
        | some Te => match sbase s Te.size e hx, ssrc T.ty s xt Te.size hy with
          | some (m, cs), some (m', ds) => guardO ((zcells Te.zero).any (fun zs => zs.length == Te.size) && (Nat.ble ((m + m') * Te.bytes) 140737488355328 && Nat.ble (m + m') maxLen))
              (new s n o.dst (baseId hx n) (.arr Te.size e (cs ++ ds)) (.ar (baseId hx n) n Te.size 0 (m + m')))
          | _, _ => none
        | none => none
      | _, _, _ => none
    | _, _ => none
noncomputable def opClear (T : Tabs) (o : Oper) (s : AS) (n : Nat) (aa : Array Operand) (ts : Array TypeId) : Option (AS × Nat) := match aa.toList, ts.toList with
    | [x], [t] => match T.ty t, s.evR x with
      | some ⟨.slice e, _, _, _⟩, some (.ar id ver _ off n') => match T.ty e, hgetR s.heap id with
        | some Te, some (ver', .arr k' e' xs) => match zcells Te.zero with
          | some [z] => guardO (Nat.beq ver ver' && Nat.ble (off + n') xs.length) (guardO (scL n (xs.take off ++ List.replicate n' z ++ xs.drop (off + n')))
              (some (({ s with heap := hsetR s.heap id ver (.arr k' e' (xs.take off ++ List.replicate n' z ++ xs.drop (off + n'))) } : AS).putR o.dst (.tup []), n)))
          | _ => none
        | _, _ => none
      | _, _ => none
    | _, _ => none
noncomputable def opCopy (T : Tabs) (o : Oper) (s : AS) (n : Nat) (aa : Array Operand) (ts : Array TypeId) : Option (AS × Nat) := match aa.toList, ts.toList with
    | [x, y], [t, xt] => match T.ty t, s.evR x, s.evR y with
      | some ⟨.slice e, _, _, _⟩, some (.ar id ver _ off n'), some hy => match T.ty e, hgetR s.heap id with
        | some Te, some (ver', .arr k' e' xs) => match ssrc T.ty s xt Te.size hy with
          | some (m, ds) => guardO (Nat.beq ver ver' && (!isStr hy && Nat.ble (off + n' * Te.size) xs.length)) (guardO (scL n (xs.take off ++ ds.take (min m n' * Te.size) ++ xs.drop (off + min m n' * Te.size)))
              (some (({ s with heap := hsetR s.heap id ver (.arr k' e' (xs.take off ++ ds.take (min m n' * Te.size) ++ xs.drop (off + min m n' * Te.size))) } : AS).putR o.dst (.int .i64 ((min m n' : Nat) : Int)), n)))
          | none => none
        | _, _ => none
      | _, _, _ => none
    | _, _ => none
noncomputable def opCall (r : Task → Option Out) (o : Oper) (s : AS) (n : Nat) (f : Operand) (aa : Array Operand) : Option (AS × Nat) := match s.evR f, aa.toList.mapM s.evR with
    | some (.fn (.func g) fs cs), some hs => guardO (scL n (fs ++ hs ++ cs)) (match r (.call g (fs ++ hs ++ cs) s.heap n) with
      | some (.call rv H n') => some (({ s with heap := H } : AS).putR o.dst rv, n')
      | _ => none)
    | some (.yl id ver), some hs => match hgetR s.heap id with
      | some (ver', .loop .ready none f m snap ps assign body) => guardO (Nat.beq ver ver' && (Nat.beq ps.size hs.length && (ps.toList.all fun p => Nat.blt p m))) (guardO (scS n (setPs snap ps.toList hs))
          (match r (.code false m assign ⟨setPs snap ps.toList hs, s.heap⟩ n) with
          | some (.code .normal s1 n1) => match hgetR s1.heap id with
            | some (_, .loop .ready none _ _ _ _ _ _) => match r (.code false m body { s1 with heap := hsetR s1.heap id ver (.loop .busy none f m snap ps assign body) } n1) with
              | some (.code e s2 n2) => match hgetR s2.heap id with
                | some (_, .loop .busy none _ _ _ _ _ _) => match e with
                  | .normal => some (({ s with heap := hsetR s2.heap id ver (.loop .ready none f m snap ps assign body) } : AS).putR o.dst (.bool true), n2)
                  | .ret => some (({ s with heap := hsetR s2.heap id ver (.loop .done (some .ret) f m snap ps assign body) } : AS).putR o.dst (.bool false), n2)
                  | .exit i => some (({ s with heap := hsetR s2.heap id ver (.loop .done (some (.exit i)) f m snap ps assign body) } : AS).putR o.dst (.bool false), n2)
                  | _ => none
                | _ => none
              | _ => none
            | _ => none
          | _ => none))
      | _ => none
    | _, _ => none
noncomputable def opBuild (T : Tabs) (o : Oper) (s : AS) (n : Nat) (t : TypeId) (ps : Array (Nat × Operand)) : Option (AS × Nat) := match sbuild T.ty s t ps.toList with
    | some r => fin s n o.dst r
    | none => none
noncomputable def opMapUpdate (T : Tabs) (o : Oper) (s : AS) (n : Nat) (t : TypeId) (m x y : Operand) : Option (AS × Nat) := match T.ty t, s.evR m, s.evR x, s.evR y with
    | some ⟨.map kt _, _, _, _⟩, some (.mp id ver), some (.str k), some hv => match T.ty kt, hgetR s.heap id with
      | some ⟨.string, _, _, _⟩, some (ver', .map es) => guardO (Nat.beq ver ver' && noIterB id s.heap) (guardO (scE n (mput k hv es))
          (some (({ s with heap := hsetR s.heap id ver (.map (mput k hv es)) } : AS).putR o.dst (.v undef), n)))
      | _, _ => none
    | _, _, _, _ => none
noncomputable def opLookup (T : Tabs) (o : Oper) (s : AS) (n : Nat) (t : TypeId) (m x : Operand) : Option (AS × Nat) := match T.ty t, s.evR m, s.evR x with
    | some ⟨.map kt et, _, _, _⟩, some (.mp id ver), some (.str k) => match T.ty kt, T.ty et, hgetR s.heap id with
      | some ⟨.string, _, _, _⟩, some Te, some (ver', .map es) => match constHV Te.zero with
        | some z => guardO (Nat.beq ver ver') (fin s n o.dst ((alook k es).getD z))
        | none => none
      | _, _, _ => none
    | _, _, _ => none
noncomputable def opRange (T : Tabs) (o : Oper) (s : AS) (n : Nat) (t : TypeId) (m : Operand) : Option (AS × Nat) := match T.ty t, s.evR m with
    | some ⟨.map _ _, _, _, _⟩, some (.mp mid mver) => match hgetR s.heap mid with
      | some (mver', .map _) => guardO (Nat.beq mver mver') (new s n o.dst n (.iter mid mver [] false) (.it n n))
      | _ => none
    | _, _ => none
noncomputable def opNext (o : Oper) (s : AS) (n : Nat) (x : Operand) : Option (AS × Nat) := match s.evR x with
    | some (.it id ver) => match hgetR s.heap id with
      | some (ver', .iter mid mver seen _) => match hgetR s.heap mid with
        | some (mver', .map es) => guardO (Nat.beq ver ver' && Nat.beq mver mver') (match unseen seen es with
          | [] => fin s n o.dst (.tup [.bool false])
          | [(k, v)] => guardO (v.sc n) (some (({ s with heap := hsetR s.heap id ver (.iter mid mver (k :: seen) true) } : AS).putR o.dst (.tup [.bool true, .str k, v]), n))
          | _ => none)
        | _ => none
      | _ => none
    | _ => none
noncomputable def opEntry (o : Oper) (s : AS) (n : Nat) (x : Operand) : Option (AS × Nat) := match s.evR x with
    | some (.it id ver) => match hgetR s.heap id with
      | some (ver', .iter mid mver (k :: _) true) => match hgetR s.heap mid with
        | some (mver', .map es) => guardO (Nat.beq ver ver' && Nat.beq mver mver') (match alook k es with
          | some v => fin s n o.dst (.tup [.str k, v])
          | none => none)
        | _ => none
      | _ => none
    | _ => none

noncomputable def sop (r : Task → Option Out) (T : Tabs) (o : Oper) (s : AS) (n : Nat) : Option (AS × Nat) :=
  match o.op with
  | .box e x => opBox o s n e x
  | .alloc e => opAlloc T o s n e
  | .store t x y => opStore T o s n t x y
  | .buildSlice t m ps => opBuildSlice T o s n t m ps
  | .makeSlice t x y => opMakeSlice T o s n t x y
  | .call ⟨.builtin .append, aa, ts⟩ => opAppend T o s n aa ts
  | .call ⟨.builtin .clear, aa, ts⟩ => opClear T o s n aa ts
  | .call ⟨.builtin .copy, aa, ts⟩ => opCopy T o s n aa ts
  | .call ⟨.value f, aa, _⟩ => opCall r o s n f aa
  | .build t ps => opBuild T o s n t ps
  | .makeMap _ none => new s n o.dst n (.map []) (.mp n n)
  | .mapUpdate t m x y => opMapUpdate T o s n t m x y
  | .insert t m x y => opMapUpdate T o s n t m x y
  | .lookup t m x false => opLookup T o s n t m x
  | .range t m => opRange T o s n t m
  | .next x false => opNext o s n x
  | .entry x => opEntry o s n x
  | op => match sval T.ty op s with
    | some h => fin s n o.dst h
    | none => none

theorem alook_ren (ρ : Nat → Nat) (k : List UInt8) : ∀ es, alook k (renE ρ es) = (alook k es).map (HV.ren ρ)
  | [] => rfl
  | (q, h) :: es => by
    simp only [renE, alook]
    split
    · rfl
    · exact alook_ren ρ k es

theorem mput_ren (ρ : Nat → Nat) (k : List UInt8) (h : HV) : ∀ es, renE ρ (mput k h es) = mput k (h.ren ρ) (renE ρ es)
  | [] => rfl
  | (q, g) :: es => by
    simp only [renE, mput]
    split
    · rfl
    · simp only [renE, mput_ren ρ k h es]

theorem noIterB_sound {id : Nat} {ρ : Nat → Nat} : ∀ {H : Heap}, noIterB id H = true → noIter id (renH ρ H)
  | [], _ => trivial
  | (i, v, .iter m mv seen cur) :: H, h => by
    simp only [noIterB, Bool.and_eq_true] at h
    refine ⟨fun e => ?_, noIterB_sound h.2⟩
    subst e
    simp at h
  | (i, v, .arr _ _ _) :: H, h => noIterB_sound (H := H) h
  | (i, v, .map _) :: H, h => noIterB_sound (H := H) h
  | (i, v, .loop _ _ _ _ _ _ _ _) :: H, h => noIterB_sound (H := H) h

theorem mem_renE {ρ : Nat → Nat} {k : List UInt8} {v : HV} : ∀ {es : List (List UInt8 × HV)}, (k, v) ∈ renE ρ es → ∃ u, (k, u) ∈ es ∧ v = u.ren ρ
  | [], h => by cases h
  | (q, g) :: es, h => by
    simp only [renE, List.mem_cons] at h
    rcases h with h | h
    · cases h; exact ⟨g, List.mem_cons_self .., rfl⟩
    · obtain ⟨u, h1, h2⟩ := mem_renE h
      exact ⟨u, List.mem_cons_of_mem _ h1, h2⟩

theorem mem_renE' {ρ : Nat → Nat} {k : List UInt8} {u : HV} : ∀ {es : List (List UInt8 × HV)}, (k, u) ∈ es → (k, u.ren ρ) ∈ renE ρ es
  | [], h => by cases h
  | (q, g) :: es, h => by
    simp only [renE, List.mem_cons] at h ⊢
    rcases h with h | h
    · cases h; exact .inl rfl
    · exact .inr (mem_renE' h)

theorem mem_unseen {seen : List (List UInt8)} {k : List UInt8} {v : HV} : ∀ {es : List (List UInt8 × HV)}, (k, v) ∈ unseen seen es ↔ (k, v) ∈ es ∧ k ∉ seen
  | [] => by simp [unseen]
  | (q, g) :: es => by
    simp only [unseen]
    split
    · rename_i hq
      rw [mem_unseen (es := es)]
      simp only [List.mem_cons]
      constructor
      · exact fun h => ⟨.inr h.1, h.2⟩
      · rintro ⟨h | h, h2⟩
        · cases h; exact absurd hq h2
        · exact ⟨h, h2⟩
    · rename_i hq
      simp only [List.mem_cons, mem_unseen (es := es)]
      constructor
      · rintro (h | h)
        · cases h; exact ⟨.inl rfl, hq⟩
        · exact ⟨.inr h.1, h.2⟩
      · rintro ⟨h | h, h2⟩
        · exact .inl h
        · exact .inr ⟨h, h2⟩

section
variable {P : Program} {T : Tabs} {N n n' : Nat} {o : Oper} {s s' : AS} {r : Task → Option Out}

/-- an object in place changes -/
theorem set_ok {id ver : Nat} {x ob : AObj} {h : HV} (hs : s.sc n = true) (hg : hget s.heap id = some (ver, x)) (hx : ∀ st pend f n snap ps a b, x ≠ .loop st pend f n snap ps a b) (ho : ob.sc n = true) (hh : h.sc n = true)
    (hk : ∀ (ρ : Nat → Nat) (ro : Option Nat) (K : AS → Prop), K ((⟨(s.ren ρ).slots, hset (s.ren ρ).heap id (ρ ver) (ob.ren ρ)⟩ : AS).put o.dst (h.ren ρ)) → AOp P ro N o K (s.ren ρ)) :
    OpOk P N o s n (({ s with heap := hset s.heap id ver ob } : AS).put o.dst h) n := by
  have hl := sch_get (sc_heap_of hs) hg
  refine ⟨sc_put (sc_heap hs hl.1.1 hl.1.2 ho) hh, ?_, fun ρ ro K hK => hk ρ ro K ?_⟩
  · rw [put_heap']
    exact ⟨Nat.le_refl _, LoopKeep.set fun v st pend f n snap ps a b e => by rw [hg] at e; cases e; exact hx _ _ _ _ _ _ _ _ rfl, Back.set (.inr ⟨_, hg⟩)⟩
  · have := hK ρ (Agree.refl _ _)
    rw [ren_put] at this
    simpa only [AS.ren, renH_set] using this

theorem evL_sc {xs : List Operand} {hs : List HV} (h : xs.mapM s.ev = some hs) (ρ : Nat → Nat) : xs.mapM (s.ren ρ).ev = some (renL ρ hs) := by rw [evL_ren, h]; rfl

theorem setPs_ren (ρ : Nat → Nat) : ∀ (ps : List Tmp) (snap : List (Nat × HV)) (hs : List HV), renS ρ (setPs snap ps hs) = setPs (renS ρ snap) ps (renL ρ hs)
  | [], snap, hs => by simp [setPs]
  | p :: ps, snap, [] => by simp [setPs, renL]
  | p :: ps, snap, h :: hs => by simp only [setPs, renL, setPs_ren ρ ps, renS_set]

theorem sval_ok (hT : T.Ok P) (hN : okd N o.dst = true) (hs : s.sc n = true) (h : (match sval T.ty o.op s with
    | some h => fin s n o.dst h
    | none => none) = some (s', n')) : OpOk P N o s n s' n' := by
  split at h
  · rename_i hv hev
    exact fin_ok hs h fun ρ ro K hK => AOp.pure hN (sval_sound hT.ty hev hK)
  · cases h

theorem yield_ok (hr : Good P r) (hN : okd N o.dst = true) (hs : s.sc n = true) {c : Call} {g : Operand} {id ver : Nat} {hs' : List HV} (hop : o.op = .call c) (hc : c.callee = .value g) (hg : s.ev g = some (.yl id ver)) (ha : c.args.toList.mapM s.ev = some hs')
    (h : (match hget s.heap id with
      | some (ver', .loop .ready none f m snap ps assign body) => guardO (Nat.beq ver ver' && (Nat.beq ps.size hs'.length && (ps.toList.all fun p => Nat.blt p m))) (guardO (scS n (setPs snap ps.toList hs'))
          (match r (.code false m assign ⟨setPs snap ps.toList hs', s.heap⟩ n) with
          | some (.code .normal s1 n1) => match hget s1.heap id with
            | some (_, .loop .ready none _ _ _ _ _ _) => match r (.code false m body { s1 with heap := hset s1.heap id ver (.loop .busy none f m snap ps assign body) } n1) with
              | some (.code e s2 n2) => match hget s2.heap id with
                | some (_, .loop .busy none _ _ _ _ _ _) => match e with
                  | .normal => some (({ s with heap := hset s2.heap id ver (.loop .ready none f m snap ps assign body) } : AS).put o.dst (.bool true), n2)
                  | .ret => some (({ s with heap := hset s2.heap id ver (.loop .done (some .ret) f m snap ps assign body) } : AS).put o.dst (.bool false), n2)
                  | .exit i => some (({ s with heap := hset s2.heap id ver (.loop .done (some (.exit i)) f m snap ps assign body) } : AS).put o.dst (.bool false), n2)
                  | _ => none
                | _ => none
              | _ => none
            | _ => none
          | _ => none))
      | _ => none) = some (s', n')) : OpOk P N o s n s' n' := by
  have hsh := sc_heap_of hs
  split at h
  · rename_i ver' f m snap ps assign body hgl
    replace h := guardO_some h
    obtain ⟨h1, h⟩ := h
    replace h := guardO_some h
    obtain ⟨h2, h⟩ := h
    simp only [Bool.and_eq_true, List.all_eq_true] at h1
    have hv := Nat.eq_of_beq_eq_true h1.1
    subst hv
    have hps := Nat.eq_of_beq_eq_true h1.2.1
    have hpm : ∀ p ∈ ps.toList, p < m := fun p hp => blt_lt (h1.2.2 p hp)
    have hlsc := sch_get hsh hgl
    split at h
    · rename_i s1 n1 hr1
      obtain ⟨hs1, st1, hw1⟩ := hr _ _ hr1 (by simp only [AS.sc, h2, hsh, Bool.and_self])
      split at h
      · rename_i v1 f1 m1 snap1 ps1 as1 bd1 hg1
        obtain ⟨_, _, he1⟩ := st1.loop _ _ _ _ _ _ _ _ _ _ hgl _ hg1
        cases he1
        have hlsc1 := sch_get (sc_heap_of hs1) hg1
        have hsb : ({ s1 with heap := hset s1.heap id ver (.loop .busy none f m snap ps assign body) } : AS).sc n1 = true := sc_heap hs1 hlsc1.1.1 hlsc1.1.2 hlsc1.2
        split at h
        · rename_i e s2 n2 hr2
          obtain ⟨hs2, st2, hw2⟩ := hr _ _ hr2 hsb
          have stb : Step n1 n1 s1.heap (hset s1.heap id ver (.loop .busy none f m snap ps assign body)) := ⟨Nat.le_refl _, LoopKeep.setL hg1, Back.set (.inr ⟨_, hg1⟩)⟩
          have st12 := (st1.trans hsh stb).trans hsh st2
          split at h
          · rename_i v2 f2 m2 snap2 ps2 as2 bd2 hg2
            obtain ⟨_, _, he2⟩ := st12.loop _ _ _ _ _ _ _ _ _ _ hgl _ hg2
            cases he2
            have hlsc2 := sch_get (sc_heap_of hs2) hg2
            -- what a round comes to
            have done : ∀ (st : LoopState) (pend : Option Code) (b : Bool), (∀ (ρ' : Nat → Nat) (K : HV → Heap → Prop) (e' : Exit), e' = e →
                  K (.bool b) (hset (s2.ren ρ').heap id (ρ' ver) (.loop st pend (ρ' f) m (renS ρ' snap) ps assign body)) → rndQ id (ρ' ver) (ρ' f) m (renS ρ' snap) ps assign body K e' (s2.ren ρ')) →
                OpOk P N o s n (({ s with heap := hset s2.heap id ver (.loop st pend f m snap ps assign body) } : AS).put o.dst (.bool b)) n2 := by
              intro st pend b hq
              have hsn : ({ s with heap := hset s2.heap id ver (.loop st pend f m snap ps assign body) } : AS).sc n2 = true := by
                have := scS_mono st12.le _ (sc_slots_of hs)
                have h3 := scH_set _ id ver (.loop st pend f m snap ps assign body) (sc_heap_of hs2) hlsc2.1.1 hlsc2.1.2 hlsc2.2
                simp only [AS.sc, this, h3, Bool.and_self]
              refine ⟨sc_put hsn rfl, ?_, fun ρ ro K hK => ?_⟩
              · rw [put_heap']
                exact st12.trans hsh ⟨Nat.le_refl _, LoopKeep.setL hg2, Back.set (.inr ⟨_, hg2⟩)⟩
              · have hg' : (s.ren ρ).ev g = some (.yl id (ρ ver)) := by rw [ev_ren, hg]; rfl
                refine AOp.yield hop hc hN hg' (evL_sc ha ρ) ?_
                refine ⟨ρ f, m, renS ρ snap, ps, assign, body, hget_s ρ hgl, by rw [renL_len]; exact hps, hpm, fun l => ?_⟩
                have e0 : (⟨setPs (renS ρ snap) ps.toList (renL ρ hs'), (s.ren ρ).heap⟩ : AS) = (⟨setPs snap ps.toList hs', s.heap⟩ : AS).ren ρ := by simp only [AS.ren, setPs_ren]
                rw [e0]
                refine hw1 ρ (some l) _ (fun h => by cases h) fun ρ1 ha1 => ⟨rfl, ?_, ?_⟩
                · have := hget_s ρ1 hg1
                  simp only [AObj.ren] at this
                  rw [this, ha1 ver hlsc.1.2]
                  have h4 := hlsc.2
                  simp only [AObj.sc, Bool.and_eq_true] at h4
                  rw [ha1 f (blt_lt h4.1), renS_agree ha1 _ h4.2]
                · have h4 := hlsc.2
                  simp only [AObj.sc, Bool.and_eq_true] at h4
                  have e1 : ({ s1.ren ρ1 with heap := hset (s1.ren ρ1).heap id (ρ ver) (.loop .busy none (ρ f) m (renS ρ snap) ps assign body) } : AS) = ({ s1 with heap := hset s1.heap id ver (.loop .busy none f m snap ps assign body) } : AS).ren ρ1 := by
                    simp only [AS.ren, renH_set, AObj.ren]
                    rw [ha1 ver hlsc.1.2, ha1 f (blt_lt h4.1), renS_agree ha1 _ h4.2]
                  rw [e1]
                  refine hw2 ρ1 (some l) _ (fun h => by cases h) fun ρ2 ha2 => ?_
                  have ha02 : Agree n ρ ρ2 := ha1.trans st1.le ha2
                  rw [ha02 ver hlsc.1.2, ha02 f (blt_lt h4.1), renS_agree ha02 _ h4.2]
                  refine hq ρ2 _ e rfl ?_
                  have := hK ρ2 ha02
                  rw [ren_put] at this
                  have e2 : ({ s with heap := hset s2.heap id ver (.loop st pend f m snap ps assign body) } : AS).ren ρ2 = { s.ren ρ with heap := hset (s2.ren ρ2).heap id (ρ2 ver) (.loop st pend (ρ2 f) m (renS ρ2 snap) ps assign body) } := by
                    simp only [AS.ren, renH_set, AObj.ren]
                    rw [renS_agree ha02 _ (sc_slots_of hs)]
                  rw [e2] at this
                  exact this
            have hgb : ∀ ρ' : Nat → Nat, hget (s2.ren ρ').heap id = some (ρ' ver, .loop .busy none (ρ' f) m (renS ρ' snap) ps assign body) := fun ρ' => hget_s ρ' hg2
            split at h
            · cases h
              exact done _ _ _ fun ρ' K e' he hK => by subst he; exact ⟨hgb ρ', hK⟩
            · cases h
              exact done _ _ _ fun ρ' K e' he hK => by subst he; exact ⟨hgb ρ', hK⟩
            · cases h
              exact done _ _ _ fun ρ' K e' he hK => by subst he; exact ⟨hgb ρ', hK⟩
            · cases h
          · cases h
        · cases h
      · cases h
    · cases h
  · cases h

theorem sop_ok (hT : T.Ok P) (hr : Good P r) (hN : okd N o.dst = true) (hs : s.sc n = true) (h : sop r T o s n = some (s', n')) : OpOk P N o s n s' n' := by
  have hsh := sc_heap_of hs
  have self : ∀ m, Nat.blt m (m + 1) = true := fun m => by simp [Nat.blt_eq]
  unfold sop at h
  split at h
  · -- box
    rename_i e x hop
    unfold opBox at h
    try simp only [evR_eq, hgetR_eq, hsetR_eq, sgetR_eq, putR_eq, aslR_eq, apartsR_eq] at h
    split at h
    · rename_i hv hx
      split at h
      · rename_i cs hcs
        refine new_ok (ob := .arr cs.length e cs) (h := .ptr n n 0) hs (.inl rfl) (self n) h fun ρ ro K hK => ?_
        have h1 : (s.ren ρ).ev x = some (hv.ren ρ) := by rw [ev_ren, hx]; rfl
        have h2 : (hv.ren ρ).cells? = some (renL ρ cs) := by rw [cells_ren, hcs]; rfl
        refine AOp.boxM n hop hN h1 h2 fun ver => ?_
        have := hK ver
        simp only [HV.ren, upd_at, AObj.ren] at this
        rw [renL_len]
        exact this
      · cases h
    · cases h
  · -- alloc
    rename_i e hop
    unfold opAlloc at h
    try simp only [evR_eq, hgetR_eq, hsetR_eq, sgetR_eq, putR_eq, aslR_eq, apartsR_eq] at h
    split at h
    · rename_i U hU
      split at h
      · rename_i zs hz
        refine new_ok (ob := .arr zs.length e zs) (h := .ptr n n 0) hs (.inl rfl) (self n) h fun ρ ro K hK => ?_
        refine AOp.alloc n hop hN (hT.ty _ _ hU) hz fun ver => ?_
        have := hK ver
        simp only [HV.ren, upd_at, AObj.ren, zcells_ren ρ hz] at this
        exact this
      · cases h
    · cases h
  · -- store
    rename_i t x y hop
    unfold opStore at h
    try simp only [evR_eq, hgetR_eq, hsetR_eq, sgetR_eq, putR_eq, aslR_eq, apartsR_eq] at h
    split at h
    · rename_i id ver off hv U hx hy hU
      split at h
      · rename_i cs ver' k e xs hcs hg
        replace h := guardO_some h
        obtain ⟨h1, h⟩ := h
        replace h := guardO_some h
        obtain ⟨h2, h⟩ := h
        cases h
        simp only [Bool.and_eq_true] at h1
        have hv' := Nat.eq_of_beq_eq_true h1.1
        subst hv'
        refine set_ok (x := .arr k e xs) hs hg (by intros; simp) h2 rfl fun ρ ro K hK => ?_
        have e1 : (s.ren ρ).ev x = some (.ptr id (ρ ver) off) := by rw [ev_ren, hx]; rfl
        have e2 : (s.ren ρ).ev y = some (hv.ren ρ) := by rw [ev_ren, hy]; rfl
        have e3 : (hv.ren ρ).cells? = some (renL ρ cs) := by rw [cells_ren, hcs]; rfl
        refine AOp.store hop hN e1 e2 e3 (hget_s ρ hg) (hT.ty _ _ hU) (by rw [renL_len]; exact Nat.eq_of_beq_eq_true h1.2.1) (by rw [renL_len, renL_len]; exact Nat.le_of_ble_eq_true h1.2.2) ?_
        simp only [AObj.ren, renL_splice] at hK
        exact hK
      · cases h
    · cases h
  · -- buildSlice
    rename_i t m ps hop
    unfold opBuildSlice at h
    try simp only [evR_eq, hgetR_eq, hsetR_eq, sgetR_eq, putR_eq, aslR_eq, apartsR_eq] at h
    replace h := guardO_some h
    obtain ⟨h1, h⟩ := h
    split at h
    · rename_i k e cs hsl
      refine new_ok (ob := .arr k e cs) (h := .ar n n k 0 m) hs (.inl rfl) (self n) h fun ρ ro K hK => ?_
      refine AOp.buildSliceM n hop hN (Nat.le_of_ble_eq_true h1) (sslice_sound hT.ty hsl fun ver => ?_)
      have := hK ver
      simp only [HV.ren, upd_at, AObj.ren] at this
      exact this
    · cases h
  · -- makeSlice
    rename_i t x y hop
    unfold opMakeSlice at h
    try simp only [evR_eq, hgetR_eq, hsetR_eq, sgetR_eq, putR_eq, aslR_eq, apartsR_eq] at h
    split at h
    · rename_i e sz by' z l c hU hx hy
      split at h
      · rename_i Te hTe
        split at h
        · rename_i zs hz
          replace h := guardO_some h
          obtain ⟨h1, h⟩ := h
          simp only [Bool.and_eq_true] at h1
          obtain ⟨h2, h3, h4⟩ := of_decide_eq_true h1.2
          refine new_ok (ob := .arr Te.size e (zrep zs l.toNat)) (h := .ar n n Te.size 0 l.toNat) hs (.inl rfl) (self n) h fun ρ ro K hK => ?_
          have e1 : (s.ren ρ).ev x = some (.int .i64 l) := by rw [ev_ren, hx]; rfl
          have e2 : (s.ren ρ).ev y = some (.int .i64 c) := by rw [ev_ren, hy]; rfl
          refine AOp.makeSlice (k1 := .i64) (k2 := .i64) n hop hN (hT.ty _ _ hU) rfl (hT.ty _ _ hTe) hz (Nat.eq_of_beq_eq_true h1.1) e1 e2 h2 h3 h4 fun ver => ?_
          have := hK ver
          simp only [HV.ren, upd_at, AObj.ren, zrep_ren ρ (zcells_ren ρ hz)] at this
          exact this
        · cases h
      · cases h
    · cases h
  · -- append
    rename_i aa ts hop
    unfold opAppend at h
    try simp only [evR_eq, hgetR_eq, hsetR_eq, sgetR_eq, putR_eq, aslR_eq, apartsR_eq] at h
    split at h
    · rename_i x y t xt ha ht
      split at h
      · rename_i e sz by' z hx hy hU hex hey
        split at h
        · rename_i Te hTe
          split at h
          · rename_i m cs m' ds hb hsr
            replace h := guardO_some h
            obtain ⟨h1, h⟩ := h
            simp only [Bool.and_eq_true] at h1
            have has : aa = #[x, y] := Array.toList_inj.1 (by simpa using ha)
            have hts : ts = #[t, xt] := Array.toList_inj.1 (by simpa using ht)
            subst has hts
            have hid : baseId hx n = n ∨ ∃ v k e' cs', hget s.heap (baseId hx n) = some (v, .arr k e' cs') := by
              unfold sbase at hb
              rw [hgetR_eq] at hb
              split at hb
              · exact .inl rfl
              · rename_i id ver k' off n2
                split at hb
                · rename_i ver' k2 e2 cs2 hg
                  exact .inr ⟨_, _, _, _, hg⟩
                · cases hb
              · cases hb
            refine new_ok (ob := .arr Te.size e (cs ++ ds)) (h := .ar (baseId hx n) n Te.size 0 (m + m')) hs hid (self n) h fun ρ ro K hK => ?_
            have e1 : (s.ren ρ).ev x = some (hx.ren ρ) := by rw [ev_ren, hex]; rfl
            have e2 : (s.ren ρ).ev y = some (hy.ren ρ) := by rw [ev_ren, hey]; rfl
            have e3 : baseId (hx.ren ρ) n = baseId hx n := by cases hx <;> rfl
            refine AOp.append n hop hN (hT.ty _ _ hU) rfl (hT.ty _ _ hTe) h1.1 e1 e2 (sbase_sound hb) (ssrc_sound hT.ty hsr) (Nat.le_of_ble_eq_true h1.2.1) (Nat.le_of_ble_eq_true h1.2.2) fun ver => ?_
            rw [e3]
            have := hK ver
            simp only [HV.ren, upd_at, AObj.ren, renL_append] at this
            exact this
          · cases h
        · cases h
      · cases h
    · cases h
  · -- clear
    rename_i aa ts hop
    unfold opClear at h
    try simp only [evR_eq, hgetR_eq, hsetR_eq, sgetR_eq, putR_eq, aslR_eq, apartsR_eq] at h
    split at h
    · rename_i x t ha ht
      split at h
      · rename_i e sz by' z id ver k off m hU hx
        split at h
        · rename_i Te ver' k' e' xs hTe hg
          split at h
          · rename_i z' hz
            replace h := guardO_some h
            obtain ⟨h1, h⟩ := h
            replace h := guardO_some h
            obtain ⟨h2, h⟩ := h
            cases h
            simp only [Bool.and_eq_true] at h1
            have hv' := Nat.eq_of_beq_eq_true h1.1
            subst hv'
            have has : aa = #[x] := Array.toList_inj.1 (by simpa using ha)
            have hts : ts = #[t] := Array.toList_inj.1 (by simpa using ht)
            subst has hts
            refine set_ok (x := .arr k' e' xs) hs hg (by intros; simp) h2 rfl fun ρ ro K hK => ?_
            have e1 : (s.ren ρ).ev x = some (.ar id (ρ ver) k off m) := by rw [ev_ren, hx]; rfl
            refine AOp.clear hop hN (hT.ty _ _ hU) rfl (hT.ty _ _ hTe) hz e1 (hget_s ρ hg) (by rw [renL_len]; exact Nat.le_of_ble_eq_true h1.2) ?_
            have hzr : z'.ren ρ = z' := by
              have := zcells_ren ρ hz
              simp only [renL, List.cons.injEq, and_true] at this
              exact this
            have hrr : renL ρ (List.replicate m z') = List.replicate m z' := by rw [renL_map, List.map_replicate, hzr]
            simp only [AObj.ren, renL_append, renL_take, renL_drop, hrr] at hK
            exact hK
          · cases h
        · cases h
      · cases h
    · cases h
  · -- copy
    rename_i aa ts hop
    unfold opCopy at h
    try simp only [evR_eq, hgetR_eq, hsetR_eq, sgetR_eq, putR_eq, aslR_eq, apartsR_eq] at h
    split at h
    · rename_i x y t xt ha ht
      split at h
      · rename_i e sz by' z id ver k off m' hy hU hex hey
        split at h
        · rename_i Te ver' k' e' xs hTe hg
          split at h
          · rename_i m ds hsr
            replace h := guardO_some h
            obtain ⟨h1, h⟩ := h
            replace h := guardO_some h
            obtain ⟨h2, h⟩ := h
            cases h
            simp only [Bool.and_eq_true] at h1
            have hv' := Nat.eq_of_beq_eq_true h1.1
            subst hv'
            have has : aa = #[x, y] := Array.toList_inj.1 (by simpa using ha)
            have hts : ts = #[t, xt] := Array.toList_inj.1 (by simpa using ht)
            subst has hts
            refine set_ok (x := .arr k' e' xs) hs hg (by intros; simp) h2 rfl fun ρ ro K hK => ?_
            have e1 : (s.ren ρ).ev x = some (.ar id (ρ ver) k off m') := by rw [ev_ren, hex]; rfl
            have e2 : (s.ren ρ).ev y = some (hy.ren ρ) := by rw [ev_ren, hey]; rfl
            refine AOp.copy hop hN (hT.ty _ _ hU) rfl (hT.ty _ _ hTe) e1 e2 (fun l e => ?_) (hget_s ρ hg) (ssrc_sound hT.ty hsr) (by rw [renL_len]; exact Nat.le_of_ble_eq_true h1.2.2) ?_
            · have h3 := h1.2.1
              cases hy <;> simp [HV.ren, isStr] at e h3
            · simp only [AObj.ren, renL_append, renL_take, renL_drop] at hK
              exact hK
          · cases h
        · cases h
      · cases h
    · cases h
  · -- call
    rename_i f aa ts hop
    unfold opCall at h
    try simp only [evR_eq, hgetR_eq, hsetR_eq, sgetR_eq, putR_eq, aslR_eq, apartsR_eq] at h
    split at h
    · rename_i g fs cs hs' hf ha
      replace h := guardO_some h
      obtain ⟨h1, h⟩ := h
      split at h
      · rename_i rv H n1 hr1
        cases h
        obtain ⟨h2, h3, st, hc⟩ := hr _ _ hr1 h1 hsh
        have hsl := sc_slots_of hs
        refine ⟨sc_put (by simp only [AS.sc, scS_mono st.le _ hsl, h3, Bool.and_self]) h2, by rw [put_heap']; exact st, fun ρ ro K hK => ?_⟩
        have e1 : (s.ren ρ).ev f = some (.fn (.func g) (renL ρ fs) (renL ρ cs)) := by rw [ev_ren, hf]; rfl
        refine AOp.call hop rfl hN e1 (evL_sc ha ρ) ?_
        rw [← renL_append, ← renL_append]
        refine hc ρ _ fun ρ' hag => ?_
        have := hK ρ' hag
        rw [ren_put] at this
        have e2 : ({ s with heap := H } : AS).ren ρ' = { s.ren ρ with heap := renH ρ' H } := by
          simp only [AS.ren]
          rw [renS_agree hag _ hsl]
        rw [e2] at this
        exact this
      · cases h
    · rename_i id ver hs' hf ha
      exact yield_ok hr hN hs hop rfl hf ha h
    · cases h
  · -- build
    rename_i t ps hop
    unfold opBuild at h
    try simp only [evR_eq, hgetR_eq, hsetR_eq, sgetR_eq, putR_eq, aslR_eq, apartsR_eq] at h
    split at h
    · rename_i rv hb
      exact fin_ok hs h fun ρ ro K hK => AOp.build hop hN (sbuild_sound hT.ty hb hK)
    · cases h
  · -- makeMap
    rename_i t hop
    refine new_ok (ob := .map []) (h := .mp n n) hs (.inl rfl) (self n) h fun ρ ro K hK => ?_
    refine AOp.makeMap n hop hN fun ver => ?_
    have := hK ver
    simp only [HV.ren, upd_at, AObj.ren, renE] at this
    exact this
  · -- mapUpdate
    rename_i t m x y hop
    unfold opMapUpdate at h
    try simp only [evR_eq, hgetR_eq, hsetR_eq, sgetR_eq, putR_eq, aslR_eq, apartsR_eq] at h
    split at h
    · rename_i kt et sz by' z id ver k hv hU hm hx hy
      split at h
      · rename_i sz2 by2 z2 ver' es hTk hg
        replace h := guardO_some h
        obtain ⟨h1, h⟩ := h
        replace h := guardO_some h
        obtain ⟨h2, h⟩ := h
        cases h
        simp only [Bool.and_eq_true] at h1
        have hv' := Nat.eq_of_beq_eq_true h1.1
        subst hv'
        refine set_ok (x := .map es) hs hg (by intros; simp) h2 rfl fun ρ ro K hK => ?_
        have e1 : (s.ren ρ).ev m = some (.mp id (ρ ver)) := by rw [ev_ren, hm]; rfl
        have e2 : (s.ren ρ).ev x = some (.str k) := by rw [ev_ren, hx]; rfl
        have e3 : (s.ren ρ).ev y = some (hv.ren ρ) := by rw [ev_ren, hy]; rfl
        refine AOp.mapUpdate (.inl hop) hN (hT.ty _ _ hU) rfl (hT.ty _ _ hTk) rfl e1 e2 e3 (hget_s ρ hg) (noIterB_sound h1.2) ?_
        simp only [AObj.ren, mput_ren] at hK
        exact hK
      · cases h
    · cases h
  · -- insert
    rename_i t m x y hop
    unfold opMapUpdate at h
    try simp only [evR_eq, hgetR_eq, hsetR_eq, sgetR_eq, putR_eq, aslR_eq, apartsR_eq] at h
    split at h
    · rename_i kt et sz by' z id ver k hv hU hm hx hy
      split at h
      · rename_i sz2 by2 z2 ver' es hTk hg
        replace h := guardO_some h
        obtain ⟨h1, h⟩ := h
        replace h := guardO_some h
        obtain ⟨h2, h⟩ := h
        cases h
        simp only [Bool.and_eq_true] at h1
        have hv' := Nat.eq_of_beq_eq_true h1.1
        subst hv'
        refine set_ok (x := .map es) hs hg (by intros; simp) h2 rfl fun ρ ro K hK => ?_
        have e1 : (s.ren ρ).ev m = some (.mp id (ρ ver)) := by rw [ev_ren, hm]; rfl
        have e2 : (s.ren ρ).ev x = some (.str k) := by rw [ev_ren, hx]; rfl
        have e3 : (s.ren ρ).ev y = some (hv.ren ρ) := by rw [ev_ren, hy]; rfl
        refine AOp.mapUpdate (.inr hop) hN (hT.ty _ _ hU) rfl (hT.ty _ _ hTk) rfl e1 e2 e3 (hget_s ρ hg) (noIterB_sound h1.2) ?_
        simp only [AObj.ren, mput_ren] at hK
        exact hK
      · cases h
    · cases h
  · -- lookup
    rename_i t m x hop
    unfold opLookup at h
    try simp only [evR_eq, hgetR_eq, hsetR_eq, sgetR_eq, putR_eq, aslR_eq, apartsR_eq] at h
    split at h
    · rename_i kt et sz by' z id ver k hU hm hx
      split at h
      · rename_i sz2 by2 z2 Te ver' es hTk hTe hg
        split at h
        · rename_i z3 hz
          replace h := guardO_some h
          obtain ⟨h1, h⟩ := h
          have hv' := Nat.eq_of_beq_eq_true h1
          subst hv'
          refine fin_ok hs h fun ρ ro K hK => ?_
          have e1 : (s.ren ρ).ev m = some (.mp id (ρ ver)) := by rw [ev_ren, hm]; rfl
          have e2 : (s.ren ρ).ev x = some (.str k) := by rw [ev_ren, hx]; rfl
          refine AOp.lookup hop hN (hT.ty _ _ hU) rfl (hT.ty _ _ hTk) rfl (hT.ty _ _ hTe) hz e1 e2 (hget_s ρ hg) ?_
          rw [alook_ren]
          have h5 := constHV_ren ρ Te.zero
          rw [hz] at h5
          simp only [Option.map_some, Option.some.injEq] at h5
          cases hl : alook k es with
          | none => rw [hl] at hK; simp only [Option.getD_none, h5, Option.map_none] at hK ⊢; exact hK
          | some q => rw [hl] at hK; exact hK
        · cases h
      · cases h
    · cases h
  · -- range
    rename_i t m hop
    unfold opRange at h
    try simp only [evR_eq, hgetR_eq, hsetR_eq, sgetR_eq, putR_eq, aslR_eq, apartsR_eq] at h
    split at h
    · rename_i kt et sz by' z mid mver hU hm
      split at h
      · rename_i mver' es hg
        replace h := guardO_some h
        obtain ⟨h1, h⟩ := h
        have hv' := Nat.eq_of_beq_eq_true h1
        subst hv'
        have hlt := sch_get hsh hg
        refine new_ok (ob := .iter mid mver [] false) (h := .it n n) hs (.inl rfl) (self n) h fun ρ ro K hK => ?_
        have e1 : (s.ren ρ).ev m = some (.mp mid (ρ mver)) := by rw [ev_ren, hm]; rfl
        refine AOp.range n hop hN (hT.ty _ _ hU) rfl e1 (hget_s ρ hg) (by have := hlt.1.1; omega) fun ver => ?_
        have := hK ver
        simp only [HV.ren, upd_at, AObj.ren] at this
        exact this
      · cases h
    · cases h
  · -- next
    rename_i x hop
    unfold opNext at h
    try simp only [evR_eq, hgetR_eq, hsetR_eq, sgetR_eq, putR_eq, aslR_eq, apartsR_eq] at h
    split at h
    · rename_i id ver hx
      split at h
      · rename_i ver' mid mver seen cur hg
        split at h
        · rename_i mver' es hgm
          replace h := guardO_some h
          obtain ⟨h1, h⟩ := h
          simp only [Bool.and_eq_true] at h1
          have hv' := Nat.eq_of_beq_eq_true h1.1
          subst hv'
          have hv' := Nat.eq_of_beq_eq_true h1.2
          subst hv'
          split at h
          · rename_i hu
            refine fin_ok hs h fun ρ ro K hK => ?_
            have e1 : (s.ren ρ).ev x = some (.it id (ρ ver)) := by rw [ev_ren, hx]; rfl
            refine AOp.next hop hN e1 (hget_s ρ hg) (hget_s ρ hgm) (fun _ => hK) fun k v hkv hks => ?_
            obtain ⟨u, hu1, _⟩ := mem_renE hkv
            have := mem_unseen.2 ⟨hu1, hks⟩
            rw [hu] at this
            cases this
          · rename_i k v hu
            replace h := guardO_some h
            obtain ⟨h2, h⟩ := h
            cases h
            have hlm := sch_get hsh hgm
            refine set_ok (x := .iter mid mver seen cur) hs hg (by intros; simp) (by simp only [AObj.sc]; simpa [Nat.blt_eq] using hlm.1.2) (by simp only [HV.sc, scL, h2, Bool.and_self]) fun ρ ro K hK => ?_
            have e1 : (s.ren ρ).ev x = some (.it id (ρ ver)) := by rw [ev_ren, hx]; rfl
            refine AOp.next hop hN e1 (hget_s ρ hg) (hget_s ρ hgm) (fun hall => ?_) fun k' v' hkv hks => ?_
            · have hm : (k, v) ∈ unseen seen es := by rw [hu]; exact List.mem_cons_self ..
              obtain ⟨h3, h4⟩ := mem_unseen.1 hm
              exact absurd (hall _ (mem_renE' h3)) h4
            · obtain ⟨u, hu1, rfl⟩ := mem_renE hkv
              have := mem_unseen.2 ⟨hu1, hks⟩
              rw [hu] at this
              simp only [List.mem_singleton] at this
              cases this
              exact hK
          · cases h
        · cases h
      · cases h
    · cases h
  · -- entry
    rename_i x hop
    unfold opEntry at h
    try simp only [evR_eq, hgetR_eq, hsetR_eq, sgetR_eq, putR_eq, aslR_eq, apartsR_eq] at h
    split at h
    · rename_i id ver hx
      split at h
      · rename_i ver' mid mver k seen hg
        split at h
        · rename_i mver' es hgm
          replace h := guardO_some h
          obtain ⟨h1, h⟩ := h
          simp only [Bool.and_eq_true] at h1
          have hv' := Nat.eq_of_beq_eq_true h1.1
          subst hv'
          have hv' := Nat.eq_of_beq_eq_true h1.2
          subst hv'
          split at h
          · rename_i v hl
            refine fin_ok hs h fun ρ ro K hK => ?_
            have e1 : (s.ren ρ).ev x = some (.it id (ρ ver)) := by rw [ev_ren, hx]; rfl
            have e2 : alook k (renE ρ es) = some (v.ren ρ) := by rw [alook_ren, hl]; rfl
            exact AOp.entry hop hN e1 (hget_s ρ hg) (hget_s ρ hgm) e2 hK
          · cases h
        · cases h
      · cases h
    · cases h
  · exact sval_ok hT hN hs h

end
end Go.AW

/- The evaluation of closed code: regions, control, calls; that what it gives is so; a function's contract from its evaluation. -/
namespace Go.AW
open Go
set_option linter.unusedSimpArgs false

noncomputable def sops (r : Task → Option Out) (T : Tabs) (all : List Oper) : List Oper → AS → Nat → Option (AS × Nat)
  | [], s, n => some (s, n)
  | o :: rest, s, n => match o.guard with
    | none => match sop r T o s n with
      | some (s1, n1) => sops r T all rest s1 n1
      | none => none
    | some (j, want) => match all[j]? with
      | some oj => match oj.dst with
        | some d => match sgetR s.slots d with
          | some (.bool b) => match (b == want) with
            | true => match sop r T o (s.putR (some d) (.bool want)) n with
              | some (s1, n1) => sops r T all rest s1 n1
              | none => none
            | false => sops r T all rest ((s.putR (some d) (.bool !want)).putR o.dst (.v undef)) n
          | _ => none
        | none => none
      | none => none

/-- what a value stands for, if nobody writes the arrays behind it any more -/
noncomputable def sfrz : Nat → Heap → HV → Option HV
  | 0, _, h => some h
  | n + 1, D, h => match h with
    | .agg cs => match cs.mapM (sfrz n D) with
      | some cs => some (.agg cs)
      | none => none
    | .tup cs => match cs.mapM (sfrz n D) with
      | some cs => some (.tup cs)
      | none => none
    | .fn f fs cs => match fs.mapM (sfrz n D), cs.mapM (sfrz n D) with
      | some fs, some cs => some (.fn f fs cs)
      | _, _ => none
    | .ar id ver k off m => match hgetR D id with
      | some (ver', .arr _ _ cs) => guardO (Nat.beq ver ver' && Nat.ble (off + m * k) cs.length) (match ((cs.drop off).take (m * k)).mapM (sfrz n D) with
        | some cs => some (.sl k m cs)
        | none => none)
      | _ => none
    | .ptr id ver off => match hgetR D id with
      | some (ver', .arr _ _ cs) => guardO (Nat.beq ver ver') (match cs.mapM (sfrz n D) with
        | some cs => some (.fptr cs off)
        | none => none)
      | _ => none
    | h => some h

theorem sfrz_sound (n : Nat) (D : Heap) (ρ : Nat → Nat) : ∀ h h', sfrz n D h = some h' → frz n (renH ρ D) (h.ren ρ) = h'.ren ρ := by
  induction n with
  | zero => intro h h' e; cases e; rfl
  | succ n ih =>
    have ihL : ∀ (cs ds : List HV), cs.mapM (sfrz n D) = some ds → (renL ρ cs).map (frz n (renH ρ D)) = renL ρ ds := by
      intro cs
      induction cs with
      | nil => intro ds e; simp at e; subst e; rfl
      | cons c cs ihc =>
        intro ds e
        simp only [List.mapM_cons, Option.pure_def, Option.bind_eq_bind, Option.bind_eq_some_iff] at e
        obtain ⟨d, hd, es, he, e⟩ := e
        cases e
        simp only [renL, List.map_cons, ih _ _ hd, ihc _ he]
    intro h h' e
    unfold sfrz at e
    simp only [hgetR_eq] at e
    split at e
    · split at e
      · rename_i hc; cases e; simp only [HV.ren, frz, ihL _ _ hc]
      · cases e
    · split at e
      · rename_i hc; cases e; simp only [HV.ren, frz, ihL _ _ hc]
      · cases e
    · split at e
      · rename_i hf hc; cases e; simp only [HV.ren, frz, ihL _ _ hf, ihL _ _ hc]
      · cases e
    · split at e
      · rename_i id ver k off m _ ver' k' e' cs hg
        replace e := guardO_some e
        obtain ⟨h1, e⟩ := e
        simp only [Bool.and_eq_true] at h1
        have hv := Nat.eq_of_beq_eq_true h1.1
        subst hv
        split at e
        · rename_i ds hc
          cases e
          simp only [HV.ren, frz, hget_ren, hg, Option.map_some, AObj.ren]
          rw [if_pos ⟨trivial, by rw [renL_len]; exact Nat.le_of_ble_eq_true h1.2⟩, ← renL_drop, ← renL_take, ihL _ _ hc]
        · cases e
      · cases e
    · split at e
      · rename_i id ver off _ ver' k' e' cs hg
        replace e := guardO_some e
        obtain ⟨h1, e⟩ := e
        have hv := Nat.eq_of_beq_eq_true h1
        subst hv
        split at e
        · rename_i ds hc
          cases e
          simp only [HV.ren, frz, hget_ren, hg, Option.map_some, AObj.ren, if_true]
          rw [ihL _ _ hc]
        · cases e
      · cases e
    · cases e
      cases h <;> first | rfl | (exfalso; rename_i h1 h2 h3 h4 h5; first | exact h1 _ rfl | exact h2 _ rfl | exact h3 _ _ _ rfl | exact h4 _ _ _ _ _ rfl | exact h5 _ _ _ rfl)

theorem ACall.conv {P : Program} {f : FuncId} {args : List HV} {H : Heap} {K K' : HV → Heap → Prop} (h : ACall P f args H K) (hc : ∀ r H', K r H' → ∃ r2 H2, Conv H' r r2 H2 ∧ K' r2 H2) : ACall P f args H K' :=
  ⟨h.1, fun μ w vs hs hr => (h.2 μ w vs hs hr).mono fun _ w' ⟨v, r, H', μ', e, k, hs', hr', E⟩ => by
    obtain ⟨r2, H2, hconv, hk⟩ := hc r H' k
    obtain ⟨μ2, hs2, hr2, E2⟩ := hconv w' μ' v hs' hr'
    exact ⟨v, r2, H2, μ2, e, hk, hs2, hr2, E.trans E2⟩⟩

noncomputable def spBox (s : AS) (x : Operand) : Option HV := match s.evR x with
    | some hv => match hv.cells? with
      | some cs => some (.fptr cs 0)
      | none => none
    | none => none
noncomputable def spBuild (T : Tabs) (s : AS) (t : TypeId) (m : Nat) (ps : Array (Nat × Operand)) : Option HV := guardO (Nat.ble m 16777216) (match sslice T.ty s t m ps.toList with
    | some (k, _, cs) => some (.sl k m cs)
    | none => none)
noncomputable def spCall (r : Task → Option Out) (s : AS) (f : Operand) (aa : Array Operand) : Option HV := match s.evR f, aa.toList.mapM s.evR with
    | some (.fn (.func g) fs cs), some hs => (match (fs ++ hs ++ cs).mapM (sfrz 8 s.heap) with
      | some as' => guardO (scL 0 as') (match r (.call g as' [] 0) with
        | some (.call rv H _) => guardO (scL 0 (fs ++ hs ++ cs) || (nf rv && nfH H)) (match sfrz 8 H rv with
          | some q => guardO (q.sc 0) (some q)
          | none => none)
        | _ => none)
      | none => none)
    | _, _ => none
noncomputable def sopS (r : Task → Option Out) (T : Tabs) (o : Oper) (s : AS) : Option HV :=
  match o.op with
  | .box _ x => spBox s x
  | .buildSlice t m ps => spBuild T s t m ps
  | .call ⟨.value f, aa, _⟩ => spCall r s f aa
  | op => sval T.ty op s

noncomputable def ssteps (r : Task → Option Out) (T : Tabs) (all : List Oper) : List Oper → AS → Nat → Option AS
  | [], s, _ => some s
  | o :: rest, s, n => match o.guard with
    | none => match sopS r T o s with
      | some h => guardO (h.sc n) (ssteps r T all rest (s.putR o.dst h) n)
      | none => none
    | some (j, want) => match all[j]? with
      | some oj => match oj.dst with
        | some d => match sgetR s.slots d with
          | some (.bool b) => match (b == want) with
            | true => match sopS r T o (s.putR (some d) (.bool want)) with
              | some h => guardO (h.sc n) (ssteps r T all rest ((s.putR (some d) (.bool want)).putR o.dst h) n)
              | none => none
            | false => ssteps r T all rest ((s.putR (some d) (.bool !want)).putR o.dst (.v undef)) n
          | _ => none
        | none => none
      | none => none

def steadyKind (o : Oper) : Bool := match o.op with
  | .alloc _ | .store _ _ _ | .makeSlice _ _ _ | .makeMap _ _ | .mapUpdate _ _ _ _ | .insert _ _ _ _ | .lookup _ _ _ _ | .range _ _ | .next _ _ | .entry _ | .build _ _ => false
  | .call ⟨.builtin .append, _, _⟩ => false
  | _ => true
def callKind (o : Oper) : Bool := match o.op with
  | .call ⟨.value _, _, _⟩ | .box _ _ | .buildSlice _ _ _ => true
  | _ => false

/-- how many operations at the head change nothing -/
noncomputable def greedy (r : Task → Option Out) (T : Tabs) (all : List Oper) : List Oper → AS → Nat → Nat
  | [], _, p => p
  | o :: rest, s, p => bif steadyKind o then (match o.guard with
    | none => match sopS r T o s with
      | some h => greedy r T all rest (s.putR o.dst h) (p + 1)
      | none => p
    | some (j, want) => match all[j]? with
      | some oj => match oj.dst with
        | some d => match sgetR s.slots d with
          | some (.bool b) => match (b == want) with
            | true => match sopS r T o s with
              | some h => greedy r T all rest (s.putR o.dst h) (p + 1)
              | none => p
            | false => greedy r T all rest (s.putR o.dst (.v undef)) (p + 1)
          | _ => p
        | none => p
      | none => p) else p

def plain : List Oper → Nat → Nat
  | [], p => p
  | o :: rest, p => bif (steadyKind o && !callKind o) then plain rest (p + 1) else p

noncomputable def sdrawP (r : Task → Option Out) (T : Tabs) (ops : Array Oper) (s : AS) (n p : Nat) : Option (AS × Nat) :=
  guardO (drawOk ops p) (match ssteps r T ops.toList (ops.toList.take p) s n with
    | some s1 => sops r T ops.toList (ops.toList.drop p) s1 n
    | none => none)

noncomputable def sdraw (r : Task → Option Out) (T : Tabs) (ops : Array Oper) (s : AS) (n : Nat) : Option (AS × Nat) :=
  match sdrawP r T ops s n (greedy r T ops.toList ops.toList s 0) with
  | some x => some x
  | none => sdrawP r T ops s n (plain ops.toList 0)

noncomputable def sres1 (T : TypeId → Option TyI) (s : AS) (rv : ResultVar) : Option HV :=
  match rv with
  | .tmp t => sgetR s.slots t
  | .cell t ty' => match T ty', sgetR s.slots t with
    | some U, some (.fptr cs off) => sload U cs off
    | some U, some (.ptr id ver off) => match hgetR s.heap id with
      | some (ver', .arr _ _ cs) => guardO (Nat.beq ver ver') (sload U cs off)
      | _ => none
    | _, _ => none

noncomputable def sres (T : TypeId → Option TyI) (s : AS) : List ResultVar → Option (List HV)
  | [] => some []
  | rv :: rvs => match sres1 T s rv, sres T s rvs with
    | some h, some hs => some (h :: hs)
    | _, _ => none

/-! dropping what nothing leads to -/
mutual
def HV.refs (n : Nat) : HV → List Nat → List Nat
  | .agg cs, a | .tup cs, a | .sl _ _ cs, a | .fptr cs _, a => refsL n cs a
  | .ar id _ _ _ _, a | .ptr id _ _, a | .mp id _, a | .yl id _, a | .it id _, a => bif Nat.blt id n then a else id :: a
  | .fn _ fs cs, a => refsL n fs (refsL n cs a)
  | _, a => a
def refsL (n : Nat) : List HV → List Nat → List Nat
  | [], a => a
  | c :: cs, a => c.refs n (refsL n cs a)
end
def refsS (n : Nat) : List (Nat × HV) → List Nat → List Nat
  | [], a => a
  | (_, h) :: l, a => h.refs n (refsS n l a)
def refsE (n : Nat) : List (List UInt8 × HV) → List Nat → List Nat
  | [], a => a
  | (_, h) :: l, a => h.refs n (refsE n l a)
def AObj.refs (n : Nat) : AObj → List Nat → List Nat
  | .arr _ _ cs, a => refsL n cs a
  | .map es, a => refsE n es a
  | .iter mid _ _ _, a => bif Nat.blt mid n then a else mid :: a
  | .loop _ _ _ _ snap _ _ _, a => refsS n snap a
def oldRefs (n : Nat) : Heap → List Nat → List Nat
  | [], a => a
  | (i, _, o) :: l, a => bif Nat.blt i n then o.refs n (oldRefs n l a) else oldRefs n l a
def memN (i : Nat) : List Nat → Bool
  | [] => false
  | j :: l => bif Nat.beq i j then true else memN i l
def mark (n : Nat) (H : Heap) : Nat → List Nat → List Nat → List Nat
  | 0, _, m => m
  | _ + 1, [], m => m
  | f + 1, i :: w, m => bif memN i m then mark n H f w m else match hget H i with
    | some (_, o) => mark n H f (o.refs n w) (i :: m)
    | none => mark n H f w m
def hkeep (n : Nat) (m : List Nat) : Heap → Heap
  | [] => []
  | (i, x) :: l => bif (Nat.blt i n || memN i m) then (i, x) :: hkeep n m l else hkeep n m l
def anyNew (n : Nat) : Heap → Bool
  | [] => false
  | (i, _) :: l => bif Nat.blt i n then anyNew n l else true
def gc (n : Nat) (rv : HV) (H : Heap) : Heap := bif anyNew n H then hkeep n (mark n H 200 (rv.refs n (oldRefs n H [])) []) H else H

theorem hkeep_get (n : Nat) (m : List Nat) : ∀ (H : Heap) (id : Nat) (x : Nat × AObj), hget (hkeep n m H) id = some x → hget H id = some x
  | [], _, _, h => h
  | (i, v, o) :: l, id, x, h => by
    simp only [hkeep] at h
    simp only [hget]
    cases hb : (Nat.blt i n || memN i m) with
    | true =>
      rw [hb] at h
      simp only [cond_true, hget] at h
      split
      · rename_i e; rw [if_pos e] at h; exact h
      · rename_i e; rw [if_neg e] at h; exact hkeep_get n m l id x h
    | false =>
      rw [hb] at h
      simp only [cond_false] at h
      split
      · rename_i e
        subst e
        exfalso
        have : ∀ l : Heap, hget (hkeep n m l) id = none := fun l => by
          induction l with
          | nil => rfl
          | cons y l ih =>
            obtain ⟨j, y⟩ := y
            simp only [hkeep]
            cases hb2 : (Nat.blt j n || memN j m) with
            | true =>
              simp only [cond_true, hget]
              split
              · rename_i e; subst e; rw [hb] at hb2; cases hb2
              · exact ih
            | false => exact ih
        rw [this] at h
        cases h
      · exact hkeep_get n m l id x h

theorem gc_get {n : Nat} {rv : HV} {H : Heap} {id : Nat} {x : Nat × AObj} (h : hget (gc n rv H) id = some x) : hget H id = some x := by
  unfold gc at h
  cases hb : anyNew n H with
  | true => rw [hb] at h; exact hkeep_get _ _ _ _ _ h
  | false => rw [hb] at h; exact h

theorem hkeep_sc {k n : Nat} {m : List Nat} : ∀ {H : Heap}, scH k H = true → scH k (hkeep n m H) = true
  | [], _ => rfl
  | (i, v, o) :: l, h => by
    simp only [scH, Bool.and_eq_true] at h
    simp only [hkeep]
    cases (Nat.blt i n || memN i m) with
    | true => simp only [cond_true, scH, h.1.1.1, h.1.1.2, h.1.2, hkeep_sc h.2, Bool.and_self]
    | false => exact hkeep_sc h.2
theorem gc_sc {k n : Nat} {rv : HV} {H : Heap} (h : scH k H = true) : scH k (gc n rv H) = true := by
  unfold gc
  cases anyNew n H with
  | true => exact hkeep_sc h
  | false => exact h

theorem Step.drop {n n' : Nat} {H H1 H2 : Heap} (h : Step n n' H H1) (hd : ∀ id x, hget H2 id = some x → hget H1 id = some x) : Step n n' H H2 :=
  ⟨h.le, fun id v st pend f m snap ps a b hg x hx => h.loop id v st pend f m snap ps a b hg x (hd id x hx), fun id hid y hy => h.back id hid y (hd id y hy)⟩

mutual
theorem HV.ren_id : ∀ h : HV, h.ren (fun v => v) = h
  | .int _ _ => rfl
  | .bool _ => rfl
  | .str _ => rfl
  | .v _ => rfl
  | .agg cs => congrArg HV.agg (renL_id cs)
  | .tup cs => congrArg HV.tup (renL_id cs)
  | .sl k m cs => congrArg (HV.sl k m) (renL_id cs)
  | .ar _ _ _ _ _ => rfl
  | .ptr _ _ _ => rfl
  | .fptr cs off => congrArg (fun x => HV.fptr x off) (renL_id cs)
  | .fn f fs cs => by simp only [HV.ren]; rw [renL_id fs, renL_id cs]
  | .mp _ _ => rfl
  | .yl _ _ => rfl
  | .it _ _ => rfl
theorem renL_id : ∀ cs : List HV, renL (fun v => v) cs = cs
  | [] => rfl
  | c :: cs => by simp only [renL]; rw [HV.ren_id c, renL_id cs]
end
theorem ren_sc0 (ρ : Nat → Nat) {h : HV} (hs : h.sc 0 = true) : h.ren ρ = h := (HV.ren_agree (ρ' := fun v => v) (fun v hv => by omega) h hs).trans h.ren_id
theorem renL_sc0 (ρ : Nat → Nat) {h : List HV} (hs : scL 0 h = true) : renL ρ h = h := (renL_agree (ρ' := fun v => v) (fun v hv => by omega) h hs).trans (renL_id h)

mutual
theorem sc0_clean : ∀ h : HV, h.sc 0 = true → clean h
  | .int _ _, _ => trivial
  | .bool _, _ => trivial
  | .str _, _ => trivial
  | .v _, _ => trivial
  | .agg cs, h => sc0_cleanL cs h
  | .tup cs, h => sc0_cleanL cs h
  | .sl _ _ cs, h => sc0_cleanL cs h
  | .fptr cs _, h => sc0_cleanL cs h
  | .fn _ fs cs, h => by
    simp only [HV.sc, Bool.and_eq_true] at h
    exact ⟨sc0_cleanL fs h.1, sc0_cleanL cs h.2⟩
  | .ar _ v _ _ _, h => absurd (blt_lt h) (Nat.not_lt_zero _)
  | .ptr _ v _, h => absurd (blt_lt h) (Nat.not_lt_zero _)
  | .mp _ v, h => absurd (blt_lt h) (Nat.not_lt_zero _)
  | .yl _ v, h => absurd (blt_lt h) (Nat.not_lt_zero _)
  | .it _ v, h => absurd (blt_lt h) (Nat.not_lt_zero _)
theorem sc0_cleanL : ∀ cs : List HV, scL 0 cs = true → cleanL cs
  | [], _ => trivial
  | c :: cs, h => by
    simp only [scL, Bool.and_eq_true] at h
    exact ⟨sc0_clean c h.1, sc0_cleanL cs h.2⟩
end

noncomputable def rounds (r : Task → Option Out) (top : Bool) (N : Nat) (x : Code) : Nat → AS → Nat → Option Out
  | 0, _, _ => none
  | k + 1, s, n => match r (.code top N x s n) with
    | some (.code .normal s1 n1) => rounds r top N x k s1 n1
    | o => o

def isEnd : Exit → Bool
  | .normal | .ret => true
  | _ => false

def notBusy : LoopState → Bool
  | .busy => false
  | _ => true

def strsOf : List HV → Option (List (List UInt8))
  | [] => some []
  | .str l :: cs => match strsOf cs with
    | some ls => some (l :: ls)
    | none => none
  | _ => none
def intsOf : List HV → Option (List Int)
  | [] => some []
  | .int .i64 n :: cs => match intsOf cs with
    | some ls => some (n :: ls)
    | none => none
  | _ => none

theorem strsOf_eq : ∀ {cs : List HV} {ls : List (List UInt8)}, strsOf cs = some ls → cs = ls.map .str
  | [], ls, h => by cases h; rfl
  | c :: cs, ls, h => by
    unfold strsOf at h
    split at h
    · cases h; simp_all
    · rename_i l cs' heq
      cases heq
      split at h
      · rename_i ls' hl
        cases h
        rw [strsOf_eq hl]
        rfl
      · cases h
    · cases h
theorem intsOf_eq : ∀ {cs : List HV} {ls : List Int}, intsOf cs = some ls → cs = ls.map (.int .i64)
  | [], ls, h => by cases h; rfl
  | c :: cs, ls, h => by
    unfold intsOf at h
    split at h
    · cases h; simp_all
    · rename_i l cs' heq
      cases heq
      split at h
      · rename_i ls' hl
        cases h
        rw [intsOf_eq hl]
        rfl
      · cases h
    · cases h

/-- a sort in place -/
noncomputable def ssort (k : Bool) (args : List HV) (H : Heap) (n : Nat) : Option Out :=
  match args with
  | [.v (.slice none 0 0)] => some (.call (.tup []) H n)
  | [.ar id ver 1 0 m] => match hgetR H id with
    | some (ver', .arr 1 e cs) => match k with
      | true => match strsOf cs with
        | some ls => guardO (Nat.beq ver ver' && (Nat.beq m ls.length && Nat.blt ls.length 4611686018427387904)) (some (.call (.tup []) (hsetR H id ver (.arr 1 e ((isort (fun a b => decide (a ≤ b)) ls).map .str))) n))
        | none => none
      | false => match intsOf cs with
        | some ls => guardO (Nat.beq ver ver' && (Nat.beq m ls.length && Nat.blt ls.length 4611686018427387904)) (some (.call (.tup []) (hsetR H id ver (.arr 1 e ((isort (fun a b => decide (a ≤ b)) ls).map (.int .i64)))) n))
        | none => none
    | _ => none
  | _ => none

noncomputable def stRegion (T : Tabs) (r : Task → Option Out) (ops : Array Oper) (dr : Bool) (N : Nat) (s : AS) (n : Nat) : Option Out := guardO (ops.toList.all fun o => okd N o.dst) (match (match dr with
        | true => sdraw r T ops s n
        | false => sops r T ops.toList ops.toList s n) with
      | some (s1, n1) => some (.code .normal s1 n1)
      | none => none)
noncomputable def stRange (r : Task → Option Out) (top : Bool) (N : Nat) (g : Operand) (ps : Array Tmp) (assign body : Code) (s : AS) (n : Nat) : Option Out := match top, s.evR g with
      | true, some (.fn (.func f) fs cs) => guardO (scL n fs && scL n cs) (match r (.call f (fs ++ [.yl n n] ++ cs) (hsetR s.heap n n (.loop .ready none (n + 1) N s.slots ps assign body)) (n + 2)) with
        | some (.call _ H n1) => match hgetR H n with
          | some (_, .loop st pend _ _ _ _ _ _) => guardO (notBusy st) (match pend with
            | none => some (.code .normal { s with heap := hsetR H n n (.loop .exhausted none (n + 1) N s.slots ps assign body) } n1)
            | some .ret => some (.code .ret { s with heap := hsetR H n n (.loop .exhausted (some .ret) (n + 1) N s.slots ps assign body) } n1)
            | some (.exit i) => some (.code (.exit i) { s with heap := hsetR H n n (.loop .exhausted (some (.exit i)) (n + 1) N s.slots ps assign body) } n1)
            | _ => none)
          | _ => none
        | _ => none)
      | _, _ => none
noncomputable def stBody (T : Tabs) (r : Task → Option Out) (fn : Func) (c : Code) (args : List HV) (H : Heap) (n : Nat) : Option Out := guardO (Nat.ble args.length fn.ntmps) (match r (.code true fn.ntmps c ⟨enumS 0 args, H⟩ n) with
          | some (.code e s1 n1) => guardO (isEnd e) (match sres T.ty s1 fn.results.toList with
            | some hs => guardO ((joinR hs).sc n1) (some (.call (joinR hs) (gc n (joinR hs) s1.heap) n1))
            | none => none)
          | _ => none)
noncomputable def stCall (T : Tabs) (r : Task → Option Out) (f : FuncId) (args : List HV) (H : Heap) (n : Nat) : Option Out := match T.sort f with
   | some k => ssort k args H n
   | none => match (match args.mapM (sfrz 8 H) with
      | some as' => guardO (scL 0 as') (T.ext f as')
      | none => none) with
    | some rv => guardO (rv.sc 0) (some (.call rv H n))
    | none => match T.fn f with
      | some fn => match fn.body with
        | some c => stBody T r fn c args H n
        | none => none
      | none => none
noncomputable def stCut (T : Tabs) (r : Task → Option Out) (top : Bool) (N : Nat) (ks : Option (List Nat)) (y : Code) (s : AS) (n : Nat) : Option Out := match ks with
      | some ks => keepK s.slots ks fun l => r (.code top N y ⟨l, s.heap⟩ n)
      | none => r (.code top N y s n)
noncomputable def stSeq (T : Tabs) (r : Task → Option Out) (top : Bool) (N : Nat) (x y : Code) (s : AS) (n : Nat) : Option Out := match r (.code top N x s n) with
      | some (.code .normal s1 n1) => stCut T r top N (match x with
        | .region id _ _ => T.keep N id
        | _ => none) y s1 n1
      | o => o
noncomputable def stBlock (r : Task → Option Out) (top : Bool) (N : Nat) (i : Nat) (x : Code) (s : AS) (n : Nat) : Option Out := match r (.code top N x s n) with
      | some (.code (.exit j) s1 n1) => some (.code (if j = i then .normal else .exit j) s1 n1)
      | o => o
noncomputable def stCond (r : Task → Option Out) (top : Bool) (N : Nat) (c : Operand) (x y : Code) (s : AS) (n : Nat) : Option Out := match s.evR c with
      | some (.bool true) => r (.code top N x s n)
      | some (.bool false) => r (.code top N y s n)
      | _ => none
noncomputable def stCode (T : Tabs) (r : Task → Option Out) (top : Bool) (N : Nat) (c : Code) (s : AS) (n : Nat) : Option Out := match c with
    | .skip => some (.code .normal s n)
    | .exit i => some (.code (.exit i) s n)
    | .ret => some (.code .ret s n)
    | .seq x y => stSeq T r top N x y s n
    | .block i x => stBlock r top N i x s n
    | .cond c x y => stCond r top N c x y s n
    | .loop x => rounds r top N x 5000 s n
    | .region _ ops dr => stRegion T r ops dr N s n
    | .rangeFunc g ps assign body => stRange r top N g ps assign body s n
    | _ => none
noncomputable def step (T : Tabs) (r : Task → Option Out) : Task → Option Out
  | .code top N c s n => stCode T r top N c s n
  | .call f args H n => stCall T r f args H n

noncomputable def run (T : Tabs) : Nat → Task → Option Out
  | 0, _ => none
  | k + 1, t => step T (run T k) t

section
variable {P : Program} {T : Tabs} {N n n' : Nat} {s s' : AS} {r : Task → Option Out}

theorem sops_ok (hT : T.Ok P) (hr : Good P r) {ops : Array Oper} (hok : ops.toList.all (fun o => okd N o.dst) = true) : ∀ (l : List Oper) (i : Nat) (s : AS) (n : Nat), (∀ k, l[k]? = ops[i + k]?) → s.sc n = true → sops r T ops.toList l s n = some (s', n') →
    s'.sc n' = true ∧ Step n n' s.heap s'.heap ∧ ∀ (ρ : Nat → Nat) (ro : Option Nat) (K : AS → Prop), (∀ ρ', Agree n ρ ρ' → K (s'.ren ρ')) → AOps P ro N ops (List.range' i l.length) K (s.ren ρ)
  | [], i, s, n, _, hs, h => by
    cases h
    exact ⟨hs, Step.refl _ _, fun ρ ro K hK => AOps.nil (hK ρ (Agree.refl _ _))⟩
  | o :: l, i, s, n, hl, hs, h => by
    have ho : ops[i]? = some o := by have := hl 0; simpa using this.symm
    have hN : okd N o.dst = true := List.all_eq_true.1 hok o (by
      have := Array.getElem?_toList (xs := ops) (i := i)
      rw [ho] at this
      exact List.mem_of_getElem? this)
    have hl' : ∀ k, l[k]? = ops[i + 1 + k]? := fun k => by
      have := hl (k + 1)
      rw [List.getElem?_cons_succ] at this
      rw [this]; congr 1; omega
    -- an operation, then the rest
    have go : ∀ (s0 : AS), s0.sc n = true → s0.heap = s.heap → (match sop r T o s0 n with
        | some (s1, n1) => sops r T ops.toList l s1 n1
        | none => none) = some (s', n') → s'.sc n' = true ∧ Step n n' s.heap s'.heap ∧ ∀ (ρ : Nat → Nat) (ro : Option Nat) (K : AS → Prop), (∀ ρ', Agree n ρ ρ' → K (s'.ren ρ')) → AOp P ro N o (AOps P ro N ops (List.range' (i + 1) l.length) K) (s0.ren ρ) := by
      intro s0 hs0 hh h
      split at h
      · rename_i s1 n1 hop
        obtain ⟨h1, h2, h3⟩ := sop_ok hT hr hN hs0 hop
        obtain ⟨h4, h5, h6⟩ := sops_ok hT hr hok l (i + 1) s1 n1 hl' h1 h
        rw [hh] at h2
        refine ⟨h4, h2.trans (sc_heap_of hs) h5, fun ρ ro K hK => h3 ρ ro _ fun ρ1 ha1 => h6 ρ1 ro K fun ρ2 ha2 => hK ρ2 (ha1.trans h2.le ha2)⟩
      · cases h
    simp only [sops, sgetR_eq, putR_eq] at h
    split at h
    · rename_i hg
      obtain ⟨h1, h2, h3⟩ := go s hs rfl h
      exact ⟨h1, h2, fun ρ ro K hK => AOps.cons ho hg (h3 ρ ro K hK)⟩
    · rename_i j want hg
      split at h
      · rename_i oj hoj
        split at h
        · rename_i d hd
          split at h
          · rename_i b hb
            have hbr : ∀ ρ : Nat → Nat, sget (s.ren ρ).slots d = some (.bool b) := fun ρ => by
              show sget (renS ρ s.slots) d = _
              rw [sget_ren, hb]; rfl
            split at h
            · rename_i hbw
              have hbw : b = want := by simpa using hbw
              obtain ⟨h1, h2, h3⟩ := go (s.put (some d) (.bool want)) (sc_put hs rfl) rfl h
              refine ⟨h1, h2, fun ρ ro K hK => AOps.guard ho hN hg (by simpa using hoj) hd (hbr ρ) (fun _ => ?_) (fun e => by cases b <;> cases want <;> simp at e hbw)⟩
              have := h3 ρ ro K hK
              rw [ren_put] at this
              exact this
            · rename_i hbw
              have hbw : b ≠ want := by simpa using hbw
              obtain ⟨h1, h2, h3⟩ := sops_ok hT hr hok l (i + 1) _ n hl' (sc_put (sc_put hs rfl) rfl) h
              rw [put_heap', put_heap'] at h2
              refine ⟨h1, h2, fun ρ ro K hK => AOps.guard ho hN hg (by simpa using hoj) hd (hbr ρ) (fun e => absurd e hbw) fun _ => ?_⟩
              have := h3 ρ ro K hK
              rw [ren_put, ren_put] at this
              exact this
          · cases h
        · cases h
      · cases h

theorem mapM_frz {D : Heap} (ρ : Nat → Nat) : ∀ {cs ds : List HV}, cs.mapM (sfrz 8 D) = some ds → (renL ρ cs).map (frz 8 (renH ρ D)) = renL ρ ds
  | [], ds, e => by simp at e; subst e; rfl
  | c :: cs, ds, e => by
    simp only [List.mapM_cons, Option.pure_def, Option.bind_eq_bind, Option.bind_eq_some_iff] at e
    obtain ⟨d, hd, es, he, e⟩ := e
    cases e
    simp only [renL, List.map_cons, sfrz_sound 8 D ρ _ _ hd, mapM_frz ρ he]

mutual
theorem nf_ren (ρ : Nat → Nat) : ∀ h : HV, nf h = true → nf (h.ren ρ) = true
  | .int _ _, _ => rfl
  | .bool _, _ => rfl
  | .str _, _ => rfl
  | .v _, _ => rfl
  | .agg cs, h => nfL_ren ρ cs h
  | .tup cs, h => nfL_ren ρ cs h
  | .sl _ _ _, h => by cases h
  | .ar _ _ _ _ _, _ => rfl
  | .ptr _ _ _, _ => rfl
  | .fptr _ _, h => by cases h
  | .fn _ fs cs, h => by
    simp only [nf, Bool.and_eq_true] at h
    simp only [HV.ren, nf, nfL_ren ρ fs h.1, nfL_ren ρ cs h.2, Bool.and_self]
  | .mp _ _, _ => rfl
  | .yl _ _, _ => rfl
  | .it _ _, _ => rfl
theorem nfL_ren (ρ : Nat → Nat) : ∀ cs : List HV, nfL cs = true → nfL (renL ρ cs) = true
  | [], _ => rfl
  | c :: cs, h => by
    simp only [nfL, Bool.and_eq_true] at h
    simp only [renL, nfL, nf_ren ρ c h.1, nfL_ren ρ cs h.2, Bool.and_self]
end
theorem nfE_ren (ρ : Nat → Nat) : ∀ es, nfE es = true → nfE (renE ρ es) = true
  | [], _ => rfl
  | (_, c) :: cs, h => by
    simp only [nfE, Bool.and_eq_true] at h
    simp only [renE, nfE, nf_ren ρ c h.1, nfE_ren ρ cs h.2, Bool.and_self]
theorem nfH_ren (ρ : Nat → Nat) : ∀ H : Heap, nfH H = true → nfH (renH ρ H) = true
  | [], _ => rfl
  | (_, _, o) :: H, h => by
    simp only [nfH, Bool.and_eq_true] at h
    have ho : nfO (o.ren ρ) = true := by
      cases o with
      | arr k e cs => exact nfL_ren ρ cs h.1
      | map es => exact nfE_ren ρ es h.1
      | iter _ _ _ _ => rfl
      | loop _ _ _ _ _ _ _ _ => cases h.1
    simp only [renH, nfH, ho, nfH_ren ρ H h.2, Bool.and_self]

theorem sfrz_sc0 {D : Heap} (m : Nat) : ∀ (h h' : HV), h.sc 0 = true → sfrz m D h = some h' → h' = h := by
  induction m with
  | zero => intro h h' _ e; cases e; rfl
  | succ m ih =>
    have ihL : ∀ (cs ds : List HV), scL 0 cs = true → cs.mapM (sfrz m D) = some ds → ds = cs := by
      intro cs
      induction cs with
      | nil => intro ds _ e; simp at e; exact e
      | cons c cs ihc =>
        intro ds hs e
        simp only [scL, Bool.and_eq_true] at hs
        simp only [List.mapM_cons, Option.pure_def, Option.bind_eq_bind, Option.bind_eq_some_iff] at e
        obtain ⟨d, hd, es, he, e⟩ := e
        cases e
        rw [ih _ _ hs.1 hd, ihc _ hs.2 he]
    intro h h' hs e
    unfold sfrz at e
    split at e
    · split at e
      · rename_i hc; cases e; rw [ihL _ _ hs hc]
      · cases e
    · split at e
      · rename_i hc; cases e; rw [ihL _ _ hs hc]
      · cases e
    · simp only [HV.sc, Bool.and_eq_true] at hs
      split at e
      · rename_i hf hc; cases e; rw [ihL _ _ hs.1 hf, ihL _ _ hs.2 hc]
      · cases e
    · exact absurd (blt_lt hs) (Nat.not_lt_zero _)
    · exact absurd (blt_lt hs) (Nat.not_lt_zero _)
    · cases e; rfl

theorem sfrzL_sc0 {D : Heap} (m : Nat) : ∀ (cs ds : List HV), scL 0 cs = true → cs.mapM (sfrz m D) = some ds → ds = cs
  | [], ds, _, e => by simp at e; exact e
  | c :: cs, ds, hs, e => by
    simp only [scL, Bool.and_eq_true] at hs
    simp only [List.mapM_cons, Option.pure_def, Option.bind_eq_bind, Option.bind_eq_some_iff] at e
    obtain ⟨d, hd, es, he, e⟩ := e
    cases e
    rw [sfrz_sc0 m _ _ hs.1 hd, sfrzL_sc0 m _ _ hs.2 he]

theorem callS_ok (hr : Good P r) {g : FuncId} {aa as' : List HV} {H H1 : Heap} {n1 : Nat} {rv q : HV} (ha : aa.mapM (sfrz 8 H) = some as') (h0 : scL 0 as' = true) (hc : r (.call g as' [] 0) = some (.call rv H1 n1))
    (hn : (scL 0 aa || (nf rv && nfH H1)) = true) (hf : sfrz 8 H1 rv = some q) (hq : q.sc 0 = true) (ρ : Nat → Nat) : ACallD P g (renL ρ aa) (renH ρ H) q := by
  obtain ⟨h1, h2, st, hcall⟩ := hr _ _ hc h0 rfl
  have hargs : renL ρ as' = (renL ρ aa).map (frz 8 (renH ρ H)) := (mapM_frz ρ ha).symm
  have hqr : ∀ ρ' : Nat → Nat, frz 8 (renH ρ' H1) (rv.ren ρ') = q := fun ρ' => by rw [sfrz_sound 8 H1 ρ' rv q hf, ren_sc0 ρ' hq]
  cases hs : scL 0 aa with
  | true =>
    have e : as' = aa := sfrzL_sc0 8 _ _ hs ha
    subst e
    refine ACallD.pure0 ?_
    rw [renL_sc0 ρ hs]
    have h5 := hcall ρ (fun r' H' => ∃ ρ', r' = rv.ren ρ' ∧ H' = renH ρ' H1) fun ρ' _ => ⟨ρ', rfl, rfl⟩
    rw [renL_sc0 ρ hs] at h5
    refine h5.conv ?_
    rintro r' H' ⟨ρ', rfl, rfl⟩
    exact ⟨_, _, Conv.all 8, hqr ρ', hqr ρ' ▸ sc0_clean q hq, rfl⟩
  | false =>
    rw [hs, Bool.false_or, Bool.and_eq_true] at hn
    refine ACall.lend (K := fun r' H' => ∃ ρ', r' = rv.ren ρ' ∧ H' = renH ρ' H1) 8 8 ?_ ?_ (sc0_clean q hq)
    · rw [← hargs]
      exact hcall ρ _ fun ρ' _ => ⟨ρ', rfl, rfl⟩
    · rintro r' H' ⟨ρ', rfl, rfl⟩
      exact ⟨nf_ren ρ' rv hn.1, nfH_ren ρ' H1 hn.2, hqr ρ'⟩

theorem sopS_ok (hT : T.Ok P) (hr : Good P r) {o : Oper} {q : HV} (h : sopS r T o s = some q) (ρ : Nat → Nat) {R : HV → Prop} (hq : R (q.ren ρ)) : aopS P o R (s.ren ρ) := by
  unfold sopS at h
  unfold aopS
  split at h
  · rename_i e x hop
    simp only [hop]
    unfold spBox at h
    try simp only [evR_eq, hgetR_eq, hsetR_eq, sgetR_eq, putR_eq, aslR_eq, apartsR_eq] at h
    split at h
    · rename_i hv hx
      split at h
      · rename_i cs hcs
        cases h
        simp only [ev_ren, hx, Option.map_some, cells_ren, hcs]
        exact hq
      · cases h
    · cases h
  · rename_i t m ps hop
    simp only [hop]
    unfold spBuild at h
    try simp only [evR_eq, hgetR_eq, hsetR_eq, sgetR_eq, putR_eq, aslR_eq, apartsR_eq] at h
    replace h := guardO_some h
    obtain ⟨h1, h⟩ := h
    split at h
    · rename_i k e cs hsl
      cases h
      exact ⟨Nat.le_of_ble_eq_true h1, sslice_sound hT.ty hsl hq⟩
    · cases h
  · rename_i f aa ts hop
    simp only [hop]
    unfold spCall at h
    try simp only [evR_eq, hgetR_eq, hsetR_eq, sgetR_eq, putR_eq, aslR_eq, apartsR_eq] at h
    split at h
    · rename_i g fs cs hs hf ha
      split at h
      · rename_i as' has'
        replace h := guardO_some h
        obtain ⟨h1, h⟩ := h
        split at h
        · rename_i rv H1 n1 hrc
          replace h := guardO_some h
          obtain ⟨h2, h⟩ := h
          split at h
          · rename_i q' hq'
            replace h := guardO_some h
            obtain ⟨h3, h⟩ := h
            cases h
            have := callS_ok hr has' h1 hrc h2 hq' h3 ρ
            simp only [ev_ren, hf, Option.map_some, HV.ren, evL_sc ha ρ]
            rw [← renL_append, ← renL_append]
            rw [ren_sc0 ρ h3] at hq
            exact ⟨q, this, hq⟩
          · cases h
        · cases h
      · cases h
    · cases h
  · have h' := sval_sound (P := P) hT.ty h hq
    split
    · rename_i h1 h2 h3 _ _ _ e; exact absurd e (h1 _ _)
    · rename_i h1 h2 h3 _ _ _ _ e; exact absurd e (h2 _ _ _)
    · rename_i e; rw [e] at h'; exact h'.elim
    · rename_i h1 h2 h3 _ _ _ _ e; exact absurd e (h3 _ _ _)
    · exact h'

theorem ssteps_ok (hT : T.Ok P) (hr : Good P r) {all : List Oper} (ρ : Nat → Nat) {K : AS → Prop} {s1 : AS} : ∀ (l : List Oper) (s : AS), s.sc n = true → ssteps r T all l s n = some s1 → s1.sc n = true ∧ s1.heap = s.heap ∧ (K (s1.ren ρ) → asteps P all l K (s.ren ρ))
  | [], s, hs, h => by cases h; exact ⟨hs, rfl, id⟩
  | o :: l, s, hs, h => by
    have go : ∀ (s0 : AS), s0.sc n = true → s0.heap = s.heap → (match sopS r T o s0 with
        | some h => guardO (h.sc n) (ssteps r T all l (s0.put o.dst h) n)
        | none => none) = some s1 → s1.sc n = true ∧ s1.heap = s.heap ∧ (K (s1.ren ρ) → aopS P o (fun h => asteps P all l K ((s0.ren ρ).put o.dst h)) (s0.ren ρ)) := by
      intro s0 hs0 hh h
      split at h
      · rename_i q hq
        replace h := guardO_some h
        obtain ⟨h1, h⟩ := h
        obtain ⟨h2, h3, h4⟩ := ssteps_ok hT hr ρ l _ (sc_put hs0 h1) h
        rw [put_heap', hh] at h3
        refine ⟨h2, h3, fun hK => sopS_ok hT hr hq ρ ?_⟩
        have := h4 hK
        rw [ren_put] at this
        exact this
      · cases h
    simp only [ssteps, sgetR_eq, putR_eq] at h
    split at h
    · rename_i hg
      obtain ⟨h1, h2, h3⟩ := go s hs rfl h
      refine ⟨h1, h2, fun hK => ?_⟩
      simp only [asteps, hg]
      exact h3 hK
    · rename_i j want hg
      split at h
      · rename_i oj hoj
        split at h
        · rename_i d hd
          split at h
          · rename_i b hb
            have hbr : sget (s.ren ρ).slots d = some (.bool b) := by
              show sget (renS ρ s.slots) d = _
              rw [sget_ren, hb]; rfl
            split at h
            · rename_i hbw
              have hbw : b = want := by simpa using hbw
              obtain ⟨h1, h2, h3⟩ := go (s.put (some d) (.bool want)) (sc_put hs rfl) rfl h
              refine ⟨h1, h2, fun hK => ?_⟩
              simp only [asteps, hg, hoj, hd, hbr]
              have h4 := h3 hK
              rw [ren_put] at h4
              rw [if_pos hbw]
              exact h4
            · rename_i hbw
              have hbw : b ≠ want := by simpa using hbw
              obtain ⟨h1, h2, h3⟩ := ssteps_ok hT hr ρ l _ (sc_put (d := o.dst) (h := .v undef) (sc_put (d := some d) (h := .bool !want) hs rfl) rfl) h
              rw [put_heap', put_heap'] at h2
              refine ⟨h1, h2, fun hK => ?_⟩
              simp only [asteps, hg, hoj, hd, hbr]
              have h4 := h3 hK
              rw [ren_put, ren_put] at h4
              rw [if_neg hbw]
              exact h4
          · cases h
        · cases h
      · cases h

/-- a region -/
theorem AW.ops {ro : Option Nat} {id : Nat} {ops : Array Oper} {Q : Exit → AS → Prop} (h : AOps P ro N ops (List.range' 0 ops.toList.length) (fun s' => Q .normal s') s) : AW P ro N (.region id ops false) Q s := by
  intro w0 μ0 μ a w hs hE
  refine wpIn_region ?_
  rw [List.range_eq_range', ← Array.length_toList]
  exact h w0 μ0 μ a w _ hs hE fun μ' s' a' w' hk hs' hE' => ⟨(fun _ h => by cases h), (fun h => by cases h), _, _, hk, hs', hE'⟩

theorem sdrawP_ok (hT : T.Ok P) (hr : Good P r) {id : Nat} {ops : Array Oper} (hok : ops.toList.all (fun o => okd N o.dst) = true) {p : Nat} (hs : s.sc n = true) (h : sdrawP r T ops s n p = some (s', n')) :
    s'.sc n' = true ∧ Step n n' s.heap s'.heap ∧ ∀ (ρ : Nat → Nat) (ro : Option Nat) (Q : Exit → AS → Prop), (∀ ρ', Agree n ρ ρ' → Q .normal (s'.ren ρ')) → AW P ro N (.region id ops true) Q (s.ren ρ) := by
  unfold sdrawP at h
  replace h := guardO_some h
  obtain ⟨hd, h⟩ := h
  split at h
  · rename_i s1 hst
    have h1 := fun (ρ : Nat → Nat) (K : AS → Prop) => ssteps_ok (K := K) hT hr ρ _ _ hs hst
    have h2 := h1 (fun v => v) fun _ => True
    obtain ⟨h3, h4, h5⟩ := sops_ok hT hr hok (ops.toList.drop p) p s1 n (fun k => by rw [List.getElem?_drop, Array.getElem?_toList]) h2.1 h
    rw [h2.2.1] at h4
    refine ⟨h3, h4, fun ρ ro Q hQ => AW.drawX p (fun x => x = s1.ren ρ) hT.draw hok hd ?_ ((h1 ρ _).2.2 rfl)⟩
    rintro x rfl
    have := h5 ρ ro (fun s' => Q .normal s') hQ
    have hl : (ops.toList.drop p).length = ops.size - p := by simp
    rw [hl] at this
    exact this
  · cases h

theorem sdraw_ok (hT : T.Ok P) (hr : Good P r) {id : Nat} {ops : Array Oper} (hok : ops.toList.all (fun o => okd N o.dst) = true) (hs : s.sc n = true) (h : sdraw r T ops s n = some (s', n')) :
    s'.sc n' = true ∧ Step n n' s.heap s'.heap ∧ ∀ (ρ : Nat → Nat) (ro : Option Nat) (Q : Exit → AS → Prop), (∀ ρ', Agree n ρ ρ' → Q .normal (s'.ren ρ')) → AW P ro N (.region id ops true) Q (s.ren ρ) := by
  unfold sdraw at h
  split at h
  · rename_i x hx
    cases h
    exact sdrawP_ok hT hr hok hs hx
  · exact sdrawP_ok hT hr hok hs h

theorem sres_ok (hT : T.Ok P) (ρ : Nat → Nat) : ∀ {rvs : List ResultVar} {hs : List HV} {R : List HV → Prop}, sres T.ty s rvs = some hs → R (renL ρ hs) → resAll P (s.ren ρ) rvs R
  | [], hs, R, h, hR => by cases h; exact hR
  | rv :: rvs, hs, R, h, hR => by
    simp only [sres] at h
    split at h
    · rename_i q qs hq hqs
      cases h
      have key : ∀ R' : HV → Prop, R' (q.ren ρ) → resOne P (s.ren ρ) rv R' := by
        intro R' hR'
        cases rv with
        | tmp t =>
          have : sget (renS ρ s.slots) t = some (q.ren ρ) := by rw [sget_ren]; simp only [sres1, sgetR_eq, hgetR_eq] at hq; rw [hq]; rfl
          simp only [resOne, AS.ren, this]
          exact hR'
        | cell t t' =>
          simp only [sres1, sgetR_eq, hgetR_eq] at hq
          split at hq
          · rename_i U cs off hU hx
            have : sget (s.ren ρ).slots t = some (.fptr (renL ρ cs) off) := by show sget (renS ρ s.slots) t = _; rw [sget_ren, hx]; rfl
            simp only [resOne, hT.ty _ _ hU, this]
            exact sload_sound hq hR'
          · rename_i U id ver off hU hx
            split at hq
            · rename_i ver' k e cs hg
              replace hq := guardO_some hq
              obtain ⟨h1, hq⟩ := hq
              have hv := Nat.eq_of_beq_eq_true h1
              subst hv
              have : sget (s.ren ρ).slots t = some (.ptr id (ρ ver) off) := by show sget (renS ρ s.slots) t = _; rw [sget_ren, hx]; rfl
              simp only [resOne, hT.ty _ _ hU, this, hget_s ρ hg, AObj.ren]
              exact ⟨trivial, sload_sound hq hR'⟩
            · cases hq
          · cases hq
      exact key _ (sres_ok hT ρ hqs hR)
    · cases h

theorem thenQ_ne {k : AS → Prop} {Q : Exit → AS → Prop} {e : Exit} (he : e ≠ .normal) {s : AS} (h : Q e s) : thenQ k Q e s := by
  cases e with
  | normal => exact absurd rfl he
  | _ => exact h

theorem rounds_step (hr : Good P r) {top : Bool} {x : Code} {o : Out} : ∀ (k : Nat) (s : AS) (n : Nat), s.sc n = true → rounds r top N x k s n = some o → ∃ e s2 n2, o = .code e s2 n2 ∧ s2.sc n2 = true ∧ Step n n2 s.heap s2.heap
  | 0, _, _, _, h => by cases h
  | k + 1, s, n, hs, h => by
    simp only [rounds] at h
    split at h
    · rename_i s1 n1 hr1
      obtain ⟨h1, h2, _⟩ := hr _ _ hr1 hs
      obtain ⟨e, s2, n2, h3, h4, h5⟩ := rounds_step hr k s1 n1 h1 h
      exact ⟨e, s2, n2, h3, h4, h2.trans (sc_heap_of hs) h5⟩
    · have := hr _ _ h
      cases o with
      | code e s2 n2 => exact ⟨e, s2, n2, rfl, (this hs).1, (this hs).2.1⟩
      | call rv H n2 => exact this.elim

theorem rounds_ok (hr : Good P r) {top : Bool} {x : Code} {o : Out} (k : Nat) (h : rounds r top N x k s n = some o) : Sem P (.code top N (.loop x) s n) o := by
  cases o with
  | call rv H n2 =>
    have : ∀ (k : Nat) (s : AS) (n : Nat), rounds r top N x k s n ≠ some (.call rv H n2) := by
      intro k
      induction k with
      | zero => intro s n h; cases h
      | succ k ih =>
        intro s n h
        simp only [rounds] at h
        split at h
        · exact ih _ _ h
        · exact (hr _ _ h).elim
    exact absurd h (this k s n)
  | code e s2 n2 =>
    intro hs
    obtain ⟨e', s2', n2', he, h1, h2⟩ := rounds_step hr k s n hs h
    cases he
    refine ⟨h1, h2, fun ρ ro Q htop hQ => ?_⟩
    refine AW.loop' (fun j s0 => ∃ s1 n1 ρ1, s0 = s1.ren ρ1 ∧ s1.sc n1 = true ∧ rounds r top N x j s1 n1 = some (.code e s2 n2) ∧ Agree n ρ ρ1 ∧ n ≤ n1) ⟨k, _, AS.le_refl _, s, n, ρ, rfl, hs, h, Agree.refl _ _, Nat.le_refl _⟩ ?_
    rintro j s0 ⟨s1, n1, ρ1, rfl, hs1, hj, hag, hn⟩
    cases j with
    | zero => cases hj
    | succ j =>
      simp only [rounds] at hj
      split at hj
      · rename_i s3 n3 hr3
        obtain ⟨h3, h4, h5⟩ := hr _ _ hr3 hs1
        refine h5 ρ1 ro _ htop fun ρ' hag' => ?_
        exact ⟨j, Nat.lt_succ_self j, _, AS.le_refl _, s3, n3, ρ', rfl, h3, hj, hag.trans hn hag', Nat.le_trans hn h4.le⟩
      · rename_i hno
        obtain ⟨h3, h4, h5⟩ := hr _ _ hj hs1
        refine h5 ρ1 ro _ htop fun ρ' hag' => thenQ_ne ?_ (hQ ρ' (hag.trans hn hag'))
        rintro rfl
        exact hno _ _ hj

theorem sc_enumS : ∀ (i : Nat) (args : List HV), scL n args = true → scS n (enumS i args) = true
  | _, [], _ => rfl
  | i, a :: args, h => by
    simp only [scL, Bool.and_eq_true] at h
    simp only [enumS, scS, h.1, sc_enumS (i + 1) args h.2, Bool.and_self]

theorem renS_enumS (ρ : Nat → Nat) : ∀ (i : Nat) (args : List HV), renS ρ (enumS i args) = enumS i (renL ρ args)
  | _, [] => rfl
  | i, a :: args => by simp only [enumS, renS, renL, renS_enumS ρ (i + 1) args]

theorem scL_append {cs ds : List HV} (h : scL n cs = true) (h' : scL n ds = true) : scL n (cs ++ ds) = true := by
  induction cs with
  | nil => exact h'
  | cons c cs ih =>
    simp only [scL, Bool.and_eq_true] at h
    simp only [List.cons_append, scL, h.1, ih h.2, Bool.and_self]

theorem joinR_ren (ρ : Nat → Nat) : ∀ hs : List HV, (joinR hs).ren ρ = joinR (renL ρ hs)
  | [] => rfl
  | [h] => rfl
  | _ :: _ :: _ => rfl

theorem strs_ren (ρ : Nat → Nat) : ∀ ls : List (List UInt8), renL ρ (ls.map HV.str) = ls.map HV.str
  | [] => rfl
  | a :: ls => by simp only [List.map_cons, renL, HV.ren, strs_ren ρ ls]
theorem ints_ren (ρ : Nat → Nat) : ∀ ls : List Int, renL ρ (ls.map (HV.int .i64)) = ls.map (HV.int .i64)
  | [] => rfl
  | a :: ls => by simp only [List.map_cons, renL, HV.ren, ints_ren ρ ls]
theorem strs_sc (n : Nat) : ∀ ls : List (List UInt8), scL n (ls.map HV.str) = true
  | [] => rfl
  | a :: ls => by simp only [List.map_cons, scL, HV.sc, strs_sc n ls, Bool.and_self]
theorem ints_sc (n : Nat) : ∀ ls : List Int, scL n (ls.map (HV.int .i64)) = true
  | [] => rfl
  | a :: ls => by simp only [List.map_cons, scL, HV.sc, ints_sc n ls, Bool.and_self]

theorem ssort_ok (hT : T.Ok P) {f : FuncId} {k : Bool} (hk : T.sort f = some k) {args : List HV} {H : Heap} {o : Out} (h : ssort k args H n = some o) : Sem P (.call f args H n) o := by
  unfold ssort at h
  simp only [hgetR_eq, hsetR_eq] at h
  split at h
  · cases h
    refine fun _ hH => ⟨rfl, hH, Step.refl _ _, fun ρ K hK => ?_⟩
    cases k with
    | true => exact (hT.sortS f hk).nil _ _ (hK ρ (Agree.refl _ _))
    | false => exact (hT.sortI f hk).nil _ _ (hK ρ (Agree.refl _ _))
  · rename_i id ver m
    split at h
    · rename_i ver' e cs hg
      split at h
      · split at h
        · rename_i ls hls
          replace h := guardO_some h
          obtain ⟨h1, h⟩ := h
          cases h
          simp only [Bool.and_eq_true] at h1
          have hv := Nat.eq_of_beq_eq_true h1.1
          subst hv
          have hm := Nat.eq_of_beq_eq_true h1.2.1
          subst hm
          have hcs := strsOf_eq hls
          subst hcs
          intro _ hH
          have hlt := sch_get hH hg
          refine ⟨rfl, scH_set _ _ _ _ hH hlt.1.1 hlt.1.2 (strs_sc _ _), ⟨Nat.le_refl _, LoopKeep.set (by rw [hg]; intros; simp), Back.set (.inr ⟨_, hg⟩)⟩, fun ρ K hK => ?_⟩
          refine (hT.sortS f hk).arr _ id (ρ ver) e ls K (by rw [hget_ren, hg]; simp only [Option.map_some, AObj.ren, strs_ren]) (blt_lt h1.2.2) ?_
          have := hK ρ (Agree.refl _ _)
          rw [renH_set] at this
          simp only [AObj.ren, strs_ren, HV.ren, renL] at this
          rw [sortS_isort]
          exact this
        · cases h
      · split at h
        · rename_i ls hls
          replace h := guardO_some h
          obtain ⟨h1, h⟩ := h
          cases h
          simp only [Bool.and_eq_true] at h1
          have hv := Nat.eq_of_beq_eq_true h1.1
          subst hv
          have hm := Nat.eq_of_beq_eq_true h1.2.1
          subst hm
          have hcs := intsOf_eq hls
          subst hcs
          intro _ hH
          have hlt := sch_get hH hg
          refine ⟨rfl, scH_set _ _ _ _ hH hlt.1.1 hlt.1.2 (ints_sc _ _), ⟨Nat.le_refl _, LoopKeep.set (by rw [hg]; intros; simp), Back.set (.inr ⟨_, hg⟩)⟩, fun ρ K hK => ?_⟩
          refine (hT.sortI f hk).arr _ id (ρ ver) e ls K (by rw [hget_ren, hg]; simp only [Option.map_some, AObj.ren, ints_ren]) (blt_lt h1.2.2) ?_
          have := hK ρ (Agree.refl _ _)
          rw [renH_set] at this
          simp only [AObj.ren, ints_ren, HV.ren, renL] at this
          rw [sortI_isort]
          exact this
        · cases h
    · cases h
  · cases h

theorem stCut_ok (hr : Good P r) {top : Bool} {ks : Option (List Nat)} {y : Code} {o : Out} (h : stCut T r top N ks y s n = some o) : Sem P (.code top N y s n) o := by
  unfold stCut at h
  split at h
  · rename_i ks
    rw [keepK_eq] at h
    have h2 := hr _ _ h
    cases o with
    | call rv H n2 => exact h2.elim
    | code e s2 n2 =>
      intro hs
      simp only [AS.sc, Bool.and_eq_true] at hs
      obtain ⟨h6, h7, h8⟩ := h2 (by simp only [AS.sc, Bool.and_eq_true]; exact ⟨keepL_sc hs.1 ks, hs.2⟩)
      exact ⟨h6, h7, fun ρ ro Q htop hQ => AW.weaken (h8 ρ ro Q htop hQ) (keepL_le ρ s ks)⟩
  · exact hr _ _ h

theorem step_ok (hT : T.Ok P) (hr : Good P r) : Good P (step T r) := by
  intro t o h
  cases t with
  | call f args H n =>
    simp only [step, stCall, stBody] at h
    split at h
    · rename_i k hk
      exact ssort_ok hT hk h
    split at h
    · -- a function that is known
      rename_i rv hx
      replace h := guardO_some h
      obtain ⟨h1, h⟩ := h
      cases h
      split at hx
      · rename_i as' ha
        replace hx := guardO_some hx
        obtain ⟨h2, hx⟩ := hx
        intro hargs hH
        refine ⟨HV.sc_mono (Nat.zero_le _) rv h1, hH, Step.refl _ _, fun ρ K hK => ?_⟩
        have hf := hT.ext _ _ _ hx
        have ha2 := mapM_frz ρ ha
        rw [renL_sc0 ρ h2] at ha2
        refine hf.call 8 ha2 ?_
        have := hK ρ (Agree.refl _ _)
        rw [ren_sc0 ρ h1] at this
        exact this
      · cases hx
    · split at h
      · rename_i fn hfn
        split at h
        · rename_i c hc
          replace h := guardO_some h
          obtain ⟨h1, h⟩ := h
          split at h
          · rename_i e s1 n1 hr1
            replace h := guardO_some h
            obtain ⟨h2, h⟩ := h
            split at h
            · rename_i hs hres
              replace h := guardO_some h
              obtain ⟨h3, h⟩ := h
              cases h
              intro hargs hH
              obtain ⟨h4, h5, h6⟩ := hr _ _ hr1 (by simp only [AS.sc, sc_enumS 0 args hargs, hH, Bool.and_self])
              refine ⟨h3, gc_sc (sc_heap_of h4), h5.drop fun id x hx => gc_get hx, fun ρ K hK => ?_⟩
              obtain ⟨hf, hname⟩ := hT.fn _ _ hfn
              refine ACall.of_body hf hname hc (by rw [renL_len]; exact Nat.le_of_ble_eq_true h1) ?_
              have e0 : ({ slots := enumS 0 (renL ρ args), heap := renH ρ H } : AS) = (⟨enumS 0 args, H⟩ : AS).ren ρ := by simp only [AS.ren, renS_enumS]
              rw [e0]
              refine h6 ρ none _ (fun _ => rfl) fun ρ' hag => ⟨?_, sres_ok hT ρ' hres ?_⟩
              · cases e with
                | normal => exact .inl rfl
                | ret => exact .inr rfl
                | _ => cases h2
              · refine ⟨_, renH ρ' (gc n (joinR hs) s1.heap), Conv.drop fun id x hx => ?_, ?_⟩
                · rw [hget_ren] at hx
                  cases hg : hget (gc n (joinR hs) s1.heap) id with
                  | none => rw [hg] at hx; cases hx
                  | some y =>
                    rw [hg] at hx
                    show hget (renH ρ' s1.heap) id = some x
                    rw [hget_ren, gc_get hg]
                    exact hx
                · rw [← joinR_ren]
                  exact hK ρ' hag
            · cases h
          · cases h
        · cases h
      · cases h
  | code top N c s n =>
    simp only [step, stCode] at h
    split at h
    · cases h
      exact fun hs => ⟨hs, Step.refl _ _, fun ρ ro Q _ hQ => AW.skip (hQ ρ (Agree.refl _ _))⟩
    · cases h
      exact fun hs => ⟨hs, Step.refl _ _, fun ρ ro Q _ hQ => AW.exit (hQ ρ (Agree.refl _ _))⟩
    · cases h
      exact fun hs => ⟨hs, Step.refl _ _, fun ρ ro Q _ hQ => AW.ret (hQ ρ (Agree.refl _ _))⟩
    · -- seq
      unfold stSeq at h
      try simp only [evR_eq, hgetR_eq, hsetR_eq, sgetR_eq, putR_eq, aslR_eq, apartsR_eq] at h
      rename_i x y
      split at h
      · rename_i s1 n1 hr1
        have h2 := stCut_ok hr h
        cases o with
        | call rv H n2 => exact h2.elim
        | code e s2 n2 =>
          intro hs
          obtain ⟨h3, h4, h5⟩ := hr _ _ hr1 hs
          obtain ⟨h6, h7, h8⟩ := h2 h3
          refine ⟨h6, h4.trans (sc_heap_of hs) h7, fun ρ ro Q htop hQ => AW.seq (h5 ρ ro _ htop fun ρ1 ha1 => h8 ρ1 ro Q htop fun ρ2 ha2 => hQ ρ2 (ha1.trans h4.le ha2))⟩
      · rename_i hno
        have h2 := hr _ _ h
        cases o with
        | call rv H n2 => exact h2.elim
        | code e s2 n2 =>
          intro hs
          obtain ⟨h3, h4, h5⟩ := h2 hs
          exact ⟨h3, h4, fun ρ ro Q htop hQ => AW.seq (h5 ρ ro _ htop fun ρ' ha => thenQ_ne (fun e => by subst e; exact hno _ _ h) (hQ ρ' ha))⟩
    · -- block
      unfold stBlock at h
      try simp only [evR_eq, hgetR_eq, hsetR_eq, sgetR_eq, putR_eq, aslR_eq, apartsR_eq] at h
      rename_i i x
      split at h
      · rename_i j s1 n1 hr1
        cases h
        intro hs
        obtain ⟨h3, h4, h5⟩ := hr _ _ hr1 hs
        refine ⟨h3, h4, fun ρ ro Q htop hQ => AW.block (h5 ρ ro _ htop fun ρ' ha => ?_)⟩
        have := hQ ρ' ha
        simp only [blockQ]
        split
        · rename_i e; rw [if_pos e] at this; exact this
        · rename_i e; rw [if_neg e] at this; exact this
      · rename_i hno
        have h2 := hr _ _ h
        cases o with
        | call rv H n2 => exact h2.elim
        | code e s2 n2 =>
          intro hs
          obtain ⟨h3, h4, h5⟩ := h2 hs
          refine ⟨h3, h4, fun ρ ro Q htop hQ => AW.block (h5 ρ ro _ htop fun ρ' ha => ?_)⟩
          have := hQ ρ' ha
          cases e with
          | exit j => exact absurd h (hno _ _ _)
          | _ => exact this
    · -- cond
      unfold stCond at h
      try simp only [evR_eq, hgetR_eq, hsetR_eq, sgetR_eq, putR_eq, aslR_eq, apartsR_eq] at h
      rename_i c x y
      split at h
      · rename_i hc
        have h2 := hr _ _ h
        cases o with
        | call rv H n2 => exact h2.elim
        | code e s2 n2 =>
          intro hs
          obtain ⟨h3, h4, h5⟩ := h2 hs
          exact ⟨h3, h4, fun ρ ro Q htop hQ => AW.cond (t := true) (by rw [ev_ren, hc]; rfl) (fun _ => h5 ρ ro Q htop hQ) (fun e => by cases e)⟩
      · rename_i hc
        have h2 := hr _ _ h
        cases o with
        | call rv H n2 => exact h2.elim
        | code e s2 n2 =>
          intro hs
          obtain ⟨h3, h4, h5⟩ := h2 hs
          exact ⟨h3, h4, fun ρ ro Q htop hQ => AW.cond (t := false) (by rw [ev_ren, hc]; rfl) (fun e => by cases e) (fun _ => h5 ρ ro Q htop hQ)⟩
      · cases h
    · exact rounds_ok hr _ h
    · -- region
      unfold stRegion at h
      try simp only [evR_eq, hgetR_eq, hsetR_eq, sgetR_eq, putR_eq, aslR_eq, apartsR_eq] at h
      rename_i id ops dr
      replace h := guardO_some h
      obtain ⟨hok, h⟩ := h
      split at h
      · rename_i s1 n1 hop
        cases h
        intro hs
        cases dr with
        | true =>
          obtain ⟨h3, h4, h5⟩ := sdraw_ok (id := id) hT hr hok hs hop
          exact ⟨h3, h4, fun ρ ro Q _ hQ => h5 ρ ro Q hQ⟩
        | false =>
          obtain ⟨h3, h4, h5⟩ := sops_ok hT hr hok ops.toList 0 s n (fun k => by simp) hs hop
          exact ⟨h3, h4, fun ρ ro Q _ hQ => AW.ops (h5 ρ ro _ hQ)⟩
      · cases h
    · -- rangeFunc
      unfold stRange at h
      try simp only [evR_eq, hgetR_eq, hsetR_eq, sgetR_eq, putR_eq, aslR_eq, apartsR_eq] at h
      rename_i g ps assign body
      split at h
      · rename_i f fs cs hg
        replace h := guardO_some h
        obtain ⟨h1, h⟩ := h
        simp only [Bool.and_eq_true] at h1
        split at h
        · rename_i rv H n1 hr1
          split at h
          · rename_i v1 st' pend f1 m1 snap1 ps1 as1 bd1 hg1
            replace h := guardO_some h
            obtain ⟨h4, h⟩ := h
            -- the loop behind the iterator's call
            have fin : ∀ (pe : Option Code), pe = pend → ∀ (e : Exit), (∀ (ρ : Nat → Nat) (Q : Exit → AS → Prop) (sx : AS), Q e sx → match (generalizing := false) pe with
                | none => Q .normal sx
                | some c => AW P none N c Q sx) →
                Sem P (.code true N (.rangeFunc g ps assign body) s n) (.code e { s with heap := hset H n n (.loop .exhausted pe (n + 1) N s.slots ps assign body) } n1) := by
              intro pe hpe e hq hs
              subst hpe
              have hsh := sc_heap_of hs
              have hlsc : (AObj.loop .ready none (n + 1) N s.slots ps assign body).sc (n + 2) = true := by
                simp only [AObj.sc, scS_mono (Nat.le_add_right n 2) _ (sc_slots_of hs), Bool.and_true]
                simp [Nat.blt_eq]
              have hself : Nat.blt n (n + 2) = true := by simp [Nat.blt_eq]
              have h0 : scH (n + 2) (hset s.heap n n (.loop .ready none (n + 1) N s.slots ps assign body)) = true := scH_set _ _ _ _ (scH_mono (Nat.le_add_right n 2) _ hsh) (by omega) (by omega) hlsc
              have hargs : scL (n + 2) (fs ++ [.yl n n] ++ cs) = true := scL_append (scL_append (scL_mono (Nat.le_add_right n 2) _ h1.1) (by simp only [scL, HV.sc, hself, Bool.and_self])) (scL_mono (Nat.le_add_right n 2) _ h1.2)
              obtain ⟨h2, h3, st, hc⟩ := hr _ _ hr1 hargs h0
              have st0 : Step n (n + 2) s.heap (hset s.heap n n (.loop .ready none (n + 1) N s.slots ps assign body)) :=
                ⟨by omega, LoopKeep.set (by rw [sch_fresh hsh]; intros; simp), Back.set (.inl (Nat.le_refl _))⟩
              have st1 := st0.trans hsh st
              have hgl : hget (hset s.heap n n (.loop .ready none (n + 1) N s.slots ps assign body)) n = some (n, .loop .ready none (n + 1) N s.slots ps assign body) := by rw [hget_hset, if_pos rfl]
              obtain ⟨_, _, he1⟩ := st.loop _ _ _ _ _ _ _ _ _ _ hgl _ hg1
              cases he1
              have hls1 : (AObj.loop .exhausted pe (n + 1) N s.slots ps assign body).sc n1 = true := by
                simp only [AObj.sc, scS_mono st1.le _ (sc_slots_of hs), Bool.and_true]
                have := st.le
                simp [Nat.blt_eq]; omega
              have hn1 : n < n1 := by have := st.le; omega
              refine ⟨by simp only [AS.sc, scS_mono st1.le _ (sc_slots_of hs), scH_set _ n n _ h3 hn1 hn1 hls1, Bool.and_self], st1.trans hsh ⟨Nat.le_refl _, LoopKeep.setL hg1, Back.set (.inr ⟨_, hg1⟩)⟩, fun ρ ro Q htop hQ => ?_⟩
              have hro : ro = none := htop rfl
              subst hro
              have hg' : (s.ren ρ).ev g = some (.fn (.func f) (renL ρ fs) (renL ρ cs)) := by rw [ev_ren, hg]; rfl
              refine AW.rangeFunc n hg' fun fn ver => ?_
              have hu := Agree.upd n ver ρ
              have ha1 : Agree n ρ (upd (upd ρ n ver) (n + 1) fn) := hu.trans (Nat.le_succ n) (Agree.upd (n + 1) fn _)
              have e0 : hset (s.ren ρ).heap n ver (.loop .ready none fn N (s.ren ρ).slots ps assign body) = renH (upd (upd ρ n ver) (n + 1) fn) (hset s.heap n n (.loop .ready none (n + 1) N s.slots ps assign body)) := by
                rw [renH_set]
                simp only [AObj.ren, AS.ren]
                rw [renH_agree ha1 _ hsh, renS_agree ha1 _ (sc_slots_of hs), upd_at]
                simp [upd]
              have e1 : renL ρ fs ++ [.yl n ver] ++ renL ρ cs = renL (upd (upd ρ n ver) (n + 1) fn) (fs ++ [.yl n n] ++ cs) := by
                rw [renL_append, renL_append, renL_agree ha1 _ h1.1, renL_agree ha1 _ h1.2]
                simp only [renL, HV.ren]
                have : upd (upd ρ n ver) (n + 1) fn n = ver := by simp [upd]
                rw [this]
              rw [e0, e1]
              refine hc _ _ fun ρ' hag => ?_
              have hv : ρ' n = ver := by rw [← hag n (by omega)]; simp [upd]
              have hfn : ρ' (n + 1) = fn := by rw [← hag (n + 1) (by omega)]; simp [upd]
              have ha2 : Agree n ρ ρ' := ha1.trans (Nat.le_add_right n 2) hag
              have hsl : renS ρ' s.slots = (s.ren ρ).slots := (renS_agree ha2 _ (sc_slots_of hs)).symm
              have hQ' := hQ ρ' ha2
              have e2 : (({ s with heap := hset H n n (.loop .exhausted pe (n + 1) N s.slots ps assign body) } : AS)).ren ρ' = { s.ren ρ with heap := hset (renH ρ' H) n ver (.loop .exhausted pe fn N (s.ren ρ).slots ps assign body) } := by
                simp only [AS.ren, renH_set, AObj.ren, hv, hfn]
                rw [renS_agree ha2 _ (sc_slots_of hs)]
              rw [e2] at hQ'
              refine ⟨st', pe, ?_, ?_, ?_⟩
              · rw [hget_ren, hg1]
                simp only [Option.map_some, AObj.ren, hv, hfn, hsl]
              · rintro rfl; cases h4
              · have := hq ρ Q _ hQ'
                cases pe with
                | none => exact this
                | some c => exact this
            split at h
            · cases h
              exact fin none rfl .normal (fun ρ Q sx hx => hx)
            · cases h
              exact fin (some .ret) rfl .ret (fun ρ Q sx hx => AW.ret hx)
            · cases h
              exact fin (some (.exit _)) rfl (.exit _) (fun ρ Q sx hx => AW.exit hx)
            · cases h
          · cases h
        · cases h
      · cases h
    · cases h

theorem run_ok (hT : T.Ok P) : ∀ k, Good P (run T k)
  | 0 => fun _ _ h => by cases h
  | k + 1 => step_ok hT (run_ok hT k)

/-- a contract from the evaluation -/
theorem Fresh.of_run (hT : T.Ok P) {f : FuncId} {args : List HV} {k n1 : Nat} {rv q : HV} {H : Heap} (h : run T k (.call f args [] 0) = some (.call rv H n1)) (ha : scL 0 args = true) (hn : (nf rv && nfH H) = true)
    (hf : sfrz 8 H rv = some q) (hq : q.sc 0 = true) : Fresh P f args q := by
  obtain ⟨_, _, _, hcall⟩ := run_ok hT k _ _ h ha rfl
  have h5 := hcall (fun v => v) (fun r' H' => ∃ ρ', r' = rv.ren ρ' ∧ H' = renH ρ' H) fun ρ' _ => ⟨ρ', rfl, rfl⟩
  rw [renL_id] at h5
  simp only [Bool.and_eq_true] at hn
  refine ⟨sc0_clean q hq, _, 8, h5, ?_⟩
  rintro r' H' ⟨ρ', rfl, rfl⟩
  exact ⟨nf_ren ρ' rv hn.1, nfH_ren ρ' H hn.2, by rw [sfrz_sound 8 H ρ' rv q hf, ren_sc0 ρ' hq]⟩
end
end Go.AW

/- Tables of known results for the evaluation. -/
namespace Go.AW
open Go

mutual
def HV.same : HV → HV → Bool
  | .int .i64 n, .int .i64 m => decide (n = m)
  | .int .u8 n, .int .u8 m => decide (n = m)
  | .int .u64 n, .int .u64 m => decide (n = m)
  | .bool b, .bool c => b == c
  | .str l, .str k => decide (l = k)
  | .agg cs, .agg ds => sameL cs ds
  | .tup cs, .tup ds => sameL cs ds
  | .sl k n cs, .sl k' n' ds => Nat.beq k k' && Nat.beq n n' && sameL cs ds
  | .v (.slice none 0 0), .v (.slice none 0 0) => true
  | _, _ => false
def sameL : List HV → List HV → Bool
  | [], [] => true
  | c :: cs, d :: ds => c.same d && sameL cs ds
  | _, _ => false
end

mutual
theorem HV.same_eq : ∀ a b : HV, a.same b = true → a = b
  | .int k n, b, h => by
    cases b with
    | int k' m => cases k <;> cases k' <;> simp [HV.same] at h <;> rw [h]
    | _ => cases k <;> simp [HV.same] at h
  | .bool x, b, h => by
    cases b <;> simp [HV.same] at h
    rw [h]
  | .str x, b, h => by
    cases b <;> simp [HV.same] at h
    rw [h]
  | .v x, b, h => by
    unfold HV.same at h
    split at h <;> simp_all
  | .agg cs, b, h => by
    cases b with
    | agg ds => simp only [HV.same] at h; rw [sameL_eq cs ds h]
    | _ => simp [HV.same] at h
  | .tup cs, b, h => by
    cases b with
    | tup ds => simp only [HV.same] at h; rw [sameL_eq cs ds h]
    | _ => simp [HV.same] at h
  | .sl k n cs, b, h => by
    cases b with
    | sl k' n' ds =>
      simp only [HV.same, Bool.and_eq_true] at h
      rw [Nat.eq_of_beq_eq_true h.1.1, Nat.eq_of_beq_eq_true h.1.2, sameL_eq cs ds h.2]
    | _ => simp [HV.same] at h
  | .ar _ _ _ _ _, b, h => by cases b <;> simp [HV.same] at h
  | .ptr _ _ _, b, h => by cases b <;> simp [HV.same] at h
  | .fptr _ _, b, h => by cases b <;> simp [HV.same] at h
  | .fn _ _ _, b, h => by cases b <;> simp [HV.same] at h
  | .mp _ _, b, h => by cases b <;> simp [HV.same] at h
  | .yl _ _, b, h => by cases b <;> simp [HV.same] at h
  | .it _ _, b, h => by cases b <;> simp [HV.same] at h
theorem sameL_eq : ∀ a b : List HV, sameL a b = true → a = b
  | [], [], _ => rfl
  | [], _ :: _, h => by simp [sameL] at h
  | _ :: _, [], h => by simp [sameL] at h
  | c :: cs, d :: ds, h => by
    simp only [sameL, Bool.and_eq_true] at h
    rw [HV.same_eq c d h.1, sameL_eq cs ds h.2]
end

def elook : List (FuncId × List HV × HV) → FuncId → List HV → Option HV
  | [], _, _ => none
  | (g, aa, q) :: l, f, args => bif (Nat.beq g f && sameL aa args) then some q else elook l f args

theorem elook_ok {P : Program} : ∀ {l : List (FuncId × List HV × HV)}, (∀ e ∈ l, Fresh P e.1 e.2.1 e.2.2) → ∀ f args r, elook l f args = some r → Fresh P f args r
  | [], _, _, _, _, h => by cases h
  | (g, aa, q) :: l, hl, f, args, r, h => by
    simp only [elook] at h
    cases hb : (Nat.beq g f && sameL aa args) with
    | true =>
      rw [hb] at h
      cases h
      simp only [Bool.and_eq_true] at hb
      have h1 := Nat.eq_of_beq_eq_true hb.1
      have h2 := sameL_eq _ _ hb.2
      subst h1 h2
      exact hl _ (List.mem_cons_self ..)
    | false =>
      rw [hb] at h
      exact elook_ok (fun e he => hl e (List.mem_cons_of_mem _ he)) f args r h

/-- what a closed call comes to, as one value that is looked at -/
noncomputable def comes (T : Tabs) (k : Nat) (f : FuncId) (args : List HV) (q : HV) : Bool :=
  match run T k (.call f args [] 0) with
  | some (.call rv H _) => scL 0 args && (nf rv && nfH H) && (match sfrz 8 H rv with
    | some r => r.sc 0 && r.same q
    | none => false)
  | _ => false

theorem Fresh.of_comes {P : Program} {T : Tabs} (hT : T.Ok P) {k : Nat} {f : FuncId} {args : List HV} {q : HV} (h : comes T k f args q = true) : Fresh P f args q := by
  unfold comes at h
  split at h
  · rename_i rv H n1 hr
    simp only [Bool.and_eq_true] at h
    obtain ⟨⟨h1, h2⟩, h3⟩ := h
    split at h3
    · rename_i r hr'
      simp only [Bool.and_eq_true] at h3
      have := HV.same_eq _ _ h3.2
      subst this
      exact Fresh.of_run hT hr h1 (by simp only [h2.1, h2.2, Bool.and_self]) hr' h3.1
    · cases h3
  · cases h

/-- the same of a result that may hold parts of the arguments -/
noncomputable def comesP (T : Tabs) (k : Nat) (f : FuncId) (args : List HV) (q : HV) : Bool :=
  match run T k (.call f args [] 0) with
  | some (.call rv H _) => scL 0 args && (match sfrz 8 H rv with
    | some r => r.sc 0 && r.same q
    | none => false)
  | _ => false

theorem Pure.of_comes {P : Program} {T : Tabs} (hT : T.Ok P) {k : Nat} {f : FuncId} {args : List HV} {q : HV} (h : comesP T k f args q = true) : Pure P f args (· = q) := by
  unfold comesP at h
  split at h
  · rename_i rv H n1 hr
    simp only [Bool.and_eq_true] at h
    obtain ⟨h1, h3⟩ := h
    split at h3
    · rename_i r hf
      simp only [Bool.and_eq_true] at h3
      have := HV.same_eq _ _ h3.2
      subst this
      obtain ⟨_, _, _, hcall⟩ := run_ok hT k _ _ hr h1 rfl
      have h5 := hcall (fun v => v) (fun r' H' => ∃ ρ', r' = rv.ren ρ' ∧ H' = renH ρ' H) fun ρ' _ => ⟨ρ', rfl, rfl⟩
      rw [renL_id] at h5
      refine h5.conv ?_
      rintro r' H' ⟨ρ', rfl, rfl⟩
      exact ⟨_, _, Conv.all 8, by rw [sfrz_sound 8 H ρ' rv _ hf, ren_sc0 ρ' h3.1], by rw [sfrz_sound 8 H ρ' rv _ hf, ren_sc0 ρ' h3.1]; exact sc0_clean _ h3.1, rfl⟩
    · cases h3
  · cases h

end Go.AW

namespace Go.AW
open Go Go.Proofs

theorem names_ok : Try.prog.funcs.toList.all (fun x => !(x.name == "runtime.NumGoroutine")) = true := by kernel_rfl

theorem fn_ok (f : FuncId) (x : Func) (h : Try.prog.funcs[f]? = some x) : Try.prog.funcs[f]? = some x ∧ (x.name == "runtime.NumGoroutine") = false := by
  refine ⟨h, ?_⟩
  have := List.all_eq_true.1 names_ok x (by
    rw [← Array.getElem?_toList] at h
    exact List.mem_of_getElem? h)
  simpa using this

def idxExt (f : FuncId) (args : List HV) : Option HV :=
  match f, args with
  | 51, [.str l, .int .u8 c] => some (.int .i64 (Lib.indexByte l c.toNat.toUInt8))
  | _, _ => none

theorem idxExt_ok (f : FuncId) (args : List HV) (r : HV) (h : idxExt f args = some r) : Fresh Try.prog f args r := by
  unfold idxExt at h
  split at h
  · cases h
    exact (w51 _ _).fresh trivial rfl
  · cases h

def trySort (f : FuncId) : Option Bool := match f with
  | 45 => some true
  | 179 => some false
  | _ => none

/-- the tables of this seat, with results that are known -/
def tabsOf (P : Program) (l : List (FuncId × List HV × HV)) : Tabs where
  ty := ty P
  fn := fun f => P.funcs[f]?
  ext := fun f args => match idxExt f args with
    | some r => some r
    | none => elook l f args
  sort := trySort
  keep := fun _ _ => none

theorem tabsOf_ok {P : Program} {l : List (FuncId × List HV × HV)} (hn : ∀ (f : FuncId) (x : Func), P.funcs[f]? = some x → (x.name == "runtime.NumGoroutine") = false) (hi : ∀ f args r, idxExt f args = some r → Fresh P f args r) (h1 : SortsS P 45) (h2 : SortsI P 179)
    (hd : P.follows .mixedOrders = true) (hl : ∀ e ∈ l, Fresh P e.1 e.2.1 e.2.2) : (tabsOf P l).Ok P where
  ty := fun _ _ h => h
  fn := fun f x h => ⟨h, hn f x h⟩
  ext := fun f args r h => by
    simp only [tabsOf] at h
    split at h
    · rename_i hx; cases h; exact hi _ _ _ hx
    · exact elook_ok hl f args r h
  sortS := fun f h => by
    simp only [tabsOf, trySort] at h
    split at h
    · exact h1
    · cases h
    · cases h
  sortI := fun f h => by
    simp only [tabsOf, trySort] at h
    split at h
    · cases h
    · exact h2
    · cases h
  draw := hd

theorem tabs_ok {l : List (FuncId × List HV × HV)} (hl : ∀ e ∈ l, Fresh Try.prog e.1 e.2.1 e.2.2) : (tabsOf Try.prog l).Ok Try.prog :=
  tabsOf_ok (fun f x h => (fn_ok f x h).2) idxExt_ok sorts45 sorts179 follows hl

/-- the graph of the chapter's examples -/
def gE : HV := .sl 3 3 [num 0, num 0, num 0, num 0, num 1, num 1, num 1, num 0, num 0]
def gA : HV := .agg [num 2, num 2, gE]

theorem a86 : Fresh Try.prog 86 [gA] (num 0) := Fresh.of_comes (T := tabsOf Try.prog []) (k := 1000) (tabs_ok (fun _ h => by cases h)) (by kernel_rfl)

def k86 : List (FuncId × List HV × HV) := [(86, [gA], num 0)]
theorem k86_ok : (tabsOf Try.prog k86).Ok Try.prog := tabs_ok fun e h => by
  simp only [k86, List.mem_singleton] at h
  subst h
  exact a86

/-- the steps of the graph's sets -/
def stpA (a : List Int) (c : UInt8) : List Int := if c = 48 then (if a = [] then [] else [0]) else if a = [0, 1] ∨ a = [0] then [1] else []
def setsA (a : List Int) : Prop := a = [0, 1] ∨ a = [0] ∨ a = [1] ∨ a = []

end Go.AW

/- language.Missing at the anchor's arguments: by evaluation. -/
namespace Go.AW
open Go Go.Proofs
theorem w_language_Missing {g : TLabelsStatesEdges} {n : Int} {r : List UInt8 × Bool × Int} (h : m_language_Missing g n = some r) : Pure Try.prog 88 [HV.agg [HV.int .i64 g.1, HV.int .i64 g.2.1, slE eFromLabelTo g.2.2], HV.int .i64 n] (· = HV.tup [HV.str r.1, HV.bool r.2.1, HV.int .i64 r.2.2]) := by
  unfold m_language_Missing at h
  split at h
  · rename_i hc
    obtain ⟨rfl, rfl⟩ := hc
    cases h
    exact Pure.of_comes (k := 3000) k86_ok (by kernel_rfl)
  · cases h
end Go.AW

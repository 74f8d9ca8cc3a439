import Derived.Test.YtccnafddjjamoaaLp3
import Derived.Shelf.Bits.Mul64
import Derived.Test.YtccnafddjjamoaaChecked
namespace Go.AW
open Go Go.Proofs
set_option linter.unusedVariables false
set_option maxHeartbeats 1600000 in
set_option maxRecDepth 100000 in
theorem w_graph_list {p0 : TFromLabelTo} {r : (List (Int))} (h : m_graph_list p0 = some r) : Pure Try.prog 130 [HV.agg [HV.int .i64 p0.1, HV.int .i64 p0.2.1, HV.int .i64 p0.2.2]] (· = slE eInt r) := by
  unfold m_graph_list at h
  refine Pure.of_body Try.func130 rfl rfl (Nat.le_of_ble_eq_true rfl) fun hf => ?_
  unfold Try.f130
  dsimp only [enumS, Nat.reduceAdd]
  refine AW.rgs rfl fun K hK => ?_
  refine b_op rfl (o_box rfl rfl rfl ?_)
  refine mv rfl rfl ?_
  refine b_nil (hK _ (AW.to (to_le (s' := ⟨[(1, HV.fptr [HV.int .i64 p0.1, HV.int .i64 p0.2.1, HV.int .i64 p0.2.2] 0)], []⟩) (AS.le_of ⟨rfl, trivial⟩ trivial) ?_)))
  clear hK K
  refine AW.rgs rfl fun K hK => ?_
  refine bv rfl (v_fieldAddrF fo66_0 rfl) ?_
  refine bv rfl (v_loadF ty3 rfl (l_lit rfl rfl)) ?_
  refine bv rfl (v_fieldAddrF fo66_1 rfl) ?_
  refine bv rfl (v_loadF ty3 rfl (l_lit rfl rfl)) ?_
  refine bv rfl (v_fieldAddrF fo66_2 rfl) ?_
  refine bv rfl (v_loadF ty3 rfl (l_lit rfl rfl)) ?_
  refine b_op rfl (o_bsl rfl rfl (as_of (cs := [HV.int .i64 p0.1, HV.int .i64 p0.2.1, HV.int .i64 p0.2.2]) ty42 ty3 rfl rfl rfl rfl rfl) ?_)
  refine mv rfl rfl ?_
  refine b_nil (hK _ (AW.to (to_le (s' := ⟨[(2, slE eInt [p0.1, p0.2.1, p0.2.2])], []⟩) (AS.le_of ⟨rfl, trivial⟩ trivial) ?_)))
  clear hK K
  refine AW.ret ?_
  have h := Option.some.inj h
  subst h
  exact ret_pure (hs := [slE eInt [p0.1, p0.2.1, p0.2.2]]) (q := slE eInt [p0.1, p0.2.1, p0.2.2]) (.inr rfl) (resT rfl rfl) rfl (clean_slE fun _ _ => ⟨trivial, trivial⟩)

set_option maxHeartbeats 1600000 in
set_option maxRecDepth 100000 in
theorem w_cmp_isNaN_int {p0 : Int} {r : Bool} (h : m_cmp_isNaN_int p0 = some r) : Pure Try.prog 188 [HV.int .i64 p0] (· = HV.bool r) := by
  unfold m_cmp_isNaN_int at h
  refine Pure.of_body Try.func188 rfl rfl (Nat.le_of_ble_eq_true rfl) fun hf => ?_
  unfold Try.f188
  dsimp only [enumS, Nat.reduceAdd]
  refine AW.rgs rfl fun K hK => ?_
  refine mv rfl rfl ?_
  refine b_nil (hK _ (AW.to (to_le (s' := ⟨[(0, HV.int .i64 p0)], []⟩) (AS.le_of ⟨rfl, trivial⟩ trivial) ?_)))
  clear hK K
  refine AW.rgs rfl fun K hK => ?_
  refine mv rfl rfl ?_
  refine mv rfl rfl ?_
  refine bv rfl (v_bin rfl rfl b_neq) ?_
  refine mv rfl rfl ?_
  refine b_nil (hK _ (AW.to (to_le (s' := ⟨[(2, HV.bool (decide (p0 ≠ p0)))], []⟩) (AS.le_of ⟨rfl, trivial⟩ trivial) ?_)))
  clear hK K
  refine AW.ret ?_
  have h := Option.some.inj h
  subst h
  exact ret_pure (hs := [HV.bool (decide (p0 ≠ p0))]) (q := HV.bool (decide (p0 ≠ p0))) (.inr rfl) (resT rfl rfl) rfl trivial

set_option maxHeartbeats 1600000 in
set_option maxRecDepth 100000 in
theorem w_cmp_Compare_int {p0 : Int} {p1 : Int} {r : Int} (h : m_cmp_Compare_int p0 p1 = some r) : Pure Try.prog 181 [HV.int .i64 p0, HV.int .i64 p1] (· = HV.int .i64 r) := by
  unfold m_cmp_Compare_int at h
  refine Pure.of_body Try.func181 rfl rfl (Nat.le_of_ble_eq_true rfl) fun hf => ?_
  unfold Try.f181
  dsimp only [enumS, Nat.reduceAdd]
  refine AW.rgs rfl fun K hK => ?_
  refine mv rfl rfl ?_
  refine b_nil (hK _ (AW.to (to_le (s' := ⟨[(0, HV.int .i64 p0), (1, HV.int .i64 p1)], []⟩) (AS.le_of ⟨rfl, rfl, trivial⟩ trivial) ?_)))
  clear hK K
  refine AW.rgs rfl fun K hK => ?_
  refine mv rfl rfl ?_
  obtain ⟨x1, h2, h⟩ := bS h
  refine b_op rfl (o_call rfl rfl rfl rfl (ACallD.pure0 (w_cmp_isNaN_int h2)) ?_)
  refine mv rfl rfl ?_
  refine b_nil (hK _ (AW.to (to_le (s' := ⟨[(0, HV.int .i64 p0), (1, HV.int .i64 p1), (5, HV.bool x1)], []⟩) (AS.le_of ⟨rfl, rfl, rfl, trivial⟩ trivial) ?_)))
  clear hK K
  refine AW.rgs rfl fun K hK => ?_
  refine mv rfl rfl ?_
  obtain ⟨x3, h4, h⟩ := bS h
  refine b_op rfl (o_call rfl rfl rfl rfl (ACallD.pure0 (w_cmp_isNaN_int h4)) ?_)
  refine mv rfl rfl ?_
  refine b_nil (hK _ (AW.to (to_le (s' := ⟨[(0, HV.int .i64 p0), (1, HV.int .i64 p1), (5, HV.bool x1), (6, HV.bool x3)], []⟩) (AS.le_of ⟨rfl, rfl, rfl, rfl, trivial⟩ trivial) ?_)))
  clear hK K
  refine AW.seq ?_
  refine AW.rgs rfl fun K hK => ?_
  refine mv rfl rfl ?_
  refine b_nil (hK _ (AW.to (to_le (s' := ⟨[(0, HV.int .i64 p0), (1, HV.int .i64 p1), (6, HV.bool x3), (11, HV.bool x1)], []⟩) (AS.le_of ⟨rfl, rfl, rfl, rfl, trivial⟩ trivial) ?_)))
  clear hK K
  refine AW.cond rfl (fun hc => ?_) (fun hc => ?_)
  · have h := ifT hc h
    refine AW.seq ?_
    refine AW.rgs rfl fun K hK => ?_
    refine mv rfl rfl ?_
    refine b_nil (hK _ (AW.to (to_le (s' := ⟨[(12, HV.bool x3)], []⟩) (AS.le_of ⟨rfl, trivial⟩ trivial) ?_)))
    clear hK K
    refine AW.cond rfl (fun hc => ?_) (fun hc => ?_)
    · have h := ifT hc h
      refine AW.rgs rfl fun K hK => ?_
      refine mv rfl rfl ?_
      refine b_nil (hK _ (AW.to (to_le (s' := ⟨[(4, HV.int .i64 0)], []⟩) (AS.le_of ⟨rfl, trivial⟩ trivial) ?_)))
      clear hK K
      refine AW.ret ?_
      have h := Option.some.inj h
      subst h
      exact ret_pure (hs := [HV.int .i64 0]) (q := HV.int .i64 0) (.inr rfl) (resT rfl rfl) rfl trivial
    · have h := ifF (bF' hc) h
      refine AW.skip ?_
      refine AW.rgs rfl fun K hK => ?_
      refine mv rfl rfl ?_
      refine b_nil (hK _ (AW.to (to_le (s' := ⟨[(4, HV.int .i64 (-1))], []⟩) (AS.le_of ⟨rfl, trivial⟩ trivial) ?_)))
      clear hK K
      refine AW.ret ?_
      have h := Option.some.inj h
      subst h
      exact ret_pure (hs := [HV.int .i64 (-1)]) (q := HV.int .i64 (-1)) (.inr rfl) (resT rfl rfl) rfl trivial
  · have h := ifF (bF' hc) h
    refine AW.skip ?_
    refine AW.seq ?_
    refine AW.rgs rfl fun K hK => ?_
    refine mv rfl rfl ?_
    refine b_nil (hK _ (AW.to (to_le (s' := ⟨[(0, HV.int .i64 p0), (1, HV.int .i64 p1), (13, HV.bool x3)], []⟩) (AS.le_of ⟨rfl, rfl, rfl, trivial⟩ trivial) ?_)))
    clear hK K
    refine AW.cond rfl (fun hc => ?_) (fun hc => ?_)
    · have h := ifT hc h
      refine AW.rgs rfl fun K hK => ?_
      refine mv rfl rfl ?_
      refine b_nil (hK _ (AW.to (to_le (s' := ⟨[(4, HV.int .i64 1)], []⟩) (AS.le_of ⟨rfl, trivial⟩ trivial) ?_)))
      clear hK K
      refine AW.ret ?_
      have h := Option.some.inj h
      subst h
      exact ret_pure (hs := [HV.int .i64 1]) (q := HV.int .i64 1) (.inr rfl) (resT rfl rfl) rfl trivial
    · have h := ifF (bF' hc) h
      refine AW.skip ?_
      refine AW.seq ?_
      refine AW.rgs rfl fun K hK => ?_
      refine mv rfl rfl ?_
      refine mv rfl rfl ?_
      refine bv rfl (v_bin rfl rfl b_lss) ?_
      refine b_nil (hK _ (AW.to (to_le (s' := ⟨[(0, HV.int .i64 p0), (1, HV.int .i64 p1), (16, HV.bool (decide (p0 < p1)))], []⟩) (AS.le_of ⟨rfl, rfl, rfl, trivial⟩ trivial) ?_)))
      clear hK K
      refine AW.cond rfl (fun hc => ?_) (fun hc => ?_)
      · have hc := of_decide_eq_true hc
        have h := ifT hc h
        refine AW.rgs rfl fun K hK => ?_
        refine mv rfl rfl ?_
        refine b_nil (hK _ (AW.to (to_le (s' := ⟨[(4, HV.int .i64 (-1))], []⟩) (AS.le_of ⟨rfl, trivial⟩ trivial) ?_)))
        clear hK K
        refine AW.ret ?_
        have h := Option.some.inj h
        subst h
        exact ret_pure (hs := [HV.int .i64 (-1)]) (q := HV.int .i64 (-1)) (.inr rfl) (resT rfl rfl) rfl trivial
      · have hc := of_decide_eq_false hc
        have h := ifF hc h
        refine AW.skip ?_
        refine AW.seq ?_
        refine AW.rgs rfl fun K hK => ?_
        refine mv rfl rfl ?_
        refine mv rfl rfl ?_
        refine bv rfl (v_bin rfl rfl b_gtr) ?_
        refine b_nil (hK _ (AW.to (to_le (s' := ⟨[(19, HV.bool (decide (p1 < p0)))], []⟩) (AS.le_of ⟨rfl, trivial⟩ trivial) ?_)))
        clear hK K
        refine AW.cond rfl (fun hc => ?_) (fun hc => ?_)
        · have hc := of_decide_eq_true hc
          have h := ifT hc h
          refine AW.rgs rfl fun K hK => ?_
          refine mv rfl rfl ?_
          refine b_nil (hK _ (AW.to (to_le (s' := ⟨[(4, HV.int .i64 1)], []⟩) (AS.le_of ⟨rfl, trivial⟩ trivial) ?_)))
          clear hK K
          refine AW.ret ?_
          have h := Option.some.inj h
          subst h
          exact ret_pure (hs := [HV.int .i64 1]) (q := HV.int .i64 1) (.inr rfl) (resT rfl rfl) rfl trivial
        · have hc := of_decide_eq_false hc
          have h := ifF hc h
          refine AW.skip ?_
          refine AW.rgs rfl fun K hK => ?_
          refine mv rfl rfl ?_
          refine b_nil (hK _ (AW.to (to_le (s' := ⟨[(4, HV.int .i64 0)], []⟩) (AS.le_of ⟨rfl, trivial⟩ trivial) ?_)))
          clear hK K
          refine AW.ret ?_
          have h := Option.some.inj h
          subst h
          exact ret_pure (hs := [HV.int .i64 0]) (q := HV.int .i64 0) (.inr rfl) (resT rfl rfl) rfl trivial

set_option maxHeartbeats 1600000 in
set_option maxRecDepth 100000 in
theorem w_slices_Compare_Lint_int {p0 : List (Int)} {p1 : List (Int)} {r : Int} (h : m_slices_Compare_Lint_int p0 p1 = some r) : Pure Try.prog 162 [slE eInt p0, slE eInt p1] (· = HV.int .i64 r) := by
  unfold m_slices_Compare_Lint_int at h
  refine Pure.of_body Try.func162 rfl rfl (Nat.le_of_ble_eq_true rfl) fun hf => ?_
  unfold Try.f162
  dsimp only [enumS, Nat.reduceAdd]
  refine AW.rgs rfl fun K hK => ?_
  refine mv rfl rfl ?_
  refine b_nil (hK _ (AW.to (to_le (s' := ⟨[(0, slE eInt p0), (1, slE eInt p1)], []⟩) (AS.le_of ⟨rfl, rfl, trivial⟩ trivial) ?_)))
  clear hK K
  refine AW.seq ?_
  refine AW.rgs rfl fun K hK => ?_
  refine mv rfl rfl ?_
  refine bv rfl (v_lenF rfl rfl ty42 rfl) ?_
  refine mv rfl rfl ?_
  refine b_nil (hK _ (AW.to (to_le (s' := ⟨[(0, slE eInt p0), (1, slE eInt p1), (9, slE eInt p0), (10, HV.int .i64 ((p0).length : Int)), (11, HV.int .i64 0)], []⟩) (AS.le_of ⟨rfl, rfl, rfl, rfl, rfl, trivial⟩ trivial) ?_)))
  clear hK K
  refine AW.lpR h (by first | exact up_then | exact up_to) (S := Int) (V := Unit) (fun a v => ⟨[(0, slE eInt p0), (1, slE eInt p1), (9, slE eInt p0), (10, HV.int .i64 ((p0).length : Int)), (11, HV.int .i64 a)], []⟩) ?_ (X := Unit) (W := Unit) (fun a v => ⟨[(0, slE eInt p0), (1, slE eInt p1)], []⟩) (fun a11 w12 h => ?_) (fun a1 w2 st3 h hr4=> ?_)
  · exact to_le (s' := ⟨[(0, slE eInt p0), (1, slE eInt p1), (9, slE eInt p0), (10, HV.int .i64 ((p0).length : Int)), (11, HV.int .i64 0)], []⟩) (AS.le_of ⟨rfl, rfl, rfl, rfl, rfl, trivial⟩ trivial) ⟨(), rfl⟩
  · refine AW.seq ?_
    refine AW.rgs rfl fun K hK => ?_
    refine mv rfl rfl ?_
    refine bv rfl (v_lenF rfl rfl ty42 rfl) ?_
    refine mv rfl rfl ?_
    refine bv rfl (v_lenF rfl rfl ty42 rfl) ?_
    refine bv rfl (v_bin rfl rfl b_lss) ?_
    refine b_nil (hK _ (AW.to (to_le (s' := ⟨[(35, HV.bool (decide (((p0).length : Int) < ((p1).length : Int))))], []⟩) (AS.le_of ⟨rfl, trivial⟩ trivial) ?_)))
    clear hK K
    refine AW.cond rfl (fun hc => ?_) (fun hc => ?_)
    · have hc := of_decide_eq_true hc
      have h := ifT hc h
      refine AW.rgs rfl fun K hK => ?_
      refine mv rfl rfl ?_
      refine b_nil (hK _ (AW.to (to_le (s' := ⟨[(4, HV.int .i64 (-1))], []⟩) (AS.le_of ⟨rfl, trivial⟩ trivial) ?_)))
      clear hK K
      refine AW.ret ?_
      have h := Option.some.inj h
      subst h
      exact ret_pure (hs := [HV.int .i64 (-1)]) (q := HV.int .i64 (-1)) (.inr rfl) (resT rfl rfl) rfl trivial
    · have hc := of_decide_eq_false hc
      have h := ifF hc h
      refine AW.skip ?_
      refine AW.rgs rfl fun K hK => ?_
      refine mv rfl rfl ?_
      refine b_nil (hK _ (AW.to (to_le (s' := ⟨[(4, HV.int .i64 0)], []⟩) (AS.le_of ⟨rfl, trivial⟩ trivial) ?_)))
      clear hK K
      refine AW.ret ?_
      have h := Option.some.inj h
      subst h
      exact ret_pure (hs := [HV.int .i64 0]) (q := HV.int .i64 0) (.inr rfl) (resT rfl rfl) rfl trivial
  · refine AW.rgs rfl fun K hK => ?_
    refine bv rfl (v_bin rfl rfl b_lss) ?_
    refine b_nil (hK _ (AW.to (to_le (s' := ⟨[(0, slE eInt p0), (1, slE eInt p1), (9, slE eInt p0), (10, HV.int .i64 ((p0).length : Int)), (11, HV.int .i64 a1), (12, HV.bool (decide (a1 < ((p0).length : Int))))], []⟩) (AS.le_of ⟨rfl, rfl, rfl, rfl, rfl, rfl, trivial⟩ trivial) ?_)))
    clear hK K
    refine AW.cseq rfl (fun hc => ?_) (fun hc => ?_)
    · have hc := of_decide_eq_true hc
      have h := ifT hc h
      refine AW.skip ?_
      refine AW.seq (AW.block ?_)
      refine AW.rgs rfl fun K hK => ?_
      refine mv rfl rfl ?_
      obtain ⟨x5, h6, h⟩ := bS h
      refine bv rfl (v_idxF ty42 es42 rfl rfl (idx_lt h6)) ?_
      refine bv rfl (v_loadF ty3 rfl (l_cell eInt h6 (o := 0) rfl rfl)) ?_
      refine mv rfl rfl ?_
      refine mv rfl rfl ?_
      refine b_nil (hK _ (AW.to (to_le (s' := ⟨[(0, slE eInt p0), (1, slE eInt p1), (5, HV.int .i64 a1), (6, HV.int .i64 x5), (9, slE eInt p0), (10, HV.int .i64 ((p0).length : Int)), (11, HV.int .i64 a1)], []⟩) (AS.le_of ⟨rfl, rfl, rfl, rfl, rfl, rfl, rfl, trivial⟩ trivial) ?_)))
      clear hK K
      refine AW.seq ?_
      refine AW.rgs rfl fun K hK => ?_
      refine mv rfl rfl ?_
      refine mv rfl rfl ?_
      refine bv rfl (v_lenF rfl rfl ty42 rfl) ?_
      refine bv rfl (v_bin rfl rfl b_geq) ?_
      refine b_nil (hK _ (AW.to (to_le (s' := ⟨[(0, slE eInt p0), (1, slE eInt p1), (5, HV.int .i64 a1), (6, HV.int .i64 x5), (9, slE eInt p0), (10, HV.int .i64 ((p0).length : Int)), (11, HV.int .i64 a1), (19, HV.bool (decide (((p1).length : Int) ≤ a1)))], []⟩) (AS.le_of ⟨rfl, rfl, rfl, rfl, rfl, rfl, rfl, rfl, trivial⟩ trivial) ?_)))
      clear hK K
      refine AW.cond rfl (fun hc => ?_) (fun hc => ?_)
      · have hc := of_decide_eq_true hc
        have h := ifT hc h
        refine AW.rgs rfl fun K hK => ?_
        refine mv rfl rfl ?_
        refine b_nil (hK _ (AW.to (to_le (s' := ⟨[(4, HV.int .i64 1)], []⟩) (AS.le_of ⟨rfl, trivial⟩ trivial) ?_)))
        clear hK K
        have h := hr4 _ h
        refine AW.ret ?_
        have h := Option.some.inj h
        subst h
        exact ret_pure (hs := [HV.int .i64 1]) (q := HV.int .i64 1) (.inr rfl) (resT rfl rfl) rfl trivial
      · have hc := of_decide_eq_false hc
        have h := ifF hc h
        refine AW.skip ?_
        refine AW.rgs rfl fun K hK => ?_
        refine mv rfl rfl ?_
        refine mv rfl rfl ?_
        obtain ⟨x7, h8, h⟩ := bS h
        refine bv rfl (v_idxF ty42 es42 rfl rfl (idx_lt h8)) ?_
        refine bv rfl (v_loadF ty3 rfl (l_cell eInt h8 (o := 0) rfl rfl)) ?_
        refine mv rfl rfl ?_
        refine b_nil (hK _ (AW.to (to_le (s' := ⟨[(0, slE eInt p0), (1, slE eInt p1), (6, HV.int .i64 x5), (7, HV.int .i64 x7), (9, slE eInt p0), (10, HV.int .i64 ((p0).length : Int)), (11, HV.int .i64 a1)], []⟩) (AS.le_of ⟨rfl, rfl, rfl, rfl, rfl, rfl, rfl, trivial⟩ trivial) ?_)))
        clear hK K
        refine AW.rgs rfl fun K hK => ?_
        refine mv rfl rfl ?_
        refine mv rfl rfl ?_
        obtain ⟨x9, h10, h⟩ := bS h
        refine b_op rfl (o_call rfl rfl rfl rfl (ACallD.pure0 (w_cmp_Compare_int h10)) ?_)
        refine mv rfl rfl ?_
        refine b_nil (hK _ (AW.to (to_le (s' := ⟨[(0, slE eInt p0), (1, slE eInt p1), (8, HV.int .i64 x9), (9, slE eInt p0), (10, HV.int .i64 ((p0).length : Int)), (11, HV.int .i64 a1)], []⟩) (AS.le_of ⟨rfl, rfl, rfl, rfl, rfl, rfl, trivial⟩ trivial) ?_)))
        clear hK K
        refine AW.rgs rfl fun K hK => ?_
        refine mv rfl rfl ?_
        refine bv rfl (v_bin rfl rfl b_neq) ?_
        refine b_nil (hK _ (AW.to (to_le (s' := ⟨[(0, slE eInt p0), (1, slE eInt p1), (8, HV.int .i64 x9), (9, slE eInt p0), (10, HV.int .i64 ((p0).length : Int)), (11, HV.int .i64 a1), (28, HV.bool (decide (x9 ≠ 0)))], []⟩) (AS.le_of ⟨rfl, rfl, rfl, rfl, rfl, rfl, rfl, trivial⟩ trivial) ?_)))
        clear hK K
        refine AW.cond rfl (fun hc => ?_) (fun hc => ?_)
        · have hc := of_decide_eq_true hc
          have h := ifT hc h
          refine AW.rgs rfl fun K hK => ?_
          refine mv rfl rfl ?_
          refine mv rfl rfl ?_
          refine b_nil (hK _ (AW.to (to_le (s' := ⟨[(4, HV.int .i64 x9)], []⟩) (AS.le_of ⟨rfl, trivial⟩ trivial) ?_)))
          clear hK K
          have h := hr4 _ h
          refine AW.ret ?_
          have h := Option.some.inj h
          subst h
          exact ret_pure (hs := [HV.int .i64 x9]) (q := HV.int .i64 x9) (.inr rfl) (resT rfl rfl) rfl trivial
        · have hc := of_decide_eq_false hc
          have h := ifF hc h
          refine AW.skip ?_
          refine AW.rg rfl fun K hK => ?_
          refine bv rfl (v_bin rfl rfl b_add) ?_
          refine mv rfl rfl ?_
          refine b_nil (hK _ ?_)
          clear hK K
          exact to_le (s' := ⟨[(0, slE eInt p0), (1, slE eInt p1), (9, slE eInt p0), (10, HV.int .i64 ((p0).length : Int)), (11, HV.int .i64 (IntKind.wrap .i64 (a1 + 1)))], []⟩) (AS.le_of ⟨rfl, rfl, rfl, rfl, rfl, trivial⟩ trivial) ⟨IntKind.wrap .i64 (a1 + 1), (), h, rfl⟩
    · have hc := of_decide_eq_false hc
      have h := ifF hc h
      refine AW.exit ?_
      exact to_le (s' := ⟨[(0, slE eInt p0), (1, slE eInt p1)], []⟩) (AS.le_of ⟨rfl, rfl, trivial⟩ trivial) ⟨(), (), h, rfl⟩

set_option maxHeartbeats 1600000 in
set_option maxRecDepth 100000 in
theorem w_graph_by_api_Edge_1 {p0 : TFromLabelTo} {p1 : TFromLabelTo} {r : Int} (h : m_graph_by_api_Edge_1 p0 p1 = some r) : Pure Try.prog 161 [HV.agg [HV.int .i64 p0.1, HV.int .i64 p0.2.1, HV.int .i64 p0.2.2], HV.agg [HV.int .i64 p1.1, HV.int .i64 p1.2.1, HV.int .i64 p1.2.2], HV.fptr [HV.fn (.func 130) [] []] 0] (· = HV.int .i64 r) := by
  unfold m_graph_by_api_Edge_1 at h
  refine Pure.of_body Try.func161 rfl rfl (Nat.le_of_ble_eq_true rfl) fun hf => ?_
  unfold Try.f161
  dsimp only [enumS, Nat.reduceAdd]
  refine AW.rgs rfl fun K hK => ?_
  refine b_op rfl (o_box rfl rfl rfl ?_)
  refine b_op rfl (o_box rfl rfl rfl ?_)
  refine mv rfl rfl ?_
  refine b_nil (hK _ (AW.to (to_le (s' := ⟨[(2, HV.fptr [HV.fn (.func 130) [] []] 0), (3, HV.fptr [HV.int .i64 p0.1, HV.int .i64 p0.2.1, HV.int .i64 p0.2.2] 0), (4, HV.fptr [HV.int .i64 p1.1, HV.int .i64 p1.2.1, HV.int .i64 p1.2.2] 0)], []⟩) (AS.le_of ⟨rfl, rfl, rfl, trivial⟩ trivial) ?_)))
  clear hK K
  refine AW.dgs 8 follows rfl rfl fun K hK => ?_
  refine sv rfl (v_loadF ty166 rfl (l_lit rfl rfl)) ?_
  refine sv rfl (v_loadF ty66 rfl (l_litA rfl (Nat.le_of_ble_eq_true rfl) rfl)) ?_
  obtain ⟨x1, h2, h⟩ := bS h
  refine s_op rfl rfl (ops_call rfl rfl rfl rfl (ACallD.pure0 (w_graph_list h2)) ?_)
  refine sv rfl (v_loadF ty166 rfl (l_lit rfl rfl)) ?_
  refine sv rfl (v_loadF ty66 rfl (l_litA rfl (Nat.le_of_ble_eq_true rfl) rfl)) ?_
  obtain ⟨x3, h4, h⟩ := bS h
  refine s_op rfl rfl (ops_call rfl rfl rfl rfl (ACallD.pure0 (w_graph_list h4)) ?_)
  obtain ⟨x5, h6, h⟩ := bS h
  refine s_op rfl rfl (ops_call rfl rfl rfl rfl (ACallD.pure0 (w_slices_Compare_Lint_int h6)) ?_)
  refine sm rfl rfl ?_
  refine s_nil ?_
  refine b_nil (hK _ (AW.to (to_le (s' := ⟨[(5, HV.int .i64 x5)], []⟩) (AS.le_of ⟨rfl, trivial⟩ trivial) ?_)))
  clear hK K
  refine AW.ret ?_
  have h := Option.some.inj h
  subst h
  exact ret_pure (hs := [HV.int .i64 x5]) (q := HV.int .i64 x5) (.inr rfl) (resT rfl rfl) rfl trivial

set_option maxHeartbeats 1600000 in
set_option maxRecDepth 100000 in
theorem w_graph_by_api_Edge  : Pure Try.prog 129 [HV.fn (.func 130) [] []] (· = HV.fn (.func 161) [] [HV.fptr [HV.fn (.func 130) [] []] 0]) := by
  refine Pure.of_body Try.func129 rfl rfl (Nat.le_of_ble_eq_true rfl) fun hf => ?_
  unfold Try.f129
  dsimp only [enumS, Nat.reduceAdd]
  refine AW.rgs rfl fun K hK => ?_
  refine b_op rfl (o_box rfl rfl rfl ?_)
  refine mv rfl rfl ?_
  refine b_nil (hK _ (AW.to (to_le (s' := ⟨[(1, HV.fptr [HV.fn (.func 130) [] []] 0)], []⟩) (AS.le_of ⟨rfl, trivial⟩ trivial) ?_)))
  clear hK K
  refine AW.rgs rfl fun K hK => ?_
  refine bv rfl (v_func rfl rfl) ?_
  refine mv rfl rfl ?_
  refine b_nil (hK _ (AW.to (to_le (s' := ⟨[(2, HV.fn (.func 161) [] [HV.fptr [HV.fn (.func 130) [] []] 0])], []⟩) (AS.le_of ⟨rfl, trivial⟩ trivial) ?_)))
  clear hK K
  refine AW.ret ?_
  exact ret_pure (hs := [HV.fn (.func 161) [] [HV.fptr [HV.fn (.func 130) [] []] 0]]) (q := HV.fn (.func 161) [] [HV.fptr [HV.fn (.func 130) [] []] 0]) (.inr rfl) (resT rfl rfl) rfl ⟨trivial, ⟨⟨⟨trivial, trivial⟩, trivial⟩, trivial⟩⟩

set_option maxHeartbeats 1600000 in
set_option maxRecDepth 100000 in
theorem w_graph_Check {p0 : TLabelsStatesEdges} {r : Int} (h : m_graph_Check p0 = some r) : Pure Try.prog 86 [HV.agg [HV.int .i64 p0.1, HV.int .i64 p0.2.1, slE eFromLabelTo p0.2.2]] (· = HV.int .i64 r) := by
  unfold m_graph_Check at h
  refine Pure.of_body Try.func86 rfl rfl (Nat.le_of_ble_eq_true rfl) fun hf => ?_
  unfold Try.f86
  dsimp only [enumS, Nat.reduceAdd]
  refine AW.rgs rfl fun K hK => ?_
  refine b_op rfl (o_box rfl rfl rfl ?_)
  refine mv rfl rfl ?_
  refine b_nil (hK _ (AW.to (to_le (s' := ⟨[(1, HV.fptr [HV.int .i64 p0.1, HV.int .i64 p0.2.1, slE eFromLabelTo p0.2.2] 0)], []⟩) (AS.le_of ⟨rfl, trivial⟩ trivial) ?_)))
  clear hK K
  refine AW.seq (AW.block ?_)
  refine AW.seqJ h (S := Bool) (V := Unit) (fun a v => ⟨[(1, HV.fptr [HV.int .i64 p0.1, HV.int .i64 p0.2.1, slE eFromLabelTo p0.2.2] 0), (6, HV.bool a)], []⟩) (fun a1 w2 h => ?_) (fun k3 h => ?_)
  · refine AW.cond rfl (fun hc => ?_) (fun hc => ?_)
    · have h := ifT hc h
      refine AW.rgs rfl fun K hK => ?_
      refine mv rfl rfl ?_
      refine b_nil (hK _ (AW.to (to_le (s' := ⟨[(2, HV.int .i64 12)], []⟩) (AS.le_of ⟨rfl, trivial⟩ trivial) ?_)))
      clear hK K
      refine AW.ret ?_
      have h := Option.some.inj h
      subst h
      exact ret_pure (hs := [HV.int .i64 12]) (q := HV.int .i64 12) (.inr rfl) (resT rfl rfl) rfl trivial
    · have h := ifF (bF' hc) h
      refine AW.rgs rfl fun K hK => ?_
      refine bv rfl (v_fieldAddrF fo24_1 rfl) ?_
      refine bv rfl (v_loadF ty3 rfl (l_lit rfl rfl)) ?_
      refine bv rfl (v_bin rfl rfl b_lss) ?_
      refine mv rfl rfl ?_
      refine b_nil (hK _ (AW.to (to_le (s' := ⟨[(1, HV.fptr [HV.int .i64 p0.1, HV.int .i64 p0.2.1, slE eFromLabelTo p0.2.2] 0), (15, HV.bool (decide (p0.2.1 < 0)))], []⟩) (AS.le_of ⟨rfl, rfl, trivial⟩ trivial) ?_)))
      clear hK K
      refine AW.cond rfl (fun hc => ?_) (fun hc => ?_)
      · have hc := of_decide_eq_true hc
        have h := ifT hc h
        refine AW.rgs rfl fun K hK => ?_
        refine mv rfl rfl ?_
        refine b_nil (hK _ (AW.to (to_le (s' := ⟨[(2, HV.int .i64 2)], []⟩) (AS.le_of ⟨rfl, trivial⟩ trivial) ?_)))
        clear hK K
        refine AW.ret ?_
        have h := Option.some.inj h
        subst h
        exact ret_pure (hs := [HV.int .i64 2]) (q := HV.int .i64 2) (.inr rfl) (resT rfl rfl) rfl trivial
      · have hc := of_decide_eq_false hc
        have h := ifF hc h
        refine AW.seqJ h (S := Bool) (V := Unit) (fun a v => ⟨[(1, HV.fptr [HV.int .i64 p0.1, HV.int .i64 p0.2.1, slE eFromLabelTo p0.2.2] 0), (19, HV.bool a)], []⟩) (fun a4 w5 h => ?_) (fun k6 h => ?_)
        · refine AW.cond rfl (fun hc => ?_) (fun hc => ?_)
          · have h := ifT hc h
            refine AW.rgs rfl fun K hK => ?_
            refine mv rfl rfl ?_
            refine b_nil (hK _ (AW.to (to_le (s' := ⟨[(2, HV.int .i64 4)], []⟩) (AS.le_of ⟨rfl, trivial⟩ trivial) ?_)))
            clear hK K
            refine AW.ret ?_
            have h := Option.some.inj h
            subst h
            exact ret_pure (hs := [HV.int .i64 4]) (q := HV.int .i64 4) (.inr rfl) (resT rfl rfl) rfl trivial
          · have h := ifF (bF' hc) h
            refine AW.skip ?_
            refine AW.rgs rfl fun K hK => ?_
            refine b_op rfl (o_call rfl rfl rfl rfl (ACallD.pure0 (w_graph_by_api_Edge )) ?_)
            refine mv rfl rfl ?_
            refine b_nil (hK _ (AW.to (to_le (s' := ⟨[(1, HV.fptr [HV.int .i64 p0.1, HV.int .i64 p0.2.1, slE eFromLabelTo p0.2.2] 0), (3, HV.fn (.func 161) [] [HV.fptr [HV.fn (.func 130) [] []] 0])], []⟩) (AS.le_of ⟨rfl, rfl, trivial⟩ trivial) ?_)))
            clear hK K
            refine AW.seq ?_
            refine AW.rgs rfl fun K hK => ?_
            refine bv rfl (v_fieldAddrF fo24_2 rfl) ?_
            refine bv rfl (v_loadF ty22 rfl (l_lit rfl rfl)) ?_
            refine bv rfl (v_lenF rfl rfl ty22 rfl) ?_
            refine mv rfl rfl ?_
            refine b_nil (hK _ (AW.to (to_le (s' := ⟨[(1, HV.fptr [HV.int .i64 p0.1, HV.int .i64 p0.2.1, slE eFromLabelTo p0.2.2] 0), (3, HV.fn (.func 161) [] [HV.fptr [HV.fn (.func 130) [] []] 0]), (31, slE eFromLabelTo p0.2.2), (32, HV.int .i64 ((p0.2.2).length : Int)), (33, HV.int .i64 0)], []⟩) (AS.le_of ⟨rfl, rfl, rfl, rfl, rfl, trivial⟩ trivial) ?_)))
            clear hK K
            refine AW.lpR h (by first | exact up_then | exact up_to) (S := Int) (V := Unit) (fun a v => ⟨[(1, HV.fptr [HV.int .i64 p0.1, HV.int .i64 p0.2.1, slE eFromLabelTo p0.2.2] 0), (3, HV.fn (.func 161) [] [HV.fptr [HV.fn (.func 130) [] []] 0]), (31, slE eFromLabelTo p0.2.2), (32, HV.int .i64 ((p0.2.2).length : Int)), (33, HV.int .i64 a)], []⟩) ?_ (X := Unit) (W := Unit) (fun a v => ⟨[], []⟩) (fun a27 w28 h => ?_) (fun a7 w8 st9 h hr10=> ?_)
            · exact to_le (s' := ⟨[(1, HV.fptr [HV.int .i64 p0.1, HV.int .i64 p0.2.1, slE eFromLabelTo p0.2.2] 0), (3, HV.fn (.func 161) [] [HV.fptr [HV.fn (.func 130) [] []] 0]), (31, slE eFromLabelTo p0.2.2), (32, HV.int .i64 ((p0.2.2).length : Int)), (33, HV.int .i64 0)], []⟩) (AS.le_of ⟨rfl, rfl, rfl, rfl, rfl, trivial⟩ trivial) ⟨(), rfl⟩
            · refine AW.rgs rfl fun K hK => ?_
              refine mv rfl rfl ?_
              refine b_nil (hK _ (AW.to (to_le (s' := ⟨[(2, HV.int .i64 0)], []⟩) (AS.le_of ⟨rfl, trivial⟩ trivial) ?_)))
              clear hK K
              refine AW.ret ?_
              have h := Option.some.inj h
              subst h
              exact ret_pure (hs := [HV.int .i64 0]) (q := HV.int .i64 0) (.inr rfl) (resT rfl rfl) rfl trivial
            · refine AW.rgs rfl fun K hK => ?_
              refine bv rfl (v_bin rfl rfl b_lss) ?_
              refine b_nil (hK _ (AW.to (to_le (s' := ⟨[(1, HV.fptr [HV.int .i64 p0.1, HV.int .i64 p0.2.1, slE eFromLabelTo p0.2.2] 0), (3, HV.fn (.func 161) [] [HV.fptr [HV.fn (.func 130) [] []] 0]), (31, slE eFromLabelTo p0.2.2), (32, HV.int .i64 ((p0.2.2).length : Int)), (33, HV.int .i64 a7), (34, HV.bool (decide (a7 < ((p0.2.2).length : Int))))], []⟩) (AS.le_of ⟨rfl, rfl, rfl, rfl, rfl, rfl, trivial⟩ trivial) ?_)))
              clear hK K
              refine AW.cseq rfl (fun hc => ?_) (fun hc => ?_)
              · have hc := of_decide_eq_true hc
                have h := ifT hc h
                refine AW.skip ?_
                refine AW.seq (AW.block ?_)
                refine AW.rgs rfl fun K hK => ?_
                refine mv rfl rfl ?_
                obtain ⟨x11, h12, h⟩ := bS h
                refine bv rfl (v_idxF ty22 es22 rfl rfl (idx_lt h12)) ?_
                refine bv rfl (v_loadF ty66 rfl (l_agg eFromLabelTo h12 rfl rfl)) ?_
                refine b_op rfl (o_alloc (fid := 86) (zs := [HV.int .i64 0, HV.int .i64 0, HV.int .i64 0]) 86005 rfl rfl ty66 rfl (fun v13 => ?_))
                refine mv rfl rfl ?_
                refine b_op rfl (o_store (cs := [HV.int .i64 x11.1, HV.int .i64 x11.2.1, HV.int .i64 x11.2.2]) (zs := [HV.int .i64 x11.1, HV.int .i64 x11.2.1, HV.int .i64 x11.2.2]) rfl rfl rfl ty66 rfl rfl rfl rfl rfl ?_)
                refine b_nil (hK _ (AW.to (to_le (s' := ⟨[(1, HV.fptr [HV.int .i64 p0.1, HV.int .i64 p0.2.1, slE eFromLabelTo p0.2.2] 0), (3, HV.fn (.func 161) [] [HV.fptr [HV.fn (.func 130) [] []] 0]), (4, HV.int .i64 a7), (5, HV.ptr 86005 v13 0), (31, slE eFromLabelTo p0.2.2), (32, HV.int .i64 ((p0.2.2).length : Int)), (33, HV.int .i64 a7)], [(86005, v13, .arr 3 66 [HV.int .i64 x11.1, HV.int .i64 x11.2.1, HV.int .i64 x11.2.2])]⟩) (AS.le_of ⟨rfl, rfl, rfl, rfl, rfl, rfl, rfl, trivial⟩ ⟨rfl, trivial⟩) ?_)))
                clear hK K
                refine AW.seq ?_
                refine AW.seqJ h (S := Bool) (V := Unit) (fun a v => ⟨[(1, HV.fptr [HV.int .i64 p0.1, HV.int .i64 p0.2.1, slE eFromLabelTo p0.2.2] 0), (3, HV.fn (.func 161) [] [HV.fptr [HV.fn (.func 130) [] []] 0]), (4, HV.int .i64 a7), (5, HV.ptr 86005 v13 0), (31, slE eFromLabelTo p0.2.2), (32, HV.int .i64 ((p0.2.2).length : Int)), (33, HV.int .i64 a7), (62, HV.bool a)], [(86005, v13, .arr 3 66 [HV.int .i64 x11.1, HV.int .i64 x11.2.1, HV.int .i64 x11.2.2])]⟩) (fun a14 w15 h => ?_) (fun k16 h => ?_)
                · refine AW.cond rfl (fun hc => ?_) (fun hc => ?_)
                  · have h := ifT hc h
                    refine AW.rgs rfl fun K hK => ?_
                    refine mv rfl rfl ?_
                    refine b_nil (hK _ (AW.to (to_le (s' := ⟨[(2, HV.int .i64 2)], []⟩) (AS.le_of ⟨rfl, trivial⟩ trivial) ?_)))
                    clear hK K
                    have h := hr10 _ h
                    refine AW.ret ?_
                    have h := Option.some.inj h
                    subst h
                    exact ret_pure (hs := [HV.int .i64 2]) (q := HV.int .i64 2) (.inr rfl) (resT rfl rfl) rfl trivial
                  · have h := ifF (bF' hc) h
                    refine AW.skip ?_
                    refine AW.seqJ h (S := Bool) (V := Unit) (fun a v => ⟨[(1, HV.fptr [HV.int .i64 p0.1, HV.int .i64 p0.2.1, slE eFromLabelTo p0.2.2] 0), (3, HV.fn (.func 161) [] [HV.fptr [HV.fn (.func 130) [] []] 0]), (31, slE eFromLabelTo p0.2.2), (32, HV.int .i64 ((p0.2.2).length : Int)), (33, HV.int .i64 a7), (76, HV.bool a)], []⟩) (fun a17 w18 h => ?_) (fun k19 h => ?_)
                    · refine AW.cond rfl (fun hc => ?_) (fun hc => ?_)
                      · have h := ifT hc h
                        refine AW.rgs rfl fun K hK => ?_
                        refine mv rfl rfl ?_
                        refine b_nil (hK _ (AW.to (to_le (s' := ⟨[(2, HV.int .i64 10)], []⟩) (AS.le_of ⟨rfl, trivial⟩ trivial) ?_)))
                        clear hK K
                        have h := hr10 _ h
                        refine AW.ret ?_
                        have h := Option.some.inj h
                        subst h
                        exact ret_pure (hs := [HV.int .i64 10]) (q := HV.int .i64 10) (.inr rfl) (resT rfl rfl) rfl trivial
                      · have h := ifF (bF' hc) h
                        refine AW.skip ?_
                        refine AW.rg rfl fun K hK => ?_
                        refine bv rfl (v_bin rfl rfl b_add) ?_
                        refine mv rfl rfl ?_
                        refine b_nil (hK _ ?_)
                        clear hK K
                        exact to_le (s' := ⟨[(1, HV.fptr [HV.int .i64 p0.1, HV.int .i64 p0.2.1, slE eFromLabelTo p0.2.2] 0), (3, HV.fn (.func 161) [] [HV.fptr [HV.fn (.func 130) [] []] 0]), (31, slE eFromLabelTo p0.2.2), (32, HV.int .i64 ((p0.2.2).length : Int)), (33, HV.int .i64 (IntKind.wrap .i64 (a7 + 1)))], []⟩) (AS.le_of ⟨rfl, rfl, rfl, rfl, rfl, trivial⟩ trivial) ⟨IntKind.wrap .i64 (a7 + 1), (), h, rfl⟩
                    · refine AW.dg 14 follows rfl rfl fun K hK => ?_
                      refine sm rfl rfl ?_
                      refine sv rfl (v_bin rfl rfl b_gtr) ?_
                      refine sm rfl rfl ?_
                      by_cases hg24 : 0 < a7
                      · have h := ifT hg24 h
                        refine s_T rfl rfl rfl rfl rfl (decide_eq_true hg24) (ops_val rfl (mv_val rfl rfl).2 ?_)
                        refine s_T rfl rfl rfl rfl rfl rfl (ops_val rfl (v_fieldAddrF fo24_2 rfl) ?_)
                        refine s_T rfl rfl rfl rfl rfl rfl (ops_val rfl (v_loadF ty22 rfl (l_lit rfl rfl)) ?_)
                        refine s_T rfl rfl rfl rfl rfl rfl (ops_val rfl (mv_val rfl rfl).2 ?_)
                        refine s_T rfl rfl rfl rfl rfl rfl (ops_val rfl (v_bin rfl rfl b_sub) ?_)
                        obtain ⟨x20, h21, h⟩ := bS h
                        refine s_T rfl rfl rfl rfl rfl rfl (ops_val rfl (v_idxF ty22 es22 rfl rfl (idx_lt h21)) ?_)
                        refine s_T rfl rfl rfl rfl rfl rfl (ops_val rfl (v_loadF ty66 rfl (l_agg eFromLabelTo h21 rfl rfl)) ?_)
                        refine s_T rfl rfl rfl rfl rfl rfl (ops_val rfl (v_loadP ty66 rfl rfl (l_litA rfl (Nat.le_of_ble_eq_true rfl) rfl)) ?_)
                        obtain ⟨x22, h23, h⟩ := bS h
                        refine s_T rfl rfl rfl rfl rfl rfl (ops_call rfl rfl rfl rfl (ACallD.pure0 (w_graph_by_api_Edge_1 h23)) ?_)
                        refine s_T rfl rfl rfl rfl rfl rfl (ops_val rfl (v_bin rfl rfl b_geq) ?_)
                        refine sv rfl (v_pickT rfl rfl rfl) ?_
                        refine s_nil ?_
                        refine b_nil (hK _ ?_)
                        clear hK K
                        exact to_le (s' := ⟨[(1, HV.fptr [HV.int .i64 p0.1, HV.int .i64 p0.2.1, slE eFromLabelTo p0.2.2] 0), (3, HV.fn (.func 161) [] [HV.fptr [HV.fn (.func 130) [] []] 0]), (31, slE eFromLabelTo p0.2.2), (32, HV.int .i64 ((p0.2.2).length : Int)), (33, HV.int .i64 a7), (76, HV.bool (decide (0 ≤ x22)))], []⟩) (AS.le_of ⟨rfl, rfl, rfl, rfl, rfl, rfl, trivial⟩ trivial) ⟨decide (0 ≤ x22), (), h, rfl⟩
                      · have h := ifF hg24 h
                        refine s_F rfl rfl rfl rfl rfl (decide_eq_false hg24) ?_
                        refine s_F rfl rfl rfl rfl rfl rfl ?_
                        refine s_F rfl rfl rfl rfl rfl rfl ?_
                        refine s_F rfl rfl rfl rfl rfl rfl ?_
                        refine s_F rfl rfl rfl rfl rfl rfl ?_
                        refine s_F rfl rfl rfl rfl rfl rfl ?_
                        refine s_F rfl rfl rfl rfl rfl rfl ?_
                        refine s_F rfl rfl rfl rfl rfl rfl ?_
                        refine s_F rfl rfl rfl rfl rfl rfl ?_
                        refine s_F rfl rfl rfl rfl rfl rfl ?_
                        refine sv rfl (v_pickF rfl rfl rfl) ?_
                        refine s_nil ?_
                        refine b_nil (hK _ ?_)
                        clear hK K
                        exact to_le (s' := ⟨[(1, HV.fptr [HV.int .i64 p0.1, HV.int .i64 p0.2.1, slE eFromLabelTo p0.2.2] 0), (3, HV.fn (.func 161) [] [HV.fptr [HV.fn (.func 130) [] []] 0]), (31, slE eFromLabelTo p0.2.2), (32, HV.int .i64 ((p0.2.2).length : Int)), (33, HV.int .i64 a7), (76, HV.bool false)], []⟩) (AS.le_of ⟨rfl, rfl, rfl, rfl, rfl, rfl, trivial⟩ trivial) ⟨false, (), h, rfl⟩
                · refine AW.rg rfl fun K hK => ?_
                  refine bv rfl (v_fieldAddrP fo66_0 rfl rfl) ?_
                  refine bv rfl (v_loadP ty3 rfl rfl (l_lit rfl rfl)) ?_
                  refine bv rfl (v_fieldAddrP fo66_1 rfl rfl) ?_
                  refine bv rfl (v_loadP ty3 rfl rfl (l_lit rfl rfl)) ?_
                  refine bv rfl (v_fieldAddrP fo66_2 rfl rfl) ?_
                  refine bv rfl (v_loadP ty3 rfl rfl (l_lit rfl rfl)) ?_
                  refine bv rfl (v_min3 rfl rfl rfl rfl) ?_
                  refine bv rfl (v_bin rfl rfl b_lss) ?_
                  refine mv rfl rfl ?_
                  by_cases hg26 : (min (min x11.1 x11.2.1) x11.2.2) < 0
                  · have h := ifT hg26 h
                    refine b_F rfl rfl rfl rfl rfl (decide_eq_true hg26) ?_
                    refine b_F rfl rfl rfl rfl rfl rfl ?_
                    refine b_F rfl rfl rfl rfl rfl rfl ?_
                    refine b_F rfl rfl rfl rfl rfl rfl ?_
                    refine b_F rfl rfl rfl rfl rfl rfl ?_
                    refine b_F rfl rfl rfl rfl rfl rfl ?_
                    refine b_F rfl rfl rfl rfl rfl rfl ?_
                    refine b_F rfl rfl rfl rfl rfl rfl ?_
                    refine bv rfl (v_pickT rfl rfl rfl) ?_
                    refine mv rfl rfl ?_
                    refine b_F rfl rfl rfl rfl rfl rfl ?_
                    refine b_F rfl rfl rfl rfl rfl rfl ?_
                    refine b_F rfl rfl rfl rfl rfl rfl ?_
                    refine b_F rfl rfl rfl rfl rfl rfl ?_
                    refine b_F rfl rfl rfl rfl rfl rfl ?_
                    refine bv rfl (v_pickT rfl rfl rfl) ?_
                    refine b_nil (hK _ ?_)
                    clear hK K
                    exact to_le (s' := ⟨[(1, HV.fptr [HV.int .i64 p0.1, HV.int .i64 p0.2.1, slE eFromLabelTo p0.2.2] 0), (3, HV.fn (.func 161) [] [HV.fptr [HV.fn (.func 130) [] []] 0]), (4, HV.int .i64 a7), (5, HV.ptr 86005 v13 0), (31, slE eFromLabelTo p0.2.2), (32, HV.int .i64 ((p0.2.2).length : Int)), (33, HV.int .i64 a7), (62, HV.bool true)], [(86005, v13, .arr 3 66 [HV.int .i64 x11.1, HV.int .i64 x11.2.1, HV.int .i64 x11.2.2])]⟩) (AS.le_of ⟨rfl, rfl, rfl, rfl, rfl, rfl, rfl, rfl, trivial⟩ ⟨rfl, trivial⟩) ⟨true, (), h, rfl⟩
                  · have h := ifF hg26 h
                    refine b_T rfl rfl rfl rfl (decide_eq_false hg26) (o_val rfl (v_fieldAddrP fo66_0 rfl rfl) ?_)
                    refine b_T rfl rfl rfl rfl rfl (o_val rfl (v_loadP ty3 rfl rfl (l_lit rfl rfl)) ?_)
                    refine b_T rfl rfl rfl rfl rfl (o_val rfl (v_fieldAddrP fo66_2 rfl rfl) ?_)
                    refine b_T rfl rfl rfl rfl rfl (o_val rfl (v_loadP ty3 rfl rfl (l_lit rfl rfl)) ?_)
                    refine b_T rfl rfl rfl rfl rfl (o_val rfl (v_max rfl rfl rfl) ?_)
                    refine b_T rfl rfl rfl rfl rfl (o_val rfl (v_fieldAddrF fo24_1 rfl) ?_)
                    refine b_T rfl rfl rfl rfl rfl (o_val rfl (v_loadF ty3 rfl (l_lit rfl rfl)) ?_)
                    refine b_T rfl rfl rfl rfl rfl (o_val rfl (v_bin rfl rfl b_geq) ?_)
                    refine bv rfl (v_pickF rfl rfl rfl) ?_
                    refine mv rfl rfl ?_
                    by_cases hg25 : p0.2.1 ≤ (max x11.1 x11.2.2)
                    · have h := ifT hg25 h
                      refine b_F rfl rfl rfl rfl rfl (decide_eq_true hg25) ?_
                      refine b_F rfl rfl rfl rfl rfl rfl ?_
                      refine b_F rfl rfl rfl rfl rfl rfl ?_
                      refine b_F rfl rfl rfl rfl rfl rfl ?_
                      refine b_F rfl rfl rfl rfl rfl rfl ?_
                      refine bv rfl (v_pickT rfl rfl rfl) ?_
                      refine b_nil (hK _ ?_)
                      clear hK K
                      exact to_le (s' := ⟨[(1, HV.fptr [HV.int .i64 p0.1, HV.int .i64 p0.2.1, slE eFromLabelTo p0.2.2] 0), (3, HV.fn (.func 161) [] [HV.fptr [HV.fn (.func 130) [] []] 0]), (4, HV.int .i64 a7), (5, HV.ptr 86005 v13 0), (31, slE eFromLabelTo p0.2.2), (32, HV.int .i64 ((p0.2.2).length : Int)), (33, HV.int .i64 a7), (62, HV.bool true)], [(86005, v13, .arr 3 66 [HV.int .i64 x11.1, HV.int .i64 x11.2.1, HV.int .i64 x11.2.2])]⟩) (AS.le_of ⟨rfl, rfl, rfl, rfl, rfl, rfl, rfl, rfl, trivial⟩ ⟨rfl, trivial⟩) ⟨true, (), h, rfl⟩
                    · have h := ifF hg25 h
                      refine b_T rfl rfl rfl rfl (decide_eq_false hg25) (o_val rfl (v_fieldAddrP fo66_1 rfl rfl) ?_)
                      refine b_T rfl rfl rfl rfl rfl (o_val rfl (v_loadP ty3 rfl rfl (l_lit rfl rfl)) ?_)
                      refine b_T rfl rfl rfl rfl rfl (o_val rfl (v_fieldAddrF fo24_0 rfl) ?_)
                      refine b_T rfl rfl rfl rfl rfl (o_val rfl (v_loadF ty3 rfl (l_lit rfl rfl)) ?_)
                      refine b_T rfl rfl rfl rfl rfl (o_val rfl (v_bin rfl rfl b_geq) ?_)
                      refine bv rfl (v_pickF rfl rfl rfl) ?_
                      refine b_nil (hK _ ?_)
                      clear hK K
                      exact to_le (s' := ⟨[(1, HV.fptr [HV.int .i64 p0.1, HV.int .i64 p0.2.1, slE eFromLabelTo p0.2.2] 0), (3, HV.fn (.func 161) [] [HV.fptr [HV.fn (.func 130) [] []] 0]), (4, HV.int .i64 a7), (5, HV.ptr 86005 v13 0), (31, slE eFromLabelTo p0.2.2), (32, HV.int .i64 ((p0.2.2).length : Int)), (33, HV.int .i64 a7), (62, HV.bool (decide (p0.1 ≤ x11.2.1)))], [(86005, v13, .arr 3 66 [HV.int .i64 x11.1, HV.int .i64 x11.2.1, HV.int .i64 x11.2.2])]⟩) (AS.le_of ⟨rfl, rfl, rfl, rfl, rfl, rfl, rfl, rfl, trivial⟩ ⟨rfl, trivial⟩) ⟨decide (p0.1 ≤ x11.2.1), (), h, rfl⟩
              · have hc := of_decide_eq_false hc
                have h := ifF hc h
                refine AW.exit ?_
                exact to_le (s' := ⟨[], []⟩) (AS.le_of trivial trivial) ⟨(), (), h, rfl⟩
        · refine AW.rg rfl fun K hK => ?_
          refine bv rfl (v_fieldAddrF fo24_1 rfl) ?_
          refine bv rfl (v_loadF ty3 rfl (l_lit rfl rfl)) ?_
          refine bv rfl (v_bin rfl rfl b_gtr) ?_
          refine mv rfl rfl ?_
          by_cases hg29 : 64 < p0.2.1
          · have h := ifT hg29 h
            refine b_F rfl rfl rfl rfl rfl (decide_eq_true hg29) ?_
            refine b_F rfl rfl rfl rfl rfl rfl ?_
            refine b_F rfl rfl rfl rfl rfl rfl ?_
            refine b_F rfl rfl rfl rfl rfl rfl ?_
            refine bv rfl (v_pickT rfl rfl rfl) ?_
            refine mv rfl rfl ?_
            refine b_nil (hK _ ?_)
            clear hK K
            exact to_le (s' := ⟨[(1, HV.fptr [HV.int .i64 p0.1, HV.int .i64 p0.2.1, slE eFromLabelTo p0.2.2] 0), (19, HV.bool true)], []⟩) (AS.le_of ⟨rfl, rfl, trivial⟩ trivial) ⟨true, (), h, rfl⟩
          · have h := ifF hg29 h
            refine b_T rfl rfl rfl rfl (decide_eq_false hg29) (o_val rfl (v_fieldAddrF fo24_2 rfl) ?_)
            refine b_T rfl rfl rfl rfl rfl (o_val rfl (v_loadF ty22 rfl (l_lit rfl rfl)) ?_)
            refine b_T rfl rfl rfl rfl rfl (o_val rfl (v_lenF rfl rfl ty22 rfl) ?_)
            refine b_T rfl rfl rfl rfl rfl (o_val rfl (v_bin rfl rfl b_gtr) ?_)
            refine bv rfl (v_pickF rfl rfl rfl) ?_
            refine mv rfl rfl ?_
            refine b_nil (hK _ ?_)
            clear hK K
            exact to_le (s' := ⟨[(1, HV.fptr [HV.int .i64 p0.1, HV.int .i64 p0.2.1, slE eFromLabelTo p0.2.2] 0), (19, HV.bool (decide (1024 < ((p0.2.2).length : Int))))], []⟩) (AS.le_of ⟨rfl, rfl, trivial⟩ trivial) ⟨decide (1024 < ((p0.2.2).length : Int)), (), h, rfl⟩
  · refine AW.rg rfl fun K hK => ?_
    refine bv rfl (v_fieldAddrF fo24_0 rfl) ?_
    refine bv rfl (v_loadF ty3 rfl (l_lit rfl rfl)) ?_
    refine bv rfl (v_bin rfl rfl b_lss) ?_
    refine mv rfl rfl ?_
    by_cases hg30 : p0.1 < 1
    · have h := ifT hg30 h
      refine b_F rfl rfl rfl rfl rfl (decide_eq_true hg30) ?_
      refine b_F rfl rfl rfl rfl rfl rfl ?_
      refine b_F rfl rfl rfl rfl rfl rfl ?_
      refine bv rfl (v_pickT rfl rfl rfl) ?_
      refine mv rfl rfl ?_
      refine b_nil (hK _ ?_)
      clear hK K
      exact to_le (s' := ⟨[(1, HV.fptr [HV.int .i64 p0.1, HV.int .i64 p0.2.1, slE eFromLabelTo p0.2.2] 0), (6, HV.bool true)], []⟩) (AS.le_of ⟨rfl, rfl, trivial⟩ trivial) ⟨true, (), h, rfl⟩
    · have h := ifF hg30 h
      refine b_T rfl rfl rfl rfl (decide_eq_false hg30) (o_val rfl (v_fieldAddrF fo24_0 rfl) ?_)
      refine b_T rfl rfl rfl rfl rfl (o_val rfl (v_loadF ty3 rfl (l_lit rfl rfl)) ?_)
      refine b_T rfl rfl rfl rfl rfl (o_val rfl (v_bin rfl rfl b_gtr) ?_)
      refine bv rfl (v_pickF rfl rfl rfl) ?_
      refine mv rfl rfl ?_
      refine b_nil (hK _ ?_)
      clear hK K
      exact to_le (s' := ⟨[(1, HV.fptr [HV.int .i64 p0.1, HV.int .i64 p0.2.1, slE eFromLabelTo p0.2.2] 0), (6, HV.bool (decide (256 < p0.1)))], []⟩) (AS.le_of ⟨rfl, rfl, trivial⟩ trivial) ⟨decide (256 < p0.1), (), h, rfl⟩

set_option maxHeartbeats 1600000 in
set_option maxRecDepth 100000 in
theorem w_graph_checkSet {p0 : TLabelsStatesEdges} {p1 : List (Int)} {r : Int} (h : m_graph_checkSet p0 p1 = some r) : Pure Try.prog 177 [HV.agg [HV.int .i64 p0.1, HV.int .i64 p0.2.1, slE eFromLabelTo p0.2.2], slE eInt p1] (· = HV.int .i64 r) := by
  unfold m_graph_checkSet at h
  refine Pure.of_body Try.func177 rfl rfl (Nat.le_of_ble_eq_true rfl) fun hf => ?_
  unfold Try.f177
  dsimp only [enumS, Nat.reduceAdd]
  refine AW.rgs rfl fun K hK => ?_
  refine b_op rfl (o_box rfl rfl rfl ?_)
  refine mv rfl rfl ?_
  refine b_nil (hK _ (AW.to (to_le (s' := ⟨[(1, slE eInt p1), (2, HV.fptr [HV.int .i64 p0.1, HV.int .i64 p0.2.1, slE eFromLabelTo p0.2.2] 0)], []⟩) (AS.le_of ⟨rfl, rfl, trivial⟩ trivial) ?_)))
  clear hK K
  refine AW.seq ?_
  refine AW.rgs rfl fun K hK => ?_
  refine mv rfl rfl ?_
  refine bv rfl (v_lenF rfl rfl ty42 rfl) ?_
  refine mv rfl rfl ?_
  refine b_nil (hK _ (AW.to (to_le (s' := ⟨[(1, slE eInt p1), (2, HV.fptr [HV.int .i64 p0.1, HV.int .i64 p0.2.1, slE eFromLabelTo p0.2.2] 0), (7, slE eInt p1), (8, HV.int .i64 ((p1).length : Int)), (9, HV.int .i64 0)], []⟩) (AS.le_of ⟨rfl, rfl, rfl, rfl, rfl, trivial⟩ trivial) ?_)))
  clear hK K
  refine AW.lpR h (by first | exact up_then | exact up_to) (S := Int) (V := Unit) (fun a v => ⟨[(1, slE eInt p1), (2, HV.fptr [HV.int .i64 p0.1, HV.int .i64 p0.2.1, slE eFromLabelTo p0.2.2] 0), (7, slE eInt p1), (8, HV.int .i64 ((p1).length : Int)), (9, HV.int .i64 a)], []⟩) ?_ (X := Unit) (W := Unit) (fun a v => ⟨[], []⟩) (fun a17 w18 h => ?_) (fun a1 w2 st3 h hr4=> ?_)
  · exact to_le (s' := ⟨[(1, slE eInt p1), (2, HV.fptr [HV.int .i64 p0.1, HV.int .i64 p0.2.1, slE eFromLabelTo p0.2.2] 0), (7, slE eInt p1), (8, HV.int .i64 ((p1).length : Int)), (9, HV.int .i64 0)], []⟩) (AS.le_of ⟨rfl, rfl, rfl, rfl, rfl, trivial⟩ trivial) ⟨(), rfl⟩
  · refine AW.rgs rfl fun K hK => ?_
    refine mv rfl rfl ?_
    refine b_nil (hK _ (AW.to (to_le (s' := ⟨[(4, HV.int .i64 0)], []⟩) (AS.le_of ⟨rfl, trivial⟩ trivial) ?_)))
    clear hK K
    refine AW.ret ?_
    have h := Option.some.inj h
    subst h
    exact ret_pure (hs := [HV.int .i64 0]) (q := HV.int .i64 0) (.inr rfl) (resT rfl rfl) rfl trivial
  · refine AW.rgs rfl fun K hK => ?_
    refine bv rfl (v_bin rfl rfl b_lss) ?_
    refine b_nil (hK _ (AW.to (to_le (s' := ⟨[(1, slE eInt p1), (2, HV.fptr [HV.int .i64 p0.1, HV.int .i64 p0.2.1, slE eFromLabelTo p0.2.2] 0), (7, slE eInt p1), (8, HV.int .i64 ((p1).length : Int)), (9, HV.int .i64 a1), (10, HV.bool (decide (a1 < ((p1).length : Int))))], []⟩) (AS.le_of ⟨rfl, rfl, rfl, rfl, rfl, rfl, trivial⟩ trivial) ?_)))
    clear hK K
    refine AW.cseq rfl (fun hc => ?_) (fun hc => ?_)
    · have hc := of_decide_eq_true hc
      have h := ifT hc h
      refine AW.skip ?_
      refine AW.seq (AW.block ?_)
      refine AW.rgs rfl fun K hK => ?_
      refine mv rfl rfl ?_
      obtain ⟨x5, h6, h⟩ := bS h
      refine bv rfl (v_idxF ty42 es42 rfl rfl (idx_lt h6)) ?_
      refine bv rfl (v_loadF ty3 rfl (l_cell eInt h6 (o := 0) rfl rfl)) ?_
      refine mv rfl rfl ?_
      refine mv rfl rfl ?_
      refine b_nil (hK _ (AW.to (to_le (s' := ⟨[(1, slE eInt p1), (2, HV.fptr [HV.int .i64 p0.1, HV.int .i64 p0.2.1, slE eFromLabelTo p0.2.2] 0), (5, HV.int .i64 a1), (6, HV.int .i64 x5), (7, slE eInt p1), (8, HV.int .i64 ((p1).length : Int)), (9, HV.int .i64 a1)], []⟩) (AS.le_of ⟨rfl, rfl, rfl, rfl, rfl, rfl, rfl, trivial⟩ trivial) ?_)))
      clear hK K
      refine AW.seq ?_
      refine AW.seqJ h (S := Bool) (V := Unit) (fun a v => ⟨[(1, slE eInt p1), (2, HV.fptr [HV.int .i64 p0.1, HV.int .i64 p0.2.1, slE eFromLabelTo p0.2.2] 0), (5, HV.int .i64 a1), (6, HV.int .i64 x5), (7, slE eInt p1), (8, HV.int .i64 ((p1).length : Int)), (9, HV.int .i64 a1), (21, HV.bool a)], []⟩) (fun a7 w8 h => ?_) (fun k9 h => ?_)
      · refine AW.cond rfl (fun hc => ?_) (fun hc => ?_)
        · have h := ifT hc h
          refine AW.rgs rfl fun K hK => ?_
          refine mv rfl rfl ?_
          refine b_nil (hK _ (AW.to (to_le (s' := ⟨[(4, HV.int .i64 25)], []⟩) (AS.le_of ⟨rfl, trivial⟩ trivial) ?_)))
          clear hK K
          have h := hr4 _ h
          refine AW.ret ?_
          have h := Option.some.inj h
          subst h
          exact ret_pure (hs := [HV.int .i64 25]) (q := HV.int .i64 25) (.inr rfl) (resT rfl rfl) rfl trivial
        · have h := ifF (bF' hc) h
          refine AW.skip ?_
          refine AW.seqJ h (S := Bool) (V := Unit) (fun a v => ⟨[(1, slE eInt p1), (2, HV.fptr [HV.int .i64 p0.1, HV.int .i64 p0.2.1, slE eFromLabelTo p0.2.2] 0), (7, slE eInt p1), (8, HV.int .i64 ((p1).length : Int)), (9, HV.int .i64 a1), (32, HV.bool a)], []⟩) (fun a10 w11 h => ?_) (fun k12 h => ?_)
          · refine AW.cond rfl (fun hc => ?_) (fun hc => ?_)
            · have h := ifT hc h
              refine AW.rgs rfl fun K hK => ?_
              refine mv rfl rfl ?_
              refine b_nil (hK _ (AW.to (to_le (s' := ⟨[(4, HV.int .i64 10)], []⟩) (AS.le_of ⟨rfl, trivial⟩ trivial) ?_)))
              clear hK K
              have h := hr4 _ h
              refine AW.ret ?_
              have h := Option.some.inj h
              subst h
              exact ret_pure (hs := [HV.int .i64 10]) (q := HV.int .i64 10) (.inr rfl) (resT rfl rfl) rfl trivial
            · have h := ifF (bF' hc) h
              refine AW.skip ?_
              refine AW.rg rfl fun K hK => ?_
              refine bv rfl (v_bin rfl rfl b_add) ?_
              refine mv rfl rfl ?_
              refine b_nil (hK _ ?_)
              clear hK K
              exact to_le (s' := ⟨[(1, slE eInt p1), (2, HV.fptr [HV.int .i64 p0.1, HV.int .i64 p0.2.1, slE eFromLabelTo p0.2.2] 0), (7, slE eInt p1), (8, HV.int .i64 ((p1).length : Int)), (9, HV.int .i64 (IntKind.wrap .i64 (a1 + 1)))], []⟩) (AS.le_of ⟨rfl, rfl, rfl, rfl, rfl, trivial⟩ trivial) ⟨IntKind.wrap .i64 (a1 + 1), (), h, rfl⟩
          · refine AW.rg rfl fun K hK => ?_
            refine mv rfl rfl ?_
            refine bv rfl (v_bin rfl rfl b_gtr) ?_
            refine mv rfl rfl ?_
            by_cases hg15 : 0 < a1
            · have h := ifT hg15 h
              refine b_T rfl rfl rfl rfl (decide_eq_true hg15) (o_val rfl (mv_val rfl rfl).2 ?_)
              refine b_T rfl rfl rfl rfl rfl (o_val rfl (mv_val rfl rfl).2 ?_)
              refine b_T rfl rfl rfl rfl rfl (o_val rfl (mv_val rfl rfl).2 ?_)
              refine b_T rfl rfl rfl rfl rfl (o_val rfl (v_bin rfl rfl b_sub) ?_)
              obtain ⟨x13, h14, h⟩ := bS h
              refine b_T rfl rfl rfl rfl rfl (o_val rfl (v_idxF ty42 es42 rfl rfl (idx_lt h14)) ?_)
              refine b_T rfl rfl rfl rfl rfl (o_val rfl (v_loadF ty3 rfl (l_cell eInt h14 (o := 0) rfl rfl)) ?_)
              refine b_T rfl rfl rfl rfl rfl (o_val rfl (v_bin rfl rfl b_leq) ?_)
              refine bv rfl (v_pickT rfl rfl rfl) ?_
              refine b_nil (hK _ ?_)
              clear hK K
              exact to_le (s' := ⟨[(1, slE eInt p1), (2, HV.fptr [HV.int .i64 p0.1, HV.int .i64 p0.2.1, slE eFromLabelTo p0.2.2] 0), (7, slE eInt p1), (8, HV.int .i64 ((p1).length : Int)), (9, HV.int .i64 a1), (32, HV.bool (decide (x5 ≤ x13)))], []⟩) (AS.le_of ⟨rfl, rfl, rfl, rfl, rfl, rfl, trivial⟩ trivial) ⟨decide (x5 ≤ x13), (), h, rfl⟩
            · have h := ifF hg15 h
              refine b_F rfl rfl rfl rfl rfl (decide_eq_false hg15) ?_
              refine b_F rfl rfl rfl rfl rfl rfl ?_
              refine b_F rfl rfl rfl rfl rfl rfl ?_
              refine b_F rfl rfl rfl rfl rfl rfl ?_
              refine b_F rfl rfl rfl rfl rfl rfl ?_
              refine b_F rfl rfl rfl rfl rfl rfl ?_
              refine b_F rfl rfl rfl rfl rfl rfl ?_
              refine bv rfl (v_pickF rfl rfl rfl) ?_
              refine b_nil (hK _ ?_)
              clear hK K
              exact to_le (s' := ⟨[(1, slE eInt p1), (2, HV.fptr [HV.int .i64 p0.1, HV.int .i64 p0.2.1, slE eFromLabelTo p0.2.2] 0), (7, slE eInt p1), (8, HV.int .i64 ((p1).length : Int)), (9, HV.int .i64 a1), (32, HV.bool false)], []⟩) (AS.le_of ⟨rfl, rfl, rfl, rfl, rfl, rfl, trivial⟩ trivial) ⟨false, (), h, rfl⟩
      · refine AW.rg rfl fun K hK => ?_
        refine mv rfl rfl ?_
        refine bv rfl (v_bin rfl rfl b_lss) ?_
        refine mv rfl rfl ?_
        by_cases hg16 : x5 < 0
        · have h := ifT hg16 h
          refine b_F rfl rfl rfl rfl rfl (decide_eq_true hg16) ?_
          refine b_F rfl rfl rfl rfl rfl rfl ?_
          refine b_F rfl rfl rfl rfl rfl rfl ?_
          refine b_F rfl rfl rfl rfl rfl rfl ?_
          refine bv rfl (v_pickT rfl rfl rfl) ?_
          refine b_nil (hK _ ?_)
          clear hK K
          exact to_le (s' := ⟨[(1, slE eInt p1), (2, HV.fptr [HV.int .i64 p0.1, HV.int .i64 p0.2.1, slE eFromLabelTo p0.2.2] 0), (5, HV.int .i64 a1), (6, HV.int .i64 x5), (7, slE eInt p1), (8, HV.int .i64 ((p1).length : Int)), (9, HV.int .i64 a1), (21, HV.bool true)], []⟩) (AS.le_of ⟨rfl, rfl, rfl, rfl, rfl, rfl, rfl, rfl, trivial⟩ trivial) ⟨true, (), h, rfl⟩
        · have h := ifF hg16 h
          refine b_T rfl rfl rfl rfl (decide_eq_false hg16) (o_val rfl (mv_val rfl rfl).2 ?_)
          refine b_T rfl rfl rfl rfl rfl (o_val rfl (v_fieldAddrF fo24_1 rfl) ?_)
          refine b_T rfl rfl rfl rfl rfl (o_val rfl (v_loadF ty3 rfl (l_lit rfl rfl)) ?_)
          refine b_T rfl rfl rfl rfl rfl (o_val rfl (v_bin rfl rfl b_geq) ?_)
          refine bv rfl (v_pickF rfl rfl rfl) ?_
          refine b_nil (hK _ ?_)
          clear hK K
          exact to_le (s' := ⟨[(1, slE eInt p1), (2, HV.fptr [HV.int .i64 p0.1, HV.int .i64 p0.2.1, slE eFromLabelTo p0.2.2] 0), (5, HV.int .i64 a1), (6, HV.int .i64 x5), (7, slE eInt p1), (8, HV.int .i64 ((p1).length : Int)), (9, HV.int .i64 a1), (21, HV.bool (decide (p0.2.1 ≤ x5)))], []⟩) (AS.le_of ⟨rfl, rfl, rfl, rfl, rfl, rfl, rfl, rfl, trivial⟩ trivial) ⟨decide (p0.2.1 ≤ x5), (), h, rfl⟩
    · have hc := of_decide_eq_false hc
      have h := ifF hc h
      refine AW.exit ?_
      exact to_le (s' := ⟨[], []⟩) (AS.le_of trivial trivial) ⟨(), (), h, rfl⟩

set_option maxHeartbeats 1600000 in
set_option maxRecDepth 100000 in
theorem w_graph_leaving (p0 : TLabelsStatesEdges) (p1 : Int) : Pure Try.prog 178 [HV.agg [HV.int .i64 p0.1, HV.int .i64 p0.2.1, slE eFromLabelTo p0.2.2], HV.int .i64 p1] (· = HV.fn (.func 186) [] [HV.fptr [HV.int .i64 p0.1, HV.int .i64 p0.2.1, slE eFromLabelTo p0.2.2] 0, HV.fptr [HV.int .i64 p1] 0]) := by
  refine Pure.of_body Try.func178 rfl rfl (Nat.le_of_ble_eq_true rfl) fun hf => ?_
  unfold Try.f178
  dsimp only [enumS, Nat.reduceAdd]
  refine AW.rgs rfl fun K hK => ?_
  refine b_op rfl (o_box rfl rfl rfl ?_)
  refine b_op rfl (o_box rfl rfl rfl ?_)
  refine mv rfl rfl ?_
  refine b_nil (hK _ (AW.to (to_le (s' := ⟨[(2, HV.fptr [HV.int .i64 p0.1, HV.int .i64 p0.2.1, slE eFromLabelTo p0.2.2] 0), (3, HV.fptr [HV.int .i64 p1] 0)], []⟩) (AS.le_of ⟨rfl, rfl, trivial⟩ trivial) ?_)))
  clear hK K
  refine AW.rgs rfl fun K hK => ?_
  refine bv rfl (v_func rfl rfl) ?_
  refine mv rfl rfl ?_
  refine b_nil (hK _ (AW.to (to_le (s' := ⟨[(4, HV.fn (.func 186) [] [HV.fptr [HV.int .i64 p0.1, HV.int .i64 p0.2.1, slE eFromLabelTo p0.2.2] 0, HV.fptr [HV.int .i64 p1] 0])], []⟩) (AS.le_of ⟨rfl, trivial⟩ trivial) ?_)))
  clear hK K
  refine AW.ret ?_
  exact ret_pure (hs := [HV.fn (.func 186) [] [HV.fptr [HV.int .i64 p0.1, HV.int .i64 p0.2.1, slE eFromLabelTo p0.2.2] 0, HV.fptr [HV.int .i64 p1] 0]]) (q := HV.fn (.func 186) [] [HV.fptr [HV.int .i64 p0.1, HV.int .i64 p0.2.1, slE eFromLabelTo p0.2.2] 0, HV.fptr [HV.int .i64 p1] 0]) (.inr rfl) (resT rfl rfl) rfl ⟨trivial, ⟨⟨trivial, trivial, (clean_slE fun _ _ => ⟨trivial, trivial, trivial, trivial⟩), trivial⟩, ⟨trivial, trivial⟩, trivial⟩⟩

end Go.AW

namespace Go.AW
open Go Go.Proofs
set_option linter.unusedVariables false
set_option maxHeartbeats 1600000 in
set_option maxRecDepth 100000 in
theorem w_graph_Step {p0 : TLabelsStatesEdges} {p1 : List (Int)} {p2 : Int} {r : (List (Int)) × Int} (h : m_graph_Step p0 p1 p2 = some r) : Pure Try.prog 159 [HV.agg [HV.int .i64 p0.1, HV.int .i64 p0.2.1, slE eFromLabelTo p0.2.2], slE eInt p1, HV.int .i64 p2] (· = HV.tup [slE eInt r.1, HV.int .i64 r.2]) := by
  unfold m_graph_Step at h
  refine Pure.of_body Try.func159 rfl rfl (Nat.le_of_ble_eq_true rfl) fun hf => ?_
  unfold Try.f159
  dsimp only [enumS, Nat.reduceAdd]
  refine AW.rgs rfl fun K hK => ?_
  refine b_op rfl (o_box rfl rfl rfl ?_)
  refine b_op rfl (o_box rfl rfl rfl ?_)
  refine mv rfl rfl ?_
  refine mv rfl rfl ?_
  refine b_nil (hK _ (AW.to (to_le (s' := ⟨[(1, slE eInt p1), (3, HV.fptr [HV.int .i64 p0.1, HV.int .i64 p0.2.1, slE eFromLabelTo p0.2.2] 0), (5, HV.fptr [HV.int .i64 p2] 0)], []⟩) (AS.le_of ⟨rfl, rfl, rfl, trivial⟩ trivial) ?_)))
  clear hK K
  refine AW.seq ?_
  refine AW.rgs rfl fun K hK => ?_
  refine bv rfl (v_loadF ty24 rfl (l_litA rfl (Nat.le_of_ble_eq_true rfl) rfl)) ?_
  obtain ⟨x1, h2, h⟩ := bS h
  refine b_op rfl (o_call rfl rfl rfl rfl (ACallD.pure0 (w_graph_Check h2)) ?_)
  refine bv rfl (v_bin rfl rfl b_neq) ?_
  refine b_nil (hK _ (AW.to (to_le (s' := ⟨[(1, slE eInt p1), (3, HV.fptr [HV.int .i64 p0.1, HV.int .i64 p0.2.1, slE eFromLabelTo p0.2.2] 0), (5, HV.fptr [HV.int .i64 p2] 0), (16, HV.bool (decide (x1 ≠ 0)))], []⟩) (AS.le_of ⟨rfl, rfl, rfl, rfl, trivial⟩ trivial) ?_)))
  clear hK K
  refine AW.cond rfl (fun hc => ?_) (fun hc => ?_)
  · have hc := of_decide_eq_true hc
    have h := ifT hc h
    refine AW.rgs rfl fun K hK => ?_
    refine mv rfl rfl ?_
    refine mv rfl rfl ?_
    refine b_nil (hK _ (AW.to (to_le (s' := ⟨[(6, HV.v (.slice none 0 0)), (7, HV.int .i64 1)], []⟩) (AS.le_of ⟨rfl, rfl, trivial⟩ trivial) ?_)))
    clear hK K
    refine AW.to (to_weak ⟨[(6, slE eInt ([] : List Int)), (7, HV.int .i64 1)], []⟩ ⟨⟨_, rfl, .nil _⟩, ⟨_, rfl, .refl _⟩, trivial⟩ trivial ?_)
    refine AW.ret ?_
    have h := Option.some.inj h
    subst h
    exact ret_pure (hs := [slE eInt ([] : List Int), HV.int .i64 1]) (q := HV.tup [slE eInt ([] : List Int), HV.int .i64 1]) (.inr rfl) (resT rfl (resT rfl rfl)) rfl ⟨(clean_slE fun _ _ => ⟨trivial, trivial⟩), trivial, trivial⟩
  · have hc := of_decide_eq_false hc
    have h := ifF hc h
    refine AW.skip ?_
    refine AW.seq ?_
    refine AW.rgs rfl fun K hK => ?_
    refine bv rfl (v_loadF ty24 rfl (l_litA rfl (Nat.le_of_ble_eq_true rfl) rfl)) ?_
    refine mv rfl rfl ?_
    obtain ⟨x3, h4, h⟩ := bS h
    refine b_op rfl (o_call rfl rfl rfl rfl (ACallD.pure0 (w_graph_checkSet h4)) ?_)
    refine mv rfl rfl ?_
    refine b_nil (hK _ (AW.to (to_le (s' := ⟨[(1, slE eInt p1), (3, HV.fptr [HV.int .i64 p0.1, HV.int .i64 p0.2.1, slE eFromLabelTo p0.2.2] 0), (5, HV.fptr [HV.int .i64 p2] 0), (8, HV.int .i64 x3)], []⟩) (AS.le_of ⟨rfl, rfl, rfl, rfl, trivial⟩ trivial) ?_)))
    clear hK K
    refine AW.rgs rfl fun K hK => ?_
    refine mv rfl rfl ?_
    refine bv rfl (v_bin rfl rfl b_neq) ?_
    refine b_nil (hK _ (AW.to (to_le (s' := ⟨[(1, slE eInt p1), (3, HV.fptr [HV.int .i64 p0.1, HV.int .i64 p0.2.1, slE eFromLabelTo p0.2.2] 0), (5, HV.fptr [HV.int .i64 p2] 0), (8, HV.int .i64 x3), (21, HV.bool (decide (x3 ≠ 0)))], []⟩) (AS.le_of ⟨rfl, rfl, rfl, rfl, rfl, trivial⟩ trivial) ?_)))
    clear hK K
    refine AW.cond rfl (fun hc => ?_) (fun hc => ?_)
    · have hc := of_decide_eq_true hc
      have h := ifT hc h
      refine AW.rgs rfl fun K hK => ?_
      refine mv rfl rfl ?_
      refine mv rfl rfl ?_
      refine mv rfl rfl ?_
      refine b_nil (hK _ (AW.to (to_le (s' := ⟨[(6, HV.v (.slice none 0 0)), (7, HV.int .i64 x3)], []⟩) (AS.le_of ⟨rfl, rfl, trivial⟩ trivial) ?_)))
      clear hK K
      refine AW.to (to_weak ⟨[(6, slE eInt ([] : List Int)), (7, HV.int .i64 x3)], []⟩ ⟨⟨_, rfl, .nil _⟩, ⟨_, rfl, .refl _⟩, trivial⟩ trivial ?_)
      refine AW.ret ?_
      have h := Option.some.inj h
      subst h
      exact ret_pure (hs := [slE eInt ([] : List Int), HV.int .i64 x3]) (q := HV.tup [slE eInt ([] : List Int), HV.int .i64 x3]) (.inr rfl) (resT rfl (resT rfl rfl)) rfl ⟨(clean_slE fun _ _ => ⟨trivial, trivial⟩), trivial, trivial⟩
    · have hc := of_decide_eq_false hc
      have h := ifF hc h
      refine AW.skip ?_
      refine AW.seq ?_
      refine AW.seqJ h (S := Bool) (V := Unit) (fun a v => ⟨[(1, slE eInt p1), (3, HV.fptr [HV.int .i64 p0.1, HV.int .i64 p0.2.1, slE eFromLabelTo p0.2.2] 0), (5, HV.fptr [HV.int .i64 p2] 0), (30, HV.bool a)], []⟩) (fun a5 w6 h => ?_) (fun k7 h => ?_)
      · refine AW.cond rfl (fun hc => ?_) (fun hc => ?_)
        · have h := ifT hc h
          refine AW.rgs rfl fun K hK => ?_
          refine mv rfl rfl ?_
          refine mv rfl rfl ?_
          refine b_nil (hK _ (AW.to (to_le (s' := ⟨[(6, HV.v (.slice none 0 0)), (7, HV.int .i64 2)], []⟩) (AS.le_of ⟨rfl, rfl, trivial⟩ trivial) ?_)))
          clear hK K
          refine AW.to (to_weak ⟨[(6, slE eInt ([] : List Int)), (7, HV.int .i64 2)], []⟩ ⟨⟨_, rfl, .nil _⟩, ⟨_, rfl, .refl _⟩, trivial⟩ trivial ?_)
          refine AW.ret ?_
          have h := Option.some.inj h
          subst h
          exact ret_pure (hs := [slE eInt ([] : List Int), HV.int .i64 2]) (q := HV.tup [slE eInt ([] : List Int), HV.int .i64 2]) (.inr rfl) (resT rfl (resT rfl rfl)) rfl ⟨(clean_slE fun _ _ => ⟨trivial, trivial⟩), trivial, trivial⟩
        · have h := ifF (bF' hc) h
          refine AW.skip ?_
          refine AW.rgs rfl fun K hK => ?_
          refine b_op rfl (o_alloc (fid := 159) (zs := [HV.v (.slice none 0 0)]) 159009 rfl rfl ty42 rfl (fun v8 => ?_))
          refine b_nil (hK _ (AW.to (to_le (s' := ⟨[(1, slE eInt p1), (3, HV.fptr [HV.int .i64 p0.1, HV.int .i64 p0.2.1, slE eFromLabelTo p0.2.2] 0), (5, HV.fptr [HV.int .i64 p2] 0), (9, HV.ptr 159009 v8 0)], [(159009, v8, .arr 1 42 [HV.v (.slice none 0 0)])]⟩) (AS.le_of ⟨rfl, rfl, rfl, rfl, trivial⟩ ⟨rfl, trivial⟩) ?_)))
          clear hK K
          refine AW.seq ?_
          refine AW.rgs rfl fun K hK => ?_
          refine mv rfl rfl ?_
          refine bv rfl (v_lenF rfl rfl ty42 rfl) ?_
          refine mv rfl rfl ?_
          refine b_nil (hK _ (AW.to (to_le (s' := ⟨[(3, HV.fptr [HV.int .i64 p0.1, HV.int .i64 p0.2.1, slE eFromLabelTo p0.2.2] 0), (5, HV.fptr [HV.int .i64 p2] 0), (9, HV.ptr 159009 v8 0), (31, slE eInt p1), (32, HV.int .i64 ((p1).length : Int)), (33, HV.int .i64 0)], [(159009, v8, .arr 1 42 [HV.v (.slice none 0 0)])]⟩) (AS.le_of ⟨rfl, rfl, rfl, rfl, rfl, rfl, trivial⟩ ⟨rfl, trivial⟩) ?_)))
          clear hK K
          refine AW.lpX h (by first | exact up_then | exact up_to) (S := Int × (List Int)) (V := Nat) (fun a v => ⟨[(3, HV.fptr [HV.int .i64 p0.1, HV.int .i64 p0.2.1, slE eFromLabelTo p0.2.2] 0), (5, HV.fptr [HV.int .i64 p2] 0), (9, HV.ptr 159009 v8 0), (31, slE eInt p1), (32, HV.int .i64 ((p1).length : Int)), (33, HV.int .i64 a.1)], [(159009, v8, .arr 1 42 [HV.ar 159050 v eInt.k 0 ((a.2).length)]), (159050, v, .arr eInt.k 3 (eInt.E a.2))]⟩) ?_ (X := (List Int)) (W := Nat) (fun a v => ⟨[(9, HV.ptr 159009 v8 0)], [(159009, v8, .arr 1 42 [HV.ar 159050 v eInt.k 0 ((a).length)]), (159050, v, .arr eInt.k 3 (eInt.E a))]⟩) (fun a31 w32 h => ?_) (fun a9 w10 st11 h => ?_)
          · refine to_bind (to_ownC 159050 159009 v8 1 0 eInt.k 3 42 rfl rfl (by decide) fun v30 => ?_)
            exact to_le (s' := ⟨[(3, HV.fptr [HV.int .i64 p0.1, HV.int .i64 p0.2.1, slE eFromLabelTo p0.2.2] 0), (5, HV.fptr [HV.int .i64 p2] 0), (9, HV.ptr 159009 v8 0), (31, slE eInt p1), (32, HV.int .i64 ((p1).length : Int)), (33, HV.int .i64 0)], [(159009, v8, .arr 1 42 [HV.ar 159050 v30 eInt.k 0 ((([] : List Int)).length)]), (159050, v30, .arr eInt.k 3 (eInt.E ([] : List Int)))]⟩) (AS.le_of ⟨rfl, rfl, rfl, rfl, rfl, rfl, trivial⟩ ⟨hle rfl (by first | rfl | simp only [List.length_set, sortI_len, sortS_len]), rfl, trivial⟩) ⟨v30, rfl⟩
          · refine AW.rgs rfl fun K hK => ?_
            refine bv rfl (v_loadP ty42 rfl rfl (l_lit rfl rfl)) ?_
            obtain ⟨h33, h⟩ := ifN h
            refine b_op rfl (o_sortI c_sortI (l := a31) rfl rfl rfl rfl h33 ?_)
            refine b_nil (hK _ (AW.to (to_le (s' := ⟨[(9, HV.ptr 159009 v8 0)], [(159009, v8, .arr 1 42 [HV.ar 159050 w32 eInt.k 0 ((sortI a31).length)]), (159050, w32, .arr eInt.k 3 (eInt.E (sortI a31)))]⟩) (AS.le_of ⟨rfl, trivial⟩ ⟨hle rfl (by first | rfl | simp only [List.length_set, sortI_len, sortS_len]), rfl, trivial⟩) ?_)))
            clear hK K
            refine AW.rgs rfl fun K hK => ?_
            refine bv rfl (v_loadP ty42 rfl rfl (l_lit rfl rfl)) ?_
            refine b_op rfl (o_callK (q := slE eInt (compact_ (sortI a31))) [(159009, v8, .arr 1 42 [HV.ar 159050 w32 eInt.k 0 ((sortI a31).length)])] rfl rfl rfl rfl (fun K hK => c_compactI (H' := [(159009, v8, .arr 1 42 [HV.ar 159050 w32 eInt.k 0 ((sortI a31).length)])]) (l := sortI a31) rfl rfl (leH_get ⟨rfl, trivial⟩) rfl hK) ?_)
            refine mv rfl rfl ?_
            refine mv rfl rfl ?_
            refine b_nil (hK _ (AW.to (to_le (s' := ⟨[(6, slE eInt (compact_ (sortI a31))), (7, HV.int .i64 0)], []⟩) (AS.le_of ⟨rfl, rfl, trivial⟩ trivial) ?_)))
            clear hK K
            refine AW.ret ?_
            have h := Option.some.inj h
            subst h
            exact ret_pure (hs := [slE eInt (compact_ (sortI a31)), HV.int .i64 0]) (q := HV.tup [slE eInt (compact_ (sortI a31)), HV.int .i64 0]) (.inr rfl) (resT rfl (resT rfl rfl)) rfl ⟨(clean_slE fun _ _ => ⟨trivial, trivial⟩), trivial, trivial⟩
          · refine AW.rgs rfl fun K hK => ?_
            refine bv rfl (v_bin rfl rfl b_lss) ?_
            refine b_nil (hK _ (AW.to (to_le (s' := ⟨[(3, HV.fptr [HV.int .i64 p0.1, HV.int .i64 p0.2.1, slE eFromLabelTo p0.2.2] 0), (5, HV.fptr [HV.int .i64 p2] 0), (9, HV.ptr 159009 v8 0), (31, slE eInt p1), (32, HV.int .i64 ((p1).length : Int)), (33, HV.int .i64 a9.1), (34, HV.bool (decide (a9.1 < ((p1).length : Int))))], [(159009, v8, .arr 1 42 [HV.ar 159050 w10 eInt.k 0 ((a9.2).length)]), (159050, w10, .arr eInt.k 3 (eInt.E a9.2))]⟩) (AS.le_of ⟨rfl, rfl, rfl, rfl, rfl, rfl, rfl, trivial⟩ ⟨rfl, rfl, trivial⟩) ?_)))
            clear hK K
            refine AW.cseq rfl (fun hc => ?_) (fun hc => ?_)
            · have hc := of_decide_eq_true hc
              have h := ifT hc h
              refine AW.skip ?_
              refine AW.seq (AW.block ?_)
              refine AW.rgs rfl fun K hK => ?_
              obtain ⟨x13, h14, h⟩ := bS h
              refine bv rfl (v_idxF ty42 es42 rfl rfl (idx_lt h14)) ?_
              refine bv rfl (v_loadF ty3 rfl (l_cell eInt h14 (o := 0) rfl rfl)) ?_
              refine mv rfl rfl ?_
              refine b_nil (hK _ (AW.to (to_le (s' := ⟨[(3, HV.fptr [HV.int .i64 p0.1, HV.int .i64 p0.2.1, slE eFromLabelTo p0.2.2] 0), (5, HV.fptr [HV.int .i64 p2] 0), (9, HV.ptr 159009 v8 0), (11, HV.int .i64 x13), (31, slE eInt p1), (32, HV.int .i64 ((p1).length : Int)), (33, HV.int .i64 a9.1)], [(159009, v8, .arr 1 42 [HV.ar 159050 w10 eInt.k 0 ((a9.2).length)]), (159050, w10, .arr eInt.k 3 (eInt.E a9.2))]⟩) (AS.le_of ⟨rfl, rfl, rfl, rfl, rfl, rfl, rfl, trivial⟩ ⟨rfl, rfl, trivial⟩) ?_)))
              clear hK K
              refine AW.rgs rfl fun K hK => ?_
              refine bv rfl (v_loadF ty24 rfl (l_litA rfl (Nat.le_of_ble_eq_true rfl) rfl)) ?_
              refine mv rfl rfl ?_
              refine b_op rfl (o_call rfl rfl rfl rfl (ACallD.pure0 (w_graph_leaving p0 x13)) ?_)
              refine b_nil (hK _ (AW.to (to_le (s' := ⟨[(3, HV.fptr [HV.int .i64 p0.1, HV.int .i64 p0.2.1, slE eFromLabelTo p0.2.2] 0), (5, HV.fptr [HV.int .i64 p2] 0), (9, HV.ptr 159009 v8 0), (31, slE eInt p1), (32, HV.int .i64 ((p1).length : Int)), (33, HV.int .i64 a9.1), (39, HV.fn (.func 186) [] [HV.fptr [HV.int .i64 p0.1, HV.int .i64 p0.2.1, slE eFromLabelTo p0.2.2] 0, HV.fptr [HV.int .i64 x13] 0])], [(159009, v8, .arr 1 42 [HV.ar 159050 w10 eInt.k 0 ((a9.2).length)]), (159050, w10, .arr eInt.k 3 (eInt.E a9.2))]⟩) (AS.le_of ⟨rfl, rfl, rfl, rfl, rfl, rfl, rfl, trivial⟩ ⟨rfl, rfl, trivial⟩) ?_)))
              clear hK K
              refine AW.block ?_
              refine AW.to (to_le (s' := ⟨[(3, HV.fptr [HV.int .i64 p0.1, HV.int .i64 p0.2.1, slE eFromLabelTo p0.2.2] 0), (5, HV.fptr [HV.int .i64 p2] 0), (9, HV.ptr 159009 v8 0), (31, slE eInt p1), (32, HV.int .i64 ((p1).length : Int)), (33, HV.int .i64 a9.1), (39, HV.fn (.func 186) [] [HV.fptr [HV.int .i64 p0.1, HV.int .i64 p0.2.1, slE eFromLabelTo p0.2.2] 0, HV.fptr [HV.int .i64 x13] 0])], [(159009, v8, .arr 1 42 [HV.ar 159050 w10 eInt.k 0 ((a9.2).length)]), (159050, w10, .arr eInt.k 3 (eInt.E a9.2))]⟩) (AS.le_of ⟨rfl, rfl, rfl, rfl, rfl, rfl, rfl, trivial⟩ ⟨rfl, rfl, trivial⟩) ?_)
              obtain ⟨L15, h16, h⟩ := bS h
              refine AW.rangeY (c := .ret) 159900 (fun x => [HV.int .i64 x.1, HV.agg [HV.int .i64 x.2.1, HV.int .i64 x.2.2.1, HV.int .i64 x.2.2.2]]) h (by first | exact up_then | exact up_to) rfl (iy_graph_leaving h16) (S := (List Int)) (V := Nat) (fun a v => [(159009, v8, .arr 1 42 [HV.ar 159050 v eInt.k 0 ((a).length)]), (159050, v, .arr eInt.k 3 (eInt.E a))]) w10 (X := Unit) (W := Unit) (fun _ _ => []) (fun _ _ => rfl) (fun _ _ => rfl) rfl (fun _ => rfl) (fun a26 w27 h => ?_) (fun a28 w29 h => ?_) (fun Lo l22 v20 a17 x19 w18 st21 h => ?_)
              · refine AW.rg rfl fun K hK => ?_
                refine bv rfl (v_bin rfl rfl b_add) ?_
                refine mv rfl rfl ?_
                refine b_nil (hK _ ?_)
                clear hK K
                exact to_le (s' := ⟨[(3, HV.fptr [HV.int .i64 p0.1, HV.int .i64 p0.2.1, slE eFromLabelTo p0.2.2] 0), (5, HV.fptr [HV.int .i64 p2] 0), (9, HV.ptr 159009 v8 0), (31, slE eInt p1), (32, HV.int .i64 ((p1).length : Int)), (33, HV.int .i64 (IntKind.wrap .i64 (a9.1 + 1)))], [(159009, v8, .arr 1 42 [HV.ar 159050 w27 eInt.k 0 ((a26).length)]), (159050, w27, .arr eInt.k 3 (eInt.E a26))]⟩) (AS.le_of ⟨rfl, rfl, rfl, rfl, rfl, rfl, trivial⟩ ⟨rfl, rfl, trivial⟩) ⟨(IntKind.wrap .i64 (a9.1 + 1), a26), w27, h, rfl⟩
              · cases h
              · refine AW.rg rfl fun K hK => ?_
                refine b_op rfl (o_alloc (fid := 159) (zs := [HV.int .i64 0, HV.int .i64 0, HV.int .i64 0]) 159013 rfl rfl ty66 rfl (fun v23 => ?_))
                refine b_op rfl (o_store (cs := [HV.int .i64 x19.2.1, HV.int .i64 x19.2.2.1, HV.int .i64 x19.2.2.2]) (zs := [HV.int .i64 x19.2.1, HV.int .i64 x19.2.2.1, HV.int .i64 x19.2.2.2]) rfl rfl rfl ty66 rfl rfl rfl rfl rfl ?_)
                refine b_nil (hK _ ?_)
                clear hK K
                refine ⟨rfl, rfl, ?_⟩
                refine AW.block ?_
                refine AW.rgs rfl fun K hK => ?_
                refine bv rfl (v_fieldAddrP fo66_1 rfl rfl) ?_
                refine bv rfl (v_loadP ty3 rfl rfl (l_lit rfl rfl)) ?_
                refine bv rfl (v_loadF ty3 rfl (l_lit rfl rfl)) ?_
                refine bv rfl (v_bin rfl rfl b_eql) ?_
                refine b_nil (hK _ (AW.to (to_le (s' := ⟨[(3, HV.fptr [HV.int .i64 p0.1, HV.int .i64 p0.2.1, slE eFromLabelTo p0.2.2] 0), (5, HV.fptr [HV.int .i64 p2] 0), (9, HV.ptr 159009 v8 0), (13, HV.ptr 159013 v23 0), (31, slE eInt p1), (32, HV.int .i64 ((p1).length : Int)), (33, HV.int .i64 a9.1), (41, HV.agg [HV.int .i64 x19.2.1, HV.int .i64 x19.2.2.1, HV.int .i64 x19.2.2.2]), (45, HV.bool (decide (x19.2.2.1 = p2)))], [(159900, v20, Lo .busy none), (159009, v8, .arr 1 42 [HV.ar 159050 w18 eInt.k 0 ((a17).length)]), (159050, w18, .arr eInt.k 3 (eInt.E a17)), (159013, v23, .arr 3 66 [HV.int .i64 x19.2.1, HV.int .i64 x19.2.2.1, HV.int .i64 x19.2.2.2])]⟩) (AS.le_of ⟨rfl, rfl, rfl, rfl, rfl, rfl, rfl, rfl, rfl, trivial⟩ ⟨rfl, rfl, rfl, rfl, trivial⟩) ?_)))
                clear hK K
                refine AW.cond rfl (fun hc => ?_) (fun hc => ?_)
                · have hc := of_decide_eq_true hc
                  have h := ifT hc h
                  refine AW.rg rfl fun K hK => ?_
                  refine bv rfl (v_loadP ty42 rfl rfl (l_lit rfl rfl)) ?_
                  refine bv rfl (v_fieldAddrP fo66_2 rfl rfl) ?_
                  refine bv rfl (v_loadP ty3 rfl rfl (l_lit rfl rfl)) ?_
                  refine b_op rfl (o_bsl rfl rfl (as_of (cs := [HV.int .i64 x19.2.2.2]) ty42 ty3 rfl rfl rfl rfl rfl) ?_)
                  obtain ⟨h25, h⟩ := ifN h
                  refine b_op rfl (o_appE eInt (l := a17) (m := [x19.2.2.2]) rfl rfl ty42 ty42 ty3 rfl rfl rfl rfl rfl h25 (fun v24 => ?_))
                  refine b_op rfl (o_store (cs := [HV.ar 159050 v24 eInt.k 0 ((a17 ++ [x19.2.2.2]).length)]) (zs := [HV.ar 159050 v24 eInt.k 0 ((a17 ++ [x19.2.2.2]).length)]) rfl rfl rfl ty42 rfl rfl rfl rfl rfl ?_)
                  refine b_nil (hK _ ?_)
                  clear hK K
                  exact ⟨a17 ++ [x19.2.2.2], v24, h, (AS.le_of trivial ⟨rfl, rfl, rfl, trivial⟩)⟩
                · have hc := of_decide_eq_false hc
                  have h := ifF hc h
                  refine AW.skip ?_
                  exact ⟨a17, w18, h, (AS.le_of trivial ⟨rfl, rfl, rfl, trivial⟩)⟩
            · have hc := of_decide_eq_false hc
              have h := ifF hc h
              refine AW.exit ?_
              exact to_le (s' := ⟨[(9, HV.ptr 159009 v8 0)], [(159009, v8, .arr 1 42 [HV.ar 159050 w10 eInt.k 0 ((a9.2).length)]), (159050, w10, .arr eInt.k 3 (eInt.E a9.2))]⟩) (AS.le_of ⟨rfl, trivial⟩ ⟨rfl, rfl, trivial⟩) ⟨a9.2, w10, h, rfl⟩
      · refine AW.rg rfl fun K hK => ?_
        refine bv rfl (v_loadF ty3 rfl (l_lit rfl rfl)) ?_
        refine bv rfl (v_bin rfl rfl b_lss) ?_
        refine mv rfl rfl ?_
        by_cases hg34 : p2 < 0
        · have h := ifT hg34 h
          refine b_F rfl rfl rfl rfl rfl (decide_eq_true hg34) ?_
          refine b_F rfl rfl rfl rfl rfl rfl ?_
          refine b_F rfl rfl rfl rfl rfl rfl ?_
          refine b_F rfl rfl rfl rfl rfl rfl ?_
          refine bv rfl (v_pickT rfl rfl rfl) ?_
          refine b_nil (hK _ ?_)
          clear hK K
          exact to_le (s' := ⟨[(1, slE eInt p1), (3, HV.fptr [HV.int .i64 p0.1, HV.int .i64 p0.2.1, slE eFromLabelTo p0.2.2] 0), (5, HV.fptr [HV.int .i64 p2] 0), (30, HV.bool true)], []⟩) (AS.le_of ⟨rfl, rfl, rfl, rfl, trivial⟩ trivial) ⟨true, (), h, rfl⟩
        · have h := ifF hg34 h
          refine b_T rfl rfl rfl rfl (decide_eq_false hg34) (o_val rfl (v_loadF ty3 rfl (l_lit rfl rfl)) ?_)
          refine b_T rfl rfl rfl rfl rfl (o_val rfl (v_fieldAddrF fo24_0 rfl) ?_)
          refine b_T rfl rfl rfl rfl rfl (o_val rfl (v_loadF ty3 rfl (l_lit rfl rfl)) ?_)
          refine b_T rfl rfl rfl rfl rfl (o_val rfl (v_bin rfl rfl b_geq) ?_)
          refine bv rfl (v_pickF rfl rfl rfl) ?_
          refine b_nil (hK _ ?_)
          clear hK K
          exact to_le (s' := ⟨[(1, slE eInt p1), (3, HV.fptr [HV.int .i64 p0.1, HV.int .i64 p0.2.1, slE eFromLabelTo p0.2.2] 0), (5, HV.fptr [HV.int .i64 p2] 0), (30, HV.bool (decide (p0.1 ≤ p2)))], []⟩) (AS.le_of ⟨rfl, rfl, rfl, rfl, trivial⟩ trivial) ⟨decide (p0.1 ≤ p2), (), h, rfl⟩

set_option maxHeartbeats 1600000 in
set_option maxRecDepth 100000 in
theorem w_language_step {p0 : TLabelsStatesEdges} {p1 : List (Int)} {p2 : Int} {r : (List (Int))} (h : m_language_step p0 p1 p2 = some r) : Pure Try.prog 125 [HV.agg [HV.int .i64 p0.1, HV.int .i64 p0.2.1, slE eFromLabelTo p0.2.2], slE eInt p1, HV.int .u8 p2] (· = slE eInt r) := by
  unfold m_language_step at h
  refine Pure.of_body Try.func125 rfl rfl (Nat.le_of_ble_eq_true rfl) fun hf => ?_
  unfold Try.f125
  dsimp only [enumS, Nat.reduceAdd]
  refine AW.rgs rfl fun K hK => ?_
  refine b_op rfl (o_box rfl rfl rfl ?_)
  refine mv rfl rfl ?_
  refine b_nil (hK _ (AW.to (to_le (s' := ⟨[(1, slE eInt p1), (2, HV.int .u8 p2), (3, HV.fptr [HV.int .i64 p0.1, HV.int .i64 p0.2.1, slE eFromLabelTo p0.2.2] 0)], []⟩) (AS.le_of ⟨rfl, rfl, rfl, trivial⟩ trivial) ?_)))
  clear hK K
  refine AW.dgs 10 follows rfl rfl fun K hK => ?_
  refine sv rfl (v_loadF ty24 rfl (l_litA rfl (Nat.le_of_ble_eq_true rfl) rfl)) ?_
  refine sm rfl rfl ?_
  refine sm rfl rfl ?_
  obtain ⟨x1, h2, h⟩ := bS h
  refine s_op rfl rfl (ops_call rfl rfl rfl rfl (ACallD.pure0 (w_strings_IndexByte h2)) ?_)
  obtain ⟨x3, h4, h⟩ := bS h
  refine s_op rfl rfl (ops_call rfl rfl rfl rfl (ACallD.pure0 (w_graph_Step h4)) ?_)
  refine sm rfl rfl ?_
  refine sv rfl (v_extract rfl rfl) ?_
  refine sv rfl (v_extract rfl rfl) ?_
  refine sm rfl rfl ?_
  refine sm rfl rfl ?_
  refine s_nil ?_
  refine b_nil (hK _ (AW.to (to_le (s' := ⟨[(7, slE eInt x3.1)], []⟩) (AS.le_of ⟨rfl, trivial⟩ trivial) ?_)))
  clear hK K
  refine AW.rgs rfl fun K hK => ?_
  refine mv rfl rfl ?_
  refine mv rfl rfl ?_
  refine b_nil (hK _ (AW.to (to_le (s' := ⟨[(6, slE eInt x3.1)], []⟩) (AS.le_of ⟨rfl, trivial⟩ trivial) ?_)))
  clear hK K
  refine AW.ret ?_
  have h := Option.some.inj h
  subst h
  exact ret_pure (hs := [slE eInt x3.1]) (q := slE eInt x3.1) (.inr rfl) (resT rfl rfl) rfl (clean_slE fun _ _ => ⟨trivial, trivial⟩)

set_option maxHeartbeats 1600000 in
set_option maxRecDepth 100000 in
theorem w_language_states {p0 : TLabelsStatesEdges} {r : (List (Int))} (h : m_language_states p0 = some r) : Pure Try.prog 80 [HV.agg [HV.int .i64 p0.1, HV.int .i64 p0.2.1, slE eFromLabelTo p0.2.2]] (· = slE eInt r) := by
  unfold m_language_states at h
  refine Pure.of_body Try.func80 rfl rfl (Nat.le_of_ble_eq_true rfl) fun hf => ?_
  unfold Try.f80
  dsimp only [enumS, Nat.reduceAdd]
  refine AW.rgs rfl fun K hK => ?_
  refine b_op rfl (o_box rfl rfl rfl ?_)
  refine mv rfl rfl ?_
  refine b_nil (hK _ (AW.to (to_le (s' := ⟨[(1, HV.fptr [HV.int .i64 p0.1, HV.int .i64 p0.2.1, slE eFromLabelTo p0.2.2] 0)], []⟩) (AS.le_of ⟨rfl, trivial⟩ trivial) ?_)))
  clear hK K
  refine AW.rgs rfl fun K hK => ?_
  refine bv rfl (v_fieldAddrF fo24_1 rfl) ?_
  refine bv rfl (v_loadF ty3 rfl (l_lit rfl rfl)) ?_
  obtain ⟨h2, h⟩ := ifN h
  refine b_op rfl (o_makeE (fid := 80) eInt (0 : Int) 80007 rfl rfl ty42 rfl rfl ty3 rfl rfl h2 (fun v1 => ?_))
  refine mv rfl rfl ?_
  refine b_nil (hK _ (AW.to (to_le (s' := ⟨[(3, HV.ar 80007 v1 eInt.k 0 ((List.replicate (p0.2.1).toNat (0 : Int)).length))], [(80007, v1, .arr eInt.k 3 (eInt.E (List.replicate (p0.2.1).toNat (0 : Int))))]⟩) (AS.le_of ⟨rfl, trivial⟩ ⟨rfl, trivial⟩) ?_)))
  clear hK K
  refine AW.seq ?_
  refine AW.rgs rfl fun K hK => ?_
  refine mv rfl rfl ?_
  refine bv rfl (v_lenA rfl rfl ty42 rfl rfl) ?_
  refine mv rfl rfl ?_
  refine b_nil (hK _ (AW.to (to_le (s' := ⟨[(3, HV.ar 80007 v1 eInt.k 0 ((List.replicate (p0.2.1).toNat (0 : Int)).length)), (9, HV.int .i64 (((List.replicate (p0.2.1).toNat (0 : Int)).length : Nat) : Int)), (10, HV.int .i64 0)], [(80007, v1, .arr eInt.k 3 (eInt.E (List.replicate (p0.2.1).toNat (0 : Int))))]⟩) (AS.le_of ⟨rfl, rfl, rfl, trivial⟩ ⟨rfl, trivial⟩) ?_)))
  clear hK K
  refine AW.lpX h (by first | exact up_then | exact up_to) (S := Int × (List Int)) (V := Unit) (fun a v => ⟨[(3, HV.ar 80007 v1 eInt.k 0 ((a.2).length)), (9, HV.int .i64 (((List.replicate (p0.2.1).toNat (0 : Int)).length : Nat) : Int)), (10, HV.int .i64 a.1)], [(80007, v1, .arr eInt.k 3 (eInt.E a.2))]⟩) ?_ (X := (List Int)) (W := Unit) (fun a v => ⟨[(3, HV.ar 80007 v1 eInt.k 0 ((a).length))], [(80007, v1, .arr eInt.k 3 (eInt.E a))]⟩) (fun a9 w10 h => ?_) (fun a3 w4 st5 h => ?_)
  · exact to_le (s' := ⟨[(3, HV.ar 80007 v1 eInt.k 0 ((List.replicate (p0.2.1).toNat (0 : Int)).length)), (9, HV.int .i64 (((List.replicate (p0.2.1).toNat (0 : Int)).length : Nat) : Int)), (10, HV.int .i64 0)], [(80007, v1, .arr eInt.k 3 (eInt.E (List.replicate (p0.2.1).toNat (0 : Int))))]⟩) (AS.le_of ⟨rfl, rfl, rfl, trivial⟩ ⟨rfl, trivial⟩) ⟨(), rfl⟩
  · refine AW.rgs rfl fun K hK => ?_
    refine mv rfl rfl ?_
    refine mv rfl rfl ?_
    refine b_nil (hK _ (AW.to (to_le (s' := ⟨[(2, HV.ar 80007 v1 eInt.k 0 ((a9).length))], [(80007, v1, .arr eInt.k 3 (eInt.E a9))]⟩) (AS.le_of ⟨rfl, trivial⟩ ⟨rfl, trivial⟩) ?_)))
    clear hK K
    refine AW.to (to_frz 2 [(80007, v1, .arr eInt.k 3 (eInt.E a9))] ⟨[(2, slE eInt a9)], []⟩ ⟨⟨_, rfl, frz_slE eInt (l := a9) rfl fun _ _ => rfl⟩, trivial⟩ trivial ⟨rfl, trivial⟩ ⟨rfl, trivial⟩ ?_)
    refine AW.ret ?_
    have h := Option.some.inj h
    subst h
    exact ret_pure (hs := [slE eInt a9]) (q := slE eInt a9) (.inr rfl) (resT rfl rfl) rfl (clean_slE fun _ _ => ⟨trivial, trivial⟩)
  · refine AW.rgs rfl fun K hK => ?_
    refine bv rfl (v_bin rfl rfl b_lss) ?_
    refine b_nil (hK _ (AW.to (to_le (s' := ⟨[(3, HV.ar 80007 v1 eInt.k 0 ((a3.2).length)), (9, HV.int .i64 (((List.replicate (p0.2.1).toNat (0 : Int)).length : Nat) : Int)), (10, HV.int .i64 a3.1), (11, HV.bool (decide (a3.1 < (((List.replicate (p0.2.1).toNat (0 : Int)).length : Nat) : Int))))], [(80007, v1, .arr eInt.k 3 (eInt.E a3.2))]⟩) (AS.le_of ⟨rfl, rfl, rfl, rfl, trivial⟩ ⟨rfl, trivial⟩) ?_)))
    clear hK K
    refine AW.cseq rfl (fun hc => ?_) (fun hc => ?_)
    · have hc := of_decide_eq_true hc
      have h := ifT hc h
      refine AW.skip ?_
      refine AW.seq (AW.block ?_)
      refine AW.rgs rfl fun K hK => ?_
      refine mv rfl rfl ?_
      refine mv rfl rfl ?_
      refine b_nil (hK _ (AW.to (to_le (s' := ⟨[(3, HV.ar 80007 v1 eInt.k 0 ((a3.2).length)), (4, HV.int .i64 a3.1), (9, HV.int .i64 (((List.replicate (p0.2.1).toNat (0 : Int)).length : Nat) : Int)), (10, HV.int .i64 a3.1)], [(80007, v1, .arr eInt.k 3 (eInt.E a3.2))]⟩) (AS.le_of ⟨rfl, rfl, rfl, rfl, trivial⟩ ⟨rfl, trivial⟩) ?_)))
      clear hK K
      refine AW.rg rfl fun K hK => ?_
      refine mv rfl rfl ?_
      refine mv rfl rfl ?_
      refine mv rfl rfl ?_
      obtain ⟨x7, h8, h⟩ := bS h
      refine bv rfl (v_idxA ty42 es42 rfl rfl (idx_lt h8) rfl) ?_
      refine b_op rfl (o_storeE eInt (l := a3.2) (j := a3.1) (v := a3.1) rfl rfl rfl ty3 rfl rfl rfl (idx_lt h8) ?_)
      refine b_nil (hK _ (AW.to (to_le (s' := ⟨[(3, HV.ar 80007 v1 eInt.k 0 (((a3.2).set (a3.1).toNat a3.1).length)), (9, HV.int .i64 (((List.replicate (p0.2.1).toNat (0 : Int)).length : Nat) : Int)), (10, HV.int .i64 a3.1)], [(80007, v1, .arr eInt.k 3 (eInt.E ((a3.2).set (a3.1).toNat a3.1)))]⟩) (AS.le_of ⟨arl (by first | rfl | simp only [List.length_set, sortI_len, sortS_len]), rfl, rfl, trivial⟩ ⟨rfl, trivial⟩) ?_)))
      clear hK K
      refine AW.rg rfl fun K hK => ?_
      refine bv rfl (v_bin rfl rfl b_add) ?_
      refine mv rfl rfl ?_
      refine b_nil (hK _ ?_)
      clear hK K
      exact to_le (s' := ⟨[(3, HV.ar 80007 v1 eInt.k 0 (((a3.2).set (a3.1).toNat a3.1).length)), (9, HV.int .i64 (((List.replicate (p0.2.1).toNat (0 : Int)).length : Nat) : Int)), (10, HV.int .i64 (IntKind.wrap .i64 (a3.1 + 1)))], [(80007, v1, .arr eInt.k 3 (eInt.E ((a3.2).set (a3.1).toNat a3.1)))]⟩) (AS.le_of ⟨rfl, rfl, rfl, trivial⟩ ⟨rfl, trivial⟩) ⟨(IntKind.wrap .i64 (a3.1 + 1), (a3.2).set (a3.1).toNat a3.1), (), h, rfl⟩
    · have hc := of_decide_eq_false hc
      have h := ifF hc h
      refine AW.exit ?_
      exact to_le (s' := ⟨[(3, HV.ar 80007 v1 eInt.k 0 ((a3.2).length))], [(80007, v1, .arr eInt.k 3 (eInt.E a3.2))]⟩) (AS.le_of ⟨rfl, trivial⟩ ⟨rfl, trivial⟩) ⟨a3.2, (), h, rfl⟩

set_option maxHeartbeats 1600000 in
set_option maxRecDepth 100000 in
theorem w_language_check {p0 : TLabelsStatesEdges} {r : Int} (h : m_language_check p0 = some r) : Pure Try.prog 124 [HV.agg [HV.int .i64 p0.1, HV.int .i64 p0.2.1, slE eFromLabelTo p0.2.2]] (· = HV.int .i64 r) := by
  unfold m_language_check at h
  refine Pure.of_body Try.func124 rfl rfl (Nat.le_of_ble_eq_true rfl) fun hf => ?_
  unfold Try.f124
  dsimp only [enumS, Nat.reduceAdd]
  refine AW.rgs rfl fun K hK => ?_
  refine b_op rfl (o_box rfl rfl rfl ?_)
  refine mv rfl rfl ?_
  refine b_nil (hK _ (AW.to (to_le (s' := ⟨[(1, HV.fptr [HV.int .i64 p0.1, HV.int .i64 p0.2.1, slE eFromLabelTo p0.2.2] 0)], []⟩) (AS.le_of ⟨rfl, trivial⟩ trivial) ?_)))
  clear hK K
  refine AW.seq (AW.block ?_)
  refine AW.rgs rfl fun K hK => ?_
  refine bv rfl (v_loadF ty24 rfl (l_litA rfl (Nat.le_of_ble_eq_true rfl) rfl)) ?_
  obtain ⟨x1, h2, h⟩ := bS h
  refine b_op rfl (o_call rfl rfl rfl rfl (ACallD.pure0 (w_graph_Check h2)) ?_)
  refine bv rfl (v_bin rfl rfl b_neq) ?_
  refine mv rfl rfl ?_
  refine b_nil (hK _ (AW.to (to_le (s' := ⟨[(1, HV.fptr [HV.int .i64 p0.1, HV.int .i64 p0.2.1, slE eFromLabelTo p0.2.2] 0), (3, HV.bool (decide (x1 ≠ 0)))], []⟩) (AS.le_of ⟨rfl, rfl, trivial⟩ trivial) ?_)))
  clear hK K
  refine AW.cond rfl (fun hc => ?_) (fun hc => ?_)
  · have hc := of_decide_eq_true hc
    have h := ifT hc h
    refine AW.rgs rfl fun K hK => ?_
    refine mv rfl rfl ?_
    refine b_nil (hK _ (AW.to (to_le (s' := ⟨[(2, HV.int .i64 1)], []⟩) (AS.le_of ⟨rfl, trivial⟩ trivial) ?_)))
    clear hK K
    refine AW.ret ?_
    have h := Option.some.inj h
    subst h
    exact ret_pure (hs := [HV.int .i64 1]) (q := HV.int .i64 1) (.inr rfl) (resT rfl rfl) rfl trivial
  · have hc := of_decide_eq_false hc
    have h := ifF hc h
    refine AW.rgs rfl fun K hK => ?_
    refine bv rfl (v_fieldAddrF fo24_0 rfl) ?_
    refine bv rfl (v_loadF ty3 rfl (l_lit rfl rfl)) ?_
    refine bv rfl (v_bin rfl rfl b_gtr) ?_
    refine mv rfl rfl ?_
    refine b_nil (hK _ (AW.to (to_le (s' := ⟨[(7, HV.bool (decide (16 < p0.1)))], []⟩) (AS.le_of ⟨rfl, trivial⟩ trivial) ?_)))
    clear hK K
    refine AW.cond rfl (fun hc => ?_) (fun hc => ?_)
    · have hc := of_decide_eq_true hc
      have h := ifT hc h
      refine AW.rgs rfl fun K hK => ?_
      refine mv rfl rfl ?_
      refine b_nil (hK _ (AW.to (to_le (s' := ⟨[(2, HV.int .i64 12)], []⟩) (AS.le_of ⟨rfl, trivial⟩ trivial) ?_)))
      clear hK K
      refine AW.ret ?_
      have h := Option.some.inj h
      subst h
      exact ret_pure (hs := [HV.int .i64 12]) (q := HV.int .i64 12) (.inr rfl) (resT rfl rfl) rfl trivial
    · have hc := of_decide_eq_false hc
      have h := ifF hc h
      refine AW.skip ?_
      refine AW.rgs rfl fun K hK => ?_
      refine mv rfl rfl ?_
      refine b_nil (hK _ (AW.to (to_le (s' := ⟨[(2, HV.int .i64 0)], []⟩) (AS.le_of ⟨rfl, trivial⟩ trivial) ?_)))
      clear hK K
      refine AW.ret ?_
      have h := Option.some.inj h
      subst h
      exact ret_pure (hs := [HV.int .i64 0]) (q := HV.int .i64 0) (.inr rfl) (resT rfl rfl) rfl trivial

set_option maxHeartbeats 1600000 in
set_option maxRecDepth 100000 in
theorem w_language_lengths {p0 : TLabelsStatesEdges} {p1 : Int} {r : Int} (h : m_language_lengths p0 p1 = some r) : Pure Try.prog 78 [HV.agg [HV.int .i64 p0.1, HV.int .i64 p0.2.1, slE eFromLabelTo p0.2.2], HV.int .i64 p1] (· = HV.int .i64 r) := by
  unfold m_language_lengths at h
  refine Pure.of_body Try.func78 rfl rfl (Nat.le_of_ble_eq_true rfl) fun hf => ?_
  unfold Try.f78
  dsimp only [enumS, Nat.reduceAdd]
  refine AW.rgs rfl fun K hK => ?_
  refine b_op rfl (o_box rfl rfl rfl ?_)
  refine mv rfl rfl ?_
  refine b_nil (hK _ (AW.to (to_le (s' := ⟨[(1, HV.int .i64 p1), (2, HV.fptr [HV.int .i64 p0.1, HV.int .i64 p0.2.1, slE eFromLabelTo p0.2.2] 0)], []⟩) (AS.le_of ⟨rfl, rfl, trivial⟩ trivial) ?_)))
  clear hK K
  refine AW.seq ?_
  refine AW.rgs rfl fun K hK => ?_
  refine bv rfl (v_loadF ty24 rfl (l_litA rfl (Nat.le_of_ble_eq_true rfl) rfl)) ?_
  obtain ⟨x1, h2, h⟩ := bS h
  refine b_op rfl (o_call rfl rfl rfl rfl (ACallD.pure0 (w_language_check h2)) ?_)
  refine mv rfl rfl ?_
  refine b_nil (hK _ (AW.to (to_le (s' := ⟨[(1, HV.int .i64 p1), (5, HV.int .i64 x1)], []⟩) (AS.le_of ⟨rfl, rfl, trivial⟩ trivial) ?_)))
  clear hK K
  refine AW.rgs rfl fun K hK => ?_
  refine mv rfl rfl ?_
  refine bv rfl (v_bin rfl rfl b_neq) ?_
  refine b_nil (hK _ (AW.to (to_le (s' := ⟨[(1, HV.int .i64 p1), (5, HV.int .i64 x1), (9, HV.bool (decide (x1 ≠ 0)))], []⟩) (AS.le_of ⟨rfl, rfl, rfl, trivial⟩ trivial) ?_)))
  clear hK K
  refine AW.cond rfl (fun hc => ?_) (fun hc => ?_)
  · have hc := of_decide_eq_true hc
    have h := ifT hc h
    refine AW.rgs rfl fun K hK => ?_
    refine mv rfl rfl ?_
    refine mv rfl rfl ?_
    refine b_nil (hK _ (AW.to (to_le (s' := ⟨[(4, HV.int .i64 x1)], []⟩) (AS.le_of ⟨rfl, trivial⟩ trivial) ?_)))
    clear hK K
    refine AW.ret ?_
    have h := Option.some.inj h
    subst h
    exact ret_pure (hs := [HV.int .i64 x1]) (q := HV.int .i64 x1) (.inr rfl) (resT rfl rfl) rfl trivial
  · have hc := of_decide_eq_false hc
    have h := ifF hc h
    refine AW.skip ?_
    refine AW.seq ?_
    refine AW.seqJ h (S := Bool) (V := Unit) (fun a v => ⟨[(16, HV.bool a)], []⟩) (fun a3 w4 h => ?_) (fun k5 h => ?_)
    · refine AW.cond rfl (fun hc => ?_) (fun hc => ?_)
      · have h := ifT hc h
        refine AW.rgs rfl fun K hK => ?_
        refine mv rfl rfl ?_
        refine b_nil (hK _ (AW.to (to_le (s' := ⟨[(4, HV.int .i64 2)], []⟩) (AS.le_of ⟨rfl, trivial⟩ trivial) ?_)))
        clear hK K
        refine AW.ret ?_
        have h := Option.some.inj h
        subst h
        exact ret_pure (hs := [HV.int .i64 2]) (q := HV.int .i64 2) (.inr rfl) (resT rfl rfl) rfl trivial
      · have h := ifF (bF' hc) h
        refine AW.skip ?_
        refine AW.rgs rfl fun K hK => ?_
        refine mv rfl rfl ?_
        refine b_nil (hK _ (AW.to (to_le (s' := ⟨[(4, HV.int .i64 0)], []⟩) (AS.le_of ⟨rfl, trivial⟩ trivial) ?_)))
        clear hK K
        refine AW.ret ?_
        have h := Option.some.inj h
        subst h
        exact ret_pure (hs := [HV.int .i64 0]) (q := HV.int .i64 0) (.inr rfl) (resT rfl rfl) rfl trivial
    · refine AW.rg rfl fun K hK => ?_
      refine mv rfl rfl ?_
      refine bv rfl (v_bin rfl rfl b_lss) ?_
      refine mv rfl rfl ?_
      by_cases hg6 : p1 < 0
      · have h := ifT hg6 h
        refine b_F rfl rfl rfl rfl rfl (decide_eq_true hg6) ?_
        refine b_F rfl rfl rfl rfl rfl rfl ?_
        refine bv rfl (v_pickT rfl rfl rfl) ?_
        refine b_nil (hK _ ?_)
        clear hK K
        exact to_le (s' := ⟨[(16, HV.bool true)], []⟩) (AS.le_of ⟨rfl, trivial⟩ trivial) ⟨true, (), h, rfl⟩
      · have h := ifF hg6 h
        refine b_T rfl rfl rfl rfl (decide_eq_false hg6) (o_val rfl (mv_val rfl rfl).2 ?_)
        refine b_T rfl rfl rfl rfl rfl (o_val rfl (v_bin rfl rfl b_gtr) ?_)
        refine bv rfl (v_pickF rfl rfl rfl) ?_
        refine b_nil (hK _ ?_)
        clear hK K
        exact to_le (s' := ⟨[(16, HV.bool (decide (4096 < p1)))], []⟩) (AS.le_of ⟨rfl, trivial⟩ trivial) ⟨decide (4096 < p1), (), h, rfl⟩

set_option maxHeartbeats 1600000 in
set_option maxRecDepth 100000 in
theorem w_word_known {p0 : Int} {r : Bool} (h : m_word_known p0 = some r) : Pure Try.prog 94 [HV.int .i64 p0] (· = HV.bool r) := by
  unfold m_word_known at h
  refine Pure.of_body Try.func94 rfl rfl (Nat.le_of_ble_eq_true rfl) fun hf => ?_
  unfold Try.f94
  dsimp only [enumS, Nat.reduceAdd]
  refine AW.rgs rfl fun K hK => ?_
  refine mv rfl rfl ?_
  refine b_nil (hK _ (AW.to (to_le (s' := ⟨[(0, HV.int .i64 p0)], []⟩) (AS.le_of ⟨rfl, trivial⟩ trivial) ?_)))
  clear hK K
  refine AW.seqJ h (S := Bool) (V := Unit) (fun a v => ⟨[(2, HV.bool a)], []⟩) (fun a1 w2 h => ?_) (fun k3 h => ?_)
  · refine AW.ret ?_
    have h := Option.some.inj h
    subst h
    exact ret_pure (hs := [HV.bool a1]) (q := HV.bool a1) (.inr rfl) (resT rfl rfl) rfl trivial
  · refine AW.rg rfl fun K hK => ?_
    refine mv rfl rfl ?_
    refine bv rfl (v_bin rfl rfl b_geq) ?_
    refine mv rfl rfl ?_
    by_cases hg4 : 1 ≤ p0
    · have h := ifT hg4 h
      refine b_T rfl rfl rfl rfl (decide_eq_true hg4) (o_val rfl (mv_val rfl rfl).2 ?_)
      refine b_T rfl rfl rfl rfl rfl (o_val rfl (v_bin rfl rfl b_leq) ?_)
      refine bv rfl (v_pickT rfl rfl rfl) ?_
      refine mv rfl rfl ?_
      refine b_nil (hK _ ?_)
      clear hK K
      exact to_le (s' := ⟨[(2, HV.bool (decide (p0 ≤ 16)))], []⟩) (AS.le_of ⟨rfl, trivial⟩ trivial) ⟨decide (p0 ≤ 16), (), h, rfl⟩
    · have h := ifF hg4 h
      refine b_F rfl rfl rfl rfl rfl (decide_eq_false hg4) ?_
      refine b_F rfl rfl rfl rfl rfl rfl ?_
      refine bv rfl (v_pickF rfl rfl rfl) ?_
      refine mv rfl rfl ?_
      refine b_nil (hK _ ?_)
      clear hK K
      exact to_le (s' := ⟨[(2, HV.bool false)], []⟩) (AS.le_of ⟨rfl, trivial⟩ trivial) ⟨false, (), h, rfl⟩

set_option maxHeartbeats 1600000 in
set_option maxRecDepth 100000 in
theorem w_word_Check {p0 : Int} {p1 : List UInt8} {r : Int} (h : m_word_Check p0 p1 = some r) : Pure Try.prog 47 [HV.int .i64 p0, HV.str p1] (· = HV.int .i64 r) := by
  unfold m_word_Check at h
  refine Pure.of_body Try.func47 rfl rfl (Nat.le_of_ble_eq_true rfl) fun hf => ?_
  unfold Try.f47
  dsimp only [enumS, Nat.reduceAdd]
  refine AW.rgs rfl fun K hK => ?_
  refine mv rfl rfl ?_
  refine b_nil (hK _ (AW.to (to_le (s' := ⟨[(0, HV.int .i64 p0), (1, HV.str p1)], []⟩) (AS.le_of ⟨rfl, rfl, trivial⟩ trivial) ?_)))
  clear hK K
  refine AW.seq (AW.block ?_)
  refine AW.rgs rfl fun K hK => ?_
  refine mv rfl rfl ?_
  obtain ⟨x1, h2, h⟩ := bS h
  refine b_op rfl (o_call rfl rfl rfl rfl (ACallD.pure0 (w_word_known h2)) ?_)
  refine bv rfl (v_not rfl) ?_
  refine mv rfl rfl ?_
  refine b_nil (hK _ (AW.to (to_le (s' := ⟨[(0, HV.int .i64 p0), (1, HV.str p1), (6, HV.bool (!x1))], []⟩) (AS.le_of ⟨rfl, rfl, rfl, trivial⟩ trivial) ?_)))
  clear hK K
  refine AW.cond rfl (fun hc => ?_) (fun hc => ?_)
  · have h := ifT hc h
    refine AW.rgs rfl fun K hK => ?_
    refine mv rfl rfl ?_
    refine b_nil (hK _ (AW.to (to_le (s' := ⟨[(4, HV.int .i64 12)], []⟩) (AS.le_of ⟨rfl, trivial⟩ trivial) ?_)))
    clear hK K
    refine AW.ret ?_
    have h := Option.some.inj h
    subst h
    exact ret_pure (hs := [HV.int .i64 12]) (q := HV.int .i64 12) (.inr rfl) (resT rfl rfl) rfl trivial
  · have h := ifF (bF' hc) h
    refine AW.rgs rfl fun K hK => ?_
    refine mv rfl rfl ?_
    refine bv rfl (v_lenS rfl rfl ty9 rfl) ?_
    refine bv rfl (v_bin rfl rfl b_gtr) ?_
    refine mv rfl rfl ?_
    refine b_nil (hK _ (AW.to (to_le (s' := ⟨[(0, HV.int .i64 p0), (1, HV.str p1), (10, HV.bool (decide (65536 < ((p1).length : Int))))], []⟩) (AS.le_of ⟨rfl, rfl, rfl, trivial⟩ trivial) ?_)))
    clear hK K
    refine AW.cond rfl (fun hc => ?_) (fun hc => ?_)
    · have hc := of_decide_eq_true hc
      have h := ifT hc h
      refine AW.rgs rfl fun K hK => ?_
      refine mv rfl rfl ?_
      refine b_nil (hK _ (AW.to (to_le (s' := ⟨[(4, HV.int .i64 4)], []⟩) (AS.le_of ⟨rfl, trivial⟩ trivial) ?_)))
      clear hK K
      refine AW.ret ?_
      have h := Option.some.inj h
      subst h
      exact ret_pure (hs := [HV.int .i64 4]) (q := HV.int .i64 4) (.inr rfl) (resT rfl rfl) rfl trivial
    · have hc := of_decide_eq_false hc
      have h := ifF hc h
      refine AW.skip ?_
      refine AW.seq ?_
      refine AW.rgs rfl fun K hK => ?_
      refine mv rfl rfl ?_
      refine bv rfl (v_lenS rfl rfl ty9 rfl) ?_
      refine mv rfl rfl ?_
      refine b_nil (hK _ (AW.to (to_le (s' := ⟨[(0, HV.int .i64 p0), (1, HV.str p1), (15, HV.int .i64 ((p1).length : Int)), (16, HV.int .i64 0)], []⟩) (AS.le_of ⟨rfl, rfl, rfl, rfl, trivial⟩ trivial) ?_)))
      clear hK K
      refine AW.lpR h (by first | exact up_then | exact up_to) (S := Int) (V := Unit) (fun a v => ⟨[(0, HV.int .i64 p0), (1, HV.str p1), (15, HV.int .i64 ((p1).length : Int)), (16, HV.int .i64 a)], []⟩) ?_ (X := Unit) (W := Unit) (fun a v => ⟨[], []⟩) (fun a12 w13 h => ?_) (fun a3 w4 st5 h hr6=> ?_)
      · exact to_le (s' := ⟨[(0, HV.int .i64 p0), (1, HV.str p1), (15, HV.int .i64 ((p1).length : Int)), (16, HV.int .i64 0)], []⟩) (AS.le_of ⟨rfl, rfl, rfl, rfl, trivial⟩ trivial) ⟨(), rfl⟩
      · refine AW.rgs rfl fun K hK => ?_
        refine mv rfl rfl ?_
        refine b_nil (hK _ (AW.to (to_le (s' := ⟨[(4, HV.int .i64 0)], []⟩) (AS.le_of ⟨rfl, trivial⟩ trivial) ?_)))
        clear hK K
        refine AW.ret ?_
        have h := Option.some.inj h
        subst h
        exact ret_pure (hs := [HV.int .i64 0]) (q := HV.int .i64 0) (.inr rfl) (resT rfl rfl) rfl trivial
      · refine AW.rgs rfl fun K hK => ?_
        refine bv rfl (v_bin rfl rfl b_lss) ?_
        refine b_nil (hK _ (AW.to (to_le (s' := ⟨[(0, HV.int .i64 p0), (1, HV.str p1), (15, HV.int .i64 ((p1).length : Int)), (16, HV.int .i64 a3), (17, HV.bool (decide (a3 < ((p1).length : Int))))], []⟩) (AS.le_of ⟨rfl, rfl, rfl, rfl, rfl, trivial⟩ trivial) ?_)))
        clear hK K
        refine AW.cseq rfl (fun hc => ?_) (fun hc => ?_)
        · have hc := of_decide_eq_true hc
          have h := ifT hc h
          refine AW.skip ?_
          refine AW.seq (AW.block ?_)
          refine AW.rgs rfl fun K hK => ?_
          refine mv rfl rfl ?_
          refine mv rfl rfl ?_
          refine b_nil (hK _ (AW.to (to_le (s' := ⟨[(0, HV.int .i64 p0), (1, HV.str p1), (5, HV.int .i64 a3), (15, HV.int .i64 ((p1).length : Int)), (16, HV.int .i64 a3)], []⟩) (AS.le_of ⟨rfl, rfl, rfl, rfl, rfl, trivial⟩ trivial) ?_)))
          clear hK K
          refine AW.dgs 7 follows rfl rfl fun K hK => ?_
          refine sm rfl rfl ?_
          obtain ⟨h7, h⟩ := ifN h
          refine sv rfl (v_sliceS ty9 rfl rfl rfl h7) ?_
          refine sm rfl rfl ?_
          refine sm rfl rfl ?_
          obtain ⟨x8, h9, h⟩ := bS h
          refine sv rfl (v_idxS ty9 rfl rfl h9) ?_
          obtain ⟨x10, h11, h⟩ := bS h
          refine s_op rfl rfl (ops_call rfl rfl rfl rfl (ACallD.pure0 (w_strings_IndexByte h11)) ?_)
          refine sv rfl (v_bin rfl rfl b_lss) ?_
          refine s_nil ?_
          refine b_nil (hK _ (AW.to (to_le (s' := ⟨[(0, HV.int .i64 p0), (1, HV.str p1), (15, HV.int .i64 ((p1).length : Int)), (16, HV.int .i64 a3), (25, HV.bool (decide (x10 < 0)))], []⟩) (AS.le_of ⟨rfl, rfl, rfl, rfl, rfl, trivial⟩ trivial) ?_)))
          clear hK K
          refine AW.cond rfl (fun hc => ?_) (fun hc => ?_)
          · have hc := of_decide_eq_true hc
            have h := ifT hc h
            refine AW.rgs rfl fun K hK => ?_
            refine mv rfl rfl ?_
            refine b_nil (hK _ (AW.to (to_le (s' := ⟨[(4, HV.int .i64 13)], []⟩) (AS.le_of ⟨rfl, trivial⟩ trivial) ?_)))
            clear hK K
            have h := hr6 _ h
            refine AW.ret ?_
            have h := Option.some.inj h
            subst h
            exact ret_pure (hs := [HV.int .i64 13]) (q := HV.int .i64 13) (.inr rfl) (resT rfl rfl) rfl trivial
          · have hc := of_decide_eq_false hc
            have h := ifF hc h
            refine AW.skip ?_
            refine AW.rg rfl fun K hK => ?_
            refine bv rfl (v_bin rfl rfl b_add) ?_
            refine mv rfl rfl ?_
            refine b_nil (hK _ ?_)
            clear hK K
            exact to_le (s' := ⟨[(0, HV.int .i64 p0), (1, HV.str p1), (15, HV.int .i64 ((p1).length : Int)), (16, HV.int .i64 (IntKind.wrap .i64 (a3 + 1)))], []⟩) (AS.le_of ⟨rfl, rfl, rfl, rfl, trivial⟩ trivial) ⟨IntKind.wrap .i64 (a3 + 1), (), h, rfl⟩
        · have hc := of_decide_eq_false hc
          have h := ifF hc h
          refine AW.exit ?_
          exact to_le (s' := ⟨[], []⟩) (AS.le_of trivial trivial) ⟨(), (), h, rfl⟩

set_option maxHeartbeats 1600000 in
set_option maxRecDepth 100000 in
theorem w_language_spells {p0 : TLabelsStatesEdges} {p1 : List UInt8} {r : Int} (h : m_language_spells p0 p1 = some r) : Pure Try.prog 95 [HV.agg [HV.int .i64 p0.1, HV.int .i64 p0.2.1, slE eFromLabelTo p0.2.2], HV.str p1] (· = HV.int .i64 r) := by
  unfold m_language_spells at h
  refine Pure.of_body Try.func95 rfl rfl (Nat.le_of_ble_eq_true rfl) fun hf => ?_
  unfold Try.f95
  dsimp only [enumS, Nat.reduceAdd]
  refine AW.rgs rfl fun K hK => ?_
  refine b_op rfl (o_box rfl rfl rfl ?_)
  refine mv rfl rfl ?_
  refine b_nil (hK _ (AW.to (to_le (s' := ⟨[(1, HV.str p1), (2, HV.fptr [HV.int .i64 p0.1, HV.int .i64 p0.2.1, slE eFromLabelTo p0.2.2] 0)], []⟩) (AS.le_of ⟨rfl, rfl, trivial⟩ trivial) ?_)))
  clear hK K
  refine AW.seq ?_
  refine AW.rgs rfl fun K hK => ?_
  refine bv rfl (v_loadF ty24 rfl (l_litA rfl (Nat.le_of_ble_eq_true rfl) rfl)) ?_
  obtain ⟨x1, h2, h⟩ := bS h
  refine b_op rfl (o_call rfl rfl rfl rfl (ACallD.pure0 (w_language_check h2)) ?_)
  refine mv rfl rfl ?_
  refine b_nil (hK _ (AW.to (to_le (s' := ⟨[(1, HV.str p1), (2, HV.fptr [HV.int .i64 p0.1, HV.int .i64 p0.2.1, slE eFromLabelTo p0.2.2] 0), (5, HV.int .i64 x1)], []⟩) (AS.le_of ⟨rfl, rfl, rfl, trivial⟩ trivial) ?_)))
  clear hK K
  refine AW.rgs rfl fun K hK => ?_
  refine mv rfl rfl ?_
  refine bv rfl (v_bin rfl rfl b_neq) ?_
  refine b_nil (hK _ (AW.to (to_le (s' := ⟨[(1, HV.str p1), (2, HV.fptr [HV.int .i64 p0.1, HV.int .i64 p0.2.1, slE eFromLabelTo p0.2.2] 0), (5, HV.int .i64 x1), (9, HV.bool (decide (x1 ≠ 0)))], []⟩) (AS.le_of ⟨rfl, rfl, rfl, rfl, trivial⟩ trivial) ?_)))
  clear hK K
  refine AW.cond rfl (fun hc => ?_) (fun hc => ?_)
  · have hc := of_decide_eq_true hc
    have h := ifT hc h
    refine AW.rgs rfl fun K hK => ?_
    refine mv rfl rfl ?_
    refine mv rfl rfl ?_
    refine b_nil (hK _ (AW.to (to_le (s' := ⟨[(4, HV.int .i64 x1)], []⟩) (AS.le_of ⟨rfl, trivial⟩ trivial) ?_)))
    clear hK K
    refine AW.ret ?_
    have h := Option.some.inj h
    subst h
    exact ret_pure (hs := [HV.int .i64 x1]) (q := HV.int .i64 x1) (.inr rfl) (resT rfl rfl) rfl trivial
  · have hc := of_decide_eq_false hc
    have h := ifF hc h
    refine AW.skip ?_
    refine AW.rgs rfl fun K hK => ?_
    refine bv rfl (v_fieldAddrF fo24_0 rfl) ?_
    refine bv rfl (v_loadF ty3 rfl (l_lit rfl rfl)) ?_
    refine mv rfl rfl ?_
    obtain ⟨x3, h4, h⟩ := bS h
    refine b_op rfl (o_call rfl rfl rfl rfl (ACallD.pure0 (w_word_Check h4)) ?_)
    refine mv rfl rfl ?_
    refine b_nil (hK _ (AW.to (to_le (s' := ⟨[(4, HV.int .i64 x3)], []⟩) (AS.le_of ⟨rfl, trivial⟩ trivial) ?_)))
    clear hK K
    refine AW.ret ?_
    have h := Option.some.inj h
    subst h
    exact ret_pure (hs := [HV.int .i64 x3]) (q := HV.int .i64 x3) (.inr rfl) (resT rfl rfl) rfl trivial

end Go.AW



/- language.list and what is made of its maps, as contracts. -/
namespace Go.AW
open Go Go.Proofs
set_option linter.unusedVariables false

theorem list_steps {g : TLabelsStatesEdges} {set : List Int} (h : StepsOk g set) : ∃ A : List Int → Prop, A set ∧ (∀ a c, A a → c ∈ letters.take g.1.toNat → A (stpM g a c)) ∧
    ∀ a c, A a → c ∈ letters.take g.1.toNat → Pure Try.prog 125 [HV.agg [HV.int .i64 g.1, HV.int .i64 g.2.1, slE eFromLabelTo g.2.2], ints a, .int .u8 c.toNat] (· = ints (stpM g a c)) := by
  obtain ⟨A, h0, hs⟩ := h
  refine ⟨A, h0, fun a c ha hc => ?_, fun a c ha hc => ?_⟩
  · obtain ⟨b, hb, hA⟩ := hs a c ha hc
    simp only [stpM, hb, Option.getD_some]
    exact hA
  · obtain ⟨b, hb, hA⟩ := hs a c ha hc
    simp only [stpM, hb, Option.getD_some]
    exact w_language_step hb

theorem c_listT {g : TLabelsStatesEdges} {set : List Int} {n : Int} {x : List WS × Bool} (h : m_language_list g set n = some x) (hx : x.2 = true) {K : HV → Heap → Prop}
    (hK : ∀ id ver es, es.Perm (x.1.map ent) ∧ (x.1.map (·.1)).Nodup ∧ x.1.length ≤ 1099511627776 → K (.tup [.mp id ver, .bool true]) [(id, ver, .map es)]) : ACall Try.prog 79 [HV.agg [HV.int .i64 g.1, HV.int .i64 g.2.1, slE eFromLabelTo g.2.2], slE eInt set, .int .i64 n] [] K := by
  unfold m_language_list at h
  split at h
  · rename_i hc
    obtain ⟨h1, h2, h3, h4⟩ := hc
    cases h
    split at hx
    · rename_i hok
      rw [if_pos hok] at hK
      obtain ⟨A, hA0, hA, hstep⟩ := list_steps h4
      obtain ⟨gl, gs, ge⟩ := g
      try dsimp only at h1
      try dsimp only at h2
      try dsimp only at hA
      try dsimp only at hstep
      try dsimp only at hok
      try dsimp only
      try dsimp only at hK
      obtain ⟨L, rfl⟩ := Int.eq_ofNat_of_zero_le h1
      obtain ⟨m, rfl⟩ := Int.eq_ofNat_of_zero_le h3
      simp only [Int.toNat_natCast] at hok hK hA hstep
      refine (w79 (L := L) (n := m) (gS := HV.int .i64 gs) (gE := slE eFromLabelTo ge) (by omega) rfl rfl hA0 hA hstep).mono ?_
      rintro r H' (⟨hok', id, ver, es, rfl, rfl, hes⟩ | ⟨j, j1, j2, j3, rfl, rfl⟩)
      · refine hK id ver es ⟨hes, lvl_keys (letters_nodup.sublist (List.take_sublist _ _)) m, ?_⟩
        cases m with
        | zero => simp only [lvl]; split <;> simp
        | succ m => have := hok' (m + 1) (by omega) (Nat.le_refl _); omega
      · have := okLvl_iff.1 hok j j1 j2
        omega
    · cases hx
  · cases h

theorem c_listF {g : TLabelsStatesEdges} {set : List Int} {n : Int} {x : List WS × Bool} (h : m_language_list g set n = some x) (hx : ¬ x.2 = true) {K : HV → Heap → Prop}
    (hK : K (.tup [.v (.map none), .bool false]) []) : ACall Try.prog 79 [HV.agg [HV.int .i64 g.1, HV.int .i64 g.2.1, slE eFromLabelTo g.2.2], slE eInt set, .int .i64 n] [] K := by
  unfold m_language_list at h
  split at h
  · rename_i hc
    obtain ⟨h1, h2, h3, h4⟩ := hc
    cases h
    split at hx
    · exact absurd rfl hx
    · rename_i hok
      obtain ⟨A, hA0, hA, hstep⟩ := list_steps h4
      obtain ⟨gl, gs, ge⟩ := g
      try dsimp only at h1
      try dsimp only at h2
      try dsimp only at hA
      try dsimp only at hstep
      try dsimp only at hok
      try dsimp only
      obtain ⟨L, rfl⟩ := Int.eq_ofNat_of_zero_le h1
      obtain ⟨m, rfl⟩ := Int.eq_ofNat_of_zero_le h3
      simp only [Int.toNat_natCast] at hok hA hstep
      refine (w79 (L := L) (n := m) (gS := HV.int .i64 gs) (gE := slE eFromLabelTo ge) (by omega) rfl rfl hA0 hA hstep).mono ?_
      rintro r H' (⟨hok', id, ver, es, rfl, rfl, hes⟩ | ⟨j, j1, j2, j3, rfl, rfl⟩)
      · exact absurd (okLvl_iff.2 hok') hok
      · exact hK
  · cases h

/-- slices.Sorted(maps.Keys(m)) -/
theorem c_sortedKeys {id ver : Nat} {es : List (List UInt8 × HV)} {l : List WS} (hes : es.Perm (l.map ent) ∧ (l.map (·.1)).Nodup ∧ l.length ≤ 1099511627776) {K : HV → Heap → Prop} (hK : K (slE eStr (sortS (l.map (·.1)))) []) :
    ACall Try.prog 81 [.fn (.func 127) [] [.fptr [.mp id ver] 0]] [(id, ver, .map es)] K := by
  obtain ⟨hp, hn, hb⟩ := hes
  have hlen : es.length = l.length := by rw [hp.length_eq, List.length_map]
  have hsk : sortS (es.map (·.1)) = sortS (l.map (·.1)) := by
    refine sortS_perm ?_
    have := hp.map (·.1)
    rw [List.map_map] at this
    exact this
  refine (w81 (f := id + 1) (perm_keys hp hn) (by omega) (by omega) (by omega) (by omega) (by omega)).conv' ?_
  rintro r H' (⟨he, rfl, rfl⟩ | ⟨id', av, hen, rfl, rfl⟩)
  · have hl : l = [] := List.eq_nil_of_length_eq_zero (by rw [← hlen, he]; rfl)
    subst hl
    have e0 : sortS (([] : List WS).map (·.1)) = [] := List.eq_nil_of_length_eq_zero (by rw [sortS_len]; rfl)
    rw [e0] at hK
    exact ⟨slE eStr [], [], Conv.le (.nil 1), hK⟩
  · refine ⟨_, [], Conv.all 2, ?_⟩
    have e : es.length = (sortS (es.map (·.1))).length := by rw [sortS_len, List.length_map]
    rw [e]
    have hf := frz_slE eStr (D := [(id', av, .arr 1 9 ((sortS (es.map (·.1))).map .str))]) (l := sortS (es.map (·.1))) hget_0 (fun _ _ => rfl)
    have hk2 := hK
    rw [← hsk, ← hf] at hk2
    exact hk2
end Go.AW

namespace Go.Proofs
open Go
def Try.mul_ren : Go.Shelf.Ren := ⟨fun | 212 => 142 | 263 => 168 | 264 => 169 | n => n, fun | 46 => 121 | 51 => 149 | 146 => 201 | 53 => 147 | 148 => 203 | n => n, fun | n => n⟩
theorem Try.mul : Go.Proofs.Lays.n212 Try.prog Try.mul_ren where
  mixed := by kernel_rfl
  f212 := Try.func142.trans (congrArg some (by kernel_rfl))
  f263 := Try.func168.trans (congrArg some (by kernel_rfl))
  f264 := Try.func169.trans (congrArg some (by kernel_rfl))
  t46 := Try.underlying121
  a46 := Try.isAgg121
  z46 := Try.sizeOf121
  v46 := Try.zeroValue121
  t51 := Try.underlying149
  a51 := Try.isAgg149
  z51 := Try.sizeOf149
  v51 := Try.zeroValue149
  t53 := Try.underlying147
  a53 := Try.isAgg147
  z53 := Try.sizeOf147
  v53 := Try.zeroValue147
  t146 := Try.underlying201
  a146 := Try.isAgg201
  z146 := Try.sizeOf201
  v146 := Try.zeroValue201
  t148 := Try.underlying203
  a148 := Try.isAgg203
  z148 := Try.sizeOf203
  v148 := Try.zeroValue203
end Go.Proofs

/- slices.Repeat of one truth value; math/bits.Mul by the kit's contract. -/
namespace Go.AW
open Go Go.Proofs

def u64 (n : Nat) : HV := .int .u64 n
theorem mul1 (n : Nat) (hn : n ≤ 1000000) : Fresh Try.prog 142 [u64 1, u64 n] (.tup [u64 0, u64 n]) := by
  refine Pure.fresh ⟨enters' Try.func142 rfl rfl, fun μ w vs hs hr => ?_⟩ ⟨trivial, trivial, trivial⟩ rfl
  obtain ⟨x, xs, rfl, ⟨rfl, _⟩, y, ys, rfl, ⟨rfl, _⟩, hn'⟩ := hr
  cases hn'
  refine (Any.bits_Mul Try.mul 1 n (by omega) (by omega) w).mono ?_
  rintro e w' ⟨rfl, rfl⟩
  have e1 : 1 * n / 18446744073709551616 = 0 := by omega
  have e2 : 1 * n % 18446744073709551616 = n := by omega
  refine ⟨_, .tup [u64 0, u64 n], [], μ, by rw [e1, e2], ⟨rfl, ⟨trivial, trivial, trivial⟩, rfl⟩, hs, ⟨_, rfl, _, _, rfl, ⟨rfl, by decide⟩, _, _, rfl, ⟨rfl, ?_⟩, rfl⟩, Evo.refl _ _⟩
  simp only [Lit.wf, IntKind.min, IntKind.max, IntKind.signed, IntKind.bits, Bool.and_eq_true, decide_eq_true_eq]
  simp
  omega


theorem mul1' (n : Nat) (hn : n ≤ 1000000) : Pure Try.prog 142 [HV.int .u64 (IntKind.wrap .u64 ((([true] : List Bool).length : Int))), HV.int .u64 (IntKind.wrap .u64 (n : Int))] (· = .tup [HV.int .u64 0, HV.int .u64 n]) := by
  have e : IntKind.wrap .u64 (n : Int) = (n : Int) := by simp only [IntKind.wrap_u64]; omega
  rw [e]
  exact (mul1 n hn).pure

/-- the array at the beginning, and behind a round -/
theorem rep_first (n : Nat) : ((List.replicate n false).map HV.bool).take 0 ++ ([HV.bool true]).take (min 1 n * 1) ++ ((List.replicate n false).map HV.bool).drop (0 + min 1 n * 1) = (List.replicate (min 1 n) true ++ List.replicate (n - min 1 n) false).map HV.bool := by
  cases n with
  | zero => rfl
  | succ n =>
    have e : min 1 (n + 1) = 1 := by omega
    simp [e]
theorem rep_half {n m : Nat} {xs : List HV} (hx : xs = (List.replicate m true ++ List.replicate (n - m) false).map HV.bool) (h : m ≤ n) : xs.take (0 + m * 1) ++ ((xs.drop (0 + 0 * 1)).take ((m - 0) * 1)).take (min (m - 0) (n - m) * 1) ++ xs.drop (0 + m * 1 + min (m - 0) (n - m) * 1)
    = (List.replicate (m + min m (n - m)) true ++ List.replicate (n - (m + min m (n - m))) false).map HV.bool := by
  subst hx
  simp only [Nat.mul_one, Nat.zero_mul, Nat.zero_add, List.drop_zero, List.map_append, List.map_replicate, Nat.sub_zero]
  rw [List.take_left' (by simp), List.take_replicate, Nat.min_eq_left (Nat.min_le_left _ _), ← List.drop_drop, List.drop_left' (by simp), List.drop_replicate, List.replicate_append_replicate]
  congr 2
  omega

set_option maxRecDepth 100000 in
set_option maxHeartbeats 1000000 in
theorem rep_n {n : Nat} (hn : n ≤ 1000000) : Pure Try.prog 98 [slE eBool [true], HV.int .i64 (n : Int)] (· = slE eBool (List.replicate n true)) := by
  refine Pure.of_body Try.func98 rfl rfl (Nat.le_of_ble_eq_true rfl) fun hf => ?_
  unfold Try.f98
  dsimp only [enumS, Nat.reduceAdd]
  refine AW.rgs rfl fun K hK => ?_
  refine mv rfl rfl ?_
  refine b_nil (hK _ (AW.to (to_le (s' := ⟨[(0, slE eBool [true]), (1, HV.int .i64 (n : Int))], []⟩) (AS.le_of ⟨rfl, rfl, trivial⟩ trivial) ?_)))
  clear hK K
  refine AW.seq ?_
  refine AW.rgs rfl fun K hK => ?_
  refine mv rfl rfl ?_
  refine bv rfl (v_bin rfl rfl b_lss) ?_
  refine b_nil (hK _ (AW.to (to_le (s' := ⟨[(0, slE eBool [true]), (1, HV.int .i64 (n : Int)), (10, HV.bool (decide ((n : Int) < 0)))], []⟩) (AS.le_of ⟨rfl, rfl, rfl, trivial⟩ trivial) ?_)))
  clear hK K
  refine AW.cond rfl (fun hc => ?_) (fun hc => ?_)
  · have := of_decide_eq_true hc
    omega
  · clear hc
    refine AW.skip ?_
    refine AW.rgs rfl fun K hK => ?_
    refine mv rfl rfl ?_
    refine bv rfl (v_lenF rfl rfl ty127 rfl) ?_
    refine bv rfl (v_convI ty3 ty121 rfl) ?_
    refine mv rfl rfl ?_
    refine bv rfl (v_convI ty3 ty121 rfl) ?_
    refine b_op rfl (o_call rfl rfl rfl rfl (ACallD.pure0 (mul1' n hn)) ?_)
    refine mv rfl rfl ?_
    refine bv rfl (v_extract rfl rfl) ?_
    refine bv rfl (v_extract rfl rfl) ?_
    refine mv rfl rfl ?_
    refine mv rfl rfl ?_
    refine b_nil (hK _ (AW.to (to_le (s' := ⟨[(0, slE eBool [true]), (5, HV.int .u64 0), (6, HV.int .u64 (n : Int))], []⟩) (AS.le_of ⟨rfl, rfl, rfl, trivial⟩ trivial) ?_)))
    clear hK K
    refine AW.seq ?_
    refine AW.rgs rfl fun K hK => ?_
    refine mv rfl rfl ?_
    refine bv rfl (v_bin rfl rfl b_gtr) ?_
    refine mv rfl rfl ?_
    refine b_T rfl rfl rfl rfl (decide_eq_false (by decide)) (o_val rfl (mv_val rfl rfl).2 ?_)
    refine b_T rfl rfl rfl rfl rfl (o_val rfl (v_bin rfl rfl b_gtr) ?_)
    refine bv rfl (v_pickF rfl rfl rfl) ?_
    refine b_nil (hK _ (AW.to (to_le (s' := ⟨[(0, slE eBool [true]), (6, HV.int .u64 (n : Int)), (26, HV.bool (decide ((9223372036854775807 : Int) < (n : Int))))], []⟩) (AS.le_of ⟨rfl, rfl, rfl, trivial⟩ trivial) ?_)))
    clear hK K
    refine AW.cond rfl (fun hc => ?_) (fun hc => ?_)
    · have := of_decide_eq_true hc
      omega
    · clear hc
      refine AW.skip ?_
      refine AW.rgs rfl fun K hK => ?_
      refine mv rfl rfl ?_
      refine bv rfl (v_convI ty121 ty3 rfl) ?_
      rw [w64 (n := (n : Int)) (by omega) (by omega)]
      refine b_op rfl (o_makeE (fid := 98) eBool (false : Bool) 98030 rfl rfl ty127 rfl rfl ty4 rfl rfl (show 0 ≤ (n : Int) ∧ (n : Int) ≤ (n : Int) ∧ (n : Int) * (1 : Nat) ≤ 281474976710656 by omega) (fun v6 => ?_))
      refine mv rfl rfl ?_
      refine b_nil (hK _ (AW.to (to_le (s' := ⟨[(0, slE eBool [true]), (7, HV.ar 98030 v6 eBool.k 0 ((List.replicate (n : Int).toNat (false : Bool)).length))], [(98030, v6, .arr eBool.k 4 (eBool.E (List.replicate (n : Int).toNat (false : Bool))))]⟩) (AS.le_of ⟨rfl, rfl, trivial⟩ ⟨rfl, trivial⟩) ?_)))
      clear hK K
      simp only [Int.toNat_natCast, List.length_replicate]
      refine AW.rgs rfl fun K hK => ?_
      refine mv rfl rfl ?_
      refine mv rfl rfl ?_
      refine b_op rfl (o_copy (m := 1) (n := n) (off := 0) (ds := [HV.bool true]) (zs := (List.replicate (min 1 n) true ++ List.replicate (n - min 1 n) false).map HV.bool) rfl rfl rfl ty127 ty4 rfl rfl rfl rfl ?_ ?_ ?_ ?_)
      · show 0 + n * 1 ≤ ((List.replicate n false).map HV.bool).length
        simp
      · simp only [asrc, ty127]
        trivial
      · exact rep_first n
      refine mv rfl rfl ?_
      refine b_nil (hK _ (AW.to (to_le (s' := ⟨[(7, HV.ar 98030 v6 1 0 n), (8, HV.int .i64 ((min 1 n : Nat) : Int))], [(98030, v6, .arr 1 4 ((List.replicate (min 1 n) true ++ List.replicate (n - min 1 n) false).map HV.bool))]⟩) (AS.le_of ⟨rfl, rfl, trivial⟩ ⟨rfl, trivial⟩) ?_)))
      clear hK K
      refine AW.seq (AW.block ?_)
      refine AW.loopS (fun m : Nat => ⟨[(7, HV.ar 98030 v6 1 0 n), (8, HV.int .i64 (m : Int))], [(98030, v6, .arr 1 4 ((List.replicate m true ++ List.replicate (n - m) false).map HV.bool))]⟩)
        (fun m => m ≤ n ∧ (m = 0 → n = 0)) (fun m => n - m) (min 1 n) (AS.le_refl _) ⟨by omega, by omega⟩ ?_
      rintro m ⟨hm, hm0⟩
      refine AW.seq ?_
      refine AW.rgs rfl fun K hK => ?_
      refine mv rfl rfl ?_
      refine mv rfl rfl ?_
      refine bv rfl (v_lenA rfl rfl ty127 rfl rfl) ?_
      refine bv rfl (v_bin rfl rfl b_lss) ?_
      refine b_nil (hK _ (AW.to (to_le (s' := ⟨[(7, HV.ar 98030 v6 1 0 n), (8, HV.int .i64 (m : Int)), (37, HV.bool (decide ((m : Int) < (n : Int))))], [(98030, v6, .arr 1 4 ((List.replicate m true ++ List.replicate (n - m) false).map HV.bool))]⟩) (AS.le_of ⟨rfl, rfl, rfl, trivial⟩ ⟨rfl, trivial⟩) ?_)))
      clear hK K
      refine AW.cond rfl (fun hc => ?_) (fun hc => ?_)
      · have hlt : m < n := by have := of_decide_eq_true hc; omega
        refine AW.skip ?_
        refine AW.block ?_
        refine AW.dy follows fun K hK => ?_
        have hcells : ((List.replicate m true ++ List.replicate (n - m) false).map HV.bool).length = n := by simp; omega
        refine y_stZ 7 0 rfl rfl ?_
        refine sm rfl rfl ?_
        refine sm rfl rfl ?_
        refine sm rfl rfl ?_
        refine sv rfl (hv := HV.ar 98030 v6 1 (0 + m * 1) (n - m)) (v_sliceA (k := 1) (n := n) (a := (m : Int)) (b := (n : Int)) ty127 es127 rfl rfl rfl (by omega) rfl) ?_
        refine sm rfl rfl ?_
        refine sm rfl rfl ?_
        refine sv rfl (hv := HV.ar 98030 v6 1 (0 + 0 * 1) (m - 0)) (v_sliceA (k := 1) (n := n) (a := (0 : Int)) (b := (m : Int)) ty127 es127 rfl rfl rfl (by omega) rfl) ?_
        refine s_nil ?_
        refine y_late (dz := 38) (dq := 45) (x := .tmp 8) (v := .int .i64 (m : Int)) (vq := .int .i64 ((min (m - 0) (n - m) : Nat) : Int)) (H' := [(98030, v6, .arr 1 4 ((List.replicate (m + min m (n - m)) true ++ List.replicate (n - (m + min m (n - m))) false).map HV.bool))]) rfl rfl rfl rfl rfl rfl rfl (by decide) (fun sl' H2 hl => ?_) (fun sl' H2 hl => ?_) (fun sl' hl K' hK' hc => ?_) ?_
        · show sget sl' 8 = _
          rw [hl 8 (by decide)]; rfl
        · show sget sl' 8 = _
          rw [hl 8 (by decide)]; rfl
        · have e41 : (⟨sl', [(98030, v6, .arr 1 4 ((List.replicate m true ++ List.replicate (n - m) false).map HV.bool))]⟩ : AS).ev (.tmp 41) = some (.ar 98030 v6 1 (0 + m * 1) (n - m)) := by
            show sget sl' 41 = _
            rw [hl 41 (by decide)]; rfl
          have e44 : (⟨sl', [(98030, v6, .arr 1 4 ((List.replicate m true ++ List.replicate (n - m) false).map HV.bool))]⟩ : AS).ev (.tmp 44) = some (.ar 98030 v6 1 (0 + 0 * 1) (m - 0)) := by
            show sget sl' 44 = _
            rw [hl 44 (by decide)]; rfl
          refine AOp.copy (t := 127) (xt := 127) (x := .tmp 41) (y := .tmp 44) (k := 1) (off := 0 + m * 1) (n := n - m) (m := m - 0) (ds := (((List.replicate m true ++ List.replicate (n - m) false).map HV.bool).drop (0 + 0 * 1)).take ((m - 0) * 1)) rfl rfl ty127 rfl ty4 e41 e44 (fun l e => by cases e) hget_0 ?_ ?_ ?_
          · simp only [asrc, ty127, hget, if_pos]
            refine ⟨trivial, trivial, ?_, trivial, ?_⟩
            · rw [hcells]
              show 0 + 0 * 1 + (m - 0) * 1 ≤ n
              omega
            · trivial
          · rw [hcells]
            show 0 + m * 1 + (n - m) * 1 ≤ n
            omega
          · refine hc _ _ ?_ (fun u => ?_) hK'
            · show hset _ _ _ _ = _
              rw [show ∀ ob : AObj, hset [(98030, v6, .arr 1 4 ((List.replicate m true ++ List.replicate (n - m) false).map HV.bool))] 98030 v6 ob = [(98030, v6, ob)] from fun ob => by simp [hset]]
              have := rep_half (n := n) (m := m) rfl hm
              exact congrArg (fun xs => [(98030, v6, AObj.arr 1 4 xs)]) this
            · show sget (AS.put _ (some 45) _).slots u = _
              simp only [AS.put, sget_sset, sget]
        · have hw : IntKind.wrap .i64 ((m : Int) + ((min (m - 0) (n - m) : Nat) : Int)) = ((m + min m (n - m) : Nat) : Int) := by
            rw [w64 (by omega) (by omega)]; omega
          refine y_op rfl rfl rfl rfl (o_val rfl (v_bin rfl rfl b_add) ?_)
          refine b_nil ?_
          refine y_op rfl rfl rfl rfl (o_val rfl (mv_val rfl rfl).2 ?_)
          refine b_nil ?_
          refine y_nil rfl (hK _ ?_)
          rw [hw]
          exact ⟨m + min m (n - m), ⟨by omega, by omega⟩, by omega, AS.le_of ⟨rfl, rfl, trivial⟩ ⟨rfl, trivial⟩⟩
      · have hge : m = n := by have := of_decide_eq_false hc; omega
        subst hge
        refine AW.exit ?_
        have e0 : List.replicate m true ++ List.replicate (m - m) false = List.replicate m true := by simp
        rw [e0]
        refine AW.rgs rfl fun K hK => ?_
        refine mv rfl rfl ?_
        refine mv rfl rfl ?_
        refine b_nil (hK _ (AW.to (to_le (s' := ⟨[(4, HV.ar 98030 v6 eBool.k 0 ((List.replicate m true).length))], [(98030, v6, .arr eBool.k 4 (eBool.E (List.replicate m true)))]⟩) (AS.le_of ⟨arl (by simp), trivial⟩ ⟨rfl, trivial⟩) ?_)))
        clear hK K
        refine AW.to (to_frz 2 [(98030, v6, .arr eBool.k 4 (eBool.E (List.replicate m true)))] ⟨[(4, slE eBool (List.replicate m true))], []⟩ ⟨⟨_, rfl, frz_slE eBool (l := List.replicate m true) rfl fun _ _ => rfl⟩, trivial⟩ trivial ⟨rfl, trivial⟩ ⟨rfl, trivial⟩ ?_)
        refine AW.ret ?_
        exact ret_pure (hs := [slE eBool (List.replicate m true)]) (q := slE eBool (List.replicate m true)) (.inr rfl) (resT rfl rfl) rfl (clean_slE fun _ _ => ⟨trivial, trivial⟩)

theorem w_slices_Repeat_Lbool_bool {x r : List Bool} {n : Int} (h : m_slices_Repeat_Lbool_bool x n = some r) : Pure Try.prog 98 [slE eBool x, .int .i64 n] (· = slE eBool r) := by
  unfold m_slices_Repeat_Lbool_bool at h
  split at h
  · rename_i hc
    obtain ⟨rfl, h0, h8⟩ := hc
    cases h
    obtain ⟨m, rfl⟩ := Int.eq_ofNat_of_zero_le h0
    exact rep_n (by omega)
  · cases h
end Go.AW

/- Arrays of arrays in lockstep: an owned array in a place of an owned array of frozen ones (a place that is filled later). -/
namespace Go.AW
open Go

theorem SR.frzH {w : World} {μ : Mu} {H D H' : Heap} (n : Nat) (h : SR w μ H) (hD : ∀ id x, hget D id = some x → hget H id = some x ∧ hget H' id = none)
    (hs : ∀ id ver o, hget H' id = some (ver, o) → hget H id = some (ver, o) ∨ ∃ k e cs, hget H id = some (ver, .arr k e cs) ∧ o = .arr k e (cs.map (frz n D))) : SR w (μ.cut H') H' where
  ok := fun id ver b hb => h.ok id ver b (Mu.cut_some hb)
  has := fun id ver o ho => by
    rcases hs id ver o ho with h1 | ⟨k, e, cs, h1, rfl⟩
    · obtain ⟨l, hl, hor⟩ := h.has id ver o h1
      exact ⟨l, by simp [Mu.cut, ho, hl], hor.evo (Evo.cut w μ H') h.ok (fun _ _ => rfl) (fun _ _ _ _ _ _ _ _ => rfl)⟩
    · obtain ⟨l, hl, hor⟩ := h.has id ver _ h1
      refine ⟨l, by simp [Mu.cut, ho, hl], ?_⟩
      cases l with
      | none =>
        have : cs = [] := hor
        subst this
        exact (rfl : ([] : List HV).map (frz n D) = [])
      | some b =>
        obtain ⟨h0, cur, vs, rest, hrow, hcl, hrl⟩ := hor
        exact ⟨ones_frz h0, cur, vs, rest, hrow, hcl, RepL.mapF (fun c x _ => frz_rep h hD n c x) hrl⟩
  only := fun id x hx => by
    simp only [Mu.cut] at hx
    split at hx
    · rename_i hi; exact Option.isSome_iff_exists.1 hi
    · cases hx
  inj := fun i j v u b hi hj => h.inj i j v u b (Mu.cut_some hi) (Mu.cut_some hj)
  held := fun b hb => ⟨(h.held b hb).1, fun ⟨id, ver, hl⟩ => (h.held b hb).2 ⟨id, ver, Mu.cut_some hl⟩⟩

def leO (n : Nat) (D : Heap) (l : Heap) : Heap → Prop
  | [] => True
  | (i, v, o) :: l' => (hget l i = some (v, o) ∨ ∃ k e cs, hget l i = some (v, .arr k e cs) ∧ o = .arr k e (cs.map (frz n D))) ∧ leO n D l l'
theorem leO_get {n : Nat} {D l : Heap} : ∀ {l' : Heap}, leO n D l l' → ∀ t v o, hget l' t = some (v, o) → hget l t = some (v, o) ∨ ∃ k e cs, hget l t = some (v, .arr k e cs) ∧ o = .arr k e (cs.map (frz n D))
  | [], _, _, _, _, h => by cases h
  | (i, g, u) :: l', h, t, v, o, ht => by
    simp only [hget] at ht
    split at ht
    · rename_i e; subst e; cases ht; exact h.1
    · exact leO_get h.2 t v o ht

/-- arrays are frozen, where they lie in other arrays too -/
theorem to_fill {s : AS} {G : AS → Prop} (n : Nat) (D : Heap) (s' : AS) (h1 : leF n D s.slots s'.slots) (h2 : leO n D s.heap s'.heap) (h3 : leH s.heap D) (h4 : noneH s'.heap D) (h : G s') : s.to G := by
  intro ro N B μ a w hs
  have hD : ∀ id x, hget D id = some x → hget s.heap id = some x ∧ hget s'.heap id = none := fun id x hx => ⟨leH_get h3 id x hx, noneH_get h4 id x hx⟩
  refine ⟨μ.cut s'.heap, s', h, ⟨hs.size, hs.sr.frzH n hD (leO_get h2), fun t hv ht => ?_, hs.marks.evo (Evo.cut w μ s'.heap), hs.ro.evo (Evo.cut w μ s'.heap)⟩, Evo.cut w μ s'.heap⟩
  obtain ⟨g, hg, rfl⟩ := leF_get h1 t hv ht
  exact ⟨(hs.slot t g hg).1, frz_rep hs.sr hD n g _ (hs.slot t g hg).2⟩

theorem fill_obj {α : Type} {c : EncL α} {D : Heap} {C ver n i : Nat} {e e2 : TypeId} {L : List (List α)} {m : List α} (hg : hget D C = some (ver, .arr c.k e2 (c.E m))) (hn : n = m.length) (hc : ∀ x, (c.C x).map (frz 1 D) = c.C x) :
    (AObj.arr (eSl c).k e ((eSl c).E (L.set i m))) = .arr (eSl c).k e ((((eSl c).E L).set i (.ar C ver c.k 0 n)).map (frz 2 D)) := by
  congr 1
  show (L.set i m).map (slE c) = ((L.map (slE c)).set i _).map (frz 2 D)
  rw [List.map_set, List.map_set, hn, frz_slE c hg fun x _ => hc x, List.map_map]
  congr 1

theorem LeL.ones : ∀ {aa bs : List HV} (_ : LeL aa bs), ones aa → ones bs
  | _, _, .nil, h => h
  | _, _, .cons h h', h0 => fun c hc => by
    rcases List.mem_cons.1 hc with rfl | hc
    · have := h0 _ (List.mem_cons_self ..)
      cases h with
      | refl => exact this
      | nil => rfl
      | empty => rfl
    · exact LeL.ones h' (fun d hd => h0 d (List.mem_cons_of_mem _ hd)) c hc

theorem to_cells {s : AS} {G : AS → Prop} (id ver : Nat) {k : Nat} {e : TypeId} {cs ds : List HV} (hg : hget s.heap id = some (ver, .arr k e cs)) (hl : LeL cs ds) (h : G ⟨s.slots, (id, ver, .arr k e ds) :: s.heap⟩) : s.to G := by
  intro ro N B μ a w hs
  have h1 := hs.sr.reobj (o' := .arr k e ds) hg fun l _ hor => by
    cases l with
    | none =>
      have : cs = [] := hor
      subst this
      cases hl
      exact hor
    | some b =>
      obtain ⟨h0, cur, vs, rest, hrow, hcl, hrl⟩ := hor
      exact ⟨hl.ones h0, cur, vs, rest, hrow, hcl, hl.rep hrl⟩
  refine ⟨μ, _, h, ⟨hs.size, h1.le fun j x => ?_, hs.slot, hs.marks, hs.ro⟩, Evo.refl w μ⟩
  simp only [hget, hget_hset]

section
variable {P : Program} {ro : Option Nat} {N : Nat} {all : Array Oper} {s : AS} {rest : List Oper} {o : Oper} {K : AS → Prop} {fid : Nat} {sl : List (Nat × HV)} {H : Heap}

theorem AOps.to {is : List Nat} (h : s.to (AOps P ro N all is K)) : AOps P ro N all is K s := fun w0 μ0 μ a w Q hs hE hK => by
  obtain ⟨μ1, t, ht, hs1, E1⟩ := h ro N w0.heap.size μ a w hs
  exact ht w0 μ0 μ1 a w Q hs1 (hE.trans E1) hK
theorem b_to {l : List Oper} (h : s.to (bops P ro N all l K)) : bops P ro N all l K s := fun hok i hi => AOps.to (to_mono h fun t ht => ht hok i hi)

theorem leL_nils {α : Type} (c : EncL α) (n : Nat) : LeL ((encM fun _ : Unit => HV.v (.slice none 0 0)).E (List.replicate n ())) ((eSl c).E (List.replicate n ([] : List α))) := by
  show LeL ((List.replicate n ()).map _) ((List.replicate n ([] : List α)).map (slE c))
  rw [List.map_replicate, List.map_replicate]
  have : slE c [] = HV.sl c.k 0 [] := by show HV.sl c.k 0 (c.E []) = _; rw [c.nil]
  rw [this]
  induction n with
  | zero => exact .nil
  | succ n ih => exact .cons (.nil c.k) ih

/-- make of an array of nil slices -/
theorem o_makeN {α : Type} (c : EncL α) {d : Nat} {t e : TypeId} {a b : Nat} {z : Value} {x y : Operand} {l m : Int} {Te : TyI} (id : Nat) (h0 : (o.dst, o.op) = (some d, .makeSlice t x y)) (hid : fid * 1000 + d = id) (hT : ty P t = some ⟨.slice e, a, b, z⟩) (hx : (⟨sl, H⟩ : AS).ev x = some (.int .i64 l)) (hy : (⟨sl, H⟩ : AS).ev y = some (.int .i64 m)) (hTe : ty P e = some Te)
    (hz : zcells Te.zero = some [.v (.slice none 0 0)]) (h1 : Te.size = 1) (h2 : 0 ≤ l ∧ l ≤ m ∧ m * Te.bytes ≤ 281474976710656)
    (k : ∀ ver, bops P ro N all rest K ⟨(d, .ar id ver (eSl c).k 0 (List.replicate l.toNat ([] : List α)).length) :: sl, (id, ver, .arr (eSl c).k e ((eSl c).E (List.replicate l.toNat []))) :: H⟩) : aop P fid [] o (fun s' => bops P ro N all rest K s') ⟨sl, H⟩ := by
  refine o_makeE (encM fun _ : Unit => HV.v (.slice none 0 0)) () id h0 hid hT hx hy hTe hz h1 h2 fun ver => ?_
  refine b_to (to_cells (k := (eSl c).k) (e := e) (cs := (encM fun _ : Unit => HV.v (.slice none 0 0)).E (List.replicate l.toNat ())) (ds := (eSl c).E (List.replicate l.toNat [])) id ver (by simp only [hget, if_pos]; rfl) (leL_nils c l.toNat) ?_)
  refine bops_le ?_ (k ver)
  refine ⟨fun t hv ht => ?_, fun j x hj => ?_⟩
  · simp only [sget] at ht ⊢
    split at ht
    · rename_i e'
      rw [if_pos e']
      cases ht
      simp only [List.length_replicate]
      rfl
    · rename_i e'
      rw [if_neg e']
      exact ht
  · simp only [hget] at hj ⊢
    split at hj
    · rename_i e'
      rw [if_pos e']
      exact hj
    · rename_i e'
      rw [if_neg e', if_neg e']
      exact hj

theorem splice_one {xs : List HV} {i : Nat} (v : HV) (h : i < xs.length) : splice xs i [v] = xs.set i v := by
  rw [splice_eq (by show i + 1 ≤ _; omega), List.set_eq_take_append_cons_drop, if_pos h]
  simp

/-- an owned array into a place -/
theorem o_storeH {α : Type} (c : EncL α) {t : TypeId} {x y : Operand} {id ver : Nat} {e : TypeId} {hv : HV} {T : TyI} {L : List (List α)} {j : Int} (h0 : (o.dst, o.op) = (none, .store t x y)) (hx : (⟨sl, H⟩ : AS).ev x = some (.ptr id ver (j.toNat * (eSl c).k))) (hy : (⟨sl, H⟩ : AS).ev y = some hv) (hT : ty P t = some T) (hc : hv.cells? = some [hv])
    (hg : hget H id = some (ver, .arr (eSl c).k e ((eSl c).E L))) (h1 : T.size = 1) (hj : 0 ≤ j ∧ j < L.length) (kk : bops P ro N all rest K ⟨sl, (id, ver, .arr (eSl c).k e (((eSl c).E L).set j.toNat hv)) :: H⟩) : aop P 0 [] o (fun s' => bops P ro N all rest K s') ⟨sl, H⟩ := by
  have hl : ((eSl c).E L).length = L.length := by show (L.map (slE c)).length = _; rw [List.length_map]
  have hlt : j.toNat < ((eSl c).E L).length := by rw [hl]; omega
  have e1 : (eSl c).k = 1 := rfl
  refine o_store_z (s := ⟨sl, H⟩) (cs := [hv]) (zs := ((eSl c).E L).set j.toNat hv) h0 hx hy hT hc hg h1 ?_ ?_ kk
  · rw [e1, Nat.mul_one]
    exact Nat.ble_eq_true_of_le (by show j.toNat + 1 ≤ _; omega)
  · rw [e1, Nat.mul_one]
    exact splice_one hv hlt

theorem l_hole {α : Type} (c : EncL α) {T : TyI} {L : List (List α)} {j : Int} {x : List α} (v : HV) (h : idx L j = some x) (ha : aggD T.desc = false) : loadK T (((eSl c).E L).set j.toNat v) (j.toNat * (eSl c).k) (· = v) := by
  refine l_lit ha ?_
  have := idx_lt h
  show ((L.map (slE c)).set j.toNat v)[j.toNat * 1]? = some v
  rw [Nat.mul_one, List.getElem?_set_self]
  rw [List.length_map]; omega
theorem l_holeN {α : Type} (c : EncL α) {T : TyI} {L : List (List α)} {j : Int} {i : Nat} {x : List α} (v : HV) (h : idx L j = some x) (hn : j.toNat ≠ i) (ha : aggD T.desc = false) : loadK T (((eSl c).E L).set i v) (j.toNat * (eSl c).k) (· = slE c x) := by
  refine l_lit ha ?_
  show ((L.map (slE c)).set i v)[j.toNat * 1]? = some _
  rw [Nat.mul_one, List.getElem?_set_ne (Ne.symm hn), List.getElem?_map, idx_get h]
  rfl
end
end Go.AW

/- Models, printed by lk.py. -/
namespace Go.AW
open Go
set_option linter.unusedVariables false
/-- groove/language.Missing -/
noncomputable def m_language_Missing (p0 : TLabelsStatesEdges) (p1 : Int) : Option ((List UInt8) × Bool × Int) :=
  (m_language_lengths p0 p1).bind fun x1 =>
  if x1 ≠ 0 then
    some (([] : List UInt8), false, x1)
  else
    (m_language_states p0).bind fun x3 =>
    if ((x3).length : Int) = 0 then
      some (([] : List UInt8), true, 0)
    else
      lpO (loopW (S := (List (List UInt8)) × Int × (List (List UInt8 × (List (Int))))) (X := Ou (Unit) ((List UInt8) × Bool × Int)) (fun a6 =>
          if a6.2.1 < p1 then
            lpO (loopW (S := Int × (List (List UInt8 × (List (Int)))) × (List (List UInt8))) (X := Ou ((List (List UInt8 × (List (Int)))) × (List (List UInt8))) ((List UInt8) × Bool × Int)) (fun a10 =>
                if a10.1 < ((a6.1).length : Int) then
                  (idx a6.1 a10.1).bind fun x14 =>
                  lpO (loopW (S := Int × (List (List UInt8 × (List (Int)))) × (List (List UInt8))) (X := Ou ((List (List UInt8 × (List (Int)))) × (List (List UInt8))) ((List UInt8) × Bool × Int)) (fun a16 =>
                      if a16.1 < p0.1 then
                        (idx ([48, 49, 50, 51, 52, 53, 54, 55, 56, 57, 97, 98, 99, 100, 101, 102] : List UInt8) a16.1).bind fun x20 =>
                        (mlook x14 a16.2.1).bind fun x22 =>
                        (m_language_step p0 x22 (x20.toNat : Int)).bind fun x24 =>
                        if ((x24).length : Int) = 0 then
                          if x14.length + ((Utf8.encode (x20.toNat : Int)).data.toList).length ≤ maxLen then
                            some (Stp.exit (Ou.ret (x14 ++ ((Utf8.encode (x20.toNat : Int)).data.toList), true, 0)))
                          else none
                        else
                          if x14.length + ((Utf8.encode (x20.toNat : Int)).data.toList).length ≤ maxLen then
                            if fits 16 ((a16.2.2 : List (List UInt8)).length + ([x14 ++ ((Utf8.encode (x20.toNat : Int)).data.toList)]).length) then
                              some (Stp.next (IntKind.wrap .i64 (a16.1 + 1), mputN (x14 ++ ((Utf8.encode (x20.toNat : Int)).data.toList)) x24 a16.2.1, a16.2.2 ++ [x14 ++ ((Utf8.encode (x20.toNat : Int)).data.toList)]))
                            else none
                          else none
                      else
                        some (Stp.exit (Ou.go (a16.2.1, a16.2.2)))) (0, a10.2.1, a10.2.2)) (fun a30 =>
                      some (Stp.next (IntKind.wrap .i64 (a10.1 + 1), a30.1, a30.2))) (fun r => some (Stp.exit (Ou.ret r)))
                else
                  some (Stp.exit (Ou.go (a10.2.1, a10.2.2)))) (0, a6.2.2, ([] : List (List UInt8)))) (fun a33 =>
                if 4096 < (((a33.2).length : Nat) : Int) then
                  some (Stp.exit (Ou.ret (([] : List UInt8), false, 4)))
                else
                  some (Stp.next (a33.2, IntKind.wrap .i64 (a6.2.1 + 1), a33.1))) (fun r => some (Stp.exit (Ou.ret r)))
          else
            some (Stp.exit (Ou.go ()))) ([([] : List UInt8)], 0, mputN ([] : List UInt8) x3 ([] : List (List UInt8 × (List (Int)))))) (fun a35 =>
          some (([] : List UInt8), false, 0)) some

end Go.AW

/- Models, printed by lk.py. -/
namespace Go.AW
open Go
set_option linter.unusedVariables false
/-- slices.Equal[[]string,string] -/
noncomputable def m_slices_Equal_Lstring_string (p0 : List (List UInt8)) (p1 : List (List UInt8)) : Option (Bool) :=
  if ((p0).length : Int) ≠ ((p1).length : Int) then
    some false
  else
    lpO (loopW (S := Int) (X := Ou (Unit) (Bool)) (fun a1 =>
        if a1 < ((p0).length : Int) then
          (idx p0 a1).bind fun x5 =>
          (idx p1 a1).bind fun x7 =>
          if x5 ≠ x7 then
            some (Stp.exit (Ou.ret false))
          else
            some (Stp.next (IntKind.wrap .i64 (a1 + 1)))
        else
          some (Stp.exit (Ou.go ()))) 0) (fun a9 =>
        some true) some

/-- groove/groovelaw11.golden -/
noncomputable def m_law11_golden  : Option (TLabelsStatesEdges) :=
  some (2, 2, [(0, 0, 0), (0, 1, 1), (1, 0, 0)])

/-- groove/groovelaw11.awake -/
noncomputable def m_law11_awakeG  : Option (Bool) :=
  (m_law11_golden).bind fun x1 =>
  (m_language_Words x1 2).bind fun x3 =>
  (m_law11_golden).bind fun x5 =>
  (m_language_Missing x5 3).bind fun x7 =>
  (m_law11_golden).bind fun x9 =>
  (m_language_Path x9 [48, 49, 48]).bind fun x11 =>
  jp (fun (a13 : Bool) =>
    some a13)
    fun k15 =>
    if (max (max x3.2 x7.2.2) x11.2) = 0 then
      (m_slices_Equal_Lstring_string x3.1 [[48, 48], [48, 49], [49, 48]]).bind fun x16 =>
      if x16 = true then
        if x7.1 = [49, 49] then
          if x7.2.1 = true then
            (m_slices_Equal_Lint_int x11.1 [0, 1, 2]).bind fun x18 =>
            k15 x18
          else
            k15 false
        else
          k15 false
      else
        k15 false
    else
      k15 false

end Go.AW

/- What the functions of graphs compute: checks, steps, sets of states. -/
namespace Go.AW
open Go
set_option linter.unusedSimpArgs false
set_option linter.unusedVariables false

theorem loopW_eq {S X : Type} (body : S → Option (Stp S X)) (s : S) : loopW body s = match body s with
    | none => none
    | some (.exit x) => some x
    | some (.next s') => loopW body s' := by
  cases h : body s with
  | none => exact loopW_stuck h
  | some r => cases r with
    | exit x => exact loopW_exit h
    | next s' => exact loopW_next h

abbrev Gr := TLabelsStatesEdges
abbrev Ed := TFromLabelTo

def cmp3 (x y : Ed) : Int := if x.1 < y.1 then -1 else if y.1 < x.1 then 1 else if x.2.1 < y.2.1 then -1 else if y.2.1 < x.2.1 then 1 else if x.2.2 < y.2.2 then -1 else if y.2.2 < x.2.2 then 1 else 0

theorem cmpC (a b : Int) : m_cmp_Compare_int a b = some (if a < b then -1 else if b < a then 1 else 0) := by
  unfold m_cmp_Compare_int m_cmp_isNaN_int
  simp only [ne_eq, not_true_eq_false, decide_false, Option.bind_some, Bool.false_eq_true, if_false]
  split <;> (try rfl)
  split <;> rfl

theorem wr0 : IntKind.wrap .i64 (0 + 1) = 1 := by decide
theorem wr1 : IntKind.wrap .i64 (1 + 1) = 2 := by decide
theorem wr2 : IntKind.wrap .i64 (2 + 1) = 3 := by decide

theorem ix3_0 (a b c : Int) : idx [a, b, c] 0 = some a := rfl
theorem ix3_1 (a b c : Int) : idx [a, b, c] 1 = some b := rfl
theorem ix3_2 (a b c : Int) : idx [a, b, c] 2 = some c := rfl
theorem len3 (a b c : Int) : (([a, b, c] : List Int).length : Int) = 3 := rfl

theorem by1_eq (x y : Ed) : m_graph_by_api_Edge_1 x y = some (cmp3 x y) := by
  unfold m_graph_by_api_Edge_1 m_graph_list m_slices_Compare_Lint_int cmp3
  simp only [Option.bind_some, len3]
  rw [loopW_eq]
  simp only [ix3_0, cmpC, Option.bind_some, wr0]
  by_cases a1 : x.1 < y.1
  · simp [a1, lpO]
  by_cases a2 : y.1 < x.1
  · simp [a1, a2, lpO]
  simp only [a1, a2, if_false, ne_eq, not_true_eq_false, if_true, Int.reduceLT, Int.reduceLE]
  rw [loopW_eq]
  simp only [ix3_1, cmpC, Option.bind_some, wr1]
  by_cases b1 : x.2.1 < y.2.1
  · simp [b1, lpO]
  by_cases b2 : y.2.1 < x.2.1
  · simp [b1, b2, lpO]
  simp only [b1, b2, if_false, ne_eq, not_true_eq_false, if_true, Int.reduceLT, Int.reduceLE]
  rw [loopW_eq]
  simp only [ix3_2, cmpC, Option.bind_some, wr2]
  by_cases c1 : x.2.2 < y.2.2
  · simp [c1, lpO]
  by_cases c2 : y.2.2 < x.2.2
  · simp [c1, c2, lpO]
  simp only [c1, c2, if_false, ne_eq, not_true_eq_false, if_true, Int.reduceLT, Int.reduceLE]
  rw [loopW_eq]
  simp [lpO]

theorem cmp_eq (x y : Ed) : m_ref09_Compare x y = some (cmp3 x y) := by
  unfold m_ref09_Compare cmp3
  rw [loopW_eq]
  simp only [ix3_0, Option.bind_some, wr0]
  by_cases a1 : x.1 < y.1
  · simp [a1, lpO]
  by_cases a2 : y.1 < x.1
  · simp [a1, a2, lpO]
  simp only [a1, a2, if_false, if_true, Int.reduceLT]
  rw [loopW_eq]
  simp only [ix3_1, Option.bind_some, wr1]
  by_cases b1 : x.2.1 < y.2.1
  · simp [b1, lpO]
  by_cases b2 : y.2.1 < x.2.1
  · simp [b1, b2, lpO]
  simp only [b1, b2, if_false, if_true, Int.reduceLT]
  rw [loopW_eq]
  simp only [ix3_2, Option.bind_some, wr2]
  by_cases c1 : x.2.2 < y.2.2
  · simp [c1, lpO]
  by_cases c2 : y.2.2 < x.2.2
  · simp [c1, c2, lpO]
  simp only [c1, c2, if_false, if_true, Int.reduceLT]
  rw [loopW_eq]
  simp [lpO]

/-- the program's check is the reference's -/
theorem Check_ref (g : Gr) : m_graph_Check g = m_ref09_Check g := by
  unfold m_graph_Check m_ref09_Check
  have key : ∀ (x : Ed) (k : Bool → Option (Stp Int (Ou Unit Int))), (if (min (min x.1 x.2.1) x.2.2) < 0 then k true else if g.2.1 ≤ (max x.1 x.2.2) then k true else k (decide (g.1 ≤ x.2.1))) =
      (if x.1 < 0 then k true else if g.2.1 ≤ x.1 then k true else if x.2.2 < 0 then k true else if g.2.1 ≤ x.2.2 then k true else if x.2.1 < 0 then k true else k (decide (g.1 ≤ x.2.1))) := by
    intro x k
    by_cases h1 : x.1 < 0
    · rw [if_pos (by omega), if_pos h1]
    by_cases h2 : g.2.1 ≤ x.1
    · rw [if_neg h1, if_pos h2]
      split
      · rfl
      · rw [if_pos (by omega)]
    by_cases h3 : x.2.2 < 0
    · rw [if_neg h1, if_neg h2, if_pos h3, if_pos (by omega)]
    by_cases h4 : g.2.1 ≤ x.2.2
    · rw [if_neg h1, if_neg h2, if_neg h3, if_pos h4]
      split
      · rfl
      · rw [if_pos (by omega)]
    by_cases h5 : x.2.1 < 0
    · rw [if_neg h1, if_neg h2, if_neg h3, if_neg h4, if_pos h5, if_pos (by omega)]
    · rw [if_neg h1, if_neg h2, if_neg h3, if_neg h4, if_neg h5, if_neg (by omega), if_neg (by omega)]
  simp only [by1_eq, cmp_eq, key]

/-- what of a valid graph is used -/
structure VG (g : Gr) : Prop where
  l1 : 1 ≤ g.1
  l2 : g.1 ≤ 256
  s0 : 0 ≤ g.2.1
  s1 : g.2.1 ≤ 64
  el : g.2.2.length ≤ 1024
  ed : ∀ x ∈ g.2.2, 0 ≤ x.1 ∧ x.1 < g.2.1 ∧ 0 ≤ x.2.2 ∧ x.2.2 < g.2.1 ∧ 0 ≤ x.2.1 ∧ x.2.1 < g.1
  ord : ∀ (i : Nat) (h : i + 1 < g.2.2.length), cmp3 (g.2.2[i]'(by omega)) g.2.2[i + 1] < 0

theorem ix_pred {α : Type} {l : List α} {i : Nat} (h : i < l.length) (hm : l.length ≤ 9223372036854775807) (h0 : 0 < i) : idx l (IntKind.wrap .i64 ((i : Int) - 1)) = some (l[i - 1]'(by omega)) := by
  rw [w64 (by omega) (by omega), show ((i : Int) - 1) = ((i - 1 : Nat) : Int) by omega]
  exact ix (by omega)

theorem lpO_ex {V R Y : Type} {o : Option (Ou V R)} {M : V → Option Y} {Rt : R → Option Y} {C : Y → Prop} (Q : Ou V R → Prop) (h : ∃ x, o = some x ∧ Q x) (k : ∀ x, Q x → ∃ e, lpO (some x) M Rt = some e ∧ C e) : ∃ e, lpO o M Rt = some e ∧ C e := by
  obtain ⟨x, rfl, hq⟩ := h
  exact k x hq

theorem Check_tot (g : Gr) : ∃ e, m_ref09_Check g = some e ∧ (e = 0 ↔ VG g) := by
  unfold m_ref09_Check
  simp only [jp]
  by_cases h1 : g.1 < 1
  · exact ⟨12, by simp [h1], by simp; intro v; have := v.l1; omega⟩
  by_cases h2 : 256 < g.1
  · exact ⟨12, by simp [h1, h2], by simp; intro v; have := v.l2; omega⟩
  by_cases h3 : g.2.1 < 0
  · exact ⟨2, by simp [h1, h2, h3], by simp; intro v; have := v.s0; omega⟩
  by_cases h4 : 64 < g.2.1
  · exact ⟨4, by simp [h1, h2, h3, h4], by simp; intro v; have := v.s1; omega⟩
  by_cases h5 : 1024 < (g.2.2.length : Int)
  · exact ⟨4, by simp [h1, h2, h3, h4, h5], by simp; intro v; have := v.el; omega⟩
  simp only [h1, h2, h3, h4, h5, if_false, decide_false, Bool.false_eq_true, cmp_eq, Option.bind_some, if_true]
  refine lpO_ex (fun x => (x = .ret 2 ∧ ¬ VG g) ∨ (x = .ret 10 ∧ ¬ VG g) ∨ (x = .go () ∧ VG g)) ?_ ?_
  · refine loopN g.2.2.length (fun i s => s = (i : Int) ∧ (∀ (j : Nat) (h : j < i) (hj : j < g.2.2.length), 0 ≤ g.2.2[j].1 ∧ g.2.2[j].1 < g.2.1 ∧ 0 ≤ g.2.2[j].2.2 ∧ g.2.2[j].2.2 < g.2.1 ∧ 0 ≤ g.2.2[j].2.1 ∧ g.2.2[j].2.1 < g.1) ∧
        ∀ (j : Nat) (h : j + 1 < i) (hj : j + 1 < g.2.2.length), cmp3 (g.2.2[j]'(by omega)) g.2.2[j + 1] < 0) ?_ ?_ 0 _ (Nat.zero_le _) ⟨rfl, fun _ h => by omega, fun _ h => by omega⟩
    · rintro i s hi ⟨rfl, he, ho⟩
      rw [if_pos (lt_int hi), ix hi]
      simp only [Option.bind_some]
      by_cases hg : 0 ≤ g.2.2[i].1 ∧ g.2.2[i].1 < g.2.1 ∧ 0 ≤ g.2.2[i].2.2 ∧ g.2.2[i].2.2 < g.2.1 ∧ 0 ≤ g.2.2[i].2.1 ∧ g.2.2[i].2.1 < g.1
      · obtain ⟨e1, e2, e3, e4, e5, e6⟩ := hg
        rw [if_neg (by omega), if_neg (by omega), if_neg (by omega), if_neg (by omega), if_neg (by omega)]
        have hd : decide (g.1 ≤ g.2.2[i].2.1) = false := decide_eq_false (by omega)
        rw [hd]
        simp only [Bool.false_eq_true, if_false]
        have he' : ∀ (j : Nat) (h : j < i + 1) (hj : j < g.2.2.length), 0 ≤ g.2.2[j].1 ∧ g.2.2[j].1 < g.2.1 ∧ 0 ≤ g.2.2[j].2.2 ∧ g.2.2[j].2.2 < g.2.1 ∧ 0 ≤ g.2.2[j].2.1 ∧ g.2.2[j].2.1 < g.1 := by
          intro j hj hjl
          by_cases hji : j = i
          · subst hji; exact ⟨e1, e2, e3, e4, e5, e6⟩
          · exact he j (by omega) hjl
        by_cases h0 : 0 < i
        · rw [if_pos (by omega), ix_pred hi (by omega) h0]
          simp only [Option.bind_some]
          by_cases hc : 0 ≤ cmp3 (g.2.2[i - 1]'(by omega)) g.2.2[i]
          · refine .inr ⟨.ret 10, by rw [if_pos (decide_eq_true hc)], .inr (.inl ⟨rfl, fun v => ?_⟩)⟩
            have := v.ord (i - 1) (by omega)
            simp only [show i - 1 + 1 = i by omega] at this
            omega
          · refine .inl ⟨_, by rw [if_neg (by simpa using hc)], by rw [nx (by omega : g.2.2.length ≤ _) hi], he', fun j hj hjl => ?_⟩
            by_cases hji : j + 1 = i
            · have hj' : j = i - 1 := by omega
              subst hj'
              simp only [show i - 1 + 1 = i by omega]
              omega
            · exact ho j (by omega) hjl
        · refine .inl ⟨_, by rw [if_neg (by omega)], by rw [nx (by omega : g.2.2.length ≤ _) hi], he', fun j hj hjl => by omega⟩
      · have hv : ¬ VG g := fun v => hg (v.ed _ (List.getElem_mem hi))
        refine .inr ⟨.ret 2, ?_, .inl ⟨rfl, hv⟩⟩
        by_cases e1 : g.2.2[i].1 < 0
        · rw [if_pos e1]
        rw [if_neg e1]
        by_cases e2 : g.2.1 ≤ g.2.2[i].1
        · rw [if_pos e2]
        rw [if_neg e2]
        by_cases e3 : g.2.2[i].2.2 < 0
        · rw [if_pos e3]
        rw [if_neg e3]
        by_cases e4 : g.2.1 ≤ g.2.2[i].2.2
        · rw [if_pos e4]
        rw [if_neg e4]
        by_cases e5 : g.2.2[i].2.1 < 0
        · rw [if_pos e5]
        rw [if_neg e5, if_pos (decide_eq_true (by omega))]
    · rintro s ⟨rfl, he, ho⟩
      rw [if_neg (not_lt_int _)]
      refine ⟨_, rfl, .inr (.inr ⟨rfl, ⟨by omega, by omega, by omega, by omega, by omega, fun x hx => ?_, fun i h => ho i h h⟩⟩)⟩
      obtain ⟨j, hj, rfl⟩ := List.getElem_of_mem hx
      exact he j hj hj
  · rintro x (⟨rfl, hv⟩ | ⟨rfl, hv⟩ | ⟨rfl, hv⟩)
    · exact ⟨2, rfl, by simp [hv]⟩
    · exact ⟨10, rfl, by simp [hv]⟩
    · exact ⟨0, rfl, by simp [hv]⟩
end Go.AW

/- A step of a set of states, in the program and in the reference. -/
namespace Go.AW
open Go
set_option linter.unusedSimpArgs false
set_option linter.unusedVariables false

theorem asc_uniq {l m : List Int} (hl : l.Pairwise (· < ·)) (hm : m.Pairwise (· < ·)) (h : ∀ x, x ∈ l ↔ x ∈ m) : l = m := by
  have nl : l.Nodup := hl.imp fun h => Int.ne_of_lt h
  have nm : m.Nodup := hm.imp fun h => Int.ne_of_lt h
  have hp : l.Perm m := (List.perm_ext_iff_of_nodup nl nm).2 h
  exact hp.eq_of_pairwise (fun a b _ _ h1 h2 => by omega) hl hm

theorem sortI_mem {l : List Int} {x : Int} : x ∈ sortI l ↔ x ∈ l := (List.mergeSort_perm l _).mem_iff
theorem sortI_asc (l : List Int) : (sortI l).Pairwise (· ≤ ·) := by
  have := List.pairwise_mergeSort (le := fun x y : Int => decide (x ≤ y)) (fun a b c h1 h2 => by simp at *; omega) (fun a b => by simp; omega) l
  exact this.imp fun h => by simpa using h

theorem keeps_iff (d : Array Int) (j : Nat) : Lib.keeps d j = true ↔ j = 0 ∨ d[j]! ≠ d[j - 1]! := by
  simp [Lib.keeps]

theorem compact_asc {l : List Int} (h : l.Pairwise (· ≤ ·)) : (compact_ l).Pairwise (· < ·) := by
  show (Lib.compactUpTo l.toArray l.length).Pairwise (· < ·)
  unfold Lib.compactUpTo
  rw [List.pairwise_map]
  refine List.Pairwise.imp_of_mem ?_ ((List.pairwise_lt_range (n := l.length)).filter _)
  intro i j hi hj hij
  have hi' := List.mem_range.1 (List.mem_filter.1 hi).1
  have hj' := List.mem_range.1 (List.mem_filter.1 hj).1
  have hk := (keeps_iff _ _).1 (List.mem_filter.1 hj).2
  have e1 : l.toArray[i]! = l[i] := by simp [hi']
  have e2 : l.toArray[j]! = l[j] := by simp [hj']
  have e3 : l.toArray[j - 1]! = l[j - 1]'(by omega) := by simp [show j - 1 < l.length by omega]
  rw [e2, e3] at hk
  rw [e1, e2]
  have hp := List.pairwise_iff_getElem.1 h
  have h1 : l[i] ≤ l[j - 1]'(by omega) := by
    by_cases hie : i = j - 1
    · subst hie; exact Int.le_refl _
    · exact hp i (j - 1) hi' (by omega) (by omega)
  have h2 : l[j - 1]'(by omega) ≤ l[j] := hp (j - 1) j (by omega) hj' (by omega)
  omega

theorem compact_has {l : List Int} {x : Int} (h : x ∈ l) : x ∈ compact_ l := by
  show x ∈ Lib.compactUpTo l.toArray l.length
  unfold Lib.compactUpTo
  obtain ⟨i, hi, rfl⟩ := List.getElem_of_mem h
  obtain ⟨j, ⟨hjl, hj⟩, hmin⟩ := least (fun j => ∃ h : j < l.length, l[j] = l[i]) ⟨i, hi, rfl⟩
  refine List.mem_map.2 ⟨j, List.mem_filter.2 ⟨List.mem_range.2 hjl, (keeps_iff _ _).2 ?_⟩, by simp [hjl, hj]⟩
  by_cases h0 : j = 0
  · exact .inl h0
  · right
    intro he
    have e2 : l.toArray[j]! = l[j] := by simp [hjl]
    have e3 : l.toArray[j - 1]! = l[j - 1]'(by omega) := by simp [show j - 1 < l.length by omega]
    rw [e2, e3] at he
    have := hmin (j - 1) ⟨by omega, by rw [← he, hj]⟩
    omega

theorem compact_sort_mem {l : List Int} {x : Int} : x ∈ compact_ (sortI l) ↔ x ∈ l := ⟨fun h => sortI_mem.1 (compact_mem h), fun h => compact_has (sortI_mem.2 h)⟩

/-- the states of a set, ascending -/
def SetOk (g : Gr) (a : List Int) : Prop := a.Pairwise (· < ·) ∧ ∀ x ∈ a, 0 ≤ x ∧ x < g.2.1

/-- all states up to a number -/
def upto (n : Int) : List Int := (List.range n.toNat).map Int.ofNat
theorem mem_upto {n x : Int} : x ∈ upto n ↔ 0 ≤ x ∧ x < n := by
  simp only [upto, List.mem_map, List.mem_range]
  constructor
  · rintro ⟨i, hi, rfl⟩; simp only [Int.ofNat_eq_natCast]; omega
  · rintro ⟨h0, h1⟩; exact ⟨x.toNat, by omega, by simp only [Int.ofNat_eq_natCast]; omega⟩
theorem upto_asc (n : Int) : (upto n).Pairwise (· < ·) := by
  rw [upto, List.pairwise_map]
  exact (List.pairwise_lt_range (n := n.toNat)).imp fun h => by simp only [Int.ofNat_eq_natCast]; omega
theorem upto_len (n : Int) : (upto n).length = n.toNat := by simp [upto]

/-- where a label leads from a set -/
def stepL (g : Gr) (a : List Int) (c : Int) : List Int := (upto g.2.1).filter fun t => g.2.2.any fun e => decide (e.2.2 = t ∧ e.2.1 = c ∧ e.1 ∈ a)
theorem mem_stepL {g : Gr} (hv : VG g) {a : List Int} {c t : Int} : t ∈ stepL g a c ↔ ∃ e ∈ g.2.2, e.2.2 = t ∧ e.2.1 = c ∧ e.1 ∈ a := by
  simp only [stepL, List.mem_filter, List.any_eq_true, decide_eq_true_eq, mem_upto]
  constructor
  · rintro ⟨_, h⟩; exact h
  · rintro ⟨e, he, h1, h2, h3⟩
    have := hv.ed e he
    exact ⟨by omega, e, he, h1, h2, h3⟩
theorem stepL_ok (g : Gr) (a : List Int) (c : Int) : SetOk g (stepL g a c) :=
  ⟨(upto_asc _).filter _, fun x hx => mem_upto.1 (List.mem_filter.1 hx).1⟩
theorem upto_ok (g : Gr) : SetOk g (upto g.2.1) := ⟨upto_asc _, fun x hx => mem_upto.1 hx⟩

theorem setOk_len {g : Gr} {a : List Int} (hv : VG g) (h : SetOk g a) : a.length ≤ 64 := by
  have e : a = (upto g.2.1).filter fun x => decide (x ∈ a) := asc_uniq h.1 ((upto_asc _).filter _) fun x => by
    simp only [List.mem_filter, mem_upto, decide_eq_true_eq]
    exact ⟨fun hx => ⟨h.2 x hx, hx⟩, fun hx => hx.2⟩
  rw [e]
  refine Nat.le_trans (List.length_filter_le _ _) ?_
  rw [upto_len]
  have := hv.s1
  omega

/-- the check of a set -/
theorem checkSet_ok {g : Gr} {a : List Int} (h : SetOk g a) (hm : a.length ≤ 9223372036854775807) : m_graph_checkSet g a = some 0 := by
  unfold m_graph_checkSet
  simp only [jp]
  refine lpL (loop_is (fun i => (i : Int)) a.length (Ou.go ()) (fun i hi => ?_) (by rw [if_neg (not_lt_int _)]) rfl) rfl
  obtain ⟨h0, h1⟩ := h.2 a[i] (List.getElem_mem hi)
  rw [if_pos (lt_int hi), ix hi]
  simp only [Option.bind_some]
  rw [if_neg (by omega)]
  have hd : decide (g.2.1 ≤ a[i]) = false := decide_eq_false (by omega)
  simp only [hd, Bool.false_eq_true, if_false]
  by_cases hz : 0 < i
  · have hlt := List.pairwise_iff_getElem.1 h.1 (i - 1) i (by omega) hi (by omega)
    rw [if_pos (by omega), ix_pred hi hm hz]
    simp only [Option.bind_some]
    have hd2 : decide (a[i] ≤ a[i - 1]'(by omega)) = false := decide_eq_false (by omega)
    simp only [hd2, Bool.false_eq_true, if_false, nx hm hi]
  · rw [if_neg (by omega)]
    simp only [Bool.false_eq_true, if_false, nx hm hi]

/-- what the edges of a state with a label lead to -/
def outL (g : Gr) (s c : Int) : List Int := ((leaveL g.2.2 s).filter fun x => decide (x.2.2.1 = c)).map fun x => x.2.2.2
theorem mem_leaveL {es : List Ed} {s : Int} {x : Ed} : (∃ i, (i, x) ∈ leaveL es s) ↔ x ∈ es ∧ x.1 = s := by
  constructor
  · rintro ⟨i, h⟩
    obtain ⟨p, hp, he⟩ := List.mem_map.1 h
    obtain ⟨hp1, hp2⟩ := List.mem_filter.1 hp
    cases he
    exact ⟨List.fst_mem_of_mem_zipIdx hp1, of_decide_eq_true hp2⟩
  · rintro ⟨hm, hs⟩
    obtain ⟨k, hk, rfl⟩ := List.getElem_of_mem hm
    exact ⟨_, List.mem_map.2 ⟨(es[k], k), List.mem_filter.2 ⟨by rw [List.mem_zipIdx_iff_getElem?]; exact List.getElem?_eq_getElem hk, decide_eq_true hs⟩, rfl⟩⟩
theorem mem_outL {g : Gr} {s c t : Int} : t ∈ outL g s c ↔ ∃ e ∈ g.2.2, e.2.2 = t ∧ e.2.1 = c ∧ e.1 = s := by
  simp only [outL, List.mem_map, List.mem_filter, decide_eq_true_eq]
  constructor
  · rintro ⟨⟨i, x⟩, ⟨hm, hc⟩, rfl⟩
    obtain ⟨h1, h2⟩ := mem_leaveL.1 ⟨i, hm⟩
    exact ⟨x, h1, rfl, hc, h2⟩
  · rintro ⟨x, hx, rfl, hc, hs⟩
    obtain ⟨i, hi⟩ := mem_leaveL.2 ⟨hx, hs⟩
    exact ⟨(i, x), ⟨hi, hc⟩, rfl⟩
theorem outL_len (g : Gr) (s c : Int) : (outL g s c).length ≤ g.2.2.length := by
  simp only [outL, leaveL, List.length_map]
  refine Nat.le_trans (List.length_filter_le _ _) ?_
  rw [List.length_map]
  refine Nat.le_trans (List.length_filter_le _ _) ?_
  simp

theorem fold_out (c : Int) : ∀ (L : List (Int × Ed)) (acc : List Int), L.foldl (fun (a : List Int) (x : Int × Ed) => if x.2.2.1 = c then a ++ [x.2.2.2] else a) acc = acc ++ (L.filter fun x => decide (x.2.2.1 = c)).map fun x => x.2.2.2
  | [], acc => by simp
  | x :: L, acc => by
    rw [List.foldl_cons, fold_out c L]
    by_cases h : x.2.2.1 = c
    · rw [if_pos h, List.filter_cons_of_pos (by simpa using h)]; simp
    · rw [if_neg h, List.filter_cons_of_neg (by simpa using h)]

theorem forL_foldI {S α X : Type} {body : S → α → Option (Stp S X)} (f : S → α → S) (P : Nat → S → Prop) : ∀ (L : List α) (s : S) (k : Nat), (∀ i s x, i < L.length → x ∈ L → P (k + i) s → body s x = some (.next (f s x)) ∧ P (k + i + 1) (f s x)) → P k s → forL body L s = some (.go (L.foldl f s))
  | [], _, _, _, _ => rfl
  | x :: L, s, k, h, hs => by
    obtain ⟨h1, h2⟩ := h 0 s x (by simp) (List.mem_cons_self ..) hs
    simp only [forL, h1]
    exact forL_foldI f P L _ (k + 1) (fun i s y hi hy hP => by
      have e : k + 1 + i = k + (i + 1) := by omega
      rw [e] at hP ⊢
      exact h (i + 1) s y (by simp; omega) (List.mem_cons_of_mem _ hy) hP) h2

theorem fits_le {k n : Nat} (h : n * k ≤ 140737488355328) (h2 : n ≤ 1048576) : fits k n := ⟨h, by simp only [maxLen]; omega⟩

/-- a step of the program -/
theorem Step_eq {g : Gr} (hv : VG g) {a : List Int} (ha : SetOk g a) {c : Int} (h0 : 0 ≤ c) (h1 : c < g.1) : m_graph_Step g a c = some (stepL g a c, 0) := by
  obtain ⟨e, he, hz⟩ := Check_tot g
  have he0 := hz.2 hv
  subst he0
  have hl := setOk_len hv ha
  have hel := hv.el
  unfold m_graph_Step
  rw [Check_ref, he, Option.bind_some, checkSet_ok ha (by omega)]
  simp only [ne_eq, not_true_eq_false, if_false, Option.bind_some, jp]
  rw [if_neg (by omega)]
  have hd : decide (g.1 ≤ c) = false := decide_eq_false (by omega)
  simp only [hd, Bool.false_eq_true, if_false]
  have hy : ∀ x, y_graph_leaving g x = some (leaveL g.2.2 x) := fun x => by unfold y_graph_leaving; rw [if_pos (by omega)]
  have hlen : ∀ i, i ≤ a.length → ((a.take i).flatMap fun s => outL g s c).length ≤ i * 1024 := by
    intro i
    induction i with
    | zero => intro _; simp
    | succ i ih =>
      intro hi
      have := ih (by omega)
      rw [List.take_add_one, List.getElem?_eq_getElem (by omega)]
      simp only [Option.toList_some, List.flatMap_append, List.flatMap_cons, List.flatMap_nil, List.append_nil, List.length_append]
      have h2 := outL_len g a[i] c
      omega
  refine bindL (loop_is (fun i => ((i : Int), (a.take i).flatMap fun s => outL g s c)) a.length (a.flatMap fun s => outL g s c) (fun i hi => ?_) ?_ (by simp)) ?_
  · dsimp only
    rw [if_pos (lt_int hi), ix hi]
    simp only [Option.bind_some, hy]
    have hb := hlen i (by omega)
    have hll : (leaveL g.2.2 a[i]).length ≤ 1024 := by
      simp only [leaveL, List.length_map]
      refine Nat.le_trans (List.length_filter_le _ _) ?_
      simp; omega
    rw [forL_foldI (fun (acc : List Int) (x : Int × Ed) => if x.2.2.1 = c then acc ++ [x.2.2.2] else acc) (fun k s => s.length ≤ i * 1024 + k) _ _ 0 (fun k s x hk hx hP => ?_) (Nat.le_trans hb (Nat.le_add_right _ _))]
    · simp only [lpO, nx (by omega : a.length ≤ _) hi, fold_out, Option.some.injEq, Stp.next.injEq, Prod.mk.injEq, true_and]
      rw [List.take_add_one, List.getElem?_eq_getElem hi]
      simp only [Option.toList_some, List.flatMap_append, List.flatMap_cons, List.flatMap_nil, List.append_nil]
      rfl
    · by_cases hc : x.2.2.1 = c
      · rw [if_pos hc, if_pos hc, if_pos (fits_le (by simp; omega) (by simp; omega))]
        exact ⟨rfl, by simp; omega⟩
      · rw [if_neg hc, if_neg hc]
        exact ⟨rfl, by omega⟩
  · dsimp only
    rw [if_neg (not_lt_int _), List.take_length]
  · have hb := hlen a.length (Nat.le_refl _)
    rw [List.take_length] at hb
    rw [if_pos (by omega)]
    congr 2
    refine asc_uniq (compact_asc (sortI_asc _)) (stepL_ok g a c).1 fun x => ?_
    rw [compact_sort_mem, mem_stepL hv]
    simp only [List.mem_flatMap, mem_outL]
    constructor
    · rintro ⟨s, hs, e, he, h1, h2, rfl⟩; exact ⟨e, he, h1, h2, hs⟩
    · rintro ⟨e, he, h1, h2, hs⟩; exact ⟨_, hs, e, he, h1, h2, rfl⟩
end Go.AW

/- The words of a graph: the reference's lists, and the program's. -/
namespace Go.AW
open Go
set_option linter.unusedSimpArgs false
set_option linter.unusedVariables false

theorem has_eq {l : List Int} (hm : l.length ≤ 9223372036854775807) (n : Int) : m_ref11_has l n = some (decide (n ∈ l)) := by
  unfold m_ref11_has
  refine lpL (loop_any (fun i => (i : Int)) l.length (fun i => decide (l.getD i 0 = n)) (Ou.ret true) (Ou.go ()) (fun i hi => ?_) (by rw [if_neg (not_lt_int _)]) rfl) ?_
  · have e1 : l.getD i 0 = l[i] := by simp [List.getD, hi]
    rw [if_pos (lt_int hi), ix hi]
    simp only [Option.bind_some, nx hm hi, e1, decide_eq_true_eq]
  · by_cases h : n ∈ l
    · obtain ⟨i, hi, he⟩ := List.getElem_of_mem h
      rw [if_pos]
      · simp [lpO, h]
      · exact List.any_eq_true.2 ⟨i, List.mem_range.2 hi, by simp [List.getD, hi, he]⟩
    · rw [if_neg]
      · simp [lpO, h]
      · intro hx
        obtain ⟨i, hi, hp⟩ := List.any_eq_true.1 hx
        have hi := List.mem_range.1 hi
        have e1 : l.getD i 0 = l[i] := by simp [List.getD, hi]
        rw [e1] at hp
        exact h (of_decide_eq_true hp ▸ List.getElem_mem hi)

/-- a step of the reference -/
theorem refStep_eq {g : Gr} (hv : VG g) {a : List Int} (hl : a.length ≤ 9223372036854775807) {c : Int} : m_ref11_Step g a c = some (stepL g a c) := by
  have hel := hv.el
  have hs1 := hv.s1
  have hs0 := hv.s0
  obtain ⟨m, hm⟩ := Int.eq_ofNat_of_zero_le hs0
  have hfl : ∀ i, ((((List.range i).map Int.ofNat).filter fun t => g.2.2.any fun e => decide (e.2.2 = t ∧ e.2.1 = c ∧ e.1 ∈ a)) : List Int).length ≤ i := fun i => Nat.le_trans (List.length_filter_le _ _) (by simp)
  unfold m_ref11_Step
  refine bindL (loop_is (fun i => ((i : Int), ((List.range i).map Int.ofNat).filter fun t => g.2.2.any fun e => decide (e.2.2 = t ∧ e.2.1 = c ∧ e.1 ∈ a))) m (stepL g a c) (fun i hi => ?_) ?_ (by simp)) rfl
  · dsimp only
    rw [if_pos (by omega)]
    simp only [jp]
    have hin : loopW (S := Bool × Int) (X := Bool) (fun a9 =>
              if a9.2 < ((g.2.2).length : Int) then
                (idx g.2.2 a9.2).bind fun x19 =>
                  if x19.2.2 = (i : Int) then
                    (idx g.2.2 a9.2).bind fun x21 =>
                      if x21.2.1 = c then
                        (idx g.2.2 a9.2).bind fun x23 => (m_ref11_has a x23.1).bind fun x25 => if x25 = true then some (Stp.next (true, IntKind.wrap .i64 (a9.2 + 1))) else some (Stp.next (a9.1, IntKind.wrap .i64 (a9.2 + 1)))
                      else if false = true then some (Stp.next (true, IntKind.wrap .i64 (a9.2 + 1))) else some (Stp.next (a9.1, IntKind.wrap .i64 (a9.2 + 1)))
                  else if false = true then some (Stp.next (true, IntKind.wrap .i64 (a9.2 + 1))) else some (Stp.next (a9.1, IntKind.wrap .i64 (a9.2 + 1)))
              else
                some (Stp.exit a9.1)) (false, 0) = some (g.2.2.any fun e => decide (e.2.2 = (i : Int) ∧ e.2.1 = c ∧ e.1 ∈ a)) := by
      refine loop_is (fun k => ((g.2.2.take k).any fun e => decide (e.2.2 = (i : Int) ∧ e.2.1 = c ∧ e.1 ∈ a), (k : Int))) g.2.2.length _ (fun k hk => ?_) ?_ (by simp)
      · dsimp only
        rw [if_pos (lt_int hk), ix hk]
        simp only [Option.bind_some, has_eq hl, nx (by omega : g.2.2.length ≤ _) hk, Bool.false_eq_true, if_false, decide_eq_true_eq]
        have e : (g.2.2.take (k + 1)).any (fun e => decide (e.2.2 = (i : Int) ∧ e.2.1 = c ∧ e.1 ∈ a)) = ((g.2.2.take k).any (fun e => decide (e.2.2 = (i : Int) ∧ e.2.1 = c ∧ e.1 ∈ a)) || decide (g.2.2[k].2.2 = (i : Int) ∧ g.2.2[k].2.1 = c ∧ g.2.2[k].1 ∈ a)) := by
          rw [List.take_add_one, List.getElem?_eq_getElem hk, List.any_append]
          congr 1
          simp
        rw [e]
        by_cases h1 : g.2.2[k].2.2 = (i : Int)
        · by_cases h2 : g.2.2[k].2.1 = c
          · by_cases h3 : g.2.2[k].1 ∈ a
            · simp [h1, h2, h3]
            · simp [h1, h2, h3]
          · simp [h1, h2]
        · simp [h1]
      · dsimp only
        rw [if_neg (not_lt_int _), List.take_length]
    rw [hin]
    simp only [Option.bind_some]
    have er : (List.range (i + 1)).map Int.ofNat = (List.range i).map Int.ofNat ++ [(i : Int)] := by rw [List.range_succ, List.map_append]; rfl
    rw [er, List.filter_append]
    by_cases hb : (g.2.2.any fun e => decide (e.2.2 = (i : Int) ∧ e.2.1 = c ∧ e.1 ∈ a)) = true
    · have := hfl i
      rw [if_pos hb, if_pos (fits_le (by simp only [List.length_cons, List.length_nil]; omega) (by simp only [List.length_cons, List.length_nil]; omega)), nx (by omega : m ≤ _) hi, List.filter_cons_of_pos (by exact hb)]
      rfl
    · rw [if_neg hb, nx (by omega : m ≤ _) hi, List.filter_cons_of_neg (by exact hb)]
      simp
  · dsimp only
    rw [if_neg (by omega)]
    simp only [stepL, upto, hm, Int.toNat_natCast]

theorem All_eq {g : Gr} (hv : VG g) : m_ref11_All g = some (upto g.2.1) := by
  have hs1 := hv.s1
  obtain ⟨m, hm⟩ := Int.eq_ofNat_of_zero_le hv.s0
  unfold m_ref11_All
  refine bindL (loop_is (fun i => ((i : Int), (List.range i).map Int.ofNat)) m (upto g.2.1) (fun i hi => ?_) ?_ (by simp)) rfl
  · dsimp only
    rw [if_pos (by omega), if_pos (fits_le (by simp; omega) (by simp; omega)), nx (by omega : m ≤ _) hi, List.range_succ, List.map_append]
    rfl
  · dsimp only
    rw [if_neg (by omega)]
    simp only [upto, hm, Int.toNat_natCast]
theorem states_eq {g : Gr} (hv : VG g) : m_language_states g = some (upto g.2.1) := by
  have hs1 := hv.s1
  obtain ⟨m, hm⟩ := Int.eq_ofNat_of_zero_le hv.s0
  unfold m_language_states
  rw [if_pos (by omega)]
  simp only [hm, Int.toNat_natCast, List.length_replicate]
  refine bindL (loop_is (fun i => ((i : Int), (List.range i).map Int.ofNat ++ List.replicate (m - i) (0 : Int))) m (upto m) (fun i hi => ?_) ?_ (by simp)) rfl
  · dsimp only
    have hlen : ((List.range i).map Int.ofNat ++ List.replicate (m - i) (0 : Int)).length = m := by simp; omega
    rw [if_pos (lt_int hi), ix (by omega)]
    simp only [Option.bind_some, nx (by omega : m ≤ _) hi, Int.toNat_natCast]
    congr 3
    rw [List.set_append_right _ _ (by simp), List.range_succ, List.map_append]
    have e : m - i = (m - (i + 1)) + 1 := by omega
    simp only [List.length_map, List.length_range, Nat.sub_self, e, List.replicate_succ, List.set_cons_zero]
    simp
  · dsimp only
    rw [if_neg (not_lt_int _)]
    simp [upto]
end Go.AW

/- The words of a length: the program's list, the reference's list, and their order. -/
namespace Go.AW
open Go
set_option linter.unusedSimpArgs false
set_option linter.unusedVariables false

theorem letters_len : letters.length = 16 := rfl
theorem idx_letter {i : Nat} (h : i < letters.length) : Lib.indexByte letters letters[i] = (i : Int) := by
  have : ∀ j : Fin 16, Lib.indexByte letters (letters[j.1]'j.2) = (j.1 : Int) := by decide
  exact this ⟨i, h⟩
theorem byte_back (c : UInt8) : ((c.toNat : Int).toNat.toUInt8) = c := by simp

/-- the letters of a graph -/
def lets (g : Gr) : List UInt8 := letters.take g.1.toNat

section
variable {g : Gr}
theorem lets_len (hv : VG g) (h16 : g.1 ≤ 16) : (lets g).length = g.1.toNat := by
  have := hv.l1
  rw [lets, List.length_take, letters_len]; omega
theorem lstep_eq (hv : VG g) {a : List Int} (ha : SetOk g a) {i : Nat} (h : i < letters.length) (hi : (i : Int) < g.1) : m_language_step g a ((letters[i]).toNat : Int) = some (stepL g a i) := by
  unfold m_language_step m_strings_IndexByte
  simp only [byte_back, Option.bind_some]
  have e : Lib.indexByte [48, 49, 50, 51, 52, 53, 54, 55, 56, 57, 97, 98, 99, 100, 101, 102] letters[i] = (i : Int) := idx_letter h
  rw [e, Step_eq hv ha (by omega) hi]
  rfl
theorem stpM_eq (hv : VG g) {a : List Int} (ha : SetOk g a) {i : Nat} (h : i < letters.length) (hi : (i : Int) < g.1) : stpM g a letters[i] = stepL g a i := by
  unfold stpM; rw [lstep_eq hv ha h hi]; rfl
theorem mem_lets {c : UInt8} (h : c ∈ letters.take g.1.toNat) : ∃ (i : Nat) (hi : i < letters.length), (i : Int) < g.1 ∧ letters[i] = c := by
  obtain ⟨i, hi, rfl⟩ := List.mem_take_iff_getElem.1 h
  have h1 : i < g.1.toNat := by omega
  exact ⟨i, by omega, by omega, rfl⟩
theorem stpM_ok (hv : VG g) {a : List Int} {c : UInt8} (ha : SetOk g a) (hc : c ∈ letters.take g.1.toNat) : SetOk g (stpM g a c) := by
  obtain ⟨i, hi, hg, rfl⟩ := mem_lets hc
  rw [stpM_eq hv ha hi hg]
  exact stepL_ok g a i
theorem stepsOk (hv : VG g) {set : List Int} (hs : SetOk g set) : StepsOk g set := ⟨SetOk g, hs, fun a c ha hc => by
  obtain ⟨i, hi, hg, rfl⟩ := mem_lets hc
  exact ⟨_, lstep_eq hv ha hi hg, stepL_ok g a i⟩⟩

/-- the words of a length of paths from a set, each with its ends -/
noncomputable def LV (g : Gr) (set : List Int) (n : Nat) : List WS := lvl (stpM g) (letters.take g.1.toNat) set n
noncomputable def OKL (g : Gr) (set : List Int) (n : Nat) : Bool := okLvl (stpM g) (letters.take g.1.toNat) set n

theorem list_eq (hv : VG g) (h16 : g.1 ≤ 16) {set : List Int} (hs : SetOk g set) {n : Nat} : m_language_list g set (n : Int) = some (if OKL g set n = true then (LV g set n, true) else ([], false)) := by
  unfold m_language_list
  have := hv.l1
  rw [if_pos ⟨by omega, h16, by omega, stepsOk hv hs⟩]
  rfl
theorem LV_set (hv : VG g) {set : List Int} (hs : SetOk g set) {n : Nat} {x : WS} (h : x ∈ LV g set n) : SetOk g x.2 := lvl_all hs (fun a c ha hc => stpM_ok hv ha hc) n x h
theorem LV_len {set : List Int} {n : Nat} {x : WS} (h : x ∈ LV g set n) : x.1.length = n := lvl_len n x h
theorem OKL_iff {set : List Int} {n : Nat} : OKL g set n = true ↔ ∀ j, 1 ≤ j → j ≤ n → (LV g set j).length ≤ 4096 := okLvl_iff

theorem ext1_len (stp : List Int → UInt8 → List Int) (cs : List UInt8) (x : WS) : (ext1 stp cs x).length ≤ cs.length := List.length_filterMap_le _ _
theorem flat_len (stp : List Int → UInt8 → List Int) (cs : List UInt8) : ∀ l : List WS, (l.flatMap (ext1 stp cs)).length ≤ l.length * cs.length
  | [] => by simp
  | x :: l => by
    have h1 := flat_len stp cs l
    have h2 := ext1_len stp cs x
    rw [List.flatMap_cons, List.length_append, List.length_cons, Nat.succ_mul]
    omega

theorem one_letter {k : Nat} (h : k < letters.length) : (letters.take (k + 1)).drop k = [letters[k]] := by
  rw [List.take_add_one, List.getElem?_eq_getElem h, List.drop_left' (by rw [List.length_take]; omega)]
  rfl

theorem grow_eq (hv : VG g) (h16 : g.1 ≤ 16) {l : List WS} (hl : l.length ≤ 4096) (hs : ∀ x ∈ l, SetOk g x.2) (hw : ∀ x ∈ l, x.1.length ≤ 1000000) : m_ref11_grow g l = some (l.flatMap (ext1 (stpM g) (letters.take g.1.toNat))) := by
  have h1 := hv.l1
  obtain ⟨L, hL⟩ := Int.eq_ofNat_of_zero_le (show 0 ≤ g.1 by omega)
  have hL16 : L ≤ letters.length := by rw [letters_len]; omega
  have htn : g.1.toNat = L := by omega
  unfold m_ref11_grow
  rw [htn]
  have hb : ∀ i, ((l.take i).flatMap (ext1 (stpM g) (letters.take L))).length ≤ 65536 := fun i => by
    have h2 := flat_len (stpM g) (letters.take L) (l.take i)
    have h3 : (l.take i).length ≤ 4096 := by rw [List.length_take]; omega
    have h4 : (letters.take L).length ≤ 16 := by rw [List.length_take, letters_len]; omega
    exact Nat.le_trans h2 (Nat.le_trans (Nat.mul_le_mul h3 h4) (by decide))
  refine bindL (loop_is (fun i => ((i : Int), (l.take i).flatMap (ext1 (stpM g) (letters.take L)))) l.length (l.flatMap (ext1 (stpM g) (letters.take L))) (fun i hi => ?_) ?_ (by simp)) rfl
  · dsimp only
    rw [if_pos (lt_int hi)]
    have hsx := hs _ (List.getElem_mem hi)
    have hlx := setOk_len hv hsx
    refine bindL (loop_is (fun k => ((k : Int), (l.take i).flatMap (ext1 (stpM g) (letters.take L)) ++ ext1 (stpM g) (letters.take k) l[i])) L ((l.take i).flatMap (ext1 (stpM g) (letters.take L)) ++ ext1 (stpM g) (letters.take L) l[i]) (fun k hk => ?_) ?_ (by simp [ext1])) ?_
    · dsimp only
      have hk16 : k < letters.length := by omega
      have hk16' : k < 16 := hk16
      rw [if_pos (by omega), ix hi]
      simp only [jp, Option.bind_some, refStep_eq hv (show (l[i]).2.length ≤ 9223372036854775807 by omega), nx (by omega : L ≤ _) hk]
      have hst := stpM_eq hv hsx hk16 (by omega : (k : Int) < g.1)
      have htk := ext1_take (stp := stpM g) (cs := letters) l[i] hk16
      rw [hst] at htk
      by_cases he : stepL g (l[i]).2 (k : Int) = []
      · rw [if_neg (by rw [he]; simp)]
        rw [htk, if_pos he, List.append_nil]
      · have hpos : 0 < ((stepL g (l[i]).2 (k : Int)).length : Int) := by
          have := List.length_pos_iff.2 he
          omega
        rw [if_pos hpos]
        have e16 : ([48, 49, 50, 51, 52, 53, 54, 55, 56, 57, 97, 98, 99, 100, 101, 102] : List UInt8) = letters := rfl
        rw [e16, if_pos (by rw [letters_len]; omega)]
        simp only [Int.toNat_natCast, one_letter hk16]
        have hwl := hw _ (List.getElem_mem hi)
        have he1 := ext1_len (stpM g) (letters.take k) l[i]
        have he2 : (letters.take k).length ≤ 16 := by rw [List.length_take, letters_len]; omega
        have hbi := hb i
        rw [if_pos (by simp only [List.length_cons, List.length_nil, maxLen]; omega), if_pos (fits_le (by simp only [List.length_append, List.length_cons, List.length_nil]; omega) (by simp only [List.length_append, List.length_cons, List.length_nil]; omega))]
        rw [htk, if_neg he, List.append_assoc]
    · dsimp only
      rw [if_neg (by omega)]
    · simp only [nx (by omega : l.length ≤ _) hi]
      rw [List.take_add_one, List.getElem?_eq_getElem hi]
      simp only [Option.toList_some, List.flatMap_append, List.flatMap_cons, List.flatMap_nil, List.append_nil]
  · dsimp only
    rw [if_neg (not_lt_int _), List.take_length]

theorem LV_zero (g : Gr) (set : List Int) : (LV g set 0).length ≤ 1 := by
  unfold LV lvl; split <;> simp

theorem refwords_eq (hv : VG g) (h16 : g.1 ≤ 16) {set : List Int} (hs : SetOk g set) {n : Nat} (hn : n ≤ 4096) : m_ref11_words g set n = some (if OKL g set n = true then (LV g set n, 0) else ([], 4)) := by
  unfold m_ref11_words
  simp only [jp]
  have key : ∀ (l0 : List WS), l0 = LV g set 0 → lpO (loopW (S := List TWordEnds × Int) (X := Ou (List TWordEnds) (List TWordEnds × Int)) (fun a5 =>
      if a5.2 < (n : Int) then
        if decide (0 < ((a5.1).length : Int)) = true then
          (m_ref11_grow g a5.1).bind fun x12 => if 4096 < ((x12).length : Int) then some (Stp.exit (Ou.ret ([], 4))) else some (Stp.next (x12, IntKind.wrap .i64 (a5.2 + 1)))
        else some (Stp.exit (Ou.go a5.1))
      else if false = true then
          (m_ref11_grow g a5.1).bind fun x12 => if 4096 < ((x12).length : Int) then some (Stp.exit (Ou.ret ([], 4))) else some (Stp.next (x12, IntKind.wrap .i64 (a5.2 + 1)))
        else some (Stp.exit (Ou.go a5.1))) (l0, 0)) (fun a15 => some (a15, 0)) some = some (if OKL g set n = true then (LV g set n, 0) else ([], 4)) := by
    intro l0 hl0
    have hx : ∃ x, loopW (S := List TWordEnds × Int) (X := Ou (List TWordEnds) (List TWordEnds × Int)) (fun a5 =>
      if a5.2 < (n : Int) then
        if decide (0 < ((a5.1).length : Int)) = true then
          (m_ref11_grow g a5.1).bind fun x12 => if 4096 < ((x12).length : Int) then some (Stp.exit (Ou.ret ([], 4))) else some (Stp.next (x12, IntKind.wrap .i64 (a5.2 + 1)))
        else some (Stp.exit (Ou.go a5.1))
      else if false = true then
          (m_ref11_grow g a5.1).bind fun x12 => if 4096 < ((x12).length : Int) then some (Stp.exit (Ou.ret ([], 4))) else some (Stp.next (x12, IntKind.wrap .i64 (a5.2 + 1)))
        else some (Stp.exit (Ou.go a5.1))) (l0, 0) = some x ∧ ((x = .go (LV g set n) ∧ OKL g set n = true) ∨ (x = .ret ([], 4) ∧ ¬ OKL g set n = true)) := by
      refine loopN n (fun i s => s = (LV g set i, (i : Int)) ∧ ∀ j, 1 ≤ j → j ≤ i → (LV g set j).length ≤ 4096) ?_ ?_ 0 _ (Nat.zero_le _) ⟨by rw [hl0]; rfl, fun j h1 h2 => by omega⟩
      · rintro i s hi ⟨rfl, hj⟩
        dsimp only
        rw [if_pos (lt_int hi)]
        by_cases h0 : LV g set i = []
        · rw [if_neg (by rw [h0]; simp)]
          have hnil : ∀ j, i ≤ j → LV g set j = [] := fun j h => lvl_nil h0 h
          refine .inr ⟨_, rfl, .inl ⟨by rw [h0, hnil n (by omega)], OKL_iff.2 fun j h1 h2 => ?_⟩⟩
          by_cases h : j ≤ i
          · exact hj j h1 h
          · rw [hnil j (by omega)]; simp
        · have hpos : 0 < (LV g set i).length := List.length_pos_iff.2 h0
          rw [if_pos (decide_eq_true (by omega))]
          have hl : (LV g set i).length ≤ 4096 := by
            by_cases hi0 : i = 0
            · subst hi0; have := LV_zero g set; omega
            · exact hj i (by omega) (Nat.le_refl _)
          rw [grow_eq hv h16 hl (fun x hx => LV_set hv hs hx) (fun x hx => by rw [LV_len hx]; omega)]
          simp only [Option.bind_some]
          have e : (LV g set i).flatMap (ext1 (stpM g) (letters.take g.1.toNat)) = LV g set (i + 1) := rfl
          rw [e]
          by_cases h4 : 4096 < (LV g set (i + 1)).length
          · rw [if_pos (by omega)]
            refine .inr ⟨_, rfl, .inr ⟨rfl, fun hok => ?_⟩⟩
            have := OKL_iff.1 hok (i + 1) (by omega) (by omega)
            omega
          · rw [if_neg (by omega)]
            refine .inl ⟨_, rfl, by rw [nx (by omega : n ≤ _) hi], fun j h1 h2 => ?_⟩
            by_cases h : j ≤ i
            · exact hj j h1 h
            · have : j = i + 1 := by omega
              subst this; omega
      · rintro s ⟨rfl, hj⟩
        dsimp only
        rw [if_neg (not_lt_int _), if_neg (by simp)]
        exact ⟨_, rfl, .inl ⟨rfl, OKL_iff.2 hj⟩⟩
    obtain ⟨x, hx, ⟨rfl, hok⟩ | ⟨rfl, hok⟩⟩ := hx
    · rw [hx, if_pos hok]; rfl
    · rw [hx, if_neg hok]; rfl
  by_cases h0 : set = []
  · rw [if_neg (by rw [h0]; simp)]
    exact key [] (by unfold LV lvl; rw [if_pos h0])
  · have hpos : 0 < set.length := List.length_pos_iff.2 h0
    rw [if_pos (by omega), if_pos (fits_le (by simp) (by simp))]
    exact key _ (by unfold LV lvl; rw [if_neg h0]; rfl)

theorem texts_eq {l : List WS} (hl : l.length ≤ 1000000) : m_ref11_texts l = some (l.map Prod.fst) := by
  unfold m_ref11_texts
  refine bindL (loop_is (fun i => ((i : Int), (l.take i).map Prod.fst)) l.length (l.map Prod.fst) (fun i hi => ?_) ?_ (by simp)) rfl
  · dsimp only
    rw [if_pos (lt_int hi), ix hi]
    simp only [Option.bind_some]
    rw [if_pos (fits_le (by simp; omega) (by simp; omega)), nx (by omega : l.length ≤ _) hi, List.take_add_one, List.getElem?_eq_getElem hi, List.map_append]
    rfl
  · dsimp only
    rw [if_neg (not_lt_int _), List.take_length]

/-! ### order -/
theorem u8_irr (a : UInt8) : ¬ a < a := UInt8.lt_irrefl a
theorem app_lt {u v : List UInt8} : ∀ (w : List UInt8), u < v → w ++ u < w ++ v
  | [], h => h
  | a :: w, h => List.cons_lt_cons_iff.2 (.inr ⟨rfl, app_lt w h⟩)
theorem lt_app : ∀ {u v : List UInt8} (x y : List UInt8), u.length = v.length → u < v → u ++ x < v ++ y
  | [], [], _, _, _, h => by cases h
  | [], _ :: _, _, _, hl, _ => by cases hl
  | _ :: _, [], _, _, hl, _ => by cases hl
  | a :: u, b :: v, x, y, hl, h => by
    rcases List.cons_lt_cons_iff.1 h with h1 | ⟨h0, h1⟩
    · exact List.cons_lt_cons_iff.2 (.inl h1)
    · exact List.cons_lt_cons_iff.2 (.inr ⟨h0, lt_app x y (by simpa using hl) h1⟩)
theorem lt_irr : ∀ (u : List UInt8), ¬ u < u
  | [], h => by cases h
  | a :: u, h => by
    rcases List.cons_lt_cons_iff.1 h with h | ⟨_, h⟩
    · exact u8_irr a h
    · exact lt_irr u h
theorem lvl_asc {stp : List Int → UInt8 → List Int} {cs : List UInt8} {set : List Int} (hcs : cs.Pairwise (· < ·)) : ∀ i, (lvl stp cs set i).Pairwise (fun x y => x.1 < y.1)
  | 0 => by simp only [lvl]; split <;> simp
  | i + 1 => by
    simp only [lvl]
    rw [List.pairwise_flatMap]
    refine ⟨fun x hx => ?_, (lvl_asc hcs i).imp_of_mem fun {x y} hx hy hxy a ha b hb => ?_⟩
    · unfold ext1
      rw [List.pairwise_filterMap]
      refine hcs.imp fun {c d} hcd y hy z hz => ?_
      split at hy
      · cases hy
      · split at hz
        · cases hz
        · cases hy; cases hz
          exact app_lt _ (List.cons_lt_cons_iff.2 (.inl hcd))
    · obtain ⟨c, _, _, rfl⟩ := mem_ext1.1 ha
      obtain ⟨d, _, _, rfl⟩ := mem_ext1.1 hb
      exact lt_app _ _ (by rw [lvl_len i x hx, lvl_len i y hy]) hxy
theorem letters_asc : letters.Pairwise (· < ·) := by decide
theorem LV_asc (g : Gr) (set : List Int) (n : Nat) : ((LV g set n).map Prod.fst).Pairwise (· < ·) := by
  rw [List.pairwise_map]
  exact lvl_asc (letters_asc.sublist (List.take_sublist _ _)) n
theorem sortS_id {l : List (List UInt8)} (h : l.Pairwise (· < ·)) : sortS l = l := sortS_eq (List.Perm.refl l) (h.imp fun h => decide_eq_true (List.le_of_lt h))

/-! ### Words -/
theorem lengths_ref (g : Gr) (n : Int) : m_language_lengths g n = m_ref11_checkNumber g n := by
  unfold m_language_lengths m_ref11_checkNumber m_language_check m_ref11_check
  rw [Check_ref]

theorem checkNumber_tot (g : Gr) (n : Int) : ∃ e, m_ref11_checkNumber g n = some e ∧ (e = 0 ↔ VG g ∧ g.1 ≤ 16 ∧ 0 ≤ n ∧ n ≤ 4096) := by
  obtain ⟨e, he, hz⟩ := Check_tot g
  unfold m_ref11_checkNumber m_ref11_check
  rw [he]
  simp only [Option.bind_some, jp]
  by_cases h0 : e = 0
  · have hv := hz.1 h0
    rw [if_neg (by omega : ¬ e ≠ 0)]
    by_cases h1 : 16 < g.1
    · exact ⟨12, by simp [h1], by simp; omega⟩
    · simp only [if_neg h1, Option.bind_some, ne_eq, not_true_eq_false, if_false]
      by_cases h2 : n < 0
      · exact ⟨2, by simp [h2], by simp; omega⟩
      · by_cases h3 : 4096 < n
        · exact ⟨2, by simp [h2, h3], by simp; omega⟩
        · exact ⟨0, by simp [h2, h3], by simp [hv]; omega⟩
  · have hv : ¬ VG g := fun v => h0 (hz.2 v)
    rw [if_pos h0]
    exact ⟨1, by simp, by simp [hv]⟩

/-- the words of a length -/
noncomputable def wordsE (g : Gr) (n : Int) : List (List UInt8) := (LV g (upto g.2.1) n.toNat).map Prod.fst

theorem Words_both (g : Gr) (n : Int) : ∃ r, m_language_Words g n = some r ∧ m_ref11_Words g n = some r ∧ (r.2 = 0 → (VG g ∧ g.1 ≤ 16 ∧ 0 ≤ n ∧ n ≤ 4096 ∧ OKL g (upto g.2.1) n.toNat = true) ∧ r.1 = wordsE g n) ∧
    (VG g → g.1 ≤ 16 → 0 ≤ n → n ≤ 4096 → OKL g (upto g.2.1) n.toNat = true → r.2 = 0) := by
  obtain ⟨e, he, hz⟩ := checkNumber_tot g n
  unfold m_language_Words m_ref11_Words
  rw [lengths_ref, he]
  simp only [Option.bind_some]
  by_cases h0 : e = 0
  · obtain ⟨hv, h16, hn0, hn1⟩ := hz.1 h0
    have hs := upto_ok g
    obtain ⟨m, hm⟩ := Int.eq_ofNat_of_zero_le hn0
    have hn : ¬ e ≠ 0 := by omega
    rw [if_neg hn, if_neg hn, states_eq hv, All_eq hv]
    subst hm
    simp only [Option.bind_some, list_eq hv h16 hs, refwords_eq hv h16 hs (by omega : m ≤ 4096), Int.toNat_natCast]
    by_cases hok : OKL g (upto g.2.1) m = true
    · simp only [if_pos hok, if_true, ne_eq, not_true_eq_false, if_false]
      have hl : (LV g (upto g.2.1) m).length ≤ 4096 := by
        by_cases hm0 : m = 0
        · subst hm0; have := LV_zero g (upto g.2.1); omega
        · exact OKL_iff.1 hok m (by omega) (Nat.le_refl _)
      rw [texts_eq (by omega), sortS_id (LV_asc g _ m)]
      exact ⟨_, rfl, rfl, fun _ => ⟨⟨hv, h16, hn0, hn1, hok⟩, by simp [wordsE]⟩, fun _ _ _ _ _ => rfl⟩
    · simp only [if_neg hok, if_neg (show ¬ false = true by simp)]
      exact ⟨([], 4), rfl, (by simp), (fun h => by cases h), fun _ _ _ _ h => absurd h hok⟩
  · rw [if_pos h0, if_pos h0]
    exact ⟨_, rfl, rfl, fun h => absurd h h0, fun h1 h2 h3 h4 _ => absurd (hz.2 ⟨h1, h2, h3, h4⟩) h0⟩
end
end Go.AW

/- Reading words in graphs: ends of words, and the law of factors. -/
namespace Go.AW
open Go
set_option linter.unusedSimpArgs false
set_option linter.unusedVariables false

/-- the number of a letter -/
def lab (c : UInt8) : Int := Lib.indexByte letters c

theorem idxB_neg : ∀ {l : List UInt8} {c : UInt8}, Lib.indexByte l c < 0 ↔ c ∉ l
  | [], c => by simp [Lib.indexByte]
  | b :: l, c => by
    have h := @idxB_neg l c
    have hg := Lib.indexByte_ge l c
    simp only [Lib.indexByte, List.mem_cons, not_or]
    by_cases e : b = c
    · subst e; simp
    · have e1 : (b == c) = false := by simpa using e
      simp only [e1, Bool.false_eq_true, if_false]
      by_cases e2 : Lib.indexByte l c = -1
      · have := h.1 (by omega)
        simp only [e2, beq_self_eq_true, if_true]
        exact ⟨fun _ => ⟨fun e' => e e'.symm, this⟩, fun _ => by decide⟩
      · have e3 : (Lib.indexByte l c == -1) = false := by simpa using e2
        simp only [e3, Bool.false_eq_true, if_false]
        exact ⟨fun h' => by omega, fun h' => by have := h.2 h'.2; omega⟩

theorem known_eq (L : Int) : m_word_known L = some (decide (1 ≤ L ∧ L ≤ 16)) := by
  unfold m_word_known
  simp only [jp]
  by_cases h1 : 1 ≤ L
  · rw [if_pos h1]; simp [h1]
  · rw [if_neg h1]; simp [h1]

theorem wcheck (L : Int) (w : List UInt8) : ∃ e, m_word_Check L w = some e ∧ (e = 0 ↔ (1 ≤ L ∧ L ≤ 16) ∧ w.length ≤ 65536 ∧ ∀ c ∈ w, c ∈ letters.take L.toNat) := by
  unfold m_word_Check
  rw [known_eq]
  simp only [Option.bind_some]
  by_cases h1 : 1 ≤ L ∧ L ≤ 16
  case neg =>
    rw [if_pos (by rw [decide_eq_false h1]; rfl)]
    exact ⟨12, rfl, by simp [h1]⟩
  rw [if_neg (by rw [decide_eq_true h1]; decide)]
  by_cases h2 : 65536 < (w.length : Int)
  · rw [if_pos h2]
    exact ⟨4, rfl, by simp; omega⟩
  rw [if_neg h2]
  have hx : ∀ c : UInt8, m_strings_IndexByte ((([48, 49, 50, 51, 52, 53, 54, 55, 56, 57, 97, 98, 99, 100, 101, 102] : List UInt8).take L.toNat).drop (0 : Int).toNat) (c.toNat : Int) = some (Lib.indexByte (letters.take L.toNat) c) := fun c => by
    unfold m_strings_IndexByte
    rw [byte_back]
    rfl
  have hl := loop_any (body := fun a3 => if a3 < ((w).length : Int) then
            if 0 ≤ (0 : Int) ∧ (0 : Int) ≤ L ∧ L ≤ (([48, 49, 50, 51, 52, 53, 54, 55, 56, 57, 97, 98, 99, 100, 101, 102] : List UInt8).length : Int) then
              (idx w a3).bind fun x8 =>
              (m_strings_IndexByte ((([48, 49, 50, 51, 52, 53, 54, 55, 56, 57, 97, 98, 99, 100, 101, 102] : List UInt8).take (L).toNat).drop (0 : Int).toNat) (x8.toNat : Int)).bind fun x10 =>
              if x10 < 0 then
                some (Stp.exit (Ou.ret 13))
              else
                some (Stp.next (IntKind.wrap .i64 (a3 + 1)))
            else none
          else
            some (Stp.exit (Ou.go ()))) (fun i => (i : Int)) w.length (fun i => decide (Lib.indexByte (letters.take L.toNat) (w.getD i 0) < 0)) (Ou.ret (13 : Int)) (Ou.go ()) (fun i hi => by
      have e1 : w.getD i 0 = w[i] := by simp [List.getD, hi]
      rw [if_pos (lt_int hi), if_pos ⟨by decide, by omega, by show L ≤ (16 : Int); omega⟩, ix hi]
      simp only [Option.bind_some, hx, nx (by omega : w.length ≤ _) hi, e1, decide_eq_true_eq]) (by rw [if_neg (not_lt_int _)]) (s0 := (0 : Int)) rfl
  rw [hl]
  by_cases hw : ∀ c ∈ w, c ∈ letters.take L.toNat
  · rw [if_neg]
    · exact ⟨0, rfl, by simp only [true_iff]; exact ⟨h1, by omega, hw⟩⟩
    · intro ha
      obtain ⟨i, hi, hp⟩ := List.any_eq_true.1 ha
      have hi := List.mem_range.1 hi
      have e1 : w.getD i 0 = w[i] := by simp [List.getD, hi]
      rw [e1] at hp
      exact idxB_neg.1 (of_decide_eq_true hp) (hw _ (List.getElem_mem hi))
  · rw [if_pos]
    · exact ⟨13, rfl, by simp only [show ¬ (13 : Int) = 0 by decide, false_iff]; exact fun h => hw h.2.2⟩
    · apply Classical.byContradiction
      intro hno
      refine hw fun c hc => ?_
      obtain ⟨i, hi, rfl⟩ := List.getElem_of_mem hc
      apply Classical.byContradiction
      intro hn
      refine hno (List.any_eq_true.2 ⟨i, List.mem_range.2 hi, ?_⟩)
      have e1 : w.getD i 0 = w[i] := by simp [List.getD, hi]
      rw [e1]
      exact decide_eq_true (idxB_neg.2 hn)

theorem lcheck_tot (g : Gr) : ∃ e, m_language_check g = some e ∧ (e = 0 ↔ VG g ∧ g.1 ≤ 16) := by
  obtain ⟨e, he, hz⟩ := Check_tot g
  unfold m_language_check
  rw [Check_ref, he]
  simp only [Option.bind_some]
  by_cases h0 : e = 0
  · rw [if_neg (by omega)]
    by_cases h1 : 16 < g.1
    · rw [if_pos h1]; exact ⟨12, rfl, by simp; intro _; omega⟩
    · rw [if_neg h1]; exact ⟨0, rfl, by simp only [true_iff]; exact ⟨hz.1 h0, by omega⟩⟩
  · rw [if_pos h0]
    exact ⟨1, rfl, by simp; intro hv; exact absurd (hz.2 hv) h0⟩

/-- a word over the letters of a graph -/
def WOk (g : Gr) (w : List UInt8) : Prop := w.length ≤ 65536 ∧ ∀ c ∈ w, c ∈ lets g

theorem spells_tot (g : Gr) (w : List UInt8) : ∃ e, m_language_spells g w = some e ∧ (e = 0 ↔ VG g ∧ g.1 ≤ 16 ∧ WOk g w) := by
  obtain ⟨e, he, hz⟩ := lcheck_tot g
  obtain ⟨f, hf, hy⟩ := wcheck g.1 w
  unfold m_language_spells
  rw [he]
  simp only [Option.bind_some, hf]
  by_cases h0 : e = 0
  · rw [if_neg (by omega)]
    obtain ⟨hv, h16⟩ := hz.1 h0
    exact ⟨f, rfl, hy.trans ⟨fun h => ⟨hv, h16, h.2⟩, fun h => ⟨⟨hv.l1, h16⟩, h.2.2⟩⟩⟩
  · rw [if_pos h0]
    exact ⟨e, rfl, ⟨fun h => absurd h h0, fun h => absurd (hz.2 ⟨h.1, h.2.1⟩) h0⟩⟩

section
variable {g : Gr}

theorem lab_mem {c : UInt8} (h : c ∈ lets g) : ∃ (i : Nat) (hi : i < letters.length), (i : Int) < g.1 ∧ letters[i] = c ∧ lab c = i := by
  obtain ⟨i, hi, hg, rfl⟩ := mem_lets h
  exact ⟨i, hi, hg, rfl, idx_letter hi⟩
theorem step_lab (hv : VG g) {a : List Int} (ha : SetOk g a) {c : UInt8} (hc : c ∈ lets g) : m_language_step g a (c.toNat : Int) = some (stepL g a (lab c)) := by
  obtain ⟨i, hi, hg, rfl, e⟩ := lab_mem hc
  rw [e]
  exact lstep_eq hv ha hi hg

/-- the ends of a word -/
def endsL (g : Gr) (a : List Int) (w : List UInt8) : List Int := w.foldl (fun a c => stepL g a (lab c)) a
theorem endsL_cons (a : List Int) (c : UInt8) (w : List UInt8) : endsL g a (c :: w) = endsL g (stepL g a (lab c)) w := rfl
theorem endsL_app (a : List Int) (u v : List UInt8) : endsL g a (u ++ v) = endsL g (endsL g a u) v := List.foldl_append ..
theorem stepL_nil (c : Int) : stepL g [] c = [] := by simp [stepL]
theorem endsL_ok {a : List Int} (ha : SetOk g a) : ∀ w, SetOk g (endsL g a w) := fun w => by
  induction w generalizing a with
  | nil => exact ha
  | cons c w ih => exact ih (stepL_ok g a _)
theorem every_eq (hv : VG g) (h8 : g.2.1 ≤ 8) : m_law11_every g = some (upto g.2.1) := by
  obtain ⟨m, hm⟩ := Int.eq_ofNat_of_zero_le hv.s0
  have e : min g.2.1 8 = (m : Int) := by omega
  unfold m_law11_every
  rw [e]
  refine bindL (loop_is (fun i => ((i : Int), (List.range i).map Int.ofNat)) m (upto g.2.1) (fun i hi => ?_) ?_ (by simp)) rfl
  · dsimp only
    rw [if_pos (by omega), if_pos (fits_le (by simp; omega) (by simp; omega)), nx (by omega : m ≤ _) hi, List.range_succ, List.map_append]
    rfl
  · dsimp only
    rw [if_neg (by omega)]
    simp only [upto, hm, Int.toNat_natCast]
end

theorem Great_tot (g : Gr) : ∃ b, m_ref11_Great g = some b ∧ (b = false → (g.2.1 ≤ 8 ∨ 64 < g.2.1) ∧ (g.2.2.length ≤ 30 ∨ 1024 < g.2.2.length) ∧ g.2.2.length ≤ 1027) := by
  unfold m_ref11_Great
  simp only [jp]
  by_cases h1 : 8 < g.2.1
  · rw [if_pos h1]
    by_cases h2 : g.2.1 ≤ 64
    · rw [if_pos h2]; exact ⟨true, rfl, by simp⟩
    rw [if_neg h2]
    by_cases h3 : 30 < (g.2.2.length : Int)
    · rw [if_pos h3]
      by_cases h4 : (g.2.2.length : Int) ≤ 1024
      · rw [if_pos h4]; exact ⟨true, rfl, by simp⟩
      · rw [if_neg h4]; exact ⟨_, rfl, by simp; omega⟩
    · rw [if_neg h3]; exact ⟨_, rfl, by simp; omega⟩
  · rw [if_neg h1]
    by_cases h3 : 30 < (g.2.2.length : Int)
    · rw [if_pos h3]
      by_cases h4 : (g.2.2.length : Int) ≤ 1024
      · rw [if_pos h4]; exact ⟨true, rfl, by simp⟩
      · rw [if_neg h4]; exact ⟨_, rfl, by simp; omega⟩
    · rw [if_neg h3]; exact ⟨_, rfl, by simp; omega⟩

theorem fine_tot (g : Gr) : ∃ b, m_law11_fine g = some b ∧ (b = true → VG g ∧ g.1 ≤ 16 ∧ g.2.1 ≤ 8 ∧ g.2.2.length ≤ 30) := by
  obtain ⟨b, hb, hb2⟩ := Great_tot g
  obtain ⟨e, he, hz⟩ := Check_tot g
  unfold m_law11_fine
  rw [hb, Check_ref, he]
  simp only [jp, Option.bind_some]
  cases b with
  | true => exact ⟨false, rfl, by simp⟩
  | false =>
    rw [if_pos (by rfl)]
    by_cases h0 : e = 0
    · rw [if_pos h0]
      refine ⟨_, rfl, fun h => ?_⟩
      have hv := hz.1 h0
      obtain ⟨h1, h2, _⟩ := hb2 rfl
      have := hv.s1
      have := hv.el
      exact ⟨hv, of_decide_eq_true h, by omega, by omega⟩
    · rw [if_neg h0]; exact ⟨false, rfl, by simp⟩

theorem EqI_eq {a b : List Int} (hm : a.length ≤ 9223372036854775807) : m_slices_Equal_Lint_int a b = some (decide (a = b)) := by
  unfold m_slices_Equal_Lint_int
  by_cases hl : a.length = b.length
  · rw [if_neg (by omega)]
    refine lpL (loop_any (fun i => (i : Int)) a.length (fun i => decide (a.getD i 0 ≠ b.getD i 0)) (Ou.ret false) (Ou.go ()) (fun i hi => ?_) (by rw [if_neg (not_lt_int _)]) rfl) ?_
    · have hi' : i < b.length := by omega
      have e1 : a.getD i 0 = a[i] := by simp [List.getD, hi]
      have e2 : b.getD i 0 = b[i] := by simp [List.getD, hi']
      rw [if_pos (lt_int hi), ix hi, ix hi']
      simp only [Option.bind_some, nx hm hi, e1, e2, decide_eq_true_eq]
    · by_cases he : a = b
      · subst he
        rw [if_neg]
        · simp [lpO]
        · simp
      · rw [if_pos]
        · simp [lpO, he]
        · refine List.any_eq_true.2 ?_
          apply Classical.byContradiction
          intro hno
          refine he (List.ext_getElem hl fun i h1 h2 => ?_)
          apply Classical.byContradiction
          intro hne
          refine hno ⟨i, List.mem_range.2 h1, decide_eq_true ?_⟩
          rwa [show a.getD i 0 = a[i] by simp [List.getD, h1], show b.getD i 0 = b[i] by simp [List.getD, h2]]
  · rw [if_pos (by omega)]
    have : ¬ a = b := fun e => hl (by rw [e])
    simp [this]

theorem WOk.sub {g : Gr} {w u : List UInt8} (h : WOk g w) (hl : u.length ≤ w.length) (hs : ∀ c ∈ u, c ∈ w) : WOk g u := ⟨Nat.le_trans hl h.1, fun c hc => h.2 c (hs c hc)⟩

end Go.AW

/- The least path that is labelled with a word. -/
namespace Go.AW
open Go
set_option linter.unusedSimpArgs false
set_option linter.unusedVariables false

theorem letters_inj {i j : Nat} (hi : i < letters.length) (hj : j < letters.length) : ((letters[i]).toNat : Int) = ((letters[j]).toNat : Int) ↔ i = j := by
  have h : ∀ a b : Fin 16, ((letters[a.1]'(show a.1 < letters.length from a.2)).toNat : Int) = ((letters[b.1]'(show b.1 < letters.length from b.2)).toNat : Int) → a.1 = b.1 := by decide
  exact ⟨fun e => h ⟨i, hi⟩ ⟨j, hj⟩ e, fun e => by subst e; rfl⟩

section
variable {g : Gr}

/-- from which states a word can be read -/
def canB (g : Gr) : List UInt8 → List Bool
  | [] => List.replicate g.2.1.toNat true
  | c :: w => (upto g.2.1).map fun s => g.2.2.any fun x => decide (x.1 = s ∧ x.2.1 = lab c) && (canB g w).getD x.2.2.toNat false
theorem canB_len : ∀ w, (canB g w).length = g.2.1.toNat
  | [] => by simp [canB]
  | c :: w => by simp [canB, upto_len]
/-- the word can be read from a state -/
def canR (g : Gr) (w : List UInt8) (s : Int) : Prop := (canB g w).getD s.toNat false = true
theorem canR_nil {s : Int} (h0 : 0 ≤ s) (h1 : s < g.2.1) : canR g [] s := by
  have : s.toNat < g.2.1.toNat := by omega
  simp [canR, canB, List.getD, this]
theorem upto_get {n : Int} {i : Nat} (h : i < (upto n).length) : (upto n)[i] = (i : Int) := by simp [upto]
theorem canR_cons {c : UInt8} {w : List UInt8} {s : Int} (h0 : 0 ≤ s) (h1 : s < g.2.1) : canR g (c :: w) s ↔ ∃ x ∈ g.2.2, x.1 = s ∧ x.2.1 = lab c ∧ canR g w x.2.2 := by
  have hs : s.toNat < (upto g.2.1).length := by rw [upto_len]; omega
  simp only [canR, canB]
  rw [List.getD_eq_getElem?_getD, List.getElem?_map, List.getElem?_eq_getElem hs, upto_get]
  simp only [Option.map_some, Option.getD_some, List.any_eq_true, Bool.and_eq_true, decide_eq_true_eq]
  have e : ((s.toNat : Nat) : Int) = s := by omega
  rw [e]
  exact ⟨fun ⟨x, hx, ⟨h2, h3⟩, h4⟩ => ⟨x, hx, h2, h3, h4⟩, fun ⟨x, hx, h2, h3, h4⟩ => ⟨x, hx, ⟨h2, h3⟩, h4⟩⟩

/-- a word leads somewhere exactly if it can be read from a state of the set -/
theorem can_iff (hv : VG g) : ∀ (w : List UInt8) {a : List Int} (ha : SetOk g a), endsL g a w ≠ [] ↔ ∃ s ∈ a, canR g w s
  | [], a, ha => by
    constructor
    · intro h
      obtain ⟨s, hs⟩ := List.exists_mem_of_ne_nil a h
      obtain ⟨h0, h1⟩ := ha.2 s hs
      exact ⟨s, hs, canR_nil h0 h1⟩
    · rintro ⟨s, hs, _⟩ h
      rw [show a = [] from h] at hs
      cases hs
  | c :: w, a, ha => by
    rw [endsL_cons, can_iff hv w (stepL_ok g a _)]
    constructor
    · rintro ⟨t, ht, hc⟩
      obtain ⟨e, he, h1, h2, h3⟩ := (mem_stepL hv).1 ht
      obtain ⟨h4, h5⟩ := ha.2 _ h3
      exact ⟨e.1, h3, (canR_cons h4 h5).2 ⟨e, he, rfl, h2, by rw [h1]; exact hc⟩⟩
    · rintro ⟨s, hs, hc⟩
      obtain ⟨h4, h5⟩ := ha.2 _ hs
      obtain ⟨x, hx, h1, h2, h3⟩ := (canR_cons h4 h5).1 hc
      exact ⟨x.2.2, (mem_stepL hv).2 ⟨x, hx, rfl, h2, by rw [h1]; exact hs⟩, h3⟩

/-- an edge with which a word goes on -/
def okE (g : Gr) (w : List UInt8) (c : UInt8) (prev : Option Int) (x : Ed) : Bool := decide (x.2.1 = lab c) && (canB g w).getD x.2.2.toNat false && (match prev with
  | none => true
  | some s => decide (x.1 = s))
def pick (g : Gr) (w : List UInt8) (c : UInt8) (prev : Option Int) : Nat := g.2.2.findIdx (okE g w c prev)
/-- the least path behind a state -/
def pathR (g : Gr) (prev : Option Int) : List UInt8 → List Int
  | [] => []
  | c :: w => (pick g w c prev : Int) :: pathR g (some (g.2.2.getD (pick g w c prev) (0, 0, 0)).2.2) w
def feas (g : Gr) (prev : Option Int) (w : List UInt8) : Prop := match prev with
  | none => ∃ s, 0 ≤ s ∧ s < g.2.1 ∧ canR g w s
  | some s => 0 ≤ s ∧ s < g.2.1 ∧ canR g w s
theorem feas_pick (hv : VG g) {prev : Option Int} {c : UInt8} {w : List UInt8} (h : feas g prev (c :: w)) : ∃ h : pick g w c prev < g.2.2.length, okE g w c prev g.2.2[pick g w c prev] = true ∧ feas g (some (g.2.2[pick g w c prev]).2.2) w := by
  have hex : ∃ x ∈ g.2.2, okE g w c prev x = true := by
    cases prev with
    | none =>
      obtain ⟨s, h0, h1, hc⟩ := h
      obtain ⟨x, hx, h2, h3, h4⟩ := (canR_cons h0 h1).1 hc
      exact ⟨x, hx, by simp [okE, h3]; exact h4⟩
    | some s =>
      obtain ⟨h0, h1, hc⟩ := h
      obtain ⟨x, hx, h2, h3, h4⟩ := (canR_cons h0 h1).1 hc
      exact ⟨x, hx, by simp [okE, h2, h3]; exact h4⟩
  have hlt : pick g w c prev < g.2.2.length := List.findIdx_lt_length_of_exists (by simpa using hex)
  have hok : okE g w c prev g.2.2[pick g w c prev] = true := List.findIdx_getElem (p := okE g w c prev) (w := hlt)
  refine ⟨hlt, hok, ?_⟩
  obtain ⟨_, _, h2, h3, _⟩ := hv.ed _ (List.getElem_mem hlt)
  simp only [okE, Bool.and_eq_true] at hok
  exact ⟨h2, h3, hok.1.2⟩
theorem pick_min {w : List UInt8} {c : UInt8} {prev : Option Int} {k : Nat} (h : k < pick g w c prev) (hk : k < g.2.2.length) : okE g w c prev g.2.2[k] = false := by
  have := List.not_of_lt_findIdx h
  simpa using this

/-- the end of the path so far -/
def prevOf (g : Gr) (out : List Int) (i : Nat) : Option Int := if i = 0 then none else some (g.2.2.getD (out.getD (i - 1) 0).toNat (0, 0, 0)).2.2

theorem IndexB_eq {l : List Bool} (hm : l.length ≤ 9223372036854775807) : ∃ r, m_slices_Index_Lbool_bool l true = some r ∧ (0 ≤ r ↔ true ∈ l) := by
  unfold m_slices_Index_Lbool_bool
  have hx : ∃ x, loopW (S := Int) (X := Ou (Unit) (Int)) (fun a1 =>
      if a1 < ((l).length : Int) then
        (idx l a1).bind fun x5 =>
        if (true == x5) = true then
          some (Stp.exit (Ou.ret a1))
        else
          some (Stp.next (IntKind.wrap .i64 (a1 + 1)))
      else
        some (Stp.exit (Ou.go ()))) 0 = some x ∧ ((x = .go () ∧ ¬ true ∈ l) ∨ ∃ r : Int, x = .ret r ∧ 0 ≤ r ∧ true ∈ l) := by
    refine loopN l.length (fun i s => s = (i : Int) ∧ ∀ (j : Nat) (h : j < l.length), j < i → l[j] = false) ?_ ?_ 0 _ (Nat.zero_le _) ⟨rfl, fun _ _ h => by omega⟩
    · rintro i s hi ⟨rfl, hj⟩
      rw [if_pos (lt_int hi), ix hi]
      simp only [Option.bind_some]
      by_cases hb : l[i] = true
      · rw [hb]
        exact .inr ⟨_, rfl, .inr ⟨_, rfl, by omega, by rw [← hb]; exact List.getElem_mem hi⟩⟩
      · have hb : l[i] = false := by simpa using hb
        rw [hb]
        refine .inl ⟨_, rfl, by rw [nx hm hi], fun j h hji => ?_⟩
        by_cases e : j = i
        · subst e; exact hb
        · exact hj j h (by omega)
    · rintro s ⟨rfl, hj⟩
      rw [if_neg (not_lt_int _)]
      refine ⟨_, rfl, .inl ⟨rfl, fun hm => ?_⟩⟩
      obtain ⟨j, h, e⟩ := List.getElem_of_mem hm
      rw [hj j h h] at e
      cases e
  obtain ⟨x, hx, ⟨rfl, hn⟩ | ⟨r, rfl, h0, hm⟩⟩ := hx
  · rw [hx]
    exact ⟨-1, rfl, by simp [hn]⟩
  · rw [hx]
    exact ⟨r, rfl, by simp [h0, hm]⟩
theorem ContainsB_eq {l : List Bool} (hm : l.length ≤ 9223372036854775807) : m_slices_Contains_Lbool_bool l true = some (decide (true ∈ l)) := by
  obtain ⟨r, hr, h⟩ := IndexB_eq hm
  unfold m_slices_Contains_Lbool_bool
  rw [hr]
  simp only [Option.bind_some, h]
theorem can_mem {w : List UInt8} : true ∈ canB g w ↔ feas g none w := by
  constructor
  · intro h
    obtain ⟨i, hi, e⟩ := List.getElem_of_mem h
    have := canB_len (g := g) w
    refine ⟨(i : Int), by omega, by omega, ?_⟩
    simp [canR, List.getD, hi, e]
  · rintro ⟨s, h0, h1, hc⟩
    have hlen := canB_len (g := g) w
    have hs : s.toNat < (canB g w).length := by omega
    have : (canB g w)[s.toNat] = true := by simpa [canR, List.getD, hs] using hc
    rw [← this]
    exact List.getElem_mem hs

/-- which places of the table are filled -/
def canT (g : Gr) (w : List UInt8) (t : Nat) : List (List Bool) := (List.range (w.length + 1)).map fun j => if w.length - t ≤ j then canB g (w.drop j) else []
theorem canT_len (w : List UInt8) (t : Nat) : (canT g w t).length = w.length + 1 := by simp [canT]
theorem canT_get {w : List UInt8} {t j : Nat} (h : j ≤ w.length) : idx (canT g w t) (j : Int) = some (if w.length - t ≤ j then canB g (w.drop j) else []) := by
  rw [ix (by rw [canT_len]; omega)]
  simp [canT]
theorem canT_zero (w : List UInt8) : (List.replicate (w.length + 1) ([] : List Bool)).set w.length (canB g []) = canT g w 0 := by
  apply List.ext_getElem
  · simp [canT_len]
  · intro j h1 h2
    simp only [List.length_set, List.length_replicate] at h1
    rw [List.getElem_set]
    simp only [canT, List.getElem_map, List.getElem_range, Nat.sub_zero, List.getElem_replicate]
    by_cases e : w.length = j
    · subst e; simp
    · rw [if_neg e, if_neg (by omega)]
theorem canT_succ {w : List UInt8} {t : Nat} (h : t < w.length) : (canT g w t).set (w.length - 1 - t) (canB g (w.drop (w.length - 1 - t))) = canT g w (t + 1) := by
  apply List.ext_getElem
  · simp [canT_len]
  · intro j h1 h2
    rw [List.getElem_set]
    simp only [canT, List.getElem_map, List.getElem_range]
    by_cases e : w.length - 1 - t = j
    · subst e; rw [if_pos rfl, if_pos (by omega)]
    · rw [if_neg e]
      by_cases e2 : w.length - t ≤ j
      · rw [if_pos e2, if_pos (by omega)]
      · rw [if_neg e2, if_neg (by omega)]

/-- a row of the table, the edges ahead of k seen -/
def rowT (g : Gr) (cs : List Bool) (c : UInt8) (k : Nat) : List Bool := (upto g.2.1).map fun s => (g.2.2.take k).any fun x => decide (x.1 = s ∧ x.2.1 = lab c) && cs.getD x.2.2.toNat false
theorem rowT_len (cs : List Bool) (c : UInt8) (k : Nat) : (rowT g cs c k).length = g.2.1.toNat := by simp [rowT, upto_len]
theorem rowT_next {cs : List Bool} {c : UInt8} {k : Nat} (hk : k < g.2.2.length) (h0 : 0 ≤ g.2.2[k].1) : rowT g cs c (k + 1) = if decide (g.2.2[k].2.1 = lab c) && cs.getD g.2.2[k].2.2.toNat false then (rowT g cs c k).set g.2.2[k].1.toNat true else rowT g cs c k := by
  have e : g.2.2.take (k + 1) = g.2.2.take k ++ [g.2.2[k]] := by rw [List.take_add_one, List.getElem?_eq_getElem hk]; rfl
  by_cases hb : (decide (g.2.2[k].2.1 = lab c) && cs.getD g.2.2[k].2.2.toNat false) = true
  · rw [if_pos hb]
    simp only [Bool.and_eq_true, decide_eq_true_eq] at hb
    apply List.ext_getElem
    · simp [rowT]
    · intro j h1 h2
      rw [List.getElem_set]
      simp only [rowT, List.getElem_map, e, List.any_append, List.any_cons, List.any_nil, Bool.or_false, upto_get]
      by_cases ej : g.2.2[k].1.toNat = j
      · rw [if_pos ej, hb.2, hb.1]
        have : g.2.2[k].1 = (j : Int) := by omega
        simp [this]
      · rw [if_neg ej]
        have : ¬ g.2.2[k].1 = (j : Int) := by omega
        simp [this]
  · rw [if_neg hb]
    have hb : (decide (g.2.2[k].2.1 = lab c) && cs.getD g.2.2[k].2.2.toNat false) = false := by simpa using hb
    simp only [rowT, e, List.any_append, List.any_cons, List.any_nil, Bool.or_false]
    congr 1
    funext s
    have : (decide (g.2.2[k].1 = s ∧ g.2.2[k].2.1 = lab c) && cs.getD g.2.2[k].2.2.toNat false) = false := by
      simp only [Bool.and_eq_false_iff, decide_eq_false_iff_not] at hb ⊢
      rcases hb with hb | hb
      · exact .inl fun h => hb h.2
      · exact .inr hb
    rw [this, Bool.or_false]
theorem rowT_zero (cs : List Bool) (c : UInt8) : rowT g cs c 0 = List.replicate g.2.1.toNat false := by
  apply List.ext_getElem
  · simp [rowT, upto_len]
  · intro j h1 h2; simp [rowT]
theorem rowT_all (w : List UInt8) (c : UInt8) : rowT g (canB g w) c g.2.2.length = canB g (c :: w) := by simp [rowT, canB]

/-- the letter of an edge -/
theorem edge_letter (hv : VG g) (h16 : g.1 ≤ 16) {x : Ed} (hx : x ∈ g.2.2) {c : UInt8} (hc : c ∈ lets g) : ∃ d : UInt8, idx ([48, 49, 50, 51, 52, 53, 54, 55, 56, 57, 97, 98, 99, 100, 101, 102] : List UInt8) x.2.1 = some d ∧ ((d.toNat : Int) = (c.toNat : Int) ↔ x.2.1 = lab c) := by
  obtain ⟨_, _, _, _, h0, h1⟩ := hv.ed x hx
  obtain ⟨i, hi, hg, rfl, el⟩ := lab_mem hc
  obtain ⟨l, hl⟩ := Int.eq_ofNat_of_zero_le h0
  have hl16 : l < letters.length := by rw [letters_len]; omega
  refine ⟨letters[l], ?_, ?_⟩
  · rw [hl]
    exact ix (l := letters) hl16
  · rw [letters_inj hl16 hi, hl, el]
    omega
end
end Go.AW

/- language.Path gives the least path. -/
namespace Go.AW
open Go
set_option linter.unusedSimpArgs false
set_option linter.unusedVariables false
section
variable {g : Gr}

theorem path_table (hv : VG g) (h16 : g.1 ≤ 16) {w : List UInt8} (hw : WOk g w) : (loopW (S := Int × (List (List (Bool)))) (X := (List (List (Bool)))) (fun a9 =>
          if 0 ≤ a9.1 then
            if 0 ≤ (g.2.1 : Int) ∧ (g.2.1 : Int) ≤ g.2.1 ∧ (g.2.1 : Int) * 1 ≤ 281474976710656 then
              (idx a9.2 a9.1).bind fun x15 =>
              (loopW (S := Int × (List Bool)) (X := (List Bool)) (fun a17 =>
                  if a17.1 < ((g.2.2).length : Int) then
                    jp (fun (a21 : (List Bool)) =>
                      some (Stp.next (IntKind.wrap .i64 (a17.1 + 1), a21)))
                      fun k23 =>
                      (idx g.2.2 a17.1).bind fun x24 =>
                      jp (fun (a27 : Bool) =>
                        if a27 = true then
                          (idx a9.2 a9.1).bind fun x30 =>
                          (idx a17.2 x24.1).bind fun x32 =>
                          k23 ((a17.2).set (x24.1).toNat true)
                        else
                          k23 a17.2)
                        fun k29 =>
                        (idx ([48, 49, 50, 51, 52, 53, 54, 55, 56, 57, 97, 98, 99, 100, 101, 102] : List UInt8) x24.2.1).bind fun x34 =>
                        (idx w a9.1).bind fun x36 =>
                        if (x34.toNat : Int) = (x36.toNat : Int) then
                          (idx a9.2 (IntKind.wrap .i64 (a9.1 + 1))).bind fun x38 =>
                          if (IntKind.wrap .i64 (a9.1 + 1)).toNat ≠ (a9.1).toNat then
                            (idx a9.2 (IntKind.wrap .i64 (a9.1 + 1))).bind fun x40 =>
                            (idx x40 x24.2.2).bind fun x43 =>
                            k29 x43
                          else none
                        else
                          k29 false
                  else
                    some (Stp.exit a17.2)) (0, List.replicate (g.2.1).toNat (false : Bool))).bind fun a46 =>
              some (Stp.next (IntKind.wrap .i64 (a9.1 - 1), (a9.2).set (a9.1).toNat a46))
            else none
          else
            some (Stp.exit a9.2)) (IntKind.wrap .i64 (((w).length : Int) - 1), canT g w 0)) = some (canT g w w.length) := by
  obtain ⟨hl, hc⟩ := hw
  have hs0 := hv.s0
  have hs1 := hv.s1
  have hel := hv.el
  refine loop_is (fun t => ((w.length : Int) - 1 - (t : Int), canT g w t)) w.length _ (fun t ht => ?_) ?_ (by rw [w64 (by omega) (by omega)]; simp)
  · dsimp only
    rw [if_pos (by omega), if_pos (by omega)]
    have ei : (w.length : Int) - 1 - (t : Int) = ((w.length - 1 - t : Nat) : Int) := by omega
    have hi : w.length - 1 - t < w.length := by omega
    have ew : IntKind.wrap .i64 ((w.length : Int) - 1 - (t : Int) - 1) = (w.length : Int) - 1 - ((t + 1 : Nat) : Int) := by rw [w64 (by omega) (by omega)]; omega
    rw [ew]
    rw [ei]
    generalize hI : w.length - 1 - t = i at *
    have e1 : IntKind.wrap .i64 ((i : Int) + 1) = ((i + 1 : Nat) : Int) := nx (by omega : w.length ≤ _) hi
    have hdrop : w.drop i = w[i] :: w.drop (i + 1) := List.drop_eq_getElem_cons hi
    have hcl := canB_len (g := g) (w.drop (i + 1))
    rw [canT_get (by omega)]
    simp only [Option.bind_some, jp]
    refine bindL (loop_is (fun k => ((k : Int), rowT g (canB g (w.drop (i + 1))) w[i] k)) g.2.2.length (canB g (w.drop i)) (fun k hk => ?_) ?_ (by rw [rowT_zero]; rfl)) ?_
    · dsimp only
      obtain ⟨d, hd, hde⟩ := edge_letter hv h16 (List.getElem_mem hk) (hc _ (List.getElem_mem hi))
      obtain ⟨q0, q1, q2, q3, _, _⟩ := hv.ed _ (List.getElem_mem hk)
      have hnx := nx (by omega : g.2.2.length ≤ _) hk
      rw [if_pos (lt_int hk), ix hk]
      simp only [Option.bind_some, hd, ix hi]
      rw [rowT_next hk q0]
      have hti : w.length - t ≤ i + 1 := by omega
      by_cases hlab : g.2.2[k].2.1 = lab w[i]
      · rw [if_pos (hde.2 hlab), e1, canT_get (by omega), if_pos hti]
        simp only [Option.bind_some, Int.toNat_natCast]
        rw [if_pos (by omega)]
        have hto : idx (canB g (w.drop (i + 1))) g.2.2[k].2.2 = some ((canB g (w.drop (i + 1))).getD g.2.2[k].2.2.toNat false) := by
          obtain ⟨m, hm⟩ := Int.eq_ofNat_of_zero_le q2
          rw [hm, ix (by omega)]
          simp [List.getD, show m < (canB g (w.drop (i + 1))).length by omega]
        rw [hto]
        simp only [Option.bind_some, hlab, decide_true, Bool.true_and]
        by_cases hb : (canB g (w.drop (i + 1))).getD g.2.2[k].2.2.toNat false = true
        · rw [if_pos hb, if_pos hb]
          have hfr : ∃ b, idx (rowT g (canB g (w.drop (i + 1))) w[i] k) g.2.2[k].1 = some b := by
            obtain ⟨m, hm⟩ := Int.eq_ofNat_of_zero_le q0
            rw [hm, ix (by rw [rowT_len]; omega)]
            exact ⟨_, rfl⟩
          obtain ⟨b, hb2⟩ := hfr
          rw [hb2]
          simp only [Option.bind_some, hnx]
        · rw [if_neg hb, if_neg hb, hnx]
      · rw [if_neg (fun h => hlab (hde.1 h))]
        simp only [Bool.false_eq_true, if_false, hlab, decide_false, Bool.false_and, hnx]
    · dsimp only
      rw [if_neg (not_lt_int _), rowT_all, hdrop]
    · simp only [Int.toNat_natCast]
      have := canT_succ (g := g) (w := w) (t := t) ht
      rw [hI] at this
      rw [this]
  · dsimp only
    rw [if_neg (by omega)]
end
end Go.AW

/- language.Path: the edges; the whole function. -/
namespace Go.AW
open Go
set_option linter.unusedSimpArgs false
set_option linter.unusedVariables false
section
variable {g : Gr}

theorem loopN_eq {S X : Type} {body : S → Option (Stp S X)} (x0 : X) (n : Nat) (I : Nat → S → Prop)
    (step : ∀ i s, i < n → I i s → (∃ s', body s = some (.next s') ∧ I (i + 1) s') ∨ ∃ x, body s = some (.exit x) ∧ x = x0) (fin : ∀ s, I n s → ∃ x, body s = some (.exit x) ∧ x = x0) {s0 : S} (h : I 0 s0) : loopW body s0 = some x0 := by
  obtain ⟨x, hx, rfl⟩ := loopN n I step fin 0 s0 (Nat.zero_le _) h
  exact hx
theorem prevOf_succ {out : List Int} {i k : Nat} (ho : out.length = i) : prevOf g (out ++ [(k : Int)]) (i + 1) = some (g.2.2.getD k (0, 0, 0)).2.2 := by
  unfold prevOf
  rw [if_neg (by omega)]
  have : (out ++ [(k : Int)]).getD (i + 1 - 1) 0 = k := by
    rw [List.getD_eq_getElem?_getD, List.getElem?_append_right (by omega)]
    simp [ho]
  rw [this]
  rfl

theorem path_walk (hv : VG g) (h16 : g.1 ≤ 16) {w : List UInt8} (hw : WOk g w) (hf : feas g none w) : loopW (S := Int × (List Int)) (X := (List Int)) (fun a56 =>
            if a56.1 < ((w).length : Int) then
              (loopW (S := Int) (X := (List Int)) (fun a60 =>
                  if a60 < ((g.2.2).length : Int) then
                    (idx g.2.2 a60).bind fun x64 =>
                    jp (fun (a67 : Bool) =>
                      if a67 = true then
                        if fits 8 ((a56.2 : List Int).length + ([a60]).length) then
                          some (Stp.exit (a56.2 ++ [a60]))
                        else none
                      else
                        some (Stp.next (IntKind.wrap .i64 (a60 + 1))))
                      fun k69 =>
                      (idx ([48, 49, 50, 51, 52, 53, 54, 55, 56, 57, 97, 98, 99, 100, 101, 102] : List UInt8) x64.2.1).bind fun x72 =>
                      (idx w a56.1).bind fun x74 =>
                      if (x72.toNat : Int) = (x74.toNat : Int) then
                        (idx (canT g w w.length) (IntKind.wrap .i64 (a56.1 + 1))).bind fun x76 =>
                        (idx (canT g w w.length) (IntKind.wrap .i64 (a56.1 + 1))).bind fun x78 =>
                        (idx x78 x64.2.2).bind fun x80 =>
                        if x80 = true then
                          if a56.1 = 0 then
                            k69 true
                          else
                            (idx a56.2 (IntKind.wrap .i64 (a56.1 - 1))).bind fun x82 =>
                            (idx a56.2 (IntKind.wrap .i64 (a56.1 - 1))).bind fun x84 =>
                            (idx g.2.2 x84).bind fun x86 =>
                            k69 (decide (x64.1 = x86.2.2))
                        else
                          k69 false
                      else
                        k69 false
                  else
                    some (Stp.exit a56.2)) 0).bind fun a91 =>
              some (Stp.next (IntKind.wrap .i64 (a56.1 + 1), a91))
            else
              some (Stp.exit a56.2)) (0, ([] : List Int)) = some (pathR g none w) := by
  obtain ⟨hl, hc⟩ := hw
  have hel := hv.el
  refine loopN_eq (pathR g none w) w.length (fun i s => ∃ out : List Int, s = ((i : Int), out) ∧ out.length = i ∧ pathR g none w = out ++ pathR g (prevOf g out i) (w.drop i) ∧ feas g (prevOf g out i) (w.drop i) ∧ ∀ k ∈ out, 0 ≤ k ∧ k < g.2.2.length) ?_ ?_ ⟨[], rfl, rfl, rfl, hf, by simp⟩
  · rintro i s hi ⟨out, rfl, ho, hp, hfe, hk0⟩
    dsimp only
    rw [if_pos (lt_int hi)]
    have e1 : IntKind.wrap .i64 ((i : Int) + 1) = ((i + 1 : Nat) : Int) := nx (by omega : w.length ≤ _) hi
    have hdrop : w.drop i = w[i] :: w.drop (i + 1) := List.drop_eq_getElem_cons hi
    have hcl := canB_len (g := g) (w.drop (i + 1))
    rw [hdrop] at hfe hp
    obtain ⟨hk, hok, hfe2⟩ := feas_pick hv hfe
    have hmin := fun {k : Nat} => pick_min (g := g) (w := w.drop (i + 1)) (c := w[i]) (prev := prevOf g out i) (k := k)
    simp only [pathR] at hp
    generalize hK : pick g (w.drop (i + 1)) w[i] (prevOf g out i) = K at *
    have hin : ∃ x, loopW (S := Int) (X := (List Int)) (fun a60 =>
                  if a60 < ((g.2.2).length : Int) then
                    (idx g.2.2 a60).bind fun x64 =>
                    jp (fun (a67 : Bool) =>
                      if a67 = true then
                        if fits 8 ((out : List Int).length + ([a60]).length) then
                          some (Stp.exit (out ++ [a60]))
                        else none
                      else
                        some (Stp.next (IntKind.wrap .i64 (a60 + 1))))
                      fun k69 =>
                      (idx ([48, 49, 50, 51, 52, 53, 54, 55, 56, 57, 97, 98, 99, 100, 101, 102] : List UInt8) x64.2.1).bind fun x72 =>
                      (idx w (i : Int)).bind fun x74 =>
                      if (x72.toNat : Int) = (x74.toNat : Int) then
                        (idx (canT g w w.length) (IntKind.wrap .i64 ((i : Int) + 1))).bind fun x76 =>
                        (idx (canT g w w.length) (IntKind.wrap .i64 ((i : Int) + 1))).bind fun x78 =>
                        (idx x78 x64.2.2).bind fun x80 =>
                        if x80 = true then
                          if (i : Int) = 0 then
                            k69 true
                          else
                            (idx out (IntKind.wrap .i64 ((i : Int) - 1))).bind fun x82 =>
                            (idx out (IntKind.wrap .i64 ((i : Int) - 1))).bind fun x84 =>
                            (idx g.2.2 x84).bind fun x86 =>
                            k69 (decide (x64.1 = x86.2.2))
                        else
                          k69 false
                      else
                        k69 false
                  else
                    some (Stp.exit out)) 0 = some x ∧ x = out ++ [(K : Int)] := by
      refine loopN g.2.2.length (fun k s => s = (k : Int) ∧ k ≤ K) ?_ ?_ 0 _ (Nat.zero_le _) ⟨rfl, Nat.zero_le _⟩
      · rintro k s hkl ⟨rfl, hkK⟩
        obtain ⟨d, hd, hde⟩ := edge_letter hv h16 (List.getElem_mem hkl) (hc _ (List.getElem_mem hi))
        obtain ⟨q0, q1, q2, q3, _, _⟩ := hv.ed _ (List.getElem_mem hkl)
        have hnx := nx (by omega : g.2.2.length ≤ _) hkl
        rw [if_pos (lt_int hkl), ix hkl]
        simp only [Option.bind_some, hd, ix hi, jp, e1]
        have hcT : idx (canT g w w.length) ((i + 1 : Nat) : Int) = some (canB g (w.drop (i + 1))) := by rw [canT_get (by omega), if_pos (by omega)]
        rw [hcT]
        simp only [Option.bind_some]
        have hto : idx (canB g (w.drop (i + 1))) g.2.2[k].2.2 = some ((canB g (w.drop (i + 1))).getD g.2.2[k].2.2.toNat false) := by
          obtain ⟨m, hm⟩ := Int.eq_ofNat_of_zero_le q2
          rw [hm, ix (by omega)]
          simp [List.getD, show m < (canB g (w.drop (i + 1))).length by omega]
        rw [hto]
        simp only [Option.bind_some]
        have hfit : fits 8 (out.length + [(k : Int)].length) := fits_le (by simp; omega) (by simp; omega)
        -- the test is okE
        have hgoal : ∀ b : Bool, b = okE g (w.drop (i + 1)) w[i] (prevOf g out i) g.2.2[k] → (∃ s', (if b = true then if fits 8 (out.length + [(k : Int)].length) then some (Stp.exit (out ++ [(k : Int)])) else none else some (Stp.next (IntKind.wrap .i64 ((k : Int) + 1)))) = some (Stp.next s') ∧ s' = ((k + 1 : Nat) : Int) ∧ k + 1 ≤ K) ∨ ∃ x, (if b = true then if fits 8 (out.length + [(k : Int)].length) then some (Stp.exit (out ++ [(k : Int)])) else none else some (Stp.next (IntKind.wrap .i64 ((k : Int) + 1)))) = some (Stp.exit x) ∧ x = out ++ [(K : Int)] := by
          intro b hb
          cases b with
          | true =>
            rw [if_pos rfl, if_pos hfit]
            have : k = K := by
              apply Classical.byContradiction
              intro hne
              have := hmin (by omega) hkl
              rw [← hb] at this
              cases this
            exact .inr ⟨_, rfl, by rw [this]⟩
          | false =>
            rw [if_neg (by simp), hnx]
            refine .inl ⟨_, rfl, rfl, ?_⟩
            have : k ≠ K := fun e => by subst e; rw [hok] at hb; cases hb
            omega
        by_cases hlab : g.2.2[k].2.1 = lab w[i]
        · rw [if_pos (hde.2 hlab)]
          by_cases hb : (canB g (w.drop (i + 1))).getD g.2.2[k].2.2.toNat false = true
          · rw [if_pos hb]
            by_cases h0 : i = 0
            · rw [if_pos (by omega)]
              have hok2 : okE g (w.drop (i + 1)) w[i] (prevOf g out i) g.2.2[k] = true := by
                have hp0 : prevOf g out i = none := by unfold prevOf; rw [if_pos h0]
                rw [hp0]
                show (decide _ && _ && true) = true
                rw [hb, hlab]; simp
              have : k = K := by
                apply Classical.byContradiction
                intro hne
                have := hmin (by omega) hkl
                rw [hok2] at this
                cases this
              rw [if_pos trivial, if_pos hfit]
              exact .inr ⟨_, rfl, by rw [this]⟩
            · rw [if_neg (by omega)]
              have hio : idx out (IntKind.wrap .i64 ((i : Int) - 1)) = some (out[i - 1]'(by omega)) := by
                have := ix_pred (l := out) (i := i) 
                rw [w64 (by omega) (by omega), show ((i : Int) - 1) = ((i - 1 : Nat) : Int) by omega]
                exact ix (by omega)
              obtain ⟨z0, z1⟩ := hk0 _ (List.getElem_mem (show i - 1 < out.length by omega))
              obtain ⟨j, hj⟩ := Int.eq_ofNat_of_zero_le z0
              rw [hio]
              simp only [Option.bind_some, hj]
              rw [ix (by omega)]
              simp only [Option.bind_some]
              refine hgoal _ ?_
              have hpv : prevOf g out i = some (g.2.2[j]'(by omega)).2.2 := by
                unfold prevOf
                rw [if_neg h0]
                have e : out.getD (i - 1) 0 = (j : Int) := by simp [List.getD, show i - 1 < out.length by omega, hj]
                rw [e]
                simp [List.getD, show j < g.2.2.length by omega]
              rw [hpv]
              show _ = (decide _ && _ && decide _)
              rw [hb, hlab]; simp
          · rw [if_neg hb]
            refine hgoal false ?_
            have hb : (canB g (w.drop (i + 1))).getD g.2.2[k].2.2.toNat false = false := by simpa using hb
            show false = (_ && _ && _)
            rw [hb]; simp
        · rw [if_neg (fun h => hlab (hde.1 h))]
          refine hgoal false ?_
          show false = (decide _ && _ && _)
          rw [decide_eq_false hlab]; simp
      · rintro s ⟨rfl, hkK⟩
        omega
    obtain ⟨x, hx, rfl⟩ := hin
    rw [hx]
    simp only [Option.bind_some]
    have hprev : prevOf g (out ++ [(K : Int)]) (i + 1) = some (g.2.2.getD K (0, 0, 0)).2.2 := prevOf_succ ho
    have hgd : g.2.2.getD K (0, 0, 0) = g.2.2[K] := by simp [List.getD, hk]
    refine .inl ⟨_, rfl, out ++ [(K : Int)], by rw [e1], by simp [ho], ?_, ?_, fun k hkm => ?_⟩
    · rw [hprev, hp, List.append_assoc]; rfl
    · rw [hprev, hgd]; exact hfe2
    · rcases List.mem_append.1 hkm with h | h
      · exact hk0 k h
      · simp at h; subst h; omega
  · rintro s ⟨out, rfl, ho, hp, hfe, hk0⟩
    dsimp only
    rw [if_neg (not_lt_int _)]
    refine ⟨_, rfl, ?_⟩
    rw [hp, List.drop_length]
    simp [pathR]

/-- language.Path -/
theorem Path_eq (hv : VG g) (h16 : g.1 ≤ 16) {w : List UInt8} (hw : WOk g w) : (feas g none w → m_language_Path g w = some (pathR g none w, 0)) ∧ (¬ feas g none w → m_language_Path g w = some ([], 13)) := by
  obtain ⟨e, he, hz⟩ := spells_tot g w
  have h0 := hz.2 ⟨hv, h16, hw⟩
  subst h0
  have hl := hw.1
  have hs0 := hv.s0
  have hs1 := hv.s1
  have hx : m_language_Path g w = if true ∈ canB g w then some (pathR g none w, 0) else some ([], 13) := by
    have w1 : IntKind.wrap .i64 ((w.length : Int) + 1) = ((w.length + 1 : Nat) : Int) := by rw [w64 (by omega) (by omega)]; omega
    have hrep : m_slices_Repeat_Lbool_bool [true] g.2.1 = some (canB g []) := by
      unfold m_slices_Repeat_Lbool_bool
      rw [if_pos ⟨rfl, hs0, by omega⟩]
      rfl
    unfold m_language_Path
    rw [he]
    simp only [Option.bind_some, ne_eq, not_true_eq_false, if_false]
    rw [w1, if_pos (by omega), hrep]
    simp only [Option.bind_some, Int.toNat_natCast]
    rw [ix (by simp)]
    simp only [Option.bind_some]
    rw [canT_zero]
    refine bindL (path_table hv h16 hw) ?_
    have hg0 : idx (canT g w w.length) 0 = some (canB g w) := by
      have := canT_get (g := g) (w := w) (t := w.length) (j := 0) (Nat.zero_le _)
      simpa using this
    have hlen := canB_len (g := g) w
    rw [hg0]
    simp only [Option.bind_some, ContainsB_eq (show (canB g w).length ≤ 9223372036854775807 by omega)]
    by_cases hm : true ∈ canB g w
    · rw [if_pos hm, if_neg (by simp [hm])]
      exact bindL (path_walk hv h16 hw (can_mem.1 hm)) rfl
    · rw [if_neg hm, if_pos (by simp [hm])]
  refine ⟨fun hf => ?_, fun hf => ?_⟩
  · rw [hx, if_pos (can_mem.2 hf)]
  · rw [hx, if_neg (fun h => hf (can_mem.1 h))]
end
end Go.AW

/- All words of a length. -/
namespace Go.AW
open Go
set_option linter.unusedSimpArgs false
set_option linter.unusedVariables false

/-- all words of a length over some letters -/
def allW (cs : List UInt8) : Nat → List (List UInt8)
  | 0 => [[]]
  | n + 1 => (allW cs n).flatMap fun w => cs.map fun c => w ++ [c]
theorem mem_allW {cs : List UInt8} : ∀ {n : Nat} {w : List UInt8}, w ∈ allW cs n ↔ w.length = n ∧ ∀ c ∈ w, c ∈ cs
  | 0, w => by
    simp only [allW, List.mem_singleton]
    constructor
    · rintro rfl; simp
    · rintro ⟨h, _⟩; exact List.eq_nil_of_length_eq_zero h
  | n + 1, w => by
    simp only [allW, List.mem_flatMap, List.mem_map]
    constructor
    · rintro ⟨u, hu, c, hc, rfl⟩
      obtain ⟨h1, h2⟩ := mem_allW.1 hu
      refine ⟨by simp [h1], fun d hd => ?_⟩
      rcases List.mem_append.1 hd with h | h
      · exact h2 d h
      · simp at h; subst h; exact hc
    · rintro ⟨h1, h2⟩
      rcases List.eq_nil_or_concat w with rfl | ⟨v, c, rfl⟩
      · simp at h1
      · rw [List.concat_eq_append] at h1 h2 ⊢
        exact ⟨v, mem_allW.2 ⟨by simpa using h1, fun d hd => h2 d (List.mem_append_left _ hd)⟩, c, h2 c (by simp), rfl⟩
theorem allW_len (cs : List UInt8) : ∀ n, (allW cs n).length = cs.length ^ n
  | 0 => rfl
  | n + 1 => by
    have h : ∀ l : List (List UInt8), (l.flatMap fun w => cs.map fun c => w ++ [c]).length = l.length * cs.length := by
      intro l
      induction l with
      | nil => simp
      | cons x l ih => rw [List.flatMap_cons, List.length_append, ih, List.length_map, List.length_cons, Nat.succ_mul]; omega
    simp only [allW]
    rw [h, allW_len cs n, Nat.pow_succ]
theorem allW_asc {cs : List UInt8} (hcs : cs.Pairwise (· < ·)) : ∀ n, (allW cs n).Pairwise (· < ·)
  | 0 => by simp [allW]
  | n + 1 => by
    simp only [allW]
    rw [List.pairwise_flatMap]
    refine ⟨fun x hx => ?_, (allW_asc hcs n).imp_of_mem fun {x y} hx hy hxy a ha b hb => ?_⟩
    · rw [List.pairwise_map]
      exact hcs.imp fun hcd => app_lt _ (List.cons_lt_cons_iff.2 (.inl hcd))
    · obtain ⟨c, _, rfl⟩ := List.mem_map.1 ha
      obtain ⟨d, _, rfl⟩ := List.mem_map.1 hb
      exact lt_app _ _ (by rw [(mem_allW.1 hx).1, (mem_allW.1 hy).1]) hxy

section
variable {g : Gr}
/-- a word can be read -/
def accB (g : Gr) (w : List UInt8) : Bool := decide (endsL g (upto g.2.1) w ≠ [])
end
end Go.AW

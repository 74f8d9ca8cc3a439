/- LanguageLetters: for every input the law's function returns true, and the input reads as it did. -/
import Derived.Test.YtccnafddjjamoaaLa5
import Derived.ChangeMaps5
import Derived.Laws.Externs
import Derived.Lib.Builder
import Derived.Lib.UnsafeStr
import Derived.OpenShut
import Derived.ProofKit
import Derived.Shelf.RegionOpenPlain
import Derived.SliceStrings
import Derived.Test.YtccnafddjjamoaaRows
import Derived.WalkKit
import Derived.WideKeyArgs
namespace Go.AW
open Go Go.Proofs
set_option linter.unusedVariables false
set_option maxHeartbeats 1600000 in
set_option maxRecDepth 100000 in
theorem w_slices_Equal_Lstring_string {p0 : List (List UInt8)} {p1 : List (List UInt8)} {r : Bool} (h : m_slices_Equal_Lstring_string p0 p1 = some r) : Pure Try.prog 20 [slE eStr p0, slE eStr p1] (· = HV.bool r) := by
  unfold m_slices_Equal_Lstring_string at h
  refine Pure.of_body Try.func20 rfl rfl (Nat.le_of_ble_eq_true rfl) fun hf => ?_
  unfold Try.f20
  dsimp only [enumS, Nat.reduceAdd]
  refine AW.rgs rfl fun K hK => ?_
  refine mv rfl rfl ?_
  refine b_nil (hK _ (AW.to (to_le (s' := ⟨[(0, slE eStr p0), (1, slE eStr p1)], []⟩) (AS.le_of ⟨rfl, rfl, trivial⟩ trivial) ?_)))
  clear hK K
  refine AW.seq ?_
  refine AW.rgs rfl fun K hK => ?_
  refine mv rfl rfl ?_
  refine bv rfl (v_lenF rfl rfl ty30 rfl) ?_
  refine mv rfl rfl ?_
  refine bv rfl (v_lenF rfl rfl ty30 rfl) ?_
  refine bv rfl (v_bin rfl rfl b_neq) ?_
  refine b_nil (hK _ (AW.to (to_le (s' := ⟨[(0, slE eStr p0), (1, slE eStr p1), (10, HV.bool (decide (((p0).length : Int) ≠ ((p1).length : Int))))], []⟩) (AS.le_of ⟨rfl, rfl, rfl, trivial⟩ trivial) ?_)))
  clear hK K
  refine AW.cond rfl (fun hc => ?_) (fun hc => ?_)
  · have hc := of_decide_eq_true hc
    have h := ifT hc h
    refine AW.rgs rfl fun K hK => ?_
    refine mv rfl rfl ?_
    refine b_nil (hK _ (AW.to (to_le (s' := ⟨[(4, HV.bool false)], []⟩) (AS.le_of ⟨rfl, trivial⟩ trivial) ?_)))
    clear hK K
    refine AW.ret ?_
    have h := Option.some.inj h
    subst h
    exact ret_pure (hs := [HV.bool false]) (q := HV.bool false) (.inr rfl) (resT rfl rfl) rfl trivial
  · have hc := of_decide_eq_false hc
    have h := ifF hc h
    refine AW.skip ?_
    refine AW.seq ?_
    refine AW.rgs rfl fun K hK => ?_
    refine mv rfl rfl ?_
    refine bv rfl (v_lenF rfl rfl ty30 rfl) ?_
    refine mv rfl rfl ?_
    refine b_nil (hK _ (AW.to (to_le (s' := ⟨[(0, slE eStr p0), (1, slE eStr p1), (12, HV.int .i64 ((p0).length : Int)), (13, HV.int .i64 0)], []⟩) (AS.le_of ⟨rfl, rfl, rfl, rfl, trivial⟩ trivial) ?_)))
    clear hK K
    refine AW.lpR h (by first | exact up_then | exact up_to) (S := Int) (V := Unit) (fun a v => ⟨[(0, slE eStr p0), (1, slE eStr p1), (12, HV.int .i64 ((p0).length : Int)), (13, HV.int .i64 a)], []⟩) ?_ (X := Unit) (W := Unit) (fun a v => ⟨[], []⟩) (fun a9 w10 h => ?_) (fun a1 w2 st3 h hr4=> ?_)
    · exact to_le (s' := ⟨[(0, slE eStr p0), (1, slE eStr p1), (12, HV.int .i64 ((p0).length : Int)), (13, HV.int .i64 0)], []⟩) (AS.le_of ⟨rfl, rfl, rfl, rfl, trivial⟩ trivial) ⟨(), rfl⟩
    · refine AW.rgs rfl fun K hK => ?_
      refine mv rfl rfl ?_
      refine b_nil (hK _ (AW.to (to_le (s' := ⟨[(4, HV.bool true)], []⟩) (AS.le_of ⟨rfl, trivial⟩ trivial) ?_)))
      clear hK K
      refine AW.ret ?_
      have h := Option.some.inj h
      subst h
      exact ret_pure (hs := [HV.bool true]) (q := HV.bool true) (.inr rfl) (resT rfl rfl) rfl trivial
    · refine AW.rgs rfl fun K hK => ?_
      refine bv rfl (v_bin rfl rfl b_lss) ?_
      refine b_nil (hK _ (AW.to (to_le (s' := ⟨[(0, slE eStr p0), (1, slE eStr p1), (12, HV.int .i64 ((p0).length : Int)), (13, HV.int .i64 a1), (14, HV.bool (decide (a1 < ((p0).length : Int))))], []⟩) (AS.le_of ⟨rfl, rfl, rfl, rfl, rfl, trivial⟩ trivial) ?_)))
      clear hK K
      refine AW.cseq rfl (fun hc => ?_) (fun hc => ?_)
      · have hc := of_decide_eq_true hc
        have h := ifT hc h
        refine AW.skip ?_
        refine AW.seq (AW.block ?_)
        refine AW.rgs rfl fun K hK => ?_
        refine mv rfl rfl ?_
        refine mv rfl rfl ?_
        refine b_nil (hK _ (AW.to (to_le (s' := ⟨[(0, slE eStr p0), (1, slE eStr p1), (5, HV.int .i64 a1), (12, HV.int .i64 ((p0).length : Int)), (13, HV.int .i64 a1)], []⟩) (AS.le_of ⟨rfl, rfl, rfl, rfl, rfl, trivial⟩ trivial) ?_)))
        clear hK K
        refine AW.dgs 9 follows rfl rfl fun K hK => ?_
        refine sm rfl rfl ?_
        refine sm rfl rfl ?_
        obtain ⟨x5, h6, h⟩ := bS h
        refine sv rfl (v_idxF ty30 es30 rfl rfl (idx_lt h6)) ?_
        refine sv rfl (v_loadF ty9 rfl (l_cell eStr h6 (o := 0) rfl rfl)) ?_
        refine sm rfl rfl ?_
        refine sm rfl rfl ?_
        obtain ⟨x7, h8, h⟩ := bS h
        refine sv rfl (v_idxF ty30 es30 rfl rfl (idx_lt h8)) ?_
        refine sv rfl (v_loadF ty9 rfl (l_cell eStr h8 (o := 0) rfl rfl)) ?_
        refine sv rfl (v_bin rfl rfl b_sneq) ?_
        refine s_nil ?_
        refine b_nil (hK _ (AW.to (to_le (s' := ⟨[(0, slE eStr p0), (1, slE eStr p1), (12, HV.int .i64 ((p0).length : Int)), (13, HV.int .i64 a1), (24, HV.bool (decide (x5 ≠ x7)))], []⟩) (AS.le_of ⟨rfl, rfl, rfl, rfl, rfl, trivial⟩ trivial) ?_)))
        clear hK K
        refine AW.cond rfl (fun hc => ?_) (fun hc => ?_)
        · have hc := of_decide_eq_true hc
          have h := ifT hc h
          refine AW.rgs rfl fun K hK => ?_
          refine mv rfl rfl ?_
          refine b_nil (hK _ (AW.to (to_le (s' := ⟨[(4, HV.bool false)], []⟩) (AS.le_of ⟨rfl, trivial⟩ trivial) ?_)))
          clear hK K
          have h := hr4 _ h
          refine AW.ret ?_
          have h := Option.some.inj h
          subst h
          exact ret_pure (hs := [HV.bool false]) (q := HV.bool false) (.inr rfl) (resT rfl rfl) rfl trivial
        · have hc := of_decide_eq_false hc
          have h := ifF hc h
          refine AW.skip ?_
          refine AW.rg rfl fun K hK => ?_
          refine bv rfl (v_bin rfl rfl b_add) ?_
          refine mv rfl rfl ?_
          refine b_nil (hK _ ?_)
          clear hK K
          exact to_le (s' := ⟨[(0, slE eStr p0), (1, slE eStr p1), (12, HV.int .i64 ((p0).length : Int)), (13, HV.int .i64 (IntKind.wrap .i64 (a1 + 1)))], []⟩) (AS.le_of ⟨rfl, rfl, rfl, rfl, trivial⟩ trivial) ⟨IntKind.wrap .i64 (a1 + 1), (), h, rfl⟩
      · have hc := of_decide_eq_false hc
        have h := ifF hc h
        refine AW.exit ?_
        exact to_le (s' := ⟨[], []⟩) (AS.le_of trivial trivial) ⟨(), (), h, rfl⟩

set_option maxHeartbeats 1600000 in
set_option maxRecDepth 100000 in
theorem w_slices_Equal_Lint_int {p0 : List (Int)} {p1 : List (Int)} {r : Bool} (h : m_slices_Equal_Lint_int p0 p1 = some r) : Pure Try.prog 32 [slE eInt p0, slE eInt p1] (· = HV.bool r) := by
  unfold m_slices_Equal_Lint_int at h
  refine Pure.of_body Try.func32 rfl rfl (Nat.le_of_ble_eq_true rfl) fun hf => ?_
  unfold Try.f32
  dsimp only [enumS, Nat.reduceAdd]
  refine AW.rgs rfl fun K hK => ?_
  refine mv rfl rfl ?_
  refine b_nil (hK _ (AW.to (to_le (s' := ⟨[(0, slE eInt p0), (1, slE eInt p1)], []⟩) (AS.le_of ⟨rfl, rfl, trivial⟩ trivial) ?_)))
  clear hK K
  refine AW.seq ?_
  refine AW.rgs rfl fun K hK => ?_
  refine mv rfl rfl ?_
  refine bv rfl (v_lenF rfl rfl ty42 rfl) ?_
  refine mv rfl rfl ?_
  refine bv rfl (v_lenF rfl rfl ty42 rfl) ?_
  refine bv rfl (v_bin rfl rfl b_neq) ?_
  refine b_nil (hK _ (AW.to (to_le (s' := ⟨[(0, slE eInt p0), (1, slE eInt p1), (10, HV.bool (decide (((p0).length : Int) ≠ ((p1).length : Int))))], []⟩) (AS.le_of ⟨rfl, rfl, rfl, trivial⟩ trivial) ?_)))
  clear hK K
  refine AW.cond rfl (fun hc => ?_) (fun hc => ?_)
  · have hc := of_decide_eq_true hc
    have h := ifT hc h
    refine AW.rgs rfl fun K hK => ?_
    refine mv rfl rfl ?_
    refine b_nil (hK _ (AW.to (to_le (s' := ⟨[(4, HV.bool false)], []⟩) (AS.le_of ⟨rfl, trivial⟩ trivial) ?_)))
    clear hK K
    refine AW.ret ?_
    have h := Option.some.inj h
    subst h
    exact ret_pure (hs := [HV.bool false]) (q := HV.bool false) (.inr rfl) (resT rfl rfl) rfl trivial
  · have hc := of_decide_eq_false hc
    have h := ifF hc h
    refine AW.skip ?_
    refine AW.seq ?_
    refine AW.rgs rfl fun K hK => ?_
    refine mv rfl rfl ?_
    refine bv rfl (v_lenF rfl rfl ty42 rfl) ?_
    refine mv rfl rfl ?_
    refine b_nil (hK _ (AW.to (to_le (s' := ⟨[(0, slE eInt p0), (1, slE eInt p1), (12, HV.int .i64 ((p0).length : Int)), (13, HV.int .i64 0)], []⟩) (AS.le_of ⟨rfl, rfl, rfl, rfl, trivial⟩ trivial) ?_)))
    clear hK K
    refine AW.lpR h (by first | exact up_then | exact up_to) (S := Int) (V := Unit) (fun a v => ⟨[(0, slE eInt p0), (1, slE eInt p1), (12, HV.int .i64 ((p0).length : Int)), (13, HV.int .i64 a)], []⟩) ?_ (X := Unit) (W := Unit) (fun a v => ⟨[], []⟩) (fun a9 w10 h => ?_) (fun a1 w2 st3 h hr4=> ?_)
    · exact to_le (s' := ⟨[(0, slE eInt p0), (1, slE eInt p1), (12, HV.int .i64 ((p0).length : Int)), (13, HV.int .i64 0)], []⟩) (AS.le_of ⟨rfl, rfl, rfl, rfl, trivial⟩ trivial) ⟨(), rfl⟩
    · refine AW.rgs rfl fun K hK => ?_
      refine mv rfl rfl ?_
      refine b_nil (hK _ (AW.to (to_le (s' := ⟨[(4, HV.bool true)], []⟩) (AS.le_of ⟨rfl, trivial⟩ trivial) ?_)))
      clear hK K
      refine AW.ret ?_
      have h := Option.some.inj h
      subst h
      exact ret_pure (hs := [HV.bool true]) (q := HV.bool true) (.inr rfl) (resT rfl rfl) rfl trivial
    · refine AW.rgs rfl fun K hK => ?_
      refine bv rfl (v_bin rfl rfl b_lss) ?_
      refine b_nil (hK _ (AW.to (to_le (s' := ⟨[(0, slE eInt p0), (1, slE eInt p1), (12, HV.int .i64 ((p0).length : Int)), (13, HV.int .i64 a1), (14, HV.bool (decide (a1 < ((p0).length : Int))))], []⟩) (AS.le_of ⟨rfl, rfl, rfl, rfl, rfl, trivial⟩ trivial) ?_)))
      clear hK K
      refine AW.cseq rfl (fun hc => ?_) (fun hc => ?_)
      · have hc := of_decide_eq_true hc
        have h := ifT hc h
        refine AW.skip ?_
        refine AW.seq (AW.block ?_)
        refine AW.rgs rfl fun K hK => ?_
        refine mv rfl rfl ?_
        refine mv rfl rfl ?_
        refine b_nil (hK _ (AW.to (to_le (s' := ⟨[(0, slE eInt p0), (1, slE eInt p1), (5, HV.int .i64 a1), (12, HV.int .i64 ((p0).length : Int)), (13, HV.int .i64 a1)], []⟩) (AS.le_of ⟨rfl, rfl, rfl, rfl, rfl, trivial⟩ trivial) ?_)))
        clear hK K
        refine AW.dgs 9 follows rfl rfl fun K hK => ?_
        refine sm rfl rfl ?_
        refine sm rfl rfl ?_
        obtain ⟨x5, h6, h⟩ := bS h
        refine sv rfl (v_idxF ty42 es42 rfl rfl (idx_lt h6)) ?_
        refine sv rfl (v_loadF ty3 rfl (l_cell eInt h6 (o := 0) rfl rfl)) ?_
        refine sm rfl rfl ?_
        refine sm rfl rfl ?_
        obtain ⟨x7, h8, h⟩ := bS h
        refine sv rfl (v_idxF ty42 es42 rfl rfl (idx_lt h8)) ?_
        refine sv rfl (v_loadF ty3 rfl (l_cell eInt h8 (o := 0) rfl rfl)) ?_
        refine sv rfl (v_bin rfl rfl b_neq) ?_
        refine s_nil ?_
        refine b_nil (hK _ (AW.to (to_le (s' := ⟨[(0, slE eInt p0), (1, slE eInt p1), (12, HV.int .i64 ((p0).length : Int)), (13, HV.int .i64 a1), (24, HV.bool (decide (x5 ≠ x7)))], []⟩) (AS.le_of ⟨rfl, rfl, rfl, rfl, rfl, trivial⟩ trivial) ?_)))
        clear hK K
        refine AW.cond rfl (fun hc => ?_) (fun hc => ?_)
        · have hc := of_decide_eq_true hc
          have h := ifT hc h
          refine AW.rgs rfl fun K hK => ?_
          refine mv rfl rfl ?_
          refine b_nil (hK _ (AW.to (to_le (s' := ⟨[(4, HV.bool false)], []⟩) (AS.le_of ⟨rfl, trivial⟩ trivial) ?_)))
          clear hK K
          have h := hr4 _ h
          refine AW.ret ?_
          have h := Option.some.inj h
          subst h
          exact ret_pure (hs := [HV.bool false]) (q := HV.bool false) (.inr rfl) (resT rfl rfl) rfl trivial
        · have hc := of_decide_eq_false hc
          have h := ifF hc h
          refine AW.skip ?_
          refine AW.rg rfl fun K hK => ?_
          refine bv rfl (v_bin rfl rfl b_add) ?_
          refine mv rfl rfl ?_
          refine b_nil (hK _ ?_)
          clear hK K
          exact to_le (s' := ⟨[(0, slE eInt p0), (1, slE eInt p1), (12, HV.int .i64 ((p0).length : Int)), (13, HV.int .i64 (IntKind.wrap .i64 (a1 + 1)))], []⟩) (AS.le_of ⟨rfl, rfl, rfl, rfl, trivial⟩ trivial) ⟨IntKind.wrap .i64 (a1 + 1), (), h, rfl⟩
      · have hc := of_decide_eq_false hc
        have h := ifF hc h
        refine AW.exit ?_
        exact to_le (s' := ⟨[], []⟩) (AS.le_of trivial trivial) ⟨(), (), h, rfl⟩

set_option maxHeartbeats 1600000 in
set_option maxRecDepth 100000 in
theorem w_language_Words {p0 : TLabelsStatesEdges} {p1 : Int} {r : (List (List UInt8)) × Int} (h : m_language_Words p0 p1 = some r) : Pure Try.prog 36 [HV.agg [HV.int .i64 p0.1, HV.int .i64 p0.2.1, slE eFromLabelTo p0.2.2], HV.int .i64 p1] (· = HV.tup [slE eStr r.1, HV.int .i64 r.2]) := by
  unfold m_language_Words at h
  refine Pure.of_body Try.func36 rfl rfl (Nat.le_of_ble_eq_true rfl) fun hf => ?_
  unfold Try.f36
  dsimp only [enumS, Nat.reduceAdd]
  refine AW.rgs rfl fun K hK => ?_
  refine b_op rfl (o_box rfl rfl rfl ?_)
  refine mv rfl rfl ?_
  refine mv rfl rfl ?_
  refine b_nil (hK _ (AW.to (to_le (s' := ⟨[(1, HV.int .i64 p1), (2, HV.fptr [HV.int .i64 p0.1, HV.int .i64 p0.2.1, slE eFromLabelTo p0.2.2] 0)], []⟩) (AS.le_of ⟨rfl, rfl, trivial⟩ trivial) ?_)))
  clear hK K
  refine AW.seq ?_
  refine AW.rgs rfl fun K hK => ?_
  refine bv rfl (v_loadF ty24 rfl (l_litA rfl (Nat.le_of_ble_eq_true rfl) rfl)) ?_
  refine mv rfl rfl ?_
  obtain ⟨x1, h2, h⟩ := bS h
  refine b_op rfl (o_call rfl rfl rfl rfl (ACallD.pure0 (w_language_lengths h2)) ?_)
  refine mv rfl rfl ?_
  refine b_nil (hK _ (AW.to (to_le (s' := ⟨[(1, HV.int .i64 p1), (2, HV.fptr [HV.int .i64 p0.1, HV.int .i64 p0.2.1, slE eFromLabelTo p0.2.2] 0), (6, HV.int .i64 x1)], []⟩) (AS.le_of ⟨rfl, rfl, rfl, trivial⟩ trivial) ?_)))
  clear hK K
  refine AW.rgs rfl fun K hK => ?_
  refine mv rfl rfl ?_
  refine bv rfl (v_bin rfl rfl b_neq) ?_
  refine b_nil (hK _ (AW.to (to_le (s' := ⟨[(1, HV.int .i64 p1), (2, HV.fptr [HV.int .i64 p0.1, HV.int .i64 p0.2.1, slE eFromLabelTo p0.2.2] 0), (6, HV.int .i64 x1), (13, HV.bool (decide (x1 ≠ 0)))], []⟩) (AS.le_of ⟨rfl, rfl, rfl, rfl, trivial⟩ trivial) ?_)))
  clear hK K
  refine AW.cond rfl (fun hc => ?_) (fun hc => ?_)
  · have hc := of_decide_eq_true hc
    have h := ifT hc h
    refine AW.rgs rfl fun K hK => ?_
    refine mv rfl rfl ?_
    refine mv rfl rfl ?_
    refine mv rfl rfl ?_
    refine b_nil (hK _ (AW.to (to_le (s' := ⟨[(4, HV.v (.slice none 0 0)), (5, HV.int .i64 x1)], []⟩) (AS.le_of ⟨rfl, rfl, trivial⟩ trivial) ?_)))
    clear hK K
    refine AW.to (to_weak ⟨[(4, slE eStr ([] : List (List UInt8))), (5, HV.int .i64 x1)], []⟩ ⟨⟨_, rfl, .nil _⟩, ⟨_, rfl, .refl _⟩, trivial⟩ trivial ?_)
    refine AW.ret ?_
    have h := Option.some.inj h
    subst h
    exact ret_pure (hs := [slE eStr ([] : List (List UInt8)), HV.int .i64 x1]) (q := HV.tup [slE eStr ([] : List (List UInt8)), HV.int .i64 x1]) (.inr rfl) (resT rfl (resT rfl rfl)) rfl ⟨(clean_slE fun _ _ => ⟨trivial, trivial⟩), trivial, trivial⟩
  · have hc := of_decide_eq_false hc
    have h := ifF hc h
    refine AW.skip ?_
    refine AW.dys follows fun K hK => ?_
    refine y_st 4 rfl rfl ?_
    refine sv rfl (v_loadF ty24 rfl (l_litA rfl (Nat.le_of_ble_eq_true rfl) rfl)) ?_
    refine sv rfl (v_loadF ty24 rfl (l_litA rfl (Nat.le_of_ble_eq_true rfl) rfl)) ?_
    obtain ⟨x3, h4, h⟩ := bS h
    refine s_op rfl rfl (ops_call rfl rfl rfl rfl (ACallD.pure0 (w_language_states h4)) ?_)
    refine sm rfl rfl ?_
    refine s_nil ?_
    obtain ⟨x5, h6, h⟩ := bS h
    by_cases hg7 : x5.2 = true
    · have h := ifT hg7 h
      refine y_op rfl rfl rfl rfl (o_callA rfl rfl rfl rfl (c_listT h6 hg7 fun i8 v9 es10 hes11 => ?_) )
      refine b_nil ?_
      refine y_st 10 rfl rfl ?_
      refine sm rfl rfl ?_
      refine sv rfl (v_extract rfl rfl) ?_
      refine sv rfl (v_extract rfl rfl) ?_
      refine sm rfl rfl ?_
      refine sm rfl rfl ?_
      refine s_nil ?_
      refine y_nil rfl (hK _ (AW.to (to_le (s' := ⟨[(7, HV.mp i8 v9), (8, HV.bool true)], [(i8, v9, .map es10)]⟩) (AS.le_of ⟨rfl, rfl, trivial⟩ ⟨hget_0, trivial⟩) ?_)))
      clear hK K
      refine AW.seq ?_
      refine AW.rgs rfl fun K hK => ?_
      refine mv rfl rfl ?_
      refine bv rfl (v_not rfl) ?_
      refine b_nil (hK _ (AW.to (to_le (s' := ⟨[(7, HV.mp i8 v9), (24, HV.bool false)], [(i8, v9, .map es10)]⟩) (AS.le_of ⟨rfl, rfl, trivial⟩ ⟨hget_0, trivial⟩) ?_)))
      clear hK K
      refine AW.cond rfl (fun hc => by cases hc) (fun _ => ?_)
      refine AW.skip ?_
      refine AW.rgs rfl fun K hK => ?_
      refine mv rfl rfl ?_
      refine b_op rfl (o_callK [(i8, v9, .map es10)] rfl rfl rfl rfl (fun K hK => w82 hK) ?_)
      refine b_op rfl (o_callK (q := slE eStr (sortS ((x5.1).map Prod.fst))) [] rfl rfl rfl rfl (fun K hK => c_sortedKeys hes11 hK) ?_)
      refine mv rfl rfl ?_
      refine mv rfl rfl ?_
      refine b_nil (hK _ (AW.to (to_le (s' := ⟨[(4, slE eStr (sortS ((x5.1).map Prod.fst))), (5, HV.int .i64 0)], []⟩) (AS.le_of ⟨rfl, rfl, trivial⟩ trivial) ?_)))
      clear hK K
      refine AW.ret ?_
      have h := Option.some.inj h
      subst h
      exact ret_pure (hs := [slE eStr (sortS ((x5.1).map Prod.fst)), HV.int .i64 0]) (q := HV.tup [slE eStr (sortS ((x5.1).map Prod.fst)), HV.int .i64 0]) (.inr rfl) (resT rfl (resT rfl rfl)) rfl ⟨(clean_slE fun _ _ => ⟨trivial, trivial⟩), trivial, trivial⟩
    · have h := ifF hg7 h
      refine y_op rfl rfl rfl rfl (o_callA rfl rfl rfl rfl (c_listF h6 hg7 ?_) )
      refine b_nil ?_
      refine y_st 10 rfl rfl ?_
      refine sm rfl rfl ?_
      refine sv rfl (v_extract rfl rfl) ?_
      refine sv rfl (v_extract rfl rfl) ?_
      refine sm rfl rfl ?_
      refine sm rfl rfl ?_
      refine s_nil ?_
      refine y_nil rfl (hK _ (AW.to (to_le (s' := ⟨[(7, HV.v (.map none)), (8, HV.bool false)], []⟩) (AS.le_of ⟨rfl, rfl, trivial⟩ trivial) ?_)))
      clear hK K
      refine AW.seq ?_
      refine AW.rgs rfl fun K hK => ?_
      refine mv rfl rfl ?_
      refine bv rfl (v_not rfl) ?_
      refine b_nil (hK _ (AW.to (to_le (s' := ⟨[(7, HV.v (.map none)), (24, HV.bool true)], []⟩) (AS.le_of ⟨rfl, rfl, trivial⟩ trivial) ?_)))
      clear hK K
      refine AW.cond rfl (fun _ => ?_) (fun hc => by cases hc)
      refine AW.rgs rfl fun K hK => ?_
      refine mv rfl rfl ?_
      refine mv rfl rfl ?_
      refine b_nil (hK _ (AW.to (to_le (s' := ⟨[(4, HV.v (.slice none 0 0)), (5, HV.int .i64 4)], []⟩) (AS.le_of ⟨rfl, rfl, trivial⟩ trivial) ?_)))
      clear hK K
      refine AW.to (to_weak ⟨[(4, slE eStr ([] : List (List UInt8))), (5, HV.int .i64 4)], []⟩ ⟨⟨_, rfl, .nil _⟩, ⟨_, rfl, .refl _⟩, trivial⟩ trivial ?_)
      refine AW.ret ?_
      have h := Option.some.inj h
      subst h
      exact ret_pure (hs := [slE eStr ([] : List (List UInt8)), HV.int .i64 4]) (q := HV.tup [slE eStr ([] : List (List UInt8)), HV.int .i64 4]) (.inr rfl) (resT rfl (resT rfl rfl)) rfl ⟨(clean_slE fun _ _ => ⟨trivial, trivial⟩), trivial, trivial⟩

set_option maxHeartbeats 1600000 in
set_option maxRecDepth 100000 in
theorem w_law11_golden  {r : TLabelsStatesEdges} (h : m_law11_golden  = some r) : Pure Try.prog 87 [] (· = HV.agg [HV.int .i64 r.1, HV.int .i64 r.2.1, slE eFromLabelTo r.2.2]) := by
  unfold m_law11_golden at h
  refine Pure.of_body Try.func87 rfl rfl (Nat.le_of_ble_eq_true rfl) fun hf => ?_
  unfold Try.f87
  dsimp only [enumS, Nat.reduceAdd]
  refine AW.rgs rfl fun K hK => ?_
  refine b_op rfl (o_alloc (fid := 87) (zs := [HV.int .i64 0, HV.int .i64 0, HV.v (.slice none 0 0)]) 87000 rfl rfl ty24 rfl (fun v1 => ?_))
  refine b_nil (hK _ (AW.to (to_le (s' := ⟨[(0, HV.ptr 87000 v1 0)], [(87000, v1, .arr 3 24 [HV.int .i64 0, HV.int .i64 0, HV.v (.slice none 0 0)])]⟩) (AS.le_of ⟨rfl, trivial⟩ ⟨rfl, trivial⟩) ?_)))
  clear hK K
  refine AW.rgs rfl fun K hK => ?_
  refine b_op rfl (o_build (cs := [HV.int .i64 0, HV.int .i64 0, HV.int .i64 0]) rfl (bl_of ty66 rfl rfl rfl rfl) ?_)
  refine b_op rfl (o_build (cs := [HV.int .i64 0, HV.int .i64 1, HV.int .i64 1]) rfl (bl_of ty66 rfl rfl rfl rfl) ?_)
  refine b_op rfl (o_build (cs := [HV.int .i64 1, HV.int .i64 0, HV.int .i64 0]) rfl (bl_of ty66 rfl rfl rfl rfl) ?_)
  refine b_op rfl (o_bsl rfl rfl (as_of (cs := [HV.int .i64 0, HV.int .i64 0, HV.int .i64 0, HV.int .i64 0, HV.int .i64 1, HV.int .i64 1, HV.int .i64 1, HV.int .i64 0, HV.int .i64 0]) ty22 ty66 rfl rfl rfl rfl rfl) ?_)
  refine b_op rfl (o_build (cs := [HV.int .i64 2, HV.int .i64 2, slE eFromLabelTo [(0, 0, 0), (0, 1, 1), (1, 0, 0)]]) rfl (bl_of ty24 rfl rfl rfl rfl) ?_)
  refine b_op rfl (o_store (cs := [HV.int .i64 2, HV.int .i64 2, slE eFromLabelTo [(0, 0, 0), (0, 1, 1), (1, 0, 0)]]) (zs := [HV.int .i64 2, HV.int .i64 2, slE eFromLabelTo [(0, 0, 0), (0, 1, 1), (1, 0, 0)]]) rfl rfl rfl ty24 rfl rfl rfl rfl rfl ?_)
  refine b_nil (hK _ (AW.to (to_le (s' := ⟨[(0, HV.ptr 87000 v1 0)], [(87000, v1, .arr 3 24 [HV.int .i64 2, HV.int .i64 2, slE eFromLabelTo [(0, 0, 0), (0, 1, 1), (1, 0, 0)]])]⟩) (AS.le_of ⟨rfl, trivial⟩ ⟨rfl, trivial⟩) ?_)))
  clear hK K
  refine AW.ret ?_
  have h := Option.some.inj h
  subst h
  exact ret_pure (hs := [HV.agg [HV.int .i64 2, HV.int .i64 2, slE eFromLabelTo [(0, 0, 0), (0, 1, 1), (1, 0, 0)]]]) (q := HV.agg [HV.int .i64 2, HV.int .i64 2, slE eFromLabelTo [(0, 0, 0), (0, 1, 1), (1, 0, 0)]]) (.inr rfl) (resP ty24 rfl rfl (l_litA rfl (Nat.le_of_ble_eq_true rfl) rfl) rfl) rfl ⟨trivial, trivial, (clean_slE fun _ _ => ⟨trivial, trivial, trivial, trivial⟩), trivial⟩

set_option maxHeartbeats 1600000 in
set_option maxRecDepth 100000 in
theorem w_law11_awakeG  {r : Bool} (h : m_law11_awakeG  = some r) : Pure Try.prog 41 [] (· = HV.bool r) := by
  unfold m_law11_awakeG at h
  refine Pure.of_body Try.func41 rfl rfl (Nat.le_of_ble_eq_true rfl) fun hf => ?_
  unfold Try.f41
  dsimp only [enumS, Nat.reduceAdd]
  refine AW.rgs rfl fun K hK => ?_
  refine mv rfl rfl ?_
  refine b_nil (hK _ (AW.to (to_le (s' := ⟨[], []⟩) (AS.le_of trivial trivial) ?_)))
  clear hK K
  refine AW.rgs rfl fun K hK => ?_
  obtain ⟨x1, h2, h⟩ := bS h
  refine b_op rfl (o_call rfl rfl rfl rfl (ACallD.pure0 (w_law11_golden h2)) ?_)
  obtain ⟨x3, h4, h⟩ := bS h
  refine b_op rfl (o_call rfl rfl rfl rfl (ACallD.pure0 (w_language_Words h4)) ?_)
  refine mv rfl rfl ?_
  refine bv rfl (v_extract rfl rfl) ?_
  refine bv rfl (v_extract rfl rfl) ?_
  refine mv rfl rfl ?_
  refine mv rfl rfl ?_
  refine b_nil (hK _ (AW.to (to_le (s' := ⟨[(1, slE eStr x3.1), (2, HV.int .i64 x3.2)], []⟩) (AS.le_of ⟨rfl, rfl, trivial⟩ trivial) ?_)))
  clear hK K
  refine AW.rgs rfl fun K hK => ?_
  obtain ⟨x5, h6, h⟩ := bS h
  refine b_op rfl (o_call rfl rfl rfl rfl (ACallD.pure0 (w_law11_golden h6)) ?_)
  obtain ⟨x7, h8, h⟩ := bS h
  refine b_op rfl (o_call rfl rfl rfl rfl (ACallD.pure0 (w_language_Missing h8)) ?_)
  refine mv rfl rfl ?_
  refine bv rfl (v_extract rfl rfl) ?_
  refine bv rfl (v_extract rfl rfl) ?_
  refine bv rfl (v_extract rfl rfl) ?_
  refine mv rfl rfl ?_
  refine mv rfl rfl ?_
  refine mv rfl rfl ?_
  refine b_nil (hK _ (AW.to (to_le (s' := ⟨[(1, slE eStr x3.1), (2, HV.int .i64 x3.2), (3, HV.str x7.1), (4, HV.bool x7.2.1), (5, HV.int .i64 x7.2.2)], []⟩) (AS.le_of ⟨rfl, rfl, rfl, rfl, rfl, trivial⟩ trivial) ?_)))
  clear hK K
  refine AW.rgs rfl fun K hK => ?_
  obtain ⟨x9, h10, h⟩ := bS h
  refine b_op rfl (o_call rfl rfl rfl rfl (ACallD.pure0 (w_law11_golden h10)) ?_)
  obtain ⟨x11, h12, h⟩ := bS h
  refine b_op rfl (o_call rfl rfl rfl rfl (ACallD.pure0 (w_language_Path h12)) ?_)
  refine mv rfl rfl ?_
  refine bv rfl (v_extract rfl rfl) ?_
  refine bv rfl (v_extract rfl rfl) ?_
  refine mv rfl rfl ?_
  refine mv rfl rfl ?_
  refine b_nil (hK _ (AW.to (to_le (s' := ⟨[(1, slE eStr x3.1), (2, HV.int .i64 x3.2), (3, HV.str x7.1), (4, HV.bool x7.2.1), (5, HV.int .i64 x7.2.2), (6, slE eInt x11.1), (7, HV.int .i64 x11.2)], []⟩) (AS.le_of ⟨rfl, rfl, rfl, rfl, rfl, rfl, rfl, trivial⟩ trivial) ?_)))
  clear hK K
  refine AW.seqJ h (S := Bool) (V := Unit) (fun a v => ⟨[(0, HV.bool a)], []⟩) (fun a13 w14 h => ?_) (fun k15 h => ?_)
  · refine AW.ret ?_
    have h := Option.some.inj h
    subst h
    exact ret_pure (hs := [HV.bool a13]) (q := HV.bool a13) (.inr rfl) (resT rfl rfl) rfl trivial
  · refine AW.rg rfl fun K hK => ?_
    refine mv rfl rfl ?_
    refine mv rfl rfl ?_
    refine mv rfl rfl ?_
    refine bv rfl (v_max3 rfl rfl rfl rfl) ?_
    refine bv rfl (v_bin rfl rfl b_eql) ?_
    refine mv rfl rfl ?_
    by_cases hg23 : (max (max x3.2 x7.2.2) x11.2) = 0
    · have h := ifT hg23 h
      refine b_T rfl rfl rfl rfl (decide_eq_true hg23) (o_val rfl (mv_val rfl rfl).2 ?_)
      refine b_T rfl rfl rfl rfl rfl (o_bsl rfl rfl (as_of (cs := [HV.str [48, 48], HV.str [48, 49], HV.str [49, 48]]) ty30 ty9 rfl rfl rfl rfl rfl) ?_)
      obtain ⟨x16, h17, h⟩ := bS h
      refine b_T rfl rfl rfl rfl rfl (o_call rfl rfl rfl rfl (ACallD.pure0 (w_slices_Equal_Lstring_string h17)) ?_)
      refine bv rfl (v_pickT rfl rfl rfl) ?_
      refine mv rfl rfl ?_
      by_cases hg22 : x16 = true
      · have h := ifT hg22 h
        refine b_T rfl rfl rfl rfl hg22 (o_val rfl (mv_val rfl rfl).2 ?_)
        refine b_T rfl rfl rfl rfl rfl (o_val rfl (v_bin rfl rfl b_seql) ?_)
        refine bv rfl (v_pickT rfl rfl rfl) ?_
        refine mv rfl rfl ?_
        by_cases hg21 : x7.1 = [49, 49]
        · have h := ifT hg21 h
          refine b_T rfl rfl rfl rfl (decide_eq_true hg21) (o_val rfl (mv_val rfl rfl).2 ?_)
          refine bv rfl (v_pickT rfl rfl rfl) ?_
          refine mv rfl rfl ?_
          by_cases hg20 : x7.2.1 = true
          · have h := ifT hg20 h
            refine b_T rfl rfl rfl rfl hg20 (o_val rfl (mv_val rfl rfl).2 ?_)
            refine b_T rfl rfl rfl rfl rfl (o_bsl rfl rfl (as_of (cs := [HV.int .i64 0, HV.int .i64 1, HV.int .i64 2]) ty42 ty3 rfl rfl rfl rfl rfl) ?_)
            obtain ⟨x18, h19, h⟩ := bS h
            refine b_T rfl rfl rfl rfl rfl (o_call rfl rfl rfl rfl (ACallD.pure0 (w_slices_Equal_Lint_int h19)) ?_)
            refine bv rfl (v_pickT rfl rfl rfl) ?_
            refine mv rfl rfl ?_
            refine b_nil (hK _ ?_)
            clear hK K
            exact to_le (s' := ⟨[(0, HV.bool x18)], []⟩) (AS.le_of ⟨rfl, trivial⟩ trivial) ⟨x18, (), h, rfl⟩
          · have h := ifF hg20 h
            refine b_F rfl rfl rfl rfl rfl (bF hg20) ?_
            refine b_F rfl rfl rfl rfl rfl rfl ?_
            refine b_F rfl rfl rfl rfl rfl rfl ?_
            refine bv rfl (v_pickF rfl rfl rfl) ?_
            refine mv rfl rfl ?_
            refine b_nil (hK _ ?_)
            clear hK K
            exact to_le (s' := ⟨[(0, HV.bool false)], []⟩) (AS.le_of ⟨rfl, trivial⟩ trivial) ⟨false, (), h, rfl⟩
        · have h := ifF hg21 h
          refine b_F rfl rfl rfl rfl rfl (decide_eq_false hg21) ?_
          refine bv rfl (v_pickF rfl rfl rfl) ?_
          refine mv rfl rfl ?_
          refine b_F rfl rfl rfl rfl rfl rfl ?_
          refine b_F rfl rfl rfl rfl rfl rfl ?_
          refine b_F rfl rfl rfl rfl rfl rfl ?_
          refine bv rfl (v_pickF rfl rfl rfl) ?_
          refine mv rfl rfl ?_
          refine b_nil (hK _ ?_)
          clear hK K
          exact to_le (s' := ⟨[(0, HV.bool false)], []⟩) (AS.le_of ⟨rfl, trivial⟩ trivial) ⟨false, (), h, rfl⟩
      · have h := ifF hg22 h
        refine b_F rfl rfl rfl rfl rfl (bF hg22) ?_
        refine b_F rfl rfl rfl rfl rfl rfl ?_
        refine bv rfl (v_pickF rfl rfl rfl) ?_
        refine mv rfl rfl ?_
        refine b_F rfl rfl rfl rfl rfl rfl ?_
        refine bv rfl (v_pickF rfl rfl rfl) ?_
        refine mv rfl rfl ?_
        refine b_F rfl rfl rfl rfl rfl rfl ?_
        refine b_F rfl rfl rfl rfl rfl rfl ?_
        refine b_F rfl rfl rfl rfl rfl rfl ?_
        refine bv rfl (v_pickF rfl rfl rfl) ?_
        refine mv rfl rfl ?_
        refine b_nil (hK _ ?_)
        clear hK K
        exact to_le (s' := ⟨[(0, HV.bool false)], []⟩) (AS.le_of ⟨rfl, trivial⟩ trivial) ⟨false, (), h, rfl⟩
    · have h := ifF hg23 h
      refine b_F rfl rfl rfl rfl rfl (decide_eq_false hg23) ?_
      refine b_F rfl rfl rfl rfl rfl rfl ?_
      refine b_F rfl rfl rfl rfl rfl rfl ?_
      refine bv rfl (v_pickF rfl rfl rfl) ?_
      refine mv rfl rfl ?_
      refine b_F rfl rfl rfl rfl rfl rfl ?_
      refine b_F rfl rfl rfl rfl rfl rfl ?_
      refine bv rfl (v_pickF rfl rfl rfl) ?_
      refine mv rfl rfl ?_
      refine b_F rfl rfl rfl rfl rfl rfl ?_
      refine bv rfl (v_pickF rfl rfl rfl) ?_
      refine mv rfl rfl ?_
      refine b_F rfl rfl rfl rfl rfl rfl ?_
      refine b_F rfl rfl rfl rfl rfl rfl ?_
      refine b_F rfl rfl rfl rfl rfl rfl ?_
      refine bv rfl (v_pickF rfl rfl rfl) ?_
      refine mv rfl rfl ?_
      refine b_nil (hK _ ?_)
      clear hK K
      exact to_le (s' := ⟨[(0, HV.bool false)], []⟩) (AS.le_of ⟨rfl, trivial⟩ trivial) ⟨false, (), h, rfl⟩

end Go.AW



/- The anchor of chapter 11. -/
namespace Go.AW
open Go Go.Proofs
theorem w_law11_awake {r : Bool} (h : m_law11_awake = some r) : Pure Try.prog 41 [] (· = HV.bool r) := by
  cases h
  exact w_law11_awakeG awake11_eq
end Go.AW

/- strings.Builder: the check for copies. -/
namespace Go.Proofs
open Go

/-- a variable lies at the head of its row -/
theorem Try.bld_lies (n : Nat) (hn : 2 ≤ n) : liesAt Try.prog Try.prog.depth 133 (n / Try.prog.cellsOf 133) 0 133 1 = true := by
  have hc : Try.prog.cellsOf 133 = 2 := by kernel_rfl
  have hd : Try.prog.depth = (2 * (Try.prog.types.size + Made.depth) + 1) + 1 := rfl
  rw [hd]
  simp only [liesAt, Bool.or_eq_true]
  left
  rw [hd]
  have : 1 ≤ n / 2 := by omega
  simp [rowAt, hc, sameLayout, this]

set_option maxHeartbeats 1000000 in
set_option maxRecDepth 100000 in
theorem Try.copyCheck_fresh (b n : Nat) (w : World) (h0 : w.cell? ⟨b, 0, none⟩ = some (.pointer none)) (hsh : w.shape? b = some (133, n)) (hn : 2 ≤ n) (hfz : w.frozen? ⟨b, 0, none⟩ = false) :
    Calls Try.prog 145 #[.pointer (some ⟨b, 0, none⟩)] w fun e w' => e = .returned (.tuple #[]) ∧ w' = w.setCell ⟨b, 0, none⟩ (.pointer (some ⟨b, 0, none⟩)) := by
  obtain ⟨j, hj, hjs⟩ := Option.map_eq_some_iff.1 (show (Try.prog.info? 133).map (·.size) = some 2 by kernel_rfl)
  have hlies := Try.bld_lies n hn
  go_enter Try.func145, Try.ntmps145
  go_wp2
  rw [Lib.run_to_unsafe w ⟨b, 0, none⟩ Try.underlying130 Try.underlying205 hj (by rw [hjs]; decide) hsh (by show 0 < n; omega)]
  simp only [Result.andThen]
  rw [Oper.upon_value]
  go_wp2
  rw [run_callFunc_extern Try.func170 (by kernel_rfl) (by kernel_rfl) (by kernel_rfl) (e := Extern.AbiNoEscape.same) (by kernel_rfl), Lib.run_noEscape]
  simp only [Result.andThen]
  rw [Oper.upon_value]
  go_wp2
  rw [Lib.run_from_unsafe w ⟨b, 0, none⟩ Try.underlying205 Try.underlying130 hj hsh hlies]
  simp only [Result.andThen]
  rw [Oper.upon_value]
  go_wp2
  go_end0
  exact ⟨rfl, rfl⟩

set_option maxHeartbeats 1000000 in
set_option maxRecDepth 100000 in
theorem Try.copyCheck_used (b : Nat) (w : World) (h0 : w.cell? ⟨b, 0, none⟩ = some (.pointer (some ⟨b, 0, none⟩))) :
    Calls Try.prog 145 #[.pointer (some ⟨b, 0, none⟩)] w fun e w' => e = .returned (.tuple #[]) ∧ w' = w := by
  obtain ⟨j, hj, _⟩ := Option.map_eq_some_iff.1 (show (Try.prog.info? 133).map (·.size) = some 2 by kernel_rfl)
  go_enter Try.func145, Try.ntmps145
  go_wp2
  rw [Lib.run_neq_ptr_same w _ Try.underlying130 hj]
  go_wp2
  go_end0
  exact ⟨rfl, rfl⟩
end Go.Proofs

namespace Go.AW
open Go Go.Proofs Go.Lib

/-- the first cell of a builder -/
def bldP (u : Bool) (id ver : Nat) : HV := if u then .ptr id ver 0 else .v (.pointer none)

theorem c_copyCheck {H : Heap} {K : HV → Heap → Prop} {id ver : Nat} {u : Bool} {s : HV} (hg : hget H id = some (ver, .arr 2 133 [bldP u id ver, s])) (hK : K (.tup []) ((id, ver, .arr 2 133 [.ptr id ver 0, s]) :: H)) :
    ACall Try.prog 145 [.ptr id ver 0] H K := by
  refine ⟨enters' Try.func145 rfl rfl, fun μ w vs hs hr => ?_⟩
  obtain ⟨x, xs, rfl, hr, hn⟩ := hr
  cases hn
  obtain ⟨lo, hl, hor⟩ := hs.has _ _ _ hg
  have hle : ∀ ob j (y : Nat × AObj), hget ((id, ver, ob) :: H) j = some y ↔ hget (hset H id ver ob) j = some y := fun ob j y => by simp only [hget, hget_hset]
  rcases hr with ⟨b, hl', rfl⟩ | ⟨hd, _⟩
  · rw [hl] at hl'
    cases hl'
    obtain ⟨h1, cur, vs', rest, hrow, hcl, hrl⟩ := hor
    obtain ⟨v0, vs1, rfl, r0, v1, vs2, rfl, r1, hn⟩ := hrl
    cases hn
    have hrow2 := hrow
    obtain ⟨lo', hi', hbk, hfr⟩ := hrow2
    have hsz : 2 ≤ cur.size := by rw [← Array.length_toList, hcl]; simp
    have hc0 : cur[0]? = some v0 := by rw [← Array.getElem?_toList, hcl]; rfl
    have hcell : w.cell? ⟨b, 0, none⟩ = some v0 := by rw [Lib.cell_of_heap hbk]; exact hc0
    cases u with
    | false =>
      obtain rfl : v0 = .pointer none := r0
      refine (Try.copyCheck_fresh b cur.size w hcell (by simp [World.shape?, hbk]) hsz (hrow.free (by omega))).mono ?_
      rintro e w' ⟨rfl, rfl⟩
      have hbk' : (w.setCell ⟨b, 0, none⟩ (.pointer (some ⟨b, 0, none⟩))).heap[b]? = some (.cells (cur.setIfInBounds 0 (.pointer (some ⟨b, 0, none⟩))) 133 (lo', hi')) := by
        show (w.heap.modify b _)[b]? = _
        rw [Array.getElem?_modify, if_pos rfl, hbk]
        rfl
      obtain ⟨hsr, hE⟩ := hs.updArr (w' := w.setCell ⟨b, 0, none⟩ (.pointer (some ⟨b, 0, none⟩))) (cs' := [.ptr id ver 0, s]) hg hl ⟨rfl, rfl, rfl⟩ (by show (w.heap.modify b _).size = _; simp) (fun b' hne => by
        show (w.heap.modify b _)[b']? = _
        rw [Array.getElem?_modify, if_neg (fun e => hne e.symm)]) hrow ⟨lo', hi', hbk', by simpa using hfr⟩ (by simp) fun E => by
          refine ⟨fun c hc => ?_, _, [.pointer (some ⟨b, 0, none⟩), v1], rest, ⟨lo', hi', hbk', by simpa using hfr⟩, ?_, ?_⟩
          · rcases List.mem_cons.1 hc with rfl | hc
            · rfl
            · exact h1 c (List.mem_cons_of_mem _ hc)
          · rw [Array.toList_setIfInBounds, hcl]; rfl
          · exact ⟨_, _, rfl, .inl ⟨b, hl, rfl⟩, _, _, rfl, Rep.evo E hs.ok _ _ r1, rfl⟩
      exact ⟨_, .tup [], _, μ, rfl, hK, hsr.le (hle _), ⟨[], rfl, rfl⟩, hE⟩
    | true =>
      rcases r0 with ⟨b', hl2, rfl⟩ | ⟨hd, _⟩
      · rw [hl] at hl2
        cases hl2
        refine (Try.copyCheck_used b w hcell).mono ?_
        rintro e w' ⟨rfl, rfl⟩
        exact ⟨_, .tup [], _, μ, rfl, hK, (hs.same hg).le (hle _), ⟨[], rfl, rfl⟩, Evo.refl _ _⟩
      · exact absurd hl (hd.2 _)
  · exact absurd hl (hd.2 _)
end Go.AW

/- Bytes in owned arrays: append of a text. -/
namespace Go.AW
open Go
abbrev eByte : EncL UInt8 := encM fun b => HV.int .u8 (b.toNat : Int)
section
variable {P : Program} {ro : Option Nat} {N : Nat} {s : AS} {o : Oper} {sl : List (Nat × HV)} {H : Heap} {all : Array Oper} {rest : List Oper} {K : AS → Prop}
end
end Go.AW

/- strings.Builder: writing. -/
namespace Go.AW
open Go Go.Proofs

/-- a builder: its cells, its bytes -/
def bldO (id ver aid aver : Nat) (u : Bool) (l : List UInt8) : AObj := .arr 2 133 [bldP u id ver, .ar aid aver 1 0 l.length]
def bytO (l : List UInt8) : AObj := .arr 1 5 (eByte.E l)

theorem hget_1 {id v j w : Nat} {o p : AObj} {H : Heap} (h : j ≠ id) (hj : hget H j = some (w, p)) : hget ((id, v, o) :: H) j = some (w, p) := by
  simp only [hget]
  rw [if_neg (by omega)]
  exact hj

set_option maxRecDepth 100000 in
theorem c_WriteByte {H : Heap} {K : HV → Heap → Prop} {id ver aid aver : Nat} {u : Bool} {l : List UInt8} {c : UInt8} (hid : aid ≠ id) (hg : hget H id = some (ver, bldO id ver aid aver u l)) (ha : hget H aid = some (aver, bytO l)) (hfit : fits 1 (l.length + 1))
    (hK : ∀ av, K (.v .nilIface) ((id, ver, bldO id ver aid av true (l ++ [c])) :: (aid, av, bytO (l ++ [c])) :: H)) : ACall Try.prog 103 [.ptr id ver 0, .int .u8 (c.toNat : Int)] H K := by
  refine ACall.of_body Try.func103 rfl rfl (Nat.le_of_ble_eq_true rfl) ?_
  unfold Try.f103
  dsimp only [enumS, Nat.reduceAdd]
  refine AW.rgs rfl fun K1 hK1 => ?_
  refine mv rfl rfl ?_
  refine b_nil (hK1 _ (AW.to (to_le (s' := ⟨[(0, .ptr id ver 0), (1, .int .u8 (c.toNat : Int))], H⟩) (le_slH ⟨rfl, rfl, trivial⟩) ?_)))
  clear hK1 K1
  refine AW.rgs rfl fun K1 hK1 => ?_
  refine mv rfl rfl ?_
  refine b_op rfl (o_callA rfl rfl rfl rfl (c_copyCheck hg ?_))
  refine b_nil (hK1 _ (AW.to (to_le (s' := ⟨[(0, .ptr id ver 0), (1, .int .u8 (c.toNat : Int))], (id, ver, .arr 2 133 [.ptr id ver 0, .ar aid aver 1 0 l.length]) :: H⟩) (le_slH ⟨rfl, rfl, trivial⟩) ?_)))
  clear hK1 K1
  have ha1 : hget ((id, ver, AObj.arr 2 133 [.ptr id ver 0, .ar aid aver 1 0 l.length]) :: H) aid = some (aver, .arr eByte.k 5 (eByte.E l)) := hget_1 hid ha
  refine AW.rgs rfl fun K1 hK1 => ?_
  refine mv rfl rfl ?_
  refine mv rfl rfl ?_
  refine bv rfl (v_nilP rfl hget_0) ?_
  refine bv rfl (v_fieldAddrP fo133_1 rfl hget_0) ?_
  refine bv rfl (v_loadP ty131 rfl hget_0 (l_lit rfl rfl)) ?_
  refine mv rfl rfl ?_
  refine b_op rfl (o_bsl rfl rfl (as_of (cs := [HV.int .u8 (c.toNat : Int)]) ty131 ty5 rfl rfl rfl rfl rfl) ?_)
  refine b_op rfl (o_appE eByte (l := l) (m := [c]) rfl rfl ty131 ty131 ty5 rfl ha1 rfl rfl rfl hfit (fun av => ?_))
  refine bv rfl (v_nilP rfl (hget_1 (fun e => hid e.symm) hget_0)) ?_
  refine bv rfl (v_fieldAddrP fo133_1 rfl (hget_1 (fun e => hid e.symm) hget_0)) ?_
  refine b_op rfl (o_store (cs := [.ar aid av 1 0 (l ++ [c]).length]) (zs := [.ptr id ver 0, .ar aid av 1 0 (l ++ [c]).length]) rfl rfl rfl ty131 rfl (hget_1 (fun e => hid e.symm) hget_0) rfl rfl rfl ?_)
  refine b_nil (hK1 _ (AW.to (to_le (s' := ⟨[], (id, ver, .arr 2 133 [.ptr id ver 0, .ar aid av 1 0 (l ++ [c]).length]) :: (aid, av, .arr 1 5 (eByte.E (l ++ [c]))) :: H⟩) ⟨leS_get trivial, fun j x hx => ?_⟩ ?_)))
  · simp only [hget] at hx ⊢
    by_cases h1 : j = id
    · subst h1; simpa using hx
    · rw [if_neg h1] at hx ⊢
      by_cases h2 : j = aid
      · rw [if_pos h2] at hx ⊢; exact hx
      · rw [if_neg h2] at hx
        rw [if_neg h2, if_neg h1]
        exact hx
  clear hK1 K1
  refine AW.rgs rfl fun K1 hK1 => ?_
  refine mv rfl rfl ?_
  refine b_nil (hK1 _ (AW.to (to_le (s' := ⟨[(4, .v .nilIface)], (id, ver, .arr 2 133 [.ptr id ver 0, .ar aid av 1 0 (l ++ [c]).length]) :: (aid, av, .arr 1 5 (eByte.E (l ++ [c]))) :: H⟩) (le_slH ⟨rfl, trivial⟩) ?_)))
  clear hK1 K1
  refine AW.ret ⟨.inr rfl, ?_⟩
  simp only [go_sem]
  exact ⟨_, _, Conv.refl _ _, hK av⟩
end Go.AW

/- strings.Builder: the text. -/
namespace Go.Proofs
open Go

/-- what a call may have changed: block g, and new ones -/
def But (g : Nat) (w w' : World) : Prop := Go.AW.Same w w' ∧ w.heap.size ≤ w'.heap.size ∧ ∀ k, k < w.heap.size → k ≠ g → w'.heap[k]? = w.heap[k]?

set_option maxHeartbeats 2000000 in
set_option maxRecDepth 100000 in
theorem Try.bldS_nil (b g : Nat) (w : World) (c0 : w.cell? ⟨b, 1, none⟩ = some (.slice none 0 0)) :
    Calls Try.prog 104 #[.pointer (some ⟨b, 0, none⟩)] w fun e w' => e = .returned (.string ⟨#[]⟩) ∧ But g w w' := by
  have hUS : ∀ (W : World) (q : Option Addr), (Builtin.unsafeString_ #[181, 3] 9 #[.pointer q, .int .i64 0]).run Try.prog W = .ok (.string .empty) W := fun W q => Lib.run_unsafeString_none W _ _ _ q
  have c1 : w.drew.cell? ⟨b, 1, none⟩ = some (.slice none 0 0) := c0
  have hSD : (Builtin.unsafeSliceData_ #[131] 181 #[.slice none 0 0]).run Try.prog w.drew = .ok (.pointer none) w.drew := rfl
  have mixed : Try.prog.follows .mixedOrders = true := by kernel_rfl
  go_enter Try.func104, Try.ntmps104
  go_wp2
  go_region_o
  all_goals (go_wp2; go_ret; exact ⟨rfl, ⟨rfl, rfl, rfl⟩, Nat.le_refl _, fun _ _ _ => rfl⟩)

set_option maxHeartbeats 2000000 in
set_option maxRecDepth 100000 in
theorem Try.bldS_room (b g cap : Nat) (w : World) (hc0 : cap ≠ 0) (c0 : w.cell? ⟨b, 1, none⟩ = some (.slice (some ⟨g, 0, none⟩) 0 cap)) :
    Calls Try.prog 104 #[.pointer (some ⟨b, 0, none⟩)] w fun e w' => e = .returned (.string ⟨#[]⟩) ∧ But g w w' := by
  have hUS : ∀ (W : World) (q : Option Addr), (Builtin.unsafeString_ #[181, 3] 9 #[.pointer q, .int .i64 0]).run Try.prog W = .ok (.string .empty) W := fun W q => Lib.run_unsafeString_none W _ _ _ q
  have c1 : w.drew.cell? ⟨b, 1, none⟩ = some (.slice (some ⟨g, 0, none⟩) 0 cap) := c0
  have hSD : (Builtin.unsafeSliceData_ #[131] 181 #[.slice (some ⟨g, 0, none⟩) 0 cap]).run Try.prog w.drew = .ok (.pointer (some ⟨g, 0, none⟩)) w.drew := Lib.run_unsafeSliceData_row _ _ _ _ _ _ hc0
  clear hc0
  have mixed : Try.prog.follows .mixedOrders = true := by kernel_rfl
  go_enter Try.func104, Try.ntmps104
  go_wp2
  go_region_o
  all_goals (go_wp2; go_ret; exact ⟨rfl, ⟨rfl, rfl, rfl⟩, Nat.le_refl _, fun _ _ _ => rfl⟩)

set_option maxHeartbeats 2000000 in
set_option maxRecDepth 100000 in
theorem Try.bldS_noroom (b g : Nat) (cur : Array Value) (fr : Nat × Nat) (w : World) (hlt : b < w.heap.size) (c0 : w.cell? ⟨b, 1, none⟩ = some (.slice (some ⟨g, 0, none⟩) 0 0)) (hg : w.heap[g]? = some (.cells cur 5 fr)) :
    Calls Try.prog 104 #[.pointer (some ⟨b, 0, none⟩)] w fun e w' => e = .returned (.string ⟨#[]⟩) ∧ But g w w' := by
  have hUS : ∀ (W : World) (q : Option Addr), (Builtin.unsafeString_ #[181, 3] 9 #[.pointer q, .int .i64 0]).run Try.prog W = .ok (.string .empty) W := fun W q => Lib.run_unsafeString_none W _ _ _ q
  have c1 : w.drew.cell? ⟨b, 1, none⟩ = some (.slice (some ⟨g, 0, none⟩) 0 0) := c0
  have hSD : (Builtin.unsafeSliceData_ #[131] 181 #[.slice (some ⟨g, 0, none⟩) 0 0]).run Try.prog w.drew = .ok (.pointer (some ⟨w.drew.heap.size, 0, none⟩)) (w.drew.alloc (.view ⟨g, 0, none⟩ 5)) :=
    Lib.run_unsafeSliceData_zero w.drew _ _ 5 Try.underlying181 ⟨g, 0, none⟩ 0 (5, cur.size) (by have hg' : w.drew.heap[g]? = some (.cells cur 5 fr) := hg; simp [World.shape?, hg'])
  have c2 : (w.drew.alloc (.view ⟨g, 0, none⟩ 5)).cell? ⟨b, 1, none⟩ = some (.slice (some ⟨g, 0, none⟩) 0 0) := by
    have e : (w.drew.alloc (.view ⟨g, 0, none⟩ 5)).heap[b]? = w.heap[b]? := Lib.alloc_old w.drew _ b hlt
    have h1 : (w.drew.alloc (.view ⟨g, 0, none⟩ 5)).cell? ⟨b, 1, none⟩ = w.cell? ⟨b, 1, none⟩ := by simp only [World.cell?, e]
    rw [h1]; exact c0
  have c3 : (w.alloc (.view ⟨g, 0, none⟩ 5)).drew.cell? ⟨b, 1, none⟩ = some (.slice (some ⟨g, 0, none⟩) 0 0) := c2
  have mixed : Try.prog.follows .mixedOrders = true := by kernel_rfl
  go_enter Try.func104, Try.ntmps104
  go_wp2
  go_region_o
  all_goals (go_wp2; go_ret; exact ⟨rfl, ⟨rfl, rfl, rfl⟩, by show w.heap.size ≤ (w.heap.push _).size; rw [Array.size_push]; omega, fun k hk _ => Lib.alloc_old w.drew _ k hk⟩)

set_option maxHeartbeats 2000000 in
set_option maxRecDepth 100000 in
theorem Try.bldS_some (b g cap : Nat) (cur : Array Value) (fr : Nat × Nat) (l : List UInt8) (w : World) (h0 : l ≠ []) (c0 : w.cell? ⟨b, 1, none⟩ = some (.slice (some ⟨g, 0, none⟩) l.length cap)) (hg : w.heap[g]? = some (.cells cur 5 fr)) (hcap : l.length ≤ cap) (hsz : cur.size = cap) (hcm : cap ≤ maxLen)
    (hcell : ∀ (j : Nat) (x : UInt8), l[j]? = some x → cur[j]? = some (.int .u8 x.toNat)) :
    Calls Try.prog 104 #[.pointer (some ⟨b, 0, none⟩)] w fun e w' => e = .returned (.string ⟨l.toArray⟩) ∧ But g w w' := by
  have hl0 : l.length ≠ 0 := by simpa using h0
  have c1 : w.drew.cell? ⟨b, 1, none⟩ = some (.slice (some ⟨g, 0, none⟩) l.length cap) := c0
  have hSD : (Builtin.unsafeSliceData_ #[131] 181 #[.slice (some ⟨g, 0, none⟩) l.length cap]).run Try.prog w.drew = .ok (.pointer (some ⟨g, 0, none⟩)) w.drew := Lib.run_unsafeSliceData_row _ _ _ _ _ _ (by omega)
  have hUS : (Builtin.unsafeString_ #[181, 3] 9 #[.pointer (some ⟨g, 0, none⟩), .int .i64 l.length]).run Try.prog w.drew = .ok (.string ⟨l.toArray⟩) (w.drew.freeze ⟨g, 0, none⟩ l.length) := by
    refine Lib.run_unsafeString_row w.drew 181 3 9 5 Try.underlying181 (by kernel_rfl) g cur.size (by have hg' : w.drew.heap[g]? = some (.cells cur 5 fr) := hg; simp [World.shape?, hg']) l h0 (by omega) (by unfold maxLen at hcm; omega) ?_
    intro j x hx
    have hg' : w.drew.heap[g]? = some (.cells cur 5 fr) := hg
    rw [Addr.add_lit, Nat.zero_add, Lib.cell_of_heap hg']
    exact hcell j x hx
  have hfz : But g w (w.drew.freeze ⟨g, 0, none⟩ l.length) := by
    unfold World.freeze
    rw [if_neg hl0]
    refine ⟨⟨rfl, rfl, rfl⟩, by show w.heap.size ≤ (w.heap.modify g _).size; simp, fun k hk hne => ?_⟩
    show (w.heap.modify g _)[k]? = _
    rw [Array.getElem?_modify, if_neg (fun e => hne e.symm)]
  clear hcell hsz hcap hcm h0 hl0 hg
  have mixed : Try.prog.follows .mixedOrders = true := by kernel_rfl
  go_enter Try.func104, Try.ntmps104
  go_wp2
  go_region_o
  all_goals (go_wp2; go_ret; exact ⟨rfl, hfz⟩)
end Go.Proofs

/- strings.Builder: the text, and the writing of texts, as contracts. -/
namespace Go.AW
open Go Go.Proofs Go.Lib

theorem repL_byt {w : World} {μ : Mu} : ∀ {l : List UInt8} {vs : List Value}, RepL w μ (l.map fun b => HV.int .u8 (b.toNat : Int)) vs → vs = l.map fun b => Value.int .u8 (b.toNat : Int)
  | [], vs, h => h
  | x :: l, vs, h => by
    obtain ⟨v, vs', rfl, hx, hr⟩ := h
    obtain ⟨rfl, _⟩ := hx
    rw [repL_byt hr]
    rfl

theorem c_String {H : Heap} {K : HV → Heap → Prop} {id ver aid aver : Nat} {u : Bool} {l : List UInt8} (hg : hget H id = some (ver, bldO id ver aid aver u l)) (ha : hget H aid = some (aver, bytO l)) (hK : ∀ av, K (.str l) ((aid, av, .arr 1 5 []) :: H)) :
    ACall Try.prog 104 [.ptr id ver 0] H K := by
  refine ⟨enters' Try.func104 rfl rfl, fun μ w vs hs hr => ?_⟩
  obtain ⟨x, xs, rfl, hr, hn⟩ := hr
  cases hn
  obtain ⟨lo, hl, hor⟩ := hs.has _ _ _ hg
  obtain ⟨la, hla, hora⟩ := hs.has _ _ _ ha
  have hle : ∀ v ob j (y : Nat × AObj), hget ((aid, v, ob) :: H) j = some y ↔ hget (hset H aid v ob) j = some y := fun v ob j y => by simp only [hget, hget_hset]
  have fin : ∀ (g : Nat) (w' : World), (∀ b, μ.loc aid = some (aver, some b) → b = g) → (la = none → w.heap.size ≤ g) → l.length ≤ maxLen → But g w w' → ∃ v r H' μ', Ending.returned (.string ⟨l.toArray⟩) = .returned v ∧ K r H' ∧ SR w' μ' H' ∧ Rep w' μ' r v ∧ Evo w μ w' μ' := by
    intro g w' hb hgn hlen ⟨h1, h2, h3⟩
    have hold : ∀ b, b < w.heap.size → (∀ ver, μ.loc aid ≠ some (ver, some b)) → w'.heap[b]? = w.heap[b]? := fun b hb1 hb2 => by
      by_cases e : b = g
      · cases la with
        | none => exact absurd (hgn rfl) (by omega)
        | some b0 =>
          have := hb b0 hla
          subst this
          subst e
          exact absurd hla (hb2 _)
      · exact h3 b hb1 e
    have hsr := hs.repl aid none (.arr 1 5 []) h1 h2 hold (fun b hb => by cases hb) rfl
    have hE := Evo.repl hs aid none h1 h2 hold (fun b hb => by cases hb)
    exact ⟨_, .str l, _, μ.set aid none, rfl, hK μ.nx, hsr.le (hle _ _), ⟨rfl, hlen⟩, hE⟩
  rcases hr with ⟨b, hl', rfl⟩ | ⟨hd, _⟩
  · rw [hl] at hl'
    cases hl'
    obtain ⟨h1, cur, vs', rest, hrow, hcl, hrl⟩ := hor
    obtain ⟨v0, vs1, rfl, r0, v1, vs2, rfl, r1, hn⟩ := hrl
    cases hn
    have hrow2 := hrow
    obtain ⟨lo', hi', hbk, hfr⟩ := hrow2
    have hc1 : cur[1]? = some v1 := by rw [← Array.getElem?_toList, hcl]; rfl
    have hcell : w.cell? ⟨b, 1, none⟩ = some v1 := by rw [Lib.cell_of_heap hbk]; exact hc1
    have hlt : b < w.heap.size := by
      rcases Nat.lt_or_ge b w.heap.size with h' | h'
      · exact h'
      · simp [Array.getElem?_eq_none h'] at hbk
    rcases r1 with ⟨la', hla', ⟨rfl, rfl, h0, _⟩ | ⟨g, cap, curg, e, rfl, rfl, hnc, hcm, hrowg, hszg⟩⟩ | ⟨hd, _⟩
    · have hln := List.eq_nil_of_length_eq_zero h0
      subst hln
      refine (Try.bldS_nil b w.heap.size w hcell).mono ?_
      rintro e w' ⟨rfl, hb⟩
      exact fin _ w' (fun b hb => by rw [hla'] at hb; cases hb) (fun _ => Nat.le_refl _) (Nat.zero_le _) hb
    · rw [hla] at hla'
      cases hla'
      obtain ⟨_, cur2, vs2, rest2, hrow2, hcl2, hrl2⟩ := hora
      obtain ⟨lo2, hi2, hbg, hfr2⟩ := hrow2
      obtain ⟨lo3, hi3, hbg3, hfr3⟩ := hrowg
      rw [hbg] at hbg3
      cases hbg3
      have hvs := repL_byt hrl2
      subst hvs
      have hb1 : ∀ b, μ.loc aid = some (aver, some b) → b = g := fun b hb => by rw [hla] at hb; cases hb; rfl
      by_cases h0 : l = []
      · subst h0
        by_cases hc0 : cap = 0
        · subst hc0
          refine (Try.bldS_noroom b g curg _ w hlt hcell hbg).mono ?_
          rintro e w' ⟨rfl, hb⟩
          exact fin g w' hb1 (fun e => by cases e) (Nat.zero_le _) hb
        · refine (Try.bldS_room b g cap w hc0 hcell).mono ?_
          rintro e w' ⟨rfl, hb⟩
          exact fin g w' hb1 (fun e => by cases e) (Nat.zero_le _) hb
      · refine (Try.bldS_some b g cap curg _ l w h0 hcell hbg hnc (by omega) hcm fun j x hj => ?_).mono ?_
        · rw [← Array.getElem?_toList, hcl2, List.getElem?_append_left (by
            have := (List.getElem?_eq_some_iff.1 hj).1
            simpa using this), List.getElem?_map, hj]
          rfl
        · rintro e w' ⟨rfl, hb⟩
          exact fin g w' hb1 (fun e => by cases e) (by omega) hb
    · exact absurd hla (hd.2 _)
  · exact absurd hl (hd.2 _)

end Go.AW

/- language.collect with the function that writes into a strings.Builder. -/
namespace Go.AW
open Go Go.Proofs
set_option linter.unusedVariables false

set_option maxRecDepth 100000 in
theorem c_letters1 {H : Heap} {K : HV → Heap → Prop} {id ver aid aver : Nat} {u : Bool} {l : List UInt8} {c : UInt8} (hid : aid ≠ id) (hg : hget H id = some (ver, bldO id ver aid aver u l)) (ha : hget H aid = some (aver, bytO l)) (hfit : fits 1 (l.length + 1))
    (hK : ∀ av, K (.tup []) ((id, ver, bldO id ver aid av true (l ++ [c])) :: (aid, av, bytO (l ++ [c])) :: H)) : ACall Try.prog 102 [.int .u8 (c.toNat : Int), .ptr id ver 0] H K := by
  refine ACall.of_body Try.func102 rfl rfl (Nat.le_of_ble_eq_true rfl) ?_
  unfold Try.f102
  dsimp only [enumS, Nat.reduceAdd]
  refine AW.rg rfl fun K1 hK1 => ?_
  refine mv rfl rfl ?_
  refine b_op rfl (o_callA rfl rfl rfl rfl (c_WriteByte hid hg ha hfit fun av => ?_))
  refine b_nil (hK1 _ ?_)
  refine ⟨.inl rfl, ?_⟩
  simp only [go_sem]
  exact ⟨_, _, Conv.refl _ _, hK av⟩

set_option maxRecDepth 100000 in
theorem c_collect {g : TLabelsStatesEdges} {set : List Int} {r : List UInt8} {H : Heap} {K : HV → Heap → Prop} {id ver aid aver : Nat} {u : Bool} {l : List UInt8} (hid : aid ≠ id) (hg : hget H id = some (ver, bldO id ver aid aver u l)) (ha : hget H aid = some (aver, bytO l))
    (h : m_language_collect g set = some r) (hl : (l ++ r).length ≤ 1048576) (hK : ∀ u' av, K (.tup []) ((id, ver, bldO id ver aid av u' (l ++ r)) :: (aid, av, bytO (l ++ r)) :: H)) :
    ACall Try.prog 101 [HV.agg [HV.int .i64 g.1, HV.int .i64 g.2.1, slE eFromLabelTo g.2.2], slE eInt set, .fn (.func 102) [] [.ptr id ver 0]] H K := by
  unfold m_language_collect at h
  split at h
  · rename_i hc
    cases h
    obtain ⟨h0, h16, hst⟩ := hc
    obtain ⟨gl, gs, es⟩ := g
    dsimp only at h0 h16 hst hl hK ⊢
    obtain ⟨L, rfl⟩ := Int.eq_ofNat_of_zero_le h0
    simp only [Int.toNat_natCast] at hst hl hK
    have hL : L ≤ letters.length := by show L ≤ 16; omega
    let p : UInt8 → Bool := fun c => decide (stpM ((L : Int), gs, es) set c ≠ [])
    have hpre : ∀ i, i ≤ L → (l ++ (letters.take i).filter p).length ≤ 1048576 := fun i hi => by
      refine Nat.le_trans ?_ hl
      simp only [List.length_append]
      have : ((letters.take i).filter p).length ≤ ((letters.take L).filter p).length := by
        refine (List.Sublist.filter p ?_).length_le
        have e : letters.take i = (letters.take L).take i := by rw [List.take_take, Nat.min_eq_left hi]
        rw [e]
        exact List.take_sublist _ _
      exact Nat.add_le_add_left this _
    refine ACall.of_body Try.func101 rfl rfl (Nat.le_of_ble_eq_true rfl) ?_
    unfold Try.f101
    dsimp only [enumS, Nat.reduceAdd]
    refine AW.rgs rfl fun K1 hK1 => ?_
    refine b_op rfl (o_box rfl rfl rfl ?_)
    refine b_nil (hK1 _ (AW.to (to_le (s' := ⟨[(1, slE eInt set), (2, .fn (.func 102) [] [.ptr id ver 0]), (3, HV.fptr [HV.int .i64 (L : Int), HV.int .i64 gs, slE eFromLabelTo es] 0)], H⟩) (le_slH ⟨rfl, rfl, rfl, trivial⟩) ?_)))
    clear hK1 K1
    refine AW.rgs rfl fun K1 hK1 => ?_
    refine bv rfl (v_fieldAddrF fo24_0 rfl) ?_
    refine bv rfl (v_loadF ty3 rfl (l_lit rfl rfl)) ?_
    refine mv rfl rfl ?_
    refine b_nil (hK1 _ (AW.to (to_le (s' := ⟨[(1, slE eInt set), (2, .fn (.func 102) [] [.ptr id ver 0]), (3, HV.fptr [HV.int .i64 (L : Int), HV.int .i64 gs, slE eFromLabelTo es] 0), (9, .int .i64 (L : Int)), (10, .int .i64 ((0 : Nat) : Int))], H⟩) (le_slH ⟨rfl, rfl, rfl, rfl, rfl, trivial⟩) ?_)))
    clear hK1 K1
    refine AW.block ?_
    refine AW.loopS (fun q : Nat × Bool × Nat × Heap => ⟨[(1, slE eInt set), (2, .fn (.func 102) [] [.ptr id ver 0]), (3, HV.fptr [HV.int .i64 (L : Int), HV.int .i64 gs, slE eFromLabelTo es] 0), (9, .int .i64 (L : Int)), (10, .int .i64 (q.1 : Int))], q.2.2.2⟩)
      (fun q => q.1 ≤ L ∧ hget q.2.2.2 id = some (ver, bldO id ver aid q.2.2.1 q.2.1 (l ++ (letters.take q.1).filter p)) ∧ hget q.2.2.2 aid = some (q.2.2.1, bytO (l ++ (letters.take q.1).filter p)) ∧ ∀ j, j ≠ id → j ≠ aid → hget q.2.2.2 j = hget H j) (fun q => L - q.1) (0, u, aver, H) (AS.le_refl _) ⟨Nat.zero_le _, by simpa using hg, by simpa using ha, fun _ _ _ => rfl⟩ ?_
    rintro ⟨i, u1, av1, H1⟩ ⟨hi, hg1, ha1, ho1⟩
    dsimp only at hi hg1 ha1 ho1 ⊢
    refine AW.rgs rfl fun K1 hK1 => ?_
    refine bv rfl (v_bin rfl rfl b_lss) ?_
    refine b_nil (hK1 _ ?_)
    clear hK1 K1
    refine AW.cseq rfl (fun hc => ?_) (fun hc => ?_)
    · have hi' : i < L := by have := of_decide_eq_true hc; omega
      have hil : i < letters.length := by omega
      have hx : idx ([48, 49, 50, 51, 52, 53, 54, 55, 56, 57, 97, 98, 99, 100, 101, 102] : List UInt8) (i : Int) = some letters[i] := ix (l := letters) hil
      obtain ⟨b, hb⟩ := hst letters[i] (List.mem_take_iff_getElem.2 ⟨i, by omega, rfl⟩)
      have hsb : stpM ((L : Int), gs, es) set letters[i] = b := by unfold stpM; rw [hb]; rfl
      have htk : (letters.take (i + 1)).filter p = (letters.take i).filter p ++ if b = [] then [] else [letters[i]] := by
        rw [List.take_add_one, List.getElem?_eq_getElem hil, List.filter_append]
        congr 1
        show ([letters[i]] : List UInt8).filter p = _
        by_cases h : b = []
        · rw [if_pos h]
          simp [p, hsb, h]
        · rw [if_neg h]
          simp [p, hsb, h]
      refine AW.skip ?_
      refine AW.seq (AW.block ?_)
      refine AW.rgs rfl fun K1 hK1 => ?_
      refine mv rfl rfl ?_
      refine mv rfl rfl ?_
      refine b_nil (hK1 _ (AW.to (to_le (s' := ⟨[(1, slE eInt set), (2, .fn (.func 102) [] [.ptr id ver 0]), (3, HV.fptr [HV.int .i64 (L : Int), HV.int .i64 gs, slE eFromLabelTo es] 0), (6, .int .i64 (i : Int)), (9, .int .i64 (L : Int)), (10, .int .i64 (i : Int))], H1⟩) (le_slH ⟨rfl, rfl, rfl, rfl, rfl, rfl, trivial⟩) ?_)))
      clear hK1 K1
      refine AW.rgs rfl fun K1 hK1 => ?_
      refine mv rfl rfl ?_
      refine bv rfl (v_idxS ty9 rfl rfl hx) ?_
      refine mv rfl rfl ?_
      refine b_nil (hK1 _ (AW.to (to_le (s' := ⟨[(1, slE eInt set), (2, .fn (.func 102) [] [.ptr id ver 0]), (3, HV.fptr [HV.int .i64 (L : Int), HV.int .i64 gs, slE eFromLabelTo es] 0), (7, .int .u8 (letters[i].toNat : Int)), (9, .int .i64 (L : Int)), (10, .int .i64 (i : Int))], H1⟩) (le_slH ⟨rfl, rfl, rfl, rfl, rfl, rfl, trivial⟩) ?_)))
      clear hK1 K1
      refine AW.rgs rfl fun K1 hK1 => ?_
      refine bv rfl (v_loadF ty24 rfl (l_litA rfl (Nat.le_of_ble_eq_true rfl) rfl)) ?_
      refine mv rfl rfl ?_
      refine mv rfl rfl ?_
      refine b_op rfl (o_call rfl rfl rfl rfl (ACallD.pure0 (w_language_step hb)) ?_)
      refine bv rfl (v_lenF rfl rfl ty42 rfl) ?_
      refine bv rfl (v_bin rfl rfl b_gtr) ?_
      refine b_nil (hK1 _ (AW.to (to_le (s' := ⟨[(1, slE eInt set), (2, .fn (.func 102) [] [.ptr id ver 0]), (3, HV.fptr [HV.int .i64 (L : Int), HV.int .i64 gs, slE eFromLabelTo es] 0), (7, .int .u8 (letters[i].toNat : Int)), (9, .int .i64 (L : Int)), (10, .int .i64 (i : Int)), (20, .bool (decide ((0 : Int) < (b.length : Int))))], H1⟩) (le_slH ⟨rfl, rfl, rfl, rfl, rfl, rfl, rfl, trivial⟩) ?_)))
      clear hK1 K1
      refine AW.cond rfl (fun hc => ?_) (fun hc => ?_)
      · have hb0 : b ≠ [] := fun e => by rw [e] at hc; simp at hc
        rw [if_neg hb0] at htk
        have hlen := hpre i hi
        refine AW.rg rfl fun K1 hK1 => ?_
        refine mv rfl rfl ?_
        refine mv rfl rfl ?_
        refine b_op rfl (o_callA rfl rfl rfl rfl (c_letters1 hid hg1 ha1 ⟨by omega, by simp only [maxLen]; omega⟩ fun av => ?_))
        refine b_nil (hK1 _ ?_)
        clear hK1 K1
        refine AW.rg rfl fun K2 hK2 => ?_
        refine bv rfl (v_bin rfl rfl b_add) ?_
        refine mv rfl rfl ?_
        refine b_nil (hK2 _ ?_)
        clear hK2 K2
        rw [cnt_next (by omega : L ≤ 9223372036854775807) hi']
        refine ⟨(i + 1, true, av, (id, ver, bldO id ver aid av true (l ++ (letters.take i).filter p ++ [letters[i]])) :: (aid, av, bytO (l ++ (letters.take i).filter p ++ [letters[i]])) :: H1), ⟨by dsimp only; omega, ?_, ?_, fun j j1 j2 => ?_⟩, by dsimp only; omega, le_slH ⟨rfl, rfl, rfl, rfl, rfl, trivial⟩⟩
        · dsimp only
          rw [htk, ← List.append_assoc]
          exact hget_0
        · dsimp only
          rw [htk, ← List.append_assoc]
          exact hget_1 hid hget_0
        · dsimp only
          simp only [hget]
          rw [if_neg (by omega), if_neg (by omega)]
          exact ho1 j j1 j2
      · have hb0 : b = [] := by
          have := of_decide_eq_false hc
          exact List.eq_nil_of_length_eq_zero (by omega)
        rw [if_pos hb0, List.append_nil] at htk
        refine AW.skip ?_
        refine AW.rg rfl fun K2 hK2 => ?_
        refine bv rfl (v_bin rfl rfl b_add) ?_
        refine mv rfl rfl ?_
        refine b_nil (hK2 _ ?_)
        clear hK2 K2
        rw [cnt_next (by omega : L ≤ 9223372036854775807) hi']
        refine ⟨(i + 1, u1, av1, H1), ⟨by dsimp only; omega, ?_, ?_, ho1⟩, by dsimp only; omega, le_slH ⟨rfl, rfl, rfl, rfl, rfl, trivial⟩⟩
        · dsimp only
          rw [htk]
          exact hg1
        · dsimp only
          rw [htk]
          exact ha1
    · have hie : i = L := by have := of_decide_eq_false hc; omega
      subst hie
      refine AW.exit ?_
      refine ⟨.inl rfl, ?_⟩
      simp only [go_sem, reduceIte, Nat.reduceEqDiff]
      refine ⟨_, (id, ver, bldO id ver aid av1 u1 (l ++ (letters.take i).filter p)) :: (aid, av1, bytO (l ++ (letters.take i).filter p)) :: H, Conv.drop fun j x hx => ?_, hK u1 av1⟩
      simp only [hget] at hx
      by_cases j1 : j = id
      · subst j1
        rw [if_pos rfl] at hx
        rw [← hx]
        exact hg1
      · rw [if_neg j1] at hx
        by_cases j2 : j = aid
        · subst j2
          rw [if_pos rfl] at hx
          rw [← hx]
          exact ha1
        · rw [if_neg j2] at hx
          show hget H1 j = _
          rw [ho1 j j1 j2]
          exact hx
  · cases h
end Go.AW

namespace Go.AW
open Go Go.Proofs
set_option linter.unusedVariables false
set_option maxHeartbeats 1600000 in
set_option maxRecDepth 100000 in
theorem w_language_Letters {p0 : TLabelsStatesEdges} {p1 : List UInt8} {r : (List UInt8) × Int} (h : m_language_Letters p0 p1 = some r) : Pure Try.prog 52 [HV.agg [HV.int .i64 p0.1, HV.int .i64 p0.2.1, slE eFromLabelTo p0.2.2], HV.str p1] (· = HV.tup [HV.str r.1, HV.int .i64 r.2]) := by
  unfold m_language_Letters at h
  refine Pure.of_body Try.func52 rfl rfl (Nat.le_of_ble_eq_true rfl) fun hf => ?_
  unfold Try.f52
  dsimp only [enumS, Nat.reduceAdd]
  refine AW.rgs rfl fun K hK => ?_
  refine b_op rfl (o_box rfl rfl rfl ?_)
  refine mv rfl rfl ?_
  refine mv rfl rfl ?_
  refine b_nil (hK _ (AW.to (to_le (s' := ⟨[(1, HV.str p1), (2, HV.fptr [HV.int .i64 p0.1, HV.int .i64 p0.2.1, slE eFromLabelTo p0.2.2] 0)], []⟩) (AS.le_of ⟨rfl, rfl, trivial⟩ trivial) ?_)))
  clear hK K
  refine AW.seq ?_
  refine AW.rgs rfl fun K hK => ?_
  refine bv rfl (v_loadF ty24 rfl (l_litA rfl (Nat.le_of_ble_eq_true rfl) rfl)) ?_
  refine mv rfl rfl ?_
  obtain ⟨x1, h2, h⟩ := bS h
  refine b_op rfl (o_call rfl rfl rfl rfl (ACallD.pure0 (w_language_spells h2)) ?_)
  refine mv rfl rfl ?_
  refine b_nil (hK _ (AW.to (to_le (s' := ⟨[(1, HV.str p1), (2, HV.fptr [HV.int .i64 p0.1, HV.int .i64 p0.2.1, slE eFromLabelTo p0.2.2] 0), (6, HV.int .i64 x1)], []⟩) (AS.le_of ⟨rfl, rfl, rfl, trivial⟩ trivial) ?_)))
  clear hK K
  refine AW.rgs rfl fun K hK => ?_
  refine mv rfl rfl ?_
  refine bv rfl (v_bin rfl rfl b_neq) ?_
  refine b_nil (hK _ (AW.to (to_le (s' := ⟨[(1, HV.str p1), (2, HV.fptr [HV.int .i64 p0.1, HV.int .i64 p0.2.1, slE eFromLabelTo p0.2.2] 0), (6, HV.int .i64 x1), (12, HV.bool (decide (x1 ≠ 0)))], []⟩) (AS.le_of ⟨rfl, rfl, rfl, rfl, trivial⟩ trivial) ?_)))
  clear hK K
  refine AW.cond rfl (fun hc => ?_) (fun hc => ?_)
  · have hc := of_decide_eq_true hc
    have h := ifT hc h
    refine AW.rgs rfl fun K hK => ?_
    refine mv rfl rfl ?_
    refine mv rfl rfl ?_
    refine mv rfl rfl ?_
    refine b_nil (hK _ (AW.to (to_le (s' := ⟨[(4, HV.str ([] : List UInt8)), (5, HV.int .i64 x1)], []⟩) (AS.le_of ⟨rfl, rfl, trivial⟩ trivial) ?_)))
    clear hK K
    refine AW.ret ?_
    have h := Option.some.inj h
    subst h
    exact ret_pure (hs := [HV.str ([] : List UInt8), HV.int .i64 x1]) (q := HV.tup [HV.str ([] : List UInt8), HV.int .i64 x1]) (.inr rfl) (resT rfl (resT rfl rfl)) rfl ⟨trivial, trivial, trivial⟩
  · have hc := of_decide_eq_false hc
    have h := ifF hc h
    refine AW.skip ?_
    refine AW.rgs rfl fun K hK => ?_
    refine b_op rfl (o_alloc (fid := 52) (zs := [HV.v (.pointer none), HV.v (.slice none 0 0)]) 52007 rfl rfl ty133 rfl (fun v3 => ?_))
    refine b_to (to_ownC 52507 52007 v3 2 1 1 5 133 rfl rfl (by decide) fun v4 => ?_)
    refine b_nil (hK _ (AW.to (to_le (s' := ⟨[(1, HV.str p1), (2, HV.fptr [HV.int .i64 p0.1, HV.int .i64 p0.2.1, slE eFromLabelTo p0.2.2] 0), (7, HV.ptr 52007 v3 0)], [(52007, v3, bldO 52007 v3 52507 v4 false ([] : List UInt8)), (52507, v4, bytO ([] : List UInt8))]⟩) (AS.le_of ⟨rfl, rfl, rfl, trivial⟩ ⟨rfl, rfl, trivial⟩) ?_)))
    clear hK K
    refine AW.dgs 7 follows rfl rfl fun K hK => ?_
    refine sv rfl (v_loadF ty24 rfl (l_litA rfl (Nat.le_of_ble_eq_true rfl) rfl)) ?_
    refine sv rfl (v_loadF ty24 rfl (l_litA rfl (Nat.le_of_ble_eq_true rfl) rfl)) ?_
    refine sv rfl (v_loadF ty24 rfl (l_litA rfl (Nat.le_of_ble_eq_true rfl) rfl)) ?_
    obtain ⟨x5, h6, h⟩ := bS h
    refine s_op rfl rfl (ops_call rfl rfl rfl rfl (ACallD.pure0 (w_language_states h6)) ?_)
    refine sm rfl rfl ?_
    obtain ⟨x7, h8, h⟩ := bS h
    refine s_op rfl rfl (ops_call rfl rfl rfl rfl (ACallD.pure0 (w_language_ends h8)) ?_)
    refine sv rfl (v_func rfl rfl) ?_
    refine s_nil ?_
    obtain ⟨x10, h11, h⟩ := bS h
    obtain ⟨h12, h⟩ := ifN h
    refine b_op rfl (o_callA rfl rfl rfl rfl (c_collect (id := 52007) (ver := v3) (aid := 52507) (aver := v4) (u := false) (l := ([] : List UInt8)) (by decide) rfl rfl h11 h12 fun v13 v9 => ?_) )
    refine b_nil (hK _ (AW.to (to_le (s' := ⟨[(7, HV.ptr 52007 v3 0)], [(52007, v3, bldO 52007 v3 52507 v9 v13 (([] : List UInt8) ++ x10)), (52507, v9, bytO (([] : List UInt8) ++ x10))]⟩) (AS.le_of ⟨rfl, trivial⟩ ⟨rfl, rfl, trivial⟩) ?_)))
    clear hK K
    refine AW.rgs rfl fun K hK => ?_
    refine b_op rfl (o_callA rfl rfl rfl rfl (c_String (id := 52007) (ver := v3) (aid := 52507) (aver := v9) (u := v13) (l := ([] : List UInt8) ++ x10) rfl rfl fun v14 => ?_) )
    refine mv rfl rfl ?_
    refine mv rfl rfl ?_
    refine b_nil (hK _ (AW.to (to_le (s' := ⟨[(4, HV.str (([] : List UInt8) ++ x10)), (5, HV.int .i64 0)], []⟩) (AS.le_of ⟨rfl, rfl, trivial⟩ trivial) ?_)))
    clear hK K
    refine AW.ret ?_
    have h := Option.some.inj h
    subst h
    exact ret_pure (hs := [HV.str (([] : List UInt8) ++ x10), HV.int .i64 0]) (q := HV.tup [HV.str (([] : List UInt8) ++ x10), HV.int .i64 0]) (.inr rfl) (resT rfl (resT rfl rfl)) rfl ⟨trivial, trivial, trivial⟩

set_option maxHeartbeats 1600000 in
set_option maxRecDepth 100000 in
theorem w_law11_LanguageLetters {p0 : TLabelsStatesEdges} {p1 : List UInt8} {r : Bool} (h : m_law11_LanguageLetters p0 p1 = some r) : Pure Try.prog 11 [HV.agg [HV.int .i64 p0.1, HV.int .i64 p0.2.1, slE eFromLabelTo p0.2.2], HV.str p1] (· = HV.bool r) := by
  unfold m_law11_LanguageLetters at h
  refine Pure.of_body Try.func11 rfl rfl (Nat.le_of_ble_eq_true rfl) fun hf => ?_
  unfold Try.f11
  dsimp only [enumS, Nat.reduceAdd]
  refine AW.rgs rfl fun K hK => ?_
  refine b_op rfl (o_box rfl rfl rfl ?_)
  refine mv rfl rfl ?_
  refine b_nil (hK _ (AW.to (to_le (s' := ⟨[(1, HV.str p1), (2, HV.fptr [HV.int .i64 p0.1, HV.int .i64 p0.2.1, slE eFromLabelTo p0.2.2] 0)], []⟩) (AS.le_of ⟨rfl, rfl, trivial⟩ trivial) ?_)))
  clear hK K
  refine AW.seq ?_
  refine AW.seqJ h (S := Bool) (V := Unit) (fun a v => ⟨[(1, HV.str p1), (2, HV.fptr [HV.int .i64 p0.1, HV.int .i64 p0.2.1, slE eFromLabelTo p0.2.2] 0), (25, HV.bool a)], []⟩) (fun a1 w2 h => ?_) (fun k3 h => ?_)
  · refine AW.cond rfl (fun hc => ?_) (fun hc => ?_)
    · have h := ifT hc h
      refine AW.rgs rfl fun K hK => ?_
      obtain ⟨x4, h5, h⟩ := bS h
      refine b_op rfl (o_call rfl rfl rfl rfl (ACallD.pure0 (w_law11_awake h5)) ?_)
      refine mv rfl rfl ?_
      refine b_nil (hK _ (AW.to (to_le (s' := ⟨[(4, HV.bool x4)], []⟩) (AS.le_of ⟨rfl, trivial⟩ trivial) ?_)))
      clear hK K
      refine AW.ret ?_
      have h := Option.some.inj h
      subst h
      exact ret_pure (hs := [HV.bool x4]) (q := HV.bool x4) (.inr rfl) (resT rfl rfl) rfl trivial
    · have h := ifF (bF' hc) h
      refine AW.skip ?_
      refine AW.rgs rfl fun K hK => ?_
      refine bv rfl (v_loadF ty24 rfl (l_litA rfl (Nat.le_of_ble_eq_true rfl) rfl)) ?_
      refine mv rfl rfl ?_
      obtain ⟨x6, h7, h⟩ := bS h
      refine b_op rfl (o_call rfl rfl rfl rfl (ACallD.pure0 (w_language_Letters h7)) ?_)
      refine mv rfl rfl ?_
      refine bv rfl (v_extract rfl rfl) ?_
      refine bv rfl (v_extract rfl rfl) ?_
      refine mv rfl rfl ?_
      refine mv rfl rfl ?_
      refine b_nil (hK _ (AW.to (to_le (s' := ⟨[(1, HV.str p1), (2, HV.fptr [HV.int .i64 p0.1, HV.int .i64 p0.2.1, slE eFromLabelTo p0.2.2] 0), (5, HV.str x6.1), (6, HV.int .i64 x6.2)], []⟩) (AS.le_of ⟨rfl, rfl, rfl, rfl, trivial⟩ trivial) ?_)))
      clear hK K
      refine AW.rgs rfl fun K hK => ?_
      refine mv rfl rfl ?_
      refine b_nil (hK _ (AW.to (to_le (s' := ⟨[(1, HV.str p1), (2, HV.fptr [HV.int .i64 p0.1, HV.int .i64 p0.2.1, slE eFromLabelTo p0.2.2] 0), (5, HV.str x6.1), (6, HV.int .i64 x6.2), (7, HV.str ([] : List UInt8))], []⟩) (AS.le_of ⟨rfl, rfl, rfl, rfl, rfl, trivial⟩ trivial) ?_)))
      clear hK K
      refine AW.seq ?_
      refine AW.rgs rfl fun K hK => ?_
      refine bv rfl (v_fieldAddrF fo24_0 rfl) ?_
      refine bv rfl (v_loadF ty3 rfl (l_lit rfl rfl)) ?_
      refine mv rfl rfl ?_
      refine b_nil (hK _ (AW.to (to_le (s' := ⟨[(1, HV.str p1), (2, HV.fptr [HV.int .i64 p0.1, HV.int .i64 p0.2.1, slE eFromLabelTo p0.2.2] 0), (5, HV.str x6.1), (6, HV.int .i64 x6.2), (7, HV.str ([] : List UInt8)), (34, HV.int .i64 p0.1), (35, HV.int .i64 0)], []⟩) (AS.le_of ⟨rfl, rfl, rfl, rfl, rfl, rfl, rfl, trivial⟩ trivial) ?_)))
      clear hK K
      refine AW.lpR h (by first | exact up_then | exact up_to) (S := (List UInt8) × Int) (V := Unit) (fun a v => ⟨[(1, HV.str p1), (2, HV.fptr [HV.int .i64 p0.1, HV.int .i64 p0.2.1, slE eFromLabelTo p0.2.2] 0), (5, HV.str x6.1), (6, HV.int .i64 x6.2), (7, HV.str a.1), (34, HV.int .i64 p0.1), (35, HV.int .i64 a.2)], []⟩) ?_ (X := (List UInt8)) (W := Unit) (fun a v => ⟨[(5, HV.str x6.1), (6, HV.int .i64 x6.2), (7, HV.str a)], []⟩) (fun a21 w22 h => ?_) (fun a8 w9 st10 h hr11=> ?_)
      · exact to_le (s' := ⟨[(1, HV.str p1), (2, HV.fptr [HV.int .i64 p0.1, HV.int .i64 p0.2.1, slE eFromLabelTo p0.2.2] 0), (5, HV.str x6.1), (6, HV.int .i64 x6.2), (7, HV.str ([] : List UInt8)), (34, HV.int .i64 p0.1), (35, HV.int .i64 0)], []⟩) (AS.le_of ⟨rfl, rfl, rfl, rfl, rfl, rfl, rfl, trivial⟩ trivial) ⟨(), rfl⟩
      · refine AW.seqJ h (S := Bool) (V := Unit) (fun a v => ⟨[(4, HV.bool a)], []⟩) (fun a23 w24 h => ?_) (fun k25 h => ?_)
        · refine AW.ret ?_
          have h := Option.some.inj h
          subst h
          exact ret_pure (hs := [HV.bool a23]) (q := HV.bool a23) (.inr rfl) (resT rfl rfl) rfl trivial
        · refine AW.rg rfl fun K hK => ?_
          refine mv rfl rfl ?_
          refine bv rfl (v_bin rfl rfl b_eql) ?_
          refine mv rfl rfl ?_
          by_cases hg29 : x6.2 = 0
          · have h := ifT hg29 h
            refine b_T rfl rfl rfl rfl (decide_eq_true hg29) (o_val rfl (mv_val rfl rfl).2 ?_)
            refine b_T rfl rfl rfl rfl rfl (o_val rfl (mv_val rfl rfl).2 ?_)
            refine b_T rfl rfl rfl rfl rfl (o_val rfl (v_bin rfl rfl b_seql) ?_)
            refine bv rfl (v_pickT rfl rfl rfl) ?_
            refine mv rfl rfl ?_
            by_cases hg28 : x6.1 = a21
            · have h := ifT hg28 h
              obtain ⟨x26, h27, h⟩ := bS h
              refine b_T rfl rfl rfl rfl (decide_eq_true hg28) (o_call rfl rfl rfl rfl (ACallD.pure0 (w_law11_awake h27)) ?_)
              refine bv rfl (v_pickT rfl rfl rfl) ?_
              refine mv rfl rfl ?_
              refine b_nil (hK _ ?_)
              clear hK K
              exact to_le (s' := ⟨[(4, HV.bool x26)], []⟩) (AS.le_of ⟨rfl, trivial⟩ trivial) ⟨x26, (), h, rfl⟩
            · have h := ifF hg28 h
              refine b_F rfl rfl rfl rfl rfl (decide_eq_false hg28) ?_
              refine bv rfl (v_pickF rfl rfl rfl) ?_
              refine mv rfl rfl ?_
              refine b_nil (hK _ ?_)
              clear hK K
              exact to_le (s' := ⟨[(4, HV.bool false)], []⟩) (AS.le_of ⟨rfl, trivial⟩ trivial) ⟨false, (), h, rfl⟩
          · have h := ifF hg29 h
            refine b_F rfl rfl rfl rfl rfl (decide_eq_false hg29) ?_
            refine b_F rfl rfl rfl rfl rfl rfl ?_
            refine b_F rfl rfl rfl rfl rfl rfl ?_
            refine bv rfl (v_pickF rfl rfl rfl) ?_
            refine mv rfl rfl ?_
            refine b_F rfl rfl rfl rfl rfl rfl ?_
            refine bv rfl (v_pickF rfl rfl rfl) ?_
            refine mv rfl rfl ?_
            refine b_nil (hK _ ?_)
            clear hK K
            exact to_le (s' := ⟨[(4, HV.bool false)], []⟩) (AS.le_of ⟨rfl, trivial⟩ trivial) ⟨false, (), h, rfl⟩
      · refine AW.rgs rfl fun K hK => ?_
        refine bv rfl (v_bin rfl rfl b_lss) ?_
        refine b_nil (hK _ (AW.to (to_le (s' := ⟨[(1, HV.str p1), (2, HV.fptr [HV.int .i64 p0.1, HV.int .i64 p0.2.1, slE eFromLabelTo p0.2.2] 0), (5, HV.str x6.1), (6, HV.int .i64 x6.2), (7, HV.str a8.1), (34, HV.int .i64 p0.1), (35, HV.int .i64 a8.2), (36, HV.bool (decide (a8.2 < p0.1)))], []⟩) (AS.le_of ⟨rfl, rfl, rfl, rfl, rfl, rfl, rfl, rfl, trivial⟩ trivial) ?_)))
        clear hK K
        refine AW.cseq rfl (fun hc => ?_) (fun hc => ?_)
        · have hc := of_decide_eq_true hc
          have h := ifT hc h
          refine AW.skip ?_
          refine AW.seqJ h (S := (List UInt8)) (V := Unit) (fun a v => ⟨[(1, HV.str p1), (2, HV.fptr [HV.int .i64 p0.1, HV.int .i64 p0.2.1, slE eFromLabelTo p0.2.2] 0), (5, HV.str x6.1), (6, HV.int .i64 x6.2), (7, HV.str a), (34, HV.int .i64 p0.1), (35, HV.int .i64 a8.2)], []⟩) (fun a12 w13 h => ?_) (fun k14 h => ?_)
          · refine AW.rg rfl fun K hK => ?_
            refine bv rfl (v_bin rfl rfl b_add) ?_
            refine mv rfl rfl ?_
            refine b_nil (hK _ ?_)
            clear hK K
            exact to_le (s' := ⟨[(1, HV.str p1), (2, HV.fptr [HV.int .i64 p0.1, HV.int .i64 p0.2.1, slE eFromLabelTo p0.2.2] 0), (5, HV.str x6.1), (6, HV.int .i64 x6.2), (7, HV.str a12), (34, HV.int .i64 p0.1), (35, HV.int .i64 (IntKind.wrap .i64 (a8.2 + 1)))], []⟩) (AS.le_of ⟨rfl, rfl, rfl, rfl, rfl, rfl, rfl, trivial⟩ trivial) ⟨(a12, IntKind.wrap .i64 (a8.2 + 1)), (), h, rfl⟩
          · refine AW.block ?_
            refine AW.rgs rfl fun K hK => ?_
            refine mv rfl rfl ?_
            refine mv rfl rfl ?_
            refine b_nil (hK _ (AW.to (to_le (s' := ⟨[(1, HV.str p1), (2, HV.fptr [HV.int .i64 p0.1, HV.int .i64 p0.2.1, slE eFromLabelTo p0.2.2] 0), (5, HV.str x6.1), (6, HV.int .i64 x6.2), (7, HV.str a8.1), (8, HV.int .i64 a8.2), (34, HV.int .i64 p0.1), (35, HV.int .i64 a8.2)], []⟩) (AS.le_of ⟨rfl, rfl, rfl, rfl, rfl, rfl, rfl, rfl, trivial⟩ trivial) ?_)))
            clear hK K
            refine AW.dgs 13 follows rfl rfl fun K hK => ?_
            refine sv rfl (v_loadF ty24 rfl (l_litA rfl (Nat.le_of_ble_eq_true rfl) rfl)) ?_
            refine sm rfl rfl ?_
            refine sm rfl rfl ?_
            refine sm rfl rfl ?_
            refine sv rfl (v_bin rfl rfl b_add) ?_
            obtain ⟨h15, h⟩ := ifN h
            refine sv rfl (v_sliceS ty9 rfl rfl rfl h15) ?_
            obtain ⟨h16, h⟩ := ifN h
            refine sv rfl (v_bin rfl rfl (b_sadd h16)) ?_
            obtain ⟨x17, h18, h⟩ := bS h
            refine s_op rfl rfl (ops_call rfl rfl rfl rfl (ACallD.pure0 (w_language_Accepts h18)) ?_)
            refine sm rfl rfl ?_
            refine sv rfl (v_extract rfl rfl) ?_
            refine sv rfl (v_extract rfl rfl) ?_
            refine sm rfl rfl ?_
            refine sm rfl rfl ?_
            refine s_nil ?_
            refine b_nil (hK _ (AW.to (to_le (s' := ⟨[(1, HV.str p1), (2, HV.fptr [HV.int .i64 p0.1, HV.int .i64 p0.2.1, slE eFromLabelTo p0.2.2] 0), (5, HV.str x6.1), (6, HV.int .i64 x6.2), (7, HV.str a8.1), (8, HV.int .i64 a8.2), (9, HV.bool x17.1), (10, HV.int .i64 x17.2), (34, HV.int .i64 p0.1), (35, HV.int .i64 a8.2)], []⟩) (AS.le_of ⟨rfl, rfl, rfl, rfl, rfl, rfl, rfl, rfl, rfl, rfl, trivial⟩ trivial) ?_)))
            clear hK K
            refine AW.seq ?_
            refine AW.rgs rfl fun K hK => ?_
            refine mv rfl rfl ?_
            refine bv rfl (v_bin rfl rfl b_neq) ?_
            refine b_nil (hK _ (AW.to (to_le (s' := ⟨[(1, HV.str p1), (2, HV.fptr [HV.int .i64 p0.1, HV.int .i64 p0.2.1, slE eFromLabelTo p0.2.2] 0), (5, HV.str x6.1), (6, HV.int .i64 x6.2), (7, HV.str a8.1), (8, HV.int .i64 a8.2), (9, HV.bool x17.1), (34, HV.int .i64 p0.1), (35, HV.int .i64 a8.2), (50, HV.bool (decide (x17.2 ≠ 0)))], []⟩) (AS.le_of ⟨rfl, rfl, rfl, rfl, rfl, rfl, rfl, rfl, rfl, rfl, trivial⟩ trivial) ?_)))
            clear hK K
            refine AW.cond rfl (fun hc => ?_) (fun hc => ?_)
            · have hc := of_decide_eq_true hc
              have h := ifT hc h
              refine AW.rgs rfl fun K hK => ?_
              refine mv rfl rfl ?_
              refine b_nil (hK _ (AW.to (to_le (s' := ⟨[(4, HV.bool false)], []⟩) (AS.le_of ⟨rfl, trivial⟩ trivial) ?_)))
              clear hK K
              have h := hr11 _ h
              refine AW.ret ?_
              have h := Option.some.inj h
              subst h
              exact ret_pure (hs := [HV.bool false]) (q := HV.bool false) (.inr rfl) (resT rfl rfl) rfl trivial
            · have hc := of_decide_eq_false hc
              have h := ifF hc h
              refine AW.skip ?_
              refine AW.rgs rfl fun K hK => ?_
              refine mv rfl rfl ?_
              refine b_nil (hK _ (AW.to (to_le (s' := ⟨[(1, HV.str p1), (2, HV.fptr [HV.int .i64 p0.1, HV.int .i64 p0.2.1, slE eFromLabelTo p0.2.2] 0), (5, HV.str x6.1), (6, HV.int .i64 x6.2), (7, HV.str a8.1), (8, HV.int .i64 a8.2), (34, HV.int .i64 p0.1), (35, HV.int .i64 a8.2), (51, HV.bool x17.1)], []⟩) (AS.le_of ⟨rfl, rfl, rfl, rfl, rfl, rfl, rfl, rfl, rfl, trivial⟩ trivial) ?_)))
              clear hK K
              refine AW.cond rfl (fun hc => ?_) (fun hc => ?_)
              · have h := ifT hc h
                refine AW.rg rfl fun K hK => ?_
                refine mv rfl rfl ?_
                refine mv rfl rfl ?_
                refine mv rfl rfl ?_
                refine bv rfl (v_bin rfl rfl b_add) ?_
                obtain ⟨h19, h⟩ := ifN h
                refine bv rfl (v_sliceS ty9 rfl rfl rfl h19) ?_
                obtain ⟨h20, h⟩ := ifN h
                refine bv rfl (v_bin rfl rfl (b_sadd h20)) ?_
                refine mv rfl rfl ?_
                refine b_nil (hK _ ?_)
                clear hK K
                exact to_le (s' := ⟨[(1, HV.str p1), (2, HV.fptr [HV.int .i64 p0.1, HV.int .i64 p0.2.1, slE eFromLabelTo p0.2.2] 0), (5, HV.str x6.1), (6, HV.int .i64 x6.2), (7, HV.str (a8.1 ++ ((([48, 49, 50, 51, 52, 53, 54, 55, 56, 57, 97, 98, 99, 100, 101, 102] : List UInt8).take (IntKind.wrap .i64 (a8.2 + 1)).toNat).drop (a8.2).toNat))), (34, HV.int .i64 p0.1), (35, HV.int .i64 a8.2)], []⟩) (AS.le_of ⟨rfl, rfl, rfl, rfl, rfl, rfl, rfl, trivial⟩ trivial) ⟨a8.1 ++ ((([48, 49, 50, 51, 52, 53, 54, 55, 56, 57, 97, 98, 99, 100, 101, 102] : List UInt8).take (IntKind.wrap .i64 (a8.2 + 1)).toNat).drop (a8.2).toNat), (), h, rfl⟩
              · have h := ifF (bF' hc) h
                refine AW.skip ?_
                exact to_le (s' := ⟨[(1, HV.str p1), (2, HV.fptr [HV.int .i64 p0.1, HV.int .i64 p0.2.1, slE eFromLabelTo p0.2.2] 0), (5, HV.str x6.1), (6, HV.int .i64 x6.2), (7, HV.str a8.1), (34, HV.int .i64 p0.1), (35, HV.int .i64 a8.2)], []⟩) (AS.le_of ⟨rfl, rfl, rfl, rfl, rfl, rfl, rfl, trivial⟩ trivial) ⟨a8.1, (), h, rfl⟩
        · have hc := of_decide_eq_false hc
          have h := ifF hc h
          refine AW.exit ?_
          exact to_le (s' := ⟨[(5, HV.str x6.1), (6, HV.int .i64 x6.2), (7, HV.str a8.1)], []⟩) (AS.le_of ⟨rfl, rfl, rfl, trivial⟩ trivial) ⟨a8.1, (), h, rfl⟩
  · refine AW.rg rfl fun K hK => ?_
    refine bv rfl (v_loadF ty24 rfl (l_litA rfl (Nat.le_of_ble_eq_true rfl) rfl)) ?_
    obtain ⟨x30, h31, h⟩ := bS h
    refine b_op rfl (o_call rfl rfl rfl rfl (ACallD.pure0 (w_law11_fine h31)) ?_)
    refine bv rfl (v_not rfl) ?_
    refine mv rfl rfl ?_
    by_cases hg35 : (!x30) = true
    · have h := ifT hg35 h
      refine b_F rfl rfl rfl rfl rfl hg35 ?_
      refine b_F rfl rfl rfl rfl rfl rfl ?_
      refine b_F rfl rfl rfl rfl rfl rfl ?_
      refine bv rfl (v_pickT rfl rfl rfl) ?_
      refine mv rfl rfl ?_
      refine b_F rfl rfl rfl rfl rfl rfl ?_
      refine b_F rfl rfl rfl rfl rfl rfl ?_
      refine b_F rfl rfl rfl rfl rfl rfl ?_
      refine b_F rfl rfl rfl rfl rfl rfl ?_
      refine b_F rfl rfl rfl rfl rfl rfl ?_
      refine bv rfl (v_pickT rfl rfl rfl) ?_
      refine b_nil (hK _ ?_)
      clear hK K
      exact to_le (s' := ⟨[(1, HV.str p1), (2, HV.fptr [HV.int .i64 p0.1, HV.int .i64 p0.2.1, slE eFromLabelTo p0.2.2] 0), (25, HV.bool true)], []⟩) (AS.le_of ⟨rfl, rfl, rfl, trivial⟩ trivial) ⟨true, (), h, rfl⟩
    · have h := ifF hg35 h
      refine b_T rfl rfl rfl rfl (bF hg35) (o_val rfl (mv_val rfl rfl).2 ?_)
      refine b_T rfl rfl rfl rfl rfl (o_val rfl (v_lenS rfl rfl ty9 rfl) ?_)
      refine b_T rfl rfl rfl rfl rfl (o_val rfl (v_bin rfl rfl b_gtr) ?_)
      refine bv rfl (v_pickF rfl rfl rfl) ?_
      refine mv rfl rfl ?_
      by_cases hg34 : 12 < ((p1).length : Int)
      · have h := ifT hg34 h
        refine b_F rfl rfl rfl rfl rfl (decide_eq_true hg34) ?_
        refine b_F rfl rfl rfl rfl rfl rfl ?_
        refine b_F rfl rfl rfl rfl rfl rfl ?_
        refine b_F rfl rfl rfl rfl rfl rfl ?_
        refine b_F rfl rfl rfl rfl rfl rfl ?_
        refine bv rfl (v_pickT rfl rfl rfl) ?_
        refine b_nil (hK _ ?_)
        clear hK K
        exact to_le (s' := ⟨[(1, HV.str p1), (2, HV.fptr [HV.int .i64 p0.1, HV.int .i64 p0.2.1, slE eFromLabelTo p0.2.2] 0), (25, HV.bool true)], []⟩) (AS.le_of ⟨rfl, rfl, rfl, trivial⟩ trivial) ⟨true, (), h, rfl⟩
      · have h := ifF hg34 h
        refine b_T rfl rfl rfl rfl (decide_eq_false hg34) (o_val rfl (v_fieldAddrF fo24_0 rfl) ?_)
        refine b_T rfl rfl rfl rfl rfl (o_val rfl (v_loadF ty3 rfl (l_lit rfl rfl)) ?_)
        refine b_T rfl rfl rfl rfl rfl (o_val rfl (mv_val rfl rfl).2 ?_)
        obtain ⟨x32, h33, h⟩ := bS h
        refine b_T rfl rfl rfl rfl rfl (o_call rfl rfl rfl rfl (ACallD.pure0 (w_word_Check h33)) ?_)
        refine b_T rfl rfl rfl rfl rfl (o_val rfl (v_bin rfl rfl b_neq) ?_)
        refine bv rfl (v_pickF rfl rfl rfl) ?_
        refine b_nil (hK _ ?_)
        clear hK K
        exact to_le (s' := ⟨[(1, HV.str p1), (2, HV.fptr [HV.int .i64 p0.1, HV.int .i64 p0.2.1, slE eFromLabelTo p0.2.2] 0), (25, HV.bool (decide (x32 ≠ 0)))], []⟩) (AS.le_of ⟨rfl, rfl, rfl, trivial⟩ trivial) ⟨decide (x32 ≠ 0), (), h, rfl⟩

end Go.AW



namespace Go.AW
open Go Go.ChangeShapes Go.WideShapes Go.ChangeAt Go.RowKit

/-- of what was there nothing turns -/
def Kept (W W' : World) : Prop := W'.os = W.os ∧ W'.output = W.output ∧ W.heap.size ≤ W'.heap.size ∧ ∀ b : Nat, b < W.heap.size → W'.heap[b]? = W.heap[b]?

theorem Kept.frame {W W' : World} (h : Kept W W') (may : MemPlace → Prop) : W.keptBut W' may := by
  refine ⟨h.1, h.2.1, fun i hi => ?_⟩
  rw [h.2.2.2 i hi]
  cases W.heap[i]? with
  | none => rfl
  | some o => cases o with
    | cells c t fr => exact ⟨rfl, rfl, rfl, fun _ _ => rfl⟩
    | map es clock => exact .inr ⟨rfl, rfl⟩
    | _ => rfl

theorem Kept.frozen {W W' : World} (h : Kept W W') (a : Addr) (ha : a.block < W.heap.size) : W'.frozen? a = W.frozen? a := by
  simp only [World.frozen?, h.2.2.2 _ ha]

def Mu.zero : Mu := { nx := 0, loc := fun _ => none, held := fun _ => False }

theorem SR.zero (W : World) : SR W Mu.zero [] :=
  ⟨(fun _ _ _ h => by cases h), (fun _ _ _ h => by cases h), (fun _ _ h => by cases h), (fun _ _ _ _ _ h => by cases h), (fun _ h => h.elim)⟩

theorem calls_of_pure {P : Program} {f : FuncId} {args : List HV} {vs : List Value} {W : World} (hp : Pure P f args (· = .bool true)) (hr : RepL W Mu.zero args vs) :
    Calls P f vs.toArray W fun e W' => e = .returned (.bool true) ∧ Kept W W' := by
  refine (hp.2 Mu.zero W vs (SR.zero W) hr).mono ?_
  rintro e W' ⟨v, r, H', μ', rfl, ⟨rfl, _, _⟩, hs, hv, E⟩
  have hv' : v = .bool true := hv
  subst hv'
  exact ⟨rfl, E.os, E.output, E.size, fun b hb => E.keep b hb fun ⟨_, _, hl⟩ => by cases hl⟩

theorem rep_string {W : World} {μ : Mu} (s : ByteArray) (h : s.size ≤ maxLen) : Rep W μ (.str s.data.toList) (.string s) := by
  refine ⟨by cases s; simp, ?_⟩
  have : s.data.toList.length = s.size := by simp
  omega

theorem post_of_kept {H : Type} {enc : TypeId × Value → H} {P : Program} {f : Func} {s : ChangeSpec} {apart fresh handsOn again : Bool} {W W' : World} {args : Array Value} {v : Value} {ds gs : List (DataW H)} {before pa pv : List MemPlace}
    (hW : DataW.Whole enc P f.params.toList s.vars apart W args.toList ds gs before)
    (hres : ∀ (b : Nat) (sp : Nat → Bool) (hd : Bool), DataW.TrodAll enc P W' b sp hd f.resultTypes.toList (v.resultList f.resultTypes.size) (s.fn H (ds ++ gs)).results [])
    (hargs : ∀ sp : Nat → Bool, (∀ p ∈ before, sp p.block = true) → DataW.TrodAll enc P W' 0 sp true f.params.toList args.toList (s.fn H (ds ++ gs)).args pa)
    (hvars : ∀ sp : Nat → Bool, (∀ p ∈ before, sp p.block = true) → DataW.TrodVars enc P W' sp s.vars (s.fn H (ds ++ gs)).vars pv)
    (hps : before = pa ++ pv) (hk : Kept W W')
    (hok : ∀ (j : Nat) (t : TypeId) (r : Value), f.resultTypes[j]? = some t → (v.resultList f.resultTypes.size)[j]? = some r → Value.okWide P W' .any 0 t r) :
    s.post enc P f apart fresh handsOn again W args v W' := by
  have hold : ∀ p ∈ before, (fun b => decide (b < W.heap.size)) p.block = true := fun p hp => by simpa using hW.lt p hp
  refine ⟨ds, gs, before, [], pa, pv, hW, hres _ _ _, hargs _ hold, hvars _ hold, World.keptBut_mono (fun p hp => ⟨hp, ?_⟩) (hk.frame (· ∈ before)), fun _ => ?_⟩
  · rw [hps, List.mem_append] at hp
    exact Or.inr hp
  · have hlt := hW.lt
    obtain ⟨_, _, _, _, _, hz, hn⟩ := hW
    refine ⟨hok, _, _, ([] ++ pa) ++ pv, ⟨[] ++ pa, pv, trodAll_append (hargs _ (fun _ _ => rfl)) (hres _ _ _), hvars _ (fun _ _ => rfl), rfl, ?_, ?_⟩, ?_⟩
    · intro b off hp
      have hp' : MemPlace.cell b off ∈ before := by rw [hps]; simpa using hp
      rw [hk.frozen _ (hlt _ hp')]
      exact hz b off hp'
    · intro ha
      have := hn ha
      rw [hps] at this
      simpa using this
    · intro p hp _
      rw [hps]
      simpa using hp
end Go.AW

/- Arguments: from what is read of them to what the layer says of them; and the law's end for any arguments. -/
namespace Go.AW
open Go Go.ChangeShapes Go.WideShapes Go.ChangeAt Go.RowKit

theorem rowAt_le {p : Program} {fits : TypeId → Bool} {d : Nat} {e : TypeId} {count off n : Nat} (h : rowAt p fits d e count off n = true) : off ≤ count * p.cellsOf e := by
  cases d with
  | zero => simp [rowAt] at h
  | succ d =>
    unfold rowAt at h
    simp only at h
    split at h
    · cases h
    · rename_i hs
      have hs' : 0 < p.cellsOf e := Nat.pos_of_ne_zero hs
      have hd := Nat.div_add_mod off (p.cellsOf e)
      rw [Nat.mul_comm] at hd
      simp only [Bool.or_eq_true, Bool.and_eq_true, beq_iff_eq, decide_eq_true_eq] at h
      rcases h with ⟨⟨h0, h1⟩, _⟩ | ⟨h1, _⟩
      · rw [← hd, h0, Nat.add_zero]
        exact Nat.mul_le_mul_right _ (by omega)
      · have hm := Nat.mod_lt off hs'
        have : (off / p.cellsOf e + 1) * p.cellsOf e ≤ count * p.cellsOf e := Nat.mul_le_mul_right _ h1
        rw [Nat.add_mul] at this
        omega

theorem liesAt_le {p : Program} {d : Nat} {e u : TypeId} {count off n : Nat} (h : liesAt p d e count off u n = true) : off ≤ count * p.cellsOf e := by
  induction d generalizing u n with
  | zero => simp [liesAt] at h
  | succ d ih =>
    unfold liesAt at h
    rw [Bool.or_eq_true] at h
    rcases h with h | h
    · exact rowAt_le h
    · split at h
      · exact ih h
      · cases h

/-- where an argument's slice lies -/
theorem has_seg {P : Program} {W : World} {r : Reach} {base : Nat} {a : Addr} {e : TypeId} {cap : Nat} (h : W.has P r base a e cap) {vs : List Value} (hc : ∀ i (hi : i < vs.length), W.cell? (a.add i) = some vs[i]) :
    ∃ b off, a = ⟨b, off, none⟩ ∧ Seg W b off vs := by
  obtain ⟨_, hsp, row, cells, hsh, hl⟩ := h
  obtain ⟨b, off, spot⟩ := a
  dsimp only at hsp hsh hl
  subst hsp
  refine ⟨b, off, rfl, ?_⟩
  unfold World.shape? at hsh
  split at hsh
  · rename_i cur e' fr hb
    simp only [Option.some.injEq, Prod.mk.injEq] at hsh
    obtain ⟨rfl, rfl⟩ := hsh
    have hoff : off ≤ cur.size := Nat.le_trans (liesAt_le hl) (Nat.div_mul_le_self _ _)
    have hget : ∀ i (hi : i < vs.length), cur.toList[off + i]? = some vs[i] := fun i hi => by
      have := hc i hi
      rw [add_plain] at this
      unfold World.cell? at this
      rw [hb] at this
      simpa using this
    refine ⟨cur, e', fr, cur.toList.take off, cur.toList.drop (off + vs.length), hb, ?_, by simp [hoff]⟩
    have hvs : vs = (cur.toList.drop off).take vs.length := by
      apply List.ext_getElem?
      intro i
      rcases Nat.lt_or_ge i vs.length with hi | hi
      · rw [List.getElem?_take_of_lt hi, List.getElem?_drop, hget i hi, List.getElem?_eq_getElem hi]
      · rw [List.getElem?_eq_none hi, List.getElem?_eq_none (by simp; omega)]
    have : vs ++ cur.toList.drop (off + vs.length) = cur.toList.drop off := by
      conv => lhs; arg 1; rw [hvs]
      rw [← List.drop_drop]
      exact List.take_append_drop _ _
    rw [List.append_assoc, this, List.take_append_drop]
  · cases hsh

theorem nown (b : Nat) : ¬ Mu.zero.owns b := fun h => h.elim (fun ⟨_, _, h⟩ => by cases h) id

/-- the arguments read again -/
theorem trodAll_stays {H : Type} {enc : TypeId × Value → H} {P : Program} (hl : laidOutB P = true) {W W' : World} {sp : Nat → Bool} : ∀ {ts : List TypeId} {vs : List Value} {ds : List (DataW H)} {ps : List MemPlace},
    (ts.all fun t => P.readableRec t && decide (t < P.types.size)) = true → DataW.TrodAll enc P W 0 (fun _ => true) true ts vs ds ps → (∀ p ∈ ps, W.sameAt W' p) → (∀ p ∈ ps, sp p.block = true) → DataW.TrodAll enc P W' 0 sp true ts vs ds ps
  | [], vs, ds, ps, _, h, _, _ => by
    obtain ⟨rfl, rfl, rfl⟩ := trodAll_nil h
    exact trodAll_mk0
  | t :: ts, vs, ds, ps, ht, h, h1, h2 => by
    obtain ⟨v, vs', d, ds', p, q, rfl, rfl, rfl, h3, h4⟩ := trodAll_cons h
    simp only [List.all_cons, Bool.and_eq_true, decide_eq_true_eq] at ht
    exact trodAll_cons_mk (WideElems.Trod_stays hl ht.1.1 ht.1.2 h3 (fun x hx => h1 x (List.mem_append_left _ hx)) (fun x hx => h2 x (List.mem_append_left _ hx)))
      (trodAll_stays hl ht.2 h4 (fun x hx => h1 x (List.mem_append_right _ hx)) (fun x hx => h2 x (List.mem_append_right _ hx)))

theorem Kept.same {W W' : World} (h : Kept W W') (p : MemPlace) (hp : p.block < W.heap.size) : W.sameAt W' p := by
  cases p with
  | cell b off =>
    show W'.cell? ⟨b, off, none⟩ = W.cell? ⟨b, off, none⟩
    unfold World.cell?
    rw [h.2.2.2 b hp]
  | map b => exact h.2.2.2 b hp

/-- A LAW'S END: true, and the arguments read as they did. -/
theorem post_of_true {H : Type} {enc : TypeId × Value → H} {P : Program} {f : Func} {s : ChangeSpec} {apart fresh handsOn again : Bool} {W W' : World} {args : Array Value} {ds gs : List (DataW H)} {before : List MemPlace} {t : TypeId}
    (hl : laidOutB P = true) (hps : (f.params.toList.all fun t => P.readableRec t && decide (t < P.types.size)) = true) (hres : f.resultTypes = #[t]) (ht : P.underlying t = some .bool) (hv : s.vars = [])
    (hW : DataW.Whole enc P f.params.toList s.vars apart W args.toList ds gs before) (hk : Kept W W')
    (h1 : (s.fn H (ds ++ gs)).results = [.lit (.bool true)]) (h2 : (s.fn H (ds ++ gs)).args = ds) (h3 : (s.fn H (ds ++ gs)).vars = []) :
    s.post enc P f apart fresh handsOn again W args (.bool true) W' := by
  have hlt := hW.lt
  have hW' := hW
  obtain ⟨p, q, hA, hV, rfl, _, _⟩ := hW
  rw [hv] at hV
  obtain ⟨rfl, rfl⟩ := trodVars_none hV
  refine post_of_kept (pa := p) (pv := []) hW' (fun _ _ _ => ?_) (fun sp hsp => ?_) (fun _ _ => ?_) (by simp) hk (ok_one hres rfl (okWide_bool_mk ht _))
  · rw [hres, h1]
    exact trodAll_cons_mk (shut_bool ht _) trodAll_mk0
  · rw [h2]
    exact trodAll_stays hl hps hA (fun x hx => hk.same x (hlt x (by simpa using hx))) (fun x hx => hsp x (by simpa using hx))
  · rw [h3, hv]
    rfl
end Go.AW

/- Arguments that are graphs: what is read of them, and what the layer says of them. -/
namespace Go.AW
open Go Go.ChangeShapes Go.WideShapes Go.ChangeAt Go.RowKit

section
variable {H : Type} {enc : TypeId × Value → H} {P : Program} {W : World} {base : Nat}

theorem repL_app {μ : Mu} : ∀ {hs ks : List HV} {vs us : List Value}, RepL W μ hs vs → RepL W μ ks us → RepL W μ (hs ++ ks) (vs ++ us)
  | [], _, _, _, h, h' => by cases h; exact h'
  | _ :: _, _, _, _, ⟨x, xs, rfl, h1, h2⟩, h' => ⟨x, _, rfl, h1, repL_app h2 h'⟩

theorem add_adds (a : Addr) (i j : Nat) : (a.add i).add j = a.add (i + j) := by
  unfold Addr.add
  repeat' split
  all_goals simp_all [Nat.add_assoc]

theorem open_rows {α : Type} (c : EncL α) {fuel : Nat} {t e : TypeId} {cs : List Value} {x : DataW H × List MemPlace} (ht : P.underlying t = some (.slice e)) (hk : P.cellsOf e = c.k) (hone : ∀ x, ones (c.C x))
    (hel : ∀ n cs y, DataW.trod enc P W 0 (fun _ => true) true n e cs = some y → ∃ x : α, RepL W Mu.zero (c.C x) cs)
    (hhas : ∀ a len cap, cs = [.slice (some a) len cap] → W.has P .any base a e cap) (h : DataW.trod enc P W 0 (fun _ => true) true fuel t cs = some x) : ∃ l : List α, RepL W Mu.zero [slE c l] cs := by
  rcases DataW.trod_slice ht h with ⟨rfl, _⟩ | ⟨a, len, cap, elems, rest, n, _, rfl, _, _, hl, hm, hlen, hel', _, _⟩
  · refine ⟨[], _, _, rfl, ?_, rfl⟩
    show _ ∧ _
    exact ⟨(by rw [c.nil]; exact fun _ h => nomatch h), (by rw [c.nil]; simp), Nat.zero_le _, .inl ⟨rfl, rfl⟩⟩
  · have each : ∀ i, i < len → ∃ cs' x, W.cells? 0 (a.add (i * c.k)) c.k = some cs' ∧ RepL W Mu.zero (c.C x) cs' := fun i hi => by
      have h1 := hel' i hi
      rw [List.getElem?_eq_getElem (by omega), Option.bind_eq_some_iff, hk] at h1
      obtain ⟨cs', h2, h3⟩ := h1
      obtain ⟨x, hx⟩ := hel _ _ _ h3
      exact ⟨cs', x, h2, hx⟩
    have build : ∀ m, m ≤ len → ∃ (l : List α) (vs : List Value), l.length = m ∧ vs.length = m * c.k ∧ RepL W Mu.zero (c.E l) vs ∧ ∀ i (hi : i < vs.length), W.cell? (a.add i) = some vs[i] := by
      intro m
      induction m with
      | zero => exact fun _ => ⟨[], [], rfl, by simp, by rw [c.nil]; rfl, fun i hi => by simp at hi⟩
      | succ m ih =>
        intro hm
        obtain ⟨l, vs, h1, h2, h3, h4⟩ := ih (by omega)
        obtain ⟨cs', x, h5, h6⟩ := each m (by omega)
        obtain ⟨_, h7, h8⟩ := World.cells?_some h5
        refine ⟨l ++ [x], vs ++ cs', by simp [h1], by rw [List.length_append, h2, h7, Nat.succ_mul], by rw [c.append, c.one]; exact repL_app h3 h6, fun i hi => ?_⟩
        rcases Nat.lt_or_ge i vs.length with hi' | hi'
        · rw [List.getElem_append_left hi']; exact h4 i hi'
        · rw [List.getElem_append_right hi']
          rw [List.length_append] at hi
          have := h8 (i - vs.length) (by omega)
          rw [add_adds, h2, show m * c.k + (i - m * c.k) = i by omega] at this
          rw [this, List.getElem?_eq_getElem (by omega)]
          simp only [h2]
    obtain ⟨l, vs, h1, h2, h3, h4⟩ := build len (Nat.le_refl _)
    obtain ⟨b, off, rfl, hseg⟩ := has_seg (hhas _ _ _ rfl) h4
    refine ⟨l, _, _, rfl, ?_, rfl⟩
    show _ ∧ _
    refine ⟨fun d hd => ?_, c.len l, by omega, .inr ⟨b, off, cap, vs, by rw [h1], by omega, nown b, hseg, h3⟩⟩
    rw [c.hE] at hd
    obtain ⟨x, _, hdx⟩ := List.mem_flatMap.1 hd
    exact hone x d hdx

theorem open3 {t : TypeId} {f0 f1 f2 : Field} {fuel : Nat} {cs : List Value} {x : DataW H × List MemPlace} (ht : P.underlying t = some (.struct #[f0, f1, f2])) (o0 : f0.offset = 0) (o1 : f1.offset = 1) (o2 : f2.offset = 2) (c : P.cellsOf t = 3)
    (c0 : P.cellsOf f0.type = 1) (c1 : P.cellsOf f1.type = 1) (c2 : P.cellsOf f2.type = 1) (h : DataW.trod enc P W 0 (fun _ => true) true fuel t cs = some x) :
    ∃ v0 v1 v2 y0 y1 y2 n, cs = [v0, v1, v2] ∧ DataW.trod enc P W 0 (fun _ => true) true n f0.type [v0] = some y0 ∧ DataW.trod enc P W 0 (fun _ => true) true n f1.type [v1] = some y1 ∧ DataW.trod enc P W 0 (fun _ => true) true n f2.type [v2] = some y2 := by
  obtain ⟨xs, n, _, rfl, hl, hlen, hf⟩ := DataW.trod_struct ht h
  rw [c] at hl
  match cs, hl with
  | [v0, v1, v2], _ =>
    match xs, hlen with
    | [y0, y1, y2], _ =>
      refine ⟨v0, v1, v2, y0, y1, y2, n, rfl, ?_, ?_, ?_⟩
      · have := hf 0 f0 rfl; rw [o0, c0] at this; exact this
      · have := hf 1 f1 rfl; rw [o1, c1] at this; exact this
      · have := hf 2 f2 rfl; rw [o2, c2] at this; exact this

theorem rep_i64 {n : Int} {ti : TypeId} {m : Nat} {v : Value} {y : DataW H × List MemPlace} (hti : P.underlying ti = some (.int .i64)) (h : DataW.trod enc P W 0 (fun _ => true) true m ti [v] = some y) : ∃ n : Int, Rep W Mu.zero (.int .i64 n) v := by
  obtain ⟨n, hv, _, hw⟩ := DataW.trod_int hti h
  cases hv
  exact ⟨n, rfl, hw⟩

/-- a graph -/
theorem open_graph {t ti ts te : TypeId} {f0 f1 f2 e0 e1 e2 : Field} {v : Value} {d : DataW H} {ps : List MemPlace} (ht : P.underlying t = some (.struct #[f0, f1, f2])) (o : f0.offset = 0 ∧ f1.offset = 1 ∧ f2.offset = 2) (y : f0.type = ti ∧ f1.type = ti ∧ f2.type = ts)
    (c : P.cellsOf t = 3) (ci : P.cellsOf ti = 1) (cs : P.cellsOf ts = 1) (ct : P.cellTypes P.depth t = some [ti, ti, ts]) (hti : P.underlying ti = some (.int .i64)) (hts : P.underlying ts = some (.slice te))
    (hte : P.underlying te = some (.struct #[e0, e1, e2])) (oe : e0.offset = 0 ∧ e1.offset = 1 ∧ e2.offset = 2) (ye : e0.type = ti ∧ e1.type = ti ∧ e2.type = ti) (ce : P.cellsOf te = 3)
    (hval : Value.okWide P W .any base t v) (h : DataW.Trod enc P W 0 (fun _ => true) true t v d ps) : ∃ g : TLabelsStatesEdges, Rep W Mu.zero (.agg [.int .i64 g.1, .int .i64 g.2.1, slE eFromLabelTo g.2.2]) v := by
  obtain ⟨y0, y1, y2⟩ := y
  obtain ⟨z0, z1, z2⟩ := ye
  simp only [Value.okWide, ht] at hval
  obtain ⟨arr, rfl, _, hrow⟩ := hval
  obtain ⟨fuel, hf⟩ := h
  obtain ⟨v0, v1, v2, a0, a1, a2, n, hcs, h0, h1, h2⟩ := open3 ht o.1 o.2.1 o.2.2 c (by rw [y0]; exact ci) (by rw [y1]; exact ci) (by rw [y2]; exact cs) hf
  have harr : arr = #[v0, v1, v2] := by
    have : arr.toList = [v0, v1, v2] := hcs
    cases arr
    simp_all
  subst harr
  rw [y0] at h0
  rw [y1] at h1
  rw [y2] at h2
  obtain ⟨l, r0⟩ := rep_i64 (n := 0) hti h0
  obtain ⟨s, r1⟩ := rep_i64 (n := 0) hti h1
  obtain ⟨es, _, _, r2, r2', r2''⟩ := open_rows (base := base) eFromLabelTo hts ce (fun x d hd => by
      have hd : d ∈ [HV.int .i64 x.1, HV.int .i64 x.2.1, HV.int .i64 x.2.2] := hd
      simp only [List.mem_cons, List.not_mem_nil, or_false] at hd
      rcases hd with rfl | rfl | rfl <;> rfl) (fun m cs' y hy => by
      obtain ⟨w0, w1, w2, b0, b1, b2, n', rfl, k0, k1, k2⟩ := open3 hte oe.1 oe.2.1 oe.2.2 ce (by rw [z0]; exact ci) (by rw [z1]; exact ci) (by rw [z2]; exact ci) hy
      rw [z0] at k0
      rw [z1] at k1
      rw [z2] at k2
      obtain ⟨p0, q0⟩ := rep_i64 (n := 0) hti k0
      obtain ⟨p1, q1⟩ := rep_i64 (n := 0) hti k1
      obtain ⟨p2, q2⟩ := rep_i64 (n := 0) hti k2
      exact ⟨(p0, p1, p2), _, _, rfl, q0, _, _, rfl, q1, _, _, rfl, q2, rfl⟩) (fun a len cap e => by
      cases e
      obtain ⟨tys, ht1, _, hcell⟩ := hrow
      rw [ct] at ht1
      cases ht1
      obtain ⟨u, hu, hok⟩ := hcell 2 (.slice (some a) len cap) rfl
      cases hu
      simp only [Cell.okWide, hts, Cell.ok] at hok
      exact hok.2.2) h2
  cases r2
  refine ⟨(l, s, es), ?_⟩
  show _ ∧ _
  refine ⟨fun d hd => ?_, _, rfl, _, _, rfl, r0, _, _, rfl, r1, _, _, rfl, r2', rfl⟩
  simp only [List.mem_cons, List.not_mem_nil, or_false] at hd
  rcases hd with rfl | rfl | rfl <;> rfl
end
end Go.AW

namespace Go.Proofs.Ytccnafddjjamoaa
open Go Go.AW Go.ChangeShapes Go.WideShapes Go.ChangeAt Go.RowKit Go.ChangeMaps
set_option linter.unusedVariables false

theorem ownM : ownKnob Try.prog.godebug = none := by kernel_rfl
theorem laidB : laidOutB Try.prog = true := by kernel_rfl

theorem wLaw (a0 : TLabelsStatesEdges) (a1 : List UInt8) : Pure Try.prog 11 [HV.agg [HV.int .i64 a0.1, HV.int .i64 a0.2.1, slE eFromLabelTo a0.2.2], .str a1] (· = .bool true) := w_law11_LanguageLetters (law_letters a0 a1)

set_option maxRecDepth 100000 in
theorem liftedL (os : Os) (started : os.Started) (H : Type) (enc : TypeId × Value → H) :
    ReturnsInHanded {} Try.checked os 11 .any (Rows.languageLettersSpec.pre6 enc Try.prog Try.f11 Rows.languageLettersRow.domain false) (Rows.languageLettersSpec.post enc Try.prog Try.f11 false true false false) := by
  refine returnsInHanded_of_change (C := Try.checked) ownM started (by kernel_rfl) Try.func11
    (ChangeSpec.witness6 (enc := enc) (C := Try.checked) false ⟨#[], #[.agg #[.int .i64 0, .int .i64 0, .slice none 0 0], .string ⟨#[]⟩], []⟩ 8 (by kernel_rfl) (by kernel_rfl) (by kernel_rfl) (by kernel_rfl)) ?_
  intro W base args ds gs before hval0 hW hcnd _
  have hval : ∀ (j : Nat) t v, Try.f11.params[j]? = some t → args[j]? = some v → Value.okWide Try.prog W .any base t v := hval0
  have hW' := hW
  obtain ⟨p, q, hA0, hV, rfl, hfz, hnd⟩ := hW
  have hA : DataW.TrodAll enc Try.prog W 0 (fun _ => true) true Try.f11.params.toList args.toList ds p := hA0
  rw [Try.params11] at hA hval
  obtain ⟨v0, vs0, d0, ds0, p0, q0, hargs, rfl, rfl, h0, r0⟩ := trodAll_cons hA
  obtain ⟨v1, vs1, d1, ds1, p1, q1, rfl, rfl, rfl, h1, r1⟩ := trodAll_cons r0
  obtain ⟨rfl, rfl, rfl⟩ := trodAll_nil r1
  obtain rfl : args = #[v0, v1] := by cases args; simp_all
  obtain ⟨rfl, rfl⟩ := trodVars_none hV
  obtain ⟨a0, hr0⟩ := open_graph Try.underlying24 ⟨rfl, rfl, rfl⟩ ⟨rfl, rfl, rfl⟩ (by kernel_rfl) (by kernel_rfl) (by kernel_rfl) (by kernel_rfl) Try.underlying3 Try.underlying22 Try.underlying66 ⟨rfl, rfl, rfl⟩ ⟨rfl, rfl, rfl⟩ (by kernel_rfl) (hval 0 24 v0 rfl rfl) h0
  obtain ⟨s1, rfl, _, _, l1⟩ := open_string Try.underlying9 (hval 1 9 v1 rfl rfl) h1
  refine (calls_of_pure (vs := [v0, .string s1]) (wLaw a0 s1.data.toList) ⟨_, _, rfl, hr0, _, _, rfl, rep_string s1 l1, rfl⟩).mono fun e W' ⟨he, hk⟩ => ?_
  subst he
  exact ⟨_, rfl, post_of_true laidB (by kernel_rfl) rfl Try.underlying4 rfl hW' hk rfl rfl rfl⟩

theorem languageLettersProved : Rows.LanguageLettersSaid :=
  OpenClaim.holds_of_wide 11 Try.f11 rfl rfl rfl rfl rfl rfl rfl ⟨rfl, rfl, rfl, rfl, rfl⟩ rfl rfl rfl rfl rfl (by kernel_rfl) Try.func11 (by kernel_rfl)
    (of_decide_eq_true (by kernel_rfl)) (by unfold Func.isWrapper; first | (rw [if_pos (by decide +kernel)]; kernel_rfl) | (rw [if_neg (by decide +kernel)]; exact ⟨rfl, rfl⟩))
    (fun os started H enc _ => liftedL os started H enc)
#print axioms languageLettersProved
end Go.Proofs.Ytccnafddjjamoaa

/- LanguageLists: for every input the law's function returns true, and the input reads as it did. -/
import Derived.Test.YtccnafddjjamoaaGreatLb6
import Derived.ChangeMaps5
import Derived.OpenShut
import Derived.ProofKit
import Derived.SliceStrings
import Derived.Test.YtccnafddjjamoaaGreatRows
import Derived.WalkKit
import Derived.WideKeyArgs
namespace Go.AW
open Go Go.Proofs
set_option linter.unusedVariables false
set_option maxHeartbeats 1600000 in
set_option maxRecDepth 100000 in
theorem w_law11_LanguageLists {p0 : TLabelsStatesEdges} {p1 : Int} {p2 : Int} {p3 : Int} {r : Bool} (h : m_law11_LanguageLists p0 p1 p2 p3 = some r) : Pure Tryz.prog 3 [HV.agg [HV.int .i64 p0.1, HV.int .i64 p0.2.1, slE eFromLabelTo p0.2.2], HV.int .i64 p1, HV.int .i64 p2, HV.int .i64 p3] (· = HV.bool r) := by
  unfold m_law11_LanguageLists at h
  refine Pure.of_body Tryz.func3 rfl rfl (Nat.le_of_ble_eq_true rfl) fun hf => ?_
  unfold Tryz.f3
  dsimp only [enumS, Nat.reduceAdd]
  refine AW.rgs rfl fun K hK => ?_
  refine b_op rfl (o_box rfl rfl rfl ?_)
  refine mv rfl rfl ?_
  refine b_nil (hK _ (AW.to (to_le (s' := ⟨[(1, HV.int .i64 p1), (2, HV.int .i64 p2), (3, HV.int .i64 p3), (4, HV.fptr [HV.int .i64 p0.1, HV.int .i64 p0.2.1, slE eFromLabelTo p0.2.2] 0)], []⟩) (AS.le_of ⟨rfl, rfl, rfl, rfl, trivial⟩ trivial) ?_)))
  clear hK K
  refine AW.seq ?_
  refine AW.seqJ h (S := Bool) (V := Unit) (fun a v => ⟨[(1, HV.int .i64 p1), (2, HV.int .i64 p2), (3, HV.int .i64 p3), (4, HV.fptr [HV.int .i64 p0.1, HV.int .i64 p0.2.1, slE eFromLabelTo p0.2.2] 0), (33, HV.bool a)], []⟩) (fun a1 w2 h => ?_) (fun k3 h => ?_)
  · refine AW.cond rfl (fun hc => ?_) (fun hc => ?_)
    · have h := ifT hc h
      refine AW.rgs rfl fun K hK => ?_
      obtain ⟨x4, h5, h⟩ := bS h
      refine b_op rfl (o_call rfl rfl rfl rfl (ACallD.pure0 (w_law11_awake h5)) ?_)
      refine mv rfl rfl ?_
      refine b_nil (hK _ (AW.to (to_le (s' := ⟨[(8, HV.bool x4)], []⟩) (AS.le_of ⟨rfl, trivial⟩ trivial) ?_)))
      clear hK K
      refine AW.ret ?_
      have h := Option.some.inj h
      subst h
      exact ret_pure (hs := [HV.bool x4]) (q := HV.bool x4) (.inr rfl) (resT rfl rfl) rfl trivial
    · have h := ifF (bF' hc) h
      refine AW.skip ?_
      refine AW.rgs rfl fun K hK => ?_
      refine bv rfl (v_loadF ty24 rfl (l_litA rfl (Nat.le_of_ble_eq_true rfl) rfl)) ?_
      refine mv rfl rfl ?_
      obtain ⟨x6, h7, h⟩ := bS h
      refine b_op rfl (o_call rfl rfl rfl rfl (ACallD.pure0 (w_language_Words h7)) ?_)
      refine mv rfl rfl ?_
      refine bv rfl (v_extract rfl rfl) ?_
      refine bv rfl (v_extract rfl rfl) ?_
      refine mv rfl rfl ?_
      refine mv rfl rfl ?_
      refine b_nil (hK _ (AW.to (to_le (s' := ⟨[(1, HV.int .i64 p1), (2, HV.int .i64 p2), (3, HV.int .i64 p3), (4, HV.fptr [HV.int .i64 p0.1, HV.int .i64 p0.2.1, slE eFromLabelTo p0.2.2] 0), (9, slE eStr x6.1), (10, HV.int .i64 x6.2)], []⟩) (AS.le_of ⟨rfl, rfl, rfl, rfl, rfl, rfl, trivial⟩ trivial) ?_)))
      clear hK K
      refine AW.rgs rfl fun K hK => ?_
      refine bv rfl (v_loadF ty24 rfl (l_litA rfl (Nat.le_of_ble_eq_true rfl) rfl)) ?_
      refine mv rfl rfl ?_
      obtain ⟨x8, h9, h⟩ := bS h
      refine b_op rfl (o_call rfl rfl rfl rfl (ACallD.pure0 (w_ref11_Words h9)) ?_)
      refine mv rfl rfl ?_
      refine bv rfl (v_extract rfl rfl) ?_
      refine bv rfl (v_extract rfl rfl) ?_
      refine mv rfl rfl ?_
      refine mv rfl rfl ?_
      refine b_nil (hK _ (AW.to (to_le (s' := ⟨[(1, HV.int .i64 p1), (2, HV.int .i64 p2), (3, HV.int .i64 p3), (4, HV.fptr [HV.int .i64 p0.1, HV.int .i64 p0.2.1, slE eFromLabelTo p0.2.2] 0), (9, slE eStr x6.1), (10, HV.int .i64 x6.2), (11, slE eStr x8.1), (12, HV.int .i64 x8.2)], []⟩) (AS.le_of ⟨rfl, rfl, rfl, rfl, rfl, rfl, rfl, rfl, trivial⟩ trivial) ?_)))
      clear hK K
      refine AW.rgs rfl fun K hK => ?_
      refine bv rfl (v_loadF ty24 rfl (l_litA rfl (Nat.le_of_ble_eq_true rfl) rfl)) ?_
      refine mv rfl rfl ?_
      refine mv rfl rfl ?_
      obtain ⟨x10, h11, h⟩ := bS h
      refine b_op rfl (o_call rfl rfl rfl rfl (ACallD.pure0 (w_language_From h11)) ?_)
      refine mv rfl rfl ?_
      refine bv rfl (v_extract rfl rfl) ?_
      refine bv rfl (v_extract rfl rfl) ?_
      refine mv rfl rfl ?_
      refine mv rfl rfl ?_
      refine b_nil (hK _ (AW.to (to_le (s' := ⟨[(1, HV.int .i64 p1), (2, HV.int .i64 p2), (3, HV.int .i64 p3), (4, HV.fptr [HV.int .i64 p0.1, HV.int .i64 p0.2.1, slE eFromLabelTo p0.2.2] 0), (9, slE eStr x6.1), (10, HV.int .i64 x6.2), (11, slE eStr x8.1), (12, HV.int .i64 x8.2), (13, slE eStr x10.1), (14, HV.int .i64 x10.2)], []⟩) (AS.le_of ⟨rfl, rfl, rfl, rfl, rfl, rfl, rfl, rfl, rfl, rfl, trivial⟩ trivial) ?_)))
      clear hK K
      refine AW.rgs rfl fun K hK => ?_
      refine bv rfl (v_loadF ty24 rfl (l_litA rfl (Nat.le_of_ble_eq_true rfl) rfl)) ?_
      refine mv rfl rfl ?_
      refine mv rfl rfl ?_
      obtain ⟨x12, h13, h⟩ := bS h
      refine b_op rfl (o_call rfl rfl rfl rfl (ACallD.pure0 (w_ref11_From h13)) ?_)
      refine mv rfl rfl ?_
      refine bv rfl (v_extract rfl rfl) ?_
      refine bv rfl (v_extract rfl rfl) ?_
      refine mv rfl rfl ?_
      refine mv rfl rfl ?_
      refine b_nil (hK _ (AW.to (to_le (s' := ⟨[(1, HV.int .i64 p1), (2, HV.int .i64 p2), (3, HV.int .i64 p3), (4, HV.fptr [HV.int .i64 p0.1, HV.int .i64 p0.2.1, slE eFromLabelTo p0.2.2] 0), (9, slE eStr x6.1), (10, HV.int .i64 x6.2), (11, slE eStr x8.1), (12, HV.int .i64 x8.2), (13, slE eStr x10.1), (14, HV.int .i64 x10.2), (15, slE eStr x12.1), (16, HV.int .i64 x12.2)], []⟩) (AS.le_of ⟨rfl, rfl, rfl, rfl, rfl, rfl, rfl, rfl, rfl, rfl, rfl, rfl, trivial⟩ trivial) ?_)))
      clear hK K
      refine AW.rgs rfl fun K hK => ?_
      refine bv rfl (v_loadF ty24 rfl (l_litA rfl (Nat.le_of_ble_eq_true rfl) rfl)) ?_
      refine mv rfl rfl ?_
      refine mv rfl rfl ?_
      refine mv rfl rfl ?_
      obtain ⟨x14, h15, h⟩ := bS h
      refine b_op rfl (o_call rfl rfl rfl rfl (ACallD.pure0 (w_language_Between h15)) ?_)
      refine mv rfl rfl ?_
      refine bv rfl (v_extract rfl rfl) ?_
      refine bv rfl (v_extract rfl rfl) ?_
      refine mv rfl rfl ?_
      refine mv rfl rfl ?_
      refine b_nil (hK _ (AW.to (to_le (s' := ⟨[(1, HV.int .i64 p1), (2, HV.int .i64 p2), (3, HV.int .i64 p3), (4, HV.fptr [HV.int .i64 p0.1, HV.int .i64 p0.2.1, slE eFromLabelTo p0.2.2] 0), (9, slE eStr x6.1), (10, HV.int .i64 x6.2), (11, slE eStr x8.1), (12, HV.int .i64 x8.2), (13, slE eStr x10.1), (14, HV.int .i64 x10.2), (15, slE eStr x12.1), (16, HV.int .i64 x12.2), (17, slE eStr x14.1), (18, HV.int .i64 x14.2)], []⟩) (AS.le_of ⟨rfl, rfl, rfl, rfl, rfl, rfl, rfl, rfl, rfl, rfl, rfl, rfl, rfl, rfl, trivial⟩ trivial) ?_)))
      clear hK K
      refine AW.rgs rfl fun K hK => ?_
      refine bv rfl (v_loadF ty24 rfl (l_litA rfl (Nat.le_of_ble_eq_true rfl) rfl)) ?_
      refine mv rfl rfl ?_
      refine mv rfl rfl ?_
      refine mv rfl rfl ?_
      obtain ⟨x16, h17, h⟩ := bS h
      refine b_op rfl (o_call rfl rfl rfl rfl (ACallD.pure0 (w_ref11_Between h17)) ?_)
      refine mv rfl rfl ?_
      refine bv rfl (v_extract rfl rfl) ?_
      refine bv rfl (v_extract rfl rfl) ?_
      refine mv rfl rfl ?_
      refine mv rfl rfl ?_
      refine b_nil (hK _ (AW.to (to_le (s' := ⟨[(3, HV.int .i64 p3), (4, HV.fptr [HV.int .i64 p0.1, HV.int .i64 p0.2.1, slE eFromLabelTo p0.2.2] 0), (9, slE eStr x6.1), (10, HV.int .i64 x6.2), (11, slE eStr x8.1), (12, HV.int .i64 x8.2), (13, slE eStr x10.1), (14, HV.int .i64 x10.2), (15, slE eStr x12.1), (16, HV.int .i64 x12.2), (17, slE eStr x14.1), (18, HV.int .i64 x14.2), (19, slE eStr x16.1), (20, HV.int .i64 x16.2)], []⟩) (AS.le_of ⟨rfl, rfl, rfl, rfl, rfl, rfl, rfl, rfl, rfl, rfl, rfl, rfl, rfl, rfl, trivial⟩ trivial) ?_)))
      clear hK K
      refine AW.rgs rfl fun K hK => ?_
      refine bv rfl (v_loadF ty24 rfl (l_litA rfl (Nat.le_of_ble_eq_true rfl) rfl)) ?_
      refine mv rfl rfl ?_
      obtain ⟨x18, h19, h⟩ := bS h
      refine b_op rfl (o_call rfl rfl rfl rfl (ACallD.pure0 (w_language_Missing h19)) ?_)
      refine mv rfl rfl ?_
      refine bv rfl (v_extract rfl rfl) ?_
      refine bv rfl (v_extract rfl rfl) ?_
      refine bv rfl (v_extract rfl rfl) ?_
      refine mv rfl rfl ?_
      refine mv rfl rfl ?_
      refine mv rfl rfl ?_
      refine b_nil (hK _ (AW.to (to_le (s' := ⟨[(3, HV.int .i64 p3), (4, HV.fptr [HV.int .i64 p0.1, HV.int .i64 p0.2.1, slE eFromLabelTo p0.2.2] 0), (9, slE eStr x6.1), (10, HV.int .i64 x6.2), (11, slE eStr x8.1), (12, HV.int .i64 x8.2), (13, slE eStr x10.1), (14, HV.int .i64 x10.2), (15, slE eStr x12.1), (16, HV.int .i64 x12.2), (17, slE eStr x14.1), (18, HV.int .i64 x14.2), (19, slE eStr x16.1), (20, HV.int .i64 x16.2), (21, HV.str x18.1), (22, HV.bool x18.2.1), (23, HV.int .i64 x18.2.2)], []⟩) (AS.le_of ⟨rfl, rfl, rfl, rfl, rfl, rfl, rfl, rfl, rfl, rfl, rfl, rfl, rfl, rfl, rfl, rfl, rfl, trivial⟩ trivial) ?_)))
      clear hK K
      refine AW.rgs rfl fun K hK => ?_
      refine bv rfl (v_loadF ty24 rfl (l_litA rfl (Nat.le_of_ble_eq_true rfl) rfl)) ?_
      refine mv rfl rfl ?_
      obtain ⟨x20, h21, h⟩ := bS h
      refine b_op rfl (o_call rfl rfl rfl rfl (ACallD.pure0 (w_ref11_Missing h21)) ?_)
      refine mv rfl rfl ?_
      refine bv rfl (v_extract rfl rfl) ?_
      refine bv rfl (v_extract rfl rfl) ?_
      refine bv rfl (v_extract rfl rfl) ?_
      refine mv rfl rfl ?_
      refine mv rfl rfl ?_
      refine mv rfl rfl ?_
      refine b_nil (hK _ (AW.to (to_le (s' := ⟨[(9, slE eStr x6.1), (10, HV.int .i64 x6.2), (11, slE eStr x8.1), (12, HV.int .i64 x8.2), (13, slE eStr x10.1), (14, HV.int .i64 x10.2), (15, slE eStr x12.1), (16, HV.int .i64 x12.2), (17, slE eStr x14.1), (18, HV.int .i64 x14.2), (19, slE eStr x16.1), (20, HV.int .i64 x16.2), (21, HV.str x18.1), (22, HV.bool x18.2.1), (23, HV.int .i64 x18.2.2), (24, HV.str x20.1), (25, HV.bool x20.2.1), (26, HV.int .i64 x20.2.2)], []⟩) (AS.le_of ⟨rfl, rfl, rfl, rfl, rfl, rfl, rfl, rfl, rfl, rfl, rfl, rfl, rfl, rfl, rfl, rfl, rfl, rfl, trivial⟩ trivial) ?_)))
      clear hK K
      refine AW.seqJ h (S := Bool) (V := Unit) (fun a v => ⟨[(8, HV.bool a)], []⟩) (fun a22 w23 h => ?_) (fun k24 h => ?_)
      · refine AW.ret ?_
        have h := Option.some.inj h
        subst h
        exact ret_pure (hs := [HV.bool a22]) (q := HV.bool a22) (.inr rfl) (resT rfl rfl) rfl trivial
      · refine AW.rg rfl fun K hK => ?_
        refine mv rfl rfl ?_
        refine mv rfl rfl ?_
        obtain ⟨x25, h26, h⟩ := bS h
        refine b_op rfl (o_call rfl rfl rfl rfl (ACallD.pure0 (w_slices_Equal_Lstring_string h26)) ?_)
        refine mv rfl rfl ?_
        by_cases hg41 : x25 = true
        · have h := ifT hg41 h
          refine b_T rfl rfl rfl rfl hg41 (o_val rfl (mv_val rfl rfl).2 ?_)
          refine b_T rfl rfl rfl rfl rfl (o_val rfl (mv_val rfl rfl).2 ?_)
          refine b_T rfl rfl rfl rfl rfl (o_val rfl (v_bin rfl rfl b_eql) ?_)
          refine bv rfl (v_pickT rfl rfl rfl) ?_
          refine mv rfl rfl ?_
          by_cases hg40 : x6.2 = x8.2
          · have h := ifT hg40 h
            refine b_T rfl rfl rfl rfl (decide_eq_true hg40) (o_val rfl (mv_val rfl rfl).2 ?_)
            refine b_T rfl rfl rfl rfl rfl (o_val rfl (mv_val rfl rfl).2 ?_)
            obtain ⟨x27, h28, h⟩ := bS h
            refine b_T rfl rfl rfl rfl rfl (o_call rfl rfl rfl rfl (ACallD.pure0 (w_slices_Equal_Lstring_string h28)) ?_)
            refine bv rfl (v_pickT rfl rfl rfl) ?_
            refine mv rfl rfl ?_
            by_cases hg39 : x27 = true
            · have h := ifT hg39 h
              refine b_T rfl rfl rfl rfl hg39 (o_val rfl (mv_val rfl rfl).2 ?_)
              refine b_T rfl rfl rfl rfl rfl (o_val rfl (mv_val rfl rfl).2 ?_)
              refine b_T rfl rfl rfl rfl rfl (o_val rfl (v_bin rfl rfl b_eql) ?_)
              refine bv rfl (v_pickT rfl rfl rfl) ?_
              refine mv rfl rfl ?_
              by_cases hg38 : x10.2 = x12.2
              · have h := ifT hg38 h
                refine b_T rfl rfl rfl rfl (decide_eq_true hg38) (o_val rfl (mv_val rfl rfl).2 ?_)
                refine b_T rfl rfl rfl rfl rfl (o_val rfl (mv_val rfl rfl).2 ?_)
                obtain ⟨x29, h30, h⟩ := bS h
                refine b_T rfl rfl rfl rfl rfl (o_call rfl rfl rfl rfl (ACallD.pure0 (w_slices_Equal_Lstring_string h30)) ?_)
                refine bv rfl (v_pickT rfl rfl rfl) ?_
                refine mv rfl rfl ?_
                by_cases hg37 : x29 = true
                · have h := ifT hg37 h
                  refine b_T rfl rfl rfl rfl hg37 (o_val rfl (mv_val rfl rfl).2 ?_)
                  refine b_T rfl rfl rfl rfl rfl (o_val rfl (mv_val rfl rfl).2 ?_)
                  refine b_T rfl rfl rfl rfl rfl (o_val rfl (v_bin rfl rfl b_eql) ?_)
                  refine bv rfl (v_pickT rfl rfl rfl) ?_
                  refine mv rfl rfl ?_
                  by_cases hg36 : x14.2 = x16.2
                  · have h := ifT hg36 h
                    refine b_T rfl rfl rfl rfl (decide_eq_true hg36) (o_val rfl (mv_val rfl rfl).2 ?_)
                    refine b_T rfl rfl rfl rfl rfl (o_val rfl (mv_val rfl rfl).2 ?_)
                    refine b_T rfl rfl rfl rfl rfl (o_val rfl (v_bin rfl rfl b_seql) ?_)
                    refine bv rfl (v_pickT rfl rfl rfl) ?_
                    refine mv rfl rfl ?_
                    by_cases hg35 : x18.1 = x20.1
                    · have h := ifT hg35 h
                      refine b_T rfl rfl rfl rfl (decide_eq_true hg35) (o_val rfl (mv_val rfl rfl).2 ?_)
                      refine b_T rfl rfl rfl rfl rfl (o_val rfl (mv_val rfl rfl).2 ?_)
                      refine b_T rfl rfl rfl rfl rfl (o_val rfl (v_bin rfl rfl (b_eqB ty4)) ?_)
                      refine bv rfl (v_pickT rfl rfl rfl) ?_
                      refine mv rfl rfl ?_
                      by_cases hg34 : (x18.2.1 == x20.2.1) = true
                      · have h := ifT hg34 h
                        refine b_T rfl rfl rfl rfl hg34 (o_val rfl (mv_val rfl rfl).2 ?_)
                        refine b_T rfl rfl rfl rfl rfl (o_val rfl (mv_val rfl rfl).2 ?_)
                        refine b_T rfl rfl rfl rfl rfl (o_val rfl (v_bin rfl rfl b_eql) ?_)
                        refine bv rfl (v_pickT rfl rfl rfl) ?_
                        refine mv rfl rfl ?_
                        by_cases hg33 : x18.2.2 = x20.2.2
                        · have h := ifT hg33 h
                          obtain ⟨x31, h32, h⟩ := bS h
                          refine b_T rfl rfl rfl rfl (decide_eq_true hg33) (o_call rfl rfl rfl rfl (ACallD.pure0 (w_law11_awake h32)) ?_)
                          refine bv rfl (v_pickT rfl rfl rfl) ?_
                          refine mv rfl rfl ?_
                          refine b_nil (hK _ ?_)
                          clear hK K
                          exact to_le (s' := ⟨[(8, HV.bool x31)], []⟩) (AS.le_of ⟨rfl, trivial⟩ trivial) ⟨x31, (), h, rfl⟩
                        · have h := ifF hg33 h
                          refine b_F rfl rfl rfl rfl rfl (decide_eq_false hg33) ?_
                          refine bv rfl (v_pickF rfl rfl rfl) ?_
                          refine mv rfl rfl ?_
                          refine b_nil (hK _ ?_)
                          clear hK K
                          exact to_le (s' := ⟨[(8, HV.bool false)], []⟩) (AS.le_of ⟨rfl, trivial⟩ trivial) ⟨false, (), h, rfl⟩
                      · have h := ifF hg34 h
                        refine b_F rfl rfl rfl rfl rfl (bF hg34) ?_
                        refine b_F rfl rfl rfl rfl rfl rfl ?_
                        refine b_F rfl rfl rfl rfl rfl rfl ?_
                        refine bv rfl (v_pickF rfl rfl rfl) ?_
                        refine mv rfl rfl ?_
                        refine b_F rfl rfl rfl rfl rfl rfl ?_
                        refine bv rfl (v_pickF rfl rfl rfl) ?_
                        refine mv rfl rfl ?_
                        refine b_nil (hK _ ?_)
                        clear hK K
                        exact to_le (s' := ⟨[(8, HV.bool false)], []⟩) (AS.le_of ⟨rfl, trivial⟩ trivial) ⟨false, (), h, rfl⟩
                    · have h := ifF hg35 h
                      refine b_F rfl rfl rfl rfl rfl (decide_eq_false hg35) ?_
                      refine b_F rfl rfl rfl rfl rfl rfl ?_
                      refine b_F rfl rfl rfl rfl rfl rfl ?_
                      refine bv rfl (v_pickF rfl rfl rfl) ?_
                      refine mv rfl rfl ?_
                      refine b_F rfl rfl rfl rfl rfl rfl ?_
                      refine b_F rfl rfl rfl rfl rfl rfl ?_
                      refine b_F rfl rfl rfl rfl rfl rfl ?_
                      refine bv rfl (v_pickF rfl rfl rfl) ?_
                      refine mv rfl rfl ?_
                      refine b_F rfl rfl rfl rfl rfl rfl ?_
                      refine bv rfl (v_pickF rfl rfl rfl) ?_
                      refine mv rfl rfl ?_
                      refine b_nil (hK _ ?_)
                      clear hK K
                      exact to_le (s' := ⟨[(8, HV.bool false)], []⟩) (AS.le_of ⟨rfl, trivial⟩ trivial) ⟨false, (), h, rfl⟩
                  · have h := ifF hg36 h
                    refine b_F rfl rfl rfl rfl rfl (decide_eq_false hg36) ?_
                    refine b_F rfl rfl rfl rfl rfl rfl ?_
                    refine b_F rfl rfl rfl rfl rfl rfl ?_
                    refine bv rfl (v_pickF rfl rfl rfl) ?_
                    refine mv rfl rfl ?_
                    refine b_F rfl rfl rfl rfl rfl rfl ?_
                    refine b_F rfl rfl rfl rfl rfl rfl ?_
                    refine b_F rfl rfl rfl rfl rfl rfl ?_
                    refine bv rfl (v_pickF rfl rfl rfl) ?_
                    refine mv rfl rfl ?_
                    refine b_F rfl rfl rfl rfl rfl rfl ?_
                    refine b_F rfl rfl rfl rfl rfl rfl ?_
                    refine b_F rfl rfl rfl rfl rfl rfl ?_
                    refine bv rfl (v_pickF rfl rfl rfl) ?_
                    refine mv rfl rfl ?_
                    refine b_F rfl rfl rfl rfl rfl rfl ?_
                    refine bv rfl (v_pickF rfl rfl rfl) ?_
                    refine mv rfl rfl ?_
                    refine b_nil (hK _ ?_)
                    clear hK K
                    exact to_le (s' := ⟨[(8, HV.bool false)], []⟩) (AS.le_of ⟨rfl, trivial⟩ trivial) ⟨false, (), h, rfl⟩
                · have h := ifF hg37 h
                  refine b_F rfl rfl rfl rfl rfl (bF hg37) ?_
                  refine b_F rfl rfl rfl rfl rfl rfl ?_
                  refine b_F rfl rfl rfl rfl rfl rfl ?_
                  refine bv rfl (v_pickF rfl rfl rfl) ?_
                  refine mv rfl rfl ?_
                  refine b_F rfl rfl rfl rfl rfl rfl ?_
                  refine b_F rfl rfl rfl rfl rfl rfl ?_
                  refine b_F rfl rfl rfl rfl rfl rfl ?_
                  refine bv rfl (v_pickF rfl rfl rfl) ?_
                  refine mv rfl rfl ?_
                  refine b_F rfl rfl rfl rfl rfl rfl ?_
                  refine b_F rfl rfl rfl rfl rfl rfl ?_
                  refine b_F rfl rfl rfl rfl rfl rfl ?_
                  refine bv rfl (v_pickF rfl rfl rfl) ?_
                  refine mv rfl rfl ?_
                  refine b_F rfl rfl rfl rfl rfl rfl ?_
                  refine b_F rfl rfl rfl rfl rfl rfl ?_
                  refine b_F rfl rfl rfl rfl rfl rfl ?_
                  refine bv rfl (v_pickF rfl rfl rfl) ?_
                  refine mv rfl rfl ?_
                  refine b_F rfl rfl rfl rfl rfl rfl ?_
                  refine bv rfl (v_pickF rfl rfl rfl) ?_
                  refine mv rfl rfl ?_
                  refine b_nil (hK _ ?_)
                  clear hK K
                  exact to_le (s' := ⟨[(8, HV.bool false)], []⟩) (AS.le_of ⟨rfl, trivial⟩ trivial) ⟨false, (), h, rfl⟩
              · have h := ifF hg38 h
                refine b_F rfl rfl rfl rfl rfl (decide_eq_false hg38) ?_
                refine b_F rfl rfl rfl rfl rfl rfl ?_
                refine b_F rfl rfl rfl rfl rfl rfl ?_
                refine bv rfl (v_pickF rfl rfl rfl) ?_
                refine mv rfl rfl ?_
                refine b_F rfl rfl rfl rfl rfl rfl ?_
                refine b_F rfl rfl rfl rfl rfl rfl ?_
                refine b_F rfl rfl rfl rfl rfl rfl ?_
                refine bv rfl (v_pickF rfl rfl rfl) ?_
                refine mv rfl rfl ?_
                refine b_F rfl rfl rfl rfl rfl rfl ?_
                refine b_F rfl rfl rfl rfl rfl rfl ?_
                refine b_F rfl rfl rfl rfl rfl rfl ?_
                refine bv rfl (v_pickF rfl rfl rfl) ?_
                refine mv rfl rfl ?_
                refine b_F rfl rfl rfl rfl rfl rfl ?_
                refine b_F rfl rfl rfl rfl rfl rfl ?_
                refine b_F rfl rfl rfl rfl rfl rfl ?_
                refine bv rfl (v_pickF rfl rfl rfl) ?_
                refine mv rfl rfl ?_
                refine b_F rfl rfl rfl rfl rfl rfl ?_
                refine b_F rfl rfl rfl rfl rfl rfl ?_
                refine b_F rfl rfl rfl rfl rfl rfl ?_
                refine bv rfl (v_pickF rfl rfl rfl) ?_
                refine mv rfl rfl ?_
                refine b_F rfl rfl rfl rfl rfl rfl ?_
                refine bv rfl (v_pickF rfl rfl rfl) ?_
                refine mv rfl rfl ?_
                refine b_nil (hK _ ?_)
                clear hK K
                exact to_le (s' := ⟨[(8, HV.bool false)], []⟩) (AS.le_of ⟨rfl, trivial⟩ trivial) ⟨false, (), h, rfl⟩
            · have h := ifF hg39 h
              refine b_F rfl rfl rfl rfl rfl (bF hg39) ?_
              refine b_F rfl rfl rfl rfl rfl rfl ?_
              refine b_F rfl rfl rfl rfl rfl rfl ?_
              refine bv rfl (v_pickF rfl rfl rfl) ?_
              refine mv rfl rfl ?_
              refine b_F rfl rfl rfl rfl rfl rfl ?_
              refine b_F rfl rfl rfl rfl rfl rfl ?_
              refine b_F rfl rfl rfl rfl rfl rfl ?_
              refine bv rfl (v_pickF rfl rfl rfl) ?_
              refine mv rfl rfl ?_
              refine b_F rfl rfl rfl rfl rfl rfl ?_
              refine b_F rfl rfl rfl rfl rfl rfl ?_
              refine b_F rfl rfl rfl rfl rfl rfl ?_
              refine bv rfl (v_pickF rfl rfl rfl) ?_
              refine mv rfl rfl ?_
              refine b_F rfl rfl rfl rfl rfl rfl ?_
              refine b_F rfl rfl rfl rfl rfl rfl ?_
              refine b_F rfl rfl rfl rfl rfl rfl ?_
              refine bv rfl (v_pickF rfl rfl rfl) ?_
              refine mv rfl rfl ?_
              refine b_F rfl rfl rfl rfl rfl rfl ?_
              refine b_F rfl rfl rfl rfl rfl rfl ?_
              refine b_F rfl rfl rfl rfl rfl rfl ?_
              refine bv rfl (v_pickF rfl rfl rfl) ?_
              refine mv rfl rfl ?_
              refine b_F rfl rfl rfl rfl rfl rfl ?_
              refine b_F rfl rfl rfl rfl rfl rfl ?_
              refine b_F rfl rfl rfl rfl rfl rfl ?_
              refine bv rfl (v_pickF rfl rfl rfl) ?_
              refine mv rfl rfl ?_
              refine b_F rfl rfl rfl rfl rfl rfl ?_
              refine bv rfl (v_pickF rfl rfl rfl) ?_
              refine mv rfl rfl ?_
              refine b_nil (hK _ ?_)
              clear hK K
              exact to_le (s' := ⟨[(8, HV.bool false)], []⟩) (AS.le_of ⟨rfl, trivial⟩ trivial) ⟨false, (), h, rfl⟩
          · have h := ifF hg40 h
            refine b_F rfl rfl rfl rfl rfl (decide_eq_false hg40) ?_
            refine b_F rfl rfl rfl rfl rfl rfl ?_
            refine b_F rfl rfl rfl rfl rfl rfl ?_
            refine bv rfl (v_pickF rfl rfl rfl) ?_
            refine mv rfl rfl ?_
            refine b_F rfl rfl rfl rfl rfl rfl ?_
            refine b_F rfl rfl rfl rfl rfl rfl ?_
            refine b_F rfl rfl rfl rfl rfl rfl ?_
            refine bv rfl (v_pickF rfl rfl rfl) ?_
            refine mv rfl rfl ?_
            refine b_F rfl rfl rfl rfl rfl rfl ?_
            refine b_F rfl rfl rfl rfl rfl rfl ?_
            refine b_F rfl rfl rfl rfl rfl rfl ?_
            refine bv rfl (v_pickF rfl rfl rfl) ?_
            refine mv rfl rfl ?_
            refine b_F rfl rfl rfl rfl rfl rfl ?_
            refine b_F rfl rfl rfl rfl rfl rfl ?_
            refine b_F rfl rfl rfl rfl rfl rfl ?_
            refine bv rfl (v_pickF rfl rfl rfl) ?_
            refine mv rfl rfl ?_
            refine b_F rfl rfl rfl rfl rfl rfl ?_
            refine b_F rfl rfl rfl rfl rfl rfl ?_
            refine b_F rfl rfl rfl rfl rfl rfl ?_
            refine bv rfl (v_pickF rfl rfl rfl) ?_
            refine mv rfl rfl ?_
            refine b_F rfl rfl rfl rfl rfl rfl ?_
            refine b_F rfl rfl rfl rfl rfl rfl ?_
            refine b_F rfl rfl rfl rfl rfl rfl ?_
            refine bv rfl (v_pickF rfl rfl rfl) ?_
            refine mv rfl rfl ?_
            refine b_F rfl rfl rfl rfl rfl rfl ?_
            refine b_F rfl rfl rfl rfl rfl rfl ?_
            refine b_F rfl rfl rfl rfl rfl rfl ?_
            refine bv rfl (v_pickF rfl rfl rfl) ?_
            refine mv rfl rfl ?_
            refine b_F rfl rfl rfl rfl rfl rfl ?_
            refine bv rfl (v_pickF rfl rfl rfl) ?_
            refine mv rfl rfl ?_
            refine b_nil (hK _ ?_)
            clear hK K
            exact to_le (s' := ⟨[(8, HV.bool false)], []⟩) (AS.le_of ⟨rfl, trivial⟩ trivial) ⟨false, (), h, rfl⟩
        · have h := ifF hg41 h
          refine b_F rfl rfl rfl rfl rfl (bF hg41) ?_
          refine b_F rfl rfl rfl rfl rfl rfl ?_
          refine b_F rfl rfl rfl rfl rfl rfl ?_
          refine bv rfl (v_pickF rfl rfl rfl) ?_
          refine mv rfl rfl ?_
          refine b_F rfl rfl rfl rfl rfl rfl ?_
          refine b_F rfl rfl rfl rfl rfl rfl ?_
          refine b_F rfl rfl rfl rfl rfl rfl ?_
          refine bv rfl (v_pickF rfl rfl rfl) ?_
          refine mv rfl rfl ?_
          refine b_F rfl rfl rfl rfl rfl rfl ?_
          refine b_F rfl rfl rfl rfl rfl rfl ?_
          refine b_F rfl rfl rfl rfl rfl rfl ?_
          refine bv rfl (v_pickF rfl rfl rfl) ?_
          refine mv rfl rfl ?_
          refine b_F rfl rfl rfl rfl rfl rfl ?_
          refine b_F rfl rfl rfl rfl rfl rfl ?_
          refine b_F rfl rfl rfl rfl rfl rfl ?_
          refine bv rfl (v_pickF rfl rfl rfl) ?_
          refine mv rfl rfl ?_
          refine b_F rfl rfl rfl rfl rfl rfl ?_
          refine b_F rfl rfl rfl rfl rfl rfl ?_
          refine b_F rfl rfl rfl rfl rfl rfl ?_
          refine bv rfl (v_pickF rfl rfl rfl) ?_
          refine mv rfl rfl ?_
          refine b_F rfl rfl rfl rfl rfl rfl ?_
          refine b_F rfl rfl rfl rfl rfl rfl ?_
          refine b_F rfl rfl rfl rfl rfl rfl ?_
          refine bv rfl (v_pickF rfl rfl rfl) ?_
          refine mv rfl rfl ?_
          refine b_F rfl rfl rfl rfl rfl rfl ?_
          refine b_F rfl rfl rfl rfl rfl rfl ?_
          refine b_F rfl rfl rfl rfl rfl rfl ?_
          refine bv rfl (v_pickF rfl rfl rfl) ?_
          refine mv rfl rfl ?_
          refine b_F rfl rfl rfl rfl rfl rfl ?_
          refine b_F rfl rfl rfl rfl rfl rfl ?_
          refine b_F rfl rfl rfl rfl rfl rfl ?_
          refine bv rfl (v_pickF rfl rfl rfl) ?_
          refine mv rfl rfl ?_
          refine b_F rfl rfl rfl rfl rfl rfl ?_
          refine bv rfl (v_pickF rfl rfl rfl) ?_
          refine mv rfl rfl ?_
          refine b_nil (hK _ ?_)
          clear hK K
          exact to_le (s' := ⟨[(8, HV.bool false)], []⟩) (AS.le_of ⟨rfl, trivial⟩ trivial) ⟨false, (), h, rfl⟩
  · refine AW.rg rfl fun K hK => ?_
    refine bv rfl (v_loadF ty24 rfl (l_litA rfl (Nat.le_of_ble_eq_true rfl) rfl)) ?_
    obtain ⟨x42, h43, h⟩ := bS h
    refine b_op rfl (o_call rfl rfl rfl rfl (ACallD.weakA (.cons (.refl _) (.cons (.nil _) .nil)) (ACallD.pure0 (w_law11_great h43))) ?_)
    refine mv rfl rfl ?_
    by_cases hg46 : x42 = true
    · have h := ifT hg46 h
      refine b_F rfl rfl rfl rfl rfl hg46 ?_
      refine b_F rfl rfl rfl rfl rfl rfl ?_
      refine b_F rfl rfl rfl rfl rfl rfl ?_
      refine bv rfl (v_pickT rfl rfl rfl) ?_
      refine b_nil (hK _ ?_)
      clear hK K
      exact to_le (s' := ⟨[(1, HV.int .i64 p1), (2, HV.int .i64 p2), (3, HV.int .i64 p3), (4, HV.fptr [HV.int .i64 p0.1, HV.int .i64 p0.2.1, slE eFromLabelTo p0.2.2] 0), (33, HV.bool true)], []⟩) (AS.le_of ⟨rfl, rfl, rfl, rfl, rfl, trivial⟩ trivial) ⟨true, (), h, rfl⟩
    · have h := ifF hg46 h
      refine b_T rfl rfl rfl rfl (bF hg46) (o_val rfl (v_loadF ty24 rfl (l_litA rfl (Nat.le_of_ble_eq_true rfl) rfl)) ?_)
      refine b_T rfl rfl rfl rfl rfl (o_val rfl (mv_val rfl rfl).2 ?_)
      obtain ⟨x44, h45, h⟩ := bS h
      refine b_T rfl rfl rfl rfl rfl (o_call rfl rfl rfl rfl (ACallD.pure0 (w_ref11_Many h45)) ?_)
      refine bv rfl (v_pickF rfl rfl rfl) ?_
      refine b_nil (hK _ ?_)
      clear hK K
      exact to_le (s' := ⟨[(1, HV.int .i64 p1), (2, HV.int .i64 p2), (3, HV.int .i64 p3), (4, HV.fptr [HV.int .i64 p0.1, HV.int .i64 p0.2.1, slE eFromLabelTo p0.2.2] 0), (33, HV.bool x44)], []⟩) (AS.le_of ⟨rfl, rfl, rfl, rfl, rfl, trivial⟩ trivial) ⟨x44, (), h, rfl⟩

end Go.AW



namespace Go.AW
open Go Go.ChangeShapes Go.WideShapes Go.ChangeAt Go.RowKit

/-- of what was there nothing turns -/
def Kept (W W' : World) : Prop := W'.os = W.os ∧ W'.output = W.output ∧ W.heap.size ≤ W'.heap.size ∧ ∀ b : Nat, b < W.heap.size → W'.heap[b]? = W.heap[b]?

theorem Kept.frame {W W' : World} (h : Kept W W') (may : MemPlace → Prop) : W.keptBut W' may := by
  refine ⟨h.1, h.2.1, fun i hi => ?_⟩
  rw [h.2.2.2 i hi]
  cases W.heap[i]? with
  | none => rfl
  | some o => cases o with
    | cells c t fr => exact ⟨rfl, rfl, rfl, fun _ _ => rfl⟩
    | map es clock => exact .inr ⟨rfl, rfl⟩
    | _ => rfl

theorem Kept.frozen {W W' : World} (h : Kept W W') (a : Addr) (ha : a.block < W.heap.size) : W'.frozen? a = W.frozen? a := by
  simp only [World.frozen?, h.2.2.2 _ ha]

def Mu.zero : Mu := { nx := 0, loc := fun _ => none, held := fun _ => False }

theorem SR.zero (W : World) : SR W Mu.zero [] :=
  ⟨(fun _ _ _ h => by cases h), (fun _ _ _ h => by cases h), (fun _ _ h => by cases h), (fun _ _ _ _ _ h => by cases h), (fun _ h => h.elim)⟩

theorem calls_of_pure {P : Program} {f : FuncId} {args : List HV} {vs : List Value} {W : World} (hp : Pure P f args (· = .bool true)) (hr : RepL W Mu.zero args vs) :
    Calls P f vs.toArray W fun e W' => e = .returned (.bool true) ∧ Kept W W' := by
  refine (hp.2 Mu.zero W vs (SR.zero W) hr).mono ?_
  rintro e W' ⟨v, r, H', μ', rfl, ⟨rfl, _, _⟩, hs, hv, E⟩
  have hv' : v = .bool true := hv
  subst hv'
  exact ⟨rfl, E.os, E.output, E.size, fun b hb => E.keep b hb fun ⟨_, _, hl⟩ => by cases hl⟩

theorem post_of_kept {H : Type} {enc : TypeId × Value → H} {P : Program} {f : Func} {s : ChangeSpec} {apart fresh handsOn again : Bool} {W W' : World} {args : Array Value} {v : Value} {ds gs : List (DataW H)} {before pa pv : List MemPlace}
    (hW : DataW.Whole enc P f.params.toList s.vars apart W args.toList ds gs before)
    (hres : ∀ (b : Nat) (sp : Nat → Bool) (hd : Bool), DataW.TrodAll enc P W' b sp hd f.resultTypes.toList (v.resultList f.resultTypes.size) (s.fn H (ds ++ gs)).results [])
    (hargs : ∀ sp : Nat → Bool, (∀ p ∈ before, sp p.block = true) → DataW.TrodAll enc P W' 0 sp true f.params.toList args.toList (s.fn H (ds ++ gs)).args pa)
    (hvars : ∀ sp : Nat → Bool, (∀ p ∈ before, sp p.block = true) → DataW.TrodVars enc P W' sp s.vars (s.fn H (ds ++ gs)).vars pv)
    (hps : before = pa ++ pv) (hk : Kept W W')
    (hok : ∀ (j : Nat) (t : TypeId) (r : Value), f.resultTypes[j]? = some t → (v.resultList f.resultTypes.size)[j]? = some r → Value.okWide P W' .any 0 t r) :
    s.post enc P f apart fresh handsOn again W args v W' := by
  have hold : ∀ p ∈ before, (fun b => decide (b < W.heap.size)) p.block = true := fun p hp => by simpa using hW.lt p hp
  refine ⟨ds, gs, before, [], pa, pv, hW, hres _ _ _, hargs _ hold, hvars _ hold, World.keptBut_mono (fun p hp => ⟨hp, ?_⟩) (hk.frame (· ∈ before)), fun _ => ?_⟩
  · rw [hps, List.mem_append] at hp
    exact Or.inr hp
  · have hlt := hW.lt
    obtain ⟨_, _, _, _, _, hz, hn⟩ := hW
    refine ⟨hok, _, _, ([] ++ pa) ++ pv, ⟨[] ++ pa, pv, trodAll_append (hargs _ (fun _ _ => rfl)) (hres _ _ _), hvars _ (fun _ _ => rfl), rfl, ?_, ?_⟩, ?_⟩
    · intro b off hp
      have hp' : MemPlace.cell b off ∈ before := by rw [hps]; simpa using hp
      rw [hk.frozen _ (hlt _ hp')]
      exact hz b off hp'
    · intro ha
      have := hn ha
      rw [hps] at this
      simpa using this
    · intro p hp _
      rw [hps]
      simpa using hp
end Go.AW

/- Arguments: from what is read of them to what the layer says of them; and the law's end for any arguments. -/
namespace Go.AW
open Go Go.ChangeShapes Go.WideShapes Go.ChangeAt Go.RowKit

theorem rowAt_le {p : Program} {fits : TypeId → Bool} {d : Nat} {e : TypeId} {count off n : Nat} (h : rowAt p fits d e count off n = true) : off ≤ count * p.cellsOf e := by
  cases d with
  | zero => simp [rowAt] at h
  | succ d =>
    unfold rowAt at h
    simp only at h
    split at h
    · cases h
    · rename_i hs
      have hs' : 0 < p.cellsOf e := Nat.pos_of_ne_zero hs
      have hd := Nat.div_add_mod off (p.cellsOf e)
      rw [Nat.mul_comm] at hd
      simp only [Bool.or_eq_true, Bool.and_eq_true, beq_iff_eq, decide_eq_true_eq] at h
      rcases h with ⟨⟨h0, h1⟩, _⟩ | ⟨h1, _⟩
      · rw [← hd, h0, Nat.add_zero]
        exact Nat.mul_le_mul_right _ (by omega)
      · have hm := Nat.mod_lt off hs'
        have : (off / p.cellsOf e + 1) * p.cellsOf e ≤ count * p.cellsOf e := Nat.mul_le_mul_right _ h1
        rw [Nat.add_mul] at this
        omega

theorem liesAt_le {p : Program} {d : Nat} {e u : TypeId} {count off n : Nat} (h : liesAt p d e count off u n = true) : off ≤ count * p.cellsOf e := by
  induction d generalizing u n with
  | zero => simp [liesAt] at h
  | succ d ih =>
    unfold liesAt at h
    rw [Bool.or_eq_true] at h
    rcases h with h | h
    · exact rowAt_le h
    · split at h
      · exact ih h
      · cases h

/-- where an argument's slice lies -/
theorem has_seg {P : Program} {W : World} {r : Reach} {base : Nat} {a : Addr} {e : TypeId} {cap : Nat} (h : W.has P r base a e cap) {vs : List Value} (hc : ∀ i (hi : i < vs.length), W.cell? (a.add i) = some vs[i]) :
    ∃ b off, a = ⟨b, off, none⟩ ∧ Seg W b off vs := by
  obtain ⟨_, hsp, row, cells, hsh, hl⟩ := h
  obtain ⟨b, off, spot⟩ := a
  dsimp only at hsp hsh hl
  subst hsp
  refine ⟨b, off, rfl, ?_⟩
  unfold World.shape? at hsh
  split at hsh
  · rename_i cur e' fr hb
    simp only [Option.some.injEq, Prod.mk.injEq] at hsh
    obtain ⟨rfl, rfl⟩ := hsh
    have hoff : off ≤ cur.size := Nat.le_trans (liesAt_le hl) (Nat.div_mul_le_self _ _)
    have hget : ∀ i (hi : i < vs.length), cur.toList[off + i]? = some vs[i] := fun i hi => by
      have := hc i hi
      rw [add_plain] at this
      unfold World.cell? at this
      rw [hb] at this
      simpa using this
    refine ⟨cur, e', fr, cur.toList.take off, cur.toList.drop (off + vs.length), hb, ?_, by simp [hoff]⟩
    have hvs : vs = (cur.toList.drop off).take vs.length := by
      apply List.ext_getElem?
      intro i
      rcases Nat.lt_or_ge i vs.length with hi | hi
      · rw [List.getElem?_take_of_lt hi, List.getElem?_drop, hget i hi, List.getElem?_eq_getElem hi]
      · rw [List.getElem?_eq_none hi, List.getElem?_eq_none (by simp; omega)]
    have : vs ++ cur.toList.drop (off + vs.length) = cur.toList.drop off := by
      conv => lhs; arg 1; rw [hvs]
      rw [← List.drop_drop]
      exact List.take_append_drop _ _
    rw [List.append_assoc, this, List.take_append_drop]
  · cases hsh

theorem nown (b : Nat) : ¬ Mu.zero.owns b := fun h => h.elim (fun ⟨_, _, h⟩ => by cases h) id

/-- a number -/
theorem open_num {H : Type} {enc : TypeId × Value → H} {P : Program} {W : World} {base : Nat} {t : TypeId} {k : IntKind} {v : Value} {d : DataW H} {ps : List MemPlace} (ht : P.underlying t = some (.int k))
    (hval : Value.okWide P W .any base t v) (h : DataW.Trod enc P W 0 (fun _ => true) true t v d ps) : ∃ n : Int, (Lit.int k n).wf = true ∧ Rep W Mu.zero (.int k n) v := by
  obtain ⟨n, rfl, _, _, hw⟩ := open_int ht hval h
  exact ⟨n, hw, rfl, hw⟩

/-- the arguments read again -/
theorem trodAll_stays {H : Type} {enc : TypeId × Value → H} {P : Program} (hl : laidOutB P = true) {W W' : World} {sp : Nat → Bool} : ∀ {ts : List TypeId} {vs : List Value} {ds : List (DataW H)} {ps : List MemPlace},
    (ts.all fun t => P.readableRec t && decide (t < P.types.size)) = true → DataW.TrodAll enc P W 0 (fun _ => true) true ts vs ds ps → (∀ p ∈ ps, W.sameAt W' p) → (∀ p ∈ ps, sp p.block = true) → DataW.TrodAll enc P W' 0 sp true ts vs ds ps
  | [], vs, ds, ps, _, h, _, _ => by
    obtain ⟨rfl, rfl, rfl⟩ := trodAll_nil h
    exact trodAll_mk0
  | t :: ts, vs, ds, ps, ht, h, h1, h2 => by
    obtain ⟨v, vs', d, ds', p, q, rfl, rfl, rfl, h3, h4⟩ := trodAll_cons h
    simp only [List.all_cons, Bool.and_eq_true, decide_eq_true_eq] at ht
    exact trodAll_cons_mk (WideElems.Trod_stays hl ht.1.1 ht.1.2 h3 (fun x hx => h1 x (List.mem_append_left _ hx)) (fun x hx => h2 x (List.mem_append_left _ hx)))
      (trodAll_stays hl ht.2 h4 (fun x hx => h1 x (List.mem_append_right _ hx)) (fun x hx => h2 x (List.mem_append_right _ hx)))

theorem Kept.same {W W' : World} (h : Kept W W') (p : MemPlace) (hp : p.block < W.heap.size) : W.sameAt W' p := by
  cases p with
  | cell b off =>
    show W'.cell? ⟨b, off, none⟩ = W.cell? ⟨b, off, none⟩
    unfold World.cell?
    rw [h.2.2.2 b hp]
  | map b => exact h.2.2.2 b hp

/-- A LAW'S END: true, and the arguments read as they did. -/
theorem post_of_true {H : Type} {enc : TypeId × Value → H} {P : Program} {f : Func} {s : ChangeSpec} {apart fresh handsOn again : Bool} {W W' : World} {args : Array Value} {ds gs : List (DataW H)} {before : List MemPlace} {t : TypeId}
    (hl : laidOutB P = true) (hps : (f.params.toList.all fun t => P.readableRec t && decide (t < P.types.size)) = true) (hres : f.resultTypes = #[t]) (ht : P.underlying t = some .bool) (hv : s.vars = [])
    (hW : DataW.Whole enc P f.params.toList s.vars apart W args.toList ds gs before) (hk : Kept W W')
    (h1 : (s.fn H (ds ++ gs)).results = [.lit (.bool true)]) (h2 : (s.fn H (ds ++ gs)).args = ds) (h3 : (s.fn H (ds ++ gs)).vars = []) :
    s.post enc P f apart fresh handsOn again W args (.bool true) W' := by
  have hlt := hW.lt
  have hW' := hW
  obtain ⟨p, q, hA, hV, rfl, _, _⟩ := hW
  rw [hv] at hV
  obtain ⟨rfl, rfl⟩ := trodVars_none hV
  refine post_of_kept (pa := p) (pv := []) hW' (fun _ _ _ => ?_) (fun sp hsp => ?_) (fun _ _ => ?_) (by simp) hk (ok_one hres rfl (okWide_bool_mk ht _))
  · rw [hres, h1]
    exact trodAll_cons_mk (shut_bool ht _) trodAll_mk0
  · rw [h2]
    exact trodAll_stays hl hps hA (fun x hx => hk.same x (hlt x (by simpa using hx))) (fun x hx => hsp x (by simpa using hx))
  · rw [h3, hv]
    rfl
end Go.AW

/- Arguments that are graphs: what is read of them, and what the layer says of them. -/
namespace Go.AW
open Go Go.ChangeShapes Go.WideShapes Go.ChangeAt Go.RowKit

section
variable {H : Type} {enc : TypeId × Value → H} {P : Program} {W : World} {base : Nat}

theorem repL_app {μ : Mu} : ∀ {hs ks : List HV} {vs us : List Value}, RepL W μ hs vs → RepL W μ ks us → RepL W μ (hs ++ ks) (vs ++ us)
  | [], _, _, _, h, h' => by cases h; exact h'
  | _ :: _, _, _, _, ⟨x, xs, rfl, h1, h2⟩, h' => ⟨x, _, rfl, h1, repL_app h2 h'⟩

theorem add_adds (a : Addr) (i j : Nat) : (a.add i).add j = a.add (i + j) := by
  unfold Addr.add
  repeat' split
  all_goals simp_all [Nat.add_assoc]

theorem open_rows {α : Type} (c : EncL α) {fuel : Nat} {t e : TypeId} {cs : List Value} {x : DataW H × List MemPlace} (ht : P.underlying t = some (.slice e)) (hk : P.cellsOf e = c.k) (hone : ∀ x, ones (c.C x))
    (hel : ∀ n cs y, DataW.trod enc P W 0 (fun _ => true) true n e cs = some y → ∃ x : α, RepL W Mu.zero (c.C x) cs)
    (hhas : ∀ a len cap, cs = [.slice (some a) len cap] → W.has P .any base a e cap) (h : DataW.trod enc P W 0 (fun _ => true) true fuel t cs = some x) : ∃ l : List α, RepL W Mu.zero [slE c l] cs := by
  rcases DataW.trod_slice ht h with ⟨rfl, _⟩ | ⟨a, len, cap, elems, rest, n, _, rfl, _, _, hl, hm, hlen, hel', _, _⟩
  · refine ⟨[], _, _, rfl, ?_, rfl⟩
    show _ ∧ _
    exact ⟨(by rw [c.nil]; exact fun _ h => nomatch h), (by rw [c.nil]; simp), Nat.zero_le _, .inl ⟨rfl, rfl⟩⟩
  · have each : ∀ i, i < len → ∃ cs' x, W.cells? 0 (a.add (i * c.k)) c.k = some cs' ∧ RepL W Mu.zero (c.C x) cs' := fun i hi => by
      have h1 := hel' i hi
      rw [List.getElem?_eq_getElem (by omega), Option.bind_eq_some_iff, hk] at h1
      obtain ⟨cs', h2, h3⟩ := h1
      obtain ⟨x, hx⟩ := hel _ _ _ h3
      exact ⟨cs', x, h2, hx⟩
    have build : ∀ m, m ≤ len → ∃ (l : List α) (vs : List Value), l.length = m ∧ vs.length = m * c.k ∧ RepL W Mu.zero (c.E l) vs ∧ ∀ i (hi : i < vs.length), W.cell? (a.add i) = some vs[i] := by
      intro m
      induction m with
      | zero => exact fun _ => ⟨[], [], rfl, by simp, by rw [c.nil]; rfl, fun i hi => by simp at hi⟩
      | succ m ih =>
        intro hm
        obtain ⟨l, vs, h1, h2, h3, h4⟩ := ih (by omega)
        obtain ⟨cs', x, h5, h6⟩ := each m (by omega)
        obtain ⟨_, h7, h8⟩ := World.cells?_some h5
        refine ⟨l ++ [x], vs ++ cs', by simp [h1], by rw [List.length_append, h2, h7, Nat.succ_mul], by rw [c.append, c.one]; exact repL_app h3 h6, fun i hi => ?_⟩
        rcases Nat.lt_or_ge i vs.length with hi' | hi'
        · rw [List.getElem_append_left hi']; exact h4 i hi'
        · rw [List.getElem_append_right hi']
          rw [List.length_append] at hi
          have := h8 (i - vs.length) (by omega)
          rw [add_adds, h2, show m * c.k + (i - m * c.k) = i by omega] at this
          rw [this, List.getElem?_eq_getElem (by omega)]
          simp only [h2]
    obtain ⟨l, vs, h1, h2, h3, h4⟩ := build len (Nat.le_refl _)
    obtain ⟨b, off, rfl, hseg⟩ := has_seg (hhas _ _ _ rfl) h4
    refine ⟨l, _, _, rfl, ?_, rfl⟩
    show _ ∧ _
    refine ⟨fun d hd => ?_, c.len l, by omega, .inr ⟨b, off, cap, vs, by rw [h1], by omega, nown b, hseg, h3⟩⟩
    rw [c.hE] at hd
    obtain ⟨x, _, hdx⟩ := List.mem_flatMap.1 hd
    exact hone x d hdx

theorem open3 {t : TypeId} {f0 f1 f2 : Field} {fuel : Nat} {cs : List Value} {x : DataW H × List MemPlace} (ht : P.underlying t = some (.struct #[f0, f1, f2])) (o0 : f0.offset = 0) (o1 : f1.offset = 1) (o2 : f2.offset = 2) (c : P.cellsOf t = 3)
    (c0 : P.cellsOf f0.type = 1) (c1 : P.cellsOf f1.type = 1) (c2 : P.cellsOf f2.type = 1) (h : DataW.trod enc P W 0 (fun _ => true) true fuel t cs = some x) :
    ∃ v0 v1 v2 y0 y1 y2 n, cs = [v0, v1, v2] ∧ DataW.trod enc P W 0 (fun _ => true) true n f0.type [v0] = some y0 ∧ DataW.trod enc P W 0 (fun _ => true) true n f1.type [v1] = some y1 ∧ DataW.trod enc P W 0 (fun _ => true) true n f2.type [v2] = some y2 := by
  obtain ⟨xs, n, _, rfl, hl, hlen, hf⟩ := DataW.trod_struct ht h
  rw [c] at hl
  match cs, hl with
  | [v0, v1, v2], _ =>
    match xs, hlen with
    | [y0, y1, y2], _ =>
      refine ⟨v0, v1, v2, y0, y1, y2, n, rfl, ?_, ?_, ?_⟩
      · have := hf 0 f0 rfl; rw [o0, c0] at this; exact this
      · have := hf 1 f1 rfl; rw [o1, c1] at this; exact this
      · have := hf 2 f2 rfl; rw [o2, c2] at this; exact this

theorem rep_i64 {n : Int} {ti : TypeId} {m : Nat} {v : Value} {y : DataW H × List MemPlace} (hti : P.underlying ti = some (.int .i64)) (h : DataW.trod enc P W 0 (fun _ => true) true m ti [v] = some y) : ∃ n : Int, Rep W Mu.zero (.int .i64 n) v := by
  obtain ⟨n, hv, _, hw⟩ := DataW.trod_int hti h
  cases hv
  exact ⟨n, rfl, hw⟩

/-- a graph -/
theorem open_graph {t ti ts te : TypeId} {f0 f1 f2 e0 e1 e2 : Field} {v : Value} {d : DataW H} {ps : List MemPlace} (ht : P.underlying t = some (.struct #[f0, f1, f2])) (o : f0.offset = 0 ∧ f1.offset = 1 ∧ f2.offset = 2) (y : f0.type = ti ∧ f1.type = ti ∧ f2.type = ts)
    (c : P.cellsOf t = 3) (ci : P.cellsOf ti = 1) (cs : P.cellsOf ts = 1) (ct : P.cellTypes P.depth t = some [ti, ti, ts]) (hti : P.underlying ti = some (.int .i64)) (hts : P.underlying ts = some (.slice te))
    (hte : P.underlying te = some (.struct #[e0, e1, e2])) (oe : e0.offset = 0 ∧ e1.offset = 1 ∧ e2.offset = 2) (ye : e0.type = ti ∧ e1.type = ti ∧ e2.type = ti) (ce : P.cellsOf te = 3)
    (hval : Value.okWide P W .any base t v) (h : DataW.Trod enc P W 0 (fun _ => true) true t v d ps) : ∃ g : TLabelsStatesEdges, Rep W Mu.zero (.agg [.int .i64 g.1, .int .i64 g.2.1, slE eFromLabelTo g.2.2]) v := by
  obtain ⟨y0, y1, y2⟩ := y
  obtain ⟨z0, z1, z2⟩ := ye
  simp only [Value.okWide, ht] at hval
  obtain ⟨arr, rfl, _, hrow⟩ := hval
  obtain ⟨fuel, hf⟩ := h
  obtain ⟨v0, v1, v2, a0, a1, a2, n, hcs, h0, h1, h2⟩ := open3 ht o.1 o.2.1 o.2.2 c (by rw [y0]; exact ci) (by rw [y1]; exact ci) (by rw [y2]; exact cs) hf
  have harr : arr = #[v0, v1, v2] := by
    have : arr.toList = [v0, v1, v2] := hcs
    cases arr
    simp_all
  subst harr
  rw [y0] at h0
  rw [y1] at h1
  rw [y2] at h2
  obtain ⟨l, r0⟩ := rep_i64 (n := 0) hti h0
  obtain ⟨s, r1⟩ := rep_i64 (n := 0) hti h1
  obtain ⟨es, _, _, r2, r2', r2''⟩ := open_rows (base := base) eFromLabelTo hts ce (fun x d hd => by
      have hd : d ∈ [HV.int .i64 x.1, HV.int .i64 x.2.1, HV.int .i64 x.2.2] := hd
      simp only [List.mem_cons, List.not_mem_nil, or_false] at hd
      rcases hd with rfl | rfl | rfl <;> rfl) (fun m cs' y hy => by
      obtain ⟨w0, w1, w2, b0, b1, b2, n', rfl, k0, k1, k2⟩ := open3 hte oe.1 oe.2.1 oe.2.2 ce (by rw [z0]; exact ci) (by rw [z1]; exact ci) (by rw [z2]; exact ci) hy
      rw [z0] at k0
      rw [z1] at k1
      rw [z2] at k2
      obtain ⟨p0, q0⟩ := rep_i64 (n := 0) hti k0
      obtain ⟨p1, q1⟩ := rep_i64 (n := 0) hti k1
      obtain ⟨p2, q2⟩ := rep_i64 (n := 0) hti k2
      exact ⟨(p0, p1, p2), _, _, rfl, q0, _, _, rfl, q1, _, _, rfl, q2, rfl⟩) (fun a len cap e => by
      cases e
      obtain ⟨tys, ht1, _, hcell⟩ := hrow
      rw [ct] at ht1
      cases ht1
      obtain ⟨u, hu, hok⟩ := hcell 2 (.slice (some a) len cap) rfl
      cases hu
      simp only [Cell.okWide, hts, Cell.ok] at hok
      exact hok.2.2) h2
  cases r2
  refine ⟨(l, s, es), ?_⟩
  show _ ∧ _
  refine ⟨fun d hd => ?_, _, rfl, _, _, rfl, r0, _, _, rfl, r1, _, _, rfl, r2', rfl⟩
  simp only [List.mem_cons, List.not_mem_nil, or_false] at hd
  rcases hd with rfl | rfl | rfl <;> rfl
end
end Go.AW

/- Arguments that are lists of numbers. -/
namespace Go.AW
open Go Go.ChangeShapes Go.WideShapes Go.ChangeAt Go.RowKit
section
variable {H : Type} {enc : TypeId × Value → H} {P : Program} {W : World} {base : Nat}
end
end Go.AW

namespace Go.Proofs.YtccnafddjjamoaaGreat
open Go Go.AW Go.ChangeShapes Go.WideShapes Go.ChangeAt Go.RowKit Go.ChangeMaps
set_option linter.unusedVariables false

theorem ownM : ownKnob Tryz.prog.godebug = none := by kernel_rfl
theorem laidB : laidOutB Tryz.prog = true := by kernel_rfl

theorem wLaw (a0 : TLabelsStatesEdges) (a1 : Int) (a2 : Int) (a3 : Int) : Pure Tryz.prog 3 [HV.agg [HV.int .i64 a0.1, HV.int .i64 a0.2.1, slE eFromLabelTo a0.2.2], .int .i64 a1, .int .i64 a2, .int .i64 a3] (· = .bool true) := w_law11_LanguageLists (law_lists a0 a1 a2 a3)

set_option maxRecDepth 100000 in
theorem liftedL (os : Os) (started : os.Started) (H : Type) (enc : TypeId × Value → H) :
    ReturnsInHanded {} Tryz.checked os 3 .any (Rows.languageListsSpec.pre6 enc Tryz.prog Tryz.f3 Rows.languageListsRow.domain false) (Rows.languageListsSpec.post enc Tryz.prog Tryz.f3 false true false false) := by
  refine returnsInHanded_of_change (C := Tryz.checked) ownM started (by kernel_rfl) Tryz.func3
    (ChangeSpec.witness6 (enc := enc) (C := Tryz.checked) false ⟨#[], #[.agg #[.int .i64 0, .int .i64 0, .slice none 0 0], .int .i64 0, .int .i64 0, .int .i64 0], []⟩ 8 (by kernel_rfl) (by kernel_rfl) (by kernel_rfl) (by kernel_rfl)) ?_
  intro W base args ds gs before hval0 hW hcnd _
  have hval : ∀ (j : Nat) t v, Tryz.f3.params[j]? = some t → args[j]? = some v → Value.okWide Tryz.prog W .any base t v := hval0
  have hW' := hW
  obtain ⟨p, q, hA0, hV, rfl, hfz, hnd⟩ := hW
  have hA : DataW.TrodAll enc Tryz.prog W 0 (fun _ => true) true Tryz.f3.params.toList args.toList ds p := hA0
  rw [Tryz.params3] at hA hval
  obtain ⟨v0, vs0, d0, ds0, p0, q0, hargs, rfl, rfl, h0, r0⟩ := trodAll_cons hA
  obtain ⟨v1, vs1, d1, ds1, p1, q1, rfl, rfl, rfl, h1, r1⟩ := trodAll_cons r0
  obtain ⟨v2, vs2, d2, ds2, p2, q2, rfl, rfl, rfl, h2, r2⟩ := trodAll_cons r1
  obtain ⟨v3, vs3, d3, ds3, p3, q3, rfl, rfl, rfl, h3, r3⟩ := trodAll_cons r2
  obtain ⟨rfl, rfl, rfl⟩ := trodAll_nil r3
  obtain rfl : args = #[v0, v1, v2, v3] := by cases args; simp_all
  obtain ⟨rfl, rfl⟩ := trodVars_none hV
  obtain ⟨a0, hr0⟩ := open_graph Tryz.underlying24 ⟨rfl, rfl, rfl⟩ ⟨rfl, rfl, rfl⟩ (by kernel_rfl) (by kernel_rfl) (by kernel_rfl) (by kernel_rfl) Tryz.underlying3 Tryz.underlying22 Tryz.underlying70 ⟨rfl, rfl, rfl⟩ ⟨rfl, rfl, rfl⟩ (by kernel_rfl) (hval 0 24 v0 rfl rfl) h0
  obtain ⟨a1, _, hr1⟩ := open_num Tryz.underlying3 (hval 1 3 v1 rfl rfl) h1
  obtain ⟨a2, _, hr2⟩ := open_num Tryz.underlying3 (hval 2 3 v2 rfl rfl) h2
  obtain ⟨a3, _, hr3⟩ := open_num Tryz.underlying3 (hval 3 3 v3 rfl rfl) h3
  refine (calls_of_pure (vs := [v0, v1, v2, v3]) (wLaw a0 a1 a2 a3) ⟨_, _, rfl, hr0, _, _, rfl, hr1, _, _, rfl, hr2, _, _, rfl, hr3, rfl⟩).mono fun e W' ⟨he, hk⟩ => ?_
  subst he
  exact ⟨_, rfl, post_of_true laidB (by kernel_rfl) rfl Tryz.underlying4 rfl hW' hk rfl rfl rfl⟩

theorem languageListsProved : Rows.LanguageListsSaid :=
  OpenClaim.holds_of_wide 3 Tryz.f3 rfl rfl rfl rfl rfl rfl rfl ⟨rfl, rfl, rfl, rfl, rfl⟩ rfl rfl rfl rfl rfl (by kernel_rfl) Tryz.func3 (by kernel_rfl)
    (of_decide_eq_true (by kernel_rfl)) (by unfold Func.isWrapper; first | (rw [if_pos (by decide +kernel)]; kernel_rfl) | (rw [if_neg (by decide +kernel)]; exact ⟨rfl, rfl⟩))
    (fun os started H enc _ => liftedL os started H enc)
#print axioms languageListsProved
end Go.Proofs.YtccnafddjjamoaaGreat

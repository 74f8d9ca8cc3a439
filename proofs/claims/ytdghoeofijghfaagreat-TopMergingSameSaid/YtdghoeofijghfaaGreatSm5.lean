import Derived.Test.YtdghoeofijghfaaGreatSm4
import Derived.Laws.Cover1
import Derived.Lib.Bytealg
import Derived.Lib.Strings
import Derived.LoopN
import Derived.WalkKit
namespace Go.AW
open Go Go.Proofs
set_option maxHeartbeats 1600000
set_option maxRecDepth 100000
set_option linter.unusedVariables false
abbrev W35 : HV := slE eStr ([[48], [48, 48, 49]] : List (List UInt8))
abbrev Q35_0 : List ((List UInt8 × List UInt8) × HV) := [(([], [48, 49]), hI 9223372036854775807)]
abbrev Q35_1 : List ((List UInt8 × List UInt8) × HV) := [(([], [49]), .v (.slice none 0 0))]
abbrev Q35_2 : List ((List UInt8 × List UInt8) × HV) := [(([], [49]), slE eFirstSecond ([([], [48, 49])] : List TFirstSecond))]
abbrev Q35_3 : List ((List UInt8 × List UInt8) × HV) := [(([], [48, 49]), hI 1)]
abbrev Q35_4 : List ((List UInt8 × List UInt8) × HV) := [(([], [48, 49]), hI 9223372036854775807), (([], [49]), hI 9223372036854775807)]
abbrev Q35_5 : List ((List UInt8 × List UInt8) × HV) := [(([], [49]), slE eFirstSecond ([([], [48, 49])] : List TFirstSecond)), (([48, 49], [49]), .v (.slice none 0 0))]
abbrev Q35_6 : List ((List UInt8 × List UInt8) × HV) := [(([], [49]), slE eFirstSecond ([([], [48, 49])] : List TFirstSecond)), (([48, 49], [49]), slE eFirstSecond ([([], [48, 49])] : List TFirstSecond))]
abbrev Q35_7 : List ((List UInt8 × List UInt8) × HV) := [(([], [48, 49]), hI 2)]
abbrev Q35_8 : List ((List UInt8 × List UInt8) × HV) := [(([], [48, 49]), hI 9223372036854775807), (([], [49]), hI 9223372036854775807), (([48, 49], [49]), hI 9223372036854775807)]
abbrev Q35_9 : List ((List UInt8 × List UInt8) × HV) := [(([], [48, 49]), hI 9223372036854775807), (([], [49]), hI 0), (([48, 49], [49]), hI 9223372036854775807)]
abbrev Q35_10 : List ((List UInt8 × List UInt8) × HV) := [(([], [48, 49]), hI 9223372036854775807), (([], [49]), hI 0), (([48, 49], [49]), hI 0)]
abbrev Q35_11 : List ((List UInt8 × List UInt8) × HV) := [(([], [48, 49]), hI 0)]
abbrev Q35_12 : List ((List UInt8 × List UInt8) × HV) := [(([], [48, 49]), hI 1), (([], [49]), hI 0), (([48, 49], [49]), hI 0)]
abbrev Q35_13 : List ((List UInt8 × List UInt8) × HV) := [(([], [48, 49]), hI 9223372036854775807), (([], [49]), hI 9223372036854775807), (([48, 49], [49]), hI 0)]
abbrev R35_0 := ([([], [48, 49])] : List TFirstSecond)
abbrev R35_1 := ([([], [49]), ([48, 49], [49])] : List TFirstSecond)
abbrev R35_2 := ([([], [49])] : List TFirstSecond)
abbrev R35_3 := ([([48, 49], [49])] : List TFirstSecond)
abbrev R35_4 := ([([48, 49], [49]), ([], [49])] : List TFirstSecond)
theorem at35_0 (a b : Nat) : Pure Tryz.prog 59 [.agg [hI 2, W35, .mp a b], hI 0] (· = slE eFirstSecond R35_0) := by
 refine Pure.of_body Tryz.func59 rfl rfl (lb rfl) fun hf => ?_
 clear hf
 unfold Tryz.f59
 dsimp only [enumS, Nat.reduceAdd]
 refine AW.rgs rfl fun K hK => b_op rfl (o_box rfl rfl rfl ?_)
 refine mv rfl rfl ?_
 refine b_nil (hK _ ?_)
 refine AW.rgs rfl fun K hK => bv rfl (v_fieldAddrF fo111_0 rfl) (bv rfl (v_fieldAddrF fo65_1 rfl) (bv rfl (v_loadF ty22 rfl (l_lit rfl rfl)) (mv rfl rfl (bv rfl (v_idxF ty22 es22 rfl rfl (idx_lt (show idx ([[48], [48, 48, 49]] : List (List UInt8)) 0 = some _ from rfl))) (bv rfl (v_loadF ty9 rfl (l_cell eStr (show idx ([[48], [48, 48, 49]] : List (List UInt8)) 0 = some _ from rfl) (o := 0) rfl rfl)) ?_)))))
 refine mv rfl rfl ?_
 refine b_nil (hK _ ?_)
 refine AW.rgs rfl fun K hK => b_op rfl (o_makeMap (fid := 59) HV.bool 59024 rfl rfl (fun v1 => ?_))
 refine mv rfl rfl ?_
 refine b_nil (hK _ ?_)
 refine AW.seq ?_
 refine AW.rgs rfl fun K hK => bv rfl (v_fieldAddrF fo111_0 rfl) (bv rfl (v_fieldAddrF fo65_1 rfl) (bv rfl (v_loadF ty22 rfl (l_lit rfl rfl)) (bv rfl (v_lenF rfl rfl ty22 rfl) (mv rfl rfl ?_))))
 refine b_nil (hK _ ?_)
 refine AW.block ?_
 refine AW.unroll 16 ?_
 refine AW.rgs rfl fun K hK => bv rfl (v_bin rfl rfl b_lss) ?_
 refine b_nil (hK _ ?_)
 refine AW.cseq rfl (fun _ => ?_) (fun hc => absurd hc (by decide))
 refine AW.skip ?_
 refine AW.seq (AW.block ?_)
 refine AW.rgs rfl fun K hK => mv rfl rfl (bv rfl (v_idxF ty22 es22 rfl rfl (idx_lt (show idx ([[48], [48, 48, 49]] : List (List UInt8)) 0 = some _ from rfl))) (bv rfl (v_loadF ty9 rfl (l_cell eStr (show idx ([[48], [48, 48, 49]] : List (List UInt8)) 0 = some _ from rfl) (o := 0) rfl rfl)) (mv rfl rfl (mv rfl rfl ?_))))
 refine b_nil (hK _ ?_)
 refine AW.seq ?_
 refine AW.rgs rfl fun K hK => mv rfl rfl (mv rfl rfl (bv rfl (v_bin rfl rfl b_eql) ?_))
 refine b_nil (hK _ ?_)
 refine AW.cond rfl (fun _ => ?_) (fun hc => absurd hc (by decide))
 refine AW.exit ?_
 refine AW.rg rfl fun K hK => bv rfl (v_bin rfl rfl b_add) (mv rfl rfl ?_)
 refine b_nil (hK _ ?_)
 show UW _ _ _ _ _ _ _
 let P1 : ASf := fun t H => ⟨(1, hI 0) :: (2, .fptr [hI 2, W35, .mp a b] 0) :: (5, .str [48]) :: (6, .mp 59024 v1) :: (27, W35) :: (28, hI 2) :: t, H⟩
 refine AW.to (to_le (s' := (P1 [(29, hI 1)] [(59024, v1, .map (entE HV.bool []))])) (le_q rfl rfl) ?_)
 refine AW.rgs rfl fun K hK => bv rfl (v_bin rfl rfl b_lss) ?_
 refine b_nil (hK _ ?_)
 refine AW.cseq rfl (fun _ => ?_) (fun hc => absurd hc (by decide))
 refine AW.skip ?_
 refine AW.seq (AW.block ?_)
 refine AW.rgs rfl fun K hK => mv rfl rfl (bv rfl (v_idxF ty22 es22 rfl rfl (idx_lt (show idx ([[48], [48, 48, 49]] : List (List UInt8)) 1 = some _ from rfl))) (bv rfl (v_loadF ty9 rfl (l_cell eStr (show idx ([[48], [48, 48, 49]] : List (List UInt8)) 1 = some _ from rfl) (o := 0) rfl rfl)) (mv rfl rfl (mv rfl rfl ?_))))
 refine b_nil (hK _ ?_)
 refine AW.seq ?_
 refine AW.rgs rfl fun K hK => mv rfl rfl (mv rfl rfl (bv rfl (v_bin rfl rfl b_eql) ?_))
 refine b_nil (hK _ ?_)
 refine AW.cond rfl (fun hc => absurd hc (by decide)) (fun _ => ?_)
 refine AW.skip ?_
 refine AW.seq ?_
 refine AW.rgs rfl fun K hK => mv rfl rfl (mv rfl rfl ?_)
 refine b_op rfl (o_call rfl rfl rfl rfl (ACallD.pure0 (w_strings_HasPrefix (p0 := [48, 48, 49]) (p1 := [48]) (r := true) (by decide))) ?_)
 refine b_nil (hK _ ?_)
 refine AW.cond rfl (fun _ => ?_) (fun hc => absurd hc (by decide))
 refine AW.rg rfl fun K hK => mv rfl rfl (mv rfl rfl (mv rfl rfl (bv rfl (v_lenS rfl rfl ty9 rfl) (bv rfl (v_sliceS ty9 rfl rfl rfl (by decide)) ?_))))
 refine b_op rfl (o_mapSet HV.bool (es := []) (k := [48, 49]) (v := true) (.inl rfl) ty133 ty9 rfl rfl rfl rfl trivial ?_)
 refine b_nil (hK _ ?_)
 show AW _ _ _ _ _ _
 refine AW.seq ?_
 refine AW.rgs rfl fun K hK => mv rfl rfl (mv rfl rfl ?_)
 refine b_op rfl (o_call rfl rfl rfl rfl (ACallD.pure0 (w_strings_HasPrefix (p0 := [48]) (p1 := [48, 48, 49]) (r := false) (by decide))) ?_)
 refine bv rfl (v_not rfl) ?_
 refine b_nil (hK _ ?_)
 refine AW.cond rfl (fun _ => ?_) (fun hc => absurd hc (by decide))
 refine AW.exit ?_
 refine AW.rg rfl fun K hK => bv rfl (v_bin rfl rfl b_add) (mv rfl rfl ?_)
 refine b_nil (hK _ ?_)
 show UW _ _ _ _ _ _ _
 refine AW.to (to_le (s' := (P1 [(29, hI 2)] [(59024, v1, .map (entE HV.bool [([48, 49], true)]))])) (le_q rfl rfl) ?_)
 refine AW.rgs rfl fun K hK => bv rfl (v_bin rfl rfl b_lss) ?_
 refine b_nil (hK _ ?_)
 refine AW.cseq rfl (fun hc => absurd hc (by decide)) (fun _ => ?_)
 refine AW.exit ?_
 refine AW.rgs rfl fun K hK => mv rfl rfl ?_
 refine b_nil (hK _ ?_)
 refine AW.seq ?_
 refine AW.rgs rfl fun K hK => mv rfl rfl ?_
 refine b_range 59092 rfl ty133 rfl rfl (by decide) fun v2 => ?_
 refine b_nil (hK _ ?_)
 refine AW.block ?_
 refine AW.unroll 16 ?_
 refine AW.rgs rfl fun K hK => b_next (es := [([48, 49], .bool true)]) rfl rfl rfl rfl (fun h10 => ?_) (fun k11 x12 h13 h14 => ?_)
 ·exact absurd h10 (by decide)
 rcases List.mem_cons.1 h13 with h15 | h13
 ·cases h15
  clear h14
  refine bv rfl (v_extract rfl rfl) ?_
  refine b_nil (hK _ ?_)
  refine AW.cseq rfl (fun _ => ?_) (fun hc => absurd hc (by decide))
  refine AW.skip ?_
  refine AW.block ?_
  refine AW.rgs rfl fun K hK => b_entry (k := [48, 49]) (v := HV.bool true) rfl rfl rfl rfl rfl ?_
  refine bv rfl (v_extract rfl rfl) (mv rfl rfl ?_)
  refine b_nil (hK _ ?_)
  refine AW.rg rfl fun K hK => mv rfl rfl (mv rfl rfl ?_)
  refine b_op rfl (o_build (cs := [.str nS, .str [48, 49]]) rfl (bl_of ty116 rfl rfl rfl rfl) ?_)
  refine b_op rfl (o_bsl rfl rfl (as_of (cs := [.str nS, .str [48, 49]]) ty113 ty116 rfl rfl rfl rfl rfl) ?_)
  refine b_op rfl (o_appN (fid := 59) eFirstSecond (m := R35_0) 59101 rfl rfl rfl ty113 ty113 ty116 rfl rfl rfl rfl (by decide) (fun v16 => ?_))
  refine mv rfl rfl ?_
  refine b_nil (hK _ ?_)
  show UW _ _ _ _ _ _ _
  refine AW.to (to_le (s' := ⟨[(16, .ar 59101 v16 eFirstSecond.k 0 ((R35_0).length)), (92, HV.it 59092 v2)], [(59024, v1, .map (entE HV.bool [([48, 49], true)])), (59092, v2, .iter 59024 v1 [[48, 49]] true), (59101, v16, .arr eFirstSecond.k 116 (eFirstSecond.E R35_0))]⟩) (le_q rfl rfl) ?_)
  refine AW.rgs rfl fun K hK => b_next (es := [([48, 49], .bool true)]) rfl rfl rfl rfl (fun h23 => ?_) (fun k24 x25 h26 h27 => ?_)
  ·clear h23
   refine bv rfl (v_extract rfl rfl) ?_
   refine b_nil (hK _ ?_)
   refine AW.cseq rfl (fun hc => absurd hc (by decide)) (fun _ => ?_)
   refine AW.exit ?_
   refine AW.rgs rfl fun K hK => mv rfl rfl (mv rfl rfl ?_)
   refine b_nil (hK _ ?_)
   refine AW.to (to_frz 2 [(59101, v16, .arr eFirstSecond.k 116 (eFirstSecond.E R35_0))] ⟨[(4, slE eFirstSecond R35_0)], []⟩ ⟨⟨_, rfl, frz_slE eFirstSecond (l := R35_0) rfl fun _ _ => rfl⟩, trivial⟩ trivial ⟨rfl, trivial⟩ ⟨rfl, trivial⟩ ?_)
   refine AW.ret ?_
   exact ret_pure (.inr rfl) (resT rfl rfl) rfl (clean_slE fun _ _ => ⟨trivial, trivial, trivial⟩)
  rcases List.mem_cons.1 h26 with h28 | h26
  ·cases h28
   exact absurd (by decide) h27
  cases h26
 cases h13
theorem at35_1 (a b : Nat) : Pure Tryz.prog 59 [.agg [hI 2, W35, .mp a b], hI 1] (· = slE eFirstSecond ([] : List TFirstSecond)) := by
 refine Pure.of_body Tryz.func59 rfl rfl (lb rfl) fun hf => ?_
 clear hf
 unfold Tryz.f59
 dsimp only [enumS, Nat.reduceAdd]
 refine AW.rgs rfl fun K hK => b_op rfl (o_box rfl rfl rfl ?_)
 refine mv rfl rfl ?_
 refine b_nil (hK _ ?_)
 refine AW.rgs rfl fun K hK => bv rfl (v_fieldAddrF fo111_0 rfl) (bv rfl (v_fieldAddrF fo65_1 rfl) (bv rfl (v_loadF ty22 rfl (l_lit rfl rfl)) (mv rfl rfl (bv rfl (v_idxF ty22 es22 rfl rfl (idx_lt (show idx ([[48], [48, 48, 49]] : List (List UInt8)) 1 = some _ from rfl))) (bv rfl (v_loadF ty9 rfl (l_cell eStr (show idx ([[48], [48, 48, 49]] : List (List UInt8)) 1 = some _ from rfl) (o := 0) rfl rfl)) ?_)))))
 refine mv rfl rfl ?_
 refine b_nil (hK _ ?_)
 refine AW.rgs rfl fun K hK => b_op rfl (o_makeMap (fid := 59) HV.bool 59024 rfl rfl (fun v1 => ?_))
 refine mv rfl rfl ?_
 refine b_nil (hK _ ?_)
 refine AW.seq ?_
 refine AW.rgs rfl fun K hK => bv rfl (v_fieldAddrF fo111_0 rfl) (bv rfl (v_fieldAddrF fo65_1 rfl) (bv rfl (v_loadF ty22 rfl (l_lit rfl rfl)) (bv rfl (v_lenF rfl rfl ty22 rfl) (mv rfl rfl ?_))))
 refine b_nil (hK _ ?_)
 refine AW.block ?_
 refine AW.unroll 16 ?_
 refine AW.rgs rfl fun K hK => bv rfl (v_bin rfl rfl b_lss) ?_
 refine b_nil (hK _ ?_)
 refine AW.cseq rfl (fun _ => ?_) (fun hc => absurd hc (by decide))
 refine AW.skip ?_
 refine AW.seq (AW.block ?_)
 refine AW.rgs rfl fun K hK => mv rfl rfl (bv rfl (v_idxF ty22 es22 rfl rfl (idx_lt (show idx ([[48], [48, 48, 49]] : List (List UInt8)) 0 = some _ from rfl))) (bv rfl (v_loadF ty9 rfl (l_cell eStr (show idx ([[48], [48, 48, 49]] : List (List UInt8)) 0 = some _ from rfl) (o := 0) rfl rfl)) (mv rfl rfl (mv rfl rfl ?_))))
 refine b_nil (hK _ ?_)
 refine AW.seq ?_
 refine AW.rgs rfl fun K hK => mv rfl rfl (mv rfl rfl (bv rfl (v_bin rfl rfl b_eql) ?_))
 refine b_nil (hK _ ?_)
 refine AW.cond rfl (fun hc => absurd hc (by decide)) (fun _ => ?_)
 refine AW.skip ?_
 refine AW.seq ?_
 refine AW.rgs rfl fun K hK => mv rfl rfl (mv rfl rfl ?_)
 refine b_op rfl (o_call rfl rfl rfl rfl (ACallD.pure0 (w_strings_HasPrefix (p0 := [48]) (p1 := [48, 48, 49]) (r := false) (by decide))) ?_)
 refine b_nil (hK _ ?_)
 refine AW.cond rfl (fun hc => absurd hc (by decide)) (fun _ => ?_)
 refine AW.skip ?_
 refine AW.seq ?_
 refine AW.rgs rfl fun K hK => mv rfl rfl (mv rfl rfl ?_)
 refine b_op rfl (o_call rfl rfl rfl rfl (ACallD.pure0 (w_strings_HasPrefix (p0 := [48, 48, 49]) (p1 := [48]) (r := true) (by decide))) ?_)
 refine bv rfl (v_not rfl) ?_
 refine b_nil (hK _ ?_)
 refine AW.cond rfl (fun hc => absurd hc (by decide)) (fun _ => ?_)
 refine AW.skip ?_
 refine AW.rgs rfl fun K hK => b_op rfl (o_makeMap (fid := 59) HV.bool 59049 rfl rfl (fun v410 => ?_))
 refine b_op rfl (o_mapSet HV.bool (es := []) (k := nS) (v := true) (.inr rfl) ty133 ty9 rfl rfl rfl rfl trivial ?_)
 refine mv rfl rfl (mv rfl rfl ?_)
 refine b_nil (hK _ ?_)
 refine AW.seq ?_
 refine AW.rgs rfl fun K hK => mv rfl rfl (bv rfl (v_lenS rfl rfl ty9 rfl) (mv rfl rfl ?_))
 refine b_nil (hK _ ?_)
 refine AW.block ?_
 refine AW.unroll 16 ?_
 refine AW.seq ?_
 refine AW.rgs rfl fun K hK => mv rfl rfl (mv rfl rfl (bv rfl (v_lenS rfl rfl ty9 rfl) (bv rfl (v_bin rfl rfl b_lss) ?_)))
 refine b_nil (hK _ ?_)
 refine AW.cond rfl (fun _ => ?_) (fun hc => absurd hc (by decide))
 refine AW.skip ?_
 refine AW.seq (AW.block ?_)
 refine AW.rgs rfl fun K hK => b_op rfl (o_makeMap (fid := 59) HV.bool 59059 rfl rfl (fun v463 => ?_))
 refine mv rfl rfl ?_
 refine b_nil (hK _ ?_)
 refine AW.seqK fun Au464 hAu464 hTu464 => ?_
 let E1 : Nat × HV := (2, .fptr [hI 2, W35, .mp a b] 0)
 let O2 : Nat × Nat × AObj := (59024, v1, .map (entE HV.bool []))
 let O3 : Nat × Nat × AObj := (59059, v463, .map (entE HV.bool [(nS, true), ([48, 49], true)]))
 let P2 : ASf := fun t H => ⟨(1, hI 1) :: E1 :: (5, .str [48, 48, 49]) :: (6, .mp 59024 v1) :: t, O2 :: H⟩
 have cu464_0 : Au464 (P2 [(10, hI 1), (11, .mp 59059 v463), (27, W35), (28, hI 2), (29, hI 0)] [O3]) := by
  refine hAu464 _ ?_
  refine AW.rg rfl fun K hK => mv rfl rfl (mv rfl rfl ?_)
  refine b_nil (hK _ ?_)
  show AW _ _ _ _ _ _
  refine AW.rg rfl fun K hK => mv rfl rfl (bv rfl (v_bin rfl rfl b_add) (mv rfl rfl ?_))
  refine b_nil (hK _ ?_)
  show UW _ _ _ _ _ _ _
  refine AW.seq ?_
  refine AW.rgs rfl fun K hK => mv rfl rfl (mv rfl rfl (bv rfl (v_lenS rfl rfl ty9 rfl) (bv rfl (v_bin rfl rfl b_lss) ?_)))
  refine b_nil (hK _ ?_)
  refine AW.cond rfl (fun _ => ?_) (fun hc => absurd hc (by decide))
  refine AW.skip ?_
  refine AW.seq (AW.block ?_)
  refine AW.rgs rfl fun K hK => b_op rfl (o_makeMap (fid := 1059) HV.bool 1059059 rfl rfl (fun v636 => ?_))
  refine mv rfl rfl ?_
  refine b_nil (hK _ ?_)
  refine AW.seqK fun Au637 hAu637 hTu637 => ?_
  let O4 : Nat × Nat × AObj := (1059059, v636, .map (entE HV.bool []))
  have cu637_0 : Au637 (P2 [(10, hI 2), (11, .mp 1059059 v636), (27, W35), (28, hI 2), (29, hI 0)] [O4]) := by
   refine hAu637 _ ?_
   refine AW.rg rfl fun K hK => mv rfl rfl (mv rfl rfl ?_)
   refine b_nil (hK _ ?_)
   show AW _ _ _ _ _ _
   refine AW.rg rfl fun K hK => mv rfl rfl (bv rfl (v_bin rfl rfl b_add) (mv rfl rfl ?_))
   refine b_nil (hK _ ?_)
   show UW _ _ _ _ _ _ _
   refine AW.seq ?_
   refine AW.rgs rfl fun K hK => mv rfl rfl (mv rfl rfl (bv rfl (v_lenS rfl rfl ty9 rfl) (bv rfl (v_bin rfl rfl b_lss) ?_)))
   refine b_nil (hK _ ?_)
   refine AW.cond rfl (fun hc => absurd hc (by decide)) (fun _ => ?_)
   refine AW.exit ?_
   refine AW.rgs rfl fun K hK => mv rfl rfl ?_
   refine b_range 59083 rfl ty133 rfl rfl (by decide) fun v710 => ?_
   refine b_nil (hK _ ?_)
   refine AW.block ?_
   refine AW.unroll 16 ?_
   refine AW.rgs rfl fun K hK => b_next (es := []) rfl rfl rfl rfl (fun h716 => ?_) (fun k717 x718 h719 h720 => ?_)
   ·clear h716
    refine bv rfl (v_extract rfl rfl) ?_
    refine b_nil (hK _ ?_)
    refine AW.cseq rfl (fun hc => absurd hc (by decide)) (fun _ => ?_)
    refine AW.exit ?_
    refine AW.rg rfl fun K hK => bv rfl (v_bin rfl rfl b_add) (mv rfl rfl ?_)
    refine b_nil (hK _ ?_)
    show UW _ _ _ _ _ _ _
    refine AW.rgs rfl fun K hK => bv rfl (v_bin rfl rfl b_lss) ?_
    refine b_nil (hK _ ?_)
    refine AW.cseq rfl (fun _ => ?_) (fun hc => absurd hc (by decide))
    refine AW.skip ?_
    refine AW.seq (AW.block ?_)
    refine AW.rgs rfl fun K hK => mv rfl rfl (bv rfl (v_idxF ty22 es22 rfl rfl (idx_lt (show idx ([[48], [48, 48, 49]] : List (List UInt8)) 1 = some _ from rfl))) (bv rfl (v_loadF ty9 rfl (l_cell eStr (show idx ([[48], [48, 48, 49]] : List (List UInt8)) 1 = some _ from rfl) (o := 0) rfl rfl)) (mv rfl rfl (mv rfl rfl ?_))))
    refine b_nil (hK _ ?_)
    refine AW.seq ?_
    refine AW.rgs rfl fun K hK => mv rfl rfl (mv rfl rfl (bv rfl (v_bin rfl rfl b_eql) ?_))
    refine b_nil (hK _ ?_)
    refine AW.cond rfl (fun _ => ?_) (fun hc => absurd hc (by decide))
    refine AW.exit ?_
    refine AW.rg rfl fun K hK => bv rfl (v_bin rfl rfl b_add) (mv rfl rfl ?_)
    refine b_nil (hK _ ?_)
    show UW _ _ _ _ _ _ _
    refine AW.to (to_le (s' := (P2 [(27, W35), (28, hI 2), (29, hI 2)] [])) (le_q rfl rfl) ?_)
    refine AW.rgs rfl fun K hK => bv rfl (v_bin rfl rfl b_lss) ?_
    refine b_nil (hK _ ?_)
    refine AW.cseq rfl (fun hc => absurd hc (by decide)) (fun _ => ?_)
    refine AW.exit ?_
    refine AW.rgs rfl fun K hK => mv rfl rfl ?_
    refine b_nil (hK _ ?_)
    refine AW.seq ?_
    refine AW.rgs rfl fun K hK => mv rfl rfl ?_
    refine b_range 59092 rfl ty133 rfl rfl (by decide) fun v721 => ?_
    refine b_nil (hK _ ?_)
    refine AW.block ?_
    refine AW.unroll 16 ?_
    refine AW.rgs rfl fun K hK => b_next (es := []) rfl rfl rfl rfl (fun h727 => ?_) (fun k728 x729 h730 h731 => ?_)
    ·clear h727
     refine bv rfl (v_extract rfl rfl) ?_
     refine b_nil (hK _ ?_)
     refine AW.cseq rfl (fun hc => absurd hc (by decide)) (fun _ => ?_)
     refine AW.exit ?_
     refine AW.rgs rfl fun K hK => mv rfl rfl (mv rfl rfl ?_)
     refine b_nil (hK _ ?_)
     refine AW.to (to_weak ⟨[(4, slE eFirstSecond ([] : List TFirstSecond))], []⟩ ⟨⟨_, rfl, .nil _⟩, trivial⟩ trivial ?_)
     refine AW.ret ?_
     exact ret_pure (.inr rfl) (resT rfl rfl) rfl (clean_slE fun _ _ => ⟨trivial, trivial, trivial⟩)
    cases h730
   cases h719
  refine AW.rgs rfl fun K hK => mv rfl rfl ?_
  refine b_range 59061 rfl ty133 rfl rfl (by decide) fun v732 => ?_
  refine b_nil (hK _ ?_)
  refine AW.block ?_
  refine AW.unroll 16 ?_
  refine UW.step fun Au740 hAu740 hTu740 => ?_
  have cu740_0 : Au740 (P2 [(10, hI 2), (11, .mp 1059059 v636), (27, W35), (28, hI 2), (29, hI 0), (61, HV.it 59061 v732)] [O3, (59061, v732, .iter 59059 v463 [nS] true), O4]) := by
   refine hAu740 _ ?_
   refine AW.rgs rfl fun K hK => b_next (es := [(nS, .bool true), ([48, 49], .bool true)]) rfl rfl rfl rfl (fun h748 => ?_) (fun k749 x750 h751 h752 => ?_)
   ·exact absurd h748 (by decide)
   rcases List.mem_cons.1 h751 with h753 | h751
   ·cases h753
    exact absurd (by decide) h752
   rcases List.mem_cons.1 h751 with h754 | h751
   ·cases h754
    clear h752
    refine bv rfl (v_extract rfl rfl) ?_
    refine b_nil (hK _ ?_)
    refine AW.cseq rfl (fun _ => ?_) (fun hc => absurd hc (by decide))
    refine AW.skip ?_
    refine AW.block ?_
    refine AW.rgs rfl fun K hK => b_entry (k := [48, 49]) (v := HV.bool true) rfl rfl rfl rfl rfl ?_
    refine bv rfl (v_extract rfl rfl) (mv rfl rfl ?_)
    refine b_nil (hK _ ?_)
    refine AW.dgs 9 follows rfl rfl fun K hK => ?_
    refine sv rfl (v_fieldAddrF fo111_0 rfl) ?_
    refine sv rfl (v_loadF ty65 rfl (l_litA rfl (lb rfl) rfl)) ?_
    iterate 3 refine sm rfl rfl ?_
    refine sv rfl (v_idxS ty9 rfl rfl (show idx [48, 48, 49] 2 = some _ from rfl)) ?_
    refine s_op rfl rfl (ops_call rfl rfl rfl rfl (ACallD.pure0 (w_delay_rests rest35_2)) ?_)
    refine sv rfl (v_lenF rfl rfl ty22 rfl) ?_
    refine sm rfl rfl ?_
    refine s_nil ?_
    refine b_nil (hK _ ?_)
    refine AW.block ?_
    refine AW.unroll 16 ?_
    refine AW.rgs rfl fun K hK => bv rfl (v_bin rfl rfl b_lss) ?_
    refine b_nil (hK _ ?_)
    refine AW.cseq rfl (fun hc => absurd hc (by decide)) (fun _ => ?_)
    refine AW.exit ?_
    show UW _ _ _ _ _ _ _
    refine AW.rgs rfl fun K hK => b_next (es := [(nS, .bool true), ([48, 49], .bool true)]) rfl rfl rfl rfl (fun h762 => ?_) (fun k763 x764 h765 h766 => ?_)
    ·clear h762
     refine bv rfl (v_extract rfl rfl) ?_
     refine b_nil (hK _ ?_)
     refine AW.cseq rfl (fun hc => absurd hc (by decide)) (fun _ => ?_)
     refine AW.exit ?_
     exact hTu637 _ (to_leR (cu637_0) (le_q rfl rfl))
    rcases List.mem_cons.1 h765 with h767 | h765
    ·cases h767
     exact absurd (by decide) h766
    rcases List.mem_cons.1 h765 with h768 | h765
    ·cases h768
     exact absurd (by decide) h766
    cases h765
   cases h751
  have cu740_1 : Au740 (P2 [(10, hI 2), (11, .mp 1059059 v636), (27, W35), (28, hI 2), (29, hI 0), (61, HV.it 59061 v732)] [O3, (59061, v732, .iter 59059 v463 [[48, 49]] true), O4]) := by
   refine hAu740 _ ?_
   refine AW.rgs rfl fun K hK => b_next (es := [(nS, .bool true), ([48, 49], .bool true)]) rfl rfl rfl rfl (fun h776 => ?_) (fun k777 x778 h779 h780 => ?_)
   ·exact absurd h776 (by decide)
   rcases List.mem_cons.1 h779 with h781 | h779
   ·cases h781
    clear h780
    refine bv rfl (v_extract rfl rfl) ?_
    refine b_nil (hK _ ?_)
    refine AW.cseq rfl (fun _ => ?_) (fun hc => absurd hc (by decide))
    refine AW.skip ?_
    refine AW.block ?_
    refine AW.rgs rfl fun K hK => b_entry (k := nS) (v := HV.bool true) rfl rfl rfl rfl rfl ?_
    refine bv rfl (v_extract rfl rfl) (mv rfl rfl ?_)
    refine b_nil (hK _ ?_)
    refine AW.dgs 9 follows rfl rfl fun K hK => ?_
    refine sv rfl (v_fieldAddrF fo111_0 rfl) ?_
    refine sv rfl (v_loadF ty65 rfl (l_litA rfl (lb rfl) rfl)) ?_
    iterate 3 refine sm rfl rfl ?_
    refine sv rfl (v_idxS ty9 rfl rfl (show idx [48, 48, 49] 2 = some _ from rfl)) ?_
    refine s_op rfl rfl (ops_call rfl rfl rfl rfl (ACallD.pure0 (w_delay_rests rest35_1)) ?_)
    refine sv rfl (v_lenF rfl rfl ty22 rfl) ?_
    refine sm rfl rfl ?_
    refine s_nil ?_
    refine b_nil (hK _ ?_)
    refine AW.block ?_
    refine AW.unroll 16 ?_
    refine AW.rgs rfl fun K hK => bv rfl (v_bin rfl rfl b_lss) ?_
    refine b_nil (hK _ ?_)
    refine AW.cseq rfl (fun hc => absurd hc (by decide)) (fun _ => ?_)
    refine AW.exit ?_
    show UW _ _ _ _ _ _ _
    refine AW.rgs rfl fun K hK => b_next (es := [(nS, .bool true), ([48, 49], .bool true)]) rfl rfl rfl rfl (fun h789 => ?_) (fun k790 x791 h792 h793 => ?_)
    ·clear h789
     refine bv rfl (v_extract rfl rfl) ?_
     refine b_nil (hK _ ?_)
     refine AW.cseq rfl (fun hc => absurd hc (by decide)) (fun _ => ?_)
     refine AW.exit ?_
     exact hTu637 _ (to_leR (cu637_0) (le_q rfl rfl))
    rcases List.mem_cons.1 h792 with h794 | h792
    ·cases h794
     exact absurd (by decide) h793
    rcases List.mem_cons.1 h792 with h795 | h792
    ·cases h795
     exact absurd (by decide) h793
    cases h792
   rcases List.mem_cons.1 h779 with h796 | h779
   ·cases h796
    exact absurd (by decide) h780
   cases h779
  refine AW.rgs rfl fun K hK => b_next (es := [(nS, .bool true), ([48, 49], .bool true)]) rfl rfl rfl rfl (fun h797 => ?_) (fun k798 x799 h800 h801 => ?_)
  ·exact absurd h797 (by decide)
  rcases List.mem_cons.1 h800 with h802 | h800
  ·cases h802
   clear h801
   refine bv rfl (v_extract rfl rfl) ?_
   refine b_nil (hK _ ?_)
   refine AW.cseq rfl (fun _ => ?_) (fun hc => absurd hc (by decide))
   refine AW.skip ?_
   refine AW.block ?_
   refine AW.rgs rfl fun K hK => b_entry (k := nS) (v := HV.bool true) rfl rfl rfl rfl rfl ?_
   refine bv rfl (v_extract rfl rfl) (mv rfl rfl ?_)
   refine b_nil (hK _ ?_)
   refine AW.dgs 9 follows rfl rfl fun K hK => ?_
   refine sv rfl (v_fieldAddrF fo111_0 rfl) ?_
   refine sv rfl (v_loadF ty65 rfl (l_litA rfl (lb rfl) rfl)) ?_
   iterate 3 refine sm rfl rfl ?_
   refine sv rfl (v_idxS ty9 rfl rfl (show idx [48, 48, 49] 2 = some _ from rfl)) ?_
   refine s_op rfl rfl (ops_call rfl rfl rfl rfl (ACallD.pure0 (w_delay_rests rest35_1)) ?_)
   refine sv rfl (v_lenF rfl rfl ty22 rfl) ?_
   refine sm rfl rfl ?_
   refine s_nil ?_
   refine b_nil (hK _ ?_)
   refine AW.block ?_
   refine AW.unroll 16 ?_
   refine AW.rgs rfl fun K hK => bv rfl (v_bin rfl rfl b_lss) ?_
   refine b_nil (hK _ ?_)
   refine AW.cseq rfl (fun hc => absurd hc (by decide)) (fun _ => ?_)
   refine AW.exit ?_
   exact hTu740 _ (to_leR (cu740_0) (le_q rfl rfl))
  rcases List.mem_cons.1 h800 with h803 | h800
  ·cases h803
   clear h801
   refine bv rfl (v_extract rfl rfl) ?_
   refine b_nil (hK _ ?_)
   refine AW.cseq rfl (fun _ => ?_) (fun hc => absurd hc (by decide))
   refine AW.skip ?_
   refine AW.block ?_
   refine AW.rgs rfl fun K hK => b_entry (k := [48, 49]) (v := HV.bool true) rfl rfl rfl rfl rfl ?_
   refine bv rfl (v_extract rfl rfl) (mv rfl rfl ?_)
   refine b_nil (hK _ ?_)
   refine AW.dgs 9 follows rfl rfl fun K hK => ?_
   refine sv rfl (v_fieldAddrF fo111_0 rfl) ?_
   refine sv rfl (v_loadF ty65 rfl (l_litA rfl (lb rfl) rfl)) ?_
   iterate 3 refine sm rfl rfl ?_
   refine sv rfl (v_idxS ty9 rfl rfl (show idx [48, 48, 49] 2 = some _ from rfl)) ?_
   refine s_op rfl rfl (ops_call rfl rfl rfl rfl (ACallD.pure0 (w_delay_rests rest35_2)) ?_)
   refine sv rfl (v_lenF rfl rfl ty22 rfl) ?_
   refine sm rfl rfl ?_
   refine s_nil ?_
   refine b_nil (hK _ ?_)
   refine AW.block ?_
   refine AW.unroll 16 ?_
   refine AW.rgs rfl fun K hK => bv rfl (v_bin rfl rfl b_lss) ?_
   refine b_nil (hK _ ?_)
   refine AW.cseq rfl (fun hc => absurd hc (by decide)) (fun _ => ?_)
   refine AW.exit ?_
   exact hTu740 _ (to_leR (cu740_1) (le_q rfl rfl))
  cases h800
 refine AW.rgs rfl fun K hK => mv rfl rfl ?_
 refine b_range 59061 rfl ty133 rfl rfl (by decide) fun v804 => ?_
 refine b_nil (hK _ ?_)
 refine AW.block ?_
 refine AW.unroll 16 ?_
 refine AW.rgs rfl fun K hK => b_next (es := [(nS, .bool true)]) rfl rfl rfl rfl (fun h811 => ?_) (fun k812 x813 h814 h815 => ?_)
 ·exact absurd h811 (by decide)
 rcases List.mem_cons.1 h814 with h816 | h814
 ·cases h816
  clear h815
  refine bv rfl (v_extract rfl rfl) ?_
  refine b_nil (hK _ ?_)
  refine AW.cseq rfl (fun _ => ?_) (fun hc => absurd hc (by decide))
  refine AW.skip ?_
  refine AW.block ?_
  refine AW.rgs rfl fun K hK => b_entry (k := nS) (v := HV.bool true) rfl rfl rfl rfl rfl ?_
  refine bv rfl (v_extract rfl rfl) (mv rfl rfl ?_)
  refine b_nil (hK _ ?_)
  refine AW.dgs 9 follows rfl rfl fun K hK => ?_
  refine sv rfl (v_fieldAddrF fo111_0 rfl) ?_
  refine sv rfl (v_loadF ty65 rfl (l_litA rfl (lb rfl) rfl)) ?_
  iterate 3 refine sm rfl rfl ?_
  refine sv rfl (v_idxS ty9 rfl rfl (show idx [48, 48, 49] 1 = some _ from rfl)) ?_
  refine s_op rfl rfl (ops_call rfl rfl rfl rfl (ACallD.pure0 (w_delay_rests rest35_0)) ?_)
  refine sv rfl (v_lenF rfl rfl ty22 rfl) ?_
  refine sm rfl rfl ?_
  refine s_nil ?_
  refine b_nil (hK _ ?_)
  refine AW.block ?_
  refine AW.unroll 16 ?_
  refine AW.rgs rfl fun K hK => bv rfl (v_bin rfl rfl b_lss) ?_
  refine b_nil (hK _ ?_)
  refine AW.cseq rfl (fun _ => ?_) (fun hc => absurd hc (by decide))
  refine AW.skip ?_
  refine AW.seq (AW.block ?_)
  refine AW.rgs rfl fun K hK => bv rfl (v_idxF ty22 es22 rfl rfl (idx_lt (show idx ([[], [48, 49]] : List (List UInt8)) 0 = some _ from rfl))) (bv rfl (v_loadF ty9 rfl (l_cell eStr (show idx ([[], [48, 49]] : List (List UInt8)) 0 = some _ from rfl) (o := 0) rfl rfl)) (mv rfl rfl ?_))
  refine b_nil (hK _ ?_)
  refine AW.rg rfl fun K hK => mv rfl rfl (mv rfl rfl ?_)
  refine b_op rfl (o_mapSet HV.bool (es := []) (k := nS) (v := true) (.inl rfl) ty133 ty9 rfl rfl rfl rfl (by repeat first | exact trivial | refine ⟨by decide, ?_⟩) ?_)
  refine b_nil (hK _ ?_)
  show AW _ _ _ _ _ _
  refine AW.rg rfl fun K hK => bv rfl (v_bin rfl rfl b_add) (mv rfl rfl ?_)
  refine b_nil (hK _ ?_)
  show UW _ _ _ _ _ _ _
  refine AW.rgs rfl fun K hK => bv rfl (v_bin rfl rfl b_lss) ?_
  refine b_nil (hK _ ?_)
  refine AW.cseq rfl (fun _ => ?_) (fun hc => absurd hc (by decide))
  refine AW.skip ?_
  refine AW.seq (AW.block ?_)
  refine AW.rgs rfl fun K hK => bv rfl (v_idxF ty22 es22 rfl rfl (idx_lt (show idx ([[], [48, 49]] : List (List UInt8)) 1 = some _ from rfl))) (bv rfl (v_loadF ty9 rfl (l_cell eStr (show idx ([[], [48, 49]] : List (List UInt8)) 1 = some _ from rfl) (o := 0) rfl rfl)) (mv rfl rfl ?_))
  refine b_nil (hK _ ?_)
  refine AW.rg rfl fun K hK => mv rfl rfl (mv rfl rfl ?_)
  refine b_op rfl (o_mapSet HV.bool (es := [(nS, true)]) (k := [48, 49]) (v := true) (.inl rfl) ty133 ty9 rfl rfl rfl rfl (by repeat first | exact trivial | refine ⟨by decide, ?_⟩) ?_)
  refine b_nil (hK _ ?_)
  show AW _ _ _ _ _ _
  refine AW.rg rfl fun K hK => bv rfl (v_bin rfl rfl b_add) (mv rfl rfl ?_)
  refine b_nil (hK _ ?_)
  show UW _ _ _ _ _ _ _
  refine AW.rgs rfl fun K hK => bv rfl (v_bin rfl rfl b_lss) ?_
  refine b_nil (hK _ ?_)
  refine AW.cseq rfl (fun hc => absurd hc (by decide)) (fun _ => ?_)
  refine AW.exit ?_
  show UW _ _ _ _ _ _ _
  refine AW.rgs rfl fun K hK => b_next (es := [(nS, .bool true)]) rfl rfl rfl rfl (fun h823 => ?_) (fun k824 x825 h826 h827 => ?_)
  ·clear h823
   refine bv rfl (v_extract rfl rfl) ?_
   refine b_nil (hK _ ?_)
   refine AW.cseq rfl (fun hc => absurd hc (by decide)) (fun _ => ?_)
   refine AW.exit ?_
   exact hTu464 _ (to_leR (cu464_0) (le_q rfl rfl))
  rcases List.mem_cons.1 h826 with h828 | h826
  ·cases h828
   exact absurd (by decide) h827
  cases h826
 cases h814
def E35 : List ((List UInt8 × List UInt8) × HV) := [(([], [48, 49]), hI 1), (([], [49]), hI 0), (([48, 49], [49]), hI 0)]
set_option maxHeartbeats 6400000 in
set_option maxRecDepth 100000 in
theorem races35 {K0 : HV → Heap → Prop} (hK0 : ∀ ver ver2 H, H = [(58002, ver2, AObj.arr 3 111 [hI 2, W35, .mp 58022 ver]), (58022, ver, AObj.gmap (gcan kfSS E35) none)] → K0 (HV.agg [hI 2, W35, .mp 58022 ver]) H) : ACall Tryz.prog 58 [.agg [hI 2, W35]] [] K0 := by
 refine ACall.of_body Tryz.func58 rfl rfl (lb rfl) ?_
 unfold Tryz.f58
 dsimp only [enumS, Nat.reduceAdd]
 refine AW.rgs rfl fun K hK => b_op rfl (o_box rfl rfl rfl ?_)
 refine b_op rfl (o_alloc (fid := 58) (zs := [hI 0, .v (.slice none 0 0), .v (.map none)]) 58002 rfl rfl ty111 rfl (fun v1 => ?_))
 refine b_nil (hK _ ?_)
 refine AW.rgs rfl fun K hK => bv rfl (v_loadF ty65 rfl (l_litA rfl (lb rfl) rfl)) ?_
 refine b_op rfl (o_makeMap (fid := 58) (fun _ : Unit => HV.bool true) 58022 rfl rfl (fun v2 => ?_))
 refine b_to (to_gmap kfSS (id := 58022) (ver := v2) rfl ?_)
 refine b_op rfl (o_build (cs := [hI 2, W35, .mp 58022 v2]) rfl (bl_of ty111 rfl rfl rfl rfl) ?_)
 refine b_op rfl (o_alloc (fid := 58) (zs := [hI 0, .v (.slice none 0 0), .v (.map none)]) 58003 rfl rfl ty111 rfl (fun v3 => ?_))
 refine b_op rfl (o_store (cs := [hI 2, W35, .mp 58022 v2]) (zs := [hI 2, W35, .mp 58022 v2]) rfl rfl rfl ty111 rfl rfl rfl rfl rfl ?_)
 refine b_nil (hK _ ?_)
 refine AW.rgs rfl fun K hK => b_op rfl (o_alloc (fid := 58) (zs := [.v (.slice none 0 0)]) 58004 rfl rfl ty113 rfl (fun v4 => ?_))
 refine b_nil (hK _ ?_)
 refine AW.rgs rfl fun K hK => bv rfl (v_func rfl rfl) (mv rfl rfl ?_)
 refine b_nil (hK _ ?_)
 refine AW.seq ?_
 refine AW.rgs rfl fun K hK => bv rfl (v_fieldAddrF fo65_1 rfl) (bv rfl (v_loadF ty22 rfl (l_lit rfl rfl)) (bv rfl (v_lenF rfl rfl ty22 rfl) (mv rfl rfl ?_)))
 refine b_nil (hK _ ?_)
 refine AW.block ?_
 refine AW.unroll 16 ?_
 refine AW.rgs rfl fun K hK => bv rfl (v_bin rfl rfl b_lss) ?_
 refine b_nil (hK _ ?_)
 refine AW.cseq rfl (fun _ => ?_) (fun hc => absurd hc (by decide))
 refine AW.skip ?_
 refine AW.seq (AW.block ?_)
 refine AW.rgs rfl fun K hK => mv rfl rfl (mv rfl rfl ?_)
 refine b_nil (hK _ ?_)
 refine AW.rgs rfl fun K hK => bv rfl (v_loadP ty111 rfl rfl (l_litA rfl (lb rfl) rfl)) (mv rfl rfl ?_)
 refine b_op rfl (o_call rfl rfl rfl rfl (ACallD.pure0 (at35_0 58022 v2)) ?_)
 refine bv rfl (v_lenF rfl rfl ty113 rfl) (mv rfl rfl ?_)
 refine b_nil (hK _ ?_)
 refine AW.block ?_
 refine AW.unroll 16 ?_
 refine AW.rgs rfl fun K hK => bv rfl (v_bin rfl rfl b_lss) ?_
 refine b_nil (hK _ ?_)
 refine AW.cseq rfl (fun _ => ?_) (fun hc => absurd hc (by decide))
 refine AW.skip ?_
 refine AW.seq (AW.block ?_)
 refine AW.rgs rfl fun K hK => bv rfl (v_idxF ty113 es113 rfl rfl (idx_lt (show idx R35_0 0 = some _ from rfl))) (bv rfl (v_loadF ty116 rfl (l_agg eFirstSecond (show idx R35_0 0 = some _ from rfl) rfl rfl)) ?_)
 refine b_op rfl (o_alloc (fid := 58) (zs := [.str nS, .str nS]) 58008 rfl rfl ty116 rfl (fun v11 => ?_))
 refine b_op rfl (o_store (cs := [.str nS, .str [48, 49]]) (zs := [.str nS, .str [48, 49]]) rfl rfl rfl ty116 rfl rfl rfl rfl rfl ?_)
 refine b_nil (hK _ ?_)
 refine AW.rg rfl fun K hK => mv rfl rfl (bv rfl (v_loadP ty116 rfl rfl (l_litA rfl (lb rfl) rfl)) ?_)
 refine b_op rfl (o_callA rfl rfl rfl rfl ?_ )
 refine ACall.of_body Tryz.func87 rfl rfl (lb rfl) ?_
 unfold Tryz.f87
 dsimp only [enumS, Nat.reduceAdd]
 refine AW.rgs rfl fun Kj hKj => ?_
 refine b_op rfl (o_box rfl rfl rfl ?_)
 refine b_nil (hKj _ ?_)
 clear hKj Kj
 refine AW.rgs rfl fun Kj hKj => ?_
 refine bv rfl (v_fieldAddrP fo111_1 rfl rfl) (bv rfl (v_loadP ty109 rfl rfl (l_lit rfl rfl)) (bv rfl (v_loadF ty116 rfl (l_litA rfl (lb rfl) rfl)) ?_))
 refine b_lookOkG kTRace (k := ([], [48, 49])) (e := []) (zh := hI 0) rfl ty109 ty3 rfl rfl rfl (by decide) rfl (by decide) ?_
 refine mv rfl rfl (bv rfl (v_extract rfl rfl) (bv rfl (v_extract rfl rfl) (mv rfl rfl (mv rfl rfl ?_))))
 refine b_nil (hKj _ ?_)
 clear hKj Kj
 refine AW.rgs rfl fun Kj hKj => ?_
 refine mv rfl rfl (bv rfl (v_not rfl) ?_)
 refine b_nil (hKj _ ?_)
 clear hKj Kj
 refine AW.cond rfl (fun _ => ?_) (fun hc => absurd hc (by decide))
 refine AW.rgs rfl fun Kj hKj => ?_
 refine bv rfl (v_fieldAddrP fo111_1 rfl rfl) (bv rfl (v_loadP ty109 rfl rfl (l_lit rfl rfl)) (bv rfl (v_loadF ty116 rfl (l_litA rfl (lb rfl) rfl)) ?_))
 refine b_setG kTRace (k := ([], [48, 49])) (e := []) (hv := hI 9223372036854775807) (.inl rfl) ty109 rfl rfl (by decide) rfl rfl (by decide) (by repeat first | exact noIt_nil | refine noIt_cons (fun _ _ _ e => by cases e) ?_) ?_
 refine b_nil (hKj _ ?_)
 clear hKj Kj
 refine AW.rg rfl fun Kj hKj => ?_
 refine bv rfl (v_loadP ty113 rfl rfl (l_lit rfl rfl)) (bv rfl (v_loadF ty116 rfl (l_litA rfl (lb rfl) rfl)) ?_)
 refine b_op rfl (o_bsl rfl rfl (as_of (cs := [.str nS, .str [48, 49]]) ty113 ty116 rfl rfl rfl rfl rfl) ?_)
 refine b_op rfl (o_appN (fid := 1087) eFirstSecond (m := R35_0) 1087021 rfl rfl rfl ty113 ty113 ty116 rfl rfl rfl rfl (by decide) (fun v12 => ?_))
 refine b_op rfl (o_store (cs := [.ar 1087021 v12 eFirstSecond.k 0 ((R35_0).length)]) (zs := [.ar 1087021 v12 eFirstSecond.k 0 ((R35_0).length)]) rfl rfl rfl ty113 rfl rfl rfl rfl rfl ?_)
 refine b_nil (hKj _ ?_)
 clear hKj Kj
 refine ret_A (hs := []) (q := .tup []) (.inl rfl) rfl rfl ?_
 refine b_nil (hK _ ?_)
 show AW _ _ _ _ _ _
 refine AW.rg rfl fun K hK => bv rfl (v_bin rfl rfl b_add) (mv rfl rfl ?_)
 refine b_nil (hK _ ?_)
 show UW _ _ _ _ _ _ _
 refine AW.rgs rfl fun K hK => bv rfl (v_bin rfl rfl b_lss) ?_
 refine b_nil (hK _ ?_)
 refine AW.cseq rfl (fun hc => absurd hc (by decide)) (fun _ => ?_)
 refine AW.exit ?_
 refine AW.rg rfl fun K hK => bv rfl (v_bin rfl rfl b_add) (mv rfl rfl ?_)
 refine b_nil (hK _ ?_)
 show UW _ _ _ _ _ _ _
 refine AW.rgs rfl fun K hK => bv rfl (v_bin rfl rfl b_lss) ?_
 refine b_nil (hK _ ?_)
 refine AW.cseq rfl (fun _ => ?_) (fun hc => absurd hc (by decide))
 refine AW.skip ?_
 refine AW.seq (AW.block ?_)
 refine AW.rgs rfl fun K hK => mv rfl rfl (mv rfl rfl ?_)
 refine b_nil (hK _ ?_)
 refine AW.rgs rfl fun K hK => bv rfl (v_loadP ty111 rfl rfl (l_litA rfl (lb rfl) rfl)) (mv rfl rfl ?_)
 refine b_op rfl (o_call rfl rfl rfl rfl (ACallD.pure0 (at35_1 58022 v2)) ?_)
 refine bv rfl (v_lenF rfl rfl ty113 rfl) (mv rfl rfl ?_)
 refine b_nil (hK _ ?_)
 refine AW.block ?_
 refine AW.unroll 16 ?_
 refine AW.rgs rfl fun K hK => bv rfl (v_bin rfl rfl b_lss) ?_
 refine b_nil (hK _ ?_)
 refine AW.cseq rfl (fun hc => absurd hc (by decide)) (fun _ => ?_)
 refine AW.exit ?_
 refine AW.rg rfl fun K hK => bv rfl (v_bin rfl rfl b_add) (mv rfl rfl ?_)
 refine b_nil (hK _ ?_)
 show UW _ _ _ _ _ _ _
 refine AW.rgs rfl fun K hK => bv rfl (v_bin rfl rfl b_lss) ?_
 refine b_nil (hK _ ?_)
 refine AW.cseq rfl (fun hc => absurd hc (by decide)) (fun _ => ?_)
 refine AW.exit ?_
 refine AW.rgs rfl fun K hK => b_op rfl (o_makeMap (fid := 58) (fun _ : Unit => HV.bool true) 58044 rfl rfl (fun v13 => ?_))
 refine b_to (to_gmap kfSS (id := 58044) (ver := v13) rfl ?_)
 refine b_op rfl (o_makeMap (fid := 58) (fun _ : Unit => HV.bool true) 58045 rfl rfl (fun v14 => ?_))
 refine b_to (to_gmap kfSS (id := 58045) (ver := v14) rfl ?_)
 refine mv rfl rfl (mv rfl rfl ?_)
 refine b_nil (hK _ ?_)
 refine AW.seq (AW.block ?_)
 refine AW.unroll 16 ?_
 refine AW.seq ?_
 refine AW.rgs rfl fun K hK => bv rfl (v_loadP ty113 rfl rfl (l_lit rfl rfl)) (bv rfl (v_lenA rfl rfl ty113 rfl rfl) (bv rfl (v_bin rfl rfl b_gtr) ?_))
 refine b_nil (hK _ ?_)
 refine AW.cond rfl (fun _ => ?_) (fun hc => absurd hc (by decide))
 refine AW.skip ?_
 refine AW.block ?_
 refine AW.rgs rfl fun K hK => bv rfl (v_loadP ty113 rfl rfl (l_lit rfl rfl)) (bv rfl (v_idxA ty113 es113 rfl rfl (idx_lt (show idx R35_0 0 = some _ from rfl)) rfl) (bv rfl (v_loadP ty116 rfl rfl (l_agg eFirstSecond (show idx R35_0 0 = some _ from rfl) rfl rfl)) ?_))
 refine b_op rfl (o_alloc (fid := 58) (zs := [.str nS, .str nS]) 58011 rfl rfl ty116 rfl (fun v68 => ?_))
 refine b_op rfl (o_store (cs := [.str nS, .str [48, 49]]) (zs := [.str nS, .str [48, 49]]) rfl rfl rfl ty116 rfl rfl rfl rfl rfl ?_)
 refine b_nil (hK _ ?_)
 refine AW.rgs rfl fun K hK => bv rfl (v_loadP ty113 rfl rfl (l_lit rfl rfl)) ?_
 refine b_sliceQ1 eFirstSecond (pre := ([] : List TFirstSecond)) (l := R35_0) rfl rfl ty113 es113 rfl rfl rfl rfl fun v69 p70 q71 h72 => ?_
 refine b_op rfl (o_store (cs := [q71]) (zs := [q71]) rfl rfl rfl ty113 (EmptyQ.cells h72) rfl rfl rfl rfl ?_)
 refine b_nil (hK _ ?_)
 refine AW.rgs rfl fun K hK => bv rfl (v_fieldAddrF fo65_0 rfl) (bv rfl (v_loadF ty3 rfl (l_lit rfl rfl)) (mv rfl rfl ?_))
 refine b_nil (hK _ ?_)
 refine AW.block ?_
 refine AW.unroll 16 ?_
 refine AW.rgs rfl fun K hK => bv rfl (v_bin rfl rfl b_lss) ?_
 refine b_nil (hK _ ?_)
 refine AW.cseq rfl (fun _ => ?_) (fun hc => absurd hc (by decide))
 refine AW.skip ?_
 refine AW.seq (AW.block ?_)
 refine AW.rgs rfl fun K hK => mv rfl rfl (mv rfl rfl ?_)
 refine b_nil (hK _ ?_)
 refine AW.dgs 7 follows rfl rfl fun K hK => ?_
 refine sv rfl (v_loadP ty111 rfl rfl (l_litA rfl (lb rfl) rfl)) ?_
 refine sv rfl (v_loadP ty116 rfl rfl (l_litA rfl (lb rfl) rfl)) ?_
 refine sm rfl rfl ?_
 refine sv rfl (v_idxS ty9 rfl rfl (show idx [48, 49, 50, 51, 52, 53, 54, 55, 56, 57, 97, 98, 99, 100, 101, 102] 0 = some _ from rfl)) ?_
 refine s_op rfl rfl (ops_call rfl rfl rfl rfl (ACallD.pure0 (w_delay_races_after (aft35_A0 (58022, v2)))) ?_)
 refine sv rfl (v_lenF rfl rfl ty113 rfl) ?_
 refine sm rfl rfl ?_
 refine s_nil ?_
 refine b_nil (hK _ ?_)
 refine AW.block ?_
 refine AW.unroll 16 ?_
 refine AW.rgs rfl fun K hK => bv rfl (v_bin rfl rfl b_lss) ?_
 refine b_nil (hK _ ?_)
 refine AW.cseq rfl (fun _ => ?_) (fun hc => absurd hc (by decide))
 refine AW.skip ?_
 refine AW.seq (AW.block ?_)
 refine AW.rgs rfl fun K hK => bv rfl (v_idxF ty113 es113 rfl rfl (idx_lt (show idx R35_1 0 = some _ from rfl))) (bv rfl (v_loadF ty116 rfl (l_agg eFirstSecond (show idx R35_1 0 = some _ from rfl) rfl rfl)) ?_)
 refine b_op rfl (o_alloc (fid := 58) (zs := [.str nS, .str nS]) 58014 rfl rfl ty116 rfl (fun v103 => ?_))
 refine b_op rfl (o_store (cs := [.str nS, .str [49]]) (zs := [.str nS, .str [49]]) rfl rfl rfl ty116 rfl rfl rfl rfl rfl ?_)
 refine b_nil (hK _ ?_)
 refine AW.rgs rfl fun K hK => mv rfl rfl (bv rfl (v_loadP ty116 rfl rfl (l_litA rfl (lb rfl) rfl)) (bv rfl (v_loadP ty116 rfl rfl (l_litA rfl (lb rfl) rfl)) ?_))
 refine b_op rfl (o_bsl rfl rfl (as_of (cs := [.str nS, .str [48, 49]]) ty113 ty116 rfl rfl rfl rfl rfl) ?_)
 refine b_entG kTRace (k := ([], [49])) (e := []) (zh := HV.v (.slice none 0 0)) rfl ty138 ty113 rfl rfl rfl (by decide) rfl (by decide) (by repeat first | exact noIt_nil | refine noIt_cons (fun _ _ _ e => by cases e) ?_) fun v104 => ?_
 refine bv rfl (v_extract rfl rfl) ?_
 refine b_op rfl (o_appN (fid := 58) eFirstSecond (m := R35_0) 58075 rfl rfl rfl ty113 ty113 ty116 rfl rfl rfl rfl (by decide) (fun v105 => ?_))
 refine bv rfl (v_extract rfl rfl) ?_
 let E5 : Nat × HV := (1, .fptr [hI 2, W35] 0)
 let E6 : Nat × HV := (5, .fn (.func 87) [] [.ptr 58003 v3 0, .ptr 58004 v4 0])
 let E7 : Nat × HV := (63, slE eFirstSecond R35_1)
 let O8 : Nat × Nat × AObj := (58002, v1, .arr 3 111 [hI 0, .v (.slice none 0 0), .v (.map none)])
 let O9 : Nat × Nat × AObj := (58022, v2, .gmap (gcan kfSS Q35_0) none)
 let O10 : Nat × Nat × AObj := (58003, v3, .arr 3 111 [hI 2, W35, .mp 58022 v2])
 let O11 : Nat × Nat × AObj := (1087021, v69, .arr eFirstSecond.k 116 (eFirstSecond.E p70))
 let O12 : Nat × Nat × AObj := (58011, v68, .arr 2 116 [.str nS, .str [48, 49]])
 let O13 : Nat × Nat × AObj := (58014, v103, .arr 2 116 [.str nS, .str [49]])
 let P3 : ASf := fun t H => ⟨E5 :: (2, .ptr 58002 v1 0) :: (3, .ptr 58003 v3 0) :: (4, .ptr 58004 v4 0) :: E6 :: (9, .mp 58044 v13) :: (10, .mp 58045 v14) :: (11, .ptr 58011 v68 0) :: t, O8 :: H⟩
 refine bops_to (to_frz 2 [(58075, v105, .arr eFirstSecond.k 116 (eFirstSecond.E R35_0))] (P3 [(14, .ptr 58014 v103 0), (55, hI 2), (56, hI 0), E7, (64, hI 2), (65, hI 0), (69, .mp 58044 v13), (70, .agg [.str nS, .str [49]]), (71, .v (.slice none 0 0)), (72, .agg [.str nS, .str [48, 49]]), (73, slE eFirstSecond R35_0), (74, .tup [.v (.slice none 0 0), .v (goInt v104)]), (75, slE eFirstSecond R35_0), (76, .v (goInt v104))] [O9, O10, (58004, v4, .arr 1 113 [q71]), O11, (58044, v13, .gmap (gcan kfSS Q35_1) (some (v104, kfSS ([], [49])))), (58045, v14, .gmap (gcan kfSS []) none), O12, O13]) ⟨⟨_, rfl, rfl⟩, ⟨_, rfl, rfl⟩, ⟨_, rfl, rfl⟩, ⟨_, rfl, rfl⟩, ⟨_, rfl, rfl⟩, ⟨_, rfl, rfl⟩, ⟨_, rfl, rfl⟩, ⟨_, rfl, rfl⟩, ⟨_, rfl, rfl⟩, ⟨_, rfl, rfl⟩, ⟨_, rfl, rfl⟩, ⟨_, rfl, rfl⟩, ⟨_, rfl, rfl⟩, ⟨_, rfl, rfl⟩, ⟨_, rfl, rfl⟩, ⟨_, rfl, rfl⟩, ⟨_, rfl, rfl⟩, ⟨_, rfl, rfl⟩, ⟨_, rfl, rfl⟩, ⟨_, rfl, rfl⟩, ⟨_, rfl, frz_slE eFirstSecond (l := R35_0) rfl fun _ _ => rfl⟩, ⟨_, rfl, rfl⟩, trivial⟩ ⟨rfl, rfl, rfl, rfl, rfl, rfl, rfl, rfl, rfl, trivial⟩ ⟨rfl, trivial⟩ ⟨rfl, trivial⟩ ?_)
 refine b_entStG kfSS_inj (n := v104) (k := ([], [49])) (e := Q35_1) (hv := slE eFirstSecond R35_0) rfl rfl rfl rfl rfl (by repeat first | exact noIt_nil | refine noIt_cons (fun _ _ _ e => by cases e) ?_) ?_
 refine b_nil (hK _ ?_)
 refine AW.dls follows fun K hK F hF => ?_
 refine l_go (L' := []) hF rfl (s' := (P3 [(14, .ptr 58014 v103 0), (55, hI 2), (56, hI 0), E7, (64, hI 2), (65, hI 0)] [O9, O10, (58004, v4, .arr 1 113 [q71]), O11, (58044, v13, .gmap (gcan kfSS Q35_2) none), (58045, v14, .gmap (gcan kfSS []) none), O12, O13])) ?_ (le_q rfl rfl)
 let O14 : Nat × Nat × AObj := (58045, v14, .gmap (gcan kfSS Q35_3) none)
 have g106_8 : F [0, 1, 2, 3, 4, 5, 6] (P3 [(14, .ptr 58014 v103 0), (55, hI 2), (56, hI 0), E7, (64, hI 2), (65, hI 0)] [O9, O10, (58004, v4, .arr 1 113 [q71]), O11, (58044, v13, .gmap (gcan kfSS Q35_2) none), O14, O12, O13]) := by
  refine l_done hF rfl rfl (hK _ ?_)
  refine AW.rg rfl fun K hK => mv rfl rfl (bv rfl (v_loadP ty116 rfl rfl (l_litA rfl (lb rfl) rfl)) ?_)
  refine b_op rfl (o_callA rfl rfl rfl rfl ?_ )
  refine ACall.of_body Tryz.func87 rfl rfl (lb rfl) ?_
  unfold Tryz.f87
  dsimp only [enumS, Nat.reduceAdd]
  refine AW.rgs rfl fun Kj hKj => ?_
  refine b_op rfl (o_box rfl rfl rfl ?_)
  refine b_nil (hKj _ ?_)
  clear hKj Kj
  refine AW.rgs rfl fun Kj hKj => ?_
  refine bv rfl (v_fieldAddrP fo111_1 rfl rfl) (bv rfl (v_loadP ty109 rfl rfl (l_lit rfl rfl)) (bv rfl (v_loadF ty116 rfl (l_litA rfl (lb rfl) rfl)) ?_))
  refine b_lookOkG kTRace (k := ([], [49])) (e := Q35_0) (zh := hI 0) rfl ty109 ty3 rfl rfl rfl (by decide) rfl (by decide) ?_
  refine mv rfl rfl (bv rfl (v_extract rfl rfl) (bv rfl (v_extract rfl rfl) (mv rfl rfl (mv rfl rfl ?_))))
  refine b_nil (hKj _ ?_)
  clear hKj Kj
  refine AW.rgs rfl fun Kj hKj => ?_
  refine mv rfl rfl (bv rfl (v_not rfl) ?_)
  refine b_nil (hKj _ ?_)
  clear hKj Kj
  refine AW.cond rfl (fun _ => ?_) (fun hc => absurd hc (by decide))
  refine AW.rgs rfl fun Kj hKj => ?_
  refine bv rfl (v_fieldAddrP fo111_1 rfl rfl) (bv rfl (v_loadP ty109 rfl rfl (l_lit rfl rfl)) (bv rfl (v_loadF ty116 rfl (l_litA rfl (lb rfl) rfl)) ?_))
  refine b_setG kTRace (k := ([], [49])) (e := Q35_0) (hv := hI 9223372036854775807) (.inl rfl) ty109 rfl rfl (by decide) rfl rfl (by decide) (by repeat first | exact noIt_nil | refine noIt_cons (fun _ _ _ e => by cases e) ?_) ?_
  refine b_nil (hKj _ ?_)
  clear hKj Kj
  refine AW.rg rfl fun Kj hKj => ?_
  refine bv rfl (v_loadP ty113 rfl rfl (l_lit rfl rfl)) (bv rfl (v_loadF ty116 rfl (l_litA rfl (lb rfl) rfl)) ?_)
  refine b_op rfl (o_bsl rfl rfl (as_of (cs := [.str nS, .str [49]]) ty113 ty116 rfl rfl rfl rfl rfl) ?_)
  refine b_appEQ eFirstSecond (m := R35_2) h72 rfl rfl rfl ty113 ty113 ty116 rfl rfl rfl rfl rfl (by decide) (by decide) fun v107 p108 => ?_
  refine b_op rfl (o_store (cs := [.ar 1087021 v107 eFirstSecond.k ((p108).length * eFirstSecond.k) ((R35_2).length)]) (zs := [.ar 1087021 v107 eFirstSecond.k ((p108).length * eFirstSecond.k) ((R35_2).length)]) rfl rfl rfl ty113 rfl rfl rfl rfl rfl ?_)
  refine b_nil (hKj _ ?_)
  clear hKj Kj
  refine ret_A (hs := []) (q := .tup []) (.inl rfl) rfl rfl ?_
  refine b_nil (hK _ ?_)
  show AW _ _ _ _ _ _
  refine AW.rg rfl fun K hK => bv rfl (v_bin rfl rfl b_add) (mv rfl rfl ?_)
  refine b_nil (hK _ ?_)
  show UW _ _ _ _ _ _ _
  refine AW.rgs rfl fun K hK => bv rfl (v_bin rfl rfl b_lss) ?_
  refine b_nil (hK _ ?_)
  refine AW.cseq rfl (fun _ => ?_) (fun hc => absurd hc (by decide))
  refine AW.skip ?_
  refine AW.seq (AW.block ?_)
  refine AW.rgs rfl fun K hK => bv rfl (v_idxF ty113 es113 rfl rfl (idx_lt (show idx R35_1 1 = some _ from rfl))) (bv rfl (v_loadF ty116 rfl (l_agg eFirstSecond (show idx R35_1 1 = some _ from rfl) rfl rfl)) ?_)
  refine b_op rfl (o_alloc (fid := 58) (zs := [.str nS, .str nS]) 58014 rfl rfl ty116 rfl (fun v115 => ?_))
  refine b_op rfl (o_store (cs := [.str [48, 49], .str [49]]) (zs := [.str [48, 49], .str [49]]) rfl rfl rfl ty116 rfl rfl rfl rfl rfl ?_)
  refine b_nil (hK _ ?_)
  refine AW.rgs rfl fun K hK => mv rfl rfl (bv rfl (v_loadP ty116 rfl rfl (l_litA rfl (lb rfl) rfl)) (bv rfl (v_loadP ty116 rfl rfl (l_litA rfl (lb rfl) rfl)) ?_))
  refine b_op rfl (o_bsl rfl rfl (as_of (cs := [.str nS, .str [48, 49]]) ty113 ty116 rfl rfl rfl rfl rfl) ?_)
  refine b_entG kTRace (k := ([48, 49], [49])) (e := Q35_2) (zh := HV.v (.slice none 0 0)) rfl ty138 ty113 rfl rfl rfl (by decide) rfl (by decide) (by repeat first | exact noIt_nil | refine noIt_cons (fun _ _ _ e => by cases e) ?_) fun v116 => ?_
  refine bv rfl (v_extract rfl rfl) ?_
  refine b_op rfl (o_appN (fid := 58) eFirstSecond (m := R35_0) 58075 rfl rfl rfl ty113 ty113 ty116 rfl rfl rfl rfl (by decide) (fun v117 => ?_))
  refine bv rfl (v_extract rfl rfl) ?_
  let O15 : Nat × Nat × AObj := (58022, v2, .gmap (gcan kfSS Q35_4) none)
  let O16 : Nat × Nat × AObj := (58004, v4, .arr 1 113 [.ar 1087021 v107 eFirstSecond.k ((p108).length * eFirstSecond.k) ((R35_2).length)])
  let O17 : Nat × Nat × AObj := (1087021, v107, .arr eFirstSecond.k 116 (eFirstSecond.E (p108 ++ R35_2)))
  let O18 : Nat × Nat × AObj := (58014, v115, .arr 2 116 [.str [48, 49], .str [49]])
  refine bops_to (to_frz 2 [(58075, v117, .arr eFirstSecond.k 116 (eFirstSecond.E R35_0))] (P3 [(14, .ptr 58014 v115 0), (55, hI 2), (56, hI 0), E7, (64, hI 2), (65, hI 1), (69, .mp 58044 v13), (70, .agg [.str [48, 49], .str [49]]), (71, .v (.slice none 0 0)), (72, .agg [.str nS, .str [48, 49]]), (73, slE eFirstSecond R35_0), (74, .tup [.v (.slice none 0 0), .v (goInt v116)]), (75, slE eFirstSecond R35_0), (76, .v (goInt v116))] [O15, O10, O16, O17, (58044, v13, .gmap (gcan kfSS Q35_5) (some (v116, kfSS ([48, 49], [49])))), O14, O12, O18]) ⟨⟨_, rfl, rfl⟩, ⟨_, rfl, rfl⟩, ⟨_, rfl, rfl⟩, ⟨_, rfl, rfl⟩, ⟨_, rfl, rfl⟩, ⟨_, rfl, rfl⟩, ⟨_, rfl, rfl⟩, ⟨_, rfl, rfl⟩, ⟨_, rfl, rfl⟩, ⟨_, rfl, rfl⟩, ⟨_, rfl, rfl⟩, ⟨_, rfl, rfl⟩, ⟨_, rfl, rfl⟩, ⟨_, rfl, rfl⟩, ⟨_, rfl, rfl⟩, ⟨_, rfl, rfl⟩, ⟨_, rfl, rfl⟩, ⟨_, rfl, rfl⟩, ⟨_, rfl, rfl⟩, ⟨_, rfl, rfl⟩, ⟨_, rfl, frz_slE eFirstSecond (l := R35_0) rfl fun _ _ => rfl⟩, ⟨_, rfl, rfl⟩, trivial⟩ ⟨rfl, rfl, rfl, rfl, rfl, rfl, rfl, rfl, rfl, trivial⟩ ⟨rfl, trivial⟩ ⟨rfl, trivial⟩ ?_)
  refine b_entStG kfSS_inj (n := v116) (k := ([48, 49], [49])) (e := Q35_5) (hv := slE eFirstSecond R35_0) rfl rfl rfl rfl rfl (by repeat first | exact noIt_nil | refine noIt_cons (fun _ _ _ e => by cases e) ?_) ?_
  refine b_nil (hK _ ?_)
  refine AW.dls follows fun K hK F hF => ?_
  let O19 : Nat × Nat × AObj := (58044, v13, .gmap (gcan kfSS Q35_6) none)
  refine l_go (L' := []) hF rfl (s' := (P3 [(14, .ptr 58014 v115 0), (55, hI 2), (56, hI 0), E7, (64, hI 2), (65, hI 1)] [O15, O10, O16, O17, O19, O14, O12, O18])) ?_ (le_q rfl rfl)
  let O20 : Nat × Nat × AObj := (58045, v14, .gmap (gcan kfSS Q35_7) none)
  have g118_8 : F [0, 1, 2, 3, 4, 5, 6] (P3 [(14, .ptr 58014 v115 0), (55, hI 2), (56, hI 0), E7, (64, hI 2), (65, hI 1)] [O15, O10, O16, O17, O19, O20, O12, O18]) := by
   refine l_done hF rfl rfl (hK _ ?_)
   refine AW.rg rfl fun K hK => mv rfl rfl (bv rfl (v_loadP ty116 rfl rfl (l_litA rfl (lb rfl) rfl)) ?_)
   refine b_op rfl (o_callA rfl rfl rfl rfl ?_ )
   refine ACall.of_body Tryz.func87 rfl rfl (lb rfl) ?_
   unfold Tryz.f87
   dsimp only [enumS, Nat.reduceAdd]
   refine AW.rgs rfl fun Kj hKj => ?_
   refine b_op rfl (o_box rfl rfl rfl ?_)
   refine b_nil (hKj _ ?_)
   clear hKj Kj
   refine AW.rgs rfl fun Kj hKj => ?_
   refine bv rfl (v_fieldAddrP fo111_1 rfl rfl) (bv rfl (v_loadP ty109 rfl rfl (l_lit rfl rfl)) (bv rfl (v_loadF ty116 rfl (l_litA rfl (lb rfl) rfl)) ?_))
   refine b_lookOkG kTRace (k := ([48, 49], [49])) (e := Q35_4) (zh := hI 0) rfl ty109 ty3 rfl rfl rfl (by decide) rfl (by decide) ?_
   refine mv rfl rfl (bv rfl (v_extract rfl rfl) (bv rfl (v_extract rfl rfl) (mv rfl rfl (mv rfl rfl ?_))))
   refine b_nil (hKj _ ?_)
   clear hKj Kj
   refine AW.rgs rfl fun Kj hKj => ?_
   refine mv rfl rfl (bv rfl (v_not rfl) ?_)
   refine b_nil (hKj _ ?_)
   clear hKj Kj
   refine AW.cond rfl (fun _ => ?_) (fun hc => absurd hc (by decide))
   refine AW.rgs rfl fun Kj hKj => ?_
   refine bv rfl (v_fieldAddrP fo111_1 rfl rfl) (bv rfl (v_loadP ty109 rfl rfl (l_lit rfl rfl)) (bv rfl (v_loadF ty116 rfl (l_litA rfl (lb rfl) rfl)) ?_))
   refine b_setG kTRace (k := ([48, 49], [49])) (e := Q35_4) (hv := hI 9223372036854775807) (.inl rfl) ty109 rfl rfl (by decide) rfl rfl (by decide) (by repeat first | exact noIt_nil | refine noIt_cons (fun _ _ _ e => by cases e) ?_) ?_
   refine b_nil (hKj _ ?_)
   clear hKj Kj
   refine AW.rg rfl fun Kj hKj => ?_
   refine bv rfl (v_loadP ty113 rfl rfl (l_lit rfl rfl)) (bv rfl (v_loadF ty116 rfl (l_litA rfl (lb rfl) rfl)) ?_)
   refine b_op rfl (o_bsl rfl rfl (as_of (cs := [.str [48, 49], .str [49]]) ty113 ty116 rfl rfl rfl rfl rfl) ?_)
   refine b_appQs eFirstSecond (pre := p108) (l := R35_2) (m := R35_3) rfl rfl rfl ty113 ty113 ty116 rfl rfl rfl rfl rfl (by decide) fun v119 p120 => ?_
   refine b_op rfl (o_store (cs := [.ar 1087021 v119 eFirstSecond.k ((p120).length * eFirstSecond.k) ((R35_1).length)]) (zs := [.ar 1087021 v119 eFirstSecond.k ((p120).length * eFirstSecond.k) ((R35_1).length)]) rfl rfl rfl ty113 rfl rfl rfl rfl rfl ?_)
   refine b_nil (hKj _ ?_)
   clear hKj Kj
   refine ret_A (hs := []) (q := .tup []) (.inl rfl) rfl rfl ?_
   refine b_nil (hK _ ?_)
   show AW _ _ _ _ _ _
   refine AW.rg rfl fun K hK => bv rfl (v_bin rfl rfl b_add) (mv rfl rfl ?_)
   refine b_nil (hK _ ?_)
   show UW _ _ _ _ _ _ _
   refine AW.rgs rfl fun K hK => bv rfl (v_bin rfl rfl b_lss) ?_
   refine b_nil (hK _ ?_)
   refine AW.cseq rfl (fun hc => absurd hc (by decide)) (fun _ => ?_)
   refine AW.exit ?_
   refine AW.rg rfl fun K hK => bv rfl (v_bin rfl rfl b_add) (mv rfl rfl ?_)
   refine b_nil (hK _ ?_)
   show UW _ _ _ _ _ _ _
   refine AW.rgs rfl fun K hK => bv rfl (v_bin rfl rfl b_lss) ?_
   refine b_nil (hK _ ?_)
   refine AW.cseq rfl (fun _ => ?_) (fun hc => absurd hc (by decide))
   refine AW.skip ?_
   refine AW.seq (AW.block ?_)
   refine AW.rgs rfl fun K hK => mv rfl rfl (mv rfl rfl ?_)
   refine b_nil (hK _ ?_)
   refine AW.dgs 7 follows rfl rfl fun K hK => ?_
   refine sv rfl (v_loadP ty111 rfl rfl (l_litA rfl (lb rfl) rfl)) ?_
   refine sv rfl (v_loadP ty116 rfl rfl (l_litA rfl (lb rfl) rfl)) ?_
   refine sm rfl rfl ?_
   refine sv rfl (v_idxS ty9 rfl rfl (show idx [48, 49, 50, 51, 52, 53, 54, 55, 56, 57, 97, 98, 99, 100, 101, 102] 1 = some _ from rfl)) ?_
   refine s_op rfl rfl (ops_call rfl rfl rfl rfl (ACallD.pure0 (w_delay_races_after (aft35_A1 (58022, v2)))) ?_)
   refine sv rfl (v_lenF rfl rfl ty113 rfl) ?_
   refine sm rfl rfl ?_
   refine s_nil ?_
   refine b_nil (hK _ ?_)
   refine AW.block ?_
   refine AW.unroll 16 ?_
   refine AW.rgs rfl fun K hK => bv rfl (v_bin rfl rfl b_lss) ?_
   refine b_nil (hK _ ?_)
   refine AW.cseq rfl (fun hc => absurd hc (by decide)) (fun _ => ?_)
   refine AW.exit ?_
   refine AW.rg rfl fun K hK => bv rfl (v_bin rfl rfl b_add) (mv rfl rfl ?_)
   refine b_nil (hK _ ?_)
   show UW _ _ _ _ _ _ _
   refine AW.rgs rfl fun K hK => bv rfl (v_bin rfl rfl b_lss) ?_
   refine b_nil (hK _ ?_)
   refine AW.cseq rfl (fun hc => absurd hc (by decide)) (fun _ => ?_)
   refine AW.exit ?_
   show UW _ _ _ _ _ _ _
   refine AW.seq ?_
   refine AW.rgs rfl fun K hK => bv rfl (v_loadP ty113 rfl rfl (l_lit rfl rfl)) (bv rfl (v_lenA rfl rfl ty113 rfl rfl) (bv rfl (v_bin rfl rfl b_gtr) ?_))
   refine b_nil (hK _ ?_)
   refine AW.cond rfl (fun _ => ?_) (fun hc => absurd hc (by decide))
   refine AW.skip ?_
   refine AW.block ?_
   refine AW.rgs rfl fun K hK => bv rfl (v_loadP ty113 rfl rfl (l_lit rfl rfl)) (bv rfl (v_idxAQs ty113 es113 rfl rfl (idx_lt (show idx R35_1 0 = some _ from rfl)) rfl) (bv rfl (v_loadP ty116 rfl rfl (l_aggQs eFirstSecond (pre := p120) (show idx R35_1 0 = some _ from rfl) rfl rfl)) ?_))
   refine b_op rfl (o_alloc (fid := 58) (zs := [.str nS, .str nS]) 58011 rfl rfl ty116 rfl (fun v124 => ?_))
   refine b_op rfl (o_store (cs := [.str nS, .str [49]]) (zs := [.str nS, .str [49]]) rfl rfl rfl ty116 rfl rfl rfl rfl rfl ?_)
   refine b_nil (hK _ ?_)
   refine AW.rgs rfl fun K hK => bv rfl (v_loadP ty113 rfl rfl (l_lit rfl rfl)) ?_
   refine b_sliceQs eFirstSecond (pre := p120) (l := R35_1) rfl rfl ty113 es113 rfl rfl rfl (by decide) (fun v125 p126 => ?_) (fun h1 => absurd h1 (by decide))
   refine b_op rfl (o_store (cs := [.ar 1087021 v125 eFirstSecond.k ((p126).length * eFirstSecond.k) ((R35_3).length)]) (zs := [.ar 1087021 v125 eFirstSecond.k ((p126).length * eFirstSecond.k) ((R35_3).length)]) rfl rfl rfl ty113 rfl rfl rfl rfl rfl ?_)
   refine b_nil (hK _ ?_)
   refine AW.rgs rfl fun K hK => bv rfl (v_fieldAddrF fo65_0 rfl) (bv rfl (v_loadF ty3 rfl (l_lit rfl rfl)) (mv rfl rfl ?_))
   refine b_nil (hK _ ?_)
   refine AW.block ?_
   refine AW.unroll 16 ?_
   refine AW.rgs rfl fun K hK => bv rfl (v_bin rfl rfl b_lss) ?_
   refine b_nil (hK _ ?_)
   refine AW.cseq rfl (fun _ => ?_) (fun hc => absurd hc (by decide))
   refine AW.skip ?_
   refine AW.seq (AW.block ?_)
   refine AW.rgs rfl fun K hK => mv rfl rfl (mv rfl rfl ?_)
   refine b_nil (hK _ ?_)
   refine AW.dgs 7 follows rfl rfl fun K hK => ?_
   refine sv rfl (v_loadP ty111 rfl rfl (l_litA rfl (lb rfl) rfl)) ?_
   refine sv rfl (v_loadP ty116 rfl rfl (l_litA rfl (lb rfl) rfl)) ?_
   refine sm rfl rfl ?_
   refine sv rfl (v_idxS ty9 rfl rfl (show idx [48, 49, 50, 51, 52, 53, 54, 55, 56, 57, 97, 98, 99, 100, 101, 102] 0 = some _ from rfl)) ?_
   refine s_op rfl rfl (ops_call rfl rfl rfl rfl (ACallD.pure0 (w_delay_races_after (aft35_B0 (58022, v2)))) ?_)
   refine sv rfl (v_lenF rfl rfl ty113 rfl) ?_
   refine sm rfl rfl ?_
   refine s_nil ?_
   refine b_nil (hK _ ?_)
   refine AW.block ?_
   refine AW.unroll 16 ?_
   refine AW.rgs rfl fun K hK => bv rfl (v_bin rfl rfl b_lss) ?_
   refine b_nil (hK _ ?_)
   refine AW.cseq rfl (fun hc => absurd hc (by decide)) (fun _ => ?_)
   refine AW.exit ?_
   refine AW.rg rfl fun K hK => bv rfl (v_bin rfl rfl b_add) (mv rfl rfl ?_)
   refine b_nil (hK _ ?_)
   show UW _ _ _ _ _ _ _
   refine AW.rgs rfl fun K hK => bv rfl (v_bin rfl rfl b_lss) ?_
   refine b_nil (hK _ ?_)
   refine AW.cseq rfl (fun _ => ?_) (fun hc => absurd hc (by decide))
   refine AW.skip ?_
   refine AW.seq (AW.block ?_)
   refine AW.rgs rfl fun K hK => mv rfl rfl (mv rfl rfl ?_)
   refine b_nil (hK _ ?_)
   refine AW.dgs 7 follows rfl rfl fun K hK => ?_
   refine sv rfl (v_loadP ty111 rfl rfl (l_litA rfl (lb rfl) rfl)) ?_
   refine sv rfl (v_loadP ty116 rfl rfl (l_litA rfl (lb rfl) rfl)) ?_
   refine sm rfl rfl ?_
   refine sv rfl (v_idxS ty9 rfl rfl (show idx [48, 49, 50, 51, 52, 53, 54, 55, 56, 57, 97, 98, 99, 100, 101, 102] 1 = some _ from rfl)) ?_
   refine s_op rfl rfl (ops_call rfl rfl rfl rfl (ACallD.pure0 (w_delay_races_after (aft35_B1 (58022, v2)))) ?_)
   refine sv rfl (v_lenF rfl rfl ty113 rfl) ?_
   refine sm rfl rfl ?_
   refine s_nil ?_
   refine b_nil (hK _ ?_)
   refine AW.block ?_
   refine AW.unroll 16 ?_
   refine AW.rgs rfl fun K hK => bv rfl (v_bin rfl rfl b_lss) ?_
   refine b_nil (hK _ ?_)
   refine AW.cseq rfl (fun hc => absurd hc (by decide)) (fun _ => ?_)
   refine AW.exit ?_
   refine AW.rg rfl fun K hK => bv rfl (v_bin rfl rfl b_add) (mv rfl rfl ?_)
   refine b_nil (hK _ ?_)
   show UW _ _ _ _ _ _ _
   refine AW.rgs rfl fun K hK => bv rfl (v_bin rfl rfl b_lss) ?_
   refine b_nil (hK _ ?_)
   refine AW.cseq rfl (fun hc => absurd hc (by decide)) (fun _ => ?_)
   refine AW.exit ?_
   show UW _ _ _ _ _ _ _
   refine AW.seq ?_
   refine AW.rgs rfl fun K hK => bv rfl (v_loadP ty113 rfl rfl (l_lit rfl rfl)) (bv rfl (v_lenA rfl rfl ty113 rfl rfl) (bv rfl (v_bin rfl rfl b_gtr) ?_))
   refine b_nil (hK _ ?_)
   refine AW.cond rfl (fun _ => ?_) (fun hc => absurd hc (by decide))
   refine AW.skip ?_
   refine AW.block ?_
   refine AW.rgs rfl fun K hK => bv rfl (v_loadP ty113 rfl rfl (l_lit rfl rfl)) (bv rfl (v_idxAQs ty113 es113 rfl rfl (idx_lt (show idx R35_3 0 = some _ from rfl)) rfl) (bv rfl (v_loadP ty116 rfl rfl (l_aggQs eFirstSecond (pre := p126) (show idx R35_3 0 = some _ from rfl) rfl rfl)) ?_))
   refine b_op rfl (o_alloc (fid := 58) (zs := [.str nS, .str nS]) 58011 rfl rfl ty116 rfl (fun v132 => ?_))
   refine b_op rfl (o_store (cs := [.str [48, 49], .str [49]]) (zs := [.str [48, 49], .str [49]]) rfl rfl rfl ty116 rfl rfl rfl rfl rfl ?_)
   refine b_nil (hK _ ?_)
   refine AW.rgs rfl fun K hK => bv rfl (v_loadP ty113 rfl rfl (l_lit rfl rfl)) ?_
   refine b_sliceQ1 eFirstSecond (pre := p126) (l := R35_3) rfl rfl ty113 es113 rfl rfl rfl rfl fun v133 p134 q135 h136 => ?_
   refine b_op rfl (o_store (cs := [q135]) (zs := [q135]) rfl rfl rfl ty113 (EmptyQ.cells h136) rfl rfl rfl rfl ?_)
   refine b_nil (hK _ ?_)
   refine AW.rgs rfl fun K hK => bv rfl (v_fieldAddrF fo65_0 rfl) (bv rfl (v_loadF ty3 rfl (l_lit rfl rfl)) (mv rfl rfl ?_))
   refine b_nil (hK _ ?_)
   refine AW.block ?_
   refine AW.unroll 16 ?_
   refine AW.rgs rfl fun K hK => bv rfl (v_bin rfl rfl b_lss) ?_
   refine b_nil (hK _ ?_)
   refine AW.cseq rfl (fun _ => ?_) (fun hc => absurd hc (by decide))
   refine AW.skip ?_
   refine AW.seq (AW.block ?_)
   refine AW.rgs rfl fun K hK => mv rfl rfl (mv rfl rfl ?_)
   refine b_nil (hK _ ?_)
   refine AW.dgs 7 follows rfl rfl fun K hK => ?_
   refine sv rfl (v_loadP ty111 rfl rfl (l_litA rfl (lb rfl) rfl)) ?_
   refine sv rfl (v_loadP ty116 rfl rfl (l_litA rfl (lb rfl) rfl)) ?_
   refine sm rfl rfl ?_
   refine sv rfl (v_idxS ty9 rfl rfl (show idx [48, 49, 50, 51, 52, 53, 54, 55, 56, 57, 97, 98, 99, 100, 101, 102] 0 = some _ from rfl)) ?_
   refine s_op rfl rfl (ops_call rfl rfl rfl rfl (ACallD.pure0 (w_delay_races_after (aft35_C0 (58022, v2)))) ?_)
   refine sv rfl (v_lenF rfl rfl ty113 rfl) ?_
   refine sm rfl rfl ?_
   refine s_nil ?_
   refine b_nil (hK _ ?_)
   refine AW.block ?_
   refine AW.unroll 16 ?_
   refine AW.rgs rfl fun K hK => bv rfl (v_bin rfl rfl b_lss) ?_
   refine b_nil (hK _ ?_)
   refine AW.cseq rfl (fun hc => absurd hc (by decide)) (fun _ => ?_)
   refine AW.exit ?_
   refine AW.rg rfl fun K hK => bv rfl (v_bin rfl rfl b_add) (mv rfl rfl ?_)
   refine b_nil (hK _ ?_)
   show UW _ _ _ _ _ _ _
   refine AW.rgs rfl fun K hK => bv rfl (v_bin rfl rfl b_lss) ?_
   refine b_nil (hK _ ?_)
   refine AW.cseq rfl (fun _ => ?_) (fun hc => absurd hc (by decide))
   refine AW.skip ?_
   refine AW.seq (AW.block ?_)
   refine AW.rgs rfl fun K hK => mv rfl rfl (mv rfl rfl ?_)
   refine b_nil (hK _ ?_)
   refine AW.dgs 7 follows rfl rfl fun K hK => ?_
   refine sv rfl (v_loadP ty111 rfl rfl (l_litA rfl (lb rfl) rfl)) ?_
   refine sv rfl (v_loadP ty116 rfl rfl (l_litA rfl (lb rfl) rfl)) ?_
   refine sm rfl rfl ?_
   refine sv rfl (v_idxS ty9 rfl rfl (show idx [48, 49, 50, 51, 52, 53, 54, 55, 56, 57, 97, 98, 99, 100, 101, 102] 1 = some _ from rfl)) ?_
   refine s_op rfl rfl (ops_call rfl rfl rfl rfl (ACallD.pure0 (w_delay_races_after (aft35_C1 (58022, v2)))) ?_)
   refine sv rfl (v_lenF rfl rfl ty113 rfl) ?_
   refine sm rfl rfl ?_
   refine s_nil ?_
   refine b_nil (hK _ ?_)
   refine AW.block ?_
   refine AW.unroll 16 ?_
   refine AW.rgs rfl fun K hK => bv rfl (v_bin rfl rfl b_lss) ?_
   refine b_nil (hK _ ?_)
   refine AW.cseq rfl (fun hc => absurd hc (by decide)) (fun _ => ?_)
   refine AW.exit ?_
   refine AW.rg rfl fun K hK => bv rfl (v_bin rfl rfl b_add) (mv rfl rfl ?_)
   refine b_nil (hK _ ?_)
   show UW _ _ _ _ _ _ _
   refine AW.rgs rfl fun K hK => bv rfl (v_bin rfl rfl b_lss) ?_
   refine b_nil (hK _ ?_)
   refine AW.cseq rfl (fun hc => absurd hc (by decide)) (fun _ => ?_)
   refine AW.exit ?_
   show UW _ _ _ _ _ _ _
   refine AW.seq ?_
   refine AW.rgs rfl fun K hK => bv rfl (v_loadP ty113 rfl rfl (l_lit rfl rfl)) ?_
   refine b_lenEQ h136 rfl rfl rfl ty113 rfl rfl ?_
   refine bv rfl (v_bin rfl rfl b_gtr) ?_
   refine b_nil (hK _ ?_)
   refine AW.cond rfl (fun hc => absurd hc (by decide)) (fun _ => ?_)
   refine AW.exit ?_
   refine AW.rgs rfl fun K hK => mv rfl rfl ?_
   refine b_nil (hK _ ?_)
   refine AW.seqK fun Au137 hAu137 hTu137 => ?_
   let O21 : Nat × Nat × AObj := (58022, v2, .gmap (gcan kfSS Q35_8) none)
   let P4 : ASf := fun t H => ⟨(2, .ptr 58002 v1 0) :: (3, .ptr 58003 v3 0) :: (9, .mp 58044 v13) :: (10, .mp 58045 v14) :: t, O8 :: O10 :: H⟩
   have cu137_0 : ∀ (v190 : Nat) (p477 : List TFirstSecond), Au137 (P4 [(15, .ar 58102 v190 eFirstSecond.k ((p477).length * eFirstSecond.k) ((R35_1).length))] [O21, O19, O20, (58102, v190, .arr eFirstSecond.k 116 (eFirstSecond.E (p477 ++ R35_1)))]) := by
    intro v190 p477
    refine hAu137 _ ?_
    refine AW.rgs rfl fun K hK => b_op rfl (o_makeMap (fid := 58) (fun _ : Unit => HV.bool true) 58103 rfl rfl (fun v483 => ?_))
    refine b_to (to_gmap kfSS (id := 58103) (ver := v483) rfl ?_)
    refine mv rfl rfl ?_
    refine b_nil (hK _ ?_)
    refine AW.seq (AW.block ?_)
    refine AW.unroll 16 ?_
    refine AW.seq ?_
    refine AW.rgs rfl fun K hK => mv rfl rfl (bv rfl (v_lenA rfl rfl ty113 rfl rfl) (bv rfl (v_bin rfl rfl b_gtr) ?_))
    refine b_nil (hK _ ?_)
    refine AW.cond rfl (fun _ => ?_) (fun hc => absurd hc (by decide))
    refine AW.skip ?_
    refine AW.block ?_
    refine AW.rgs rfl fun K hK => mv rfl rfl (bv rfl (v_idxAQs ty113 es113 rfl rfl (idx_lt (show idx R35_1 0 = some _ from rfl)) rfl) (bv rfl (v_loadP ty116 rfl rfl (l_aggQs eFirstSecond (pre := p477) (show idx R35_1 0 = some _ from rfl) rfl rfl)) ?_))
    refine b_op rfl (o_alloc (fid := 58) (zs := [.str nS, .str nS]) 58018 rfl rfl ty116 rfl (fun v491 => ?_))
    refine b_op rfl (o_store (cs := [.str nS, .str [49]]) (zs := [.str nS, .str [49]]) rfl rfl rfl ty116 rfl rfl rfl rfl rfl ?_)
    refine b_nil (hK _ ?_)
    refine AW.rgs rfl fun K hK => mv rfl rfl ?_
    refine b_sliceQs eFirstSecond (pre := p477) (l := R35_1) rfl rfl ty113 es113 rfl rfl rfl (by decide) (fun v492 p493 => ?_) (fun h1 => absurd h1 (by decide))
    refine mv rfl rfl ?_
    refine b_nil (hK _ ?_)
    refine AW.dgs 6 follows rfl rfl fun K hK => ?_
    refine sv rfl (v_fieldAddrP fo111_1 rfl rfl) ?_
    refine sv rfl (v_loadP ty109 rfl rfl (l_lit rfl rfl)) ?_
    refine sv rfl (v_loadP ty116 rfl rfl (l_litA rfl (lb rfl) rfl)) ?_
    refine sm rfl rfl ?_
    refine sv rfl (v_loadP ty116 rfl rfl (l_litA rfl (lb rfl) rfl)) ?_
    refine s_op rfl rfl (ops_lookG kTRace (k := ([], [49])) (e := []) (zh := hI 0) rfl ty109 ty3 rfl rfl rfl (by decide) rfl (by decide) ?_)
    refine s_nil ?_
    refine b_setG kTRace (k := ([], [49])) (e := Q35_8) (hv := hI 0) (.inl rfl) ty109 rfl rfl (by decide) rfl rfl (by decide) (by repeat first | exact noIt_nil | refine noIt_cons (fun _ _ _ e => by cases e) ?_) ?_
    refine b_nil (hK _ ?_)
    refine AW.rgs rfl fun K hK => mv rfl rfl (bv rfl (v_loadP ty116 rfl rfl (l_litA rfl (lb rfl) rfl)) ?_)
    refine b_lookG kTRace (k := ([], [49])) (e := Q35_6) (zh := HV.v (.slice none 0 0)) rfl ty138 ty113 rfl rfl rfl (by decide) rfl (by decide) ?_
    refine bv rfl (v_lenF rfl rfl ty113 rfl) (mv rfl rfl ?_)
    refine b_nil (hK _ ?_)
    refine AW.block ?_
    refine AW.unroll 16 ?_
    refine AW.rgs rfl fun K hK => bv rfl (v_bin rfl rfl b_lss) ?_
    refine b_nil (hK _ ?_)
    refine AW.cseq rfl (fun _ => ?_) (fun hc => absurd hc (by decide))
    refine AW.skip ?_
    refine AW.seq (AW.block ?_)
    refine AW.rgs rfl fun K hK => bv rfl (v_idxF ty113 es113 rfl rfl (idx_lt (show idx R35_0 0 = some _ from rfl))) (bv rfl (v_loadF ty116 rfl (l_agg eFirstSecond (show idx R35_0 0 = some _ from rfl) rfl rfl)) ?_)
    refine b_op rfl (o_alloc (fid := 58) (zs := [.str nS, .str nS]) 58020 rfl rfl ty116 rfl (fun v496 => ?_))
    refine b_op rfl (o_store (cs := [.str nS, .str [48, 49]]) (zs := [.str nS, .str [48, 49]]) rfl rfl rfl ty116 rfl rfl rfl rfl rfl ?_)
    refine b_nil (hK _ ?_)
    refine AW.dgs 10 follows rfl rfl fun K hK => ?_
    refine sm rfl rfl ?_
    refine sv rfl (v_loadP ty116 rfl rfl (l_litA rfl (lb rfl) rfl)) ?_
    refine sm rfl rfl ?_
    refine sv rfl (v_loadP ty116 rfl rfl (l_litA rfl (lb rfl) rfl)) ?_
    refine s_op rfl rfl (ops_lookG kTRace (k := ([], [48, 49])) (e := []) (zh := hI 0) rfl ty109 ty3 rfl rfl rfl (by decide) rfl (by decide) ?_)
    refine sm rfl rfl ?_
    refine sv rfl (v_loadP ty116 rfl rfl (l_litA rfl (lb rfl) rfl)) ?_
    refine s_op rfl rfl (ops_lookG kTRace (k := ([], [49])) (e := []) (zh := hI 0) rfl ty109 ty3 rfl rfl rfl (by decide) rfl (by decide) ?_)
    refine sv rfl (v_bin rfl rfl b_add) ?_
    refine sv rfl (v_max rfl rfl rfl) ?_
    refine s_nil ?_
    refine b_setG kTRace (k := ([], [48, 49])) (e := []) (hv := hI 1) (.inl rfl) ty109 rfl rfl (by decide) rfl rfl (by decide) (by repeat first | exact noIt_nil | refine noIt_cons (fun _ _ _ e => by cases e) ?_) ?_
    refine b_nil (hK _ ?_)
    refine AW.dls follows fun K hK F hF => ?_
    let E22 : Nat × HV := (15, .ar 58102 v492 eFirstSecond.k ((p493).length * eFirstSecond.k) ((R35_3).length))
    let E23 : Nat × HV := (120, slE eFirstSecond R35_0)
    let O25 : Nat × Nat × AObj := (58022, v2, .gmap (gcan kfSS Q35_9) none)
    let O26 : Nat × Nat × AObj := (58102, v492, .arr eFirstSecond.k 116 (eFirstSecond.E (p493 ++ R35_3)))
    let O27 : Nat × Nat × AObj := (58103, v483, .gmap (gcan kfSS Q35_3) none)
    let O28 : Nat × Nat × AObj := (58018, v491, .arr 2 116 [.str nS, .str [49]])
    let O29 : Nat × Nat × AObj := (58020, v496, .arr 2 116 [.str nS, .str [48, 49]])
    refine l_go (L' := []) hF rfl (s' := (P4 [E22, (17, .mp 58103 v483), (18, .ptr 58018 v491 0), (20, .ptr 58020 v496 0), E23, (121, hI 1), (122, hI 0)] [O25, O19, O20, O26, O27, O28, O29])) ?_ (le_q rfl rfl)
    have g497_8 : F [0, 1, 2, 3, 4, 5, 6] (P4 [E22, (17, .mp 58103 v483), (18, .ptr 58018 v491 0), (20, .ptr 58020 v496 0), E23, (121, hI 1), (122, hI 0)] [O25, O19, O14, O26, O27, O28, O29]) := by
     refine l_done hF rfl rfl (hK _ ?_)
     refine AW.rgs rfl fun K hK => mv rfl rfl (bv rfl (v_loadP ty116 rfl rfl (l_litA rfl (lb rfl) rfl)) ?_)
     refine b_lookG kTRace (k := ([], [48, 49])) (e := Q35_3) (zh := hI 0) rfl ty109 ty3 rfl rfl rfl (by decide) rfl (by decide) ?_
     refine bv rfl (v_bin rfl rfl b_eql) ?_
     refine b_nil (hK _ ?_)
     refine AW.cond rfl (fun hc => absurd hc (by decide)) (fun _ => ?_)
     refine AW.skip ?_
     refine AW.rg rfl fun K hK => bv rfl (v_bin rfl rfl b_add) (mv rfl rfl ?_)
     refine b_nil (hK _ ?_)
     show UW _ _ _ _ _ _ _
     refine AW.rgs rfl fun K hK => bv rfl (v_bin rfl rfl b_lss) ?_
     refine b_nil (hK _ ?_)
     refine AW.cseq rfl (fun hc => absurd hc (by decide)) (fun _ => ?_)
     refine AW.exit ?_
     show UW _ _ _ _ _ _ _
     refine AW.seq ?_
     refine AW.rgs rfl fun K hK => mv rfl rfl (bv rfl (v_lenA rfl rfl ty113 rfl rfl) (bv rfl (v_bin rfl rfl b_gtr) ?_))
     refine b_nil (hK _ ?_)
     refine AW.cond rfl (fun _ => ?_) (fun hc => absurd hc (by decide))
     refine AW.skip ?_
     refine AW.block ?_
     refine AW.rgs rfl fun K hK => mv rfl rfl (bv rfl (v_idxAQs ty113 es113 rfl rfl (idx_lt (show idx R35_3 0 = some _ from rfl)) rfl) (bv rfl (v_loadP ty116 rfl rfl (l_aggQs eFirstSecond (pre := p493) (show idx R35_3 0 = some _ from rfl) rfl rfl)) ?_))
     refine b_op rfl (o_alloc (fid := 58) (zs := [.str nS, .str nS]) 58018 rfl rfl ty116 rfl (fun v511 => ?_))
     refine b_op rfl (o_store (cs := [.str [48, 49], .str [49]]) (zs := [.str [48, 49], .str [49]]) rfl rfl rfl ty116 rfl rfl rfl rfl rfl ?_)
     refine b_nil (hK _ ?_)
     refine AW.rgs rfl fun K hK => mv rfl rfl ?_
     refine b_sliceQ1 eFirstSecond (pre := p493) (l := R35_3) rfl rfl ty113 es113 rfl rfl rfl rfl fun v512 p513 q514 h515 => ?_
     refine mv rfl rfl ?_
     refine b_nil (hK _ ?_)
     refine AW.dgs 6 follows rfl rfl fun K hK => ?_
     refine sv rfl (v_fieldAddrP fo111_1 rfl rfl) ?_
     refine sv rfl (v_loadP ty109 rfl rfl (l_lit rfl rfl)) ?_
     refine sv rfl (v_loadP ty116 rfl rfl (l_litA rfl (lb rfl) rfl)) ?_
     refine sm rfl rfl ?_
     refine sv rfl (v_loadP ty116 rfl rfl (l_litA rfl (lb rfl) rfl)) ?_
     refine s_op rfl rfl (ops_lookG kTRace (k := ([48, 49], [49])) (e := Q35_3) (zh := hI 0) rfl ty109 ty3 rfl rfl rfl (by decide) rfl (by decide) ?_)
     refine s_nil ?_
     refine b_setG kTRace (k := ([48, 49], [49])) (e := Q35_9) (hv := hI 0) (.inl rfl) ty109 rfl rfl (by decide) rfl rfl (by decide) (by repeat first | exact noIt_nil | refine noIt_cons (fun _ _ _ e => by cases e) ?_) ?_
     refine b_nil (hK _ ?_)
     refine AW.rgs rfl fun K hK => mv rfl rfl (bv rfl (v_loadP ty116 rfl rfl (l_litA rfl (lb rfl) rfl)) ?_)
     refine b_lookG kTRace (k := ([48, 49], [49])) (e := Q35_6) (zh := HV.v (.slice none 0 0)) rfl ty138 ty113 rfl rfl rfl (by decide) rfl (by decide) ?_
     refine bv rfl (v_lenF rfl rfl ty113 rfl) (mv rfl rfl ?_)
     refine b_nil (hK _ ?_)
     refine AW.block ?_
     refine AW.unroll 16 ?_
     refine AW.rgs rfl fun K hK => bv rfl (v_bin rfl rfl b_lss) ?_
     refine b_nil (hK _ ?_)
     refine AW.cseq rfl (fun _ => ?_) (fun hc => absurd hc (by decide))
     refine AW.skip ?_
     refine AW.seq (AW.block ?_)
     refine AW.rgs rfl fun K hK => bv rfl (v_idxF ty113 es113 rfl rfl (idx_lt (show idx R35_0 0 = some _ from rfl))) (bv rfl (v_loadF ty116 rfl (l_agg eFirstSecond (show idx R35_0 0 = some _ from rfl) rfl rfl)) ?_)
     refine b_op rfl (o_alloc (fid := 58) (zs := [.str nS, .str nS]) 58020 rfl rfl ty116 rfl (fun v520 => ?_))
     refine b_op rfl (o_store (cs := [.str nS, .str [48, 49]]) (zs := [.str nS, .str [48, 49]]) rfl rfl rfl ty116 rfl rfl rfl rfl rfl ?_)
     refine b_nil (hK _ ?_)
     refine AW.dgs 10 follows rfl rfl fun K hK => ?_
     refine sm rfl rfl ?_
     refine sv rfl (v_loadP ty116 rfl rfl (l_litA rfl (lb rfl) rfl)) ?_
     refine sm rfl rfl ?_
     refine sv rfl (v_loadP ty116 rfl rfl (l_litA rfl (lb rfl) rfl)) ?_
     refine s_op rfl rfl (ops_lookG kTRace (k := ([], [48, 49])) (e := Q35_3) (zh := hI 0) rfl ty109 ty3 rfl rfl rfl (by decide) rfl (by decide) ?_)
     refine sm rfl rfl ?_
     refine sv rfl (v_loadP ty116 rfl rfl (l_litA rfl (lb rfl) rfl)) ?_
     refine s_op rfl rfl (ops_lookG kTRace (k := ([48, 49], [49])) (e := Q35_3) (zh := hI 0) rfl ty109 ty3 rfl rfl rfl (by decide) rfl (by decide) ?_)
     refine sv rfl (v_bin rfl rfl b_add) ?_
     refine sv rfl (v_max rfl rfl rfl) ?_
     refine s_nil ?_
     refine b_setG kTRace (k := ([], [48, 49])) (e := Q35_3) (hv := hI 1) (.inl rfl) ty109 rfl rfl (by decide) rfl rfl (by decide) (by repeat first | exact noIt_nil | refine noIt_cons (fun _ _ _ e => by cases e) ?_) ?_
     refine b_nil (hK _ ?_)
     refine AW.dls follows fun K hK F hF => ?_
     refine l_go (L' := []) hF rfl (s' := (P4 [(15, q514), (17, .mp 58103 v483), (18, .ptr 58018 v511 0), (20, .ptr 58020 v520 0), E23, (121, hI 1), (122, hI 0)] [(58022, v2, .gmap (gcan kfSS Q35_10) none), O19, O14, (58102, v512, .arr eFirstSecond.k 116 (eFirstSecond.E p513)), O27, (58018, v511, .arr 2 116 [.str [48, 49], .str [49]]), (58020, v520, .arr 2 116 [.str nS, .str [48, 49]])])) ?_ (le_q rfl rfl)
     have g521_8 : F [0, 1, 2, 3, 4, 5, 6] (P4 [(15, q514), (17, .mp 58103 v483), (18, .ptr 58018 v511 0), (20, .ptr 58020 v520 0), E23, (121, hI 1), (122, hI 0)] [(58022, v2, .gmap (gcan kfSS Q35_10) none), O19, (58045, v14, .gmap (gcan kfSS Q35_11) none), (58102, v512, .arr eFirstSecond.k 116 (eFirstSecond.E p513)), O27, (58018, v511, .arr 2 116 [.str [48, 49], .str [49]]), (58020, v520, .arr 2 116 [.str nS, .str [48, 49]])]) := by
      refine l_done hF rfl rfl (hK _ ?_)
      refine AW.rgs rfl fun K hK => mv rfl rfl (bv rfl (v_loadP ty116 rfl rfl (l_litA rfl (lb rfl) rfl)) ?_)
      refine b_lookG kTRace (k := ([], [48, 49])) (e := Q35_11) (zh := hI 0) rfl ty109 ty3 rfl rfl rfl (by decide) rfl (by decide) ?_
      refine bv rfl (v_bin rfl rfl b_eql) ?_
      refine b_nil (hK _ ?_)
      refine AW.cond rfl (fun _ => ?_) (fun hc => absurd hc (by decide))
      refine AW.rg rfl fun K hK => mv rfl rfl (bv rfl (v_loadP ty116 rfl rfl (l_litA rfl (lb rfl) rfl)) ?_)
      refine b_op rfl (o_bsl rfl rfl (as_of (cs := [.str nS, .str [48, 49]]) ty113 ty116 rfl rfl rfl rfl rfl) ?_)
      refine b_appEQ eFirstSecond (m := R35_0) h515 rfl rfl rfl ty113 ty113 ty116 rfl rfl rfl rfl rfl (by decide) (by decide) fun v522 p523 => ?_
      refine mv rfl rfl ?_
      refine b_nil (hK _ ?_)
      show AW _ _ _ _ _ _
      refine AW.rg rfl fun K hK => bv rfl (v_bin rfl rfl b_add) (mv rfl rfl ?_)
      refine b_nil (hK _ ?_)
      show UW _ _ _ _ _ _ _
      refine AW.rgs rfl fun K hK => bv rfl (v_bin rfl rfl b_lss) ?_
      refine b_nil (hK _ ?_)
      refine AW.cseq rfl (fun hc => absurd hc (by decide)) (fun _ => ?_)
      refine AW.exit ?_
      show UW _ _ _ _ _ _ _
      refine AW.seq ?_
      refine AW.rgs rfl fun K hK => mv rfl rfl (bv rfl (v_lenA rfl rfl ty113 rfl rfl) (bv rfl (v_bin rfl rfl b_gtr) ?_))
      refine b_nil (hK _ ?_)
      refine AW.cond rfl (fun _ => ?_) (fun hc => absurd hc (by decide))
      refine AW.skip ?_
      refine AW.block ?_
      refine AW.rgs rfl fun K hK => mv rfl rfl (bv rfl (v_idxAQs ty113 es113 rfl rfl (idx_lt (show idx R35_0 0 = some _ from rfl)) rfl) (bv rfl (v_loadP ty116 rfl rfl (l_aggQs eFirstSecond (pre := p523) (show idx R35_0 0 = some _ from rfl) rfl rfl)) ?_))
      refine b_op rfl (o_alloc (fid := 58) (zs := [.str nS, .str nS]) 58018 rfl rfl ty116 rfl (fun v529 => ?_))
      refine b_op rfl (o_store (cs := [.str nS, .str [48, 49]]) (zs := [.str nS, .str [48, 49]]) rfl rfl rfl ty116 rfl rfl rfl rfl rfl ?_)
      refine b_nil (hK _ ?_)
      refine AW.rgs rfl fun K hK => mv rfl rfl ?_
      refine b_sliceQ1 eFirstSecond (pre := p523) (l := R35_0) rfl rfl ty113 es113 rfl rfl rfl rfl fun v530 p531 q532 h533 => ?_
      refine mv rfl rfl ?_
      refine b_nil (hK _ ?_)
      refine AW.dgs 6 follows rfl rfl fun K hK => ?_
      refine sv rfl (v_fieldAddrP fo111_1 rfl rfl) ?_
      refine sv rfl (v_loadP ty109 rfl rfl (l_lit rfl rfl)) ?_
      refine sv rfl (v_loadP ty116 rfl rfl (l_litA rfl (lb rfl) rfl)) ?_
      refine sm rfl rfl ?_
      refine sv rfl (v_loadP ty116 rfl rfl (l_litA rfl (lb rfl) rfl)) ?_
      refine s_op rfl rfl (ops_lookG kTRace (k := ([], [48, 49])) (e := Q35_3) (zh := hI 0) rfl ty109 ty3 rfl rfl rfl (by decide) rfl (by decide) ?_)
      refine s_nil ?_
      refine b_setG kTRace (k := ([], [48, 49])) (e := Q35_10) (hv := hI 1) (.inl rfl) ty109 rfl rfl (by decide) rfl rfl (by decide) (by repeat first | exact noIt_nil | refine noIt_cons (fun _ _ _ e => by cases e) ?_) ?_
      refine b_nil (hK _ ?_)
      refine AW.rgs rfl fun K hK => mv rfl rfl (bv rfl (v_loadP ty116 rfl rfl (l_litA rfl (lb rfl) rfl)) ?_)
      refine b_lookG kTRace (k := ([], [48, 49])) (e := Q35_6) (zh := HV.v (.slice none 0 0)) rfl ty138 ty113 rfl rfl rfl (by decide) rfl (by decide) ?_
      refine bv rfl (v_lenN rfl rfl ty113 rfl) (mv rfl rfl ?_)
      refine b_nil (hK _ ?_)
      refine AW.block ?_
      refine AW.unroll 16 ?_
      refine AW.rgs rfl fun K hK => bv rfl (v_bin rfl rfl b_lss) ?_
      refine b_nil (hK _ ?_)
      refine AW.cseq rfl (fun hc => absurd hc (by decide)) (fun _ => ?_)
      refine AW.exit ?_
      show UW _ _ _ _ _ _ _
      refine AW.seq ?_
      refine AW.rgs rfl fun K hK => mv rfl rfl ?_
      refine b_lenEQ h533 rfl rfl rfl ty113 rfl rfl ?_
      refine bv rfl (v_bin rfl rfl b_gtr) ?_
      refine b_nil (hK _ ?_)
      refine AW.cond rfl (fun hc => absurd hc (by decide)) (fun _ => ?_)
      refine AW.exit ?_
      refine AW.rgs rfl fun K hK => bv rfl (v_loadP ty111 rfl rfl (l_litA rfl (lb rfl) rfl)) ?_
      refine b_op rfl (o_store (cs := [hI 2, W35, .mp 58022 v2]) (zs := [hI 2, W35, .mp 58022 v2]) rfl rfl rfl ty111 rfl rfl rfl rfl rfl ?_)
      refine b_nil (hK _ ?_)
      refine AW.to (to_le (s' := ⟨[(2, .ptr 58002 v1 0)], [(58002, v1, .arr 3 111 [hI 2, W35, .mp 58022 v2]), (58022, v2, .gmap (gcan kfSS Q35_12) none)]⟩) (le_q rfl rfl) ?_)
      refine AW.ret ?_
      refine ret_A (hs := [.agg [hI 2, W35, .mp 58022 v2]]) (q := HV.agg [hI 2, W35, .mp 58022 v2]) (.inr rfl) (resP ty111 rfl rfl (l_litA rfl (lb rfl) rfl) rfl) rfl ?_
      exact hK0 _ _ _ rfl
     let P : ASf := fun t H => ⟨(2, .ptr 58002 v1 0) :: (3, .ptr 58003 v3 0) :: (9, .mp 58044 v13) :: (10, .mp 58045 v14) :: (15, q514) :: (17, .mp 58103 v483) :: (18, .ptr 58018 v511 0) :: (20, .ptr 58020 v520 0) :: (120, slE eFirstSecond R35_0) :: (121, hI 1) :: (122, hI 0) :: t, (58002, v1, .arr 3 111 [hI 0, .v (.slice none 0 0), .v (.map none)]) :: (58003, v3, .arr 3 111 [hI 2, W35, .mp 58022 v2]) :: (58022, v2, .gmap (gcan kfSS Q35_10) none) :: (58044, v13, .gmap (gcan kfSS Q35_6) none) :: H⟩
     have g521_7 : ∀ (v5210401 : Nat), F [0, 1, 2, 3, 4, 5] (P [(136, .mp 58045 v14), (139, hI 0), (141, .v (goInt v5210401))] [(58045, v14, .gmap (gcan kfSS Q35_3) (some (v5210401, kfSS ([], [48, 49])))), (58102, v512, .arr eFirstSecond.k 116 (eFirstSecond.E p513)), (58103, v483, .gmap (gcan kfSS Q35_3) none), (58018, v511, .arr 2 116 [.str [48, 49], .str [49]]), (58020, v520, .arr 2 116 [.str nS, .str [48, 49]])]) := by
      intro v5210401
      refine l_step hF rfl [6] rfl rfl ⟨?_, trivial⟩
      refine l_opX rfl rfl rfl (fun hN => o_entStG hN kfSS_inj (n := v5210401) (k := ([], [48, 49])) (e := Q35_3) (hv := hI 0) rfl rfl rfl rfl rfl (by repeat first | exact noIt_nil | refine noIt_cons (fun _ _ _ e => by cases e) ?_) ?_)
      exact b_nil (lg hF (g521_8))
     have g521_6 : ∀ (v5210401 : Nat), F [0, 1, 2, 4, 5] (P [(136, .mp 58045 v14), (138, hI 1), (141, .v (goInt v5210401))] [(58045, v14, .gmap (gcan kfSS Q35_3) (some (v5210401, kfSS ([], [48, 49])))), (58102, v512, .arr eFirstSecond.k 116 (eFirstSecond.E p513)), (58103, v483, .gmap (gcan kfSS Q35_3) none), (58018, v511, .arr 2 116 [.str [48, 49], .str [49]]), (58020, v520, .arr 2 116 [.str nS, .str [48, 49]])]) := by
      intro v5210401
      refine l_takeW (i := 3) hF rfl rfl rfl (f_bin rfl rfl rfl b_sub rfl) ?_
      exact lg hF (g521_7 v5210401)
     have g521_10 : ∀ (v5210401 : Nat), F [0, 1, 2, 3, 4] (P [(136, .mp 58045 v14), (139, hI 0), (140, .tup [hI 1, .v (goInt v5210401)])] [(58045, v14, .gmap (gcan kfSS Q35_3) (some (v5210401, kfSS ([], [48, 49])))), (58102, v512, .arr eFirstSecond.k 116 (eFirstSecond.E p513)), (58103, v483, .gmap (gcan kfSS Q35_3) none), (58018, v511, .arr 2 116 [.str [48, 49], .str [49]]), (58020, v520, .arr 2 116 [.str nS, .str [48, 49]])]) := by
      intro v5210401
      refine l_takeW (i := 5) hF rfl rfl rfl (f_ext rfl rfl rfl) ?_
      exact lg hF (g521_7 v5210401)
     have g521_5 : ∀ (v5210401 : Nat), F [0, 1, 4, 5] (P [(136, .mp 58045 v14), (137, .agg [.str nS, .str [48, 49]]), (141, .v (goInt v5210401))] [(58045, v14, .gmap (gcan kfSS Q35_3) (some (v5210401, kfSS ([], [48, 49])))), (58102, v512, .arr eFirstSecond.k 116 (eFirstSecond.E p513)), (58103, v483, .gmap (gcan kfSS Q35_3) none), (58018, v511, .arr 2 116 [.str [48, 49], .str [49]]), (58020, v520, .arr 2 116 [.str nS, .str [48, 49]])]) := by
      intro v5210401
      refine l_step hF rfl [2] rfl rfl ⟨?_, trivial⟩
      refine l_opX rfl rfl rfl (fun hN => o_lookG hN kTRace (k := ([], [48, 49])) (e := Q35_3) (zh := hI 0) rfl ty109 ty3 rfl rfl rfl (by decide) rfl (by decide) ?_)
      exact b_nil (lg hF (g521_6 v5210401))
     have g521_9 : F [0, 1, 2, 3] (P [(136, .mp 58045 v14), (137, .agg [.str nS, .str [48, 49]]), (139, hI 0)] [(58045, v14, .gmap (gcan kfSS Q35_3) none), (58102, v512, .arr eFirstSecond.k 116 (eFirstSecond.E p513)), (58103, v483, .gmap (gcan kfSS Q35_3) none), (58018, v511, .arr 2 116 [.str [48, 49], .str [49]]), (58020, v520, .arr 2 116 [.str nS, .str [48, 49]])]) := by
      refine l_step hF rfl [4] rfl rfl ⟨?_, trivial⟩
      refine l_opX rfl rfl rfl (fun hN => o_entG hN kTRace (k := ([], [48, 49])) (e := Q35_3) (zh := hI 0) rfl ty109 ty3 rfl rfl rfl (by decide) rfl (by decide) (by repeat first | exact noIt_nil | refine noIt_cons (fun _ _ _ e => by cases e) ?_) fun v5210401 => ?_)
      exact b_nil (lg hF (g521_10 v5210401))
     have g521_3 : F [0, 1, 2] (P [(136, .mp 58045 v14), (137, .agg [.str nS, .str [48, 49]]), (138, hI 1)] [(58045, v14, .gmap (gcan kfSS Q35_3) none), (58102, v512, .arr eFirstSecond.k 116 (eFirstSecond.E p513)), (58103, v483, .gmap (gcan kfSS Q35_3) none), (58018, v511, .arr 2 116 [.str [48, 49], .str [49]]), (58020, v520, .arr 2 116 [.str nS, .str [48, 49]])]) := by
      refine l_takeW (i := 3) hF rfl rfl rfl (f_bin rfl rfl rfl b_sub rfl) ?_
      exact lg hF (g521_9)
     have g521_4 : ∀ (v5210401 : Nat), F [0, 1, 4] (P [(136, .mp 58045 v14), (137, .agg [.str nS, .str [48, 49]]), (140, .tup [hI 1, .v (goInt v5210401)])] [(58045, v14, .gmap (gcan kfSS Q35_3) (some (v5210401, kfSS ([], [48, 49])))), (58102, v512, .arr eFirstSecond.k 116 (eFirstSecond.E p513)), (58103, v483, .gmap (gcan kfSS Q35_3) none), (58018, v511, .arr 2 116 [.str [48, 49], .str [49]]), (58020, v520, .arr 2 116 [.str nS, .str [48, 49]])]) := by
      intro v5210401
      refine l_takeW (i := 5) hF rfl rfl rfl (f_ext rfl rfl rfl) ?_
      exact lg hF (g521_5 v5210401)
     have g521_2 : F [0, 1] (P [(136, .mp 58045 v14), (137, .agg [.str nS, .str [48, 49]])] [(58045, v14, .gmap (gcan kfSS Q35_3) none), (58102, v512, .arr eFirstSecond.k 116 (eFirstSecond.E p513)), (58103, v483, .gmap (gcan kfSS Q35_3) none), (58018, v511, .arr 2 116 [.str [48, 49], .str [49]]), (58020, v520, .arr 2 116 [.str nS, .str [48, 49]])]) := by
      refine l_step hF rfl [2, 4] rfl rfl ⟨?_, ?_, trivial⟩
      ·refine l_opX rfl rfl rfl (fun hN => o_lookG hN kTRace (k := ([], [48, 49])) (e := Q35_3) (zh := hI 0) rfl ty109 ty3 rfl rfl rfl (by decide) rfl (by decide) ?_)
       exact b_nil (lg hF (g521_3))
      refine l_opX rfl rfl rfl (fun hN => o_entG hN kTRace (k := ([], [48, 49])) (e := Q35_3) (zh := hI 0) rfl ty109 ty3 rfl rfl rfl (by decide) rfl (by decide) (by repeat first | exact noIt_nil | refine noIt_cons (fun _ _ _ e => by cases e) ?_) fun v5210401 => ?_)
      exact b_nil (lg hF (g521_4 v5210401))
     have g521_1 : F [0] (P [(136, .mp 58045 v14)] [(58045, v14, .gmap (gcan kfSS Q35_3) none), (58102, v512, .arr eFirstSecond.k 116 (eFirstSecond.E p513)), (58103, v483, .gmap (gcan kfSS Q35_3) none), (58018, v511, .arr 2 116 [.str [48, 49], .str [49]]), (58020, v520, .arr 2 116 [.str nS, .str [48, 49]])]) := by
      refine l_step hF rfl [1] rfl rfl ⟨?_, trivial⟩
      exact l_ov rfl rfl rfl rfl (v_loadP ty116 rfl rfl (l_litA rfl (lb rfl) rfl)) (lg hF (g521_2))
     have g521_0 : F [] (P [] [(58045, v14, .gmap (gcan kfSS Q35_3) none), (58102, v512, .arr eFirstSecond.k 116 (eFirstSecond.E p513)), (58103, v483, .gmap (gcan kfSS Q35_3) none), (58018, v511, .arr 2 116 [.str [48, 49], .str [49]]), (58020, v520, .arr 2 116 [.str nS, .str [48, 49]])]) := by
      refine l_take (i := 0) hF rfl rfl rfl (mv_val rfl rfl).2 ?_
      exact lg hF (g521_1)
     exact g521_0
    let P : ASf := fun t H => ⟨(2, .ptr 58002 v1 0) :: (3, .ptr 58003 v3 0) :: (9, .mp 58044 v13) :: (10, .mp 58045 v14) :: (15, .ar 58102 v492 eFirstSecond.k ((p493).length * eFirstSecond.k) ((R35_3).length)) :: (17, .mp 58103 v483) :: (18, .ptr 58018 v491 0) :: (20, .ptr 58020 v496 0) :: (120, slE eFirstSecond R35_0) :: (121, hI 1) :: (122, hI 0) :: t, (58002, v1, .arr 3 111 [hI 0, .v (.slice none 0 0), .v (.map none)]) :: (58003, v3, .arr 3 111 [hI 2, W35, .mp 58022 v2]) :: (58022, v2, .gmap (gcan kfSS Q35_9) none) :: (58044, v13, .gmap (gcan kfSS Q35_6) none) :: (58045, v14, .gmap (gcan kfSS Q35_7) none) :: (58102, v492, .arr eFirstSecond.k 116 (eFirstSecond.E (p493 ++ R35_3))) :: (58103, v483, .gmap (gcan kfSS Q35_3) none) :: (58018, v491, .arr 2 116 [.str nS, .str [49]]) :: (58020, v496, .arr 2 116 [.str nS, .str [48, 49]]) :: H⟩
    have g497_7 : ∀ (v4970401 : Nat), F [0, 1, 2, 3, 4, 5] (P4 [E22, (17, .mp 58103 v483), (18, .ptr 58018 v491 0), (20, .ptr 58020 v496 0), E23, (121, hI 1), (122, hI 0), (136, .mp 58045 v14), (139, hI 1), (141, .v (goInt v4970401))] [O25, O19, (58045, v14, .gmap (gcan kfSS Q35_7) (some (v4970401, kfSS ([], [48, 49])))), O26, O27, O28, O29]) := by
     intro v4970401
     refine l_step hF rfl [6] rfl rfl ⟨?_, trivial⟩
     refine l_opX rfl rfl rfl (fun hN => o_entStG hN kfSS_inj (n := v4970401) (k := ([], [48, 49])) (e := Q35_7) (hv := hI 1) rfl rfl rfl rfl rfl (by repeat first | exact noIt_nil | refine noIt_cons (fun _ _ _ e => by cases e) ?_) ?_)
     exact b_nil (lg hF (g497_8))
    have g497_6 : ∀ (v4970401 : Nat), F [0, 1, 2, 4, 5] (P4 [E22, (17, .mp 58103 v483), (18, .ptr 58018 v491 0), (20, .ptr 58020 v496 0), E23, (121, hI 1), (122, hI 0), (136, .mp 58045 v14), (138, hI 2), (141, .v (goInt v4970401))] [O25, O19, (58045, v14, .gmap (gcan kfSS Q35_7) (some (v4970401, kfSS ([], [48, 49])))), O26, O27, O28, O29]) := by
     intro v4970401
     refine l_takeW (i := 3) hF rfl rfl rfl (f_bin rfl rfl rfl b_sub rfl) ?_
     exact lg hF (g497_7 v4970401)
    have g497_10 : ∀ (v4970401 : Nat), F [0, 1, 2, 3, 4] (P4 [E22, (17, .mp 58103 v483), (18, .ptr 58018 v491 0), (20, .ptr 58020 v496 0), E23, (121, hI 1), (122, hI 0), (136, .mp 58045 v14), (139, hI 1), (140, .tup [hI 2, .v (goInt v4970401)])] [O25, O19, (58045, v14, .gmap (gcan kfSS Q35_7) (some (v4970401, kfSS ([], [48, 49])))), O26, O27, O28, O29]) := by
     intro v4970401
     refine l_takeW (i := 5) hF rfl rfl rfl (f_ext rfl rfl rfl) ?_
     exact lg hF (g497_7 v4970401)
    have g497_5 : ∀ (v4970401 : Nat), F [0, 1, 4, 5] (P4 [E22, (17, .mp 58103 v483), (18, .ptr 58018 v491 0), (20, .ptr 58020 v496 0), E23, (121, hI 1), (122, hI 0), (136, .mp 58045 v14), (137, .agg [.str nS, .str [48, 49]]), (141, .v (goInt v4970401))] [O25, O19, (58045, v14, .gmap (gcan kfSS Q35_7) (some (v4970401, kfSS ([], [48, 49])))), O26, O27, O28, O29]) := by
     intro v4970401
     refine l_step hF rfl [2] rfl rfl ⟨?_, trivial⟩
     refine l_opX rfl rfl rfl (fun hN => o_lookG hN kTRace (k := ([], [48, 49])) (e := Q35_7) (zh := hI 0) rfl ty109 ty3 rfl rfl rfl (by decide) rfl (by decide) ?_)
     exact b_nil (lg hF (g497_6 v4970401))
    have g497_9 : F [0, 1, 2, 3] (P [(136, .mp 58045 v14), (137, .agg [.str nS, .str [48, 49]]), (139, hI 1)] []) := by
     refine l_step hF rfl [4] rfl rfl ⟨?_, trivial⟩
     refine l_opX rfl rfl rfl (fun hN => o_entG hN kTRace (k := ([], [48, 49])) (e := Q35_7) (zh := hI 0) rfl ty109 ty3 rfl rfl rfl (by decide) rfl (by decide) (by repeat first | exact noIt_nil | refine noIt_cons (fun _ _ _ e => by cases e) ?_) fun v4970401 => ?_)
     exact b_nil (lg hF (g497_10 v4970401))
    have g497_3 : F [0, 1, 2] (P [(136, .mp 58045 v14), (137, .agg [.str nS, .str [48, 49]]), (138, hI 2)] []) := by
     refine l_takeW (i := 3) hF rfl rfl rfl (f_bin rfl rfl rfl b_sub rfl) ?_
     exact lg hF (g497_9)
    have g497_4 : ∀ (v4970401 : Nat), F [0, 1, 4] (P4 [E22, (17, .mp 58103 v483), (18, .ptr 58018 v491 0), (20, .ptr 58020 v496 0), E23, (121, hI 1), (122, hI 0), (136, .mp 58045 v14), (137, .agg [.str nS, .str [48, 49]]), (140, .tup [hI 2, .v (goInt v4970401)])] [O25, O19, (58045, v14, .gmap (gcan kfSS Q35_7) (some (v4970401, kfSS ([], [48, 49])))), O26, O27, O28, O29]) := by
     intro v4970401
     refine l_takeW (i := 5) hF rfl rfl rfl (f_ext rfl rfl rfl) ?_
     exact lg hF (g497_5 v4970401)
    have g497_2 : F [0, 1] (P [(136, .mp 58045 v14), (137, .agg [.str nS, .str [48, 49]])] []) := by
     refine l_step hF rfl [2, 4] rfl rfl ⟨?_, ?_, trivial⟩
     ·refine l_opX rfl rfl rfl (fun hN => o_lookG hN kTRace (k := ([], [48, 49])) (e := Q35_7) (zh := hI 0) rfl ty109 ty3 rfl rfl rfl (by decide) rfl (by decide) ?_)
      exact b_nil (lg hF (g497_3))
     refine l_opX rfl rfl rfl (fun hN => o_entG hN kTRace (k := ([], [48, 49])) (e := Q35_7) (zh := hI 0) rfl ty109 ty3 rfl rfl rfl (by decide) rfl (by decide) (by repeat first | exact noIt_nil | refine noIt_cons (fun _ _ _ e => by cases e) ?_) fun v4970401 => ?_)
     exact b_nil (lg hF (g497_4 v4970401))
    have g497_1 : F [0] (P [(136, .mp 58045 v14)] []) := by
     refine l_step hF rfl [1] rfl rfl ⟨?_, trivial⟩
     exact l_ov rfl rfl rfl rfl (v_loadP ty116 rfl rfl (l_litA rfl (lb rfl) rfl)) (lg hF (g497_2))
    have g497_0 : F [] (P [] []) := by
     refine l_take (i := 0) hF rfl rfl rfl (mv_val rfl rfl).2 ?_
     exact lg hF (g497_1)
    exact g497_0
   have cu137_1 : ∀ (v227 : Nat) (p478 : List TFirstSecond), Au137 (P4 [(15, .ar 58102 v227 eFirstSecond.k ((p478).length * eFirstSecond.k) ((R35_4).length))] [O21, O19, O20, (58102, v227, .arr eFirstSecond.k 116 (eFirstSecond.E (p478 ++ R35_4)))]) := by
    intro v227 p478
    refine hAu137 _ ?_
    refine AW.rgs rfl fun K hK => b_op rfl (o_makeMap (fid := 58) (fun _ : Unit => HV.bool true) 58103 rfl rfl (fun v534 => ?_))
    refine b_to (to_gmap kfSS (id := 58103) (ver := v534) rfl ?_)
    refine mv rfl rfl ?_
    refine b_nil (hK _ ?_)
    refine AW.seq (AW.block ?_)
    refine AW.unroll 16 ?_
    refine AW.seq ?_
    refine AW.rgs rfl fun K hK => mv rfl rfl (bv rfl (v_lenA rfl rfl ty113 rfl rfl) (bv rfl (v_bin rfl rfl b_gtr) ?_))
    refine b_nil (hK _ ?_)
    refine AW.cond rfl (fun _ => ?_) (fun hc => absurd hc (by decide))
    refine AW.skip ?_
    refine AW.block ?_
    refine AW.rgs rfl fun K hK => mv rfl rfl (bv rfl (v_idxAQs ty113 es113 rfl rfl (idx_lt (show idx R35_4 0 = some _ from rfl)) rfl) (bv rfl (v_loadP ty116 rfl rfl (l_aggQs eFirstSecond (pre := p478) (show idx R35_4 0 = some _ from rfl) rfl rfl)) ?_))
    refine b_op rfl (o_alloc (fid := 58) (zs := [.str nS, .str nS]) 58018 rfl rfl ty116 rfl (fun v542 => ?_))
    refine b_op rfl (o_store (cs := [.str [48, 49], .str [49]]) (zs := [.str [48, 49], .str [49]]) rfl rfl rfl ty116 rfl rfl rfl rfl rfl ?_)
    refine b_nil (hK _ ?_)
    refine AW.rgs rfl fun K hK => mv rfl rfl ?_
    refine b_sliceQs eFirstSecond (pre := p478) (l := R35_4) rfl rfl ty113 es113 rfl rfl rfl (by decide) (fun v543 p544 => ?_) (fun h1 => absurd h1 (by decide))
    refine mv rfl rfl ?_
    refine b_nil (hK _ ?_)
    refine AW.dgs 6 follows rfl rfl fun K hK => ?_
    refine sv rfl (v_fieldAddrP fo111_1 rfl rfl) ?_
    refine sv rfl (v_loadP ty109 rfl rfl (l_lit rfl rfl)) ?_
    refine sv rfl (v_loadP ty116 rfl rfl (l_litA rfl (lb rfl) rfl)) ?_
    refine sm rfl rfl ?_
    refine sv rfl (v_loadP ty116 rfl rfl (l_litA rfl (lb rfl) rfl)) ?_
    refine s_op rfl rfl (ops_lookG kTRace (k := ([48, 49], [49])) (e := []) (zh := hI 0) rfl ty109 ty3 rfl rfl rfl (by decide) rfl (by decide) ?_)
    refine s_nil ?_
    refine b_setG kTRace (k := ([48, 49], [49])) (e := Q35_8) (hv := hI 0) (.inl rfl) ty109 rfl rfl (by decide) rfl rfl (by decide) (by repeat first | exact noIt_nil | refine noIt_cons (fun _ _ _ e => by cases e) ?_) ?_
    refine b_nil (hK _ ?_)
    refine AW.rgs rfl fun K hK => mv rfl rfl (bv rfl (v_loadP ty116 rfl rfl (l_litA rfl (lb rfl) rfl)) ?_)
    refine b_lookG kTRace (k := ([48, 49], [49])) (e := Q35_6) (zh := HV.v (.slice none 0 0)) rfl ty138 ty113 rfl rfl rfl (by decide) rfl (by decide) ?_
    refine bv rfl (v_lenF rfl rfl ty113 rfl) (mv rfl rfl ?_)
    refine b_nil (hK _ ?_)
    refine AW.block ?_
    refine AW.unroll 16 ?_
    refine AW.rgs rfl fun K hK => bv rfl (v_bin rfl rfl b_lss) ?_
    refine b_nil (hK _ ?_)
    refine AW.cseq rfl (fun _ => ?_) (fun hc => absurd hc (by decide))
    refine AW.skip ?_
    refine AW.seq (AW.block ?_)
    refine AW.rgs rfl fun K hK => bv rfl (v_idxF ty113 es113 rfl rfl (idx_lt (show idx R35_0 0 = some _ from rfl))) (bv rfl (v_loadF ty116 rfl (l_agg eFirstSecond (show idx R35_0 0 = some _ from rfl) rfl rfl)) ?_)
    refine b_op rfl (o_alloc (fid := 58) (zs := [.str nS, .str nS]) 58020 rfl rfl ty116 rfl (fun v547 => ?_))
    refine b_op rfl (o_store (cs := [.str nS, .str [48, 49]]) (zs := [.str nS, .str [48, 49]]) rfl rfl rfl ty116 rfl rfl rfl rfl rfl ?_)
    refine b_nil (hK _ ?_)
    refine AW.dgs 10 follows rfl rfl fun K hK => ?_
    refine sm rfl rfl ?_
    refine sv rfl (v_loadP ty116 rfl rfl (l_litA rfl (lb rfl) rfl)) ?_
    refine sm rfl rfl ?_
    refine sv rfl (v_loadP ty116 rfl rfl (l_litA rfl (lb rfl) rfl)) ?_
    refine s_op rfl rfl (ops_lookG kTRace (k := ([], [48, 49])) (e := []) (zh := hI 0) rfl ty109 ty3 rfl rfl rfl (by decide) rfl (by decide) ?_)
    refine sm rfl rfl ?_
    refine sv rfl (v_loadP ty116 rfl rfl (l_litA rfl (lb rfl) rfl)) ?_
    refine s_op rfl rfl (ops_lookG kTRace (k := ([48, 49], [49])) (e := []) (zh := hI 0) rfl ty109 ty3 rfl rfl rfl (by decide) rfl (by decide) ?_)
    refine sv rfl (v_bin rfl rfl b_add) ?_
    refine sv rfl (v_max rfl rfl rfl) ?_
    refine s_nil ?_
    refine b_setG kTRace (k := ([], [48, 49])) (e := []) (hv := hI 1) (.inl rfl) ty109 rfl rfl (by decide) rfl rfl (by decide) (by repeat first | exact noIt_nil | refine noIt_cons (fun _ _ _ e => by cases e) ?_) ?_
    refine b_nil (hK _ ?_)
    refine AW.dls follows fun K hK F hF => ?_
    let E24 : Nat × HV := (120, slE eFirstSecond R35_0)
    let E30 : Nat × HV := (15, .ar 58102 v543 eFirstSecond.k ((p544).length * eFirstSecond.k) ((R35_2).length))
    let O31 : Nat × Nat × AObj := (58022, v2, .gmap (gcan kfSS Q35_13) none)
    let O32 : Nat × Nat × AObj := (58102, v543, .arr eFirstSecond.k 116 (eFirstSecond.E (p544 ++ R35_2)))
    let O33 : Nat × Nat × AObj := (58103, v534, .gmap (gcan kfSS Q35_3) none)
    let O34 : Nat × Nat × AObj := (58018, v542, .arr 2 116 [.str [48, 49], .str [49]])
    let O35 : Nat × Nat × AObj := (58020, v547, .arr 2 116 [.str nS, .str [48, 49]])
    refine l_go (L' := []) hF rfl (s' := (P4 [E30, (17, .mp 58103 v534), (18, .ptr 58018 v542 0), (20, .ptr 58020 v547 0), E24, (121, hI 1), (122, hI 0)] [O31, O19, O20, O32, O33, O34, O35])) ?_ (le_q rfl rfl)
    have g548_8 : F [0, 1, 2, 3, 4, 5, 6] (P4 [E30, (17, .mp 58103 v534), (18, .ptr 58018 v542 0), (20, .ptr 58020 v547 0), E24, (121, hI 1), (122, hI 0)] [O31, O19, O14, O32, O33, O34, O35]) := by
     refine l_done hF rfl rfl (hK _ ?_)
     refine AW.rgs rfl fun K hK => mv rfl rfl (bv rfl (v_loadP ty116 rfl rfl (l_litA rfl (lb rfl) rfl)) ?_)
     refine b_lookG kTRace (k := ([], [48, 49])) (e := Q35_3) (zh := hI 0) rfl ty109 ty3 rfl rfl rfl (by decide) rfl (by decide) ?_
     refine bv rfl (v_bin rfl rfl b_eql) ?_
     refine b_nil (hK _ ?_)
     refine AW.cond rfl (fun hc => absurd hc (by decide)) (fun _ => ?_)
     refine AW.skip ?_
     refine AW.rg rfl fun K hK => bv rfl (v_bin rfl rfl b_add) (mv rfl rfl ?_)
     refine b_nil (hK _ ?_)
     show UW _ _ _ _ _ _ _
     refine AW.rgs rfl fun K hK => bv rfl (v_bin rfl rfl b_lss) ?_
     refine b_nil (hK _ ?_)
     refine AW.cseq rfl (fun hc => absurd hc (by decide)) (fun _ => ?_)
     refine AW.exit ?_
     show UW _ _ _ _ _ _ _
     refine AW.seq ?_
     refine AW.rgs rfl fun K hK => mv rfl rfl (bv rfl (v_lenA rfl rfl ty113 rfl rfl) (bv rfl (v_bin rfl rfl b_gtr) ?_))
     refine b_nil (hK _ ?_)
     refine AW.cond rfl (fun _ => ?_) (fun hc => absurd hc (by decide))
     refine AW.skip ?_
     refine AW.block ?_
     refine AW.rgs rfl fun K hK => mv rfl rfl (bv rfl (v_idxAQs ty113 es113 rfl rfl (idx_lt (show idx R35_2 0 = some _ from rfl)) rfl) (bv rfl (v_loadP ty116 rfl rfl (l_aggQs eFirstSecond (pre := p544) (show idx R35_2 0 = some _ from rfl) rfl rfl)) ?_))
     refine b_op rfl (o_alloc (fid := 58) (zs := [.str nS, .str nS]) 58018 rfl rfl ty116 rfl (fun v562 => ?_))
     refine b_op rfl (o_store (cs := [.str nS, .str [49]]) (zs := [.str nS, .str [49]]) rfl rfl rfl ty116 rfl rfl rfl rfl rfl ?_)
     refine b_nil (hK _ ?_)
     refine AW.rgs rfl fun K hK => mv rfl rfl ?_
     refine b_sliceQ1 eFirstSecond (pre := p544) (l := R35_2) rfl rfl ty113 es113 rfl rfl rfl rfl fun v563 p564 q565 h566 => ?_
     refine mv rfl rfl ?_
     refine b_nil (hK _ ?_)
     refine AW.dgs 6 follows rfl rfl fun K hK => ?_
     refine sv rfl (v_fieldAddrP fo111_1 rfl rfl) ?_
     refine sv rfl (v_loadP ty109 rfl rfl (l_lit rfl rfl)) ?_
     refine sv rfl (v_loadP ty116 rfl rfl (l_litA rfl (lb rfl) rfl)) ?_
     refine sm rfl rfl ?_
     refine sv rfl (v_loadP ty116 rfl rfl (l_litA rfl (lb rfl) rfl)) ?_
     refine s_op rfl rfl (ops_lookG kTRace (k := ([], [49])) (e := Q35_3) (zh := hI 0) rfl ty109 ty3 rfl rfl rfl (by decide) rfl (by decide) ?_)
     refine s_nil ?_
     refine b_setG kTRace (k := ([], [49])) (e := Q35_13) (hv := hI 0) (.inl rfl) ty109 rfl rfl (by decide) rfl rfl (by decide) (by repeat first | exact noIt_nil | refine noIt_cons (fun _ _ _ e => by cases e) ?_) ?_
     refine b_nil (hK _ ?_)
     refine AW.rgs rfl fun K hK => mv rfl rfl (bv rfl (v_loadP ty116 rfl rfl (l_litA rfl (lb rfl) rfl)) ?_)
     refine b_lookG kTRace (k := ([], [49])) (e := Q35_6) (zh := HV.v (.slice none 0 0)) rfl ty138 ty113 rfl rfl rfl (by decide) rfl (by decide) ?_
     refine bv rfl (v_lenF rfl rfl ty113 rfl) (mv rfl rfl ?_)
     refine b_nil (hK _ ?_)
     refine AW.block ?_
     refine AW.unroll 16 ?_
     refine AW.rgs rfl fun K hK => bv rfl (v_bin rfl rfl b_lss) ?_
     refine b_nil (hK _ ?_)
     refine AW.cseq rfl (fun _ => ?_) (fun hc => absurd hc (by decide))
     refine AW.skip ?_
     refine AW.seq (AW.block ?_)
     refine AW.rgs rfl fun K hK => bv rfl (v_idxF ty113 es113 rfl rfl (idx_lt (show idx R35_0 0 = some _ from rfl))) (bv rfl (v_loadF ty116 rfl (l_agg eFirstSecond (show idx R35_0 0 = some _ from rfl) rfl rfl)) ?_)
     refine b_op rfl (o_alloc (fid := 58) (zs := [.str nS, .str nS]) 58020 rfl rfl ty116 rfl (fun v571 => ?_))
     refine b_op rfl (o_store (cs := [.str nS, .str [48, 49]]) (zs := [.str nS, .str [48, 49]]) rfl rfl rfl ty116 rfl rfl rfl rfl rfl ?_)
     refine b_nil (hK _ ?_)
     refine AW.dgs 10 follows rfl rfl fun K hK => ?_
     refine sm rfl rfl ?_
     refine sv rfl (v_loadP ty116 rfl rfl (l_litA rfl (lb rfl) rfl)) ?_
     refine sm rfl rfl ?_
     refine sv rfl (v_loadP ty116 rfl rfl (l_litA rfl (lb rfl) rfl)) ?_
     refine s_op rfl rfl (ops_lookG kTRace (k := ([], [48, 49])) (e := Q35_3) (zh := hI 0) rfl ty109 ty3 rfl rfl rfl (by decide) rfl (by decide) ?_)
     refine sm rfl rfl ?_
     refine sv rfl (v_loadP ty116 rfl rfl (l_litA rfl (lb rfl) rfl)) ?_
     refine s_op rfl rfl (ops_lookG kTRace (k := ([], [49])) (e := Q35_3) (zh := hI 0) rfl ty109 ty3 rfl rfl rfl (by decide) rfl (by decide) ?_)
     refine sv rfl (v_bin rfl rfl b_add) ?_
     refine sv rfl (v_max rfl rfl rfl) ?_
     refine s_nil ?_
     refine b_setG kTRace (k := ([], [48, 49])) (e := Q35_3) (hv := hI 1) (.inl rfl) ty109 rfl rfl (by decide) rfl rfl (by decide) (by repeat first | exact noIt_nil | refine noIt_cons (fun _ _ _ e => by cases e) ?_) ?_
     refine b_nil (hK _ ?_)
     refine AW.dls follows fun K hK F hF => ?_
     refine l_go (L' := []) hF rfl (s' := (P4 [(15, q565), (17, .mp 58103 v534), (18, .ptr 58018 v562 0), (20, .ptr 58020 v571 0), E24, (121, hI 1), (122, hI 0)] [(58022, v2, .gmap (gcan kfSS Q35_10) none), O19, O14, (58102, v563, .arr eFirstSecond.k 116 (eFirstSecond.E p564)), O33, (58018, v562, .arr 2 116 [.str nS, .str [49]]), (58020, v571, .arr 2 116 [.str nS, .str [48, 49]])])) ?_ (le_q rfl rfl)
     have g572_8 : F [0, 1, 2, 3, 4, 5, 6] (P4 [(15, q565), (17, .mp 58103 v534), (18, .ptr 58018 v562 0), (20, .ptr 58020 v571 0), E24, (121, hI 1), (122, hI 0)] [(58022, v2, .gmap (gcan kfSS Q35_10) none), O19, (58045, v14, .gmap (gcan kfSS Q35_11) none), (58102, v563, .arr eFirstSecond.k 116 (eFirstSecond.E p564)), O33, (58018, v562, .arr 2 116 [.str nS, .str [49]]), (58020, v571, .arr 2 116 [.str nS, .str [48, 49]])]) := by
      refine l_done hF rfl rfl (hK _ ?_)
      refine AW.rgs rfl fun K hK => mv rfl rfl (bv rfl (v_loadP ty116 rfl rfl (l_litA rfl (lb rfl) rfl)) ?_)
      refine b_lookG kTRace (k := ([], [48, 49])) (e := Q35_11) (zh := hI 0) rfl ty109 ty3 rfl rfl rfl (by decide) rfl (by decide) ?_
      refine bv rfl (v_bin rfl rfl b_eql) ?_
      refine b_nil (hK _ ?_)
      refine AW.cond rfl (fun _ => ?_) (fun hc => absurd hc (by decide))
      refine AW.rg rfl fun K hK => mv rfl rfl (bv rfl (v_loadP ty116 rfl rfl (l_litA rfl (lb rfl) rfl)) ?_)
      refine b_op rfl (o_bsl rfl rfl (as_of (cs := [.str nS, .str [48, 49]]) ty113 ty116 rfl rfl rfl rfl rfl) ?_)
      refine b_appEQ eFirstSecond (m := R35_0) h566 rfl rfl rfl ty113 ty113 ty116 rfl rfl rfl rfl rfl (by decide) (by decide) fun v573 p574 => ?_
      refine mv rfl rfl ?_
      refine b_nil (hK _ ?_)
      show AW _ _ _ _ _ _
      refine AW.rg rfl fun K hK => bv rfl (v_bin rfl rfl b_add) (mv rfl rfl ?_)
      refine b_nil (hK _ ?_)
      show UW _ _ _ _ _ _ _
      refine AW.rgs rfl fun K hK => bv rfl (v_bin rfl rfl b_lss) ?_
      refine b_nil (hK _ ?_)
      refine AW.cseq rfl (fun hc => absurd hc (by decide)) (fun _ => ?_)
      refine AW.exit ?_
      show UW _ _ _ _ _ _ _
      refine AW.seq ?_
      refine AW.rgs rfl fun K hK => mv rfl rfl (bv rfl (v_lenA rfl rfl ty113 rfl rfl) (bv rfl (v_bin rfl rfl b_gtr) ?_))
      refine b_nil (hK _ ?_)
      refine AW.cond rfl (fun _ => ?_) (fun hc => absurd hc (by decide))
      refine AW.skip ?_
      refine AW.block ?_
      refine AW.rgs rfl fun K hK => mv rfl rfl (bv rfl (v_idxAQs ty113 es113 rfl rfl (idx_lt (show idx R35_0 0 = some _ from rfl)) rfl) (bv rfl (v_loadP ty116 rfl rfl (l_aggQs eFirstSecond (pre := p574) (show idx R35_0 0 = some _ from rfl) rfl rfl)) ?_))
      refine b_op rfl (o_alloc (fid := 58) (zs := [.str nS, .str nS]) 58018 rfl rfl ty116 rfl (fun v580 => ?_))
      refine b_op rfl (o_store (cs := [.str nS, .str [48, 49]]) (zs := [.str nS, .str [48, 49]]) rfl rfl rfl ty116 rfl rfl rfl rfl rfl ?_)
      refine b_nil (hK _ ?_)
      refine AW.rgs rfl fun K hK => mv rfl rfl ?_
      refine b_sliceQ1 eFirstSecond (pre := p574) (l := R35_0) rfl rfl ty113 es113 rfl rfl rfl rfl fun v581 p582 q583 h584 => ?_
      refine mv rfl rfl ?_
      refine b_nil (hK _ ?_)
      refine AW.dgs 6 follows rfl rfl fun K hK => ?_
      refine sv rfl (v_fieldAddrP fo111_1 rfl rfl) ?_
      refine sv rfl (v_loadP ty109 rfl rfl (l_lit rfl rfl)) ?_
      refine sv rfl (v_loadP ty116 rfl rfl (l_litA rfl (lb rfl) rfl)) ?_
      refine sm rfl rfl ?_
      refine sv rfl (v_loadP ty116 rfl rfl (l_litA rfl (lb rfl) rfl)) ?_
      refine s_op rfl rfl (ops_lookG kTRace (k := ([], [48, 49])) (e := Q35_3) (zh := hI 0) rfl ty109 ty3 rfl rfl rfl (by decide) rfl (by decide) ?_)
      refine s_nil ?_
      refine b_setG kTRace (k := ([], [48, 49])) (e := Q35_10) (hv := hI 1) (.inl rfl) ty109 rfl rfl (by decide) rfl rfl (by decide) (by repeat first | exact noIt_nil | refine noIt_cons (fun _ _ _ e => by cases e) ?_) ?_
      refine b_nil (hK _ ?_)
      refine AW.rgs rfl fun K hK => mv rfl rfl (bv rfl (v_loadP ty116 rfl rfl (l_litA rfl (lb rfl) rfl)) ?_)
      refine b_lookG kTRace (k := ([], [48, 49])) (e := Q35_6) (zh := HV.v (.slice none 0 0)) rfl ty138 ty113 rfl rfl rfl (by decide) rfl (by decide) ?_
      refine bv rfl (v_lenN rfl rfl ty113 rfl) (mv rfl rfl ?_)
      refine b_nil (hK _ ?_)
      refine AW.block ?_
      refine AW.unroll 16 ?_
      refine AW.rgs rfl fun K hK => bv rfl (v_bin rfl rfl b_lss) ?_
      refine b_nil (hK _ ?_)
      refine AW.cseq rfl (fun hc => absurd hc (by decide)) (fun _ => ?_)
      refine AW.exit ?_
      show UW _ _ _ _ _ _ _
      refine AW.seq ?_
      refine AW.rgs rfl fun K hK => mv rfl rfl ?_
      refine b_lenEQ h584 rfl rfl rfl ty113 rfl rfl ?_
      refine bv rfl (v_bin rfl rfl b_gtr) ?_
      refine b_nil (hK _ ?_)
      refine AW.cond rfl (fun hc => absurd hc (by decide)) (fun _ => ?_)
      refine AW.exit ?_
      refine AW.rgs rfl fun K hK => bv rfl (v_loadP ty111 rfl rfl (l_litA rfl (lb rfl) rfl)) ?_
      refine b_op rfl (o_store (cs := [hI 2, W35, .mp 58022 v2]) (zs := [hI 2, W35, .mp 58022 v2]) rfl rfl rfl ty111 rfl rfl rfl rfl rfl ?_)
      refine b_nil (hK _ ?_)
      refine AW.to (to_le (s' := ⟨[(2, .ptr 58002 v1 0)], [(58002, v1, .arr 3 111 [hI 2, W35, .mp 58022 v2]), (58022, v2, .gmap (gcan kfSS Q35_12) none)]⟩) (le_q rfl rfl) ?_)
      refine AW.ret ?_
      refine ret_A (hs := [.agg [hI 2, W35, .mp 58022 v2]]) (q := HV.agg [hI 2, W35, .mp 58022 v2]) (.inr rfl) (resP ty111 rfl rfl (l_litA rfl (lb rfl) rfl) rfl) rfl ?_
      exact hK0 _ _ _ rfl
     let P : ASf := fun t H => ⟨(2, .ptr 58002 v1 0) :: (3, .ptr 58003 v3 0) :: (9, .mp 58044 v13) :: (10, .mp 58045 v14) :: (15, q565) :: (17, .mp 58103 v534) :: (18, .ptr 58018 v562 0) :: (20, .ptr 58020 v571 0) :: (120, slE eFirstSecond R35_0) :: (121, hI 1) :: (122, hI 0) :: t, (58002, v1, .arr 3 111 [hI 0, .v (.slice none 0 0), .v (.map none)]) :: (58003, v3, .arr 3 111 [hI 2, W35, .mp 58022 v2]) :: (58022, v2, .gmap (gcan kfSS Q35_10) none) :: (58044, v13, .gmap (gcan kfSS Q35_6) none) :: H⟩
     have g572_7 : ∀ (v5720401 : Nat), F [0, 1, 2, 3, 4, 5] (P [(136, .mp 58045 v14), (139, hI 0), (141, .v (goInt v5720401))] [(58045, v14, .gmap (gcan kfSS Q35_3) (some (v5720401, kfSS ([], [48, 49])))), (58102, v563, .arr eFirstSecond.k 116 (eFirstSecond.E p564)), (58103, v534, .gmap (gcan kfSS Q35_3) none), (58018, v562, .arr 2 116 [.str nS, .str [49]]), (58020, v571, .arr 2 116 [.str nS, .str [48, 49]])]) := by
      intro v5720401
      refine l_step hF rfl [6] rfl rfl ⟨?_, trivial⟩
      refine l_opX rfl rfl rfl (fun hN => o_entStG hN kfSS_inj (n := v5720401) (k := ([], [48, 49])) (e := Q35_3) (hv := hI 0) rfl rfl rfl rfl rfl (by repeat first | exact noIt_nil | refine noIt_cons (fun _ _ _ e => by cases e) ?_) ?_)
      exact b_nil (lg hF (g572_8))
     have g572_6 : ∀ (v5720401 : Nat), F [0, 1, 2, 4, 5] (P [(136, .mp 58045 v14), (138, hI 1), (141, .v (goInt v5720401))] [(58045, v14, .gmap (gcan kfSS Q35_3) (some (v5720401, kfSS ([], [48, 49])))), (58102, v563, .arr eFirstSecond.k 116 (eFirstSecond.E p564)), (58103, v534, .gmap (gcan kfSS Q35_3) none), (58018, v562, .arr 2 116 [.str nS, .str [49]]), (58020, v571, .arr 2 116 [.str nS, .str [48, 49]])]) := by
      intro v5720401
      refine l_takeW (i := 3) hF rfl rfl rfl (f_bin rfl rfl rfl b_sub rfl) ?_
      exact lg hF (g572_7 v5720401)
     have g572_10 : ∀ (v5720401 : Nat), F [0, 1, 2, 3, 4] (P [(136, .mp 58045 v14), (139, hI 0), (140, .tup [hI 1, .v (goInt v5720401)])] [(58045, v14, .gmap (gcan kfSS Q35_3) (some (v5720401, kfSS ([], [48, 49])))), (58102, v563, .arr eFirstSecond.k 116 (eFirstSecond.E p564)), (58103, v534, .gmap (gcan kfSS Q35_3) none), (58018, v562, .arr 2 116 [.str nS, .str [49]]), (58020, v571, .arr 2 116 [.str nS, .str [48, 49]])]) := by
      intro v5720401
      refine l_takeW (i := 5) hF rfl rfl rfl (f_ext rfl rfl rfl) ?_
      exact lg hF (g572_7 v5720401)
     have g572_5 : ∀ (v5720401 : Nat), F [0, 1, 4, 5] (P [(136, .mp 58045 v14), (137, .agg [.str nS, .str [48, 49]]), (141, .v (goInt v5720401))] [(58045, v14, .gmap (gcan kfSS Q35_3) (some (v5720401, kfSS ([], [48, 49])))), (58102, v563, .arr eFirstSecond.k 116 (eFirstSecond.E p564)), (58103, v534, .gmap (gcan kfSS Q35_3) none), (58018, v562, .arr 2 116 [.str nS, .str [49]]), (58020, v571, .arr 2 116 [.str nS, .str [48, 49]])]) := by
      intro v5720401
      refine l_step hF rfl [2] rfl rfl ⟨?_, trivial⟩
      refine l_opX rfl rfl rfl (fun hN => o_lookG hN kTRace (k := ([], [48, 49])) (e := Q35_3) (zh := hI 0) rfl ty109 ty3 rfl rfl rfl (by decide) rfl (by decide) ?_)
      exact b_nil (lg hF (g572_6 v5720401))
     have g572_9 : F [0, 1, 2, 3] (P [(136, .mp 58045 v14), (137, .agg [.str nS, .str [48, 49]]), (139, hI 0)] [(58045, v14, .gmap (gcan kfSS Q35_3) none), (58102, v563, .arr eFirstSecond.k 116 (eFirstSecond.E p564)), (58103, v534, .gmap (gcan kfSS Q35_3) none), (58018, v562, .arr 2 116 [.str nS, .str [49]]), (58020, v571, .arr 2 116 [.str nS, .str [48, 49]])]) := by
      refine l_step hF rfl [4] rfl rfl ⟨?_, trivial⟩
      refine l_opX rfl rfl rfl (fun hN => o_entG hN kTRace (k := ([], [48, 49])) (e := Q35_3) (zh := hI 0) rfl ty109 ty3 rfl rfl rfl (by decide) rfl (by decide) (by repeat first | exact noIt_nil | refine noIt_cons (fun _ _ _ e => by cases e) ?_) fun v5720401 => ?_)
      exact b_nil (lg hF (g572_10 v5720401))
     have g572_3 : F [0, 1, 2] (P [(136, .mp 58045 v14), (137, .agg [.str nS, .str [48, 49]]), (138, hI 1)] [(58045, v14, .gmap (gcan kfSS Q35_3) none), (58102, v563, .arr eFirstSecond.k 116 (eFirstSecond.E p564)), (58103, v534, .gmap (gcan kfSS Q35_3) none), (58018, v562, .arr 2 116 [.str nS, .str [49]]), (58020, v571, .arr 2 116 [.str nS, .str [48, 49]])]) := by
      refine l_takeW (i := 3) hF rfl rfl rfl (f_bin rfl rfl rfl b_sub rfl) ?_
      exact lg hF (g572_9)
     have g572_4 : ∀ (v5720401 : Nat), F [0, 1, 4] (P [(136, .mp 58045 v14), (137, .agg [.str nS, .str [48, 49]]), (140, .tup [hI 1, .v (goInt v5720401)])] [(58045, v14, .gmap (gcan kfSS Q35_3) (some (v5720401, kfSS ([], [48, 49])))), (58102, v563, .arr eFirstSecond.k 116 (eFirstSecond.E p564)), (58103, v534, .gmap (gcan kfSS Q35_3) none), (58018, v562, .arr 2 116 [.str nS, .str [49]]), (58020, v571, .arr 2 116 [.str nS, .str [48, 49]])]) := by
      intro v5720401
      refine l_takeW (i := 5) hF rfl rfl rfl (f_ext rfl rfl rfl) ?_
      exact lg hF (g572_5 v5720401)
     have g572_2 : F [0, 1] (P [(136, .mp 58045 v14), (137, .agg [.str nS, .str [48, 49]])] [(58045, v14, .gmap (gcan kfSS Q35_3) none), (58102, v563, .arr eFirstSecond.k 116 (eFirstSecond.E p564)), (58103, v534, .gmap (gcan kfSS Q35_3) none), (58018, v562, .arr 2 116 [.str nS, .str [49]]), (58020, v571, .arr 2 116 [.str nS, .str [48, 49]])]) := by
      refine l_step hF rfl [2, 4] rfl rfl ⟨?_, ?_, trivial⟩
      ·refine l_opX rfl rfl rfl (fun hN => o_lookG hN kTRace (k := ([], [48, 49])) (e := Q35_3) (zh := hI 0) rfl ty109 ty3 rfl rfl rfl (by decide) rfl (by decide) ?_)
       exact b_nil (lg hF (g572_3))
      refine l_opX rfl rfl rfl (fun hN => o_entG hN kTRace (k := ([], [48, 49])) (e := Q35_3) (zh := hI 0) rfl ty109 ty3 rfl rfl rfl (by decide) rfl (by decide) (by repeat first | exact noIt_nil | refine noIt_cons (fun _ _ _ e => by cases e) ?_) fun v5720401 => ?_)
      exact b_nil (lg hF (g572_4 v5720401))
     have g572_1 : F [0] (P [(136, .mp 58045 v14)] [(58045, v14, .gmap (gcan kfSS Q35_3) none), (58102, v563, .arr eFirstSecond.k 116 (eFirstSecond.E p564)), (58103, v534, .gmap (gcan kfSS Q35_3) none), (58018, v562, .arr 2 116 [.str nS, .str [49]]), (58020, v571, .arr 2 116 [.str nS, .str [48, 49]])]) := by
      refine l_step hF rfl [1] rfl rfl ⟨?_, trivial⟩
      exact l_ov rfl rfl rfl rfl (v_loadP ty116 rfl rfl (l_litA rfl (lb rfl) rfl)) (lg hF (g572_2))
     have g572_0 : F [] (P [] [(58045, v14, .gmap (gcan kfSS Q35_3) none), (58102, v563, .arr eFirstSecond.k 116 (eFirstSecond.E p564)), (58103, v534, .gmap (gcan kfSS Q35_3) none), (58018, v562, .arr 2 116 [.str nS, .str [49]]), (58020, v571, .arr 2 116 [.str nS, .str [48, 49]])]) := by
      refine l_take (i := 0) hF rfl rfl rfl (mv_val rfl rfl).2 ?_
      exact lg hF (g572_1)
     exact g572_0
    let P : ASf := fun t H => ⟨(2, .ptr 58002 v1 0) :: (3, .ptr 58003 v3 0) :: (9, .mp 58044 v13) :: (10, .mp 58045 v14) :: (15, .ar 58102 v543 eFirstSecond.k ((p544).length * eFirstSecond.k) ((R35_2).length)) :: (17, .mp 58103 v534) :: (18, .ptr 58018 v542 0) :: (20, .ptr 58020 v547 0) :: (120, slE eFirstSecond R35_0) :: (121, hI 1) :: (122, hI 0) :: t, (58002, v1, .arr 3 111 [hI 0, .v (.slice none 0 0), .v (.map none)]) :: (58003, v3, .arr 3 111 [hI 2, W35, .mp 58022 v2]) :: (58022, v2, .gmap (gcan kfSS Q35_13) none) :: (58044, v13, .gmap (gcan kfSS Q35_6) none) :: (58045, v14, .gmap (gcan kfSS Q35_7) none) :: (58102, v543, .arr eFirstSecond.k 116 (eFirstSecond.E (p544 ++ R35_2))) :: (58103, v534, .gmap (gcan kfSS Q35_3) none) :: (58018, v542, .arr 2 116 [.str [48, 49], .str [49]]) :: (58020, v547, .arr 2 116 [.str nS, .str [48, 49]]) :: H⟩
    have g548_7 : ∀ (v5480401 : Nat), F [0, 1, 2, 3, 4, 5] (P4 [E30, (17, .mp 58103 v534), (18, .ptr 58018 v542 0), (20, .ptr 58020 v547 0), E24, (121, hI 1), (122, hI 0), (136, .mp 58045 v14), (139, hI 1), (141, .v (goInt v5480401))] [O31, O19, (58045, v14, .gmap (gcan kfSS Q35_7) (some (v5480401, kfSS ([], [48, 49])))), O32, O33, O34, O35]) := by
     intro v5480401
     refine l_step hF rfl [6] rfl rfl ⟨?_, trivial⟩
     refine l_opX rfl rfl rfl (fun hN => o_entStG hN kfSS_inj (n := v5480401) (k := ([], [48, 49])) (e := Q35_7) (hv := hI 1) rfl rfl rfl rfl rfl (by repeat first | exact noIt_nil | refine noIt_cons (fun _ _ _ e => by cases e) ?_) ?_)
     exact b_nil (lg hF (g548_8))
    have g548_6 : ∀ (v5480401 : Nat), F [0, 1, 2, 4, 5] (P4 [E30, (17, .mp 58103 v534), (18, .ptr 58018 v542 0), (20, .ptr 58020 v547 0), E24, (121, hI 1), (122, hI 0), (136, .mp 58045 v14), (138, hI 2), (141, .v (goInt v5480401))] [O31, O19, (58045, v14, .gmap (gcan kfSS Q35_7) (some (v5480401, kfSS ([], [48, 49])))), O32, O33, O34, O35]) := by
     intro v5480401
     refine l_takeW (i := 3) hF rfl rfl rfl (f_bin rfl rfl rfl b_sub rfl) ?_
     exact lg hF (g548_7 v5480401)
    have g548_10 : ∀ (v5480401 : Nat), F [0, 1, 2, 3, 4] (P4 [E30, (17, .mp 58103 v534), (18, .ptr 58018 v542 0), (20, .ptr 58020 v547 0), E24, (121, hI 1), (122, hI 0), (136, .mp 58045 v14), (139, hI 1), (140, .tup [hI 2, .v (goInt v5480401)])] [O31, O19, (58045, v14, .gmap (gcan kfSS Q35_7) (some (v5480401, kfSS ([], [48, 49])))), O32, O33, O34, O35]) := by
     intro v5480401
     refine l_takeW (i := 5) hF rfl rfl rfl (f_ext rfl rfl rfl) ?_
     exact lg hF (g548_7 v5480401)
    have g548_5 : ∀ (v5480401 : Nat), F [0, 1, 4, 5] (P4 [E30, (17, .mp 58103 v534), (18, .ptr 58018 v542 0), (20, .ptr 58020 v547 0), E24, (121, hI 1), (122, hI 0), (136, .mp 58045 v14), (137, .agg [.str nS, .str [48, 49]]), (141, .v (goInt v5480401))] [O31, O19, (58045, v14, .gmap (gcan kfSS Q35_7) (some (v5480401, kfSS ([], [48, 49])))), O32, O33, O34, O35]) := by
     intro v5480401
     refine l_step hF rfl [2] rfl rfl ⟨?_, trivial⟩
     refine l_opX rfl rfl rfl (fun hN => o_lookG hN kTRace (k := ([], [48, 49])) (e := Q35_7) (zh := hI 0) rfl ty109 ty3 rfl rfl rfl (by decide) rfl (by decide) ?_)
     exact b_nil (lg hF (g548_6 v5480401))
    have g548_9 : F [0, 1, 2, 3] (P [(136, .mp 58045 v14), (137, .agg [.str nS, .str [48, 49]]), (139, hI 1)] []) := by
     refine l_step hF rfl [4] rfl rfl ⟨?_, trivial⟩
     refine l_opX rfl rfl rfl (fun hN => o_entG hN kTRace (k := ([], [48, 49])) (e := Q35_7) (zh := hI 0) rfl ty109 ty3 rfl rfl rfl (by decide) rfl (by decide) (by repeat first | exact noIt_nil | refine noIt_cons (fun _ _ _ e => by cases e) ?_) fun v5480401 => ?_)
     exact b_nil (lg hF (g548_10 v5480401))
    have g548_3 : F [0, 1, 2] (P [(136, .mp 58045 v14), (137, .agg [.str nS, .str [48, 49]]), (138, hI 2)] []) := by
     refine l_takeW (i := 3) hF rfl rfl rfl (f_bin rfl rfl rfl b_sub rfl) ?_
     exact lg hF (g548_9)
    have g548_4 : ∀ (v5480401 : Nat), F [0, 1, 4] (P4 [E30, (17, .mp 58103 v534), (18, .ptr 58018 v542 0), (20, .ptr 58020 v547 0), E24, (121, hI 1), (122, hI 0), (136, .mp 58045 v14), (137, .agg [.str nS, .str [48, 49]]), (140, .tup [hI 2, .v (goInt v5480401)])] [O31, O19, (58045, v14, .gmap (gcan kfSS Q35_7) (some (v5480401, kfSS ([], [48, 49])))), O32, O33, O34, O35]) := by
     intro v5480401
     refine l_takeW (i := 5) hF rfl rfl rfl (f_ext rfl rfl rfl) ?_
     exact lg hF (g548_5 v5480401)
    have g548_2 : F [0, 1] (P [(136, .mp 58045 v14), (137, .agg [.str nS, .str [48, 49]])] []) := by
     refine l_step hF rfl [2, 4] rfl rfl ⟨?_, ?_, trivial⟩
     ·refine l_opX rfl rfl rfl (fun hN => o_lookG hN kTRace (k := ([], [48, 49])) (e := Q35_7) (zh := hI 0) rfl ty109 ty3 rfl rfl rfl (by decide) rfl (by decide) ?_)
      exact b_nil (lg hF (g548_3))
     refine l_opX rfl rfl rfl (fun hN => o_entG hN kTRace (k := ([], [48, 49])) (e := Q35_7) (zh := hI 0) rfl ty109 ty3 rfl rfl rfl (by decide) rfl (by decide) (by repeat first | exact noIt_nil | refine noIt_cons (fun _ _ _ e => by cases e) ?_) fun v5480401 => ?_)
     exact b_nil (lg hF (g548_4 v5480401))
    have g548_1 : F [0] (P [(136, .mp 58045 v14)] []) := by
     refine l_step hF rfl [1] rfl rfl ⟨?_, trivial⟩
     exact l_ov rfl rfl rfl rfl (v_loadP ty116 rfl rfl (l_litA rfl (lb rfl) rfl)) (lg hF (g548_2))
    have g548_0 : F [] (P [] []) := by
     refine l_take (i := 0) hF rfl rfl rfl (mv_val rfl rfl).2 ?_
     exact lg hF (g548_1)
    exact g548_0
   refine AW.rgs rfl fun K hK => bv rfl (v_fieldAddrP fo111_1 rfl rfl) (bv rfl (v_loadP ty109 rfl rfl (l_lit rfl rfl)) ?_)
   refine b_rangeG 58090 rfl ty109 rfl rfl (by decide) fun v585 => ?_
   refine b_nil (hK _ ?_)
   refine AW.block ?_
   refine AW.unroll 16 ?_
   refine UW.step fun Au599 hAu599 hTu599 => ?_
   have cu599_0 : Au599 (P4 [(15, .v (.slice none 0 0)), (90, HV.it 58090 v585)] [O21, O19, O20, (58090, v585, .iter 58022 v2 [codeV (kfSS ([], [48, 49]))] true)]) := by
    refine hAu599 _ ?_
    refine UW.step fun Au614 hAu614 hTu614 => ?_
    have cu614_0 : ∀ (v610 : Nat) (p615 : List TFirstSecond), Au614 (P4 [(15, .ar 58102 v610 eFirstSecond.k ((p615).length * eFirstSecond.k) ((R35_2).length)), (90, HV.it 58090 v585)] [O21, O19, O20, (58090, v585, .iter 58022 v2 [codeV (kfSS ([], [49])), codeV (kfSS ([], [48, 49]))] true), (58102, v610, .arr eFirstSecond.k 116 (eFirstSecond.E (p615 ++ R35_2)))]) := by
     intro v610 p615
     refine hAu614 _ ?_
     refine AW.rgs rfl fun K hK => b_nextG khSS_rep codeSS_inj kfSS_inj (e := Q35_8) rfl rfl rfl rfl (by decide) (fun h628 => ?_) (fun k629 x630 h631 h632 => ?_)
     ·exact absurd h628 (by decide)
     rcases List.mem_cons.1 h631 with h633 | h631
     ·cases h633
      exact absurd (by decide) h632
     rcases List.mem_cons.1 h631 with h634 | h631
     ·cases h634
      exact absurd (by decide) h632
     rcases List.mem_cons.1 h631 with h635 | h631
     ·cases h635
      clear h632
      refine bv rfl (v_extract rfl rfl) ?_
      refine b_nil (hK _ ?_)
      refine AW.cseq rfl (fun _ => ?_) (fun hc => absurd hc (by decide))
      refine AW.skip ?_
      refine AW.block ?_
      refine AW.rgs rfl fun K hK => b_entryG (k := ([48, 49], [49])) (e := Q35_8) (v := hI 9223372036854775807) khSS_rep codeSS_inj kfSS_inj rfl rfl rfl rfl (by decide) rfl ?_
      refine bv rfl (v_extract rfl rfl) ?_
      refine b_op rfl (o_alloc (fid := 58) (zs := [.str nS, .str nS]) 58016 rfl rfl ty116 rfl (fun v636 => ?_))
      refine b_op rfl (o_store (cs := [.str [48, 49], .str [49]]) (zs := [.str [48, 49], .str [49]]) rfl rfl rfl ty116 rfl rfl rfl rfl rfl ?_)
      refine b_nil (hK _ ?_)
      refine AW.rgs rfl fun K hK => mv rfl rfl (bv rfl (v_loadP ty116 rfl rfl (l_litA rfl (lb rfl) rfl)) ?_)
      refine b_lookG kTRace (k := ([48, 49], [49])) (e := Q35_7) (zh := hI 0) rfl ty109 ty3 rfl rfl rfl (by decide) rfl (by decide) ?_
      refine bv rfl (v_bin rfl rfl b_eql) ?_
      refine b_nil (hK _ ?_)
      refine AW.cond rfl (fun _ => ?_) (fun hc => absurd hc (by decide))
      refine AW.rg rfl fun K hK => mv rfl rfl (bv rfl (v_loadP ty116 rfl rfl (l_litA rfl (lb rfl) rfl)) ?_)
      refine b_op rfl (o_bsl rfl rfl (as_of (cs := [.str [48, 49], .str [49]]) ty113 ty116 rfl rfl rfl rfl rfl) ?_)
      refine b_appQs eFirstSecond (pre := p615) (l := R35_2) (m := R35_3) rfl rfl rfl ty113 ty113 ty116 rfl rfl rfl rfl rfl (by decide) fun v637 p638 => ?_
      refine mv rfl rfl ?_
      refine b_nil (hK _ ?_)
      show UW _ _ _ _ _ _ _
      refine AW.rgs rfl fun K hK => b_nextG khSS_rep codeSS_inj kfSS_inj (e := Q35_8) rfl rfl rfl rfl (by decide) (fun h647 => ?_) (fun k648 x649 h650 h651 => ?_)
      ·clear h647
       refine bv rfl (v_extract rfl rfl) ?_
       refine b_nil (hK _ ?_)
       refine AW.cseq rfl (fun hc => absurd hc (by decide)) (fun _ => ?_)
       refine AW.exit ?_
       exact hTu137 _ (to_leR (cu137_0 v637 p638) (le_q rfl rfl))
      rcases List.mem_cons.1 h650 with h653 | h650
      ·cases h653
       exact absurd (by decide) h651
      rcases List.mem_cons.1 h650 with h654 | h650
      ·cases h654
       exact absurd (by decide) h651
      rcases List.mem_cons.1 h650 with h655 | h650
      ·cases h655
       exact absurd (by decide) h651
      cases h650
     cases h631
    have cu614_1 : ∀ (v613 : Nat) (p616 : List TFirstSecond), Au614 (P4 [(15, .ar 58102 v613 eFirstSecond.k ((p616).length * eFirstSecond.k) ((R35_3).length)), (90, HV.it 58090 v585)] [O21, O19, O20, (58090, v585, .iter 58022 v2 [codeV (kfSS ([48, 49], [49])), codeV (kfSS ([], [48, 49]))] true), (58102, v613, .arr eFirstSecond.k 116 (eFirstSecond.E (p616 ++ R35_3)))]) := by
     intro v613 p616
     refine hAu614 _ ?_
     refine AW.rgs rfl fun K hK => b_nextG khSS_rep codeSS_inj kfSS_inj (e := Q35_8) rfl rfl rfl rfl (by decide) (fun h667 => ?_) (fun k668 x669 h670 h671 => ?_)
     ·exact absurd h667 (by decide)
     rcases List.mem_cons.1 h670 with h672 | h670
     ·cases h672
      exact absurd (by decide) h671
     rcases List.mem_cons.1 h670 with h673 | h670
     ·cases h673
      clear h671
      refine bv rfl (v_extract rfl rfl) ?_
      refine b_nil (hK _ ?_)
      refine AW.cseq rfl (fun _ => ?_) (fun hc => absurd hc (by decide))
      refine AW.skip ?_
      refine AW.block ?_
      refine AW.rgs rfl fun K hK => b_entryG (k := ([], [49])) (e := Q35_8) (v := hI 9223372036854775807) khSS_rep codeSS_inj kfSS_inj rfl rfl rfl rfl (by decide) rfl ?_
      refine bv rfl (v_extract rfl rfl) ?_
      refine b_op rfl (o_alloc (fid := 58) (zs := [.str nS, .str nS]) 58016 rfl rfl ty116 rfl (fun v674 => ?_))
      refine b_op rfl (o_store (cs := [.str nS, .str [49]]) (zs := [.str nS, .str [49]]) rfl rfl rfl ty116 rfl rfl rfl rfl rfl ?_)
      refine b_nil (hK _ ?_)
      refine AW.rgs rfl fun K hK => mv rfl rfl (bv rfl (v_loadP ty116 rfl rfl (l_litA rfl (lb rfl) rfl)) ?_)
      refine b_lookG kTRace (k := ([], [49])) (e := Q35_7) (zh := hI 0) rfl ty109 ty3 rfl rfl rfl (by decide) rfl (by decide) ?_
      refine bv rfl (v_bin rfl rfl b_eql) ?_
      refine b_nil (hK _ ?_)
      refine AW.cond rfl (fun _ => ?_) (fun hc => absurd hc (by decide))
      refine AW.rg rfl fun K hK => mv rfl rfl (bv rfl (v_loadP ty116 rfl rfl (l_litA rfl (lb rfl) rfl)) ?_)
      refine b_op rfl (o_bsl rfl rfl (as_of (cs := [.str nS, .str [49]]) ty113 ty116 rfl rfl rfl rfl rfl) ?_)
      refine b_appQs eFirstSecond (pre := p616) (l := R35_3) (m := R35_2) rfl rfl rfl ty113 ty113 ty116 rfl rfl rfl rfl rfl (by decide) fun v675 p676 => ?_
      refine mv rfl rfl ?_
      refine b_nil (hK _ ?_)
      show UW _ _ _ _ _ _ _
      refine AW.rgs rfl fun K hK => b_nextG khSS_rep codeSS_inj kfSS_inj (e := Q35_8) rfl rfl rfl rfl (by decide) (fun h685 => ?_) (fun k686 x687 h688 h689 => ?_)
      ·clear h685
       refine bv rfl (v_extract rfl rfl) ?_
       refine b_nil (hK _ ?_)
       refine AW.cseq rfl (fun hc => absurd hc (by decide)) (fun _ => ?_)
       refine AW.exit ?_
       exact hTu137 _ (to_leR (cu137_1 v675 p676) (le_q rfl rfl))
      rcases List.mem_cons.1 h688 with h691 | h688
      ·cases h691
       exact absurd (by decide) h689
      rcases List.mem_cons.1 h688 with h692 | h688
      ·cases h692
       exact absurd (by decide) h689
      rcases List.mem_cons.1 h688 with h693 | h688
      ·cases h693
       exact absurd (by decide) h689
      cases h688
     rcases List.mem_cons.1 h670 with h694 | h670
     ·cases h694
      exact absurd (by decide) h671
     cases h670
    refine AW.rgs rfl fun K hK => b_nextG khSS_rep codeSS_inj kfSS_inj (e := Q35_8) rfl rfl rfl rfl (by decide) (fun h695 => ?_) (fun k696 x697 h698 h699 => ?_)
    ·exact absurd h695 (by decide)
    rcases List.mem_cons.1 h698 with h700 | h698
    ·cases h700
     exact absurd (by decide) h699
    rcases List.mem_cons.1 h698 with h701 | h698
    ·cases h701
     clear h699
     refine bv rfl (v_extract rfl rfl) ?_
     refine b_nil (hK _ ?_)
     refine AW.cseq rfl (fun _ => ?_) (fun hc => absurd hc (by decide))
     refine AW.skip ?_
     refine AW.block ?_
     refine AW.rgs rfl fun K hK => b_entryG (k := ([], [49])) (e := Q35_8) (v := hI 9223372036854775807) khSS_rep codeSS_inj kfSS_inj rfl rfl rfl rfl (by decide) rfl ?_
     refine bv rfl (v_extract rfl rfl) ?_
     refine b_op rfl (o_alloc (fid := 58) (zs := [.str nS, .str nS]) 58016 rfl rfl ty116 rfl (fun v702 => ?_))
     refine b_op rfl (o_store (cs := [.str nS, .str [49]]) (zs := [.str nS, .str [49]]) rfl rfl rfl ty116 rfl rfl rfl rfl rfl ?_)
     refine b_nil (hK _ ?_)
     refine AW.rgs rfl fun K hK => mv rfl rfl (bv rfl (v_loadP ty116 rfl rfl (l_litA rfl (lb rfl) rfl)) ?_)
     refine b_lookG kTRace (k := ([], [49])) (e := Q35_7) (zh := hI 0) rfl ty109 ty3 rfl rfl rfl (by decide) rfl (by decide) ?_
     refine bv rfl (v_bin rfl rfl b_eql) ?_
     refine b_nil (hK _ ?_)
     refine AW.cond rfl (fun _ => ?_) (fun hc => absurd hc (by decide))
     refine AW.rg rfl fun K hK => mv rfl rfl (bv rfl (v_loadP ty116 rfl rfl (l_litA rfl (lb rfl) rfl)) ?_)
     refine b_op rfl (o_bsl rfl rfl (as_of (cs := [.str nS, .str [49]]) ty113 ty116 rfl rfl rfl rfl rfl) ?_)
     refine b_op rfl (o_appN (fid := 58) eFirstSecond (m := R35_2) 58102 rfl rfl rfl ty113 ty113 ty116 rfl rfl rfl rfl (by decide) (fun v703 => ?_))
     refine mv rfl rfl ?_
     refine b_nil (hK _ ?_)
     exact hTu614 _ (to_leR (cu614_0 v703 ([] : List TFirstSecond)) (le_q rfl rfl))
    rcases List.mem_cons.1 h698 with h705 | h698
    ·cases h705
     clear h699
     refine bv rfl (v_extract rfl rfl) ?_
     refine b_nil (hK _ ?_)
     refine AW.cseq rfl (fun _ => ?_) (fun hc => absurd hc (by decide))
     refine AW.skip ?_
     refine AW.block ?_
     refine AW.rgs rfl fun K hK => b_entryG (k := ([48, 49], [49])) (e := Q35_8) (v := hI 9223372036854775807) khSS_rep codeSS_inj kfSS_inj rfl rfl rfl rfl (by decide) rfl ?_
     refine bv rfl (v_extract rfl rfl) ?_
     refine b_op rfl (o_alloc (fid := 58) (zs := [.str nS, .str nS]) 58016 rfl rfl ty116 rfl (fun v706 => ?_))
     refine b_op rfl (o_store (cs := [.str [48, 49], .str [49]]) (zs := [.str [48, 49], .str [49]]) rfl rfl rfl ty116 rfl rfl rfl rfl rfl ?_)
     refine b_nil (hK _ ?_)
     refine AW.rgs rfl fun K hK => mv rfl rfl (bv rfl (v_loadP ty116 rfl rfl (l_litA rfl (lb rfl) rfl)) ?_)
     refine b_lookG kTRace (k := ([48, 49], [49])) (e := Q35_7) (zh := hI 0) rfl ty109 ty3 rfl rfl rfl (by decide) rfl (by decide) ?_
     refine bv rfl (v_bin rfl rfl b_eql) ?_
     refine b_nil (hK _ ?_)
     refine AW.cond rfl (fun _ => ?_) (fun hc => absurd hc (by decide))
     refine AW.rg rfl fun K hK => mv rfl rfl (bv rfl (v_loadP ty116 rfl rfl (l_litA rfl (lb rfl) rfl)) ?_)
     refine b_op rfl (o_bsl rfl rfl (as_of (cs := [.str [48, 49], .str [49]]) ty113 ty116 rfl rfl rfl rfl rfl) ?_)
     refine b_op rfl (o_appN (fid := 58) eFirstSecond (m := R35_3) 58102 rfl rfl rfl ty113 ty113 ty116 rfl rfl rfl rfl (by decide) (fun v707 => ?_))
     refine mv rfl rfl ?_
     refine b_nil (hK _ ?_)
     exact hTu614 _ (to_leR (cu614_1 v707 ([] : List TFirstSecond)) (le_q rfl rfl))
    cases h698
   have cu599_1 : ∀ (v595 : Nat) (p600 : List TFirstSecond), Au599 (P4 [(15, .ar 58102 v595 eFirstSecond.k ((p600).length * eFirstSecond.k) ((R35_2).length)), (90, HV.it 58090 v585)] [O21, O19, O20, (58090, v585, .iter 58022 v2 [codeV (kfSS ([], [49]))] true), (58102, v595, .arr eFirstSecond.k 116 (eFirstSecond.E (p600 ++ R35_2)))]) := by
    intro v595 p600
    refine hAu599 _ ?_
    refine UW.step fun Au721 hAu721 hTu721 => ?_
    have cu721_0 : ∀ (p722 : List TFirstSecond), Au721 (P4 [(15, .ar 58102 v595 eFirstSecond.k ((p722).length * eFirstSecond.k) ((R35_2).length)), (90, HV.it 58090 v585)] [O21, O19, O20, (58090, v585, .iter 58022 v2 [codeV (kfSS ([], [48, 49])), codeV (kfSS ([], [49]))] true), (58102, v595, .arr eFirstSecond.k 116 (eFirstSecond.E (p722 ++ R35_2)))]) := by
     intro p722
     refine hAu721 _ ?_
     refine AW.rgs rfl fun K hK => b_nextG khSS_rep codeSS_inj kfSS_inj (e := Q35_8) rfl rfl rfl rfl (by decide) (fun h735 => ?_) (fun k736 x737 h738 h739 => ?_)
     ·exact absurd h735 (by decide)
     rcases List.mem_cons.1 h738 with h740 | h738
     ·cases h740
      exact absurd (by decide) h739
     rcases List.mem_cons.1 h738 with h741 | h738
     ·cases h741
      exact absurd (by decide) h739
     rcases List.mem_cons.1 h738 with h742 | h738
     ·cases h742
      clear h739
      refine bv rfl (v_extract rfl rfl) ?_
      refine b_nil (hK _ ?_)
      refine AW.cseq rfl (fun _ => ?_) (fun hc => absurd hc (by decide))
      refine AW.skip ?_
      refine AW.block ?_
      refine AW.rgs rfl fun K hK => b_entryG (k := ([48, 49], [49])) (e := Q35_8) (v := hI 9223372036854775807) khSS_rep codeSS_inj kfSS_inj rfl rfl rfl rfl (by decide) rfl ?_
      refine bv rfl (v_extract rfl rfl) ?_
      refine b_op rfl (o_alloc (fid := 58) (zs := [.str nS, .str nS]) 58016 rfl rfl ty116 rfl (fun v743 => ?_))
      refine b_op rfl (o_store (cs := [.str [48, 49], .str [49]]) (zs := [.str [48, 49], .str [49]]) rfl rfl rfl ty116 rfl rfl rfl rfl rfl ?_)
      refine b_nil (hK _ ?_)
      refine AW.rgs rfl fun K hK => mv rfl rfl (bv rfl (v_loadP ty116 rfl rfl (l_litA rfl (lb rfl) rfl)) ?_)
      refine b_lookG kTRace (k := ([48, 49], [49])) (e := Q35_7) (zh := hI 0) rfl ty109 ty3 rfl rfl rfl (by decide) rfl (by decide) ?_
      refine bv rfl (v_bin rfl rfl b_eql) ?_
      refine b_nil (hK _ ?_)
      refine AW.cond rfl (fun _ => ?_) (fun hc => absurd hc (by decide))
      refine AW.rg rfl fun K hK => mv rfl rfl (bv rfl (v_loadP ty116 rfl rfl (l_litA rfl (lb rfl) rfl)) ?_)
      refine b_op rfl (o_bsl rfl rfl (as_of (cs := [.str [48, 49], .str [49]]) ty113 ty116 rfl rfl rfl rfl rfl) ?_)
      refine b_appQs eFirstSecond (pre := p722) (l := R35_2) (m := R35_3) rfl rfl rfl ty113 ty113 ty116 rfl rfl rfl rfl rfl (by decide) fun v744 p745 => ?_
      refine mv rfl rfl ?_
      refine b_nil (hK _ ?_)
      show UW _ _ _ _ _ _ _
      refine AW.rgs rfl fun K hK => b_nextG khSS_rep codeSS_inj kfSS_inj (e := Q35_8) rfl rfl rfl rfl (by decide) (fun h754 => ?_) (fun k755 x756 h757 h758 => ?_)
      ·clear h754
       refine bv rfl (v_extract rfl rfl) ?_
       refine b_nil (hK _ ?_)
       refine AW.cseq rfl (fun hc => absurd hc (by decide)) (fun _ => ?_)
       refine AW.exit ?_
       exact hTu137 _ (to_leR (cu137_0 v744 p745) (le_q rfl rfl))
      rcases List.mem_cons.1 h757 with h760 | h757
      ·cases h760
       exact absurd (by decide) h758
      rcases List.mem_cons.1 h757 with h761 | h757
      ·cases h761
       exact absurd (by decide) h758
      rcases List.mem_cons.1 h757 with h762 | h757
      ·cases h762
       exact absurd (by decide) h758
      cases h757
     cases h738
    have cu721_1 : ∀ (v719 : Nat) (p723 : List TFirstSecond), Au721 (P4 [(15, .ar 58102 v719 eFirstSecond.k ((p723).length * eFirstSecond.k) ((R35_1).length)), (90, HV.it 58090 v585)] [O21, O19, O20, (58090, v585, .iter 58022 v2 [codeV (kfSS ([48, 49], [49])), codeV (kfSS ([], [49]))] true), (58102, v719, .arr eFirstSecond.k 116 (eFirstSecond.E (p723 ++ R35_1)))]) := by
     intro v719 p723
     refine hAu721 _ ?_
     refine AW.rgs rfl fun K hK => b_nextG khSS_rep codeSS_inj kfSS_inj (e := Q35_8) rfl rfl rfl rfl (by decide) (fun h772 => ?_) (fun k773 x774 h775 h776 => ?_)
     ·exact absurd h772 (by decide)
     rcases List.mem_cons.1 h775 with h777 | h775
     ·cases h777
      clear h776
      refine bv rfl (v_extract rfl rfl) ?_
      refine b_nil (hK _ ?_)
      refine AW.cseq rfl (fun _ => ?_) (fun hc => absurd hc (by decide))
      refine AW.skip ?_
      refine AW.block ?_
      refine AW.rgs rfl fun K hK => b_entryG (k := ([], [48, 49])) (e := Q35_8) (v := hI 9223372036854775807) khSS_rep codeSS_inj kfSS_inj rfl rfl rfl rfl (by decide) rfl ?_
      refine bv rfl (v_extract rfl rfl) ?_
      refine b_op rfl (o_alloc (fid := 58) (zs := [.str nS, .str nS]) 58016 rfl rfl ty116 rfl (fun v778 => ?_))
      refine b_op rfl (o_store (cs := [.str nS, .str [48, 49]]) (zs := [.str nS, .str [48, 49]]) rfl rfl rfl ty116 rfl rfl rfl rfl rfl ?_)
      refine b_nil (hK _ ?_)
      refine AW.rgs rfl fun K hK => mv rfl rfl (bv rfl (v_loadP ty116 rfl rfl (l_litA rfl (lb rfl) rfl)) ?_)
      refine b_lookG kTRace (k := ([], [48, 49])) (e := Q35_7) (zh := hI 0) rfl ty109 ty3 rfl rfl rfl (by decide) rfl (by decide) ?_
      refine bv rfl (v_bin rfl rfl b_eql) ?_
      refine b_nil (hK _ ?_)
      refine AW.cond rfl (fun hc => absurd hc (by decide)) (fun _ => ?_)
      refine AW.skip ?_
      show UW _ _ _ _ _ _ _
      refine AW.rgs rfl fun K hK => b_nextG khSS_rep codeSS_inj kfSS_inj (e := Q35_8) rfl rfl rfl rfl (by decide) (fun h787 => ?_) (fun k788 x789 h790 h791 => ?_)
      ·clear h787
       refine bv rfl (v_extract rfl rfl) ?_
       refine b_nil (hK _ ?_)
       refine AW.cseq rfl (fun hc => absurd hc (by decide)) (fun _ => ?_)
       refine AW.exit ?_
       exact hTu137 _ (to_leR (cu137_0 v719 p723) (le_q rfl rfl))
      rcases List.mem_cons.1 h790 with h793 | h790
      ·cases h793
       exact absurd (by decide) h791
      rcases List.mem_cons.1 h790 with h794 | h790
      ·cases h794
       exact absurd (by decide) h791
      rcases List.mem_cons.1 h790 with h795 | h790
      ·cases h795
       exact absurd (by decide) h791
      cases h790
     rcases List.mem_cons.1 h775 with h796 | h775
     ·cases h796
      exact absurd (by decide) h776
     rcases List.mem_cons.1 h775 with h797 | h775
     ·cases h797
      exact absurd (by decide) h776
     cases h775
    refine AW.rgs rfl fun K hK => b_nextG khSS_rep codeSS_inj kfSS_inj (e := Q35_8) rfl rfl rfl rfl (by decide) (fun h798 => ?_) (fun k799 x800 h801 h802 => ?_)
    ·exact absurd h798 (by decide)
    rcases List.mem_cons.1 h801 with h803 | h801
    ·cases h803
     clear h802
     refine bv rfl (v_extract rfl rfl) ?_
     refine b_nil (hK _ ?_)
     refine AW.cseq rfl (fun _ => ?_) (fun hc => absurd hc (by decide))
     refine AW.skip ?_
     refine AW.block ?_
     refine AW.rgs rfl fun K hK => b_entryG (k := ([], [48, 49])) (e := Q35_8) (v := hI 9223372036854775807) khSS_rep codeSS_inj kfSS_inj rfl rfl rfl rfl (by decide) rfl ?_
     refine bv rfl (v_extract rfl rfl) ?_
     refine b_op rfl (o_alloc (fid := 58) (zs := [.str nS, .str nS]) 58016 rfl rfl ty116 rfl (fun v804 => ?_))
     refine b_op rfl (o_store (cs := [.str nS, .str [48, 49]]) (zs := [.str nS, .str [48, 49]]) rfl rfl rfl ty116 rfl rfl rfl rfl rfl ?_)
     refine b_nil (hK _ ?_)
     refine AW.rgs rfl fun K hK => mv rfl rfl (bv rfl (v_loadP ty116 rfl rfl (l_litA rfl (lb rfl) rfl)) ?_)
     refine b_lookG kTRace (k := ([], [48, 49])) (e := Q35_7) (zh := hI 0) rfl ty109 ty3 rfl rfl rfl (by decide) rfl (by decide) ?_
     refine bv rfl (v_bin rfl rfl b_eql) ?_
     refine b_nil (hK _ ?_)
     refine AW.cond rfl (fun hc => absurd hc (by decide)) (fun _ => ?_)
     refine AW.skip ?_
     exact hTu721 _ (to_leR (cu721_0 p600) (le_q rfl rfl))
    rcases List.mem_cons.1 h801 with h806 | h801
    ·cases h806
     exact absurd (by decide) h802
    rcases List.mem_cons.1 h801 with h807 | h801
    ·cases h807
     clear h802
     refine bv rfl (v_extract rfl rfl) ?_
     refine b_nil (hK _ ?_)
     refine AW.cseq rfl (fun _ => ?_) (fun hc => absurd hc (by decide))
     refine AW.skip ?_
     refine AW.block ?_
     refine AW.rgs rfl fun K hK => b_entryG (k := ([48, 49], [49])) (e := Q35_8) (v := hI 9223372036854775807) khSS_rep codeSS_inj kfSS_inj rfl rfl rfl rfl (by decide) rfl ?_
     refine bv rfl (v_extract rfl rfl) ?_
     refine b_op rfl (o_alloc (fid := 58) (zs := [.str nS, .str nS]) 58016 rfl rfl ty116 rfl (fun v808 => ?_))
     refine b_op rfl (o_store (cs := [.str [48, 49], .str [49]]) (zs := [.str [48, 49], .str [49]]) rfl rfl rfl ty116 rfl rfl rfl rfl rfl ?_)
     refine b_nil (hK _ ?_)
     refine AW.rgs rfl fun K hK => mv rfl rfl (bv rfl (v_loadP ty116 rfl rfl (l_litA rfl (lb rfl) rfl)) ?_)
     refine b_lookG kTRace (k := ([48, 49], [49])) (e := Q35_7) (zh := hI 0) rfl ty109 ty3 rfl rfl rfl (by decide) rfl (by decide) ?_
     refine bv rfl (v_bin rfl rfl b_eql) ?_
     refine b_nil (hK _ ?_)
     refine AW.cond rfl (fun _ => ?_) (fun hc => absurd hc (by decide))
     refine AW.rg rfl fun K hK => mv rfl rfl (bv rfl (v_loadP ty116 rfl rfl (l_litA rfl (lb rfl) rfl)) ?_)
     refine b_op rfl (o_bsl rfl rfl (as_of (cs := [.str [48, 49], .str [49]]) ty113 ty116 rfl rfl rfl rfl rfl) ?_)
     refine b_appQs eFirstSecond (pre := p600) (l := R35_2) (m := R35_3) rfl rfl rfl ty113 ty113 ty116 rfl rfl rfl rfl rfl (by decide) fun v809 p810 => ?_
     refine mv rfl rfl ?_
     refine b_nil (hK _ ?_)
     exact hTu721 _ (to_leR (cu721_1 v809 p810) (le_q rfl rfl))
    cases h801
   have cu599_2 : ∀ (v598 : Nat) (p601 : List TFirstSecond), Au599 (P4 [(15, .ar 58102 v598 eFirstSecond.k ((p601).length * eFirstSecond.k) ((R35_3).length)), (90, HV.it 58090 v585)] [O21, O19, O20, (58090, v585, .iter 58022 v2 [codeV (kfSS ([48, 49], [49]))] true), (58102, v598, .arr eFirstSecond.k 116 (eFirstSecond.E (p601 ++ R35_3)))]) := by
    intro v598 p601
    refine hAu599 _ ?_
    refine UW.step fun Au824 hAu824 hTu824 => ?_
    have cu824_0 : ∀ (p825 : List TFirstSecond), Au824 (P4 [(15, .ar 58102 v598 eFirstSecond.k ((p825).length * eFirstSecond.k) ((R35_3).length)), (90, HV.it 58090 v585)] [O21, O19, O20, (58090, v585, .iter 58022 v2 [codeV (kfSS ([], [48, 49])), codeV (kfSS ([48, 49], [49]))] true), (58102, v598, .arr eFirstSecond.k 116 (eFirstSecond.E (p825 ++ R35_3)))]) := by
     intro p825
     refine hAu824 _ ?_
     refine AW.rgs rfl fun K hK => b_nextG khSS_rep codeSS_inj kfSS_inj (e := Q35_8) rfl rfl rfl rfl (by decide) (fun h838 => ?_) (fun k839 x840 h841 h842 => ?_)
     ·exact absurd h838 (by decide)
     rcases List.mem_cons.1 h841 with h843 | h841
     ·cases h843
      exact absurd (by decide) h842
     rcases List.mem_cons.1 h841 with h844 | h841
     ·cases h844
      clear h842
      refine bv rfl (v_extract rfl rfl) ?_
      refine b_nil (hK _ ?_)
      refine AW.cseq rfl (fun _ => ?_) (fun hc => absurd hc (by decide))
      refine AW.skip ?_
      refine AW.block ?_
      refine AW.rgs rfl fun K hK => b_entryG (k := ([], [49])) (e := Q35_8) (v := hI 9223372036854775807) khSS_rep codeSS_inj kfSS_inj rfl rfl rfl rfl (by decide) rfl ?_
      refine bv rfl (v_extract rfl rfl) ?_
      refine b_op rfl (o_alloc (fid := 58) (zs := [.str nS, .str nS]) 58016 rfl rfl ty116 rfl (fun v845 => ?_))
      refine b_op rfl (o_store (cs := [.str nS, .str [49]]) (zs := [.str nS, .str [49]]) rfl rfl rfl ty116 rfl rfl rfl rfl rfl ?_)
      refine b_nil (hK _ ?_)
      refine AW.rgs rfl fun K hK => mv rfl rfl (bv rfl (v_loadP ty116 rfl rfl (l_litA rfl (lb rfl) rfl)) ?_)
      refine b_lookG kTRace (k := ([], [49])) (e := Q35_7) (zh := hI 0) rfl ty109 ty3 rfl rfl rfl (by decide) rfl (by decide) ?_
      refine bv rfl (v_bin rfl rfl b_eql) ?_
      refine b_nil (hK _ ?_)
      refine AW.cond rfl (fun _ => ?_) (fun hc => absurd hc (by decide))
      refine AW.rg rfl fun K hK => mv rfl rfl (bv rfl (v_loadP ty116 rfl rfl (l_litA rfl (lb rfl) rfl)) ?_)
      refine b_op rfl (o_bsl rfl rfl (as_of (cs := [.str nS, .str [49]]) ty113 ty116 rfl rfl rfl rfl rfl) ?_)
      refine b_appQs eFirstSecond (pre := p825) (l := R35_3) (m := R35_2) rfl rfl rfl ty113 ty113 ty116 rfl rfl rfl rfl rfl (by decide) fun v846 p847 => ?_
      refine mv rfl rfl ?_
      refine b_nil (hK _ ?_)
      show UW _ _ _ _ _ _ _
      refine AW.rgs rfl fun K hK => b_nextG khSS_rep codeSS_inj kfSS_inj (e := Q35_8) rfl rfl rfl rfl (by decide) (fun h856 => ?_) (fun k857 x858 h859 h860 => ?_)
      ·clear h856
       refine bv rfl (v_extract rfl rfl) ?_
       refine b_nil (hK _ ?_)
       refine AW.cseq rfl (fun hc => absurd hc (by decide)) (fun _ => ?_)
       refine AW.exit ?_
       exact hTu137 _ (to_leR (cu137_1 v846 p847) (le_q rfl rfl))
      rcases List.mem_cons.1 h859 with h862 | h859
      ·cases h862
       exact absurd (by decide) h860
      rcases List.mem_cons.1 h859 with h863 | h859
      ·cases h863
       exact absurd (by decide) h860
      rcases List.mem_cons.1 h859 with h864 | h859
      ·cases h864
       exact absurd (by decide) h860
      cases h859
     rcases List.mem_cons.1 h841 with h865 | h841
     ·cases h865
      exact absurd (by decide) h842
     cases h841
    have cu824_1 : ∀ (v821 : Nat) (p826 : List TFirstSecond), Au824 (P4 [(15, .ar 58102 v821 eFirstSecond.k ((p826).length * eFirstSecond.k) ((R35_4).length)), (90, HV.it 58090 v585)] [O21, O19, O20, (58090, v585, .iter 58022 v2 [codeV (kfSS ([], [49])), codeV (kfSS ([48, 49], [49]))] true), (58102, v821, .arr eFirstSecond.k 116 (eFirstSecond.E (p826 ++ R35_4)))]) := by
     intro v821 p826
     refine hAu824 _ ?_
     refine AW.rgs rfl fun K hK => b_nextG khSS_rep codeSS_inj kfSS_inj (e := Q35_8) rfl rfl rfl rfl (by decide) (fun h875 => ?_) (fun k876 x877 h878 h879 => ?_)
     ·exact absurd h875 (by decide)
     rcases List.mem_cons.1 h878 with h880 | h878
     ·cases h880
      clear h879
      refine bv rfl (v_extract rfl rfl) ?_
      refine b_nil (hK _ ?_)
      refine AW.cseq rfl (fun _ => ?_) (fun hc => absurd hc (by decide))
      refine AW.skip ?_
      refine AW.block ?_
      refine AW.rgs rfl fun K hK => b_entryG (k := ([], [48, 49])) (e := Q35_8) (v := hI 9223372036854775807) khSS_rep codeSS_inj kfSS_inj rfl rfl rfl rfl (by decide) rfl ?_
      refine bv rfl (v_extract rfl rfl) ?_
      refine b_op rfl (o_alloc (fid := 58) (zs := [.str nS, .str nS]) 58016 rfl rfl ty116 rfl (fun v881 => ?_))
      refine b_op rfl (o_store (cs := [.str nS, .str [48, 49]]) (zs := [.str nS, .str [48, 49]]) rfl rfl rfl ty116 rfl rfl rfl rfl rfl ?_)
      refine b_nil (hK _ ?_)
      refine AW.rgs rfl fun K hK => mv rfl rfl (bv rfl (v_loadP ty116 rfl rfl (l_litA rfl (lb rfl) rfl)) ?_)
      refine b_lookG kTRace (k := ([], [48, 49])) (e := Q35_7) (zh := hI 0) rfl ty109 ty3 rfl rfl rfl (by decide) rfl (by decide) ?_
      refine bv rfl (v_bin rfl rfl b_eql) ?_
      refine b_nil (hK _ ?_)
      refine AW.cond rfl (fun hc => absurd hc (by decide)) (fun _ => ?_)
      refine AW.skip ?_
      show UW _ _ _ _ _ _ _
      refine AW.rgs rfl fun K hK => b_nextG khSS_rep codeSS_inj kfSS_inj (e := Q35_8) rfl rfl rfl rfl (by decide) (fun h890 => ?_) (fun k891 x892 h893 h894 => ?_)
      ·clear h890
       refine bv rfl (v_extract rfl rfl) ?_
       refine b_nil (hK _ ?_)
       refine AW.cseq rfl (fun hc => absurd hc (by decide)) (fun _ => ?_)
       refine AW.exit ?_
       exact hTu137 _ (to_leR (cu137_1 v821 p826) (le_q rfl rfl))
      rcases List.mem_cons.1 h893 with h896 | h893
      ·cases h896
       exact absurd (by decide) h894
      rcases List.mem_cons.1 h893 with h897 | h893
      ·cases h897
       exact absurd (by decide) h894
      rcases List.mem_cons.1 h893 with h898 | h893
      ·cases h898
       exact absurd (by decide) h894
      cases h893
     rcases List.mem_cons.1 h878 with h899 | h878
     ·cases h899
      exact absurd (by decide) h879
     rcases List.mem_cons.1 h878 with h900 | h878
     ·cases h900
      exact absurd (by decide) h879
     cases h878
    refine AW.rgs rfl fun K hK => b_nextG khSS_rep codeSS_inj kfSS_inj (e := Q35_8) rfl rfl rfl rfl (by decide) (fun h901 => ?_) (fun k902 x903 h904 h905 => ?_)
    ·exact absurd h901 (by decide)
    rcases List.mem_cons.1 h904 with h906 | h904
    ·cases h906
     clear h905
     refine bv rfl (v_extract rfl rfl) ?_
     refine b_nil (hK _ ?_)
     refine AW.cseq rfl (fun _ => ?_) (fun hc => absurd hc (by decide))
     refine AW.skip ?_
     refine AW.block ?_
     refine AW.rgs rfl fun K hK => b_entryG (k := ([], [48, 49])) (e := Q35_8) (v := hI 9223372036854775807) khSS_rep codeSS_inj kfSS_inj rfl rfl rfl rfl (by decide) rfl ?_
     refine bv rfl (v_extract rfl rfl) ?_
     refine b_op rfl (o_alloc (fid := 58) (zs := [.str nS, .str nS]) 58016 rfl rfl ty116 rfl (fun v907 => ?_))
     refine b_op rfl (o_store (cs := [.str nS, .str [48, 49]]) (zs := [.str nS, .str [48, 49]]) rfl rfl rfl ty116 rfl rfl rfl rfl rfl ?_)
     refine b_nil (hK _ ?_)
     refine AW.rgs rfl fun K hK => mv rfl rfl (bv rfl (v_loadP ty116 rfl rfl (l_litA rfl (lb rfl) rfl)) ?_)
     refine b_lookG kTRace (k := ([], [48, 49])) (e := Q35_7) (zh := hI 0) rfl ty109 ty3 rfl rfl rfl (by decide) rfl (by decide) ?_
     refine bv rfl (v_bin rfl rfl b_eql) ?_
     refine b_nil (hK _ ?_)
     refine AW.cond rfl (fun hc => absurd hc (by decide)) (fun _ => ?_)
     refine AW.skip ?_
     exact hTu824 _ (to_leR (cu824_0 p601) (le_q rfl rfl))
    rcases List.mem_cons.1 h904 with h909 | h904
    ·cases h909
     clear h905
     refine bv rfl (v_extract rfl rfl) ?_
     refine b_nil (hK _ ?_)
     refine AW.cseq rfl (fun _ => ?_) (fun hc => absurd hc (by decide))
     refine AW.skip ?_
     refine AW.block ?_
     refine AW.rgs rfl fun K hK => b_entryG (k := ([], [49])) (e := Q35_8) (v := hI 9223372036854775807) khSS_rep codeSS_inj kfSS_inj rfl rfl rfl rfl (by decide) rfl ?_
     refine bv rfl (v_extract rfl rfl) ?_
     refine b_op rfl (o_alloc (fid := 58) (zs := [.str nS, .str nS]) 58016 rfl rfl ty116 rfl (fun v910 => ?_))
     refine b_op rfl (o_store (cs := [.str nS, .str [49]]) (zs := [.str nS, .str [49]]) rfl rfl rfl ty116 rfl rfl rfl rfl rfl ?_)
     refine b_nil (hK _ ?_)
     refine AW.rgs rfl fun K hK => mv rfl rfl (bv rfl (v_loadP ty116 rfl rfl (l_litA rfl (lb rfl) rfl)) ?_)
     refine b_lookG kTRace (k := ([], [49])) (e := Q35_7) (zh := hI 0) rfl ty109 ty3 rfl rfl rfl (by decide) rfl (by decide) ?_
     refine bv rfl (v_bin rfl rfl b_eql) ?_
     refine b_nil (hK _ ?_)
     refine AW.cond rfl (fun _ => ?_) (fun hc => absurd hc (by decide))
     refine AW.rg rfl fun K hK => mv rfl rfl (bv rfl (v_loadP ty116 rfl rfl (l_litA rfl (lb rfl) rfl)) ?_)
     refine b_op rfl (o_bsl rfl rfl (as_of (cs := [.str nS, .str [49]]) ty113 ty116 rfl rfl rfl rfl rfl) ?_)
     refine b_appQs eFirstSecond (pre := p601) (l := R35_3) (m := R35_2) rfl rfl rfl ty113 ty113 ty116 rfl rfl rfl rfl rfl (by decide) fun v911 p912 => ?_
     refine mv rfl rfl ?_
     refine b_nil (hK _ ?_)
     exact hTu824 _ (to_leR (cu824_1 v911 p912) (le_q rfl rfl))
    rcases List.mem_cons.1 h904 with h914 | h904
    ·cases h914
     exact absurd (by decide) h905
    cases h904
   refine AW.rgs rfl fun K hK => b_nextG khSS_rep codeSS_inj kfSS_inj (e := Q35_8) rfl rfl rfl rfl (by decide) (fun h915 => ?_) (fun k916 x917 h918 h919 => ?_)
   ·exact absurd h915 (by decide)
   rcases List.mem_cons.1 h918 with h920 | h918
   ·cases h920
    clear h919
    refine bv rfl (v_extract rfl rfl) ?_
    refine b_nil (hK _ ?_)
    refine AW.cseq rfl (fun _ => ?_) (fun hc => absurd hc (by decide))
    refine AW.skip ?_
    refine AW.block ?_
    refine AW.rgs rfl fun K hK => b_entryG (k := ([], [48, 49])) (e := Q35_8) (v := hI 9223372036854775807) khSS_rep codeSS_inj kfSS_inj rfl rfl rfl rfl (by decide) rfl ?_
    refine bv rfl (v_extract rfl rfl) ?_
    refine b_op rfl (o_alloc (fid := 58) (zs := [.str nS, .str nS]) 58016 rfl rfl ty116 rfl (fun v921 => ?_))
    refine b_op rfl (o_store (cs := [.str nS, .str [48, 49]]) (zs := [.str nS, .str [48, 49]]) rfl rfl rfl ty116 rfl rfl rfl rfl rfl ?_)
    refine b_nil (hK _ ?_)
    refine AW.rgs rfl fun K hK => mv rfl rfl (bv rfl (v_loadP ty116 rfl rfl (l_litA rfl (lb rfl) rfl)) ?_)
    refine b_lookG kTRace (k := ([], [48, 49])) (e := Q35_7) (zh := hI 0) rfl ty109 ty3 rfl rfl rfl (by decide) rfl (by decide) ?_
    refine bv rfl (v_bin rfl rfl b_eql) ?_
    refine b_nil (hK _ ?_)
    refine AW.cond rfl (fun hc => absurd hc (by decide)) (fun _ => ?_)
    refine AW.skip ?_
    exact hTu599 _ (to_leR (cu599_0) (le_q rfl rfl))
   rcases List.mem_cons.1 h918 with h922 | h918
   ·cases h922
    clear h919
    refine bv rfl (v_extract rfl rfl) ?_
    refine b_nil (hK _ ?_)
    refine AW.cseq rfl (fun _ => ?_) (fun hc => absurd hc (by decide))
    refine AW.skip ?_
    refine AW.block ?_
    refine AW.rgs rfl fun K hK => b_entryG (k := ([], [49])) (e := Q35_8) (v := hI 9223372036854775807) khSS_rep codeSS_inj kfSS_inj rfl rfl rfl rfl (by decide) rfl ?_
    refine bv rfl (v_extract rfl rfl) ?_
    refine b_op rfl (o_alloc (fid := 58) (zs := [.str nS, .str nS]) 58016 rfl rfl ty116 rfl (fun v923 => ?_))
    refine b_op rfl (o_store (cs := [.str nS, .str [49]]) (zs := [.str nS, .str [49]]) rfl rfl rfl ty116 rfl rfl rfl rfl rfl ?_)
    refine b_nil (hK _ ?_)
    refine AW.rgs rfl fun K hK => mv rfl rfl (bv rfl (v_loadP ty116 rfl rfl (l_litA rfl (lb rfl) rfl)) ?_)
    refine b_lookG kTRace (k := ([], [49])) (e := Q35_7) (zh := hI 0) rfl ty109 ty3 rfl rfl rfl (by decide) rfl (by decide) ?_
    refine bv rfl (v_bin rfl rfl b_eql) ?_
    refine b_nil (hK _ ?_)
    refine AW.cond rfl (fun _ => ?_) (fun hc => absurd hc (by decide))
    refine AW.rg rfl fun K hK => mv rfl rfl (bv rfl (v_loadP ty116 rfl rfl (l_litA rfl (lb rfl) rfl)) ?_)
    refine b_op rfl (o_bsl rfl rfl (as_of (cs := [.str nS, .str [49]]) ty113 ty116 rfl rfl rfl rfl rfl) ?_)
    refine b_op rfl (o_appN (fid := 58) eFirstSecond (m := R35_2) 58102 rfl rfl rfl ty113 ty113 ty116 rfl rfl rfl rfl (by decide) (fun v924 => ?_))
    refine mv rfl rfl ?_
    refine b_nil (hK _ ?_)
    exact hTu599 _ (to_leR (cu599_1 v924 ([] : List TFirstSecond)) (le_q rfl rfl))
   rcases List.mem_cons.1 h918 with h926 | h918
   ·cases h926
    clear h919
    refine bv rfl (v_extract rfl rfl) ?_
    refine b_nil (hK _ ?_)
    refine AW.cseq rfl (fun _ => ?_) (fun hc => absurd hc (by decide))
    refine AW.skip ?_
    refine AW.block ?_
    refine AW.rgs rfl fun K hK => b_entryG (k := ([48, 49], [49])) (e := Q35_8) (v := hI 9223372036854775807) khSS_rep codeSS_inj kfSS_inj rfl rfl rfl rfl (by decide) rfl ?_
    refine bv rfl (v_extract rfl rfl) ?_
    refine b_op rfl (o_alloc (fid := 58) (zs := [.str nS, .str nS]) 58016 rfl rfl ty116 rfl (fun v927 => ?_))
    refine b_op rfl (o_store (cs := [.str [48, 49], .str [49]]) (zs := [.str [48, 49], .str [49]]) rfl rfl rfl ty116 rfl rfl rfl rfl rfl ?_)
    refine b_nil (hK _ ?_)
    refine AW.rgs rfl fun K hK => mv rfl rfl (bv rfl (v_loadP ty116 rfl rfl (l_litA rfl (lb rfl) rfl)) ?_)
    refine b_lookG kTRace (k := ([48, 49], [49])) (e := Q35_7) (zh := hI 0) rfl ty109 ty3 rfl rfl rfl (by decide) rfl (by decide) ?_
    refine bv rfl (v_bin rfl rfl b_eql) ?_
    refine b_nil (hK _ ?_)
    refine AW.cond rfl (fun _ => ?_) (fun hc => absurd hc (by decide))
    refine AW.rg rfl fun K hK => mv rfl rfl (bv rfl (v_loadP ty116 rfl rfl (l_litA rfl (lb rfl) rfl)) ?_)
    refine b_op rfl (o_bsl rfl rfl (as_of (cs := [.str [48, 49], .str [49]]) ty113 ty116 rfl rfl rfl rfl rfl) ?_)
    refine b_op rfl (o_appN (fid := 58) eFirstSecond (m := R35_3) 58102 rfl rfl rfl ty113 ty113 ty116 rfl rfl rfl rfl (by decide) (fun v928 => ?_))
    refine mv rfl rfl ?_
    refine b_nil (hK _ ?_)
    exact hTu599 _ (to_leR (cu599_2 v928 ([] : List TFirstSecond)) (le_q rfl rfl))
   cases h918
  let P : ASf := fun t H => ⟨(1, .fptr [hI 2, W35] 0) :: (2, .ptr 58002 v1 0) :: (3, .ptr 58003 v3 0) :: (4, .ptr 58004 v4 0) :: (5, .fn (.func 87) [] [.ptr 58003 v3 0, .ptr 58004 v4 0]) :: (9, .mp 58044 v13) :: (10, .mp 58045 v14) :: (11, .ptr 58011 v68 0) :: (14, .ptr 58014 v115 0) :: (55, hI 2) :: (56, hI 0) :: (63, slE eFirstSecond R35_1) :: (64, hI 2) :: (65, hI 1) :: t, (58002, v1, .arr 3 111 [hI 0, .v (.slice none 0 0), .v (.map none)]) :: (58022, v2, .gmap (gcan kfSS Q35_4) none) :: (58003, v3, .arr 3 111 [hI 2, W35, .mp 58022 v2]) :: (58004, v4, .arr 1 113 [.ar 1087021 v107 eFirstSecond.k ((p108).length * eFirstSecond.k) ((R35_2).length)]) :: (1087021, v107, .arr eFirstSecond.k 116 (eFirstSecond.E (p108 ++ R35_2))) :: (58044, v13, .gmap (gcan kfSS Q35_6) none) :: H⟩
  have g118_7 : ∀ (v1180401 : Nat), F [0, 1, 2, 3, 4, 5] (P [(77, .mp 58045 v14), (80, hI 2), (82, .v (goInt v1180401))] [(58045, v14, .gmap (gcan kfSS Q35_3) (some (v1180401, kfSS ([], [48, 49])))), (58011, v68, .arr 2 116 [.str nS, .str [48, 49]]), (58014, v115, .arr 2 116 [.str [48, 49], .str [49]])]) := by
   intro v1180401
   refine l_step hF rfl [6] rfl rfl ⟨?_, trivial⟩
   refine l_opX rfl rfl rfl (fun hN => o_entStG hN kfSS_inj (n := v1180401) (k := ([], [48, 49])) (e := Q35_3) (hv := hI 2) rfl rfl rfl rfl rfl (by repeat first | exact noIt_nil | refine noIt_cons (fun _ _ _ e => by cases e) ?_) ?_)
   exact b_nil (lg hF (g118_8))
  have g118_6 : ∀ (v1180401 : Nat), F [0, 1, 2, 4, 5] (P [(77, .mp 58045 v14), (79, hI 1), (82, .v (goInt v1180401))] [(58045, v14, .gmap (gcan kfSS Q35_3) (some (v1180401, kfSS ([], [48, 49])))), (58011, v68, .arr 2 116 [.str nS, .str [48, 49]]), (58014, v115, .arr 2 116 [.str [48, 49], .str [49]])]) := by
   intro v1180401
   refine l_takeW (i := 3) hF rfl rfl rfl (f_bin rfl rfl rfl b_add rfl) ?_
   exact lg hF (g118_7 v1180401)
  have g118_10 : ∀ (v1180401 : Nat), F [0, 1, 2, 3, 4] (P [(77, .mp 58045 v14), (80, hI 2), (81, .tup [hI 1, .v (goInt v1180401)])] [(58045, v14, .gmap (gcan kfSS Q35_3) (some (v1180401, kfSS ([], [48, 49])))), (58011, v68, .arr 2 116 [.str nS, .str [48, 49]]), (58014, v115, .arr 2 116 [.str [48, 49], .str [49]])]) := by
   intro v1180401
   refine l_takeW (i := 5) hF rfl rfl rfl (f_ext rfl rfl rfl) ?_
   exact lg hF (g118_7 v1180401)
  have g118_5 : ∀ (v1180401 : Nat), F [0, 1, 4, 5] (P [(77, .mp 58045 v14), (78, .agg [.str nS, .str [48, 49]]), (82, .v (goInt v1180401))] [(58045, v14, .gmap (gcan kfSS Q35_3) (some (v1180401, kfSS ([], [48, 49])))), (58011, v68, .arr 2 116 [.str nS, .str [48, 49]]), (58014, v115, .arr 2 116 [.str [48, 49], .str [49]])]) := by
   intro v1180401
   refine l_step hF rfl [2] rfl rfl ⟨?_, trivial⟩
   refine l_opX rfl rfl rfl (fun hN => o_lookG hN kTRace (k := ([], [48, 49])) (e := Q35_3) (zh := hI 0) rfl ty109 ty3 rfl rfl rfl (by decide) rfl (by decide) ?_)
   exact b_nil (lg hF (g118_6 v1180401))
  have g118_9 : F [0, 1, 2, 3] (P [(77, .mp 58045 v14), (78, .agg [.str nS, .str [48, 49]]), (80, hI 2)] [(58045, v14, .gmap (gcan kfSS Q35_3) none), (58011, v68, .arr 2 116 [.str nS, .str [48, 49]]), (58014, v115, .arr 2 116 [.str [48, 49], .str [49]])]) := by
   refine l_step hF rfl [4] rfl rfl ⟨?_, trivial⟩
   refine l_opX rfl rfl rfl (fun hN => o_entG hN kTRace (k := ([], [48, 49])) (e := Q35_3) (zh := hI 0) rfl ty109 ty3 rfl rfl rfl (by decide) rfl (by decide) (by repeat first | exact noIt_nil | refine noIt_cons (fun _ _ _ e => by cases e) ?_) fun v1180401 => ?_)
   exact b_nil (lg hF (g118_10 v1180401))
  have g118_3 : F [0, 1, 2] (P [(77, .mp 58045 v14), (78, .agg [.str nS, .str [48, 49]]), (79, hI 1)] [(58045, v14, .gmap (gcan kfSS Q35_3) none), (58011, v68, .arr 2 116 [.str nS, .str [48, 49]]), (58014, v115, .arr 2 116 [.str [48, 49], .str [49]])]) := by
   refine l_takeW (i := 3) hF rfl rfl rfl (f_bin rfl rfl rfl b_add rfl) ?_
   exact lg hF (g118_9)
  have g118_4 : ∀ (v1180401 : Nat), F [0, 1, 4] (P [(77, .mp 58045 v14), (78, .agg [.str nS, .str [48, 49]]), (81, .tup [hI 1, .v (goInt v1180401)])] [(58045, v14, .gmap (gcan kfSS Q35_3) (some (v1180401, kfSS ([], [48, 49])))), (58011, v68, .arr 2 116 [.str nS, .str [48, 49]]), (58014, v115, .arr 2 116 [.str [48, 49], .str [49]])]) := by
   intro v1180401
   refine l_takeW (i := 5) hF rfl rfl rfl (f_ext rfl rfl rfl) ?_
   exact lg hF (g118_5 v1180401)
  have g118_2 : F [0, 1] (P [(77, .mp 58045 v14), (78, .agg [.str nS, .str [48, 49]])] [(58045, v14, .gmap (gcan kfSS Q35_3) none), (58011, v68, .arr 2 116 [.str nS, .str [48, 49]]), (58014, v115, .arr 2 116 [.str [48, 49], .str [49]])]) := by
   refine l_step hF rfl [2, 4] rfl rfl ⟨?_, ?_, trivial⟩
   ·refine l_opX rfl rfl rfl (fun hN => o_lookG hN kTRace (k := ([], [48, 49])) (e := Q35_3) (zh := hI 0) rfl ty109 ty3 rfl rfl rfl (by decide) rfl (by decide) ?_)
    exact b_nil (lg hF (g118_3))
   refine l_opX rfl rfl rfl (fun hN => o_entG hN kTRace (k := ([], [48, 49])) (e := Q35_3) (zh := hI 0) rfl ty109 ty3 rfl rfl rfl (by decide) rfl (by decide) (by repeat first | exact noIt_nil | refine noIt_cons (fun _ _ _ e => by cases e) ?_) fun v1180401 => ?_)
   exact b_nil (lg hF (g118_4 v1180401))
  have g118_1 : F [0] (P [(77, .mp 58045 v14)] [(58045, v14, .gmap (gcan kfSS Q35_3) none), (58011, v68, .arr 2 116 [.str nS, .str [48, 49]]), (58014, v115, .arr 2 116 [.str [48, 49], .str [49]])]) := by
   refine l_step hF rfl [1] rfl rfl ⟨?_, trivial⟩
   exact l_ov rfl rfl rfl rfl (v_loadP ty116 rfl rfl (l_litA rfl (lb rfl) rfl)) (lg hF (g118_2))
  have g118_0 : F [] (P [] [(58045, v14, .gmap (gcan kfSS Q35_3) none), (58011, v68, .arr 2 116 [.str nS, .str [48, 49]]), (58014, v115, .arr 2 116 [.str [48, 49], .str [49]])]) := by
   refine l_take (i := 0) hF rfl rfl rfl (mv_val rfl rfl).2 ?_
   exact lg hF (g118_1)
  exact g118_0
 let P : ASf := fun t H => ⟨(1, .fptr [hI 2, W35] 0) :: (2, .ptr 58002 v1 0) :: (3, .ptr 58003 v3 0) :: (4, .ptr 58004 v4 0) :: (5, .fn (.func 87) [] [.ptr 58003 v3 0, .ptr 58004 v4 0]) :: (9, .mp 58044 v13) :: (10, .mp 58045 v14) :: (11, .ptr 58011 v68 0) :: (14, .ptr 58014 v103 0) :: (55, hI 2) :: (56, hI 0) :: (63, slE eFirstSecond R35_1) :: (64, hI 2) :: (65, hI 0) :: t, (58002, v1, .arr 3 111 [hI 0, .v (.slice none 0 0), .v (.map none)]) :: (58022, v2, .gmap (gcan kfSS Q35_0) none) :: (58003, v3, .arr 3 111 [hI 2, W35, .mp 58022 v2]) :: (58004, v4, .arr 1 113 [q71]) :: (1087021, v69, .arr eFirstSecond.k 116 (eFirstSecond.E p70)) :: (58044, v13, .gmap (gcan kfSS Q35_2) none) :: H⟩
 have g106_7 : ∀ (v1060401 : Nat), F [0, 1, 2, 3, 4, 5] (P [(77, .mp 58045 v14), (80, hI 1), (82, .v (goInt v1060401))] [(58045, v14, .gmap (gcan kfSS Q35_11) (some (v1060401, kfSS ([], [48, 49])))), (58011, v68, .arr 2 116 [.str nS, .str [48, 49]]), (58014, v103, .arr 2 116 [.str nS, .str [49]])]) := by
  intro v1060401
  refine l_step hF rfl [6] rfl rfl ⟨?_, trivial⟩
  refine l_opX rfl rfl rfl (fun hN => o_entStG hN kfSS_inj (n := v1060401) (k := ([], [48, 49])) (e := Q35_11) (hv := hI 1) rfl rfl rfl rfl rfl (by repeat first | exact noIt_nil | refine noIt_cons (fun _ _ _ e => by cases e) ?_) ?_)
  exact b_nil (lg hF (g106_8))
 have g106_6 : ∀ (v1060401 : Nat), F [0, 1, 2, 4, 5] (P [(77, .mp 58045 v14), (79, hI 0), (82, .v (goInt v1060401))] [(58045, v14, .gmap (gcan kfSS Q35_11) (some (v1060401, kfSS ([], [48, 49])))), (58011, v68, .arr 2 116 [.str nS, .str [48, 49]]), (58014, v103, .arr 2 116 [.str nS, .str [49]])]) := by
  intro v1060401
  refine l_takeW (i := 3) hF rfl rfl rfl (f_bin rfl rfl rfl b_add rfl) ?_
  exact lg hF (g106_7 v1060401)
 have g106_10 : ∀ (v1060401 : Nat), F [0, 1, 2, 3, 4] (P [(77, .mp 58045 v14), (80, hI 1), (81, .tup [hI 0, .v (goInt v1060401)])] [(58045, v14, .gmap (gcan kfSS Q35_11) (some (v1060401, kfSS ([], [48, 49])))), (58011, v68, .arr 2 116 [.str nS, .str [48, 49]]), (58014, v103, .arr 2 116 [.str nS, .str [49]])]) := by
  intro v1060401
  refine l_takeW (i := 5) hF rfl rfl rfl (f_ext rfl rfl rfl) ?_
  exact lg hF (g106_7 v1060401)
 have g106_5 : ∀ (v1060401 : Nat), F [0, 1, 4, 5] (P [(77, .mp 58045 v14), (78, .agg [.str nS, .str [48, 49]]), (82, .v (goInt v1060401))] [(58045, v14, .gmap (gcan kfSS Q35_11) (some (v1060401, kfSS ([], [48, 49])))), (58011, v68, .arr 2 116 [.str nS, .str [48, 49]]), (58014, v103, .arr 2 116 [.str nS, .str [49]])]) := by
  intro v1060401
  refine l_step hF rfl [2] rfl rfl ⟨?_, trivial⟩
  refine l_opX rfl rfl rfl (fun hN => o_lookG hN kTRace (k := ([], [48, 49])) (e := Q35_11) (zh := hI 0) rfl ty109 ty3 rfl rfl rfl (by decide) rfl (by decide) ?_)
  exact b_nil (lg hF (g106_6 v1060401))
 have g106_9 : F [0, 1, 2, 3] (P [(77, .mp 58045 v14), (78, .agg [.str nS, .str [48, 49]]), (80, hI 1)] [(58045, v14, .gmap (gcan kfSS []) none), (58011, v68, .arr 2 116 [.str nS, .str [48, 49]]), (58014, v103, .arr 2 116 [.str nS, .str [49]])]) := by
  refine l_step hF rfl [4] rfl rfl ⟨?_, trivial⟩
  refine l_opX rfl rfl rfl (fun hN => o_entG hN kTRace (k := ([], [48, 49])) (e := []) (zh := hI 0) rfl ty109 ty3 rfl rfl rfl (by decide) rfl (by decide) (by repeat first | exact noIt_nil | refine noIt_cons (fun _ _ _ e => by cases e) ?_) fun v1060401 => ?_)
  exact b_nil (lg hF (g106_10 v1060401))
 have g106_3 : F [0, 1, 2] (P [(77, .mp 58045 v14), (78, .agg [.str nS, .str [48, 49]]), (79, hI 0)] [(58045, v14, .gmap (gcan kfSS []) none), (58011, v68, .arr 2 116 [.str nS, .str [48, 49]]), (58014, v103, .arr 2 116 [.str nS, .str [49]])]) := by
  refine l_takeW (i := 3) hF rfl rfl rfl (f_bin rfl rfl rfl b_add rfl) ?_
  exact lg hF (g106_9)
 have g106_4 : ∀ (v1060401 : Nat), F [0, 1, 4] (P [(77, .mp 58045 v14), (78, .agg [.str nS, .str [48, 49]]), (81, .tup [hI 0, .v (goInt v1060401)])] [(58045, v14, .gmap (gcan kfSS Q35_11) (some (v1060401, kfSS ([], [48, 49])))), (58011, v68, .arr 2 116 [.str nS, .str [48, 49]]), (58014, v103, .arr 2 116 [.str nS, .str [49]])]) := by
  intro v1060401
  refine l_takeW (i := 5) hF rfl rfl rfl (f_ext rfl rfl rfl) ?_
  exact lg hF (g106_5 v1060401)
 have g106_2 : F [0, 1] (P [(77, .mp 58045 v14), (78, .agg [.str nS, .str [48, 49]])] [(58045, v14, .gmap (gcan kfSS []) none), (58011, v68, .arr 2 116 [.str nS, .str [48, 49]]), (58014, v103, .arr 2 116 [.str nS, .str [49]])]) := by
  refine l_step hF rfl [2, 4] rfl rfl ⟨?_, ?_, trivial⟩
  ·refine l_opX rfl rfl rfl (fun hN => o_lookG hN kTRace (k := ([], [48, 49])) (e := []) (zh := hI 0) rfl ty109 ty3 rfl rfl rfl (by decide) rfl (by decide) ?_)
   exact b_nil (lg hF (g106_3))
  refine l_opX rfl rfl rfl (fun hN => o_entG hN kTRace (k := ([], [48, 49])) (e := []) (zh := hI 0) rfl ty109 ty3 rfl rfl rfl (by decide) rfl (by decide) (by repeat first | exact noIt_nil | refine noIt_cons (fun _ _ _ e => by cases e) ?_) fun v1060401 => ?_)
  exact b_nil (lg hF (g106_4 v1060401))
 have g106_1 : F [0] (P [(77, .mp 58045 v14)] [(58045, v14, .gmap (gcan kfSS []) none), (58011, v68, .arr 2 116 [.str nS, .str [48, 49]]), (58014, v103, .arr 2 116 [.str nS, .str [49]])]) := by
  refine l_step hF rfl [1] rfl rfl ⟨?_, trivial⟩
  exact l_ov rfl rfl rfl rfl (v_loadP ty116 rfl rfl (l_litA rfl (lb rfl) rfl)) (lg hF (g106_2))
 have g106_0 : F [] (P [] [(58045, v14, .gmap (gcan kfSS []) none), (58011, v68, .arr 2 116 [.str nS, .str [48, 49]]), (58014, v103, .arr 2 116 [.str nS, .str [49]])]) := by
  refine l_take (i := 0) hF rfl rfl rfl (mv_val rfl rfl).2 ?_
  exact lg hF (g106_1)
 exact g106_0
def m_internal_bytealg_CompareString (a b : List UInt8) : Option Int := some (Lib.compareBytes a b)
set_option maxRecDepth 100000 in
theorem q71s (a b : ByteArray) (w : World) : Calls Tryz.prog 123 #[.string a, .string b] w fun e w' => e = .returned (.int .i64 (Lib.compareBytes a.data.toList b.data.toList)) ∧ w' = w := by
 go_enter Tryz.func123, Tryz.ntmps123
 go_wp2
 rw [run_callFunc_extern Tryz.func147 (by kernel_rfl) (by kernel_rfl) (by kernel_rfl) (e := Extern.BytealgCompare.compare) (by kernel_rfl), Lib.run_compareString]
 simp only [Result.andThen]
 rw [Oper.upon_value]
 go_wp2
 go_ret
 exact ⟨rfl, rfl⟩
theorem cmpB_absS : ∀ a b : List UInt8, -1 ≤ Lib.compareBytes a b ∧ Lib.compareBytes a b ≤ 1
 | [], [] => by simp [Lib.compareBytes]
 | [], _ :: _ => by simp [Lib.compareBytes]
 | _ :: _, [] => by simp [Lib.compareBytes]
 | a :: l, b :: m => by
  unfold Lib.compareBytes
  split
  ·omega
  split
  ·omega
  exact cmpB_absS l m
theorem w_internal_bytealg_CompareString {a b : List UInt8} {r : Int} (h : m_internal_bytealg_CompareString a b = some r) : Pure Tryz.prog 123 [HV.str a, HV.str b] (· = HV.int .i64 r) := by
 cases h
 refine ⟨enters' Tryz.func123 rfl rfl, fun μ w vs hs hr hgl => ?_⟩
 obtain ⟨v, xs, rfl, ⟨rfl, _⟩, v2, xs2, rfl, ⟨rfl, _⟩, hn⟩ := hr
 cases hn
 refine (q71s ⟨a.toArray⟩ ⟨b.toArray⟩ w).mono ?_
 rintro e w' ⟨rfl, rfl⟩
 have := cmpB_absS a b
 exact ⟨_, .int .i64 (Lib.compareBytes a b), [], μ, rfl, ⟨rfl, trivial, rfl⟩, hs, ⟨rfl, by simp [Lit.wf, IntKind.min, IntKind.max, IntKind.signed, IntKind.bits]; omega⟩, Evo.refl _ _⟩
noncomputable def m_strings_Compare (p0 : List UInt8) (p1 : List UInt8) : Option (Int) :=
 (m_internal_bytealg_CompareString p0 p1).bind fun x1 =>
 some x1
noncomputable def m_code_before (p0 : List UInt8) (p1 : List UInt8) : Option (Int) :=
 (m_cmp_Compare_int ((p0).length : Int) ((p1).length : Int)).bind fun x1 =>
 (m_strings_Compare p0 p1).bind fun x3 =>
 (m_cmp_Or_int [x1, x3]).bind fun x5 =>
 some x5
noncomputable def m_code_Check (p0 : TLettersWords) : Option (Int) :=
 jp (fun (a1 : Bool) =>
   if a1 = true then
    some 12
   else
    if ((p0.2).length : Int) = 0 then
     some 5
    else
     if 64 < ((p0.2).length : Int) then
      some 4
     else
      lpO (loopW (S := Int) (X := Ou (Unit) (Int)) (fun a4 =>
          if a4 < ((p0.2).length : Int) then
           (idx p0.2 a4).bind fun x8 =>
           if x8 = ([] : List UInt8) then
            some (Stp.exit (Ou.ret 5))
           else
            if 32 < ((x8).length : Int) then
             some (Stp.exit (Ou.ret 4))
            else
             (m_word_Check p0.1 x8).bind fun x10 =>
             if x10 ≠ 0 then
              some (Stp.exit (Ou.ret 13))
             else
              jp (fun (a12 : Bool) =>
                if a12 = true then
                 some (Stp.exit (Ou.ret 10))
                else
                 some (Stp.next (IntKind.wrap .i64 (a4 + 1))))
                fun k14 =>
               if 0 < a4 then
                (idx p0.2 (IntKind.wrap .i64 (a4 - 1))).bind fun x15 =>
                (m_code_before x15 x8).bind fun x17 =>
                k14 (decide (0 ≤ x17))
               else
                k14 false
          else
           some (Stp.exit (Ou.go ()))) 0) (fun a20 =>
          some 0) some)
   fun k3 =>
  if p0.1 < 2 then
   k3 true
  else
   k3 (decide (16 < p0.1))
theorem w_strings_Compare {p0 : List UInt8} {p1 : List UInt8} {r : Int} (h : m_strings_Compare p0 p1 = some r) : Pure Tryz.prog 108 [.str p0, .str p1] (· = hI r) := by
 unfold m_strings_Compare at h
 refine Pure.of_body Tryz.func108 rfl rfl (lb rfl) fun hf => ?_
 unfold Tryz.f108
 dsimp only [enumS, Nat.reduceAdd]
 refine AW.rgs rfl fun K hK => mv rfl rfl ?_
 refine bf hK ⟨[(0, .str p0), (1, .str p1)], []⟩ ?_
 refine AW.rgs rfl fun K hK => mv rfl rfl (mv rfl rfl ?_)
 obtain ⟨x1, h2, h⟩ := bS h
 refine b_op rfl (o_call rfl rfl rfl rfl (ACallD.pure0 (w_internal_bytealg_CompareString h2)) ?_)
 refine mv rfl rfl ?_
 refine bf hK ⟨[(4, hI x1)], []⟩ ?_
 obtain rfl := oi h
 exact AW.ret (ret_pure (.inr rfl) (resT rfl rfl) rfl trivial)
theorem w_code_before {p0 : List UInt8} {p1 : List UInt8} {r : Int} (h : m_code_before p0 p1 = some r) : Pure Tryz.prog 86 [.str p0, .str p1] (· = hI r) := by
 unfold m_code_before at h
 refine Pure.of_body Tryz.func86 rfl rfl (lb rfl) fun hf => ?_
 unfold Tryz.f86
 dsimp only [enumS, Nat.reduceAdd]
 refine AW.rgs rfl fun K hK => mv rfl rfl ?_
 refine bf hK ⟨[(0, .str p0), (1, .str p1)], []⟩ ?_
 refine AW.rgs rfl fun K hK => mv rfl rfl (bv rfl (v_lenS rfl rfl ty9 rfl) (mv rfl rfl (bv rfl (v_lenS rfl rfl ty9 rfl) ?_)))
 obtain ⟨x1, h2, h⟩ := bS h
 refine b_op rfl (o_call rfl rfl rfl rfl (ACallD.pure0 (w_cmp_Compare_int h2)) ?_)
 refine mv rfl rfl (mv rfl rfl ?_)
 obtain ⟨x3, h4, h⟩ := bS h
 refine b_op rfl (o_call rfl rfl rfl rfl (ACallD.pure0 (w_strings_Compare h4)) ?_)
 refine b_op rfl (o_bsl rfl rfl (as_of (cs := [hI x1, hI x3]) ty36 ty3 rfl rfl rfl rfl rfl) ?_)
 obtain ⟨x5, h6, h⟩ := bS h
 refine b_op rfl (o_call rfl rfl rfl rfl (ACallD.pure0 (w_cmp_Or_int h6)) ?_)
 refine mv rfl rfl ?_
 refine bf hK ⟨[(4, hI x5)], []⟩ ?_
 obtain rfl := oi h
 exact AW.ret (ret_pure (.inr rfl) (resT rfl rfl) rfl trivial)
theorem w_code_Check {p0 : TLettersWords} {r : Int} (h : m_code_Check p0 = some r) : Pure Tryz.prog 57 [.agg [hI p0.1, slE eStr p0.2]] (· = hI r) := by
 unfold m_code_Check at h
 refine Pure.of_body Tryz.func57 rfl rfl (lb rfl) fun hf => ?_
 unfold Tryz.f57
 dsimp only [enumS, Nat.reduceAdd]
 refine AW.rgs rfl fun K hK => b_op rfl (o_box rfl rfl rfl ?_)
 refine mv rfl rfl ?_
 let E1 : Nat × HV := (1, .fptr [hI p0.1, slE eStr p0.2] 0)
 refine bf hK ⟨[E1], []⟩ ?_
 refine AW.seq (AW.block ?_)
 refine AW.seqJ h (S := Bool) (V := Unit) (fun a v => ⟨[E1, (5, .bool a)], []⟩) (fun a1 w2 h => ?_) (fun k3 h => ?_)
 ·refine AW.cond rfl (fun hc => ?_) (fun hc => ?_)
  ·have h := ifT hc h
   refine AW.rgs rfl fun K hK => mv rfl rfl ?_
   refine bf hK ⟨[(2, hI 12)], []⟩ ?_
   obtain rfl := oi h
   exact AW.ret (ret_pure (.inr rfl) (resT rfl rfl) rfl trivial)
  have h := ifF (bF' hc) h
  refine AW.rgs rfl fun K hK => bv rfl (v_fieldAddrF fo65_1 rfl) (bv rfl (v_loadF ty22 rfl (l_lit rfl rfl)) (bv rfl (v_lenF rfl rfl ty22 rfl) (bv rfl (v_bin rfl rfl b_eql) (mv rfl rfl ?_))))
  refine bf hK ⟨[E1, (14, .bool (decide (((p0.2).length : Int) = 0)))], []⟩ ?_
  refine AW.cond rfl (fun hc => ?_) (fun hc => ?_)
  ·obtain ⟨hc, h⟩ := cT hc h
   refine AW.rgs rfl fun K hK => mv rfl rfl ?_
   refine bf hK ⟨[(2, hI 5)], []⟩ ?_
   obtain rfl := oi h
   exact AW.ret (ret_pure (.inr rfl) (resT rfl rfl) rfl trivial)
  obtain ⟨hc, h⟩ := cF hc h
  refine AW.rgs rfl fun K hK => bv rfl (v_fieldAddrF fo65_1 rfl) (bv rfl (v_loadF ty22 rfl (l_lit rfl rfl)) (bv rfl (v_lenF rfl rfl ty22 rfl) (bv rfl (v_bin rfl rfl b_gtr) (mv rfl rfl ?_))))
  refine bf hK ⟨[E1, (19, .bool (decide (64 < ((p0.2).length : Int))))], []⟩ ?_
  refine AW.cond rfl (fun hc => ?_) (fun hc => ?_)
  ·obtain ⟨hc, h⟩ := cT hc h
   refine AW.rgs rfl fun K hK => mv rfl rfl ?_
   refine bf hK ⟨[(2, hI 4)], []⟩ ?_
   obtain rfl := oi h
   exact AW.ret (ret_pure (.inr rfl) (resT rfl rfl) rfl trivial)
  obtain ⟨hc, h⟩ := cF hc h
  refine AW.skip ?_
  refine AW.seq ?_
  refine AW.rgs rfl fun K hK => bv rfl (v_fieldAddrF fo65_1 rfl) (bv rfl (v_loadF ty22 rfl (l_lit rfl rfl)) (bv rfl (v_lenF rfl rfl ty22 rfl) (mv rfl rfl ?_)))
  let E2 : Nat × HV := (26, hI ((p0.2).length : Int))
  let P1 : ASf := fun t H => ⟨E1 :: (25, slE eStr p0.2) :: E2 :: t, H⟩
  refine bf hK (P1 [(27, hI 0)] []) ?_
  refine AW.lpR h (by first | exact up_then | exact up_to) (S := Int) (V := Unit) (fun a v => (P1 [(27, hI a)] [])) ?_ (X := Unit) (W := Unit) (fun a v => ⟨[], []⟩) (fun a20 w21 h => ?_) (fun a4 w5 st6 h hr7=> ?_)
  ·exact to_L ⟨(), rfl⟩
  ·refine AW.rgs rfl fun K hK => mv rfl rfl ?_
   refine bf hK ⟨[(2, hI 0)], []⟩ ?_
   obtain rfl := oi h
   exact AW.ret (ret_pure (.inr rfl) (resT rfl rfl) rfl trivial)
  refine AW.rgs rfl fun K hK => bv rfl (v_bin rfl rfl b_lss) ?_
  refine bf hK (P1 [(27, hI a4), (28, .bool (decide (a4 < ((p0.2).length : Int))))] []) ?_
  refine AW.cseq rfl (fun hc => ?_) (fun hc => ?_)
  ·obtain ⟨hc, h⟩ := cT hc h
   refine AW.skip ?_
   refine AW.seq (AW.block ?_)
   refine AW.rgs rfl fun K hK => mv rfl rfl ?_
   obtain ⟨x8, h9, h⟩ := bS h
   refine bv rfl (v_idxF ty22 es22 rfl rfl (idx_lt h9)) (bv rfl (v_loadF ty9 rfl (l_cell eStr h9 (o := 0) rfl rfl)) (mv rfl rfl (mv rfl rfl ?_)))
   let P2 : ASf := fun t H => ⟨E1 :: (3, hI a4) :: (4, .str x8) :: (25, slE eStr p0.2) :: E2 :: (27, hI a4) :: t, H⟩
   refine bf hK (P2 [] []) ?_
   refine AW.block ?_
   refine AW.rgs rfl fun K hK => mv rfl rfl (bv rfl (v_bin rfl rfl b_seql) (mv rfl rfl ?_))
   refine bf hK (P2 [(32, .bool (decide (x8 = nS)))] []) ?_
   refine AW.cond rfl (fun hc => ?_) (fun hc => ?_)
   ·obtain ⟨hc, h⟩ := cT hc h
    refine AW.rgs rfl fun K hK => mv rfl rfl ?_
    refine bf hK ⟨[(2, hI 5)], []⟩ ?_
    have h := hr7 _ h
    obtain rfl := oi h
    exact AW.ret (ret_pure (.inr rfl) (resT rfl rfl) rfl trivial)
   obtain ⟨hc, h⟩ := cF hc h
   refine AW.rgs rfl fun K hK => mv rfl rfl (bv rfl (v_lenS rfl rfl ty9 rfl) (bv rfl (v_bin rfl rfl b_gtr) (mv rfl rfl ?_)))
   refine bf hK (P2 [(35, .bool (decide (32 < ((x8).length : Int))))] []) ?_
   refine AW.cond rfl (fun hc => ?_) (fun hc => ?_)
   ·obtain ⟨hc, h⟩ := cT hc h
    refine AW.rgs rfl fun K hK => mv rfl rfl ?_
    refine bf hK ⟨[(2, hI 4)], []⟩ ?_
    have h := hr7 _ h
    obtain rfl := oi h
    exact AW.ret (ret_pure (.inr rfl) (resT rfl rfl) rfl trivial)
   obtain ⟨hc, h⟩ := cF hc h
   refine AW.rgs rfl fun K hK => bv rfl (v_fieldAddrF fo65_0 rfl) (bv rfl (v_loadF ty3 rfl (l_lit rfl rfl)) (mv rfl rfl ?_))
   obtain ⟨x10, h11, h⟩ := bS h
   refine b_op rfl (o_call rfl rfl rfl rfl (ACallD.pure0 (w_word_Check h11)) ?_)
   refine bv rfl (v_bin rfl rfl b_neq) (mv rfl rfl ?_)
   refine bf hK (P2 [(39, .bool (decide (x10 ≠ 0)))] []) ?_
   refine AW.cond rfl (fun hc => ?_) (fun hc => ?_)
   ·obtain ⟨hc, h⟩ := cT hc h
    refine AW.rgs rfl fun K hK => mv rfl rfl ?_
    refine bf hK ⟨[(2, hI 13)], []⟩ ?_
    have h := hr7 _ h
    obtain rfl := oi h
    exact AW.ret (ret_pure (.inr rfl) (resT rfl rfl) rfl trivial)
   obtain ⟨hc, h⟩ := cF hc h
   refine AW.seqJ h (S := Bool) (V := Unit) (fun a v => (P1 [(27, hI a4), (45, .bool a)] [])) (fun a12 w13 h => ?_) (fun k14 h => ?_)
   ·refine AW.cond rfl (fun hc => ?_) (fun hc => ?_)
    ·have h := ifT hc h
     refine AW.rgs rfl fun K hK => mv rfl rfl ?_
     refine bf hK ⟨[(2, hI 10)], []⟩ ?_
     have h := hr7 _ h
     obtain rfl := oi h
     exact AW.ret (ret_pure (.inr rfl) (resT rfl rfl) rfl trivial)
    have h := ifF (bF' hc) h
    refine AW.skip ?_
    refine AW.rg rfl fun K hK => bv rfl (v_bin rfl rfl b_add) (mv rfl rfl ?_)
    refine b_nil (hK _ ?_)
    exact to_L ⟨IntKind.wrap .i64 (a4 + 1), (), h, rfl⟩
   refine AW.rg rfl fun K hK => mv rfl rfl (bv rfl (v_bin rfl rfl b_gtr) (mv rfl rfl ?_))
   by_cases hg19 : 0 < a4
   ·have h := ifT hg19 h
    refine b_T rfl rfl rfl rfl (decide_eq_true hg19) (o_val rfl (v_fieldAddrF fo65_1 rfl) ?_)
    refine b_T rfl rfl rfl rfl rfl (o_val rfl (v_loadF ty22 rfl (l_lit rfl rfl)) ?_)
    refine b_T rfl rfl rfl rfl rfl (o_val rfl (mv_val rfl rfl).2 ?_)
    refine b_T rfl rfl rfl rfl rfl (o_val rfl (v_bin rfl rfl b_sub) ?_)
    obtain ⟨x15, h16, h⟩ := bS h
    refine b_T rfl rfl rfl rfl rfl (o_val rfl (v_idxF ty22 es22 rfl rfl (idx_lt h16)) ?_)
    refine b_T rfl rfl rfl rfl rfl (o_val rfl (v_loadF ty9 rfl (l_cell eStr h16 (o := 0) rfl rfl)) ?_)
    refine b_T rfl rfl rfl rfl rfl (o_val rfl (mv_val rfl rfl).2 ?_)
    obtain ⟨x17, h18, h⟩ := bS h
    refine b_T rfl rfl rfl rfl rfl (o_call rfl rfl rfl rfl (ACallD.pure0 (w_code_before h18)) ?_)
    refine b_T rfl rfl rfl rfl rfl (o_val rfl (v_bin rfl rfl b_geq) ?_)
    refine bv rfl (v_pickT rfl rfl rfl) (mv rfl rfl ?_)
    refine b_nil (hK _ ?_)
    exact to_L ⟨decide (0 ≤ x17), (), h, rfl⟩
   have h := ifF hg19 h
   refine b_F rfl rfl rfl rfl rfl (decide_eq_false hg19) ?_
   iterate 8 refine b_F rfl rfl rfl rfl rfl rfl ?_
   refine bv rfl (v_pickF rfl rfl rfl) (mv rfl rfl ?_)
   refine b_nil (hK _ ?_)
   exact to_L ⟨false, (), h, rfl⟩
  obtain ⟨hc, h⟩ := cF hc h
  refine AW.exit ?_
  exact to_L ⟨(), (), h, rfl⟩
 refine AW.rg rfl fun K hK => bv rfl (v_fieldAddrF fo65_0 rfl) (bv rfl (v_loadF ty3 rfl (l_lit rfl rfl)) (bv rfl (v_bin rfl rfl b_lss) (mv rfl rfl ?_)))
 by_cases hg22 : p0.1 < 2
 ·have h := ifT hg22 h
  refine b_F rfl rfl rfl rfl rfl (decide_eq_true hg22) ?_
  iterate 2 refine b_F rfl rfl rfl rfl rfl rfl ?_
  refine bv rfl (v_pickT rfl rfl rfl) (mv rfl rfl ?_)
  refine b_nil (hK _ ?_)
  exact to_L ⟨true, (), h, rfl⟩
 have h := ifF hg22 h
 refine b_T rfl rfl rfl rfl (decide_eq_false hg22) (o_val rfl (v_fieldAddrF fo65_0 rfl) ?_)
 refine b_T rfl rfl rfl rfl rfl (o_val rfl (v_loadF ty3 rfl (l_lit rfl rfl)) ?_)
 refine b_T rfl rfl rfl rfl rfl (o_val rfl (v_bin rfl rfl b_gtr) ?_)
 refine bv rfl (v_pickF rfl rfl rfl) (mv rfl rfl ?_)
 refine b_nil (hK _ ?_)
 exact to_L ⟨decide (16 < p0.1), (), h, rfl⟩
end Go.AW

namespace Go.AW
open Go
set_option linter.unusedVariables false
def cz_cmp_isNaN_int (p0 : Int) : Option (Bool) :=
 some (decide (p0 ≠ p0))
set_option maxHeartbeats 1600000 in
theorem lz_cmp_isNaN_int {p0 : Int} : Lq (cz_cmp_isNaN_int p0) (m_cmp_isNaN_int p0) := by
 unfold cz_cmp_isNaN_int m_cmp_isNaN_int
 repeat' with_reducible first | intro _ | exact Lq.refl _ | exact Lq.none | apply Lq.ite | apply Lq.bind | apply Lq.jp | apply Lq.loop | apply Lq.lpO | apply Lq.forL | apply_assumption
def cz_cmp_Compare_int (p0 : Int) (p1 : Int) : Option (Int) :=
 (cz_cmp_isNaN_int p0).bind fun x1 =>
 (cz_cmp_isNaN_int p1).bind fun x3 =>
 if x1 = true then
  if x3 = true then
   some 0
  else
   some (-1)
 else
  if x3 = true then
   some 1
  else
   if p0 < p1 then
    some (-1)
   else
    if p1 < p0 then
     some 1
    else
     some 0
set_option maxHeartbeats 1600000 in
theorem lz_cmp_Compare_int {p0 : Int} {p1 : Int} : Lq (cz_cmp_Compare_int p0 p1) (m_cmp_Compare_int p0 p1) := by
 unfold cz_cmp_Compare_int m_cmp_Compare_int
 repeat' with_reducible first | intro _ | exact Lq.refl _ | exact Lq.none | apply Lq.ite | apply Lq.bind | apply Lq.jp | apply Lq.loop | apply Lq.lpO | apply Lq.forL | apply_assumption | apply lz_cmp_isNaN_int
def cz_cmp_Or_int (p0 : List (Int)) : Option (Int) :=
 lpO (loopE (S := Int) (X := Ou (Unit) (Int)) (fun a1 =>
     if a1 < ((p0).length : Int) then
      (idx p0 a1).bind fun x5 =>
      if x5 ≠ 0 then
       some (Stp.exit (Ou.ret x5))
      else
       some (Stp.next (IntKind.wrap .i64 (a1 + 1)))
     else
      some (Stp.exit (Ou.go ()))) 0) (fun a7 =>
     some 0) some
set_option maxHeartbeats 1600000 in
theorem lz_cmp_Or_int {p0 : List (Int)} : Lq (cz_cmp_Or_int p0) (m_cmp_Or_int p0) := by
 unfold cz_cmp_Or_int m_cmp_Or_int
 repeat' with_reducible first | intro _ | exact Lq.refl _ | exact Lq.none | apply Lq.ite | apply Lq.bind | apply Lq.jp | apply Lq.loop | apply Lq.lpO | apply Lq.forL | apply_assumption
def cz_lookahead_compare (p0 : TFirstSecondWord) (p1 : TFirstSecondWord) : Option (Int) :=
 (cz_cmp_Compare_int p0.1 p1.1).bind fun x1 =>
 (cz_cmp_Compare_int p0.2.1 p1.2.1).bind fun x3 =>
 (cz_cmp_Or_int [x1, x3]).bind fun x5 =>
 some x5
set_option maxHeartbeats 1600000 in
theorem lz_lookahead_compare {p0 : TFirstSecondWord} {p1 : TFirstSecondWord} : Lq (cz_lookahead_compare p0 p1) (m_lookahead_compare p0 p1) := by
 unfold cz_lookahead_compare m_lookahead_compare
 repeat' with_reducible first | intro _ | exact Lq.refl _ | exact Lq.none | apply Lq.ite | apply Lq.bind | apply Lq.jp | apply Lq.loop | apply Lq.lpO | apply Lq.forL | apply_assumption | apply lz_cmp_Compare_int | apply lz_cmp_Or_int
def cz_slices_Index_Lstring_string (p0 : List (List UInt8)) (p1 : List UInt8) : Option (Int) :=
 lpO (loopE (S := Int) (X := Ou (Unit) (Int)) (fun a1 =>
   if a1 < ((p0).length : Int) then
    (idx p0 a1).bind fun x5 =>
    if p1 = x5 then
     some (Stp.exit (Ou.ret a1))
    else
     some (Stp.next (IntKind.wrap .i64 (a1 + 1)))
   else
    some (Stp.exit (Ou.go ()))) 0) (fun a7 =>
   some (-1)) some
set_option maxHeartbeats 1600000 in
theorem lz_slices_Index_Lstring_string {p0 : List (List UInt8)} {p1 : List UInt8} : Lq (cz_slices_Index_Lstring_string p0 p1) (m_slices_Index_Lstring_string p0 p1) := by
 unfold cz_slices_Index_Lstring_string m_slices_Index_Lstring_string
 repeat' with_reducible first | intro _ | exact Lq.refl _ | exact Lq.none | apply Lq.ite | apply Lq.bind | apply Lq.jp | apply Lq.loop | apply Lq.lpO | apply Lq.forL | apply_assumption
def cz_slices_Contains_Lstring_string (p0 : List (List UInt8)) (p1 : List UInt8) : Option (Bool) :=
 (cz_slices_Index_Lstring_string p0 p1).bind fun x1 =>
 some (decide (0 ≤ x1))
set_option maxHeartbeats 1600000 in
theorem lz_slices_Contains_Lstring_string {p0 : List (List UInt8)} {p1 : List UInt8} : Lq (cz_slices_Contains_Lstring_string p0 p1) (m_slices_Contains_Lstring_string p0 p1) := by
 unfold cz_slices_Contains_Lstring_string m_slices_Contains_Lstring_string
 repeat' with_reducible first | intro _ | exact Lq.refl _ | exact Lq.none | apply Lq.ite | apply Lq.bind | apply Lq.jp | apply Lq.loop | apply Lq.lpO | apply Lq.forL | apply_assumption | apply lz_slices_Index_Lstring_string
def cz_word_known (p0 : Int) : Option (Bool) :=
 jp (fun (a1 : Bool) =>
  some a1)
  fun k3 =>
  if 1 ≤ p0 then
   k3 (decide (p0 ≤ 16))
  else
   k3 false
set_option maxHeartbeats 1600000 in
theorem lz_word_known {p0 : Int} : Lq (cz_word_known p0) (m_word_known p0) := by
 unfold cz_word_known m_word_known
 repeat' with_reducible first | intro _ | exact Lq.refl _ | exact Lq.none | apply Lq.ite | apply Lq.bind | apply Lq.jp | apply Lq.loop | apply Lq.lpO | apply Lq.forL | apply_assumption
def cz_strings_IndexByte (l : List UInt8) (c : Int) : Option Int := some (Lib.indexByte l c.toNat.toUInt8)
set_option maxHeartbeats 1600000 in
theorem lz_strings_IndexByte {l : List UInt8} {c : Int} : Lq (cz_strings_IndexByte l c) (m_strings_IndexByte l c) := by
 unfold cz_strings_IndexByte m_strings_IndexByte
 repeat' with_reducible first | intro _ | exact Lq.refl _ | exact Lq.none | apply Lq.ite | apply Lq.bind | apply Lq.jp | apply Lq.loop | apply Lq.lpO | apply Lq.forL | apply_assumption
def cz_word_Check (p0 : Int) (p1 : List UInt8) : Option (Int) :=
 (cz_word_known p0).bind fun x1 =>
 if (!x1) = true then
  some 12
 else
  if 65536 < ((p1).length : Int) then
   some 4
  else
   lpO (loopE (S := Int) (X := Ou (Unit) (Int)) (fun a3 =>
     if a3 < ((p1).length : Int) then
      if 0 ≤ (0 : Int) ∧ (0 : Int) ≤ p0 ∧ p0 ≤ (([48, 49, 50, 51, 52, 53, 54, 55, 56, 57, 97, 98, 99, 100, 101, 102] : List UInt8).length : Int) then
       (idx p1 a3).bind fun x8 =>
       (cz_strings_IndexByte ((([48, 49, 50, 51, 52, 53, 54, 55, 56, 57, 97, 98, 99, 100, 101, 102] : List UInt8).take (p0).toNat).drop (0 : Int).toNat) (x8.toNat : Int)).bind fun x10 =>
       if x10 < 0 then
        some (Stp.exit (Ou.ret 13))
       else
        some (Stp.next (IntKind.wrap .i64 (a3 + 1)))
      else none
     else
      some (Stp.exit (Ou.go ()))) 0) (fun a12 =>
     some 0) some
set_option maxHeartbeats 1600000 in
theorem lz_word_Check {p0 : Int} {p1 : List UInt8} : Lq (cz_word_Check p0 p1) (m_word_Check p0 p1) := by
 unfold cz_word_Check m_word_Check
 repeat' with_reducible first | intro _ | exact Lq.refl _ | exact Lq.none | apply Lq.ite | apply Lq.bind | apply Lq.jp | apply Lq.loop | apply Lq.lpO | apply Lq.forL | apply_assumption | apply lz_strings_IndexByte | apply lz_word_known
def cz_lookahead_words (p0 : Int) (p1 : Int) (p2 : List (List UInt8)) : Option (Bool) :=
 lpO (loopE (S := Int) (X := Ou (Unit) (Bool)) (fun a1 =>
     if a1 < ((p2).length : Int) then
      (idx p2 a1).bind fun x5 =>
      jp (fun (a7 : Bool) =>
        if a7 = true then
         some (Stp.exit (Ou.ret false))
        else
         some (Stp.next (IntKind.wrap .i64 (a1 + 1))))
        fun k9 =>
       if ((x5).length : Int) ≠ p1 then
        k9 true
       else
        (cz_word_Check p0 x5).bind fun x10 =>
        if x10 ≠ 0 then
         k9 true
        else
         if 0 ≤ (0 : Int) ∧ (0 : Int) ≤ a1 ∧ a1 ≤ (p2.length : Int) then
          (cz_slices_Contains_Lstring_string ((p2.take (a1).toNat).drop (0 : Int).toNat) x5).bind fun x13 =>
          k9 x13
         else none
     else
      some (Stp.exit (Ou.go ()))) 0) (fun a17 =>
     some true) some
set_option maxHeartbeats 1600000 in
theorem lz_lookahead_words {p0 : Int} {p1 : Int} {p2 : List (List UInt8)} : Lq (cz_lookahead_words p0 p1 p2) (m_lookahead_words p0 p1 p2) := by
 unfold cz_lookahead_words m_lookahead_words
 repeat' with_reducible first | intro _ | exact Lq.refl _ | exact Lq.none | apply Lq.ite | apply Lq.bind | apply Lq.jp | apply Lq.loop | apply Lq.lpO | apply Lq.forL | apply_assumption | apply lz_slices_Contains_Lstring_string | apply lz_word_Check
def cz_lookahead_formed (p0 : TLettersBlockBaseSwaps) : Option (Bool) :=
 jp (fun (a1 : Bool) =>
   if a1 = true then
    some false
   else
    lpO (loopE (S := Int × (List (List UInt8))) (X := Ou ((List (List UInt8))) (Bool)) (fun a4 =>
        if a4.1 < ((p0.2.2.2).length : Int) then
         (idx p0.2.2.2 a4.1).bind fun x8 =>
         jp (fun (a11 : Bool) =>
           if a11 = true then
            some (Stp.exit (Ou.ret false))
           else
            if fits 16 ((a4.2 : List (List UInt8)).length + ([x8.2.2]).length) then
             some (Stp.next (IntKind.wrap .i64 (a4.1 + 1), a4.2 ++ [x8.2.2]))
            else none)
           fun k13 =>
          if (min x8.1 x8.2.1) < 0 then
           k13 true
          else
           if ((p0.2.2.1).length : Int) ≤ (max x8.1 x8.2.1) then
            k13 true
           else
            if 0 < a4.1 then
             (idx p0.2.2.2 (IntKind.wrap .i64 (a4.1 - 1))).bind fun x16 =>
             (cz_lookahead_compare x16 x8).bind fun x18 =>
             k13 (decide (0 ≤ x18))
            else
             k13 false
        else
         some (Stp.exit (Ou.go a4.2))) (0, ([] : List (List UInt8)))) (fun a24 =>
        jp (fun (a26 : Bool) =>
          some a26)
          fun k28 =>
         (cz_lookahead_words p0.1 p0.2.1 p0.2.2.1).bind fun x29 =>
         if x29 = true then
          (cz_lookahead_words p0.1 (IntKind.wrap .i64 (2 * p0.2.1)) a24).bind fun x31 =>
          k28 x31
         else
          k28 false) some)
   fun k3 =>
  if p0.1 < 2 then
   k3 true
  else
   if 16 < p0.1 then
    k3 true
   else
    if p0.2.1 < 1 then
     k3 true
    else
     if 8 < p0.2.1 then
      k3 true
     else
      if ((p0.2.2.1).length : Int) < 2 then
       k3 true
      else
       if 16 < ((p0.2.2.1).length : Int) then
        k3 true
       else
        k3 (decide (64 < ((p0.2.2.2).length : Int)))
set_option maxHeartbeats 1600000 in
theorem lz_lookahead_formed {p0 : TLettersBlockBaseSwaps} : Lq (cz_lookahead_formed p0) (m_lookahead_formed p0) := by
 unfold cz_lookahead_formed m_lookahead_formed
 repeat' with_reducible first | intro _ | exact Lq.refl _ | exact Lq.none | apply Lq.ite | apply Lq.bind | apply Lq.jp | apply Lq.loop | apply Lq.lpO | apply Lq.forL | apply_assumption | apply lz_lookahead_compare | apply lz_lookahead_words
def cz_strings_Compare (p0 : List UInt8) (p1 : List UInt8) : Option (Int) :=
 (m_internal_bytealg_CompareString p0 p1).bind fun x1 =>
 some x1
set_option maxHeartbeats 1600000 in
theorem lz_strings_Compare {p0 : List UInt8} {p1 : List UInt8} : Lq (cz_strings_Compare p0 p1) (m_strings_Compare p0 p1) := by
 unfold cz_strings_Compare m_strings_Compare
 repeat' with_reducible first | intro _ | exact Lq.refl _ | exact Lq.none | apply Lq.ite | apply Lq.bind | apply Lq.jp | apply Lq.loop | apply Lq.lpO | apply Lq.forL | apply_assumption
def cz_code_before (p0 : List UInt8) (p1 : List UInt8) : Option (Int) :=
 (cz_cmp_Compare_int ((p0).length : Int) ((p1).length : Int)).bind fun x1 =>
 (cz_strings_Compare p0 p1).bind fun x3 =>
 (cz_cmp_Or_int [x1, x3]).bind fun x5 =>
 some x5
set_option maxHeartbeats 1600000 in
theorem lz_code_before {p0 : List UInt8} {p1 : List UInt8} : Lq (cz_code_before p0 p1) (m_code_before p0 p1) := by
 unfold cz_code_before m_code_before
 repeat' with_reducible first | intro _ | exact Lq.refl _ | exact Lq.none | apply Lq.ite | apply Lq.bind | apply Lq.jp | apply Lq.loop | apply Lq.lpO | apply Lq.forL | apply_assumption | apply lz_cmp_Compare_int | apply lz_cmp_Or_int | apply lz_strings_Compare
def cz_code_Check (p0 : TLettersWords) : Option (Int) :=
 jp (fun (a1 : Bool) =>
   if a1 = true then
    some 12
   else
    if ((p0.2).length : Int) = 0 then
     some 5
    else
     if 64 < ((p0.2).length : Int) then
      some 4
     else
      lpO (loopE (S := Int) (X := Ou (Unit) (Int)) (fun a4 =>
          if a4 < ((p0.2).length : Int) then
           (idx p0.2 a4).bind fun x8 =>
           if x8 = ([] : List UInt8) then
            some (Stp.exit (Ou.ret 5))
           else
            if 32 < ((x8).length : Int) then
             some (Stp.exit (Ou.ret 4))
            else
             (cz_word_Check p0.1 x8).bind fun x10 =>
             if x10 ≠ 0 then
              some (Stp.exit (Ou.ret 13))
             else
              jp (fun (a12 : Bool) =>
                if a12 = true then
                 some (Stp.exit (Ou.ret 10))
                else
                 some (Stp.next (IntKind.wrap .i64 (a4 + 1))))
                fun k14 =>
               if 0 < a4 then
                (idx p0.2 (IntKind.wrap .i64 (a4 - 1))).bind fun x15 =>
                (cz_code_before x15 x8).bind fun x17 =>
                k14 (decide (0 ≤ x17))
               else
                k14 false
          else
           some (Stp.exit (Ou.go ()))) 0) (fun a20 =>
          some 0) some)
   fun k3 =>
  if p0.1 < 2 then
   k3 true
  else
   k3 (decide (16 < p0.1))
set_option maxHeartbeats 1600000 in
theorem lz_code_Check {p0 : TLettersWords} : Lq (cz_code_Check p0) (m_code_Check p0) := by
 unfold cz_code_Check m_code_Check
 repeat' with_reducible first | intro _ | exact Lq.refl _ | exact Lq.none | apply Lq.ite | apply Lq.bind | apply Lq.jp | apply Lq.loop | apply Lq.lpO | apply Lq.forL | apply_assumption | apply lz_code_before | apply lz_word_Check
theorem check35c : cz_code_Check cod35 = some 0 := by decide +kernel
theorem check35 : m_code_Check cod35 = some 0 := lz_code_Check.ap _ check35c
open Go.Proofs
set_option maxHeartbeats 6400000 in
set_option maxRecDepth 100000 in
theorem delay35 : Pure Tryz.prog 24 [.agg [hI 2, slE eStr ([[48], [48, 48, 49]] : List (List UInt8))]] (· = .tup [.int .i64 2, .bool true, .int .i64 0]) := by
 refine Pure.of_body Tryz.func24 rfl rfl (lb rfl) fun hf => ?_
 clear hf
 unfold Tryz.f24
 dsimp only [enumS, Nat.reduceAdd]
 refine AW.rgs rfl fun K hK => b_op rfl (o_box rfl rfl rfl ?_)
 refine mv rfl rfl (mv rfl rfl (mv rfl rfl ?_))
 let E1 : Nat × HV := (1, .fptr [hI 2, slE eStr ([[48], [48, 48, 49]] : List (List UInt8))] 0)
 refine bf hK ⟨[E1], []⟩ ?_
 refine AW.seq ?_
 refine AW.rgs rfl fun K hK => bv rfl (v_loadF ty65 rfl (l_litA rfl (lb rfl) rfl)) ?_
 refine b_op rfl (o_call rfl rfl rfl rfl (ACallD.pure0 (w_code_Check check35)) ?_)
 refine bv rfl (v_bin rfl rfl b_neq) ?_
 refine bf hK ⟨[E1, (12, .bool false)], []⟩ ?_
 refine AW.cond rfl (fun hc => absurd hc (by decide)) (fun _ => ?_)
 refine AW.skip ?_
 refine AW.rgs rfl fun K hK => bv rfl (v_loadF ty65 rfl (l_litA rfl (lb rfl) rfl)) ?_
 refine b_op rfl (o_callA rfl rfl rfl rfl (races35 fun v1 v2 H4 h3 => ?_) )
 subst h3
 refine b_op rfl (o_alloc (fid := 24) (zs := [hI 0, .v (.slice none 0 0), .v (.map none)]) 24005 rfl rfl ty111 rfl (fun v5 => ?_))
 refine b_op rfl (o_store (cs := [hI 2, slE eStr ([[48], [48, 48, 49]] : List (List UInt8)), .mp 58022 v1]) (zs := [hI 2, slE eStr ([[48], [48, 48, 49]] : List (List UInt8)), .mp 58022 v1]) rfl rfl rfl ty111 rfl rfl rfl rfl rfl ?_)
 let O2 : Nat × Nat × AObj := (58022, v1, .gmap (gcan kfSS [(([], [48, 49]), hI 1), (([], [49]), hI 0), (([48, 49], [49]), hI 0)]) none)
 let O3 : Nat × Nat × AObj := (24005, v5, .arr 3 111 [hI 2, slE eStr ([[48], [48, 48, 49]] : List (List UInt8)), .mp 58022 v1])
 let P1 : ASf := fun t H => ⟨t, O2 :: O3 :: H⟩
 refine bf hK (P1 [E1, (5, .ptr 24005 v5 0)] []) ?_
 refine AW.rgs rfl fun K hK => mv rfl rfl ?_
 refine bf hK (P1 [E1, (5, .ptr 24005 v5 0), (6, hI (-1))] []) ?_
 refine AW.seq ?_
 refine AW.rgs rfl fun K hK => bv rfl (v_fieldAddrF fo65_1 rfl) (bv rfl (v_loadF ty22 rfl (l_lit rfl rfl)) (bv rfl (v_lenF rfl rfl ty22 rfl) (mv rfl rfl ?_)))
 refine bf hK (P1 [(5, .ptr 24005 v5 0), (6, hI (-1)), (17, hI 2), (18, hI 0)] []) ?_
 refine AW.block ?_
 refine AW.unroll 16 ?_
 refine AW.rgs rfl fun K hK => bv rfl (v_bin rfl rfl b_lss) ?_
 refine bf hK (P1 [(5, .ptr 24005 v5 0), (6, hI (-1)), (17, hI 2), (18, hI 0), (19, .bool true)] []) ?_
 refine AW.cseq rfl (fun _ => ?_) (fun hc => absurd hc (by decide))
 refine AW.skip ?_
 refine AW.seq (AW.block ?_)
 refine AW.rgs rfl fun K hK => mv rfl rfl (mv rfl rfl ?_)
 refine bf hK (P1 [(5, .ptr 24005 v5 0), (6, hI (-1)), (7, hI 0), (17, hI 2), (18, hI 0)] []) ?_
 refine AW.rgs rfl fun K hK => bv rfl (v_loadP ty111 rfl rfl (l_litA rfl (lb rfl) rfl)) (mv rfl rfl ?_)
 refine b_op rfl (o_call rfl rfl rfl rfl (ACallD.pure0 (at35_0 58022 v1)) ?_)
 refine bv rfl (v_lenF rfl rfl ty113 rfl) (mv rfl rfl ?_)
 let E4 : Nat × HV := (23, slE eFirstSecond ([([], [48, 49])] : List TFirstSecond))
 refine bf hK (P1 [(5, .ptr 24005 v5 0), (6, hI (-1)), (17, hI 2), (18, hI 0), E4, (24, hI 1), (25, hI 0)] []) ?_
 refine AW.block ?_
 refine AW.unroll 16 ?_
 refine AW.rgs rfl fun K hK => bv rfl (v_bin rfl rfl b_lss) ?_
 refine bf hK (P1 [(5, .ptr 24005 v5 0), (6, hI (-1)), (17, hI 2), (18, hI 0), E4, (24, hI 1), (25, hI 0), (26, .bool true)] []) ?_
 refine AW.cseq rfl (fun _ => ?_) (fun hc => absurd hc (by decide))
 refine AW.skip ?_
 refine AW.seq (AW.block ?_)
 refine AW.rgs rfl fun K hK => bv rfl (v_idxF ty113 es113 rfl rfl (idx_lt (show idx ([([], [48, 49])] : List TFirstSecond) 0 = some _ from rfl))) (bv rfl (v_loadF ty116 rfl (l_agg eFirstSecond (show idx ([([], [48, 49])] : List TFirstSecond) 0 = some _ from rfl) rfl rfl)) ?_)
 refine b_op rfl (o_alloc (fid := 24) (zs := [.str nS, .str nS]) 24009 rfl rfl ty116 rfl (fun v9 => ?_))
 refine b_op rfl (o_store (cs := [.str nS, .str [48, 49]]) (zs := [.str nS, .str [48, 49]]) rfl rfl rfl ty116 rfl rfl rfl rfl rfl ?_)
 refine bf hK (P1 [(5, .ptr 24005 v5 0), (6, hI (-1)), (9, .ptr 24009 v9 0), (17, hI 2), (18, hI 0), E4, (24, hI 1), (25, hI 0)] [(24009, v9, .arr 2 116 [.str nS, .str [48, 49]])]) ?_
 refine AW.seq ?_
 refine AW.rgs rfl fun K hK => bv rfl (v_fieldAddrP fo111_1 rfl rfl) (bv rfl (v_loadP ty109 rfl rfl (l_lit rfl rfl)) (bv rfl (v_loadP ty116 rfl rfl (l_litA rfl (lb rfl) rfl)) ?_))
 refine b_lookG kTRace (k := ([], [48, 49])) (e := [(([], [48, 49]), hI 1), (([], [49]), hI 0), (([48, 49], [49]), hI 0)]) (zh := hI 0) rfl ty109 ty3 rfl rfl rfl (by decide) rfl (by decide) ?_
 refine bv rfl (v_bin rfl rfl b_eql) ?_
 refine bf hK (P1 [(5, .ptr 24005 v5 0), (6, hI (-1)), (9, .ptr 24009 v9 0), (17, hI 2), (18, hI 0), E4, (24, hI 1), (25, hI 0), (33, .bool false)] [(24009, v9, .arr 2 116 [.str nS, .str [48, 49]])]) ?_
 refine AW.cond rfl (fun hc => absurd hc (by decide)) (fun _ => ?_)
 refine AW.skip ?_
 refine AW.rg rfl fun K hK => mv rfl rfl (bv rfl (v_fieldAddrP fo111_1 rfl rfl) (bv rfl (v_loadP ty109 rfl rfl (l_lit rfl rfl)) (bv rfl (v_loadP ty116 rfl rfl (l_litA rfl (lb rfl) rfl)) ?_)))
 refine b_lookG kTRace (k := ([], [48, 49])) (e := [(([], [48, 49]), hI 1), (([], [49]), hI 0), (([48, 49], [49]), hI 0)]) (zh := hI 0) rfl ty109 ty3 rfl rfl rfl (by decide) rfl (by decide) ?_
 refine bv rfl (v_max rfl rfl rfl) (mv rfl rfl ?_)
 refine bf hK (P1 [(5, .ptr 24005 v5 0), (6, hI 1), (17, hI 2), (18, hI 0), E4, (24, hI 1), (25, hI 0)] []) ?_
 refine AW.rg rfl fun K hK => bv rfl (v_bin rfl rfl b_add) (mv rfl rfl ?_)
 refine b_nil (hK _ ?_)
 show UW _ _ _ _ _ _ _
 refine AW.to (to_le (s' := (P1 [(5, .ptr 24005 v5 0), (6, hI 1), (17, hI 2), (18, hI 0), E4, (24, hI 1), (25, hI 1)] [])) (le_q rfl rfl) ?_)
 refine AW.rgs rfl fun K hK => bv rfl (v_bin rfl rfl b_lss) ?_
 refine bf hK (P1 [(5, .ptr 24005 v5 0), (6, hI 1), (17, hI 2), (18, hI 0), E4, (24, hI 1), (25, hI 1), (26, .bool false)] []) ?_
 refine AW.cseq rfl (fun hc => absurd hc (by decide)) (fun _ => ?_)
 refine AW.exit ?_
 refine AW.rg rfl fun K hK => bv rfl (v_bin rfl rfl b_add) (mv rfl rfl ?_)
 refine b_nil (hK _ ?_)
 show UW _ _ _ _ _ _ _
 refine AW.to (to_le (s' := (P1 [(5, .ptr 24005 v5 0), (6, hI 1), (17, hI 2), (18, hI 1)] [])) (le_q rfl rfl) ?_)
 refine AW.rgs rfl fun K hK => bv rfl (v_bin rfl rfl b_lss) ?_
 refine bf hK (P1 [(5, .ptr 24005 v5 0), (6, hI 1), (17, hI 2), (18, hI 1), (19, .bool true)] []) ?_
 refine AW.cseq rfl (fun _ => ?_) (fun hc => absurd hc (by decide))
 refine AW.skip ?_
 refine AW.seq (AW.block ?_)
 refine AW.rgs rfl fun K hK => mv rfl rfl (mv rfl rfl ?_)
 refine bf hK (P1 [(5, .ptr 24005 v5 0), (6, hI 1), (7, hI 1), (17, hI 2), (18, hI 1)] []) ?_
 refine AW.rgs rfl fun K hK => bv rfl (v_loadP ty111 rfl rfl (l_litA rfl (lb rfl) rfl)) (mv rfl rfl ?_)
 refine b_op rfl (o_call rfl rfl rfl rfl (ACallD.pure0 (at35_1 58022 v1)) ?_)
 refine bv rfl (v_lenF rfl rfl ty113 rfl) (mv rfl rfl ?_)
 refine bf hK (P1 [(5, .ptr 24005 v5 0), (6, hI 1), (17, hI 2), (18, hI 1), (23, slE eFirstSecond ([] : List TFirstSecond)), (24, hI 0), (25, hI 0)] []) ?_
 refine AW.block ?_
 refine AW.unroll 16 ?_
 refine AW.rgs rfl fun K hK => bv rfl (v_bin rfl rfl b_lss) ?_
 refine bf hK (P1 [(5, .ptr 24005 v5 0), (6, hI 1), (17, hI 2), (18, hI 1), (23, slE eFirstSecond ([] : List TFirstSecond)), (24, hI 0), (25, hI 0), (26, .bool false)] []) ?_
 refine AW.cseq rfl (fun hc => absurd hc (by decide)) (fun _ => ?_)
 refine AW.exit ?_
 refine AW.rg rfl fun K hK => bv rfl (v_bin rfl rfl b_add) (mv rfl rfl ?_)
 refine b_nil (hK _ ?_)
 show UW _ _ _ _ _ _ _
 refine AW.to (to_le (s' := (P1 [(5, .ptr 24005 v5 0), (6, hI 1), (17, hI 2), (18, hI 2)] [])) (le_q rfl rfl) ?_)
 refine AW.rgs rfl fun K hK => bv rfl (v_bin rfl rfl b_lss) ?_
 refine bf hK (P1 [(5, .ptr 24005 v5 0), (6, hI 1), (17, hI 2), (18, hI 2), (19, .bool false)] []) ?_
 refine AW.cseq rfl (fun hc => absurd hc (by decide)) (fun _ => ?_)
 refine AW.exit ?_
 refine AW.rgs rfl fun K hK => mv rfl rfl (bv rfl (v_bin rfl rfl b_add) (mv rfl rfl (mv rfl rfl (mv rfl rfl ?_))))
 refine bf hK ⟨[(2, hI 2), (3, .bool true), (4, hI 0)], []⟩ ?_
 refine AW.ret ?_
 exact ret_pure (.inr rfl) (resT rfl (resT rfl (resT rfl rfl))) rfl ⟨trivial, trivial, trivial, trivial⟩
def kfII (k : Int × Int) : Value := .agg #[.int .i64 k.1, .int .i64 k.2]
def khII (k : Int × Int) : HV := .agg [.int .i64 k.1, .int .i64 k.2]
def wfII (k : Int × Int) : Bool := (Lit.int .i64 k.1).wf && (Lit.int .i64 k.2).wf
theorem kTPair : KeyT Tryz.prog 105 khII kfII wfII where
 law := Go.Maps.Keyed.of_law (deep_law (m := 3) (by decide) (by kernel_rfl) (by kernel_rfl) (by kernel_rfl))
 inj := by
  rintro ⟨a, b⟩ ⟨c, d⟩ h
  simp only [kfII, Value.agg.injEq, Array.mk.injEq, List.cons.injEq, Value.int.injEq, true_and, and_true] at h
  obtain ⟨rfl, rfl⟩ := h
  rfl
 kv := by
  rintro ⟨a, b⟩ h
  have hu : (match Tryz.prog.underlying 105 with | some (.array _ _) => true | _ => false) = true := by kernel_rfl
  have hf : (Tryz.prog.keyType 105 && (Value.agg #[.int .i64 a, .int .i64 b]).formed Tryz.prog 105) = true := by kernel_rfl
  have hb : (Lit.int .i64 a).wf = true ∧ (Lit.int .i64 b).wf = true := by
   have := h
   unfold wfII at this
   rw [Bool.and_eq_true] at this
   exact this
  have hd : Tryz.prog.types.size = (Tryz.prog.types.size - 1) + 1 := by kernel_rfl
  have hI : Tryz.prog.underlying 3 = some (.int .i64) := Tryz.underlying3
  have hA : Tryz.prog.underlying 105 = some (.array 2 3) := by kernel_rfl
  have c1 : Tryz.prog.cellsOf 3 = 1 := by kernel_rfl
  have c2 : Tryz.prog.cellsOf 105 = 2 := by kernel_rfl
  have e : ∀ n : Int, (Lit.int .i64 n).wf = true → Tryz.prog.keyLits Tryz.prog.types.size 3 [.int .i64 n] = some [Lit.int .i64 n] := fun n hn => by
   rw [hd]
   unfold Program.keyLits
   simp only [hI, hn, and_self, if_true]
  have hl : Tryz.prog.keyLits (Tryz.prog.types.size + 1) 105 [.int .i64 a, .int .i64 b] = some [Lit.int .i64 a, Lit.int .i64 b] := by
   unfold Program.keyLits
   simp only [hA, c1, c2, List.length_cons, List.length_nil, if_true]
   have er : List.range 2 = [0, 1] := rfl
   rw [er]
   show Option.map List.flatten ([0, 1].mapM fun i => Tryz.prog.keyLits Tryz.prog.types.size 3 (List.take 1 (List.drop (i * 1) [.int .i64 a, .int .i64 b]))) = _
   clear hd
   generalize Tryz.prog.types.size = sz at e ⊢
   simp [e a hb.1, e b hb.2]
  refine ⟨?_, ?_⟩
  ·rintro w μ x ⟨_, vs, rfl, x1, _, rfl, ⟨rfl, _⟩, x2, _, rfl, ⟨rfl, _⟩, rfl⟩
   rfl
  unfold keyOf kfII
  split
  ·rw [if_pos hf]
   show ∃ l, Option.map _ (Tryz.prog.keyLits _ _ [.int .i64 a, .int .i64 b]) = some l
   rw [hl]
   exact ⟨_, rfl⟩
  ·rename_i he; rw [he] at hu; cases hu
  rename_i h1 h2
  split at hu
  ·rename_i n e he; exact absurd he (h1 n e)
  cases hu
abbrev swE : EncL (Int × Int × List UInt8) := encF 3 (fun x => [hI x.1, hI x.2.1, .str x.2.2]) (fun _ => rfl)
def sw4 : List (Int × Int × List UInt8) := [(0, 0, [49, 48, 49, 48, 48, 48]), (0, 1, [49, 48, 48, 48, 48, 48]), (2, 0, [48, 48, 49, 48, 48, 48]), (2, 1, [48, 49, 48, 48, 48, 48])]
def bs4 : List (List UInt8) := [[49, 48, 49], [49, 48, 48], [48, 48, 49], [48, 49, 48]]
abbrev tabH : HV := .agg [.int .i64 2, .int .i64 3, slE eStr bs4, slE swE sw4]
def E4 : List ((Int × Int) × HV) := sw4.map fun x => ((x.1, x.2.1), .str x.2.2)
set_option maxRecDepth 100000 in
theorem pairs35 {K : HV → Heap → Prop} (hK : ∀ ver, K (.mp 56006 ver) [(56006, ver, .gmap (gcan kfII E4) none)]) : ACall Tryz.prog 56 [tabH] [] K := by
  refine ACall.of_body Tryz.func56 rfl rfl (lb rfl) ?_
  unfold Tryz.f56
  dsimp only [enumS, Nat.reduceAdd]
  refine AW.rgs rfl fun L hL => ?_
  refine b_op rfl (o_box rfl rfl rfl ?_)
  refine mv rfl rfl ?_
  refine b_nil (hL _ ?_)
  clear hL L
  refine AW.rgs rfl fun L hL => ?_
  refine b_op rfl (o_makeMap (fid := 56) (fun _ : Unit => HV.bool true) 56006 rfl rfl (fun ver => ?_))
  refine b_to (to_gmap kfII (id := 56006) (ver := ver) rfl ?_)
  refine mv rfl rfl ?_
  refine b_nil (hL _ ?_)
  clear hL L
  refine AW.seq ?_
  refine AW.rgs rfl fun L hL => ?_
  refine bv rfl (v_fieldAddrF fo60_3 rfl) (bv rfl (v_loadF ty58 rfl (l_lit rfl rfl)) (bv rfl (v_lenF rfl rfl ty58 rfl) (mv rfl rfl ?_)))
  let P1 : ASf := fun t H => ⟨(3, .mp 56006 ver) :: (8, slE swE sw4) :: (9, hI 4) :: t, H⟩
  refine b_fin hL (s' := (P1 [(10, hI 0)] [(56006, ver, .gmap (gcan kfII []) none)])) (AS.le_of ⟨rfl, rfl, rfl, rfl, trivial⟩ ⟨rfl, trivial⟩) ?_
  clear hL L
  refine AW.block ?_
  refine AW.unroll 5 ?_
  refine AW.rgs rfl fun L hL => ?_
  refine bv rfl (v_bin rfl rfl b_lss) ?_
  refine b_nil (hL _ ?_)
  clear hL L
  refine AW.cseq rfl (fun hc => ?_) (fun hc => absurd hc (by decide))
  clear hc
  refine AW.skip ?_
  refine AW.seq ?_
  refine AW.block ?_
  refine AW.rgs rfl fun L hL => ?_
  refine bv rfl (v_idxF ty58 es58 rfl rfl (idx_lt (show idx sw4 0 = some _ from rfl))) (bv rfl (v_loadF ty107 rfl (l_part swE (show idx sw4 0 = some _ from rfl) (o := 0) rfl (by decide) rfl)) ?_)
  refine b_op rfl (o_alloc (fid := 56) (zs := [hI 0, hI 0, .str []]) 56005 rfl rfl ty107 rfl (fun v5 => ?_))
  refine b_op rfl (o_store (cs := [hI 0, hI 0, .str [49, 48, 49, 48, 48, 48]]) (zs := [hI 0, hI 0, .str [49, 48, 49, 48, 48, 48]]) rfl rfl rfl ty107 rfl rfl rfl rfl rfl ?_)
  refine b_nil (hL _ ?_)
  clear hL L
  refine AW.rg rfl fun L hL => ?_
  refine mv rfl rfl (bv rfl (v_fieldAddrP fo107_0 rfl rfl) (bv rfl (v_loadP ty3 rfl rfl (l_lit rfl rfl)) (bv rfl (v_fieldAddrP fo107_1 rfl rfl) (bv rfl (v_loadP ty3 rfl rfl (l_lit rfl rfl)) ?_))))
  refine b_buildA (cs := [hI 0, hI 0]) rfl ty105 ty3 rfl rfl rfl ?_
  refine bv rfl (v_fieldAddrP fo107_2 rfl rfl) (bv rfl (v_loadP ty9 rfl rfl (l_lit rfl rfl)) ?_)
  refine b_setG kTPair (k := (0, 0)) (e := []) (hv := HV.str [49, 48, 49, 48, 48, 48]) (.inl rfl) ty103 rfl rfl (by decide) rfl rfl (by decide) (noIt_cons (fun _ _ _ e => by cases e) (noIt_cons (fun _ _ _ e => by cases e) (noIt_cons (fun _ _ _ e => by cases e) noIt_nil))) ?_
  refine b_nil (hL _ ?_)
  clear hL L
  show AW _ _ _ (Code.region 6 _ _) _ _
  refine AW.rg rfl fun L hL => ?_
  refine bv rfl (v_bin rfl rfl b_add) (mv rfl rfl ?_)
  refine b_nil (hL _ ?_)
  clear hL L
  show UW _ _ _ _ _ _ _
  refine AW.to (to_le (s' := (P1 [(10, hI 1)] [(56006, ver, .gmap (gcan kfII [((0, 0), .str [49, 48, 49, 48, 48, 48])]) none)])) (AS.le_of ⟨rfl, rfl, rfl, rfl, trivial⟩ ⟨rfl, trivial⟩) ?_)
  refine AW.rgs rfl fun L hL => ?_
  refine bv rfl (v_bin rfl rfl b_lss) ?_
  refine b_nil (hL _ ?_)
  clear hL L
  refine AW.cseq rfl (fun hc => ?_) (fun hc => absurd hc (by decide))
  clear hc
  refine AW.skip ?_
  refine AW.seq ?_
  refine AW.block ?_
  refine AW.rgs rfl fun L hL => ?_
  refine bv rfl (v_idxF ty58 es58 rfl rfl (idx_lt (show idx sw4 1 = some _ from rfl))) (bv rfl (v_loadF ty107 rfl (l_part swE (show idx sw4 1 = some _ from rfl) (o := 0) rfl (by decide) rfl)) ?_)
  refine b_op rfl (o_alloc (fid := 56) (zs := [hI 0, hI 0, .str []]) 56005 rfl rfl ty107 rfl (fun v5 => ?_))
  refine b_op rfl (o_store (cs := [hI 0, hI 1, .str [49, 48, 48, 48, 48, 48]]) (zs := [hI 0, hI 1, .str [49, 48, 48, 48, 48, 48]]) rfl rfl rfl ty107 rfl rfl rfl rfl rfl ?_)
  refine b_nil (hL _ ?_)
  clear hL L
  refine AW.rg rfl fun L hL => ?_
  refine mv rfl rfl (bv rfl (v_fieldAddrP fo107_0 rfl rfl) (bv rfl (v_loadP ty3 rfl rfl (l_lit rfl rfl)) (bv rfl (v_fieldAddrP fo107_1 rfl rfl) (bv rfl (v_loadP ty3 rfl rfl (l_lit rfl rfl)) ?_))))
  refine b_buildA (cs := [hI 0, hI 1]) rfl ty105 ty3 rfl rfl rfl ?_
  refine bv rfl (v_fieldAddrP fo107_2 rfl rfl) (bv rfl (v_loadP ty9 rfl rfl (l_lit rfl rfl)) ?_)
  refine b_setG kTPair (k := (0, 1)) (e := [((0, 0), .str [49, 48, 49, 48, 48, 48])]) (hv := HV.str [49, 48, 48, 48, 48, 48]) (.inl rfl) ty103 rfl rfl (by decide) rfl rfl (by decide) (noIt_cons (fun _ _ _ e => by cases e) (noIt_cons (fun _ _ _ e => by cases e) (noIt_cons (fun _ _ _ e => by cases e) noIt_nil))) ?_
  refine b_nil (hL _ ?_)
  clear hL L
  show AW _ _ _ (Code.region 6 _ _) _ _
  refine AW.rg rfl fun L hL => ?_
  refine bv rfl (v_bin rfl rfl b_add) (mv rfl rfl ?_)
  refine b_nil (hL _ ?_)
  clear hL L
  show UW _ _ _ _ _ _ _
  refine AW.to (to_le (s' := (P1 [(10, hI 2)] [(56006, ver, .gmap (gcan kfII [((0, 0), .str [49, 48, 49, 48, 48, 48]), ((0, 1), .str [49, 48, 48, 48, 48, 48])]) none)])) (AS.le_of ⟨rfl, rfl, rfl, rfl, trivial⟩ ⟨rfl, trivial⟩) ?_)
  refine AW.rgs rfl fun L hL => ?_
  refine bv rfl (v_bin rfl rfl b_lss) ?_
  refine b_nil (hL _ ?_)
  clear hL L
  refine AW.cseq rfl (fun hc => ?_) (fun hc => absurd hc (by decide))
  clear hc
  refine AW.skip ?_
  refine AW.seq ?_
  refine AW.block ?_
  refine AW.rgs rfl fun L hL => ?_
  refine bv rfl (v_idxF ty58 es58 rfl rfl (idx_lt (show idx sw4 2 = some _ from rfl))) (bv rfl (v_loadF ty107 rfl (l_part swE (show idx sw4 2 = some _ from rfl) (o := 0) rfl (by decide) rfl)) ?_)
  refine b_op rfl (o_alloc (fid := 56) (zs := [hI 0, hI 0, .str []]) 56005 rfl rfl ty107 rfl (fun v5 => ?_))
  refine b_op rfl (o_store (cs := [hI 2, hI 0, .str [48, 48, 49, 48, 48, 48]]) (zs := [hI 2, hI 0, .str [48, 48, 49, 48, 48, 48]]) rfl rfl rfl ty107 rfl rfl rfl rfl rfl ?_)
  refine b_nil (hL _ ?_)
  clear hL L
  refine AW.rg rfl fun L hL => ?_
  refine mv rfl rfl (bv rfl (v_fieldAddrP fo107_0 rfl rfl) (bv rfl (v_loadP ty3 rfl rfl (l_lit rfl rfl)) (bv rfl (v_fieldAddrP fo107_1 rfl rfl) (bv rfl (v_loadP ty3 rfl rfl (l_lit rfl rfl)) ?_))))
  refine b_buildA (cs := [hI 2, hI 0]) rfl ty105 ty3 rfl rfl rfl ?_
  refine bv rfl (v_fieldAddrP fo107_2 rfl rfl) (bv rfl (v_loadP ty9 rfl rfl (l_lit rfl rfl)) ?_)
  refine b_setG kTPair (k := (2, 0)) (e := [((0, 0), .str [49, 48, 49, 48, 48, 48]), ((0, 1), .str [49, 48, 48, 48, 48, 48])]) (hv := HV.str [48, 48, 49, 48, 48, 48]) (.inl rfl) ty103 rfl rfl (by decide) rfl rfl (by decide) (noIt_cons (fun _ _ _ e => by cases e) (noIt_cons (fun _ _ _ e => by cases e) (noIt_cons (fun _ _ _ e => by cases e) noIt_nil))) ?_
  refine b_nil (hL _ ?_)
  clear hL L
  show AW _ _ _ (Code.region 6 _ _) _ _
  refine AW.rg rfl fun L hL => ?_
  refine bv rfl (v_bin rfl rfl b_add) (mv rfl rfl ?_)
  refine b_nil (hL _ ?_)
  clear hL L
  show UW _ _ _ _ _ _ _
  refine AW.to (to_le (s' := (P1 [(10, hI 3)] [(56006, ver, .gmap (gcan kfII [((0, 0), .str [49, 48, 49, 48, 48, 48]), ((0, 1), .str [49, 48, 48, 48, 48, 48]), ((2, 0), .str [48, 48, 49, 48, 48, 48])]) none)])) (AS.le_of ⟨rfl, rfl, rfl, rfl, trivial⟩ ⟨rfl, trivial⟩) ?_)
  refine AW.rgs rfl fun L hL => ?_
  refine bv rfl (v_bin rfl rfl b_lss) ?_
  refine b_nil (hL _ ?_)
  clear hL L
  refine AW.cseq rfl (fun hc => ?_) (fun hc => absurd hc (by decide))
  clear hc
  refine AW.skip ?_
  refine AW.seq ?_
  refine AW.block ?_
  refine AW.rgs rfl fun L hL => ?_
  refine bv rfl (v_idxF ty58 es58 rfl rfl (idx_lt (show idx sw4 3 = some _ from rfl))) (bv rfl (v_loadF ty107 rfl (l_part swE (show idx sw4 3 = some _ from rfl) (o := 0) rfl (by decide) rfl)) ?_)
  refine b_op rfl (o_alloc (fid := 56) (zs := [hI 0, hI 0, .str []]) 56005 rfl rfl ty107 rfl (fun v5 => ?_))
  refine b_op rfl (o_store (cs := [hI 2, hI 1, .str [48, 49, 48, 48, 48, 48]]) (zs := [hI 2, hI 1, .str [48, 49, 48, 48, 48, 48]]) rfl rfl rfl ty107 rfl rfl rfl rfl rfl ?_)
  refine b_nil (hL _ ?_)
  clear hL L
  refine AW.rg rfl fun L hL => ?_
  refine mv rfl rfl (bv rfl (v_fieldAddrP fo107_0 rfl rfl) (bv rfl (v_loadP ty3 rfl rfl (l_lit rfl rfl)) (bv rfl (v_fieldAddrP fo107_1 rfl rfl) (bv rfl (v_loadP ty3 rfl rfl (l_lit rfl rfl)) ?_))))
  refine b_buildA (cs := [hI 2, hI 1]) rfl ty105 ty3 rfl rfl rfl ?_
  refine bv rfl (v_fieldAddrP fo107_2 rfl rfl) (bv rfl (v_loadP ty9 rfl rfl (l_lit rfl rfl)) ?_)
  refine b_setG kTPair (k := (2, 1)) (e := [((0, 0), .str [49, 48, 49, 48, 48, 48]), ((0, 1), .str [49, 48, 48, 48, 48, 48]), ((2, 0), .str [48, 48, 49, 48, 48, 48])]) (hv := HV.str [48, 49, 48, 48, 48, 48]) (.inl rfl) ty103 rfl rfl (by decide) rfl rfl (by decide) (noIt_cons (fun _ _ _ e => by cases e) (noIt_cons (fun _ _ _ e => by cases e) (noIt_cons (fun _ _ _ e => by cases e) noIt_nil))) ?_
  refine b_nil (hL _ ?_)
  clear hL L
  show AW _ _ _ (Code.region 6 _ _) _ _
  refine AW.rg rfl fun L hL => ?_
  refine bv rfl (v_bin rfl rfl b_add) (mv rfl rfl ?_)
  refine b_nil (hL _ ?_)
  clear hL L
  show UW _ _ _ _ _ _ _
  refine AW.to (to_le (s' := (P1 [(10, hI 4)] [(56006, ver, .gmap (gcan kfII [((0, 0), .str [49, 48, 49, 48, 48, 48]), ((0, 1), .str [49, 48, 48, 48, 48, 48]), ((2, 0), .str [48, 48, 49, 48, 48, 48]), ((2, 1), .str [48, 49, 48, 48, 48, 48])]) none)])) (AS.le_of ⟨rfl, rfl, rfl, rfl, trivial⟩ ⟨rfl, trivial⟩) ?_)
  refine AW.rgs rfl fun L hL => ?_
  refine bv rfl (v_bin rfl rfl b_lss) ?_
  refine b_nil (hL _ ?_)
  clear hL L
  refine AW.cseq rfl (fun hc => absurd hc (by decide)) (fun hc => ?_)
  clear hc
  refine AW.exit ?_
  refine AW.rgs rfl fun L hL => ?_
  refine mv rfl rfl (mv rfl rfl ?_)
  refine b_nil (hL _ ?_)
  clear hL L
  refine AW.ret ?_
  exact ret_A (hs := [.mp 56006 ver]) (q := HV.mp 56006 ver) (.inr rfl) (resT rfl rfl) rfl (hK ver)
theorem formed35c : cz_lookahead_formed (2, 3, [[49, 48, 49], [49, 48, 48], [48, 48, 49], [48, 49, 48]], [(0, 0, [49, 48, 49, 48, 48, 48]), (0, 1, [49, 48, 48, 48, 48, 48]), (2, 0, [48, 48, 49, 48, 48, 48]), (2, 1, [48, 49, 48, 48, 48, 48])]) = some true := by decide +kernel
theorem formed35 : m_lookahead_formed (2, 3, [[49, 48, 49], [49, 48, 48], [48, 48, 49], [48, 49, 48]], [(0, 0, [49, 48, 49, 48, 48, 48]), (0, 1, [49, 48, 48, 48, 48, 48]), (2, 0, [48, 48, 49, 48, 48, 48]), (2, 1, [48, 49, 48, 48, 48, 48])]) = some true := lz_lookahead_formed.ap _ formed35c
section
variable {P : Program} {ro : Option Nat} {N : Nat} {o : Oper} {sl : List (Nat × HV)} {H : Heap} {all : Array Oper} {rest : List Oper} {Q : AS → Prop}
variable {K : Type} [DecidableEq K] {kt : TypeId} {kh : K → HV} {kf : K → Value} {wf : K → Bool}
theorem o_lookOkG (hN : okd N o.dst = true) (T : KeyT P kt kh kf wf) {d : Nat} {t et : TypeId} {a b : Nat} {z : Value} {m x : Operand} {id ver : Nat} {k : K} {e : List (K × HV)} {pe : Option (Nat × Value)} {Te : TyI} {zh : HV}
  (h0 : (o.dst, o.op) = (some d, .lookup t m x true)) (hT : ty P t = some ⟨.map kt et, a, b, z⟩) (hTe : ty P et = some Te) (hz : constHV Te.zero = some zh)
  (hm : (⟨sl, H⟩ : AS).ev m = some (.mp id ver)) (hx : (⟨sl, H⟩ : AS).ev x = some (kh k)) (hk : wf k = true) (hg : hget H id = some (ver, .gmap (gcan kf e) pe)) (hw : ∀ x ∈ e, wf x.1 = true)
  (kk : bops P ro N all rest Q ⟨(d, .tup [(glook k e).getD zh, .bool (glook k e).isSome]) :: sl, H⟩) : AOp P ro N o (fun s' => bops P ro N all rest Q s') ⟨sl, H⟩ := by
 obtain ⟨e2, e3⟩ := Prod.mk.inj h0
 refine AOp.lookupOkG T e3 hN hT rfl hTe hz hm hx hk hg hw ?_
 rw [e2]; exact bops_le (put_le (s := ⟨sl, H⟩) d _) kk
end
theorem bl_arr {P : Program} {s : AS} {t e : TypeId} {n a b : Nat} {z : Value} {ps : List (Nat × Operand)} {E : TyI} {zs cs : List HV} {qs : List (Nat × HV)} (hT : ty P t = some ⟨.array n e, a, b, z⟩) (hE : ty P e = some E) (hz : zcells z = some zs) (hq : aparts s ps = some qs)
  (hf : afill (fun i => some (i * E.size, E.size)) qs zs = some cs) : abuild P s t ps (· = .agg cs) := by
 unfold abuild
 simp only [hT, hE, hz, hq]
 rw [hf]
set_option maxRecDepth 100000 in
theorem encode35 (hcf : Pure Tryz.prog 54 [slE eInt [0, 0, 1], HV.fn (.func 55) [] [HV.fptr [.int .i64 2, .int .i64 3, slE eStr bs4, slE swE sw4] 0]] (· = HV.bool false)) : Pure Tryz.prog 22 [tabH, slE eInt [0, 0, 1]] (· = .tup [.str [49, 48, 49, 48, 48, 48, 49, 48, 48], .int .i64 0]) := by
 refine Pure.of_body Tryz.func22 rfl rfl (Nat.le_of_ble_eq_true rfl) fun hf => ?_
 unfold Tryz.f22
 dsimp only [enumS, Nat.reduceAdd]
 refine AW.rgs rfl fun L hL => ?_
 refine b_op rfl (o_box rfl rfl rfl ?_)
 refine mv rfl rfl ?_
 refine mv rfl rfl ?_
 refine b_nil (hL _ ?_)
 clear hL L
 refine AW.seq ?_
 refine AW.rgs rfl fun L hL => ?_
 refine bv rfl (v_loadF ty60 rfl (l_litA rfl (Nat.le_of_ble_eq_true rfl) rfl)) ?_
 refine b_op rfl (o_call rfl rfl rfl rfl (ACallD.pure0 (w_lookahead_formed formed35)) ?_)
 refine bv rfl (v_not rfl) ?_
 refine b_nil (hL _ ?_)
 clear hL L
 refine AW.cond rfl (fun hc => absurd hc (by decide)) (fun hc => ?_)
 refine AW.skip ?_
 refine AW.seq ?_
 refine AW.rgs rfl fun L hL => ?_
 refine mv rfl rfl ?_
 refine bv rfl (v_func rfl rfl) ?_
 refine b_op rfl (o_call rfl rfl rfl rfl (ACallD.pure0 hcf) ?_)
 refine b_nil (hL _ ?_)
 clear hL L
 refine AW.cond rfl (fun hc => absurd hc (by decide)) (fun hc => ?_)
 refine AW.skip ?_
 refine AW.seq ?_
 refine AW.rgs rfl fun L hL => ?_
 refine mv rfl rfl ?_
 refine bv rfl (v_lenF rfl rfl ty36 rfl) ?_
 refine bv rfl (v_fieldAddrF fo60_1 rfl) ?_
 refine bv rfl (v_loadF ty3 rfl (l_lit rfl rfl)) ?_
 refine bv rfl (v_bin rfl rfl b_mul) ?_
 refine bv rfl (v_bin rfl rfl b_gtr) ?_
 refine b_nil (hL _ ?_)
 clear hL L
 refine AW.cond rfl (fun hc => absurd hc (by decide)) (fun hc => ?_)
 refine AW.skip ?_
 refine AW.rgs rfl fun L hL => ?_
 refine bv rfl (v_loadF ty60 rfl (l_litA rfl (Nat.le_of_ble_eq_true rfl) rfl)) ?_
 refine b_op rfl (o_callA rfl rfl rfl rfl (pairs35 fun vm => ?_))
 refine mv rfl rfl ?_
 refine b_nil (hL _ ?_)
 clear hL L
 refine AW.rgs rfl fun L hL => ?_
 refine b_op rfl (o_alloc (fid := 22) (zs := [HV.v (.pointer none), HV.v (.slice none 0 0)]) 22007 rfl rfl ty69 rfl (fun v19 => ?_))
 refine b_to (to_ownC 22507 22007 v19 2 1 1 5 69 rfl rfl (by decide) fun v20 => ?_)
 refine b_fin hL (s' := ⟨[(1, slE eInt [0, 0, 1]), (2, HV.fptr [.int .i64 2, .int .i64 3, slE eStr bs4, slE swE sw4] 0), (4, HV.str []), (5, HV.int .i64 0), (6, HV.mp 56006 vm), (7, HV.ptr 22007 v19 0)], [(56006, vm, .gmap (gcan kfII E4) none), (22007, v19, bldO 22007 v19 22507 v20 false ([] : List UInt8)), (22507, v20, bytO ([] : List UInt8))]⟩) (AS.le_of ⟨rfl, rfl, rfl, rfl, rfl, rfl, trivial⟩ ⟨rfl, rfl, rfl, trivial⟩) ?_
 clear hL L
 refine AW.seq ?_
 refine AW.block ?_
 refine AW.unroll 4 ?_
 refine AW.seq ?_
 refine AW.rgs rfl fun L hL => ?_
 refine mv rfl rfl ?_
 refine bv rfl (v_lenF rfl rfl ty36 rfl) ?_
 refine bv rfl (v_bin rfl rfl b_gtr) ?_
 refine b_nil (hL _ ?_)
 clear hL L
 refine AW.cond rfl (fun hc => ?_) (fun hc => absurd hc (by decide))
 refine AW.skip ?_
 refine AW.block ?_
 refine AW.seq ?_
 refine AW.rgs rfl fun L hL => ?_
 refine mv rfl rfl ?_
 refine bv rfl (v_lenF rfl rfl ty36 rfl) ?_
 refine bv rfl (v_bin rfl rfl b_gtr) ?_
 refine b_nil (hL _ ?_)
 clear hL L
 refine AW.cond rfl (fun hc => ?_) (fun hc => absurd hc (by decide))
 refine AW.dys follows fun L hL => ?_
 refine y_st 8 rfl rfl ?_
 refine sm rfl rfl ?_
 refine sm rfl rfl ?_
 refine sv rfl (v_idxF ty36 es36 rfl rfl (idx_lt (show idx [(0 : Int), 0, 1] 0 = some _ from rfl))) ?_
 refine sv rfl (v_loadF ty3 rfl (l_cell eInt (show idx [(0 : Int), 0, 1] 0 = some _ from rfl) (o := 0) rfl rfl)) ?_
 refine sm rfl rfl ?_
 refine sv rfl (v_idxF ty36 es36 rfl rfl (idx_lt (show idx [(0 : Int), 0, 1] 1 = some _ from rfl))) ?_
 refine sv rfl (v_loadF ty3 rfl (l_cell eInt (show idx [(0 : Int), 0, 1] 1 = some _ from rfl) (o := 0) rfl rfl)) ?_
 refine s_op rfl rfl (ops_build (cs := [HV.int .i64 0, HV.int .i64 0]) rfl (bl_arr ty105 ty3 rfl rfl rfl) ?_)
 refine s_nil ?_
 refine y_opX rfl rfl rfl rfl (fun hN => o_lookOkG hN kTPair (k := (0, 0)) (e := E4) (zh := HV.str []) rfl ty103 ty9 rfl rfl rfl (by decide) rfl (by decide) ?_)
 refine b_nil ?_
 refine y_st 14 rfl rfl ?_
 refine sm rfl rfl ?_
 refine sv rfl (v_extract rfl rfl) ?_
 refine sv rfl (v_extract rfl rfl) ?_
 refine sm rfl rfl ?_
 refine sm rfl rfl ?_
 refine s_nil ?_
 refine y_nil rfl (hL _ ?_)
 clear hL L
 refine AW.rgs rfl fun L hL => ?_
 refine mv rfl rfl ?_
 refine b_nil (hL _ ?_)
 clear hL L
 refine AW.cond rfl (fun hc => ?_) (fun hc => absurd hc (by decide))
 refine AW.rgs rfl fun L hL => ?_
 refine mv rfl rfl ?_
 refine b_op rfl (o_callA rfl rfl rfl rfl (c_WriteString (id := 22007) (ver := v19) (aid := 22507) (aver := v20) (u := false) (l := ([] : List UInt8)) (m := [49, 48, 49, 48, 48, 48]) (by decide) rfl rfl (by decide) fun v30 => ?_))
 refine b_nil (hL _ ?_)
 clear hL L
 refine AW.rgs rfl fun L hL => ?_
 refine mv rfl rfl ?_
 refine bv rfl (v_sliceF eInt (l := [(0 : Int), 0, 1]) ty36 es36 rfl rfl rfl (by decide)) ?_
 refine mv rfl rfl ?_
 refine b_nil (hL _ ?_)
 clear hL L
 refine AW.exit ?_
 show UW _ _ _ _ _ _ _
 refine AW.to (to_le (s' := ⟨[(1, slE eInt [1]), (2, HV.fptr [.int .i64 2, .int .i64 3, slE eStr bs4, slE swE sw4] 0), (6, HV.mp 56006 vm), (7, HV.ptr 22007 v19 0)], [(56006, vm, .gmap (gcan kfII E4) none), (22007, v19, bldO 22007 v19 22507 v30 true [49, 48, 49, 48, 48, 48]), (22507, v30, bytO [49, 48, 49, 48, 48, 48])]⟩) (AS.le_of ⟨rfl, rfl, rfl, rfl, trivial⟩ ⟨rfl, rfl, rfl, trivial⟩) ?_)
 refine AW.seq ?_
 refine AW.rgs rfl fun L hL => ?_
 refine mv rfl rfl ?_
 refine bv rfl (v_lenF rfl rfl ty36 rfl) ?_
 refine bv rfl (v_bin rfl rfl b_gtr) ?_
 refine b_nil (hL _ ?_)
 clear hL L
 refine AW.cond rfl (fun hc => ?_) (fun hc => absurd hc (by decide))
 refine AW.skip ?_
 refine AW.block ?_
 refine AW.seq ?_
 refine AW.rgs rfl fun L hL => ?_
 refine mv rfl rfl ?_
 refine bv rfl (v_lenF rfl rfl ty36 rfl) ?_
 refine bv rfl (v_bin rfl rfl b_gtr) ?_
 refine b_nil (hL _ ?_)
 clear hL L
 refine AW.cond rfl (fun hc => absurd hc (by decide)) (fun hc => ?_)
 refine AW.skip ?_
 refine AW.dgs 7 follows rfl rfl fun L hL => ?_
 refine sv rfl (v_fieldAddrF fo60_2 rfl) ?_
 refine sv rfl (v_loadF ty22 rfl (l_lit rfl rfl)) ?_
 refine sm rfl rfl ?_
 refine sv rfl (v_idxF ty36 es36 rfl rfl (idx_lt (show idx [(1 : Int)] 0 = some _ from rfl))) ?_
 refine sv rfl (v_loadF ty3 rfl (l_cell eInt (show idx [(1 : Int)] 0 = some _ from rfl) (o := 0) rfl rfl)) ?_
 refine sv rfl (v_idxF ty22 es22 rfl rfl (idx_lt (show idx bs4 1 = some _ from rfl))) ?_
 refine sv rfl (v_loadF ty9 rfl (l_cell eStr (show idx bs4 1 = some _ from rfl) (o := 0) rfl rfl)) ?_
 refine s_nil ?_
 refine b_op rfl (o_callA rfl rfl rfl rfl (c_WriteString (id := 22007) (ver := v19) (aid := 22507) (aver := v30) (u := true) (l := [49, 48, 49, 48, 48, 48]) (m := [49, 48, 48]) (by decide) rfl rfl (by decide) fun v31 => ?_))
 refine b_nil (hL _ ?_)
 clear hL L
 refine AW.rg rfl fun L hL => ?_
 refine mv rfl rfl ?_
 refine bv rfl (v_sliceF eInt (l := [(1 : Int)]) ty36 es36 rfl rfl rfl (by decide)) ?_
 refine mv rfl rfl ?_
 refine b_nil (hL _ ?_)
 clear hL L
 show UW _ _ _ _ _ _ _
 refine AW.to (to_le (s' := ⟨[(1, slE eInt []), (2, HV.fptr [.int .i64 2, .int .i64 3, slE eStr bs4, slE swE sw4] 0), (6, HV.mp 56006 vm), (7, HV.ptr 22007 v19 0)], [(56006, vm, .gmap (gcan kfII E4) none), (22007, v19, bldO 22007 v19 22507 v31 true [49, 48, 49, 48, 48, 48, 49, 48, 48]), (22507, v31, bytO [49, 48, 49, 48, 48, 48, 49, 48, 48])]⟩) (AS.le_of ⟨rfl, rfl, rfl, rfl, trivial⟩ ⟨rfl, rfl, rfl, trivial⟩) ?_)
 refine AW.seq ?_
 refine AW.rgs rfl fun L hL => ?_
 refine mv rfl rfl ?_
 refine bv rfl (v_lenF rfl rfl ty36 rfl) ?_
 refine bv rfl (v_bin rfl rfl b_gtr) ?_
 refine b_nil (hL _ ?_)
 clear hL L
 refine AW.cond rfl (fun hc => absurd hc (by decide)) (fun hc => ?_)
 refine AW.exit ?_
 refine AW.rgs rfl fun L hL => ?_
 refine b_op rfl (o_callA rfl rfl rfl rfl (c_String (id := 22007) (ver := v19) (aid := 22507) (aver := v31) (u := true) (l := [49, 48, 49, 48, 48, 48, 49, 48, 48]) rfl rfl fun v32 => ?_))
 refine mv rfl rfl ?_
 refine mv rfl rfl ?_
 refine b_nil (hL _ ?_)
 clear hL L
 refine AW.to (to_le (s' := ⟨[(4, HV.str [49, 48, 49, 48, 48, 48, 49, 48, 48]), (5, HV.int .i64 0)], []⟩) (AS.le_of ⟨rfl, rfl, trivial⟩ trivial) ?_)
 refine AW.ret ?_
 exact ret_pure (hs := [HV.str [49, 48, 49, 48, 48, 48, 49, 48, 48], HV.int .i64 0]) (q := .tup [HV.str [49, 48, 49, 48, 48, 48, 49, 48, 48], HV.int .i64 0]) (.inr rfl) (resT rfl (resT rfl rfl)) rfl ⟨trivial, trivial, trivial⟩
set_option linter.unusedSimpArgs false
theorem loopW_eq {S X : Type} (body : S → Option (Stp S X)) (s : S) : loopW body s = match body s with
  | none => none
  | some (.exit x) => some x
  | some (.next s') => loopW body s' := by
 cases h : body s with
 | none => exact loopW_stuck h
 | some r => cases r with
  | exit x => exact loopW_exit h
  | next s' => exact loopW_next h
abbrev Gr := TLabelsStatesEdges
abbrev Ed := TFromLabelTo
def cmp3 (x y : Ed) : Int := if x.1 < y.1 then -1 else if y.1 < x.1 then 1 else if x.2.1 < y.2.1 then -1 else if y.2.1 < x.2.1 then 1 else if x.2.2 < y.2.2 then -1 else if y.2.2 < x.2.2 then 1 else 0
theorem cmpC (a b : Int) : m_cmp_Compare_int a b = some (if a < b then -1 else if b < a then 1 else 0) := by
 unfold m_cmp_Compare_int m_cmp_isNaN_int
 simp only [ne_eq, not_true_eq_false, decide_false, Option.bind_some, Bool.false_eq_true, if_false]
 split <;> (try rfl)
 split <;> rfl
theorem wr0 : IntKind.wrap .i64 (0 + 1) = 1 := by decide
theorem wr1 : IntKind.wrap .i64 (1 + 1) = 2 := by decide
theorem wr2 : IntKind.wrap .i64 (2 + 1) = 3 := by decide
theorem ix3_0 (a b c : Int) : idx [a, b, c] 0 = some a := rfl
theorem ix3_1 (a b c : Int) : idx [a, b, c] 1 = some b := rfl
theorem ix3_2 (a b c : Int) : idx [a, b, c] 2 = some c := rfl
theorem len3 (a b c : Int) : (([a, b, c] : List Int).length : Int) = 3 := rfl
theorem by1_eq (x y : Ed) : m_graph_by_api_Edge_1 x y = some (cmp3 x y) := by
 unfold m_graph_by_api_Edge_1 m_graph_list m_slices_Compare_Lint_int cmp3
 simp only [Option.bind_some, len3]
 rw [loopW_eq]
 simp only [ix3_0, cmpC, Option.bind_some, wr0]
 by_cases a1 : x.1 < y.1
 ·simp [a1, lpO]
 by_cases a2 : y.1 < x.1
 ·simp [a1, a2, lpO]
 simp only [a1, a2, if_false, ne_eq, not_true_eq_false, if_true, Int.reduceLT, Int.reduceLE]
 rw [loopW_eq]
 simp only [ix3_1, cmpC, Option.bind_some, wr1]
 by_cases b1 : x.2.1 < y.2.1
 ·simp [b1, lpO]
 by_cases b2 : y.2.1 < x.2.1
 ·simp [b1, b2, lpO]
 simp only [b1, b2, if_false, ne_eq, not_true_eq_false, if_true, Int.reduceLT, Int.reduceLE]
 rw [loopW_eq]
 simp only [ix3_2, cmpC, Option.bind_some, wr2]
 by_cases c1 : x.2.2 < y.2.2
 ·simp [c1, lpO]
 by_cases c2 : y.2.2 < x.2.2
 ·simp [c1, c2, lpO]
 simp only [c1, c2, if_false, ne_eq, not_true_eq_false, if_true, Int.reduceLT, Int.reduceLE]
 rw [loopW_eq]
 simp [lpO]
theorem cmp_eq (x y : Ed) : m_ref09_Compare x y = some (cmp3 x y) := by
 unfold m_ref09_Compare cmp3
 rw [loopW_eq]
 simp only [ix3_0, Option.bind_some, wr0]
 by_cases a1 : x.1 < y.1
 ·simp [a1, lpO]
 by_cases a2 : y.1 < x.1
 ·simp [a1, a2, lpO]
 simp only [a1, a2, if_false, if_true, Int.reduceLT]
 rw [loopW_eq]
 simp only [ix3_1, Option.bind_some, wr1]
 by_cases b1 : x.2.1 < y.2.1
 ·simp [b1, lpO]
 by_cases b2 : y.2.1 < x.2.1
 ·simp [b1, b2, lpO]
 simp only [b1, b2, if_false, if_true, Int.reduceLT]
 rw [loopW_eq]
 simp only [ix3_2, Option.bind_some, wr2]
 by_cases c1 : x.2.2 < y.2.2
 ·simp [c1, lpO]
 by_cases c2 : y.2.2 < x.2.2
 ·simp [c1, c2, lpO]
 simp only [c1, c2, if_false, if_true, Int.reduceLT]
 rw [loopW_eq]
 simp [lpO]
theorem Check_ref (g : Gr) : m_graph_Check g = m_ref09_Check g := by
 unfold m_graph_Check m_ref09_Check
 have key : ∀ (x : Ed) (k : Bool → Option (Stp Int (Ou Unit Int))), (if (min (min x.1 x.2.1) x.2.2) < 0 then k true else if g.2.1 ≤ (max x.1 x.2.2) then k true else k (decide (g.1 ≤ x.2.1))) =
   (if x.1 < 0 then k true else if g.2.1 ≤ x.1 then k true else if x.2.2 < 0 then k true else if g.2.1 ≤ x.2.2 then k true else if x.2.1 < 0 then k true else k (decide (g.1 ≤ x.2.1))) := by
  intro x k
  by_cases h1 : x.1 < 0
  ·rw [if_pos (by omega), if_pos h1]
  by_cases h2 : g.2.1 ≤ x.1
  ·rw [if_neg h1, if_pos h2]
   split
   ·rfl
   rw [if_pos (by omega)]
  by_cases h3 : x.2.2 < 0
  ·rw [if_neg h1, if_neg h2, if_pos h3, if_pos (by omega)]
  by_cases h4 : g.2.1 ≤ x.2.2
  ·rw [if_neg h1, if_neg h2, if_neg h3, if_pos h4]
   split
   ·rfl
   rw [if_pos (by omega)]
  by_cases h5 : x.2.1 < 0
  ·rw [if_neg h1, if_neg h2, if_neg h3, if_neg h4, if_pos h5, if_pos (by omega)]
  rw [if_neg h1, if_neg h2, if_neg h3, if_neg h4, if_neg h5, if_neg (by omega), if_neg (by omega)]
 simp only [by1_eq, cmp_eq, key]
structure VG (g : Gr) : Prop where
 l1 : 1 ≤ g.1
 l2 : g.1 ≤ 256
 s0 : 0 ≤ g.2.1
 s1 : g.2.1 ≤ 64
 el : g.2.2.length ≤ 1024
 ed : ∀ x ∈ g.2.2, 0 ≤ x.1 ∧ x.1 < g.2.1 ∧ 0 ≤ x.2.2 ∧ x.2.2 < g.2.1 ∧ 0 ≤ x.2.1 ∧ x.2.1 < g.1
 ord : ∀ (i : Nat) (h : i + 1 < g.2.2.length), cmp3 (g.2.2[i]'(by omega)) g.2.2[i + 1] < 0
theorem ix_pred {α : Type} {l : List α} {i : Nat} (h : i < l.length) (hm : l.length ≤ 9223372036854775807) (h0 : 0 < i) : idx l (IntKind.wrap .i64 ((i : Int) - 1)) = some (l[i - 1]'(by omega)) := by
 rw [w64 (by omega) (by omega), show ((i : Int) - 1) = ((i - 1 : Nat) : Int) by omega]
 exact ix (by omega)
theorem lpO_ex {V R Y : Type} {o : Option (Ou V R)} {M : V → Option Y} {Rt : R → Option Y} {C : Y → Prop} (Q : Ou V R → Prop) (h : ∃ x, o = some x ∧ Q x) (k : ∀ x, Q x → ∃ e, lpO (some x) M Rt = some e ∧ C e) : ∃ e, lpO o M Rt = some e ∧ C e := by
 obtain ⟨x, rfl, hq⟩ := h
 exact k x hq
theorem Check_tot (g : Gr) : ∃ e, m_ref09_Check g = some e ∧ (e = 0 ↔ VG g) := by
  unfold m_ref09_Check
  simp only [jp]
  by_cases h1 : g.1 < 1
  · exact ⟨12, by simp [h1], by simp; intro v; have := v.l1; omega⟩
  by_cases h2 : 256 < g.1
  · exact ⟨12, by simp [h1, h2], by simp; intro v; have := v.l2; omega⟩
  by_cases h3 : g.2.1 < 0
  · exact ⟨2, by simp [h1, h2, h3], by simp; intro v; have := v.s0; omega⟩
  by_cases h4 : 64 < g.2.1
  · exact ⟨4, by simp [h1, h2, h3, h4], by simp; intro v; have := v.s1; omega⟩
  by_cases h5 : 1024 < (g.2.2.length : Int)
  · exact ⟨4, by simp [h1, h2, h3, h4, h5], by simp; intro v; have := v.el; omega⟩
  simp only [h1, h2, h3, h4, h5, if_false, decide_false, Bool.false_eq_true, cmp_eq, Option.bind_some, if_true]
  refine lpO_ex (fun x => (x = .ret 2 ∧ ¬ VG g) ∨ (x = .ret 10 ∧ ¬ VG g) ∨ (x = .go () ∧ VG g)) ?_ ?_
  · refine loopN g.2.2.length (fun i s => s = (i : Int) ∧ (∀ (j : Nat) (h : j < i) (hj : j < g.2.2.length), 0 ≤ g.2.2[j].1 ∧ g.2.2[j].1 < g.2.1 ∧ 0 ≤ g.2.2[j].2.2 ∧ g.2.2[j].2.2 < g.2.1 ∧ 0 ≤ g.2.2[j].2.1 ∧ g.2.2[j].2.1 < g.1) ∧
        ∀ (j : Nat) (h : j + 1 < i) (hj : j + 1 < g.2.2.length), cmp3 (g.2.2[j]'(by omega)) g.2.2[j + 1] < 0) ?_ ?_ 0 _ (Nat.zero_le _) ⟨rfl, fun _ h => by omega, fun _ h => by omega⟩
    · rintro i s hi ⟨rfl, he, ho⟩
      rw [if_pos (lt_int hi), ix hi]
      simp only [Option.bind_some]
      by_cases hg : 0 ≤ g.2.2[i].1 ∧ g.2.2[i].1 < g.2.1 ∧ 0 ≤ g.2.2[i].2.2 ∧ g.2.2[i].2.2 < g.2.1 ∧ 0 ≤ g.2.2[i].2.1 ∧ g.2.2[i].2.1 < g.1
      · obtain ⟨e1, e2, e3, e4, e5, e6⟩ := hg
        rw [if_neg (by omega), if_neg (by omega), if_neg (by omega), if_neg (by omega), if_neg (by omega)]
        have hd : decide (g.1 ≤ g.2.2[i].2.1) = false := decide_eq_false (by omega)
        rw [hd]
        simp only [Bool.false_eq_true, if_false]
        have he' : ∀ (j : Nat) (h : j < i + 1) (hj : j < g.2.2.length), 0 ≤ g.2.2[j].1 ∧ g.2.2[j].1 < g.2.1 ∧ 0 ≤ g.2.2[j].2.2 ∧ g.2.2[j].2.2 < g.2.1 ∧ 0 ≤ g.2.2[j].2.1 ∧ g.2.2[j].2.1 < g.1 := by
          intro j hj hjl
          by_cases hji : j = i
          · subst hji; exact ⟨e1, e2, e3, e4, e5, e6⟩
          exact he j (by omega) hjl
        by_cases h0 : 0 < i
        · rw [if_pos (by omega), ix_pred hi (by omega) h0]
          simp only [Option.bind_some]
          by_cases hc : 0 ≤ cmp3 (g.2.2[i - 1]'(by omega)) g.2.2[i]
          · refine .inr ⟨.ret 10, by rw [if_pos (decide_eq_true hc)], .inr (.inl ⟨rfl, fun v => ?_⟩)⟩
            have := v.ord (i - 1) (by omega)
            simp only [show i - 1 + 1 = i by omega] at this
            omega
          refine .inl ⟨_, by rw [if_neg (by simpa using hc)], by rw [nx (by omega : g.2.2.length ≤ _) hi], he', fun j hj hjl => ?_⟩
          by_cases hji : j + 1 = i
          · have hj' : j = i - 1 := by omega
            subst hj'
            simp only [show i - 1 + 1 = i by omega]
            omega
          exact ho j (by omega) hjl
        refine .inl ⟨_, by rw [if_neg (by omega)], by rw [nx (by omega : g.2.2.length ≤ _) hi], he', fun j hj hjl => by omega⟩
      have hv : ¬ VG g := fun v => hg (v.ed _ (List.getElem_mem hi))
      refine .inr ⟨.ret 2, ?_, .inl ⟨rfl, hv⟩⟩
      by_cases e1 : g.2.2[i].1 < 0
      · rw [if_pos e1]
      rw [if_neg e1]
      by_cases e2 : g.2.1 ≤ g.2.2[i].1
      · rw [if_pos e2]
      rw [if_neg e2]
      by_cases e3 : g.2.2[i].2.2 < 0
      · rw [if_pos e3]
      rw [if_neg e3]
      by_cases e4 : g.2.1 ≤ g.2.2[i].2.2
      · rw [if_pos e4]
      rw [if_neg e4]
      by_cases e5 : g.2.2[i].2.1 < 0
      · rw [if_pos e5]
      rw [if_neg e5, if_pos (decide_eq_true (by omega))]
    rintro s ⟨rfl, he, ho⟩
    rw [if_neg (not_lt_int _)]
    refine ⟨_, rfl, .inr (.inr ⟨rfl, ⟨by omega, by omega, by omega, by omega, by omega, fun x hx => ?_, fun i h => ho i h h⟩⟩)⟩
    obtain ⟨j, hj, rfl⟩ := List.getElem_of_mem hx
    exact he j hj hj
  rintro x (⟨rfl, hv⟩ | ⟨rfl, hv⟩ | ⟨rfl, hv⟩)
  · exact ⟨2, rfl, by simp [hv]⟩
  · exact ⟨10, rfl, by simp [hv]⟩
  exact ⟨0, rfl, by simp [hv]⟩
end Go.AW

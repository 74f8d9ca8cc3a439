/- MergingBuilt: for every input the law's function returns true, and the input reads as it did. -/
import Derived.Test.YtlddcjolelmpmaaGreatBt6
import Derived.ChangeMaps5
import Derived.OpenShut
import Derived.ProofKit
import Derived.SliceStrings
import Derived.Test.YtlddcjolelmpmaaGreatRows
import Derived.WalkKit
import Derived.WideKeyArgs
set_option linter.unusedSimpArgs false
set_option linter.unusedVariables false
namespace Go.AW
open Go Go.Proofs
set_option maxHeartbeats 1600000
set_option maxRecDepth 100000
theorem w_merging_Build {p0 : qaa} {p1 : Int} {p2 : Int} {p3 : Int} {r : qaq × Int} (h : qa9 p0 p1 p2 p3 = some r) : Pure Tryz.prog 46 [gA p0, hI p1, hI p2, hI p3] (· = HV.tup [.agg [slE eStr r.1.1, slE eStr r.1.2], hI r.2]) := by
 unfold qa9 at h
 refine Pure.of_body Tryz.func46 rfl rfl (lb rfl) fun hf => ?_
 unfold Tryz.f46
 dsimp only [qaG, Nat.reduceAdd]
 refine AW.rgs rfl fun K hK => b_op rfl (o_box rfl rfl rfl ?_)
 refine b_op rfl (o_box rfl rfl rfl ?_)
 refine b_op rfl (qbj (fid := 46) (zs := [.v (.slice none 0 0), .v (.slice none 0 0)]) 46008 rfl rfl ty24 rfl (fun v1 => ?_))
 refine b_op rfl (qbj (fid := 46) (zs := [hI 0]) 46009 rfl rfl ty33 rfl (fun v2 => ?_))
 let O1 : Nat × Nat × AObj := (46008, v1, .arr 2 24 [.v (.slice none 0 0), .v (.slice none 0 0)])
 let O2 : Nat × Nat × AObj := (46009, v2, .arr 1 33 [hI 0])
 let P1 : ASf := fun t H => ⟨(1, hI p1) :: (2, hI p2) :: (4, gF p0) :: (7, .fptr [hI p3] 0) :: (8, .ptr 46008 v1 0) :: (9, .ptr 46009 v2 0) :: t, O1 :: O2 :: H⟩
 refine bf hK (P1 [] []) ?_
 refine AW.seq ?_
 refine AW.rgs rfl fun K hK => bv rfl (qab ty27 rfl (qaz rfl (lb rfl) rfl)) ?_
 obtain ⟨x3, h4, h⟩ := bS h
 refine b_op rfl (qay rfl rfl rfl rfl (ACallD.pure0 (w_graph_Check h4)) ?_)
 refine bv rfl (qaf rfl rfl b_neq) ?_
 refine bf hK (P1 [(20, .bool (decide (x3 ≠ 0)))] []) ?_
 refine AW.cond rfl (fun hc => ?_) (fun hc => ?_)
 ·obtain ⟨hc, h⟩ := cT hc h
  refine AW.rgs rfl fun K hK => b_op rfl (o_build (cs := [.v (.slice none 0 0), .v (.slice none 0 0)]) rfl (bl_of ty24 rfl rfl rfl rfl) ?_)
  refine b_op rfl (qaH (cs := [.v (.slice none 0 0), .v (.slice none 0 0)]) (zs := [.v (.slice none 0 0), .v (.slice none 0 0)]) rfl rfl rfl ty24 rfl rfl rfl rfl rfl ?_)
  refine b_op rfl (qaH (cs := [hI 1]) (zs := [hI 1]) rfl rfl rfl ty33 rfl rfl rfl rfl rfl ?_)
  refine bf hK ⟨[(8, .ptr 46008 v1 0), (9, .ptr 46009 v2 0)], [O1, (46009, v2, .arr 1 33 [hI 1])]⟩ ?_
  refine AW.to (to_cells 46008 v1 (ds := [slE eStr ([] : List (List UInt8)), slE eStr ([] : List (List UInt8))]) rfl (.cons (.nil _) <| .cons (.nil _) <| .nil) ?_)
  obtain rfl := oi h
  exact AW.ret (qac (.inr rfl) (resP ty24 rfl rfl (qaz rfl (lb rfl) rfl) (resP ty33 rfl rfl (qam rfl rfl) rfl)) rfl ⟨⟨(qao fun _ _ => ⟨trivial, trivial⟩), (qao fun _ _ => ⟨trivial, trivial⟩), trivial⟩, trivial, trivial⟩)
 obtain ⟨hc, h⟩ := cF hc h
 refine AW.skip ?_
 refine AW.seq ?_
 refine AW.rgs rfl fun K hK => bv rfl (qad fo27_0 rfl) (bv rfl (qab ty3 rfl (qam rfl rfl)) (bv rfl (qaf rfl rfl b_neq) ?_))
 refine bf hK (P1 [(24, .bool (decide (p0.1 ≠ 2)))] []) ?_
 refine AW.cond rfl (fun hc => ?_) (fun hc => ?_)
 ·obtain ⟨hc, h⟩ := cT hc h
  refine AW.rgs rfl fun K hK => b_op rfl (o_build (cs := [.v (.slice none 0 0), .v (.slice none 0 0)]) rfl (bl_of ty24 rfl rfl rfl rfl) ?_)
  refine b_op rfl (qaH (cs := [.v (.slice none 0 0), .v (.slice none 0 0)]) (zs := [.v (.slice none 0 0), .v (.slice none 0 0)]) rfl rfl rfl ty24 rfl rfl rfl rfl rfl ?_)
  refine b_op rfl (qaH (cs := [hI 12]) (zs := [hI 12]) rfl rfl rfl ty33 rfl rfl rfl rfl rfl ?_)
  refine bf hK ⟨[(8, .ptr 46008 v1 0), (9, .ptr 46009 v2 0)], [O1, (46009, v2, .arr 1 33 [hI 12])]⟩ ?_
  refine AW.to (to_cells 46008 v1 (ds := [slE eStr ([] : List (List UInt8)), slE eStr ([] : List (List UInt8))]) rfl (.cons (.nil _) <| .cons (.nil _) <| .nil) ?_)
  obtain rfl := oi h
  exact AW.ret (qac (.inr rfl) (resP ty24 rfl rfl (qaz rfl (lb rfl) rfl) (resP ty33 rfl rfl (qam rfl rfl) rfl)) rfl ⟨⟨(qao fun _ _ => ⟨trivial, trivial⟩), (qao fun _ _ => ⟨trivial, trivial⟩), trivial⟩, trivial, trivial⟩)
 obtain ⟨hc, h⟩ := cF hc h
 refine AW.skip ?_
 refine AW.rgs rfl fun K hK => bv rfl (qab ty27 rfl (qaz rfl (lb rfl) rfl)) ?_
 obtain ⟨x5, h6, h⟩ := bS h
 refine b_op rfl (qay rfl rfl rfl rfl (ACallD.pure0 (w_graph_Deterministic h6)) ?_)
 refine mv rfl rfl (bv rfl (qat rfl rfl) (bv rfl (qat rfl rfl) (mv rfl rfl (mv rfl rfl ?_))))
 refine bf hK (P1 [(10, .bool x5.1), (11, hI x5.2)] []) ?_
 refine AW.rgs rfl fun K hK => bv rfl (qab ty27 rfl (qaz rfl (lb rfl) rfl)) ?_
 obtain ⟨x7, h8, h⟩ := bS h
 refine b_op rfl (qay rfl rfl rfl rfl (ACallD.pure0 (w_component_Irreducible h8)) ?_)
 refine mv rfl rfl (bv rfl (qat rfl rfl) (bv rfl (qat rfl rfl) (mv rfl rfl (mv rfl rfl ?_))))
 refine bf hK (P1 [(10, .bool x5.1), (11, hI x5.2), (12, .bool x7.1), (13, hI x7.2)] []) ?_
 refine AW.seq ?_
 refine AW.seqJ h (S := Bool) (V := Unit) (fun a v => (P1 [(49, .bool a)] [])) (fun a9 w10 h => ?_) (fun k11 h => ?_)
 ·refine AW.cond rfl (fun hc => ?_) (fun hc => ?_)
  ·have h := ifT hc h
   refine AW.rgs rfl fun K hK => b_op rfl (o_build (cs := [.v (.slice none 0 0), .v (.slice none 0 0)]) rfl (bl_of ty24 rfl rfl rfl rfl) ?_)
   refine b_op rfl (qaH (cs := [.v (.slice none 0 0), .v (.slice none 0 0)]) (zs := [.v (.slice none 0 0), .v (.slice none 0 0)]) rfl rfl rfl ty24 rfl rfl rfl rfl rfl ?_)
   refine b_op rfl (qaH (cs := [hI 8]) (zs := [hI 8]) rfl rfl rfl ty33 rfl rfl rfl rfl rfl ?_)
   refine bf hK ⟨[(8, .ptr 46008 v1 0), (9, .ptr 46009 v2 0)], [O1, (46009, v2, .arr 1 33 [hI 8])]⟩ ?_
   refine AW.to (to_cells 46008 v1 (ds := [slE eStr ([] : List (List UInt8)), slE eStr ([] : List (List UInt8))]) rfl (.cons (.nil _) <| .cons (.nil _) <| .nil) ?_)
   obtain rfl := oi h
   exact AW.ret (qac (.inr rfl) (resP ty24 rfl rfl (qaz rfl (lb rfl) rfl) (resP ty33 rfl rfl (qam rfl rfl) rfl)) rfl ⟨⟨(qao fun _ _ => ⟨trivial, trivial⟩), (qao fun _ _ => ⟨trivial, trivial⟩), trivial⟩, trivial, trivial⟩)
  have h := ifF (bF' hc) h
  refine AW.skip ?_
  refine AW.seq ?_
  refine AW.seqJ h (S := Bool) (V := Unit) (fun a v => (P1 [(72, .bool a)] [])) (fun a12 w13 h => ?_) (fun k14 h => ?_)
  ·refine AW.cond rfl (fun hc => ?_) (fun hc => ?_)
   ·have h := ifT hc h
    refine AW.rgs rfl fun K hK => b_op rfl (o_build (cs := [.v (.slice none 0 0), .v (.slice none 0 0)]) rfl (bl_of ty24 rfl rfl rfl rfl) ?_)
    refine b_op rfl (qaH (cs := [.v (.slice none 0 0), .v (.slice none 0 0)]) (zs := [.v (.slice none 0 0), .v (.slice none 0 0)]) rfl rfl rfl ty24 rfl rfl rfl rfl rfl ?_)
    refine b_op rfl (qaH (cs := [hI 2]) (zs := [hI 2]) rfl rfl rfl ty33 rfl rfl rfl rfl rfl ?_)
    refine bf hK ⟨[(8, .ptr 46008 v1 0), (9, .ptr 46009 v2 0)], [O1, (46009, v2, .arr 1 33 [hI 2])]⟩ ?_
    refine AW.to (to_cells 46008 v1 (ds := [slE eStr ([] : List (List UInt8)), slE eStr ([] : List (List UInt8))]) rfl (.cons (.nil _) <| .cons (.nil _) <| .nil) ?_)
    obtain rfl := oi h
    exact AW.ret (qac (.inr rfl) (resP ty24 rfl rfl (qaz rfl (lb rfl) rfl) (resP ty33 rfl rfl (qam rfl rfl) rfl)) rfl ⟨⟨(qao fun _ _ => ⟨trivial, trivial⟩), (qao fun _ _ => ⟨trivial, trivial⟩), trivial⟩, trivial, trivial⟩)
   have h := ifF (bF' hc) h
   refine AW.skip ?_
   refine AW.rgs rfl fun K hK => bv rfl (qab ty27 rfl (qaz rfl (lb rfl) rfl)) (mv rfl rfl ?_)
   obtain ⟨x15, h16, h⟩ := bS h
   refine b_op rfl (qay rfl rfl rfl rfl (ACallD.pure0 (w_language_Words h16)) ?_)
   refine mv rfl rfl (bv rfl (qat rfl rfl) (bv rfl (qat rfl rfl) (mv rfl rfl (mv rfl rfl ?_))))
   let P2 : ASf := fun t H => ⟨(2, hI p2) :: (4, gF p0) :: (7, .fptr [hI p3] 0) :: (8, .ptr 46008 v1 0) :: (9, .ptr 46009 v2 0) :: (11, hI x15.2) :: (14, slE eStr x15.1) :: t, O1 :: O2 :: H⟩
   refine bf hK (P2 [] []) ?_
   refine AW.seq ?_
   refine AW.rgs rfl fun K hK => mv rfl rfl (bv rfl (qaf rfl rfl b_neq) ?_)
   refine bf hK (P2 [(81, .bool (decide (x15.2 ≠ 0)))] []) ?_
   refine AW.cond rfl (fun hc => ?_) (fun hc => ?_)
   ·obtain ⟨hc, h⟩ := cT hc h
    refine AW.rgs rfl fun K hK => b_op rfl (o_build (cs := [.v (.slice none 0 0), .v (.slice none 0 0)]) rfl (bl_of ty24 rfl rfl rfl rfl) ?_)
    refine mv rfl rfl ?_
    refine b_op rfl (qaH (cs := [.v (.slice none 0 0), .v (.slice none 0 0)]) (zs := [.v (.slice none 0 0), .v (.slice none 0 0)]) rfl rfl rfl ty24 rfl rfl rfl rfl rfl ?_)
    refine b_op rfl (qaH (cs := [hI x15.2]) (zs := [hI x15.2]) rfl rfl rfl ty33 rfl rfl rfl rfl rfl ?_)
    refine bf hK ⟨[(8, .ptr 46008 v1 0), (9, .ptr 46009 v2 0)], [O1, (46009, v2, .arr 1 33 [hI x15.2])]⟩ ?_
    refine AW.to (to_cells 46008 v1 (ds := [slE eStr ([] : List (List UInt8)), slE eStr ([] : List (List UInt8))]) rfl (.cons (.nil _) <| .cons (.nil _) <| .nil) ?_)
    obtain rfl := oi h
    exact AW.ret (qac (.inr rfl) (resP ty24 rfl rfl (qaz rfl (lb rfl) rfl) (resP ty33 rfl rfl (qam rfl rfl) rfl)) rfl ⟨⟨(qao fun _ _ => ⟨trivial, trivial⟩), (qao fun _ _ => ⟨trivial, trivial⟩), trivial⟩, trivial, trivial⟩)
   obtain ⟨hc, h⟩ := cF hc h
   refine AW.skip ?_
   refine AW.rgs rfl fun K hK => mv rfl rfl ?_
   obtain ⟨x17, h18, h⟩ := bS h
   refine b_op rfl (qay rfl rfl rfl rfl (ACallD.pure0 (w_word_All h18)) ?_)
   refine mv rfl rfl (bv rfl (qat rfl rfl) (bv rfl (qat rfl rfl) (mv rfl rfl (mv rfl rfl ?_))))
   let P3 : ASf := fun t H => ⟨(4, gF p0) :: (7, .fptr [hI p3] 0) :: (8, .ptr 46008 v1 0) :: (9, .ptr 46009 v2 0) :: t, O1 :: O2 :: H⟩
   refine bf hK (P3 [(11, hI x17.2), (14, slE eStr x15.1), (15, slE eStr x17.1)] []) ?_
   refine AW.seq ?_
   refine AW.rgs rfl fun K hK => mv rfl rfl (bv rfl (qaf rfl rfl b_neq) ?_)
   refine bf hK (P3 [(11, hI x17.2), (14, slE eStr x15.1), (15, slE eStr x17.1), (90, .bool (decide (x17.2 ≠ 0)))] []) ?_
   refine AW.cond rfl (fun hc => ?_) (fun hc => ?_)
   ·obtain ⟨hc, h⟩ := cT hc h
    refine AW.rgs rfl fun K hK => b_op rfl (o_build (cs := [.v (.slice none 0 0), .v (.slice none 0 0)]) rfl (bl_of ty24 rfl rfl rfl rfl) ?_)
    refine mv rfl rfl ?_
    refine b_op rfl (qaH (cs := [.v (.slice none 0 0), .v (.slice none 0 0)]) (zs := [.v (.slice none 0 0), .v (.slice none 0 0)]) rfl rfl rfl ty24 rfl rfl rfl rfl rfl ?_)
    refine b_op rfl (qaH (cs := [hI x17.2]) (zs := [hI x17.2]) rfl rfl rfl ty33 rfl rfl rfl rfl rfl ?_)
    refine bf hK ⟨[(8, .ptr 46008 v1 0), (9, .ptr 46009 v2 0)], [O1, (46009, v2, .arr 1 33 [hI x17.2])]⟩ ?_
    refine AW.to (to_cells 46008 v1 (ds := [slE eStr ([] : List (List UInt8)), slE eStr ([] : List (List UInt8))]) rfl (.cons (.nil _) <| .cons (.nil _) <| .nil) ?_)
    obtain rfl := oi h
    exact AW.ret (qac (.inr rfl) (resP ty24 rfl rfl (qaz rfl (lb rfl) rfl) (resP ty33 rfl rfl (qam rfl rfl) rfl)) rfl ⟨⟨(qao fun _ _ => ⟨trivial, trivial⟩), (qao fun _ _ => ⟨trivial, trivial⟩), trivial⟩, trivial, trivial⟩)
   obtain ⟨hc, h⟩ := cF hc h
   refine AW.skip ?_
   refine AW.rgs rfl fun K hK => mv rfl rfl ?_
   refine b_op rfl (o_build (cs := [.v (.slice none 0 0), slE eStr x17.1]) rfl (bl_of ty24 rfl rfl rfl rfl) ?_)
   refine b_op rfl (qbj (fid := 46) (zs := [.v (.slice none 0 0), .v (.slice none 0 0)]) 46016 rfl rfl ty24 rfl (fun v19 => ?_))
   refine b_op rfl (qaH (cs := [.v (.slice none 0 0), slE eStr x17.1]) (zs := [.v (.slice none 0 0), slE eStr x17.1]) rfl rfl rfl ty24 rfl rfl rfl rfl rfl ?_)
   let O3 : Nat × Nat × AObj := (46016, v19, .arr 2 24 [.v (.slice none 0 0), slE eStr x17.1])
   refine bf hK (P3 [(14, slE eStr x15.1), (15, slE eStr x17.1), (16, .ptr 46016 v19 0)] [O3]) ?_
   refine AW.seq ?_
   refine AW.rgs rfl fun K hK => bv rfl (qab ty27 rfl (qaz rfl (lb rfl) rfl)) (mv rfl rfl (mv rfl rfl ?_))
   refine b_op rfl (qay rfl rfl rfl rfl (ACallD.pure0 (w_merging_taken p0 x15.1 x17.1)) ?_)
   let E4 : Nat × HV := (98, .fn (.func 147) [] [.fptr [slE eStr x15.1] 0, gF p0, .fptr [slE eStr x17.1] 0])
   let P4 : ASf := fun t H => ⟨(7, .fptr [hI p3] 0) :: (8, .ptr 46008 v1 0) :: (9, .ptr 46009 v2 0) :: (16, .ptr 46016 v19 0) :: t, H⟩
   refine bf hK (P4 [E4] [O1, O2, O3]) ?_
   refine AW.block ?_
   refine AW.to (to_ownC 46104 46016 v19 2 0 eStr.k 9 24 rfl rfl (by decide) fun v20 => ?_)
   refine AW.to (qbd (s' := (P4 [E4] [O1, O2, (46016, v19, .arr 2 24 [.ar 46104 v20 eStr.k 0 ((([] : List (List UInt8))).length), slE eStr x17.1]), (46104, v20, .arr eStr.k 9 (eStr.E ([] : List (List UInt8))))])) (AS.le_of ⟨rfl, rfl, rfl, rfl, rfl, trivial⟩ ⟨rfl, rfl, hle rfl (by first | rfl | simp only [List.length_set, sortI_len, sortS_len]), rfl, trivial⟩) ?_)
   obtain ⟨L21, h22, h⟩ := bS h
   refine AW.rangeY (c := .ret) 46900 (fun x => [.str x]) h (by first | exact qa5 | exact up_to) rfl (iy_merging_taken h22) (S := (List (List UInt8))) (V := Nat) (fun a v => [(46008, v1, .arr 2 24 [.v (.slice none 0 0), .v (.slice none 0 0)]), (46009, v2, .arr 1 33 [hI 0]), (46016, v19, .arr 2 24 [.ar 46104 v eStr.k 0 ((a).length), slE eStr x17.1]), (46104, v, .arr eStr.k 9 (eStr.E a))]) v20 (X := (List (List UInt8))) (W := Nat) (fun a v => [(46008, v1, .arr 2 24 [.ar 46104 v eStr.k 0 ((a).length), slE eStr x17.1]), (46009, v2, .arr 1 33 [hI 0]), (46104, v, .arr eStr.k 9 (eStr.E a))]) (fun _ _ => rfl) (fun _ _ => rfl) rfl (fun _ => rfl) (fun a31 w32 h => ?_) (fun a33 w34 h => ?_) (fun Lo l28 v26 a23 x25 w24 st27 h => ?_)
   ·refine AW.rgs rfl fun K hK => b_op rfl (o_build (cs := [.v (.slice none 0 0), .v (.slice none 0 0)]) rfl (bl_of ty24 rfl rfl rfl rfl) ?_)
    refine b_op rfl (qaH (cs := [.v (.slice none 0 0), .v (.slice none 0 0)]) (zs := [.v (.slice none 0 0), .v (.slice none 0 0)]) rfl rfl rfl ty24 rfl rfl rfl rfl rfl ?_)
    refine b_op rfl (qaH (cs := [hI 15]) (zs := [hI 15]) rfl rfl rfl ty33 rfl rfl rfl rfl rfl ?_)
    refine bf hK ⟨[(8, .ptr 46008 v1 0), (9, .ptr 46009 v2 0)], [O1, (46009, v2, .arr 1 33 [hI 15])]⟩ ?_
    refine AW.to (to_cells 46008 v1 (ds := [slE eStr ([] : List (List UInt8)), slE eStr ([] : List (List UInt8))]) rfl (.cons (.nil _) <| .cons (.nil _) <| .nil) ?_)
    obtain rfl := oi h
    exact AW.ret (qac (.inr rfl) (resP ty24 rfl rfl (qaz rfl (lb rfl) rfl) (resP ty33 rfl rfl (qam rfl rfl) rfl)) rfl ⟨⟨(qao fun _ _ => ⟨trivial, trivial⟩), (qao fun _ _ => ⟨trivial, trivial⟩), trivial⟩, trivial, trivial⟩)
   ·refine AW.to (to_fill 2 [(46104, w34, .arr eStr.k 9 (eStr.E a33))] ⟨[(8, .ptr 46008 v1 0), (9, .ptr 46009 v2 0)], [(46008, v1, .arr 2 24 [slE eStr a33, slE eStr x17.1]), O2]⟩ ⟨⟨_, rfl, rfl⟩, ⟨_, rfl, rfl⟩, trivial⟩ ⟨.inr ⟨_, _, _, rfl, congrArg (AObj.arr 2 24) (congrArg (fun z : HV => [z, slE eStr x17.1]) (frz_slE eStr (D := [(46104, w34, .arr eStr.k 9 (eStr.E a33))]) (l := a33) rfl fun _ _ => rfl).symm)⟩, .inl rfl, trivial⟩ ⟨rfl, trivial⟩ ⟨rfl, trivial⟩ ?_)
    obtain rfl := oi h
    exact AW.ret (qac (.inr rfl) (resP ty24 rfl rfl (qaz rfl (lb rfl) rfl) (resP ty33 rfl rfl (qam rfl rfl) rfl)) rfl ⟨⟨(qao fun _ _ => ⟨trivial, trivial⟩), (qao fun _ _ => ⟨trivial, trivial⟩), trivial⟩, trivial, trivial⟩)
   refine AW.rg rfl fun K hK => mv rfl rfl ?_
   refine qah (hK _ ?_)
   refine ⟨rfl, rfl, ?_⟩
   refine AW.block ?_
   refine AW.rgs rfl fun K hK => bv rfl (qar fo24_0 rfl rfl) (bv rfl (qas ty22 rfl rfl (qam rfl rfl)) (mv rfl rfl ?_))
   refine b_op rfl (o_bsl rfl rfl (as_of (cs := [.str x25]) ty22 ty9 rfl rfl rfl rfl rfl) ?_)
   obtain ⟨h30, h⟩ := ifN h
   refine b_op rfl (o_appE eStr (l := a23) (m := [x25]) rfl rfl ty22 ty22 ty9 rfl rfl rfl rfl rfl h30 (fun v29 => ?_))
   refine bv rfl (qar fo24_0 rfl rfl) ?_
   refine b_op rfl (qaH (cs := [.ar 46104 v29 eStr.k 0 ((a23 ++ [x25]).length)]) (zs := [.ar 46104 v29 eStr.k 0 ((a23 ++ [x25]).length), slE eStr x17.1]) rfl rfl rfl ty22 rfl rfl rfl rfl rfl ?_)
   let O5 : Nat × Nat × AObj := (46016, v19, .arr 2 24 [.ar 46104 v29 eStr.k 0 ((a23 ++ [x25]).length), slE eStr x17.1])
   let O6 : Nat × Nat × AObj := (46104, v29, .arr eStr.k 9 (eStr.E (a23 ++ [x25])))
   refine bf hK (P4 [(99, .str x25)] [(46900, v26, Lo .busy none), O1, O2, O5, O6]) ?_
   refine AW.rgs rfl fun K hK => bv rfl (qar fo24_0 rfl rfl) (bv rfl (qas ty22 rfl rfl (qam rfl rfl)) (bv rfl (v_lenA rfl rfl ty22 rfl rfl) (bv rfl (qab ty3 rfl (qam rfl rfl)) (bv rfl (qaf rfl rfl b_eql) ?_))))
   refine bf hK (P4 [(99, .str x25), (110, .bool (decide ((((a23 ++ [x25]).length : Nat) : Int) = p3)))] [(46900, v26, Lo .busy none), O1, O2, O5, O6]) ?_
   refine AW.cond rfl (fun hc => ?_) (fun hc => ?_)
   ·obtain ⟨hc, h⟩ := cT hc h
    refine AW.rgs rfl fun K hK => bv rfl (qas ty24 rfl rfl (qaz rfl (lb rfl) rfl)) ?_
    refine b_op rfl (qaH (cs := [.ar 46104 v29 eStr.k 0 ((a23 ++ [x25]).length), slE eStr x17.1]) (zs := [.ar 46104 v29 eStr.k 0 ((a23 ++ [x25]).length), slE eStr x17.1]) rfl rfl rfl ty24 rfl rfl rfl rfl rfl ?_)
    refine b_op rfl (qaH (cs := [hI 0]) (zs := [hI 0]) rfl rfl rfl ty33 rfl rfl rfl rfl rfl ?_)
    refine bf hK ⟨[(8, .ptr 46008 v1 0), (9, .ptr 46009 v2 0)], [(46900, v26, Lo .busy none), (46008, v1, .arr 2 24 [.ar 46104 v29 eStr.k 0 ((a23 ++ [x25]).length), slE eStr x17.1]), O2, O6]⟩ ?_
    refine AW.ret ?_
    exact ⟨rfl, a23 ++ [x25], v29, h, (AS.le_of trivial ⟨rfl, rfl, rfl, rfl, trivial⟩)⟩
   obtain ⟨hc, h⟩ := cF hc h
   refine AW.skip ?_
   exact ⟨a23 ++ [x25], v29, h, (AS.le_of trivial ⟨rfl, rfl, rfl, rfl, rfl, trivial⟩)⟩
  refine AW.rg rfl fun K hK => mv rfl rfl (bv rfl (qaf rfl rfl b_lss) (mv rfl rfl ?_))
  by_cases hg39 : p1 < 1
  ·have h := ifT hg39 h
   refine b_F rfl rfl rfl rfl rfl (decide_eq_true hg39) ?_
   refine b_F rfl rfl rfl rfl rfl rfl ?_
   refine bv rfl (qak rfl rfl rfl) (mv rfl rfl ?_)
   iterate 2 refine b_F rfl rfl rfl rfl rfl rfl ?_
   refine bv rfl (qak rfl rfl rfl) (mv rfl rfl ?_)
   iterate 2 refine b_F rfl rfl rfl rfl rfl rfl ?_
   refine bv rfl (qak rfl rfl rfl) (mv rfl rfl ?_)
   iterate 2 refine b_F rfl rfl rfl rfl rfl rfl ?_
   refine bv rfl (qak rfl rfl rfl) (mv rfl rfl ?_)
   iterate 2 refine b_F rfl rfl rfl rfl rfl rfl ?_
   refine bv rfl (qak rfl rfl rfl) ?_
   refine qah (hK _ ?_)
   exact to_L ⟨true, (), h, rfl⟩
  have h := ifF hg39 h
  refine b_T rfl rfl rfl rfl (decide_eq_false hg39) (qai rfl (qaR rfl rfl).2 ?_)
  refine b_T rfl rfl rfl rfl rfl (qai rfl (qaf rfl rfl b_gtr) ?_)
  refine bv rfl (qan rfl rfl rfl) (mv rfl rfl ?_)
  by_cases hg38 : 16 < p1
  ·have h := ifT hg38 h
   refine b_F rfl rfl rfl rfl rfl (decide_eq_true hg38) ?_
   refine b_F rfl rfl rfl rfl rfl rfl ?_
   refine bv rfl (qak rfl rfl rfl) (mv rfl rfl ?_)
   iterate 2 refine b_F rfl rfl rfl rfl rfl rfl ?_
   refine bv rfl (qak rfl rfl rfl) (mv rfl rfl ?_)
   iterate 2 refine b_F rfl rfl rfl rfl rfl rfl ?_
   refine bv rfl (qak rfl rfl rfl) (mv rfl rfl ?_)
   iterate 2 refine b_F rfl rfl rfl rfl rfl rfl ?_
   refine bv rfl (qak rfl rfl rfl) ?_
   refine qah (hK _ ?_)
   exact to_L ⟨true, (), h, rfl⟩
  have h := ifF hg38 h
  refine b_T rfl rfl rfl rfl (decide_eq_false hg38) (qai rfl (qaR rfl rfl).2 ?_)
  refine b_T rfl rfl rfl rfl rfl (qai rfl (qaf rfl rfl b_lss) ?_)
  refine bv rfl (qan rfl rfl rfl) (mv rfl rfl ?_)
  by_cases hg37 : p2 < 0
  ·have h := ifT hg37 h
   refine b_F rfl rfl rfl rfl rfl (decide_eq_true hg37) ?_
   refine b_F rfl rfl rfl rfl rfl rfl ?_
   refine bv rfl (qak rfl rfl rfl) (mv rfl rfl ?_)
   iterate 2 refine b_F rfl rfl rfl rfl rfl rfl ?_
   refine bv rfl (qak rfl rfl rfl) (mv rfl rfl ?_)
   iterate 2 refine b_F rfl rfl rfl rfl rfl rfl ?_
   refine bv rfl (qak rfl rfl rfl) ?_
   refine qah (hK _ ?_)
   exact to_L ⟨true, (), h, rfl⟩
  have h := ifF hg37 h
  refine b_T rfl rfl rfl rfl (decide_eq_false hg37) (qai rfl (qaR rfl rfl).2 ?_)
  refine b_T rfl rfl rfl rfl rfl (qai rfl (qaf rfl rfl b_gtr) ?_)
  refine bv rfl (qan rfl rfl rfl) (mv rfl rfl ?_)
  by_cases hg36 : 8 < p2
  ·have h := ifT hg36 h
   refine b_F rfl rfl rfl rfl rfl (decide_eq_true hg36) ?_
   refine b_F rfl rfl rfl rfl rfl rfl ?_
   refine bv rfl (qak rfl rfl rfl) (mv rfl rfl ?_)
   iterate 2 refine b_F rfl rfl rfl rfl rfl rfl ?_
   refine bv rfl (qak rfl rfl rfl) ?_
   refine qah (hK _ ?_)
   exact to_L ⟨true, (), h, rfl⟩
  have h := ifF hg36 h
  refine b_T rfl rfl rfl rfl (decide_eq_false hg36) (qai rfl (qab ty3 rfl (qam rfl rfl)) ?_)
  refine b_T rfl rfl rfl rfl rfl (qai rfl (qaf rfl rfl b_lss) ?_)
  refine bv rfl (qan rfl rfl rfl) (mv rfl rfl ?_)
  by_cases hg35 : p3 < 1
  ·have h := ifT hg35 h
   refine b_F rfl rfl rfl rfl rfl (decide_eq_true hg35) ?_
   refine b_F rfl rfl rfl rfl rfl rfl ?_
   refine bv rfl (qak rfl rfl rfl) ?_
   refine qah (hK _ ?_)
   exact to_L ⟨true, (), h, rfl⟩
  have h := ifF hg35 h
  refine b_T rfl rfl rfl rfl (decide_eq_false hg35) (qai rfl (qab ty3 rfl (qam rfl rfl)) ?_)
  refine b_T rfl rfl rfl rfl rfl (qai rfl (qaf rfl rfl b_gtr) ?_)
  refine bv rfl (qan rfl rfl rfl) ?_
  refine qah (hK _ ?_)
  exact to_L ⟨decide (256 < p3), (), h, rfl⟩
 refine AW.rg rfl fun K hK => mv rfl rfl (bv rfl (qaf rfl rfl b_neq) (mv rfl rfl ?_))
 by_cases hg42 : x5.2 ≠ 0
 ·have h := ifT hg42 h
  refine b_F rfl rfl rfl rfl rfl (decide_eq_true hg42) ?_
  refine b_F rfl rfl rfl rfl rfl rfl ?_
  refine bv rfl (qak rfl rfl rfl) (mv rfl rfl ?_)
  iterate 2 refine b_F rfl rfl rfl rfl rfl rfl ?_
  refine bv rfl (qak rfl rfl rfl) (mv rfl rfl ?_)
  iterate 2 refine b_F rfl rfl rfl rfl rfl rfl ?_
  refine bv rfl (qak rfl rfl rfl) ?_
  refine qah (hK _ ?_)
  exact to_L ⟨true, (), h, rfl⟩
 have h := ifF hg42 h
 refine b_T rfl rfl rfl rfl (decide_eq_false hg42) (qai rfl (qaR rfl rfl).2 ?_)
 refine b_T rfl rfl rfl rfl rfl (qai rfl (qaf rfl rfl b_neq) ?_)
 refine bv rfl (qan rfl rfl rfl) (mv rfl rfl ?_)
 by_cases hg41 : x7.2 ≠ 0
 ·have h := ifT hg41 h
  refine b_F rfl rfl rfl rfl rfl (decide_eq_true hg41) ?_
  refine b_F rfl rfl rfl rfl rfl rfl ?_
  refine bv rfl (qak rfl rfl rfl) (mv rfl rfl ?_)
  iterate 2 refine b_F rfl rfl rfl rfl rfl rfl ?_
  refine bv rfl (qak rfl rfl rfl) ?_
  refine qah (hK _ ?_)
  exact to_L ⟨true, (), h, rfl⟩
 have h := ifF hg41 h
 refine b_T rfl rfl rfl rfl (decide_eq_false hg41) (qai rfl (qaR rfl rfl).2 ?_)
 refine b_T rfl rfl rfl rfl rfl (qai rfl (v_not rfl) ?_)
 refine bv rfl (qan rfl rfl rfl) (mv rfl rfl ?_)
 by_cases hg40 : (!x5.1) = true
 ·have h := ifT hg40 h
  refine b_F rfl rfl rfl rfl rfl hg40 ?_
  refine b_F rfl rfl rfl rfl rfl rfl ?_
  refine bv rfl (qak rfl rfl rfl) ?_
  refine qah (hK _ ?_)
  exact to_L ⟨true, (), h, rfl⟩
 have h := ifF hg40 h
 refine b_T rfl rfl rfl rfl (bF hg40) (qai rfl (qaR rfl rfl).2 ?_)
 refine b_T rfl rfl rfl rfl rfl (qai rfl (v_not rfl) ?_)
 refine bv rfl (qan rfl rfl rfl) ?_
 refine qah (hK _ ?_)
 exact to_L ⟨!x7.1, (), h, rfl⟩
theorem w_cmp_isNaN_string {p0 : List UInt8} {r : Bool} (h : m_cmp_isNaN_string p0 = some r) : Pure Tryz.prog 155 [.str p0] (· = HV.bool r) := by
 unfold m_cmp_isNaN_string at h
 refine Pure.of_body Tryz.func155 rfl rfl (lb rfl) fun hf => ?_
 unfold Tryz.f155
 dsimp only [qaG, Nat.reduceAdd]
 refine AW.rgs rfl fun K hK => mv rfl rfl ?_
 refine bf hK ⟨[(0, .str p0)], []⟩ ?_
 refine AW.rgs rfl fun K hK => mv rfl rfl (mv rfl rfl (bv rfl (qaf rfl rfl b_sneq) (mv rfl rfl ?_)))
 refine bf hK ⟨[(2, .bool (decide (p0 ≠ p0)))], []⟩ ?_
 obtain rfl := oi h
 exact AW.ret (qac (.inr rfl) (resT rfl rfl) rfl trivial)
theorem w_cmp_Less_string {p0 : List UInt8} {p1 : List UInt8} {r : Bool} (h : m_cmp_Less_string p0 p1 = some r) : Pure Tryz.prog 104 [.str p0, .str p1] (· = HV.bool r) := by
 unfold m_cmp_Less_string at h
 refine Pure.of_body Tryz.func104 rfl rfl (lb rfl) fun hf => ?_
 unfold Tryz.f104
 dsimp only [qaG, Nat.reduceAdd]
 refine AW.rgs rfl fun K hK => mv rfl rfl ?_
 refine bf hK ⟨[(0, .str p0), (1, .str p1)], []⟩ ?_
 refine AW.seqJ h (S := Bool) (V := Unit) (fun a v => ⟨[(4, .bool a)], []⟩) (fun a1 w2 h => ?_) (fun k3 h => ?_)
 ·obtain rfl := oi h
  exact AW.ret (qac (.inr rfl) (resT rfl rfl) rfl trivial)
 refine AW.rg rfl fun K hK => mv rfl rfl ?_
 obtain ⟨x4, h5, h⟩ := bS h
 refine b_op rfl (qay rfl rfl rfl rfl (ACallD.pure0 (w_cmp_isNaN_string h5)) ?_)
 refine mv rfl rfl ?_
 by_cases hg9 : x4 = true
 ·have h := ifT hg9 h
  refine b_T rfl rfl rfl rfl hg9 (qai rfl (qaR rfl rfl).2 ?_)
  obtain ⟨x6, h7, h⟩ := bS h
  refine b_T rfl rfl rfl rfl rfl (qay rfl rfl rfl rfl (ACallD.pure0 (w_cmp_isNaN_string h7)) ?_)
  refine b_T rfl rfl rfl rfl rfl (qai rfl (v_not rfl) ?_)
  refine bv rfl (qak rfl rfl rfl) (mv rfl rfl ?_)
  by_cases hg8 : (!x6) = true
  ·have h := ifT hg8 h
   refine b_F rfl rfl rfl rfl rfl hg8 ?_
   iterate 2 refine b_F rfl rfl rfl rfl rfl rfl ?_
   refine bv rfl (qak rfl rfl rfl) (mv rfl rfl ?_)
   refine qah (hK _ ?_)
   exact to_L ⟨true, (), h, rfl⟩
  have h := ifF hg8 h
  refine b_T rfl rfl rfl rfl (bF hg8) (qai rfl (qaR rfl rfl).2 ?_)
  refine b_T rfl rfl rfl rfl rfl (qai rfl (qaR rfl rfl).2 ?_)
  refine b_T rfl rfl rfl rfl rfl (qai rfl (qaf rfl rfl b_slss) ?_)
  refine bv rfl (qan rfl rfl rfl) (mv rfl rfl ?_)
  refine qah (hK _ ?_)
  exact to_L ⟨Op.bytesLess p0 p1, (), h, rfl⟩
 have h := ifF hg9 h
 refine b_F rfl rfl rfl rfl rfl (bF hg9) ?_
 iterate 2 refine b_F rfl rfl rfl rfl rfl rfl ?_
 refine bv rfl (qan rfl rfl rfl) (mv rfl rfl ?_)
 iterate 2 refine b_T rfl rfl rfl rfl rfl (qai rfl (qaR rfl rfl).2 ?_)
 refine b_T rfl rfl rfl rfl rfl (qai rfl (qaf rfl rfl b_slss) ?_)
 refine bv rfl (qan rfl rfl rfl) (mv rfl rfl ?_)
 refine qah (hK _ ?_)
 exact to_L ⟨Op.bytesLess p0 p1, (), h, rfl⟩
theorem w_slices_IsSorted_Lstring_string {p0 : List (List UInt8)} {r : Bool} (h : qaF p0 = some r) : Pure Tryz.prog 49 [slE eStr p0] (· = HV.bool r) := by
 unfold qaF at h
 refine Pure.of_body Tryz.func49 rfl rfl (lb rfl) fun hf => ?_
 unfold Tryz.f49
 dsimp only [qaG, Nat.reduceAdd]
 refine AW.rgs rfl fun K hK => mv rfl rfl ?_
 refine bf hK ⟨[(0, slE eStr p0)], []⟩ ?_
 refine AW.seq ?_
 refine AW.rgs rfl fun K hK => mv rfl rfl (bv rfl (qaI rfl rfl ty22 rfl) (bv rfl (qaf rfl rfl b_sub) (mv rfl rfl ?_)))
 refine bf hK ⟨[(0, slE eStr p0), (3, hI (IntKind.wrap .i64 (((p0).length : Int) - 1)))], []⟩ ?_
 refine AW.lpR h (by first | exact qa5 | exact up_to) (S := Int) (V := Unit) (fun a v => ⟨[(0, slE eStr p0), (3, hI a)], []⟩) ?_ (X := Unit) (W := Unit) (fun a v => ⟨[], []⟩) (fun a11 w12 h => ?_) (fun a1 w2 st3 h hr4=> ?_)
 ·exact to_L ⟨(), rfl⟩
 ·refine AW.rgs rfl fun K hK => mv rfl rfl ?_
  refine bf hK ⟨[(2, .bool true)], []⟩ ?_
  obtain rfl := oi h
  exact AW.ret (qac (.inr rfl) (resT rfl rfl) rfl trivial)
 refine AW.seq ?_
 refine AW.rgs rfl fun K hK => mv rfl rfl (bv rfl (qaf rfl rfl b_gtr) ?_)
 refine bf hK ⟨[(0, slE eStr p0), (3, hI a1), (8, .bool (decide (0 < a1)))], []⟩ ?_
 refine AW.cond rfl (fun hc => ?_) (fun hc => ?_)
 ·obtain ⟨hc, h⟩ := cT hc h
  refine AW.skip ?_
  refine AW.seq (AW.block ?_)
  refine AW.dgs 10 follows rfl rfl fun K hK => ?_
  iterate 2 refine sm rfl rfl ?_
  obtain ⟨x5, h6, h⟩ := bS h
  refine sv rfl (qaW ty22 es22 rfl rfl (qaO h6)) ?_
  refine sv rfl (qab ty9 rfl (qaZ eStr h6 (o := 0) rfl rfl)) ?_
  iterate 2 refine sm rfl rfl ?_
  refine sv rfl (qaf rfl rfl b_sub) ?_
  obtain ⟨x7, h8, h⟩ := bS h
  refine sv rfl (qaW ty22 es22 rfl rfl (qaO h8)) ?_
  refine sv rfl (qab ty9 rfl (qaZ eStr h8 (o := 0) rfl rfl)) ?_
  obtain ⟨x9, h10, h⟩ := bS h
  refine s_op rfl rfl (qaS rfl rfl rfl rfl (ACallD.pure0 (w_cmp_Less_string h10)) ?_)
  refine s_nil ?_
  refine bf hK ⟨[(0, slE eStr p0), (3, hI a1), (20, .bool x9)], []⟩ ?_
  refine AW.cond rfl (fun hc => ?_) (fun hc => ?_)
  ·have h := ifT hc h
   refine AW.rgs rfl fun K hK => mv rfl rfl ?_
   refine bf hK ⟨[(2, .bool false)], []⟩ ?_
   have h := hr4 _ h
   obtain rfl := oi h
   exact AW.ret (qac (.inr rfl) (resT rfl rfl) rfl trivial)
  have h := ifF (bF' hc) h
  refine AW.skip ?_
  refine AW.rg rfl fun K hK => mv rfl rfl (bv rfl (qaf rfl rfl b_sub) (mv rfl rfl ?_))
  refine qah (hK _ ?_)
  exact to_L ⟨IntKind.wrap .i64 (a1 - 1), (), h, rfl⟩
 obtain ⟨hc, h⟩ := cF hc h
 refine AW.exit ?_
 exact to_L ⟨(), (), h, rfl⟩
theorem w_slices_Equal_Lstring_string {p0 : List (List UInt8)} {p1 : List (List UInt8)} {r : Bool} (h : qaP p0 p1 = some r) : Pure Tryz.prog 50 [slE eStr p0, slE eStr p1] (· = HV.bool r) := by
 unfold qaP at h
 refine Pure.of_body Tryz.func50 rfl rfl (lb rfl) fun hf => ?_
 unfold Tryz.f50
 dsimp only [qaG, Nat.reduceAdd]
 refine AW.rgs rfl fun K hK => mv rfl rfl ?_
 let P5 : ASf := fun t H => ⟨(0, slE eStr p0) :: (1, slE eStr p1) :: t, H⟩
 refine bf hK (P5 [] []) ?_
 refine AW.seq ?_
 refine AW.rgs rfl fun K hK => mv rfl rfl (bv rfl (qaI rfl rfl ty22 rfl) (mv rfl rfl (bv rfl (qaI rfl rfl ty22 rfl) (bv rfl (qaf rfl rfl b_neq) ?_))))
 refine bf hK (P5 [(10, .bool (decide (((p0).length : Int) ≠ ((p1).length : Int))))] []) ?_
 refine AW.cond rfl (fun hc => ?_) (fun hc => ?_)
 ·obtain ⟨hc, h⟩ := cT hc h
  refine AW.rgs rfl fun K hK => mv rfl rfl ?_
  refine bf hK ⟨[(4, .bool false)], []⟩ ?_
  obtain rfl := oi h
  exact AW.ret (qac (.inr rfl) (resT rfl rfl) rfl trivial)
 obtain ⟨hc, h⟩ := cF hc h
 refine AW.skip ?_
 refine AW.seq ?_
 refine AW.rgs rfl fun K hK => mv rfl rfl (bv rfl (qaI rfl rfl ty22 rfl) (mv rfl rfl ?_))
 let E7 : Nat × HV := (12, hI ((p0).length : Int))
 refine bf hK (P5 [E7, (13, hI 0)] []) ?_
 refine AW.lpR h (by first | exact qa5 | exact up_to) (S := Int) (V := Unit) (fun a v => (P5 [E7, (13, hI a)] [])) ?_ (X := Unit) (W := Unit) (fun a v => ⟨[], []⟩) (fun a9 w10 h => ?_) (fun a1 w2 st3 h hr4=> ?_)
 ·exact to_L ⟨(), rfl⟩
 ·refine AW.rgs rfl fun K hK => mv rfl rfl ?_
  refine bf hK ⟨[(4, .bool true)], []⟩ ?_
  obtain rfl := oi h
  exact AW.ret (qac (.inr rfl) (resT rfl rfl) rfl trivial)
 refine AW.rgs rfl fun K hK => bv rfl (qaf rfl rfl b_lss) ?_
 refine bf hK (P5 [E7, (13, hI a1), (14, .bool (decide (a1 < ((p0).length : Int))))] []) ?_
 refine AW.cseq rfl (fun hc => ?_) (fun hc => ?_)
 ·obtain ⟨hc, h⟩ := cT hc h
  refine AW.skip ?_
  refine AW.seq (AW.block ?_)
  refine AW.rgs rfl fun K hK => mv rfl rfl (mv rfl rfl ?_)
  refine bf hK (P5 [(5, hI a1), E7, (13, hI a1)] []) ?_
  refine AW.dgs 9 follows rfl rfl fun K hK => ?_
  iterate 2 refine sm rfl rfl ?_
  obtain ⟨x5, h6, h⟩ := bS h
  refine sv rfl (qaW ty22 es22 rfl rfl (qaO h6)) ?_
  refine sv rfl (qab ty9 rfl (qaZ eStr h6 (o := 0) rfl rfl)) ?_
  iterate 2 refine sm rfl rfl ?_
  obtain ⟨x7, h8, h⟩ := bS h
  refine sv rfl (qaW ty22 es22 rfl rfl (qaO h8)) ?_
  refine sv rfl (qab ty9 rfl (qaZ eStr h8 (o := 0) rfl rfl)) ?_
  refine sv rfl (qaf rfl rfl b_sneq) ?_
  refine s_nil ?_
  refine bf hK (P5 [E7, (13, hI a1), (24, .bool (decide (x5 ≠ x7)))] []) ?_
  refine AW.cond rfl (fun hc => ?_) (fun hc => ?_)
  ·obtain ⟨hc, h⟩ := cT hc h
   refine AW.rgs rfl fun K hK => mv rfl rfl ?_
   refine bf hK ⟨[(4, .bool false)], []⟩ ?_
   have h := hr4 _ h
   obtain rfl := oi h
   exact AW.ret (qac (.inr rfl) (resT rfl rfl) rfl trivial)
  obtain ⟨hc, h⟩ := cF hc h
  refine AW.skip ?_
  refine AW.rg rfl fun K hK => bv rfl (qaf rfl rfl b_add) (mv rfl rfl ?_)
  refine qah (hK _ ?_)
  exact to_L ⟨IntKind.wrap .i64 (a1 + 1), (), h, rfl⟩
 obtain ⟨hc, h⟩ := cF hc h
 refine AW.exit ?_
 exact to_L ⟨(), (), h, rfl⟩
theorem w_law31_MergingBuilt {p0 : qaa} {p1 : Int} {p2 : Int} {p3 : Int} {r : Bool} (h : m_law31_MergingBuilt p0 p1 p2 p3 = some r) : Pure Tryz.prog 11 [gA p0, .int .u8 p1, .int .u8 p2, .int .u8 p3] (· = HV.bool r) := by
 unfold m_law31_MergingBuilt at h
 refine Pure.of_body Tryz.func11 rfl rfl (lb rfl) fun hf => ?_
 unfold Tryz.f11
 dsimp only [qaG, Nat.reduceAdd]
 refine AW.rgs rfl fun K hK => b_op rfl (o_box rfl rfl rfl ?_)
 refine mv rfl rfl ?_
 let P1 : ASf := fun t H => ⟨(1, .int .u8 p1) :: (2, .int .u8 p2) :: (3, .int .u8 p3) :: (4, gF p0) :: t, H⟩
 refine bf hK (P1 [] []) ?_
 refine AW.seq ?_
 refine AW.rgs rfl fun K hK => bv rfl (qab ty27 rfl (qaz rfl (lb rfl) rfl)) ?_
 obtain ⟨x1, h2, h⟩ := bS h
 refine b_op rfl (qay rfl rfl rfl rfl (ACallD.pure0 (w_ref11_Great h2)) ?_)
 refine bf hK (P1 [(17, .bool x1)] []) ?_
 refine AW.cond rfl (fun hc => ?_) (fun hc => ?_)
 ·have h := ifT hc h
  refine AW.rgs rfl fun K hK => ?_
  obtain ⟨x3, h4, h⟩ := bS h
  refine b_op rfl (qay rfl rfl rfl rfl (ACallD.pure0 (w_law31_awake h4)) ?_)
  refine mv rfl rfl ?_
  refine bf hK ⟨[(8, .bool x3)], []⟩ ?_
  obtain rfl := oi h
  exact AW.ret (qac (.inr rfl) (resT rfl rfl) rfl trivial)
 have h := ifF (bF' hc) h
 refine AW.skip ?_
 refine AW.rgs rfl fun K hK => mv rfl rfl (bv rfl (v_convI ty5 ty3 rfl) (bv rfl (qaf rfl rfl (b_rem (by decide))) (bv rfl (qaf rfl rfl b_add) (mv rfl rfl (bv rfl (v_convI ty5 ty3 rfl) ?_)))))
 refine bv rfl (qaf rfl rfl (b_rem (by decide))) (mv rfl rfl (bv rfl (v_convI ty5 ty3 rfl) (bv rfl (qaf rfl rfl (b_rem (by decide))) (bv rfl (qaf rfl rfl b_add) (mv rfl rfl ?_)))))
 refine mv rfl rfl (mv rfl rfl ?_)
 let E1 : Nat × HV := (9, hI (IntKind.wrap .i64 ((Int.tmod (IntKind.wrap .i64 p1) 6) + 1)))
 let E2 : Nat × HV := (10, hI (Int.tmod (IntKind.wrap .i64 p2) 4))
 let E3 : Nat × HV := (11, hI (IntKind.wrap .i64 ((Int.tmod (IntKind.wrap .i64 p3) 8) + 1)))
 let P2 : ASf := fun t H => ⟨(4, gF p0) :: E1 :: E2 :: E3 :: t, H⟩
 refine bf hK (P2 [] []) ?_
 refine AW.rgs rfl fun K hK => bv rfl (qab ty27 rfl (qaz rfl (lb rfl) rfl)) (mv rfl rfl (mv rfl rfl (mv rfl rfl ?_)))
 obtain ⟨x5, h6, h⟩ := bS h
 refine b_op rfl (qay rfl rfl rfl rfl (ACallD.pure0 (w_merging_Build h6)) ?_)
 refine mv rfl rfl (bv rfl (qat rfl rfl) (bv rfl (qat rfl rfl) ?_))
 refine b_op rfl (qbj (fid := 11) (zs := [.v (.slice none 0 0), .v (.slice none 0 0)]) 11012 rfl rfl ty24 rfl (fun v7 => ?_))
 refine b_op rfl (qaH (cs := [slE eStr x5.1.1, slE eStr x5.1.2]) (zs := [slE eStr x5.1.1, slE eStr x5.1.2]) rfl rfl rfl ty24 rfl rfl rfl rfl rfl ?_)
 refine mv rfl rfl ?_
 let O4 : Nat × Nat × AObj := (11012, v7, .arr 2 24 [slE eStr x5.1.1, slE eStr x5.1.2])
 refine bf hK (P2 [(12, .ptr 11012 v7 0), (13, hI x5.2)] [O4]) ?_
 refine AW.seq ?_
 refine AW.rgs rfl fun K hK => mv rfl rfl (bv rfl (qaf rfl rfl b_neq) ?_)
 refine bf hK (P2 [(12, .ptr 11012 v7 0), (39, .bool (decide (x5.2 ≠ 0)))] [O4]) ?_
 refine AW.cond rfl (fun hc => ?_) (fun hc => ?_)
 ·obtain ⟨hc, h⟩ := cT hc h
  refine AW.seqJ h (S := Bool) (V := Unit) (fun a v => ⟨[(8, .bool a)], []⟩) (fun a8 w9 h => ?_) (fun k10 h => ?_)
  ·obtain rfl := oi h
   exact AW.ret (qac (.inr rfl) (resT rfl rfl) rfl trivial)
  refine AW.rg rfl fun K hK => bv rfl (qar fo24_0 rfl rfl) (bv rfl (qas ty22 rfl rfl (qam rfl rfl)) (bv rfl (qaI rfl rfl ty22 rfl) (bv rfl (qar fo24_1 rfl rfl) (bv rfl (qas ty22 rfl rfl (qam rfl rfl)) (bv rfl (qaI rfl rfl ty22 rfl) ?_)))))
  refine bv rfl (qaf rfl rfl b_add) (bv rfl (qaf rfl rfl b_eql) (mv rfl rfl ?_))
  by_cases hg13 : (IntKind.wrap .i64 (((x5.1.1).length : Int) + ((x5.1.2).length : Int))) = 0
  ·have h := ifT hg13 h
   obtain ⟨x11, h12, h⟩ := bS h
   refine b_T rfl rfl rfl rfl (decide_eq_true hg13) (qay rfl rfl rfl rfl (ACallD.pure0 (w_law31_awake h12)) ?_)
   refine bv rfl (qak rfl rfl rfl) (mv rfl rfl ?_)
   refine qah (hK _ ?_)
   exact to_L ⟨x11, (), h, rfl⟩
  have h := ifF hg13 h
  refine b_F rfl rfl rfl rfl rfl (decide_eq_false hg13) ?_
  refine bv rfl (qan rfl rfl rfl) (mv rfl rfl ?_)
  refine qah (hK _ ?_)
  exact to_L ⟨false, (), h, rfl⟩
 obtain ⟨hc, h⟩ := cF hc h
 refine AW.skip ?_
 refine AW.seq ?_
 refine AW.seqJ h (S := Bool) (V := Unit) (fun a v => (P2 [(12, .ptr 11012 v7 0), (90, .bool a)] [O4])) (fun a14 w15 h => ?_) (fun k16 h => ?_)
 ·refine AW.cond rfl (fun hc => ?_) (fun hc => ?_)
  ·have h := ifT hc h
   refine AW.rgs rfl fun K hK => mv rfl rfl ?_
   refine bf hK ⟨[(8, .bool false)], []⟩ ?_
   obtain rfl := oi h
   exact AW.ret (qac (.inr rfl) (resT rfl rfl) rfl trivial)
  have h := ifF (bF' hc) h
  refine AW.skip ?_
  refine AW.seq ?_
  refine AW.rgs rfl fun K hK => mv rfl rfl (bv rfl (qaf rfl rfl b_eql) ?_)
  refine bf hK (P2 [(12, .ptr 11012 v7 0), (92, .bool (decide ((IntKind.wrap .i64 ((Int.tmod (IntKind.wrap .i64 p3) 8) + 1)) = 1)))] [O4]) ?_
  refine AW.cond rfl (fun hc => ?_) (fun hc => ?_)
  ·obtain ⟨hc, h⟩ := cT hc h
   refine AW.rgs rfl fun K hK => ?_
   obtain ⟨x17, h18, h⟩ := bS h
   refine b_op rfl (qay rfl rfl rfl rfl (ACallD.pure0 (w_law31_awake h18)) ?_)
   refine mv rfl rfl ?_
   refine bf hK ⟨[(8, .bool x17)], []⟩ ?_
   obtain rfl := oi h
   exact AW.ret (qac (.inr rfl) (resT rfl rfl) rfl trivial)
  obtain ⟨hc, h⟩ := cF hc h
  refine AW.skip ?_
  refine AW.rgs rfl fun K hK => bv rfl (qab ty27 rfl (qaz rfl (lb rfl) rfl)) (mv rfl rfl (mv rfl rfl (mv rfl rfl (bv rfl (qaf rfl rfl b_sub) ?_))))
  obtain ⟨x19, h20, h⟩ := bS h
  refine b_op rfl (qay rfl rfl rfl rfl (ACallD.pure0 (w_merging_Build h20)) ?_)
  refine mv rfl rfl (bv rfl (qat rfl rfl) (bv rfl (qat rfl rfl) ?_))
  refine b_op rfl (qbj (fid := 11) (zs := [.v (.slice none 0 0), .v (.slice none 0 0)]) 11014 rfl rfl ty24 rfl (fun v21 => ?_))
  refine b_op rfl (qaH (cs := [slE eStr x19.1.1, slE eStr x19.1.2]) (zs := [slE eStr x19.1.1, slE eStr x19.1.2]) rfl rfl rfl ty24 rfl rfl rfl rfl rfl ?_)
  refine mv rfl rfl ?_
  refine bf hK ⟨[E3, (12, .ptr 11012 v7 0), (14, .ptr 11014 v21 0), (15, hI x19.2)], [O4, (11014, v21, .arr 2 24 [slE eStr x19.1.1, slE eStr x19.1.2])]⟩ ?_
  refine AW.seqJ h (S := Bool) (V := Unit) (fun a v => ⟨[(8, .bool a)], []⟩) (fun a22 w23 h => ?_) (fun k24 h => ?_)
  ·obtain rfl := oi h
   exact AW.ret (qac (.inr rfl) (resT rfl rfl) rfl trivial)
  refine AW.dg 23 follows rfl rfl fun K hK => ?_
  refine sm rfl rfl ?_
  refine sv rfl (qaf rfl rfl b_eql) ?_
  refine sm rfl rfl ?_
  by_cases hg34 : x19.2 = 0
  ·have h := ifT hg34 h
   refine s_T rfl rfl rfl rfl rfl (decide_eq_true hg34) (qaM rfl (qar fo24_0 rfl rfl) ?_)
   refine s_T rfl rfl rfl rfl rfl rfl (qaM rfl (qas ty22 rfl rfl (qam rfl rfl)) ?_)
   refine s_T rfl rfl rfl rfl rfl rfl (qaM rfl (qar fo24_0 rfl rfl) ?_)
   refine s_T rfl rfl rfl rfl rfl rfl (qaM rfl (qas ty22 rfl rfl (qam rfl rfl)) ?_)
   refine s_T rfl rfl rfl rfl rfl rfl (qaM rfl (qaR rfl rfl).2 ?_)
   refine s_T rfl rfl rfl rfl rfl rfl (qaM rfl (qaf rfl rfl b_sub) ?_)
   obtain ⟨h25, h⟩ := ifN h
   refine s_T rfl rfl rfl rfl rfl rfl (qaM rfl (v_sliceF eStr ty22 es22 rfl rfl rfl h25) ?_)
   obtain ⟨x26, h27, h⟩ := bS h
   refine s_T rfl rfl rfl rfl rfl rfl (qaS rfl rfl rfl rfl (ACallD.pure0 (w_slices_Equal_Lstring_string h27)) ?_)
   refine sv rfl (qak rfl rfl rfl) ?_
   refine sm rfl rfl ?_
   by_cases hg33 : x26 = true
   ·have h := ifT hg33 h
    refine s_T rfl rfl rfl rfl rfl hg33 (qaM rfl (qar fo24_1 rfl rfl) ?_)
    refine s_T rfl rfl rfl rfl rfl rfl (qaM rfl (qas ty22 rfl rfl (qam rfl rfl)) ?_)
    refine s_T rfl rfl rfl rfl rfl rfl (qaM rfl (qar fo24_1 rfl rfl) ?_)
    refine s_T rfl rfl rfl rfl rfl rfl (qaM rfl (qas ty22 rfl rfl (qam rfl rfl)) ?_)
    obtain ⟨x28, h29, h⟩ := bS h
    refine s_T rfl rfl rfl rfl rfl rfl (qaS rfl rfl rfl rfl (ACallD.pure0 (w_slices_Equal_Lstring_string h29)) ?_)
    refine sv rfl (qak rfl rfl rfl) ?_
    refine sm rfl rfl ?_
    by_cases hg32 : x28 = true
    ·have h := ifT hg32 h
     obtain ⟨x30, h31, h⟩ := bS h
     refine s_T rfl rfl rfl rfl rfl hg32 (qaS rfl rfl rfl rfl (ACallD.pure0 (w_law31_awake h31)) ?_)
     refine sv rfl (qak rfl rfl rfl) ?_
     refine sm rfl rfl ?_
     refine s_nil ?_
     refine qah (hK _ ?_)
     exact to_L ⟨x30, (), h, rfl⟩
    have h := ifF hg32 h
    refine s_F rfl rfl rfl rfl rfl (bF hg32) ?_
    refine sv rfl (qan rfl rfl rfl) ?_
    refine sm rfl rfl ?_
    refine s_nil ?_
    refine qah (hK _ ?_)
    exact to_L ⟨false, (), h, rfl⟩
   have h := ifF hg33 h
   refine s_F rfl rfl rfl rfl rfl (bF hg33) ?_
   iterate 4 refine s_F rfl rfl rfl rfl rfl rfl ?_
   refine sv rfl (qan rfl rfl rfl) ?_
   refine sm rfl rfl ?_
   refine s_F rfl rfl rfl rfl rfl rfl ?_
   refine sv rfl (qan rfl rfl rfl) ?_
   refine sm rfl rfl ?_
   refine s_nil ?_
   refine qah (hK _ ?_)
   exact to_L ⟨false, (), h, rfl⟩
  have h := ifF hg34 h
  refine s_F rfl rfl rfl rfl rfl (decide_eq_false hg34) ?_
  iterate 7 refine s_F rfl rfl rfl rfl rfl rfl ?_
  refine sv rfl (qan rfl rfl rfl) ?_
  refine sm rfl rfl ?_
  iterate 5 refine s_F rfl rfl rfl rfl rfl rfl ?_
  refine sv rfl (qan rfl rfl rfl) ?_
  refine sm rfl rfl ?_
  refine s_F rfl rfl rfl rfl rfl rfl ?_
  refine sv rfl (qan rfl rfl rfl) ?_
  refine sm rfl rfl ?_
  refine s_nil ?_
  refine qah (hK _ ?_)
  exact to_L ⟨false, (), h, rfl⟩
 refine AW.dg 40 follows rfl rfl fun K hK => ?_
 refine sv rfl (qas ty24 rfl rfl (qaz rfl (lb rfl) rfl)) ?_
 refine sv rfl (qab ty27 rfl (qaz rfl (lb rfl) rfl)) ?_
 obtain ⟨x35, h36, h⟩ := bS h
 refine s_op rfl rfl (qaS rfl rfl rfl rfl (ACallD.pure0 (w_merging_Check h36)) ?_)
 refine sv rfl (qaf rfl rfl b_neq) ?_
 refine sm rfl rfl ?_
 by_cases hg48 : x35 ≠ 0
 ·have h := ifT hg48 h
  refine s_F rfl rfl rfl rfl rfl (decide_eq_true hg48) ?_
  iterate 4 refine s_F rfl rfl rfl rfl rfl rfl ?_
  refine sv rfl (qak rfl rfl rfl) ?_
  refine sm rfl rfl ?_
  iterate 6 refine s_F rfl rfl rfl rfl rfl rfl ?_
  refine sv rfl (qak rfl rfl rfl) ?_
  refine sm rfl rfl ?_
  iterate 4 refine s_F rfl rfl rfl rfl rfl rfl ?_
  refine sv rfl (qak rfl rfl rfl) ?_
  refine sm rfl rfl ?_
  iterate 4 refine s_F rfl rfl rfl rfl rfl rfl ?_
  refine sv rfl (qak rfl rfl rfl) ?_
  refine sm rfl rfl ?_
  iterate 7 refine s_F rfl rfl rfl rfl rfl rfl ?_
  refine sv rfl (qak rfl rfl rfl) ?_
  refine s_nil ?_
  refine qah (hK _ ?_)
  exact to_L ⟨true, (), h, rfl⟩
 have h := ifF hg48 h
 refine s_T rfl rfl rfl rfl rfl (decide_eq_false hg48) (qaM rfl (qar fo24_0 rfl rfl) ?_)
 refine s_T rfl rfl rfl rfl rfl rfl (qaM rfl (qas ty22 rfl rfl (qam rfl rfl)) ?_)
 refine s_T rfl rfl rfl rfl rfl rfl (qaM rfl (qaI rfl rfl ty22 rfl) ?_)
 refine s_T rfl rfl rfl rfl rfl rfl (qaM rfl (qaR rfl rfl).2 ?_)
 refine s_T rfl rfl rfl rfl rfl rfl (qaM rfl (qaf rfl rfl b_neq) ?_)
 refine sv rfl (qan rfl rfl rfl) ?_
 refine sm rfl rfl ?_
 by_cases hg47 : ((x5.1.1).length : Int) ≠ (IntKind.wrap .i64 ((Int.tmod (IntKind.wrap .i64 p3) 8) + 1))
 ·have h := ifT hg47 h
  refine s_F rfl rfl rfl rfl rfl (decide_eq_true hg47) ?_
  iterate 5 refine s_F rfl rfl rfl rfl rfl rfl ?_
  refine sv rfl (qak rfl rfl rfl) ?_
  refine sm rfl rfl ?_
  iterate 4 refine s_F rfl rfl rfl rfl rfl rfl ?_
  refine sv rfl (qak rfl rfl rfl) ?_
  refine sm rfl rfl ?_
  iterate 4 refine s_F rfl rfl rfl rfl rfl rfl ?_
  refine sv rfl (qak rfl rfl rfl) ?_
  refine sm rfl rfl ?_
  iterate 7 refine s_F rfl rfl rfl rfl rfl rfl ?_
  refine sv rfl (qak rfl rfl rfl) ?_
  refine s_nil ?_
  refine qah (hK _ ?_)
  exact to_L ⟨true, (), h, rfl⟩
 have h := ifF hg47 h
 refine s_T rfl rfl rfl rfl rfl (decide_eq_false hg47) (qaM rfl (qar fo24_1 rfl rfl) ?_)
 refine s_T rfl rfl rfl rfl rfl rfl (qaM rfl (qas ty22 rfl rfl (qam rfl rfl)) ?_)
 refine s_T rfl rfl rfl rfl rfl rfl (qaM rfl (qaI rfl rfl ty22 rfl) ?_)
 refine s_T rfl rfl rfl rfl rfl rfl (qaM rfl (qaR rfl rfl).2 ?_)
 obtain ⟨h37, h⟩ := ifN h
 refine s_T rfl rfl rfl rfl rfl rfl (qaM rfl (qaf rfl rfl (b_shl h37)) ?_)
 refine s_T rfl rfl rfl rfl rfl rfl (qaM rfl (qaf rfl rfl b_neq) ?_)
 refine sv rfl (qan rfl rfl rfl) ?_
 refine sm rfl rfl ?_
 by_cases hg46 : ((x5.1.2).length : Int) ≠ (IntKind.wrap .i64 (1 * 2 ^ (min ((Int.tmod (IntKind.wrap .i64 p2) 4)).toNat (IntKind.bits .i64))))
 ·have h := ifT hg46 h
  refine s_F rfl rfl rfl rfl rfl (decide_eq_true hg46) ?_
  iterate 3 refine s_F rfl rfl rfl rfl rfl rfl ?_
  refine sv rfl (qak rfl rfl rfl) ?_
  refine sm rfl rfl ?_
  iterate 4 refine s_F rfl rfl rfl rfl rfl rfl ?_
  refine sv rfl (qak rfl rfl rfl) ?_
  refine sm rfl rfl ?_
  iterate 7 refine s_F rfl rfl rfl rfl rfl rfl ?_
  refine sv rfl (qak rfl rfl rfl) ?_
  refine s_nil ?_
  refine qah (hK _ ?_)
  exact to_L ⟨true, (), h, rfl⟩
 have h := ifF hg46 h
 refine s_T rfl rfl rfl rfl rfl (decide_eq_false hg46) (qaM rfl (qar fo24_0 rfl rfl) ?_)
 refine s_T rfl rfl rfl rfl rfl rfl (qaM rfl (qas ty22 rfl rfl (qam rfl rfl)) ?_)
 obtain ⟨x38, h39, h⟩ := bS h
 refine s_T rfl rfl rfl rfl rfl rfl (qaS rfl rfl rfl rfl (ACallD.pure0 (w_slices_IsSorted_Lstring_string h39)) ?_)
 refine s_T rfl rfl rfl rfl rfl rfl (qaM rfl (v_not rfl) ?_)
 refine sv rfl (qan rfl rfl rfl) ?_
 refine sm rfl rfl ?_
 by_cases hg45 : (!x38) = true
 ·have h := ifT hg45 h
  refine s_F rfl rfl rfl rfl rfl hg45 ?_
  iterate 3 refine s_F rfl rfl rfl rfl rfl rfl ?_
  refine sv rfl (qak rfl rfl rfl) ?_
  refine sm rfl rfl ?_
  iterate 7 refine s_F rfl rfl rfl rfl rfl rfl ?_
  refine sv rfl (qak rfl rfl rfl) ?_
  refine s_nil ?_
  refine qah (hK _ ?_)
  exact to_L ⟨true, (), h, rfl⟩
 have h := ifF hg45 h
 refine s_T rfl rfl rfl rfl rfl (bF hg45) (qaM rfl (qar fo24_1 rfl rfl) ?_)
 refine s_T rfl rfl rfl rfl rfl rfl (qaM rfl (qas ty22 rfl rfl (qam rfl rfl)) ?_)
 obtain ⟨x40, h41, h⟩ := bS h
 refine s_T rfl rfl rfl rfl rfl rfl (qaS rfl rfl rfl rfl (ACallD.pure0 (w_slices_IsSorted_Lstring_string h41)) ?_)
 refine s_T rfl rfl rfl rfl rfl rfl (qaM rfl (v_not rfl) ?_)
 refine sv rfl (qan rfl rfl rfl) ?_
 refine sm rfl rfl ?_
 by_cases hg44 : (!x40) = true
 ·have h := ifT hg44 h
  refine s_F rfl rfl rfl rfl rfl hg44 ?_
  iterate 6 refine s_F rfl rfl rfl rfl rfl rfl ?_
  refine sv rfl (qak rfl rfl rfl) ?_
  refine s_nil ?_
  refine qah (hK _ ?_)
  exact to_L ⟨true, (), h, rfl⟩
 have h := ifF hg44 h
 refine s_T rfl rfl rfl rfl rfl (bF hg44) (qaM rfl (qar fo24_0 rfl rfl) ?_)
 refine s_T rfl rfl rfl rfl rfl rfl (qaM rfl (qas ty22 rfl rfl (qam rfl rfl)) ?_)
 obtain ⟨x42, h43, h⟩ := bS h
 refine s_T rfl rfl rfl rfl rfl rfl (qaM rfl (qaW ty22 es22 rfl rfl (qaO h43)) ?_)
 refine s_T rfl rfl rfl rfl rfl rfl (qaM rfl (qab ty9 rfl (qaZ eStr h43 (o := 0) rfl rfl)) ?_)
 refine s_T rfl rfl rfl rfl rfl rfl (qaM rfl (v_lenS rfl rfl ty9 rfl) ?_)
 refine s_T rfl rfl rfl rfl rfl rfl (qaM rfl (qaR rfl rfl).2 ?_)
 refine s_T rfl rfl rfl rfl rfl rfl (qaM rfl (qaf rfl rfl b_neq) ?_)
 refine sv rfl (qan rfl rfl rfl) ?_
 refine s_nil ?_
 refine qah (hK _ ?_)
 exact to_L ⟨decide (((x42).length : Int) ≠ (IntKind.wrap .i64 ((Int.tmod (IntKind.wrap .i64 p1) 6) + 1))), (), h, rfl⟩
end Go.AW

namespace Go.AW
open Go
theorem getDx {α : Type} {l : List α} {d : α} {i : Nat} (h : i < l.length) : l.getD i d = l[i] := by rw [List.getD_eq_getElem?_getD, List.getElem?_eq_getElem h]; rfl
def twinX (E : List qaj) (i : Nat) : Bool := decide ((E.getD i (0, 0, 0)).1 = (E.getD (i + 1) (0, 0, 0)).1) && decide ((E.getD i (0, 0, 0)).2.1 = (E.getD (i + 1) (0, 0, 0)).2.1)
def detX (E : List qaj) : Bool := !(List.range (E.length - 1)).any (twinX E)
section
variable {g : Gr}
theorem DetX_eq (he : qaT g = some 0) (hv : VG g) : qbr g = some (detX g.2.2, 0) := by
 unfold qbr
 rw [Check_ref, he, Option.bind_some]
 rw [if_neg (show ¬ (0 : Int) ≠ 0 from fun h => h rfl)]
 have hel := hv.el
 refine lpL (loop_any (fun i => ((i + 1 : Nat) : Int)) (g.2.2.length - 1) (twinX g.2.2) (Ou.ret (false, 0)) (Ou.go ()) (fun i hi => ?_) (by rw [if_neg (by omega)]) rfl) ?_
 ·have hi1 : i + 1 < g.2.2.length := by omega
  have e3 : IntKind.wrap .i64 (((i + 1 : Nat) : Int) - 1) = (i : Int) := by rw [w64 (by omega) (by omega)]; omega
  simp only [jp]
  rw [if_pos (by omega), e3, ix (by omega : i < g.2.2.length), ix hi1, Option.bind_some, Option.bind_some]
  unfold twinX
  rw [getDx (show i < g.2.2.length by omega), getDx hi1, nx (by omega : g.2.2.length ≤ _) hi1]
  by_cases c1 : (g.2.2[i]'(by omega)).1 = g.2.2[i + 1].1
  ·rw [if_pos c1]
   simp [c1]
  ·rw [if_neg c1]
   simp [c1]
 ·unfold detX
  cases (List.range (g.2.2.length - 1)).any (twinX g.2.2) <;> rfl
theorem DetX_ref (he : qaT g = some 0) (hv : VG g) : m_ref09_Deterministic g = some (detX g.2.2, 0) := by
 unfold m_ref09_Deterministic
 rw [he, Option.bind_some]
 rw [if_neg (show ¬ (0 : Int) ≠ 0 from fun h => h rfl)]
 have hel := hv.el
 refine lpL (loop_any (fun i => ((i + 1 : Nat) : Int)) (g.2.2.length - 1) (twinX g.2.2) (Ou.ret (false, 0)) (Ou.go ()) (fun i hi => ?_) (by rw [if_neg (by omega)]) rfl) ?_
 ·have hi1 : i + 1 < g.2.2.length := by omega
  have e3 : IntKind.wrap .i64 (((i + 1 : Nat) : Int) - 1) = (i : Int) := by rw [w64 (by omega) (by omega)]; omega
  simp only [jp]
  rw [if_pos (by omega), e3, ix (by omega : i < g.2.2.length), ix hi1, Option.bind_some, Option.bind_some]
  unfold twinX
  rw [getDx (show i < g.2.2.length by omega), getDx hi1, nx (by omega : g.2.2.length ≤ _) hi1]
  by_cases c1 : (g.2.2[i]'(by omega)).1 = g.2.2[i + 1].1
  ·rw [if_pos c1.symm]
   by_cases c2 : (g.2.2[i]'(by omega)).2.1 = g.2.2[i + 1].2.1
   ·simp [c1, c2]
   ·have c3 : ¬ g.2.2[i + 1].2.1 = (g.2.2[i]'(by omega)).2.1 := fun h => c2 h.symm
    simp [c1, c2, c3]
  ·rw [if_neg (fun h => c1 h.symm)]
   simp [c1]
 ·unfold detX
  cases (List.range (g.2.2.length - 1)).any (twinX g.2.2) <;> rfl
theorem VG.comp (hv : VG g) : compOk g := ⟨⟨hv.s0, by have := hv.s1; omega⟩, by have := hv.el; omega, fun e he => by have := hv.ed e he; exact ⟨⟨this.1, this.2.1⟩, this.2.2.1, this.2.2.2.1⟩⟩
theorem compB_len (g : Gr) (n : Nat) : (compB g n).length ≤ n := by
 unfold compB
 rw [List.length_map]
 exact Nat.le_trans (List.length_filter_le _ _) (by simp)
def irrB (g : Gr) : Bool := decide ((compB g g.2.1.toNat).length = 1) && decide (0 < g.2.2.length)
theorem Irr_eq (he : qaT g = some 0) (hv : VG g) : qbc g = some (irrB g, 0) := by
 have hs1 := hv.s1
 have hcl := compB_len g g.2.1.toNat
 have h1 : m_component_Of g = some (compB g g.2.1.toNat, 0) := by
  unfold m_component_Of m_component_some y_component_components
  rw [Check_ref, he, Option.bind_some, if_neg (show ¬ (0 : Int) ≠ 0 from fun h => h rfl), if_pos hv.comp, Option.bind_some]
  have hf : forL (X := Unit) (fun a7 (x9 : List Int) => (qbx x9).bind fun x13 => if x13 = true then (if fits 24 ((a7 : List (List Int)).length + ([x9]).length) then some (Stp.next (a7 ++ [x9])) else none) else some (Stp.next a7)) (compB g g.2.1.toNat) ([] : List (List Int)) = some (.go (compB g g.2.1.toNat)) := by
   have key : ∀ (L a : List (List Int)), a.length + L.length ≤ 1000 → forL (X := Unit) (fun a7 (x9 : List Int) => (qbx x9).bind fun x13 => if x13 = true then (if fits 24 ((a7 : List (List Int)).length + ([x9]).length) then some (Stp.next (a7 ++ [x9])) else none) else some (Stp.next a7)) L a = some (.go (a ++ L)) := by
    intro L
    induction L with
    | nil => intro a _; rw [List.append_nil]; rfl
    | cons x L ih =>
     intro a ha
     simp only [List.length_cons] at ha
     have : (qbx x).bind (fun x13 => if x13 = true then (if fits 24 (a.length + ([x]).length) then some (Stp.next (X := Unit) (a ++ [x])) else none) else some (Stp.next a)) = some (Stp.next (a ++ [x])) := by
      unfold qbx
      rw [Option.bind_some, if_pos rfl, if_pos (fits_le (by simp only [List.length_singleton]; omega) (by simp only [List.length_singleton]; omega))]
     simp only [forL, this]
     rw [ih (a ++ [x]) (by simp only [List.length_append, List.length_singleton]; omega), List.append_assoc]
     rfl
   exact key _ [] (by simp; omega)
  rw [hf]
  rfl
 unfold qbc
 rw [h1, Option.bind_some]
 simp only [jp, if_true]
 unfold irrB
 by_cases c : (compB g g.2.1.toNat).length = 1
 ·rw [if_pos (by omega), c]
  simp
 ·rw [if_neg (by omega), decide_eq_false c, Bool.false_and]
theorem rnds_snoc (E : List qaj) : ∀ (n : Nat) (o : List Bool), rnds E (n + 1) o = rnd E (rnds E n o)
 | 0, _ => rfl
 | n + 1, o => by
  show rnds E (n + 1) (rnd E o) = rnd E (rnds E n (rnd E o))
  exact rnds_snoc E n (rnd E o)
theorem reached_eq (hv : VG g) {s : Nat} (hs : s < g.2.1.toNat) : m_ref10_reached g (s : Int) = some (rowR g s) := by
 have hs0 := hv.s0
 have hs1 := hv.s1
 have hel := hv.el
 obtain ⟨S, hS⟩ := Int.eq_ofNat_of_zero_le hs0
 have hrr : rowR g s = rnds g.2.2 S ((List.replicate S false).set s true) := by
  unfold rowR
  rw [hS, Int.toNat_natCast]
  exact reach_same (fun e he => by have := hv.ed e he; rw [hS] at this; exact ⟨⟨this.1, this.2.1⟩, this.2.2.1, this.2.2.2.1⟩) (by omega)
 have hS64 : S ≤ 64 := by omega
 have hsS : s < S := by omega
 unfold m_ref10_reached
 rw [hS]
 rw [if_pos (by omega), Int.toNat_natCast, ix (show s < (List.replicate S (false : Bool)).length by simpa using hsS), Option.bind_some, Int.toNat_natCast]
 have hlen0 : ((List.replicate S false).set s true).length = S := by simp
 refine bindL (loop_is (fun i => ((i : Int), rnds g.2.2 i ((List.replicate S false).set s true))) S (rnds g.2.2 S ((List.replicate S false).set s true)) (fun i hi => ?_) (by dsimp only; rw [if_neg (qaw _)]) rfl) (by rw [hrr])
 dsimp only
 rw [if_pos (qbt hi), nx (by omega : S ≤ _) hi]
 have hli : (rnds g.2.2 i ((List.replicate S false).set s true)).length = S := by rw [rnds_len, hlen0]
 rw [rnds_snoc]
 generalize rnds g.2.2 i ((List.replicate S false).set s true) = o at hli
 refine bindL (loop_is (fun k => ((k : Int), rnd (g.2.2.take k) o)) g.2.2.length (rnd g.2.2 o) (fun k hk => ?_) (by dsimp only; rw [if_neg (qaw _), List.take_length]) rfl) rfl
 dsimp only
 have hed := hv.ed _ (List.getElem_mem hk)
 have hlk : (rnd (g.2.2.take k) o).length = S := by rw [rnd_len, hli]
 have hrk : rnd (g.2.2.take (k + 1)) o = rndE (rnd (g.2.2.take k) o) g.2.2[k] := by
  unfold rnd
  rw [← List.take_append_getElem hk, List.foldl_append]
  rfl
 rw [if_pos (qbt hk), ix hk, nx (by omega : g.2.2.length ≤ _) hk, hrk]
 generalize rnd (g.2.2.take k) o = o2 at hlk
 generalize g.2.2[k] = x at hed
 obtain ⟨x1, x2, x3⟩ := x
 dsimp only at hed
 obtain ⟨a, rfl⟩ := Int.eq_ofNat_of_zero_le hed.1
 obtain ⟨b, rfl⟩ := Int.eq_ofNat_of_zero_le hed.2.2.1
 have ha : a < o2.length := by omega
 have hb : b < o2.length := by omega
 simp only [jp, Option.bind_some]
 rw [ix ha, ix hb]
 simp only [Option.bind_some, Int.toNat_natCast]
 unfold rndE
 dsimp only
 rw [Int.toNat_natCast, Int.toNat_natCast, getDx ha]
 split <;> rfl
end
end Go.AW
namespace Go.AW
open Go
section
variable {g : Gr}
theorem lstB_lt (g : Gr) (s n : Nat) : (lstB g s n).Pairwise (· < ·) := by
 unfold lstB
 rw [List.pairwise_map]
 refine (List.Pairwise.filter _ List.pairwise_lt_range).imp fun {a b} h => ?_
 show (a : Int) < (b : Int)
 omega
theorem lstB_mem {s n t : Nat} (ht : t < n) (h : inC g s t = true) : (t : Int) ∈ lstB g s n := List.mem_map.2 ⟨t, List.mem_filter.2 ⟨List.mem_range.2 ht, h⟩, rfl⟩
theorem mem_lstB {s n : Nat} {x : Int} (h : x ∈ lstB g s n) : ∃ t : Nat, x = (t : Int) ∧ t < n ∧ inC g s t = true := by
 obtain ⟨t, ht, rfl⟩ := List.mem_map.1 h
 obtain ⟨h1, h2⟩ := List.mem_filter.1 ht
 exact ⟨t, rfl, List.mem_range.1 h1, h2⟩
theorem head_le {l : List Int} (h : l.Pairwise (· < ·)) {x : Int} (hx : l.head? = some x) : ∀ y ∈ l, x ≤ y := by
 cases l with
 | nil => cases hx
 | cons a l =>
  cases hx
  intro y hy
  rcases List.mem_cons.1 hy with rfl | hy
  ·exact Int.le_refl _
  ·exact Int.le_of_lt ((List.pairwise_cons.1 h).1 y hy)
theorem inC_self (hv : VG g) {s : Nat} (hs : s < g.2.1.toNat) : inC g s s = true := (inC_iff hv.comp hs hs).2 ⟨.refl s, .refl s⟩
def firB (g : Gr) (s n : Nat) : Bool := (lstB g s n).all fun y => decide ((s : Int) ≤ y)
theorem firB_head (hv : VG g) {s : Nat} (hs : s < g.2.1.toNat) : firB g s g.2.1.toNat = true ↔ (lstB g s g.2.1.toNat).head? = some (s : Int) := by
 have hm := lstB_mem (g := g) hs (inC_self hv hs)
 unfold firB
 rw [List.all_eq_true]
 constructor
 ·intro h
  obtain ⟨x, hx⟩ : ∃ x, (lstB g s g.2.1.toNat).head? = some x := by
   cases hl : lstB g s g.2.1.toNat with
   | nil => rw [hl] at hm; cases hm
   | cons x l => exact ⟨x, rfl⟩
  have h1 := head_le (lstB_lt g s _) hx _ hm
  have h2 := h x (List.mem_of_head? hx)
  simp only [decide_eq_true_eq] at h2
  rw [hx, show x = (s : Int) by omega]
 ·intro h y hy
  simpa using head_le (lstB_lt g s _) h y hy
theorem firB_succ (g : Gr) (s n : Nat) : firB g s (n + 1) = if inC g s n = true then (firB g s n && decide ((s : Int) ≤ (n : Int))) else firB g s n := by
 unfold firB
 rw [lstB_succ]
 split
 ·rw [List.all_append]
  simp
 ·rfl
theorem rowsR_len (g : Gr) (n : Nat) : (rowsR g n).length = n := by unfold rowsR; rw [List.length_map, List.length_range]
theorem rowsR_ix (g : Gr) {n i : Nat} (h : i < n) : idx (rowsR g n) (i : Int) = some (rowR g i) := by
 unfold rowsR
 rw [idx_nat, List.getElem?_map, List.getElem?_range h]
 rfl
theorem rowR_ix (g : Gr) {s i : Nat} (h : i < g.2.1.toNat) : idx (rowR g s) (i : Int) = some ((rowR g s).getD i false) := by
 have hl := rowR_len g s
 rw [idx_nat, List.getD_eq_getElem?_getD, List.getElem?_eq_getElem (by omega)]
 rfl
theorem Of_ref (he : qaT g = some 0) (hv : VG g) : m_ref10_Of g = some (compB g g.2.1.toNat, 0) := by
 have hs0 := hv.s0
 have hs1 := hv.s1
 obtain ⟨S, hS⟩ := Int.eq_ofNat_of_zero_le hs0
 have hS64 : S ≤ 64 := by omega
 have hn : g.2.1.toNat = S := by omega
 unfold m_ref10_Of
 rw [he, Option.bind_some, if_neg (show ¬ (0 : Int) ≠ 0 from fun h => h rfl), hn]
 simp only [hS]
 refine bindL (loop_is (fun i => ((i : Int), rowsR g i)) S (rowsR g S) (fun i hi => ?_) (by dsimp only; rw [if_neg (qaw _)]) rfl) ?_
 ·dsimp only
  have hl := rowsR_len g i
  rw [if_pos (qbt hi), reached_eq hv (by omega), Option.bind_some, if_pos (fits_le (by simp only [List.length_singleton]; omega) (by simp only [List.length_singleton]; omega)), nx (by omega : S ≤ _) hi]
  have : rowsR g (i + 1) = rowsR g i ++ [rowR g i] := by unfold rowsR; rw [List.range_succ, List.map_append]; rfl
  rw [this]
 refine bindL (loop_is (fun i => ((i : Int), compB g i)) S (compB g S) (fun i hi => ?_) (by dsimp only; rw [if_neg (qaw _)]) rfl) rfl
 dsimp only
 have hcl := compB_len g i
 rw [if_pos (qbt hi)]
 simp only [jp]
 refine bindL (loop_is (fun t => (firB g i t, (t : Int), lstB g i t)) S (lstB g i S, firB g i S) (fun t ht => ?_) (by dsimp only; rw [if_neg (qaw _)]) rfl) ?_
 ·dsimp only
  have hll := lstB_len g i t
  rw [if_pos (qbt ht), rowsR_ix g hi, rowsR_ix g ht, nx (by omega : S ≤ _) ht, firB_succ, lstB_succ]
  simp only [Option.bind_some]
  rw [rowR_ix g (show t < g.2.1.toNat by omega), rowR_ix g (show i < g.2.1.toNat by omega)]
  simp only [Option.bind_some]
  have hin : inC g i t = ((rowR g i).getD t false && (rowR g t).getD i false) := rfl
  rw [hin]
  cases (rowR g i).getD t false with
  | false => simp
  | true =>
   cases (rowR g t).getD i false with
   | false => simp
   | true =>
    simp only [if_true, Bool.and_self]
    rw [if_pos (fits_le (by simp only [List.length_singleton]; omega) (by simp only [List.length_singleton]; omega))]
    cases firB g i t with
    | false => simp
    | true => simp
 ·dsimp only
  have hf := firB_head hv (show i < g.2.1.toNat by omega)
  rw [hn] at hf
  rw [compB_succ, hn, nx (by omega : S ≤ _) hi]
  by_cases c : firB g i S = true
  ·rw [if_pos c, if_pos (hf.1 c), if_pos (fits_le (by simp only [List.length_singleton]; omega) (by simp only [List.length_singleton]; omega))]
  ·rw [if_neg c, if_neg (fun h => c (hf.2 h))]
theorem has_eq10 {l : List Int} (hl : l.length ≤ 1000000) (x : Int) : m_ref10_has l x = some (decide (x ∈ l)) := by
 unfold m_ref10_has
 refine lpE (loop_anyL (fun i => (i : Int)) l (fun y => decide (y = x)) (Ou.ret true) (Ou.go ()) (fun i hi => ?_) (by rw [if_neg (qaw _)]) rfl) ?_
 ·rw [if_pos (qbt hi), ix hi, Option.bind_some, nx (by omega : l.length ≤ _) hi]
  simp
 ·by_cases h : x ∈ l
  ·rw [if_pos (List.any_eq_true.2 ⟨x, h, by simp⟩), decide_eq_true h]
   rfl
  ·rw [if_neg (fun ha => by
    obtain ⟨y, hy, he⟩ := List.any_eq_true.1 ha
    simp only [decide_eq_true_eq] at he
    subst he
    exact h hy), decide_eq_false h]
   rfl
def cycB (E : List qaj) (l : List Int) : Bool := E.any fun e => decide (e.1 ∈ l) && decide (e.2.2 ∈ l)
theorem Cyclic_ref (he : qaT g = some 0) (hv : VG g) : m_ref10_Cyclic g = some ((compB g g.2.1.toNat).filter (cycB g.2.2), 0) := by
 have hs1 := hv.s1
 have hel := hv.el
 have hcl := compB_len g g.2.1.toNat
 unfold m_ref10_Cyclic
 rw [Of_ref he hv, Option.bind_some]
 dsimp only
 have hll : ∀ l ∈ compB g g.2.1.toNat, l.length ≤ 1000000 := fun l hl => by
  unfold compB at hl
  obtain ⟨s, _, rfl⟩ := List.mem_map.1 hl
  have := lstB_len g s g.2.1.toNat
  omega
 generalize compB g g.2.1.toNat = C at hcl hll
 refine bindL (loop_is (fun i => ((i : Int), (C.take i).filter (cycB g.2.2))) C.length (C.filter (cycB g.2.2)) (fun i hi => ?_) (by dsimp only; rw [if_neg (qaw _), List.take_length]) rfl) rfl
 dsimp only
 have hm := hll _ (List.getElem_mem hi)
 have htk : C.take (i + 1) = C.take i ++ [C[i]] := (List.take_append_getElem hi).symm
 rw [if_pos (qbt hi), ix hi, nx (by omega : C.length ≤ _) hi, htk, List.filter_append]
 simp only [jp, Option.bind_some]
 have hfl : ((C.take i).filter (cycB g.2.2)).length ≤ 64 := by
  refine Nat.le_trans (List.length_filter_le _ _) ?_
  rw [List.length_take]
  omega
 generalize C[i] = l at hm
 refine bindL (loop_is (fun k => ((g.2.2.take k).any (fun e => decide (e.1 ∈ l) && decide (e.2.2 ∈ l)), (k : Int))) g.2.2.length (cycB g.2.2 l) (fun k hk => ?_) (by dsimp only; rw [if_neg (qaw _), List.take_length]; rfl) rfl) ?_
 ·dsimp only
  have htk2 : g.2.2.take (k + 1) = g.2.2.take k ++ [g.2.2[k]] := (List.take_append_getElem hk).symm
  rw [if_pos (qbt hk), ix hk, nx (by omega : g.2.2.length ≤ _) hk, htk2, List.any_append]
  simp only [Option.bind_some, has_eq10 hm]
  generalize g.2.2[k] = x
  cases (g.2.2.take k).any fun e => decide (e.1 ∈ l) && decide (e.2.2 ∈ l) with
  | true => simp
  | false =>
   by_cases c1 : x.1 ∈ l
   ·simp [c1]
   ·simp [c1]
 ·cases c : cycB g.2.2 l with
  | true =>
   rw [if_pos rfl, if_pos (fits_le (by simp only [List.length_singleton]; omega) (by simp only [List.length_singleton]; omega))]
   simp [List.filter_cons, c]
  | false =>
   rw [if_neg (by decide)]
   simp [List.filter_cons, c]
theorem sel (hv : VG g) : ∀ (n t : Nat), t ≤ n → t < g.2.1.toNat → ∃ s, s < g.2.1.toNat ∧ (lstB g s g.2.1.toNat).head? = some (s : Int) ∧ inC g s t = true := by
 intro n
 induction n with
 | zero =>
  intro t ht hts
  obtain rfl : t = 0 := by omega
  refine ⟨0, hts, (firB_head hv hts).1 ?_, inC_self hv hts⟩
  unfold firB
  rw [List.all_eq_true]
  intro y hy
  obtain ⟨t, rfl, _, _⟩ := mem_lstB hy
  simp
 | succ n ih =>
  intro t ht hts
  by_cases c : (lstB g t g.2.1.toNat).head? = some (t : Int)
  ·exact ⟨t, hts, c, inC_self hv hts⟩
  ·have hm := lstB_mem (g := g) hts (inC_self hv hts)
   obtain ⟨x, hx⟩ : ∃ x, (lstB g t g.2.1.toNat).head? = some x := by
    cases hl : lstB g t g.2.1.toNat with
    | nil => rw [hl] at hm; cases hm
    | cons x l => exact ⟨x, rfl⟩
   have h1 := head_le (lstB_lt g t _) hx _ hm
   obtain ⟨u, rfl, hu, hut⟩ := mem_lstB (List.mem_of_head? hx)
   have hne : u ≠ t := fun e => c (by rw [hx, e])
   obtain ⟨s, hs, hsh, hsu⟩ := ih u (by omega) hu
   refine ⟨s, hs, hsh, ?_⟩
   have a1 := (inC_iff hv.comp hs hu).1 hsu
   have a2 := (inC_iff hv.comp hts hu).1 hut
   exact (inC_iff hv.comp hs hts).2 ⟨a1.1.trans a2.2, a2.1.trans a1.2⟩
theorem Irr_ref (he : qaT g = some 0) (hv : VG g) : m_ref10_Irreducible g = some (irrB g, 0) := by
 have hs1 := hv.s1
 unfold m_ref10_Irreducible
 rw [Of_ref he hv, Cyclic_ref he hv]
 simp only [Option.bind_some, jp, if_true]
 unfold irrB
 by_cases c : (compB g g.2.1.toNat).length = 1
 ·rw [if_pos (by omega), decide_eq_true c, Bool.true_and]
  congr 2
  have hcyc : ∀ l, compB g g.2.1.toNat = [l] → cycB g.2.2 l = decide (0 < g.2.2.length) := by
   intro l hl
   have hall : ∀ x : Int, 0 ≤ x ∧ x < g.2.1 → x ∈ l := by
    intro x hx
    obtain ⟨t, rfl⟩ := Int.eq_ofNat_of_zero_le hx.1
    obtain ⟨s, hs, hsh, hst⟩ := sel hv t t (Nat.le_refl _) (by omega)
    have hmem : lstB g s g.2.1.toNat ∈ compB g g.2.1.toNat := by
     unfold compB
     exact List.mem_map.2 ⟨s, List.mem_filter.2 ⟨List.mem_range.2 hs, by rw [hsh]; simp⟩, rfl⟩
    rw [hl] at hmem
    rw [← List.mem_singleton.1 hmem]
    exact lstB_mem (by omega) hst
   unfold cycB
   cases hE : g.2.2 with
   | nil => rfl
   | cons e E =>
    have hed := hv.ed e (by rw [hE]; exact List.mem_cons_self ..)
    rw [List.any_cons, decide_eq_true (hall e.1 ⟨hed.1, hed.2.1⟩), decide_eq_true (hall e.2.2 ⟨hed.2.2.1, hed.2.2.2.1⟩)]
    simp
  generalize compB g g.2.1.toNat = C at c hcyc
  match C, c with
  | [l], _ =>
   have := hcyc l rfl
   cases hE : decide (0 < g.2.2.length) with
   | true => rw [hE] at this; simp [List.filter_cons, this, of_decide_eq_true hE]
   | false => rw [hE] at this; simp [List.filter_cons, this]
 ·rw [if_neg (by omega), decide_eq_false c, Bool.false_and]
end
end Go.AW
namespace Go.AW
open Go
def c_ref07_All (p0 : Int) (p1 : Int) : Option ((List (List UInt8)) × Int) :=
 jp (fun (a1 : Bool) =>
   if a1 = true then
    some ([], 12)
   else
    if p1 < 0 then
     some ([], 2)
    else
     if 65536 < p1 then
      some ([], 4)
     else
      lpO (loopE (S := (List (List UInt8)) × Int) (X := Ou ((List (List UInt8))) ((List (List UInt8)) × Int)) (fun a4 =>
          if a4.2 < p1 then
           if 4096 < (IntKind.wrap .i64 (((a4.1).length : Int) * p0)) then
            some (Stp.exit (Ou.ret ([], 4)))
           else
            (loopE (S := Int × (List (List UInt8))) (X := (List (List UInt8))) (fun a9 =>
                if a9.1 < ((a4.1).length : Int) then
                 (loopE (S := Int × (List (List UInt8))) (X := (List (List UInt8))) (fun a13 =>
                     if a13.1 < p0 then
                      (idx a4.1 a9.1).bind fun x17 =>
                      if 0 ≤ (a13.1 : Int) ∧ (a13.1 : Int) ≤ IntKind.wrap .i64 (a13.1 + 1) ∧ IntKind.wrap .i64 (a13.1 + 1) ≤ (([48, 49, 50, 51, 52, 53, 54, 55, 56, 57, 97, 98, 99, 100, 101, 102] : List UInt8).length : Int) then
                       if x17.length + ((([48, 49, 50, 51, 52, 53, 54, 55, 56, 57, 97, 98, 99, 100, 101, 102] : List UInt8).take (IntKind.wrap .i64 (a13.1 + 1)).toNat).drop (a13.1).toNat).length ≤ maxLen then
                        if fits 16 ((a13.2 : List (List UInt8)).length + ([x17 ++ ((([48, 49, 50, 51, 52, 53, 54, 55, 56, 57, 97, 98, 99, 100, 101, 102] : List UInt8).take (IntKind.wrap .i64 (a13.1 + 1)).toNat).drop (a13.1).toNat)]).length) then
                         some (Stp.next (IntKind.wrap .i64 (a13.1 + 1), a13.2 ++ [x17 ++ ((([48, 49, 50, 51, 52, 53, 54, 55, 56, 57, 97, 98, 99, 100, 101, 102] : List UInt8).take (IntKind.wrap .i64 (a13.1 + 1)).toNat).drop (a13.1).toNat)]))
                        else none
                       else none
                      else none
                     else
                      some (Stp.exit a13.2)) (0, a9.2)).bind fun a23 =>
                 some (Stp.next (IntKind.wrap .i64 (a9.1 + 1), a23))
                else
                 some (Stp.exit a9.2)) (0, [])).bind fun a25 =>
            some (Stp.next (a25, IntKind.wrap .i64 (a4.2 + 1)))
          else
           some (Stp.exit (Ou.go a4.1))) ([([] : List UInt8)], 0)) (fun a27 =>
          some (a27, 0)) some)
   fun k3 =>
  if p0 < 1 then
   k3 true
  else
   k3 (decide (16 < p0))
set_option maxHeartbeats 1600000 in
theorem le_ref07_All {p0 : Int} {p1 : Int} : Lq (c_ref07_All p0 p1) (m_ref07_All p0 p1) := by
 unfold c_ref07_All m_ref07_All
 repeat' with_reducible first | intro _ | exact Lq.refl _ | exact Lq.none | apply Lq.ite | apply Lq.bind | apply Lq.jp | apply Lq.loop | apply Lq.lpO | apply Lq.forL | apply_assumption
def c_word_known (p0 : Int) : Option (Bool) :=
 jp (fun (a1 : Bool) =>
  some a1)
  fun k3 =>
  if 1 ≤ p0 then
   k3 (decide (p0 ≤ 16))
  else
   k3 false
set_option maxHeartbeats 1600000 in
theorem le_word_known {p0 : Int} : Lq (c_word_known p0) (m_word_known p0) := by
 unfold c_word_known m_word_known
 repeat' with_reducible first | intro _ | exact Lq.refl _ | exact Lq.none | apply Lq.ite | apply Lq.bind | apply Lq.jp | apply Lq.loop | apply Lq.lpO | apply Lq.forL | apply_assumption
def c_word_All (p0 : Int) (p1 : Int) : Option ((List (List UInt8)) × Int) :=
 (c_word_known p0).bind fun x1 =>
 if (!x1) = true then
  some ([], 12)
 else
  if p1 < 0 then
   some ([], 2)
  else
   if 65536 < p1 then
    some ([], 4)
   else
    if p0 = 1 then
     (m_strings_Repeat [48] p1).bind fun x3 =>
     some ([x3], 0)
    else
     lpO (loopE (S := (List (List UInt8)) × Int) (X := Ou ((List (List UInt8))) ((List (List UInt8)) × Int)) (fun a5 =>
       if a5.2 < p1 then
        if 4096 < (IntKind.wrap .i64 (((a5.1).length : Int) * p0)) then
         some (Stp.exit (Ou.ret ([], 4)))
        else
         if 0 ≤ (0 : Int) ∧ (0 : Int) ≤ IntKind.wrap .i64 (((a5.1).length : Int) * p0) ∧ (IntKind.wrap .i64 (((a5.1).length : Int) * p0) : Int) * 16 ≤ 281474976710656 then
          (loopE (S := Int × (List (List UInt8))) (X := (List (List UInt8))) (fun a11 =>
            if a11.1 < ((a5.1).length : Int) then
             (idx a5.1 a11.1).bind fun x15 =>
             (loopE (S := Int × (List (List UInt8))) (X := (List (List UInt8))) (fun a17 =>
               if a17.1 < p0 then
                if 0 ≤ (a17.1 : Int) ∧ (a17.1 : Int) ≤ IntKind.wrap .i64 (a17.1 + 1) ∧ IntKind.wrap .i64 (a17.1 + 1) ≤ (([48, 49, 50, 51, 52, 53, 54, 55, 56, 57, 97, 98, 99, 100, 101, 102] : List UInt8).length : Int) then
                 if x15.length + ((([48, 49, 50, 51, 52, 53, 54, 55, 56, 57, 97, 98, 99, 100, 101, 102] : List UInt8).take (IntKind.wrap .i64 (a17.1 + 1)).toNat).drop (a17.1).toNat).length ≤ maxLen then
                  if fits 16 ((a17.2 : List (List UInt8)).length + ([x15 ++ ((([48, 49, 50, 51, 52, 53, 54, 55, 56, 57, 97, 98, 99, 100, 101, 102] : List UInt8).take (IntKind.wrap .i64 (a17.1 + 1)).toNat).drop (a17.1).toNat)]).length) then
                   some (Stp.next (IntKind.wrap .i64 (a17.1 + 1), a17.2 ++ [x15 ++ ((([48, 49, 50, 51, 52, 53, 54, 55, 56, 57, 97, 98, 99, 100, 101, 102] : List UInt8).take (IntKind.wrap .i64 (a17.1 + 1)).toNat).drop (a17.1).toNat)]))
                  else none
                 else none
                else none
               else
                some (Stp.exit a17.2)) (0, a11.2)).bind fun a25 =>
             some (Stp.next (IntKind.wrap .i64 (a11.1 + 1), a25))
            else
             some (Stp.exit a11.2)) (0, List.replicate (0 : Int).toNat (([] : List UInt8) : List UInt8))).bind fun a27 =>
          some (Stp.next (a27, IntKind.wrap .i64 (a5.2 + 1)))
         else none
       else
        some (Stp.exit (Ou.go a5.1))) ([([] : List UInt8)], 0)) (fun a29 =>
       some (a29, 0)) some
set_option maxHeartbeats 1600000 in
theorem le_word_All {p0 : Int} {p1 : Int} : Lq (c_word_All p0 p1) (m_word_All p0 p1) := by
 unfold c_word_All m_word_All
 repeat' with_reducible first | intro _ | exact Lq.refl _ | exact Lq.none | apply Lq.ite | apply Lq.bind | apply Lq.jp | apply Lq.loop | apply Lq.lpO | apply Lq.forL | apply_assumption | apply le_word_known
theorem allMerges : ∀ r ∈ [0, 1, 2, 3], c_word_All 2 ((r : Nat) : Int) = some (allW [48, 49] r, 0) ∧ c_ref07_All 2 ((r : Nat) : Int) = some (allW [48, 49] r, 0) := by decide +kernel
theorem word_All2 {r : Nat} (h : r ≤ 3) : m_word_All 2 (r : Int) = some (allW [48, 49] r, 0) := le_word_All.ap _ (allMerges r (by simp only [List.mem_cons, List.not_mem_nil, or_false]; omega)).1
theorem ref_All2 {r : Nat} (h : r ≤ 3) : m_ref07_All 2 (r : Int) = some (allW [48, 49] r, 0) := le_ref07_All.ap _ (allMerges r (by simp only [List.mem_cons, List.not_mem_nil, or_false]; omega)).2
theorem bit_of {x : List UInt8} (h : ∀ c ∈ x, c ∈ [(48 : UInt8), 49]) : bitW x := fun c hc => by
 have := h c hc
 simp only [List.mem_cons, List.not_mem_nil, or_false] at this
 rcases this with rfl | rfl <;> rfl
def SmW (l : List (List UInt8)) : Prop := l.length ≤ 1000 ∧ ∀ x ∈ l, bitW x ∧ x.length ≤ 16
section
variable {g : Gr}
theorem joinsG (hv : VG g) (h2 : g.1 = 2) {ms : List (List UInt8)} (hm : SmW ms) {a b : List UInt8} (ha : bitW a) (hb : bitW b) (la : a.length ≤ 16) (lb : b.length ≤ 16) : qa3 g ms a b = some (qbh g ms a b) := by
 unfold qa3
 have := hm.1
 rw [ContainsFuncS (fun m => inW g (a ++ m ++ b)) (by omega) fun m h => joins1_eq hv h2 ha (hm.2 m h).1 hb la (hm.2 m h).2 lb]
 rfl
theorem joinedG (hv : VG g) (h2 : g.1 = 2) {ms : List (List UInt8)} (hms : SmW ms) {a b : List UInt8} (ha : bitW a) (hb : bitW b) (la : a.length ≤ 16) (lb : b.length ≤ 16) : m_ref31_joined ms g a b = some (qbh g ms a b) := by
 unfold m_ref31_joined
 have h256 := hms.1
 refine lpE (loop_anyL (fun i => (i : Int)) ms (fun m => inW g (a ++ m ++ b)) (Ou.ret true) (Ou.go ()) (fun i hi => ?_) (by rw [if_neg (qaw _)]) rfl) ?_
 ·obtain ⟨hm, lm⟩ := hms.2 _ (List.getElem_mem hi)
  rw [if_pos (qbt hi), ix hi]
  simp only [Option.bind_some]
  rw [if_pos (by simp only [maxLen]; omega), if_pos (by simp only [maxLen, List.length_append]; omega), refaccepts_eq hv h2 (bitW_app.2 ⟨bitW_app.2 ⟨ha, hm⟩, hb⟩) (by simp only [List.length_append]; omega)]
  simp only [Option.bind_some, nx (show ms.length ≤ 9223372036854775807 by omega) hi]
 ·unfold qbh
  cases ms.any fun m => inW g (a ++ m ++ b) <;> rfl
def leftB (g : Gr) (ms out : List (List UInt8)) (w : List UInt8) : Bool := !qbh g ms w w || out.any fun v => !qbh g ms v w || !qbh g ms w v
def takeS (g : Gr) (ms out : List (List UInt8)) (w : List UInt8) : List (List UInt8) := if leftB g ms out w = true then out else out ++ [w]
def takenL (g : Gr) (ms all : List (List UInt8)) : List (List UInt8) := all.foldl (takeS g ms) []
theorem takeS_len (ms out : List (List UInt8)) (w : List UInt8) : (takeS g ms out w).length ≤ out.length + 1 ∧ out.length ≤ (takeS g ms out w).length := by
 unfold takeS
 split
 ·omega
 ·rw [List.length_append, List.length_singleton]; omega
theorem takeS_mem {ms out : List (List UInt8)} {w x : List UInt8} (h : x ∈ takeS g ms out w) : x ∈ out ∨ x = w := by
 unfold takeS at h
 split at h
 ·exact .inl h
 ·rcases List.mem_append.1 h with h | h
  ·exact .inl h
  ·exact .inr (List.mem_singleton.1 h)
theorem taken_pre (ms : List (List UInt8)) : ∀ (l out : List (List UInt8)), (∃ m, l.foldl (takeS g ms) out = out ++ m) ∧ (l.foldl (takeS g ms) out).length ≤ out.length + l.length ∧ ∀ x ∈ l.foldl (takeS g ms) out, x ∈ out ∨ x ∈ l
 | [], out => ⟨⟨[], by simp⟩, by simp, fun x hx => .inl hx⟩
 | w :: l, out => by
  obtain ⟨⟨m, hm⟩, h2, h3⟩ := taken_pre ms l (takeS g ms out w)
  have h4 := takeS_len (g := g) ms out w
  refine ⟨?_, by rw [List.foldl_cons, List.length_cons]; omega, fun x hx => ?_⟩
  ·rw [List.foldl_cons, hm]
   unfold takeS
   split
   ·exact ⟨m, rfl⟩
   ·exact ⟨w :: m, by rw [List.append_assoc]; rfl⟩
  ·rw [List.foldl_cons] at hx
   rcases h3 x hx with h | h
   ·rcases takeS_mem h with h | rfl
    ·exact .inl h
    ·exact .inr (List.mem_cons_self ..)
   ·exact .inr (List.mem_cons_of_mem _ h)
theorem cond_eq (hv : VG g) (h2 : g.1 = 2) {ms : List (List UInt8)} (hms : SmW ms) {out : List (List UInt8)} (ho : SmW out) {w : List UInt8} (hw : bitW w) (lw : w.length ≤ 16) : condT g ms out w = some (leftB g ms out w) := by
 unfold condT leftB
 rw [joinsG hv h2 hms hw hw lw lw, Option.bind_some]
 have hol := ho.1
 by_cases c : (!qbh g ms w w) = true
 ·rw [if_pos c, c, Bool.true_or]
 ·rw [if_neg c]
  have c' : (!qbh g ms w w) = false := by simpa using c
  rw [c', Bool.false_or]
  refine ContainsFuncS (fun v => !qbh g ms v w || !qbh g ms w v) (by omega) fun v hvm => ?_
  obtain ⟨hb, hl⟩ := ho.2 v hvm
  unfold m_merging_taken_1_1
  rw [joinsG hv h2 hms hb hw hl lw, joinsG hv h2 hms hw hb lw hl]
  simp only [jp, Option.bind_some]
  cases qbh g ms v w <;> simp
theorem tkW_eq (hv : VG g) (h2 : g.1 = 2) {ms : List (List UInt8)} (hms : SmW ms) : ∀ (l out : List (List UInt8)), SmW out → out.length + l.length ≤ 1000 → (∀ x ∈ l, bitW x ∧ x.length ≤ 16) → tkW (condT g ms) l out = some (l.foldl (takeS g ms) out)
 | [], _, _, _, _ => rfl
 | w :: l, out, ho, hl, hw => by
  obtain ⟨hb, lw⟩ := hw w (List.mem_cons_self ..)
  simp only [List.length_cons] at hl
  have ho' : SmW (takeS g ms out w) := by
   refine ⟨by have := (takeS_len (g := g) ms out w).1; omega, fun x hx => ?_⟩
   rcases takeS_mem hx with h | rfl
   ·exact ho.2 x h
   ·exact ⟨hb, lw⟩
  have ih := tkW_eq hv h2 hms l (takeS g ms out w) ho' (by have := (takeS_len (g := g) ms out w).1; omega) fun x hx => hw x (List.mem_cons_of_mem _ hx)
  rw [List.foldl_cons, ← ih]
  simp only [tkW]
  rw [cond_eq hv h2 hms ho hb lw, Option.bind_some]
  unfold takeS
  split <;> rfl
def fstB (m : Int) (a24 : List (List UInt8)) (x26 : List UInt8) : Option (Stp (List (List UInt8)) (List (List UInt8))) := if fits 16 ((a24 : List (List UInt8)).length + ([x26]).length) then (if (((a24 ++ [x26]).length : Nat) : Int) = m then some (Stp.exit (a24 ++ [x26])) else some (Stp.next (a24 ++ [x26]))) else none
theorem first_eq {m : Nat} : ∀ (T a : List (List UInt8)), a.length < m → a.length + T.length ≤ 1000 →
  forL (fstB (m : Int)) T a = some (if m ≤ a.length + T.length then .ret ((a ++ T).take m) else .go (a ++ T))
 | [], a, h1, h2 => by
  simp only [List.length_nil, Nat.add_zero, List.append_nil]
  rw [if_neg (by omega)]
  rfl
 | x :: T, a, h1, h2 => by
  simp only [List.length_cons] at h2 ⊢
  have hl : (a ++ [x]).length = a.length + 1 := by rw [List.length_append, List.length_singleton]
  have hbody : fstB (m : Int) a x = if a.length + 1 = m then some (Stp.exit (a ++ [x])) else some (Stp.next (a ++ [x])) := by
   unfold fstB
   rw [if_pos (fits_le (by simp only [List.length_singleton]; omega) (by simp only [List.length_singleton]; omega)), hl]
   by_cases c : a.length + 1 = m
   ·rw [if_pos (by omega), if_pos c]
   ·rw [if_neg (by omega), if_neg c]
  by_cases c : a.length + 1 = m
  ·rw [if_pos c] at hbody
   simp only [forL, hbody]
   rw [if_pos (by omega)]
   have e : a ++ x :: T = (a ++ [x]) ++ T := by rw [List.append_assoc]; rfl
   rw [e, ← c, ← hl, List.take_left]
  ·rw [if_neg c] at hbody
   simp only [forL, hbody]
   rw [first_eq T (a ++ [x]) (by omega) (by omega), hl, List.append_assoc]
   have e : a.length + 1 + T.length = a.length + (T.length + 1) := by omega
   rw [e]
   rfl
end
end Go.AW
namespace Go.AW
open Go
section
variable {g : Gr}
def wordsG (g : Gr) (n : Nat) : List (List UInt8) := (allW (lets g) n).filter (accB g)
def mrgs (r : Nat) : List (List UInt8) := allW [48, 49] r
theorem lets2 (h2 : g.1 = 2) : lets g = [48, 49] := by unfold lets; rw [h2]; rfl
theorem mrgs_sm {r : Nat} (h : r ≤ 3) : SmW (mrgs r) := by
 refine ⟨?_, fun x hx => ?_⟩
 ·unfold mrgs
  rw [allW_len]
  have : [(48 : UInt8), 49].length ^ r ≤ 2 ^ 3 := Nat.pow_le_pow_right (by decide) h
  omega
 ·obtain ⟨h1, h2⟩ := mem_allW.1 hx
  exact ⟨bit_of h2, by omega⟩
theorem wordsG_len (h2 : g.1 = 2) {n : Nat} (h : n ≤ 6) : (wordsG g n).length ≤ 64 := by
 unfold wordsG
 refine Nat.le_trans (List.length_filter_le _ _) ?_
 rw [allW_len, lets2 h2]
 have : [(48 : UInt8), 49].length ^ n ≤ 2 ^ 6 := Nat.pow_le_pow_right (by decide) h
 omega
theorem wordsG_mem (h2 : g.1 = 2) {n : Nat} {x : List UInt8} (h : x ∈ wordsG g n) : x.length = n ∧ bitW x := by
 have := (List.mem_filter.1 h).1
 rw [lets2 h2] at this
 obtain ⟨h1, h3⟩ := mem_allW.1 this
 exact ⟨h1, bit_of h3⟩
theorem Words6 (hv : VG g) (h2 : g.1 = 2) {n : Nat} (h : n ≤ 6) : qbg g (n : Int) = some (wordsG g n, 0) ∧ m_ref11_Words g (n : Int) = some (wordsG g n, 0) := by
 have h1 : qbg g (n : Int) = some (wordsG g n, 0) := Words_ok hv (by omega) (by omega) fun j j1 j2 => by
  have : g.1.toNat ^ j ≤ 2 ^ 6 := by
   rw [h2]
   exact Nat.pow_le_pow_right (by decide) (by omega)
  omega
 obtain ⟨r, hr, hr2, _⟩ := Words_both g (n : Int)
 rw [h1] at hr
 cases hr
 exact ⟨h1, hr2⟩
def takenG (g : Gr) (n r : Nat) : List (List UInt8) := takenL g (mrgs r) (wordsG g n)
def bldE (g : Gr) (n r m : Nat) : qaq × Int := if m ≤ (takenG g n r).length then (((takenG g n r).take m, mrgs r), 0) else (([], []), 15)
theorem taken_ok (hv : VG g) (h2 : g.1 = 2) {n r : Nat} (hn : n ≤ 6) (hr : r ≤ 3) : y_merging_taken (wordsG g n) g (mrgs r) = some (takenG g n r) := by
 have hl := wordsG_len h2 hn
 unfold y_merging_taken
 rw [if_pos (by omega)]
 exact tkW_eq hv h2 (mrgs_sm hr) _ [] ⟨by simp, fun x hx => nomatch hx⟩ (by simp; omega) fun x hx => by
  obtain ⟨h1, h3⟩ := wordsG_mem h2 hx
  exact ⟨h3, by omega⟩
theorem takenG_len (h2 : g.1 = 2) {n r : Nat} (hn : n ≤ 6) : (takenG g n r).length ≤ 64 := by
 have h := (taken_pre (g := g) (mrgs r) (wordsG g n) []).2.1
 have hl := wordsG_len h2 hn
 unfold takenG takenL
 simp only [List.length_nil] at h
 omega
theorem takenG_mem {n r : Nat} {x : List UInt8} (h : x ∈ takenG g n r) : x ∈ wordsG g n := ((taken_pre (g := g) (mrgs r) (wordsG g n) []).2.2 x h).resolve_left (by simp)
theorem ref_loop (hv : VG g) (h2 : g.1 = 2) {n r m : Nat} (hn : n ≤ 6) (hr : r ≤ 3) (hm1 : 1 ≤ m) (hm8 : m ≤ 8) :
    loopW (S := Int × (List (List UInt8))) (X := (List (List UInt8))) (fun a19 =>
              jp (fun (a23 : Bool) =>
                if a23 = true then
                 jp (fun (a26 : (List (List UInt8))) =>
                   some (Stp.next (IntKind.wrap .i64 (a19.1 + 1), a26)))
                   fun k28 =>
                  (idx (wordsG g n) a19.1).bind fun x29 =>
                  (idx (wordsG g n) a19.1).bind fun x31 =>
                  (m_ref31_joined (mrgs r) g x29 x31).bind fun x33 =>
                  (loopW (S := Bool × Int) (X := Bool) (fun a35 =>
                      if a35.2 < (((a19.2).length : Nat) : Int) then
                       jp (fun (a39 : Bool) =>
                         some (Stp.next (a39, IntKind.wrap .i64 (a35.2 + 1))))
                         fun k41 =>
                        if a35.1 = true then
                         (idx (wordsG g n) a19.1).bind fun x42 =>
                         (idx a19.2 a35.2).bind fun x44 =>
                         (idx a19.2 a35.2).bind fun x46 =>
                         (m_ref31_joined (mrgs r) g x42 x46).bind fun x48 =>
                         if x48 = true then
                          (idx a19.2 a35.2).bind fun x50 =>
                          (idx a19.2 a35.2).bind fun x52 =>
                          (idx (wordsG g n) a19.1).bind fun x54 =>
                          (m_ref31_joined (mrgs r) g x52 x54).bind fun x56 =>
                          k41 x56
                         else
                          k41 false
                        else
                         k41 false
                      else
                       some (Stp.exit a35.1)) (x33, 0)).bind fun a60 =>
                  if a60 = true then
                   (idx (wordsG g n) a19.1).bind fun x62 =>
                   if fits 16 ((a19.2 : List (List UInt8)).length + ([x62]).length) then
                    k28 (a19.2 ++ [x62])
                   else none
                  else
                   k28 a19.2
                else
                 some (Stp.exit a19.2))
                fun k25 =>
               if a19.1 < (((wordsG g n)).length : Int) then
                k25 (decide ((((a19.2).length : Nat) : Int) < (m : Int)))
               else
                k25 false) (0, ([] : List (List UInt8))) = some ((takenG g n r).take m) := by
  have hl := wordsG_len h2 hn
  have hwm := fun x (hx : x ∈ wordsG g n) => wordsG_mem h2 hx
  have hT : takenG g n r = (wordsG g n).foldl (takeS g (mrgs r)) [] := rfl
  rw [hT]
  generalize wordsG g n = W at hl hwm
  have hsm := mrgs_sm hr
  suffices h : ∃ x, loopW _ _ = some x ∧ x = (W.foldl (takeS g (mrgs r)) []).take m by
    obtain ⟨x, hx, rfl⟩ := h
    exact hx
  refine loopN (Q := fun x => x = (W.foldl (takeS g (mrgs r)) []).take m) W.length (fun i (s : Int × List (List UInt8)) => s = ((i : Int), (W.take i).foldl (takeS g (mrgs r)) []) ∧ ((W.take i).foldl (takeS g (mrgs r)) []).length ≤ m) (fun i s hi ⟨hs, hlm⟩ => ?_) (fun s ⟨hs, hlm⟩ => ?_) 0 (0, []) (Nat.zero_le _) ⟨by simp, by simp⟩
  · subst hs
    obtain ⟨-, hFl, hFm⟩ := taken_pre (g := g) (mrgs r) (W.take i) []
    obtain ⟨⟨M, hM⟩, -, -⟩ := taken_pre (g := g) (mrgs r) (W.drop i) ((W.take i).foldl (takeS g (mrgs r)) [])
    rw [← List.foldl_append, List.take_append_drop] at hM
    have hsucc : (W.take (i + 1)).foldl (takeS g (mrgs r)) [] = takeS g (mrgs r) ((W.take i).foldl (takeS g (mrgs r)) []) W[i] := by
      rw [← List.take_append_getElem hi, List.foldl_append]
      rfl
    have hwi := hwm _ (List.getElem_mem hi)
    have hFb : ∀ x ∈ (W.take i).foldl (takeS g (mrgs r)) [], bitW x ∧ x.length ≤ 16 := fun x hx => by
      have := hwm x (List.mem_of_mem_take ((hFm x hx).resolve_left (by simp)))
      exact ⟨this.2, by omega⟩
    rw [hsucc]
    generalize hF : (W.take i).foldl (takeS g (mrgs r)) [] = F at hlm hM hFb
    clear hF hFl hFm hsucc
    dsimp only
    simp only [jp]
    rw [if_pos (qbt hi)]
    by_cases hc : F.length < m
    · refine .inl ⟨_, ?_, rfl, by have := (takeS_len (g := g) (mrgs r) F W[i]).1; omega⟩
      rw [if_pos (by simpa using hc), ix hi]
      simp only [Option.bind_some]
      rw [nx (by omega : W.length ≤ _) hi]
      generalize W[i] = w at hwi
      obtain ⟨lw, hw⟩ := hwi
      rw [joinedG hv h2 hsm hw hw (by omega) (by omega)]
      simp only [Option.bind_some]
      refine bindL (loop_is (fun k => (qbh g (mrgs r) w w && (F.take k).all (fun v => qbh g (mrgs r) w v && qbh g (mrgs r) v w), (k : Int))) F.length (qbh g (mrgs r) w w && F.all (fun v => qbh g (mrgs r) w v && qbh g (mrgs r) v w)) (fun k hk => ?_) (by dsimp only; rw [if_neg (qaw _), List.take_length]) (by simp)) ?_
      · dsimp only
        have htk : F.take (k + 1) = F.take k ++ [F[k]] := (List.take_append_getElem hk).symm
        obtain ⟨hv1, hv2⟩ := hFb _ (List.getElem_mem hk)
        rw [if_pos (qbt hk), ix hk, nx (by omega : F.length ≤ _) hk, htk, List.all_append]
        simp only [Option.bind_some]
        generalize F[k] = v at hv1 hv2
        rw [joinedG hv h2 hsm hw hv1 (by omega) hv2, joinedG hv h2 hsm hv1 hw hv2 (by omega)]
        simp only [Option.bind_some, List.all_cons, List.all_nil, Bool.and_true]
        rw [← Bool.and_assoc]
        cases (qbh g (mrgs r) w w && (F.take k).all fun v => qbh g (mrgs r) w v && qbh g (mrgs r) v w) with
        | false => simp
        | true =>
          cases qbh g (mrgs r) w v with
          | false => simp
          | true => simp
      · have hleft : leftB g (mrgs r) F w = !(qbh g (mrgs r) w w && F.all fun v => qbh g (mrgs r) w v && qbh g (mrgs r) v w) := by
          unfold leftB
          rw [Bool.not_and, List.not_all_eq_any_not]
          congr 1
          refine congrArg (fun p => F.any p) (funext fun v => ?_)
          rw [Bool.not_and, Bool.or_comm]
        unfold takeS
        rw [hleft]
        cases qbh g (mrgs r) w w && F.all fun v => qbh g (mrgs r) w v && qbh g (mrgs r) v w with
        | true =>
          rw [if_pos rfl, if_pos (fits_le (by simp only [List.length_singleton]; omega) (by simp only [List.length_singleton]; omega))]
          simp
        | false => simp
    · refine .inr ⟨F, ?_, ?_⟩
      · rw [if_neg (by simpa using hc)]
      · have e : F.length = m := by omega
        rw [hM, ← e, List.take_left]
  · subst hs
    rw [List.take_length] at hlm ⊢
    refine ⟨_, ?_, (List.take_of_length_le hlm).symm⟩
    dsimp only
    simp only [jp]
    rw [if_neg (qaw _), if_neg (by decide)]
end
end Go.AW
namespace Go.AW
open Go
section
variable {g : Gr}
theorem bldE_len (h2 : g.1 = 2) {n r m : Nat} (hn : n ≤ 6) (hr : r ≤ 3) : (bldE g n r m).1.1.length ≤ 1000 ∧ (bldE g n r m).1.2.length ≤ 1000 := by
 have h1 := takenG_len (g := g) (r := r) h2 hn
 have h3 := (mrgs_sm hr).1
 unfold bldE
 split
 ·exact ⟨by dsimp only; rw [List.length_take]; omega, h3⟩
 ·exact ⟨by simp, by simp⟩
theorem core_eq (hv : VG g) (h2 : g.1 = 2) {n r m : Nat} (hn : n ≤ 6) (hr : r ≤ 3) (hm1 : 1 ≤ m) (hm8 : m ≤ 8) :
    (y_merging_taken (wordsG g n) g (mrgs r)).bind (fun L22 =>
           lpO (forL (S := (List (List UInt8))) (X := (List (List UInt8))) (fun a24 (x26 : (List UInt8)) =>
               if fits 16 ((a24 : List (List UInt8)).length + ([x26]).length) then
                if (((a24 ++ [x26]).length : Nat) : Int) = (m : Int) then
                 some (Stp.exit (a24 ++ [x26]))
                else
                 some (Stp.next (a24 ++ [x26]))
               else none) L22 ([] : List (List UInt8))) (fun a32 =>
               some ((([], []) : qaq), (15 : Int))) fun a34 =>
               some ((a34, mrgs r), 0)) = some (bldE g n r m) := by
  have hl := takenG_len (g := g) (r := r) h2 hn
  rw [taken_ok hv h2 hn hr, Option.bind_some]
  have h := first_eq (m := m) (takenG g n r) [] (by simp only [List.length_nil]; omega) (by simp; omega)
  refine lpL (h : forL _ _ _ = _) ?_
  unfold bldE
  simp only [List.length_nil, Nat.zero_add, List.nil_append]
  split <;> rfl
def BOk (g : Gr) (n r m : Int) (x : qaq × Int) : Prop := VG g ∧ g.1 = 2 ∧ qaT g = some 0 ∧ detX g.2.2 = true ∧ irrB g = true ∧ ∃ n' r' m' : Nat, n = n' ∧ r = r' ∧ m = m' ∧ 1 ≤ n' ∧ n' ≤ 6 ∧ r' ≤ 3 ∧ 1 ≤ m' ∧ m' ≤ 8 ∧ x = bldE g n' r' m'
theorem Build_both (g : Gr) {n r m : Int} (hn : n ≤ 6 ∨ 16 < n) (hr : r ≤ 3 ∨ 8 < r) (hm : m ≤ 8 ∨ 256 < m) : ∃ x : qaq × Int, qa9 g n r m = some x ∧ m_ref31_Build g n r m = some x ∧ x.1.1.length ≤ 1000 ∧ x.1.2.length ≤ 1000 ∧
  (x.2 = 0 → BOk g n r m x) ∧ (x.2 ≠ 0 → x.1 = ([], [])) := by
 obtain ⟨e, he, hz⟩ := Check_tot g
 have done : ∀ c : Int, c ≠ 0 → (((([], []) : qaq), c) : qaq × Int).1.1.length ≤ 1000 ∧ (((([], []) : qaq), c) : qaq × Int).1.2.length ≤ 1000 ∧
  ((((([], []) : qaq), c) : qaq × Int).2 = 0 → BOk g n r m ((([], []) : qaq), c)) ∧ ((((([], []) : qaq), c) : qaq × Int).2 ≠ 0 → (((([], []) : qaq), c) : qaq × Int).1 = ([], [])) := fun c hc => ⟨by simp, by simp, fun h => absurd h hc, fun _ => rfl⟩
 unfold qa9 m_ref31_Build
 rw [Check_ref, he]
 simp only [Option.bind_some]
 by_cases h0 : e = 0
 case neg => rw [if_pos h0, if_pos h0]; exact ⟨_, rfl, rfl, done 1 (by decide)⟩
 subst h0
 have hv := hz.1 rfl
 rw [if_neg (show ¬ (0 : Int) ≠ 0 from fun h => h rfl), if_neg (show ¬ (0 : Int) ≠ 0 from fun h => h rfl)]
 by_cases h2 : g.1 = 2
 case neg => rw [if_pos h2, if_pos h2]; exact ⟨_, rfl, rfl, done 12 (by decide)⟩
 rw [if_neg (fun h => h h2), if_neg (fun h => h h2), DetX_eq he hv, DetX_ref he hv, Irr_eq he hv, Irr_ref he hv]
 simp only [Option.bind_some, jp, ne_eq, not_true_eq_false, if_false]
 cases hd : detX g.2.2 with
 | false => exact ⟨_, rfl, rfl, done 8 (by decide)⟩
 | true =>
 cases hi : irrB g with
 | false => exact ⟨_, rfl, rfl, done 8 (by decide)⟩
 | true =>
 simp only [Bool.not_true, Bool.false_eq_true, if_false]
 by_cases c1 : n < 1
 ·rw [if_pos c1, if_pos c1]; exact ⟨_, rfl, rfl, done 2 (by decide)⟩
 rw [if_neg c1, if_neg c1]
 by_cases c2 : 16 < n
 ·rw [if_pos c2, if_pos c2]; exact ⟨_, rfl, rfl, done 2 (by decide)⟩
 rw [if_neg c2, if_neg c2]
 by_cases c3 : r < 0
 ·rw [if_pos c3, if_pos c3]; exact ⟨_, rfl, rfl, done 2 (by decide)⟩
 rw [if_neg c3, if_neg c3]
 by_cases c4 : 8 < r
 ·rw [if_pos c4, if_pos c4]; exact ⟨_, rfl, rfl, done 2 (by decide)⟩
 rw [if_neg c4, if_neg c4]
 by_cases c5 : m < 1
 ·rw [if_pos c5, if_pos c5]; exact ⟨_, rfl, rfl, done 2 (by decide)⟩
 rw [if_neg c5, if_neg c5]
 by_cases c6 : 256 < m
 ·rw [decide_eq_true c6]; exact ⟨_, rfl, rfl, done 2 (by decide)⟩
 rw [decide_eq_false c6]
 simp only [Bool.false_eq_true, if_false]
 obtain ⟨n', rfl⟩ := Int.eq_ofNat_of_zero_le (show 0 ≤ n by omega)
 obtain ⟨r', rfl⟩ := Int.eq_ofNat_of_zero_le (show 0 ≤ r by omega)
 obtain ⟨m', rfl⟩ := Int.eq_ofNat_of_zero_le (show 0 ≤ m by omega)
 have hn6 : n' ≤ 6 := by omega
 have hr3 : r' ≤ 3 := by omega
 have hm1 : 1 ≤ m' := by omega
 have hm8 : m' ≤ 8 := by omega
 obtain ⟨w1, w2⟩ := Words6 hv h2 hn6
 have hlen := bldE_len (g := g) (m := m') h2 hn6 hr3
 rw [w1, w2, word_All2 hr3, ref_All2 hr3]
 simp only [Option.bind_some, if_false]
 refine ⟨bldE g n' r' m', core_eq hv h2 hn6 hr3 hm1 hm8, ?_, hlen.1, hlen.2, fun _ => ⟨hv, h2, he, hd, hi, n', r', m', rfl, rfl, rfl, by omega, hn6, hr3, hm1, hm8, rfl⟩, fun hx => ?_⟩
 ·refine bindL (ref_loop hv h2 hn6 hr3 hm1 hm8) ?_
  unfold bldE
  by_cases c : m' ≤ (takenG g n' r').length
  ·rw [if_neg (by rw [List.length_take]; omega), if_pos c]
   rfl
  ·rw [if_pos (by rw [List.length_take]; omega), if_neg c]
 ·unfold bldE at hx ⊢
  split at hx
  ·exact absurd rfl hx
  ·rename_i c
   rw [if_neg c]
theorem Build_in (he : qaT g = some 0) (hv : VG g) (h2 : g.1 = 2) (hd : detX g.2.2 = true) (hi : irrB g = true) {n r m : Nat} (hn1 : 1 ≤ n) (hn : n ≤ 6) (hr : r ≤ 3) (hm1 : 1 ≤ m) (hm8 : m ≤ 8) : qa9 g (n : Int) (r : Int) (m : Int) = some (bldE g n r m) := by
 unfold qa9
 rw [Check_ref, he]
 simp only [Option.bind_some]
 rw [if_neg (show ¬ (0 : Int) ≠ 0 from fun h => h rfl), if_neg (fun h => h h2), DetX_eq he hv, Irr_eq he hv, hd, hi]
 simp only [Option.bind_some, jp, ne_eq, not_true_eq_false, if_false, Bool.not_true, Bool.false_eq_true]
 rw [if_neg (by omega), if_neg (by omega), if_neg (by omega), if_neg (by omega), if_neg (by omega), decide_eq_false (by omega)]
 simp only [Bool.false_eq_true, if_false]
 rw [(Words6 hv h2 hn).1, word_All2 hr]
 simp only [Option.bind_some, if_false]
 exact core_eq hv h2 hn hr hm1 hm8
end
end Go.AW
namespace Go.AW
open Go
theorem lt_asymX : ∀ {u v : List UInt8}, u < v → ¬ v < u
 | [], [], h, _ => by cases h
 | [], _ :: _, _, h => by cases h
 | _ :: _, [], h, _ => by cases h
 | a :: u, b :: v, h, h' => by
  rcases List.cons_lt_cons_iff.1 h with h1 | ⟨e1, h1⟩
  ·rcases List.cons_lt_cons_iff.1 h' with h2 | ⟨e2, h2⟩
   ·exact UInt8.lt_asymm h1 h2
   ·subst e2; exact u8_irr _ h1
  ·rcases List.cons_lt_cons_iff.1 h' with h2 | ⟨e2, h2⟩
   ·subst e1; exact u8_irr _ h2
   ·exact lt_asymX h1 h2
theorem LessX (a b : List UInt8) : m_cmp_Less_string a b = some (Op.bytesLess a b) := by
 unfold m_cmp_Less_string m_cmp_isNaN_string
 simp [jp]
theorem IsSortedX {l : List (List UInt8)} (hm : l.length ≤ 1000000) (h : l.Pairwise (· < ·)) : qaF l = some true := by
 unfold qaF
 by_cases h0 : l.length = 0
 ·rw [h0]
  refine lpL (loopW_exit (x := .go ()) ?_) rfl
  rw [if_neg (by decide)]
 have e0 : IntKind.wrap .i64 ((l.length : Int) - 1) = ((l.length - 1 - 0 : Nat) : Int) := by rw [w64 (by omega) (by omega)]; omega
 rw [e0]
 refine lpL (loop_is (fun i => ((l.length - 1 - i : Nat) : Int)) (l.length - 1) (Ou.go ()) (fun i hi => ?_) (by rw [if_neg (by omega)]) rfl) rfl
 have h1 : l.length - 1 - i < l.length := by omega
 have h2 : l.length - 1 - i - 1 < l.length := by omega
 have e1 : IntKind.wrap .i64 (((l.length - 1 - i : Nat) : Int) - 1) = ((l.length - 1 - i - 1 : Nat) : Int) := by rw [w64 (by omega) (by omega)]; omega
 rw [if_pos (by omega), ix h1, e1]
 simp only [Option.bind_some]
 rw [ix h2]
 simp only [Option.bind_some, LessX]
 have hp : l[l.length - 1 - i - 1] < l[l.length - 1 - i] := List.pairwise_iff_getElem.1 h _ _ h2 h1 (by omega)
 rw [if_neg (fun hb => lt_asymX hp (bytesLess_iff.1 hb)), show l.length - 1 - i - 1 = l.length - 1 - (i + 1) by omega]
theorem formOk_zero {j : Jn} (h : FormOk j) : formE j = 0 := by
 unfold formE
 rw [if_neg (fun h1 => h1.elim h.ne1 h.ne2), if_neg (by have := h.l1; have := h.l2; omega), if_neg (fun h1 => h1.elim (fun h2 => unev_iff.1 h2 h.n) fun h2 => unev_iff.1 h2 h.r), if_neg (by have := h.n1; have := h.n16; have := h.r16; omega),
  if_neg (fun h1 => h1.elim (fun h2 => lett_iff.1 h2 h.b1) fun h2 => lett_iff.1 h2 h.b2), if_neg (fun h1 => h1.elim (fun h2 => rept_iff.1 h2 h.d1) fun h2 => rept_iff.1 h2 h.d2)]
section
variable {g : Gr}
theorem VJ_zero {j : Jn} (h : VJ j g) : checkE j g = 0 := by
 unfold checkE
 rw [if_neg (fun h1 => h1 h.hv), if_neg (fun h1 => h1 h.h2), if_neg (fun h1 => h1 (formOk_zero h.f)), if_neg, if_neg]
 ·unfold badP
  simp only [List.any_eq_true, not_exists, not_and]
  intro a ha b hb
  rw [h.p a ha b hb]
  decide
 ·unfold badW
  simp only [List.any_eq_true, not_exists, not_and]
  intro a ha
  rw [h.w a ha]
  decide
theorem taken_sub (ms : List (List UInt8)) : ∀ (l out : List (List UInt8)), ∃ m, l.foldl (takeS g ms) out = out ++ m ∧ m.Sublist l
 | [], out => ⟨[], by simp, .slnil⟩
 | w :: l, out => by
  obtain ⟨m, h1, h2⟩ := taken_sub ms l (takeS g ms out w)
  rw [List.foldl_cons, h1]
  unfold takeS
  split
  ·exact ⟨m, rfl, h2.cons _⟩
  ·exact ⟨w :: m, by rw [List.append_assoc]; rfl, h2.cons_cons _⟩
theorem takenG_sub (n r : Nat) : (takenG g n r).Sublist (wordsG g n) := by
 obtain ⟨m, h1, h2⟩ := taken_sub (g := g) (mrgs r) (wordsG g n) []
 unfold takenG takenL
 rw [h1]
 exact h2
theorem taken_pairs (ms : List (List UInt8)) : ∀ (l out : List (List UInt8)), (∀ a ∈ out, ∀ b ∈ out, qbh g ms a b = true) → ∀ a ∈ l.foldl (takeS g ms) out, ∀ b ∈ l.foldl (takeS g ms) out, qbh g ms a b = true
 | [], _, h => h
 | w :: l, out, h => by
  rw [List.foldl_cons]
  refine taken_pairs ms l _ ?_
  unfold takeS
  split
  ·exact h
  ·rename_i hc
   have hc : leftB g ms out w = false := by simpa using hc
   unfold leftB at hc
   rw [Bool.or_eq_false_iff] at hc
   obtain ⟨h1, h2⟩ := hc
   have hww : qbh g ms w w = true := by simpa using h1
   have hv : ∀ v ∈ out, qbh g ms v w = true ∧ qbh g ms w v = true := fun v hv => by
    have := List.any_eq_false.1 h2 v hv
    simpa using this
   intro a ha b hb
   rcases List.mem_append.1 ha with ha | ha <;> rcases List.mem_append.1 hb with hb | hb
   ·exact h a ha b hb
   ·rw [List.mem_singleton.1 hb]; exact (hv a ha).1
   ·rw [List.mem_singleton.1 ha]; exact (hv b hb).2
   ·rw [List.mem_singleton.1 ha, List.mem_singleton.1 hb]; exact hww
theorem asc2 : [(48 : UInt8), 49].Pairwise (· < ·) := by decide
theorem mrgs_asc (r : Nat) : (mrgs r).Pairwise (· < ·) := allW_asc asc2 r
theorem wordsG_asc (h2 : g.1 = 2) (n : Nat) : (wordsG g n).Pairwise (· < ·) := by
 unfold wordsG
 rw [lets2 h2]
 exact (allW_asc asc2 n).filter _
theorem asc_nodup {l : List (List UInt8)} (h : l.Pairwise (· < ·)) : l.Nodup := h.imp fun h e => by subst e; exact lt_irr _ h
theorem mrgs_len (r : Nat) : (mrgs r).length = 2 ^ r := allW_len _ _
theorem fst_of {l : List (List UInt8)} {n : Nat} (hne : l ≠ []) (h : ∀ x ∈ l, x.length = n) : qbn l = n := by
 cases l with
 | nil => exact absurd rfl hne
 | cons x l => exact h x (List.mem_cons_self ..)
theorem built_VJ (hv : VG g) (h2 : g.1 = 2) {n r m : Nat} (hn1 : 1 ≤ n) (hn : n ≤ 6) (hr : r ≤ 3) (hm1 : 1 ≤ m) (hm : m ≤ (takenG g n r).length) : VJ ((takenG g n r).take m, mrgs r) g := by
 have hT := takenG_len (g := g) (r := r) h2 hn
 have hmem : ∀ x ∈ (takenG g n r).take m, x ∈ wordsG g n := fun x hx => takenG_mem (List.mem_of_mem_take hx)
 have hlen : ((takenG g n r).take m).length = m := by rw [List.length_take]; omega
 have hne : (takenG g n r).take m ≠ [] := fun h => by rw [h] at hlen; simp at hlen; omega
 have hml := mrgs_len r
 have hpow : 1 ≤ 2 ^ r := Nat.one_le_two_pow
 have hne2 : mrgs r ≠ [] := fun h => by rw [h] at hml; simp at hml; omega
 have hsm := mrgs_sm hr
 have hf1 := fst_of hne fun x hx => (wordsG_mem h2 (hmem x hx)).1
 have hf2 : qbn (mrgs r) = r := fst_of hne2 fun x hx => (mem_allW.1 hx).1
 refine ⟨hv, h2, ⟨hne, hne2, by dsimp only; omega, ?_, fun x hx => ?_, fun x hx => ?_, by dsimp only; omega, by dsimp only; omega, by dsimp only; omega, fun x hx => (wordsG_mem h2 (hmem x hx)).2, fun x hx => (hsm.2 x hx).1, ?_, asc_nodup (mrgs_asc r)⟩, fun x hx => ?_, fun a ha b hb => ?_⟩
 ·have : 2 ^ r ≤ 2 ^ 3 := Nat.pow_le_pow_right (by decide) hr
  dsimp only
  omega
 ·rw [hf1]; exact (wordsG_mem h2 (hmem x hx)).1
 ·rw [hf2]; exact (mem_allW.1 hx).1
 ·exact asc_nodup (((wordsG_asc h2 n).sublist (takenG_sub n r)).sublist (List.take_sublist _ _))
 ·exact (List.mem_filter.1 (hmem x hx)).2
 ·exact taken_pairs (g := g) (mrgs r) (wordsG g n) [] (fun _ h => nomatch h) a (List.mem_of_mem_take ha) b (List.mem_of_mem_take hb)
theorem law31_built (g : qaa) (a b c : UInt8) : m_law31_MergingBuilt g (a.toNat : Int) (b.toNat : Int) (c.toNat : Int) = some true := by
 have ha := a.toNat_lt
 have hb := b.toNat_lt
 have hc := c.toNat_lt
 generalize a.toNat = p1 at ha
 generalize b.toNat = p2 at hb
 generalize c.toNat = p3 at hc
 obtain ⟨gr, hgr, _⟩ := Great_tot g
 have e1 : IntKind.wrap .i64 ((Int.tmod (IntKind.wrap .i64 (p1 : Int)) 6) + 1) = ((p1 % 6 + 1 : Nat) : Int) := by
  rw [w64 (n := (p1 : Int)) (by omega) (by omega), show Int.tmod (p1 : Int) 6 = ((p1 % 6 : Nat) : Int) from (Int.ofNat_tmod p1 6).symm, w64 (by omega) (by omega)]
  omega
 have e2 : Int.tmod (IntKind.wrap .i64 (p2 : Int)) 4 = ((p2 % 4 : Nat) : Int) := by
  rw [w64 (n := (p2 : Int)) (by omega) (by omega)]
  exact (Int.ofNat_tmod p2 4).symm
 have e3 : IntKind.wrap .i64 ((Int.tmod (IntKind.wrap .i64 (p3 : Int)) 8) + 1) = ((p3 % 8 + 1 : Nat) : Int) := by
  rw [w64 (n := (p3 : Int)) (by omega) (by omega), show Int.tmod (p3 : Int) 8 = ((p3 % 8 : Nat) : Int) from (Int.ofNat_tmod p3 8).symm, w64 (by omega) (by omega)]
  omega
 unfold m_law31_MergingBuilt
 rw [e1, e2, e3, hgr, Option.bind_some]
 by_cases hG : gr = true
 ·rw [if_pos hG]; rfl
 rw [if_neg hG]
 have hn6 : p1 % 6 < 6 := Nat.mod_lt _ (by decide)
 have hr4 : p2 % 4 < 4 := Nat.mod_lt _ (by decide)
 have hm8 : p3 % 8 < 8 := Nat.mod_lt _ (by decide)
 generalize p1 % 6 = n0 at hn6
 generalize p2 % 4 = r at hr4
 generalize p3 % 8 = m0 at hm8
 clear e1 e2 e3
 obtain ⟨x, hx, -, -, -, hx0, hxe⟩ := Build_both g (n := ((n0 + 1 : Nat) : Int)) (r := (r : Int)) (m := ((m0 + 1 : Nat) : Int)) (by omega) (by omega) (by omega)
 rw [hx, Option.bind_some]
 by_cases hz : x.2 = 0
 case neg =>
  rw [if_pos hz]
  simp only [jp]
  rw [hxe hz]
  rfl
 rw [if_neg (fun h => h hz)]
 obtain ⟨hv, h2, he, hd, hi, n', r', m', en, er, em, hn1, hn, hr, hm1, hm, hxb⟩ := hx0 hz
 obtain rfl : n' = n0 + 1 := by omega
 obtain rfl : r' = r := by omega
 obtain rfl : m' = m0 + 1 := by omega
 subst hxb
 have hle : m0 + 1 ≤ (takenG g (n0 + 1) r').length := by
  unfold bldE at hz
  split at hz
  ·assumption
  ·exact absurd hz (by decide)
 have hE : bldE g (n0 + 1) r' (m0 + 1) = (((takenG g (n0 + 1) r').take (m0 + 1), mrgs r'), 0) := by unfold bldE; rw [if_pos hle]
 rw [hE]
 have hT := takenG_len (g := g) (r := r') h2 hn
 have hVJ := built_VJ hv h2 hn1 hn hr hm1 hle
 have hck : m_merging_Check ((takenG g (n0 + 1) r').take (m0 + 1), mrgs r') g = some 0 := by rw [Check31_eq hVJ.f.sm, VJ_zero hVJ]
 have hlen : ((takenG g (n0 + 1) r').take (m0 + 1)).length = m0 + 1 := by rw [List.length_take]; omega
 have hml := mrgs_len r'
 have hpow : (2 : Nat) ^ r' ≤ 2 ^ 3 := Nat.pow_le_pow_right (by decide) hr
 have hsort1 := ((wordsG_asc h2 (n0 + 1)).sublist (takenG_sub (g := g) (n0 + 1) r')).sublist (List.take_sublist (m0 + 1) _)
 have hsh : IntKind.wrap .i64 (1 * 2 ^ (min ((r' : Int)).toNat (IntKind.bits .i64))) = ((2 ^ r' : Nat) : Int) := by
  have : min ((r' : Int)).toNat (IntKind.bits .i64) = r' := by
   rw [Int.toNat_natCast]
   have : IntKind.bits .i64 = 64 := rfl
   omega
  rw [this, Int.one_mul, w64]
  ·simp
  ·have : (2 : Int) ^ r' = ((2 ^ r' : Nat) : Int) := by simp
   omega
  ·have : (2 : Int) ^ r' = ((2 ^ r' : Nat) : Int) := by simp
   omega
 have hnxt : IntKind.wrap .i64 (((m0 + 1 : Nat) : Int) - 1) = (m0 : Int) := by rw [w64 (by omega) (by omega)]; omega
 simp only [jp]
 rw [hck, Option.bind_some, if_neg (fun h => h rfl), hlen, if_neg (fun h => h rfl), if_pos (by omega), hsh, hml, if_neg (fun h => h rfl), IsSortedX (by omega) hsort1, Option.bind_some, IsSortedX (by omega) (mrgs_asc r'), hnxt]
 simp only [Bool.not_true, Bool.false_eq_true, if_false, Option.bind_some]
 have h0l : 0 < ((takenG g (n0 + 1) r').take (m0 + 1)).length := by omega
 rw [ix0 h0l, Option.bind_some]
 have hw0 := (wordsG_mem h2 (takenG_mem (List.mem_of_mem_take (List.getElem_mem h0l)))).1
 rw [hw0, decide_eq_false (fun h => h rfl)]
 simp only [Bool.false_eq_true, if_false]
 by_cases hm00 : m0 = 0
 ·subst hm00
  rw [if_pos (by decide)]
  rfl
 rw [if_neg (by omega)]
 have hless : qa9 g ((n0 + 1 : Nat) : Int) (r' : Int) (m0 : Int) = some (((takenG g (n0 + 1) r').take m0, mrgs r'), 0) := by
  rw [Build_in he hv h2 hd hi hn1 hn hr (by omega) (by omega)]
  unfold bldE
  rw [if_pos (by omega)]
 rw [hless, Option.bind_some]
 simp only [if_true]
 rw [if_pos (by omega), EqS_eq (by rw [List.length_take]; omega), Option.bind_some, EqS_eq (by omega), Int.toNat_natCast]
 simp only [Int.toNat_zero, List.drop_zero, List.take_take, show min m0 (m0 + 1) = m0 by omega, decide_true, if_true, Option.bind_some]
 rfl
end
end Go.AW
namespace Go.AW
open Go Go.ChangeShapes Go.WideShapes Go.ChangeAt Go.RowKit
def Kept (W W' : World) : Prop := W'.os = W.os ∧ W'.output = W.output ∧ W.heap.size ≤ W'.heap.size ∧ ∀ b : Nat, b < W.heap.size → W'.heap[b]? = W.heap[b]?
theorem Kept.frame {W W' : World} (h : Kept W W') (may : MemPlace → Prop) : W.keptBut W' may := by
 refine ⟨h.1, h.2.1, fun i hi => ?_⟩
 rw [h.2.2.2 i hi]
 cases W.heap[i]? with
 | none => rfl
 | some o => cases o with
  | cells c t fr => exact ⟨rfl, rfl, rfl, fun _ _ => rfl⟩
  | map es clock => exact .inr ⟨rfl, rfl⟩
  | _ => rfl
theorem Kept.frozen {W W' : World} (h : Kept W W') (a : Addr) (ha : a.block < W.heap.size) : W'.frozen? a = W.frozen? a := by
 simp only [World.frozen?, h.2.2.2 _ ha]
def Mu.zero : Mu := { nx := 0, loc := fun _ => none, held := fun _ => False }
theorem SR.zero (W : World) : SR W Mu.zero [] :=
 ⟨(fun _ _ _ h => by cases h), (fun _ _ _ h => by cases h), (fun _ _ h => by cases h), (fun _ _ _ _ _ h => by cases h), (fun _ h => h.elim)⟩
theorem calls_of_pure {P : Program} {f : FuncId} {args : List HV} {vs : List Value} {W : World} (hp : Pure P f args (· = .bool true)) (hr : RepL W Mu.zero args vs) (hgl : GlOk W Mu.zero := by exact fun _ h => by cases h) :
  Calls P f vs.toArray W fun e W' => e = .returned (.bool true) ∧ Kept W W' := by
 refine (hp.2 Mu.zero W vs (SR.zero W) hr hgl).mono ?_
 rintro e W' ⟨v, r, H', μ', rfl, ⟨rfl, _, _⟩, hs, hv, E⟩
 have hv' : v = .bool true := hv
 subst hv'
 exact ⟨rfl, E.os, E.output, E.size, fun b hb => E.keep b hb fun ⟨_, _, hl⟩ => by cases hl⟩
theorem post_of_kept {H : Type} {enc : TypeId × Value → H} {P : Program} {f : Func} {s : ChangeSpec} {apart fresh handsOn again : Bool} {W W' : World} {args : Array Value} {v : Value} {ds gs : List (DataW H)} {before pa pv : List MemPlace}
  (hW : DataW.Whole enc P f.params.toList s.vars apart W args.toList ds gs before)
  (hres : ∀ (b : Nat) (sp : Nat → Bool) (hd : Bool), DataW.TrodAll enc P W' b sp hd f.resultTypes.toList (v.resultList f.resultTypes.size) (s.fn H (ds ++ gs)).results [])
  (hargs : ∀ sp : Nat → Bool, (∀ p ∈ before, sp p.block = true) → DataW.TrodAll enc P W' 0 sp true f.params.toList args.toList (s.fn H (ds ++ gs)).args pa)
  (hvars : ∀ sp : Nat → Bool, (∀ p ∈ before, sp p.block = true) → DataW.TrodVars enc P W' sp s.vars (s.fn H (ds ++ gs)).vars pv)
  (hps : before = pa ++ pv) (hk : Kept W W')
  (hok : ∀ (j : Nat) (t : TypeId) (r : Value), f.resultTypes[j]? = some t → (v.resultList f.resultTypes.size)[j]? = some r → Value.okWide P W' .any 0 t r) :
  s.post enc P f apart fresh handsOn again W args v W' := by
 have hold : ∀ p ∈ before, (fun b => decide (b < W.heap.size)) p.block = true := fun p hp => by simpa using hW.lt p hp
 refine ⟨ds, gs, before, [], pa, pv, hW, hres _ _ _, hargs _ hold, hvars _ hold, World.keptBut_mono (fun p hp => ⟨hp, ?_⟩) (hk.frame (· ∈ before)), fun _ => ?_⟩
 ·rw [hps, List.mem_append] at hp
  exact Or.inr hp
 ·have hlt := hW.lt
  obtain ⟨_, _, _, _, _, hz, hn⟩ := hW
  refine ⟨hok, _, _, ([] ++ pa) ++ pv, ⟨[] ++ pa, pv, trodAll_append (hargs _ (fun _ _ => rfl)) (hres _ _ _), hvars _ (fun _ _ => rfl), rfl, ?_, ?_⟩, ?_⟩
  ·intro b off hp
   have hp' : MemPlace.cell b off ∈ before := by rw [hps]; simpa using hp
   rw [hk.frozen _ (hlt _ hp')]
   exact hz b off hp'
  ·intro ha
   have := hn ha
   rw [hps] at this
   simpa using this
  ·intro p hp _
   rw [hps]
   simpa using hp
theorem rowAt_le {p : Program} {fits : TypeId → Bool} {d : Nat} {e : TypeId} {count off n : Nat} (h : rowAt p fits d e count off n = true) : off ≤ count * p.cellsOf e := by
 cases d with
 | zero => simp [rowAt] at h
 | succ d =>
  unfold rowAt at h
  simp only at h
  split at h
  ·cases h
  ·rename_i hs
   have hs' : 0 < p.cellsOf e := Nat.pos_of_ne_zero hs
   have hd := Nat.div_add_mod off (p.cellsOf e)
   rw [Nat.mul_comm] at hd
   simp only [Bool.or_eq_true, Bool.and_eq_true, beq_iff_eq, decide_eq_true_eq] at h
   rcases h with ⟨⟨h0, h1⟩, _⟩ | ⟨h1, _⟩
   ·rw [← hd, h0, Nat.add_zero]
    exact Nat.mul_le_mul_right _ (by omega)
   ·have hm := Nat.mod_lt off hs'
    have : (off / p.cellsOf e + 1) * p.cellsOf e ≤ count * p.cellsOf e := Nat.mul_le_mul_right _ h1
    rw [Nat.add_mul] at this
    omega
theorem liesAt_le {p : Program} {d : Nat} {e u : TypeId} {count off n : Nat} (h : liesAt p d e count off u n = true) : off ≤ count * p.cellsOf e := by
 induction d generalizing u n with
 | zero => simp [liesAt] at h
 | succ d ih =>
  unfold liesAt at h
  rw [Bool.or_eq_true] at h
  rcases h with h | h
  ·exact rowAt_le h
  ·split at h
   ·exact ih h
   ·cases h
theorem has_seg {P : Program} {W : World} {r : Reach} {base : Nat} {a : Addr} {e : TypeId} {cap : Nat} (h : W.has P r base a e cap) {vs : List Value} (hc : ∀ i (hi : i < vs.length), W.cell? (a.add i) = some vs[i]) :
  ∃ b off, a = ⟨b, off, none⟩ ∧ Seg W b off vs := by
 obtain ⟨_, hsp, row, cells, hsh, hl⟩ := h
 obtain ⟨b, off, spot⟩ := a
 dsimp only at hsp hsh hl
 subst hsp
 refine ⟨b, off, rfl, ?_⟩
 unfold World.shape? at hsh
 split at hsh
 ·rename_i cur e' fr hb
  simp only [Option.some.injEq, Prod.mk.injEq] at hsh
  obtain ⟨rfl, rfl⟩ := hsh
  have hoff : off ≤ cur.size := Nat.le_trans (liesAt_le hl) (Nat.div_mul_le_self _ _)
  have hget : ∀ i (hi : i < vs.length), cur.toList[off + i]? = some vs[i] := fun i hi => by
   have := hc i hi
   rw [add_plain] at this
   unfold World.cell? at this
   rw [hb] at this
   simpa using this
  refine ⟨cur, e', fr, cur.toList.take off, cur.toList.drop (off + vs.length), hb, ?_, by simp [hoff]⟩
  have hvs : vs = (cur.toList.drop off).take vs.length := by
   apply List.ext_getElem?
   intro i
   rcases Nat.lt_or_ge i vs.length with hi | hi
   ·rw [List.getElem?_take_of_lt hi, List.getElem?_drop, hget i hi, List.getElem?_eq_getElem hi]
   ·rw [List.getElem?_eq_none hi, List.getElem?_eq_none (by simp; omega)]
  have : vs ++ cur.toList.drop (off + vs.length) = cur.toList.drop off := by
   conv => lhs; arg 1; rw [hvs]
   rw [← List.drop_drop]
   exact List.take_append_drop _ _
  rw [List.append_assoc, this, List.take_append_drop]
 ·cases hsh
theorem nown (b : Nat) : ¬ Mu.zero.owns b := fun h => h.elim (fun ⟨_, _, h⟩ => by cases h) id
theorem open_num {H : Type} {enc : TypeId × Value → H} {P : Program} {W : World} {base : Nat} {t : TypeId} {k : IntKind} {v : Value} {d : DataW H} {ps : List MemPlace} (ht : P.underlying t = some (.int k))
  (hval : Value.okWide P W .any base t v) (h : DataW.Trod enc P W 0 (fun _ => true) true t v d ps) : ∃ n : Int, (Lit.int k n).wf = true ∧ Rep W Mu.zero (.int k n) v := by
 obtain ⟨n, rfl, _, _, hw⟩ := open_int ht hval h
 exact ⟨n, hw, rfl, hw⟩
theorem open_u8 {H : Type} {enc : TypeId × Value → H} {P : Program} {W : World} {base : Nat} {t : TypeId} {v : Value} {d : DataW H} {ps : List MemPlace} (ht : P.underlying t = some (.int .u8))
  (hval : Value.okWide P W .any base t v) (h : DataW.Trod enc P W 0 (fun _ => true) true t v d ps) : ∃ b : UInt8, Rep W Mu.zero (.int .u8 (b.toNat : Int)) v := by
 obtain ⟨n, hw, hr⟩ := open_num ht hval h
 have hw' : (0 : Int) ≤ n ∧ n ≤ 255 := by
  simp only [Lit.wf, Bool.and_eq_true, decide_eq_true_eq] at hw
  exact hw
 refine ⟨UInt8.ofNat n.toNat, ?_⟩
 have : ((UInt8.ofNat n.toNat).toNat : Int) = n := by
  rw [UInt8.toNat_ofNat']
  omega
 rw [this]
 exact hr
theorem trodAll_stays {H : Type} {enc : TypeId × Value → H} {P : Program} (hl : laidOutB P = true) {W W' : World} {sp : Nat → Bool} : ∀ {ts : List TypeId} {vs : List Value} {ds : List (DataW H)} {ps : List MemPlace},
  (ts.all fun t => P.readableRec t && decide (t < P.types.size)) = true → DataW.TrodAll enc P W 0 (fun _ => true) true ts vs ds ps → (∀ p ∈ ps, W.sameAt W' p) → (∀ p ∈ ps, sp p.block = true) → DataW.TrodAll enc P W' 0 sp true ts vs ds ps
 | [], vs, ds, ps, _, h, _, _ => by
  obtain ⟨rfl, rfl, rfl⟩ := trodAll_nil h
  exact trodAll_mk0
 | t :: ts, vs, ds, ps, ht, h, h1, h2 => by
  obtain ⟨v, vs', d, ds', p, q, rfl, rfl, rfl, h3, h4⟩ := trodAll_cons h
  simp only [List.all_cons, Bool.and_eq_true, decide_eq_true_eq] at ht
  exact trodAll_cons_mk (WideElems.Trod_stays hl ht.1.1 ht.1.2 h3 (fun x hx => h1 x (List.mem_append_left _ hx)) (fun x hx => h2 x (List.mem_append_left _ hx)))
   (trodAll_stays hl ht.2 h4 (fun x hx => h1 x (List.mem_append_right _ hx)) (fun x hx => h2 x (List.mem_append_right _ hx)))
theorem Kept.same {W W' : World} (h : Kept W W') (p : MemPlace) (hp : p.block < W.heap.size) : W.sameAt W' p := by
 cases p with
 | cell b off =>
  show W'.cell? ⟨b, off, none⟩ = W.cell? ⟨b, off, none⟩
  unfold World.cell?
  rw [h.2.2.2 b hp]
 | map b => exact h.2.2.2 b hp
theorem post_of_true {H : Type} {enc : TypeId × Value → H} {P : Program} {f : Func} {s : ChangeSpec} {apart fresh handsOn again : Bool} {W W' : World} {args : Array Value} {ds gs : List (DataW H)} {before : List MemPlace} {t : TypeId}
  (hl : laidOutB P = true) (hps : (f.params.toList.all fun t => P.readableRec t && decide (t < P.types.size)) = true) (hres : f.resultTypes = #[t]) (ht : P.underlying t = some .bool) (hv : s.vars = [])
  (hW : DataW.Whole enc P f.params.toList s.vars apart W args.toList ds gs before) (hk : Kept W W')
  (h1 : (s.fn H (ds ++ gs)).results = [.lit (.bool true)]) (h2 : (s.fn H (ds ++ gs)).args = ds) (h3 : (s.fn H (ds ++ gs)).vars = []) :
  s.post enc P f apart fresh handsOn again W args (.bool true) W' := by
 have hlt := hW.lt
 have hW' := hW
 obtain ⟨p, q, hA, hV, rfl, _, _⟩ := hW
 rw [hv] at hV
 obtain ⟨rfl, rfl⟩ := trodVars_none hV
 refine post_of_kept (pa := p) (pv := []) hW' (fun _ _ _ => ?_) (fun sp hsp => ?_) (fun _ _ => ?_) (by simp) hk (ok_one hres rfl (okWide_bool_mk ht _))
 ·rw [hres, h1]
  exact trodAll_cons_mk (shut_bool ht _) trodAll_mk0
 ·rw [h2]
  exact trodAll_stays hl hps hA (fun x hx => hk.same x (hlt x (by simpa using hx))) (fun x hx => hsp x (by simpa using hx))
 ·rw [h3, hv]
  rfl
section
variable {H : Type} {enc : TypeId × Value → H} {P : Program} {W : World} {base : Nat}
theorem repL_app {μ : Mu} : ∀ {hs ks : List HV} {vs us : List Value}, RepL W μ hs vs → RepL W μ ks us → RepL W μ (hs ++ ks) (vs ++ us)
 | [], _, _, _, h, h' => by cases h; exact h'
 | _ :: _, _, _, _, ⟨x, xs, rfl, h1, h2⟩, h' => ⟨x, _, rfl, h1, repL_app h2 h'⟩
theorem add_adds (a : Addr) (i j : Nat) : (a.add i).add j = a.add (i + j) := by
 unfold Addr.add
 repeat' split
 all_goals simp_all [Nat.add_assoc]
theorem open_rows {α : Type} (c : EncL α) {fuel : Nat} {t e : TypeId} {cs : List Value} {x : DataW H × List MemPlace} (ht : P.underlying t = some (.slice e)) (hk : P.cellsOf e = c.k) (hone : ∀ x, ones (c.C x))
  (hel : ∀ n cs y, DataW.trod enc P W 0 (fun _ => true) true n e cs = some y → ∃ x : α, RepL W Mu.zero (c.C x) cs)
  (hhas : ∀ a len cap, cs = [.slice (some a) len cap] → W.has P .any base a e cap) (h : DataW.trod enc P W 0 (fun _ => true) true fuel t cs = some x) : ∃ l : List α, RepL W Mu.zero [slE c l] cs := by
 rcases DataW.trod_slice ht h with ⟨rfl, _⟩ | ⟨a, len, cap, elems, rest, n, _, rfl, _, _, hl, hm, hlen, hel', _, _⟩
 ·refine ⟨[], _, _, rfl, ?_, rfl⟩
  show _ ∧ _
  exact ⟨(by rw [c.nil]; exact fun _ h => nomatch h), (by rw [c.nil]; simp), Nat.zero_le _, .inl ⟨rfl, none, rfl⟩⟩
 ·have each : ∀ i, i < len → ∃ cs' x, W.cells? 0 (a.add (i * c.k)) c.k = some cs' ∧ RepL W Mu.zero (c.C x) cs' := fun i hi => by
   have h1 := hel' i hi
   rw [List.getElem?_eq_getElem (by omega), Option.bind_eq_some_iff, hk] at h1
   obtain ⟨cs', h2, h3⟩ := h1
   obtain ⟨x, hx⟩ := hel _ _ _ h3
   exact ⟨cs', x, h2, hx⟩
  have build : ∀ m, m ≤ len → ∃ (l : List α) (vs : List Value), l.length = m ∧ vs.length = m * c.k ∧ RepL W Mu.zero (c.E l) vs ∧ ∀ i (hi : i < vs.length), W.cell? (a.add i) = some vs[i] := by
   intro m
   induction m with
   | zero => exact fun _ => ⟨[], [], rfl, by simp, by rw [c.nil]; rfl, fun i hi => by simp at hi⟩
   | succ m ih =>
    intro hm
    obtain ⟨l, vs, h1, h2, h3, h4⟩ := ih (by omega)
    obtain ⟨cs', x, h5, h6⟩ := each m (by omega)
    obtain ⟨_, h7, h8⟩ := World.cells?_some h5
    refine ⟨l ++ [x], vs ++ cs', by simp [h1], by rw [List.length_append, h2, h7, Nat.succ_mul], by rw [c.append, c.one]; exact repL_app h3 h6, fun i hi => ?_⟩
    rcases Nat.lt_or_ge i vs.length with hi' | hi'
    ·rw [List.getElem_append_left hi']; exact h4 i hi'
    ·rw [List.getElem_append_right hi']
     rw [List.length_append] at hi
     have := h8 (i - vs.length) (by omega)
     rw [add_adds, h2, show m * c.k + (i - m * c.k) = i by omega] at this
     rw [this, List.getElem?_eq_getElem (by omega)]
     simp only [h2]
  obtain ⟨l, vs, h1, h2, h3, h4⟩ := build len (Nat.le_refl _)
  obtain ⟨b, off, rfl, hseg⟩ := has_seg (hhas _ _ _ rfl) h4
  refine ⟨l, _, _, rfl, ?_, rfl⟩
  show _ ∧ _
  refine ⟨fun d hd => ?_, c.len l, by omega, .inr ⟨b, off, cap, vs, by rw [h1], by omega, nown b, hseg, h3⟩⟩
  rw [c.hE] at hd
  obtain ⟨x, _, hdx⟩ := List.mem_flatMap.1 hd
  exact hone x d hdx
theorem open3 {t : TypeId} {f0 f1 f2 : Field} {fuel : Nat} {cs : List Value} {x : DataW H × List MemPlace} (ht : P.underlying t = some (.struct #[f0, f1, f2])) (o0 : f0.offset = 0) (o1 : f1.offset = 1) (o2 : f2.offset = 2) (c : P.cellsOf t = 3)
  (c0 : P.cellsOf f0.type = 1) (c1 : P.cellsOf f1.type = 1) (c2 : P.cellsOf f2.type = 1) (h : DataW.trod enc P W 0 (fun _ => true) true fuel t cs = some x) :
  ∃ v0 v1 v2 y0 y1 y2 n, cs = [v0, v1, v2] ∧ DataW.trod enc P W 0 (fun _ => true) true n f0.type [v0] = some y0 ∧ DataW.trod enc P W 0 (fun _ => true) true n f1.type [v1] = some y1 ∧ DataW.trod enc P W 0 (fun _ => true) true n f2.type [v2] = some y2 := by
 obtain ⟨xs, n, _, rfl, hl, hlen, hf⟩ := DataW.trod_struct ht h
 rw [c] at hl
 match cs, hl with
 | [v0, v1, v2], _ =>
  match xs, hlen with
  | [y0, y1, y2], _ =>
   refine ⟨v0, v1, v2, y0, y1, y2, n, rfl, ?_, ?_, ?_⟩
   ·have := hf 0 f0 rfl; rw [o0, c0] at this; exact this
   ·have := hf 1 f1 rfl; rw [o1, c1] at this; exact this
   ·have := hf 2 f2 rfl; rw [o2, c2] at this; exact this
theorem rep_i64 {n : Int} {ti : TypeId} {m : Nat} {v : Value} {y : DataW H × List MemPlace} (hti : P.underlying ti = some (.int .i64)) (h : DataW.trod enc P W 0 (fun _ => true) true m ti [v] = some y) : ∃ n : Int, Rep W Mu.zero (.int .i64 n) v := by
 obtain ⟨n, hv, _, hw⟩ := DataW.trod_int hti h
 cases hv
 exact ⟨n, rfl, hw⟩
theorem open_graph {t ti ts te : TypeId} {f0 f1 f2 e0 e1 e2 : Field} {v : Value} {d : DataW H} {ps : List MemPlace} (ht : P.underlying t = some (.struct #[f0, f1, f2])) (o : f0.offset = 0 ∧ f1.offset = 1 ∧ f2.offset = 2) (y : f0.type = ti ∧ f1.type = ti ∧ f2.type = ts)
  (c : P.cellsOf t = 3) (ci : P.cellsOf ti = 1) (cs : P.cellsOf ts = 1) (ct : P.cellTypes P.depth t = some [ti, ti, ts]) (hti : P.underlying ti = some (.int .i64)) (hts : P.underlying ts = some (.slice te))
  (hte : P.underlying te = some (.struct #[e0, e1, e2])) (oe : e0.offset = 0 ∧ e1.offset = 1 ∧ e2.offset = 2) (ye : e0.type = ti ∧ e1.type = ti ∧ e2.type = ti) (ce : P.cellsOf te = 3)
  (hval : Value.okWide P W .any base t v) (h : DataW.Trod enc P W 0 (fun _ => true) true t v d ps) : ∃ g : qaa, Rep W Mu.zero (.agg [.int .i64 g.1, .int .i64 g.2.1, slE eFromLabelTo g.2.2]) v := by
 obtain ⟨y0, y1, y2⟩ := y
 obtain ⟨z0, z1, z2⟩ := ye
 simp only [Value.okWide, ht] at hval
 obtain ⟨arr, rfl, _, hrow⟩ := hval
 obtain ⟨fuel, hf⟩ := h
 obtain ⟨v0, v1, v2, a0, a1, a2, n, hcs, h0, h1, h2⟩ := open3 ht o.1 o.2.1 o.2.2 c (by rw [y0]; exact ci) (by rw [y1]; exact ci) (by rw [y2]; exact cs) hf
 have harr : arr = #[v0, v1, v2] := by
  have : arr.toList = [v0, v1, v2] := hcs
  cases arr
  simp_all
 subst harr
 rw [y0] at h0
 rw [y1] at h1
 rw [y2] at h2
 obtain ⟨l, r0⟩ := rep_i64 (n := 0) hti h0
 obtain ⟨s, r1⟩ := rep_i64 (n := 0) hti h1
 obtain ⟨es, _, _, r2, r2', r2''⟩ := open_rows (base := base) eFromLabelTo hts ce (fun x d hd => by
   have hd : d ∈ [HV.int .i64 x.1, HV.int .i64 x.2.1, HV.int .i64 x.2.2] := hd
   simp only [List.mem_cons, List.not_mem_nil, or_false] at hd
   rcases hd with rfl | rfl | rfl <;> rfl) (fun m cs' y hy => by
   obtain ⟨w0, w1, w2, b0, b1, b2, n', rfl, k0, k1, k2⟩ := open3 hte oe.1 oe.2.1 oe.2.2 ce (by rw [z0]; exact ci) (by rw [z1]; exact ci) (by rw [z2]; exact ci) hy
   rw [z0] at k0
   rw [z1] at k1
   rw [z2] at k2
   obtain ⟨p0, q0⟩ := rep_i64 (n := 0) hti k0
   obtain ⟨p1, q1⟩ := rep_i64 (n := 0) hti k1
   obtain ⟨p2, q2⟩ := rep_i64 (n := 0) hti k2
   exact ⟨(p0, p1, p2), _, _, rfl, q0, _, _, rfl, q1, _, _, rfl, q2, rfl⟩) (fun a len cap e => by
   cases e
   obtain ⟨tys, ht1, _, hcell⟩ := hrow
   rw [ct] at ht1
   cases ht1
   obtain ⟨u, hu, hok⟩ := hcell 2 (.slice (some a) len cap) rfl
   cases hu
   simp only [Cell.okWide, hts, Cell.ok] at hok
   exact hok.2.2) h2
 cases r2
 refine ⟨(l, s, es), ?_⟩
 show _ ∧ _
 refine ⟨fun d hd => ?_, _, rfl, _, _, rfl, r0, _, _, rfl, r1, _, _, rfl, r2', rfl⟩
 simp only [List.mem_cons, List.not_mem_nil, or_false] at hd
 rcases hd with rfl | rfl | rfl <;> rfl
end
end Go.AW
namespace Go.AW
open Go Go.ChangeShapes Go.WideShapes Go.ChangeAt Go.RowKit
section
variable {H : Type} {enc : TypeId × Value → H} {P : Program} {W : World} {base : Nat}
end
end Go.AW
namespace Go.AW
open Go Go.ChangeShapes Go.WideShapes Go.ChangeAt Go.RowKit
section
variable {H : Type} {enc : TypeId × Value → H} {P : Program} {W : World} {base : Nat}
end
end Go.AW
namespace Go.AW
open Go Go.ChangeShapes Go.WideShapes Go.ChangeAt Go.RowKit
section
variable {H : Type} {enc : TypeId × Value → H} {P : Program} {W : World} {base : Nat}
end
end Go.AW
namespace Go.Proofs.YtlddcjolelmpmaaGreat
open Go Go.AW Go.ChangeShapes Go.WideShapes Go.ChangeAt Go.RowKit Go.ChangeMaps
theorem ownM : ownKnob Tryz.prog.godebug = none := by kernel_rfl
theorem laidB : laidOutB Tryz.prog = true := by kernel_rfl
theorem wLaw (a0 : qaa) (a1 : UInt8) (a2 : UInt8) (a3 : UInt8) : Pure Tryz.prog 11 [HV.agg [HV.int .i64 a0.1, HV.int .i64 a0.2.1, slE eFromLabelTo a0.2.2], .int .u8 a1.toNat, .int .u8 a2.toNat, .int .u8 a3.toNat] (· = .bool true) := w_law31_MergingBuilt (law31_built a0 a1 a2 a3)
set_option maxRecDepth 100000 in
theorem liftedL (os : Os) (started : os.Started) (H : Type) (enc : TypeId × Value → H) :
  ReturnsInHanded {} Tryz.checked os 11 .any (Rows.mergingBuiltSpec.pre6 enc Tryz.prog Tryz.f11 Rows.mergingBuiltRow.domain false) (Rows.mergingBuiltSpec.post enc Tryz.prog Tryz.f11 false true false false) := by
 refine returnsInHanded_of_change (C := Tryz.checked) ownM started (by kernel_rfl) Tryz.func11
  (ChangeSpec.witness6 (enc := enc) (C := Tryz.checked) false ⟨#[], #[.agg #[.int .i64 0, .int .i64 0, .slice none 0 0], .int .u8 0, .int .u8 0, .int .u8 0], []⟩ 8 (by kernel_rfl) (by kernel_rfl) (by kernel_rfl) (by kernel_rfl)) ?_
 intro W base args ds gs before hval0 hW hcnd _
 have hval : ∀ (j : Nat) t v, Tryz.f11.params[j]? = some t → args[j]? = some v → Value.okWide Tryz.prog W .any base t v := hval0
 have hW' := hW
 obtain ⟨p, q, hA0, hV, rfl, hfz, hnd⟩ := hW
 have hA : DataW.TrodAll enc Tryz.prog W 0 (fun _ => true) true Tryz.f11.params.toList args.toList ds p := hA0
 rw [Tryz.params11] at hA hval
 obtain ⟨v0, vs0, d0, ds0, p0, q0, hargs, rfl, rfl, h0, r0⟩ := trodAll_cons hA
 obtain ⟨v1, vs1, d1, ds1, p1, q1, rfl, rfl, rfl, h1, r1⟩ := trodAll_cons r0
 obtain ⟨v2, vs2, d2, ds2, p2, q2, rfl, rfl, rfl, h2, r2⟩ := trodAll_cons r1
 obtain ⟨v3, vs3, d3, ds3, p3, q3, rfl, rfl, rfl, h3, r3⟩ := trodAll_cons r2
 obtain ⟨rfl, rfl, rfl⟩ := trodAll_nil r3
 obtain rfl : args = #[v0, v1, v2, v3] := by cases args; simp_all
 obtain ⟨rfl, rfl⟩ := trodVars_none hV
 obtain ⟨a0, hr0⟩ := open_graph Tryz.underlying27 ⟨rfl, rfl, rfl⟩ ⟨rfl, rfl, rfl⟩ (by kernel_rfl) (by kernel_rfl) (by kernel_rfl) (by kernel_rfl) Tryz.underlying3 Tryz.underlying25 Tryz.underlying128 ⟨rfl, rfl, rfl⟩ ⟨rfl, rfl, rfl⟩ (by kernel_rfl) (hval 0 27 v0 rfl rfl) h0
 obtain ⟨a1, hr1⟩ := open_u8 Tryz.underlying5 (hval 1 5 v1 rfl rfl) h1
 obtain ⟨a2, hr2⟩ := open_u8 Tryz.underlying5 (hval 2 5 v2 rfl rfl) h2
 obtain ⟨a3, hr3⟩ := open_u8 Tryz.underlying5 (hval 3 5 v3 rfl rfl) h3
 refine (calls_of_pure (vs := [v0, v1, v2, v3]) (wLaw a0 a1 a2 a3) ⟨_, _, rfl, hr0, _, _, rfl, hr1, _, _, rfl, hr2, _, _, rfl, hr3, rfl⟩).mono fun e W' ⟨he, hk⟩ => ?_
 subst he
 exact ⟨_, rfl, post_of_true laidB (by kernel_rfl) rfl Tryz.underlying4 rfl hW' hk rfl rfl rfl⟩
theorem fIn : Program.inPlace Tryz.pinned.checked.prog 11 = Rows.mergingBuiltRow.inPlace := by kernel_rfl
theorem fUn : Program.unfollowed Tryz.pinned.checked.prog 11 = Rows.mergingBuiltRow.unfollowed := by kernel_rfl
theorem fRe : Program.recurses Tryz.pinned.checked.prog 11 = Rows.mergingBuiltRow.recurses := by kernel_rfl
theorem fNa : Program.varsNamed Tryz.pinned.checked.prog 11 = Rows.mergingBuiltRow.named := by kernel_rfl
theorem closedF : joinedFacts Tryz.pinned.checked.prog 11 Tryz.f11 Rows.mergingBuiltSpec Rows.mergingBuiltRow = true := by
 unfold joinedFacts
 rw [fIn, fUn, fRe, fNa]
 kernel_rfl
theorem mergingBuiltProved : Rows.MergingBuiltSaid :=
 OpenClaim.holds_of_wide 11 Tryz.f11 rfl rfl rfl rfl rfl rfl rfl ⟨rfl, rfl, rfl, rfl, rfl⟩ rfl rfl rfl rfl rfl (by kernel_rfl) Tryz.func11 closedF
  (of_decide_eq_true (by kernel_rfl)) (by unfold Func.isWrapper; first | (rw [if_pos (by decide +kernel)]; kernel_rfl) | (rw [if_neg (by decide +kernel)]; exact ⟨rfl, rfl⟩))
  (fun os started H enc _ => liftedL os started H enc)
#print axioms mergingBuiltProved
end Go.Proofs.YtlddcjolelmpmaaGreat

import Derived.Test.YtlddcjolelmpmaaGreatBt5
set_option linter.unusedSimpArgs false
set_option linter.unusedVariables false
namespace Go.AW
open Go Go.Proofs
set_option maxHeartbeats 1600000
set_option maxRecDepth 100000
theorem w_merging_Encode {p0 : qaq} {p1 : qaa} {p2 : List (Int)} {r : (List UInt8) × Int} (h : m_merging_Encode p0 p1 p2 = some r) : Pure Tryz.prog 15 [jA p0, gA p1, slE eInt p2] (· = HV.tup [.str r.1, hI r.2]) := by
 unfold m_merging_Encode at h
 refine Pure.of_body Tryz.func15 rfl rfl (lb rfl) fun hf => ?_
 unfold Tryz.f15
 dsimp only [qaG, Nat.reduceAdd]
 refine AW.rgs rfl fun K hK => b_op rfl (o_box rfl rfl rfl ?_)
 refine b_op rfl (o_box rfl rfl rfl ?_)
 refine mv rfl rfl (mv rfl rfl ?_)
 let P1 : ASf := fun t H => ⟨(2, slE eInt p2) :: (3, jF p0) :: (4, gF p1) :: t, H⟩
 refine bf hK (P1 [] []) ?_
 refine AW.seq ?_
 refine AW.rgs rfl fun K hK => bv rfl (qab ty24 rfl (qaz rfl (lb rfl) rfl)) (bv rfl (qab ty27 rfl (qaz rfl (lb rfl) rfl)) (mv rfl rfl ?_))
 obtain ⟨x1, h2, h⟩ := bS h
 refine b_op rfl (qay rfl rfl rfl rfl (ACallD.pure0 (w_merging_inputs h2)) ?_)
 refine mv rfl rfl ?_
 refine bf hK (P1 [(8, hI x1)] []) ?_
 refine AW.rgs rfl fun K hK => mv rfl rfl (bv rfl (qaf rfl rfl b_neq) ?_)
 refine bf hK (P1 [(8, hI x1), (25, .bool (decide (x1 ≠ 0)))] []) ?_
 refine AW.cond rfl (fun hc => ?_) (fun hc => ?_)
 ·obtain ⟨hc, h⟩ := cT hc h
  refine AW.rgs rfl fun K hK => mv rfl rfl (mv rfl rfl (mv rfl rfl ?_))
  refine bf hK ⟨[(6, .str nS), (7, hI x1)], []⟩ ?_
  obtain rfl := oi h
  exact AW.ret (qac (.inr rfl) (resT rfl (resT rfl rfl)) rfl ⟨trivial, trivial, trivial⟩)
 obtain ⟨hc, h⟩ := cF hc h
 refine AW.skip ?_
 refine AW.seq ?_
 refine AW.rgs rfl fun K hK => mv rfl rfl (bv rfl (qaI rfl rfl ty31 rfl) (bv rfl (qaf rfl rfl b_eql) ?_))
 refine bf hK (P1 [(29, .bool (decide (((p2).length : Int) = 0)))] []) ?_
 refine AW.cond rfl (fun hc => ?_) (fun hc => ?_)
 ·obtain ⟨hc, h⟩ := cT hc h
  refine AW.rgs rfl fun K hK => mv rfl rfl (mv rfl rfl ?_)
  refine bf hK ⟨[(6, .str nS), (7, hI 0)], []⟩ ?_
  obtain rfl := oi h
  exact AW.ret (qac (.inr rfl) (resT rfl (resT rfl rfl)) rfl ⟨trivial, trivial, trivial⟩)
 obtain ⟨hc, h⟩ := cF hc h
 refine AW.skip ?_
 refine AW.dgs 12 follows rfl rfl fun K hK => ?_
 refine sv rfl (qad fo24_0 rfl) ?_
 refine sv rfl (qab ty22 rfl (qam rfl rfl)) ?_
 obtain ⟨x3, h4, h⟩ := bS h
 refine sv rfl (qaW ty22 es22 rfl rfl (qaO h4)) ?_
 refine sv rfl (qab ty9 rfl (qaZ eStr h4 (o := 0) rfl rfl)) ?_
 refine sv rfl (v_lenS rfl rfl ty9 rfl) ?_
 refine sv rfl (qad fo24_1 rfl) ?_
 refine sv rfl (qab ty22 rfl (qam rfl rfl)) ?_
 obtain ⟨x5, h6, h⟩ := bS h
 refine sv rfl (qaW ty22 es22 rfl rfl (qaO h6)) ?_
 refine sv rfl (qab ty9 rfl (qaZ eStr h6 (o := 0) rfl rfl)) ?_
 refine sv rfl (v_lenS rfl rfl ty9 rfl) ?_
 iterate 2 refine sm rfl rfl ?_
 refine s_nil ?_
 refine bf hK (P1 [(9, hI ((x3).length : Int)), (10, hI ((x5).length : Int))] []) ?_
 refine AW.seq ?_
 refine AW.rgs rfl fun K hK => mv rfl rfl (bv rfl (qaI rfl rfl ty31 rfl) (mv rfl rfl (bv rfl (qaf rfl rfl b_add) (mv rfl rfl (mv rfl rfl ?_)))))
 refine bv rfl (qaf rfl rfl b_add) ?_
 obtain ⟨h7, h⟩ := ifN h
 refine bv rfl (qaf rfl rfl (b_quo h7)) (bv rfl (qaf rfl rfl b_gtr) ?_)
 refine bf hK (P1 [(48, .bool (decide ((IntKind.wrap .i64 (Int.tdiv (IntKind.wrap .i64 (65536 + ((x5).length : Int))) (IntKind.wrap .i64 (((x3).length : Int) + ((x5).length : Int))))) < ((p2).length : Int))))] []) ?_
 refine AW.cond rfl (fun hc => ?_) (fun hc => ?_)
 ·obtain ⟨hc, h⟩ := cT hc h
  refine AW.rgs rfl fun K hK => mv rfl rfl (mv rfl rfl ?_)
  refine bf hK ⟨[(6, .str nS), (7, hI 4)], []⟩ ?_
  obtain rfl := oi h
  exact AW.ret (qac (.inr rfl) (resT rfl (resT rfl rfl)) rfl ⟨trivial, trivial, trivial⟩)
 obtain ⟨hc, h⟩ := cF hc h
 refine AW.skip ?_
 refine AW.rgs rfl fun K hK => bv rfl (qad fo27_1 rfl) (bv rfl (qab ty3 rfl (qam rfl rfl)) ?_)
 obtain ⟨h9, h⟩ := ifN h
 refine b_op rfl (o_makeE (fid := 15) eInt (0 : Int) 15051 rfl rfl ty31 rfl rfl ty3 rfl rfl h9 (fun v8 => ?_))
 refine b_op rfl (qbj (fid := 15) (zs := [.v (.slice none 0 0)]) 15011 rfl rfl ty31 rfl (fun v10 => ?_))
 refine b_op rfl (qaH (cs := [.ar 15051 v8 eInt.k 0 ((List.replicate (p1.2.1).toNat (0 : Int)).length)]) (zs := [.ar 15051 v8 eInt.k 0 ((List.replicate (p1.2.1).toNat (0 : Int)).length)]) rfl rfl rfl ty31 rfl rfl rfl rfl rfl ?_)
 let O1 : Nat × Nat × AObj := (15051, v8, .arr eInt.k 3 (eInt.E (List.replicate (p1.2.1).toNat (0 : Int))))
 let O2 : Nat × Nat × AObj := (15011, v10, .arr 1 31 [.ar 15051 v8 eInt.k 0 ((List.replicate (p1.2.1).toNat (0 : Int)).length)])
 refine bf hK (P1 [(11, .ptr 15011 v10 0)] [O1, O2]) ?_
 refine AW.seq ?_
 refine AW.rgs rfl fun K hK => bv rfl (qas ty31 rfl rfl (qam rfl rfl)) (bv rfl (v_lenA rfl rfl ty31 rfl rfl) (mv rfl rfl ?_))
 let E3 : Nat × HV := (53, hI (((List.replicate (p1.2.1).toNat (0 : Int)).length : Nat) : Int))
 refine bf hK (P1 [(11, .ptr 15011 v10 0), E3, (54, hI 0)] [O1, O2]) ?_
 refine AW.lpX h (by first | exact qa5 | exact up_to) (S := Int × (List Int)) (V := Unit) (fun a v => (P1 [(11, .ptr 15011 v10 0), E3, (54, hI a.1)] [(15011, v10, .arr 1 31 [.ar 15051 v8 eInt.k 0 ((a.2).length)]), (15051, v8, .arr eInt.k 3 (eInt.E a.2))])) ?_ (X := (List Int)) (W := Unit) (fun a v => (P1 [(11, .ptr 15011 v10 0)] [(15011, v10, .arr 1 31 [.ar 15051 v8 eInt.k 0 ((a).length)]), (15051, v8, .arr eInt.k 3 (eInt.E a))])) (fun a17 w18 h => ?_) (fun a11 w12 st13 h => ?_)
 ·exact to_L ⟨(), rfl⟩
 ·refine AW.rgs rfl fun K hK => b_op rfl (qbj (fid := 15) (zs := [.v (.pointer none), .v (.slice none 0 0)]) 15013 rfl rfl ty80 rfl (fun v19 => ?_))
  refine b_to (to_ownC 15513 15013 v19 2 1 1 5 80 rfl rfl (by decide) fun v20 => ?_)
  let O4 : Nat × Nat × AObj := (15011, v10, .arr 1 31 [.ar 15051 v8 eInt.k 0 ((a17).length)])
  let O5 : Nat × Nat × AObj := (15051, v8, .arr eInt.k 3 (eInt.E a17))
  let O6 : Nat × Nat × AObj := (15013, v19, bldO 15013 v19 15513 v20 false nS)
  refine bf hK (P1 [(11, .ptr 15011 v10 0), (13, .ptr 15013 v19 0)] [O4, O5, O6, (15513, v20, bytO nS)]) ?_
  refine AW.rgs rfl fun K hK => b_op rfl (qbj (fid := 15) (zs := [hI 0]) 15014 rfl rfl ty3 rfl (fun v21 => ?_))
  refine b_op rfl (qaH (cs := [hI 0]) (zs := [hI 0]) rfl rfl rfl ty3 rfl rfl rfl rfl rfl ?_)
  refine bf hK (P1 [(11, .ptr 15011 v10 0), (13, .ptr 15013 v19 0), (14, .ptr 15014 v21 0)] [O4, O5, O6, (15513, v20, bytO nS), (15014, v21, .arr 1 3 [hI 0])]) ?_
  refine AW.rgs rfl fun K hK => bv rfl (v_func rfl rfl) (mv rfl rfl ?_)
  let E7 : Nat × HV := (15, .fn (.func 53) [] [.ptr 15013 v19 0, .ptr 15014 v21 0, gF p1, .ptr 15011 v10 0])
  refine bf hK (P1 [(11, .ptr 15011 v10 0), (13, .ptr 15013 v19 0), (14, .ptr 15014 v21 0), E7] [O4, O5, O6, (15513, v20, bytO nS), (15014, v21, .arr 1 3 [hI 0])]) ?_
  refine AW.dgs 8 follows rfl rfl fun K hK => ?_
  refine sm rfl rfl ?_
  refine sv rfl (qad fo24_0 rfl) ?_
  refine sv rfl (qab ty22 rfl (qam rfl rfl)) ?_
  refine sm rfl rfl ?_
  obtain ⟨x22, h23, h⟩ := bS h
  refine sv rfl (qaW ty31 es31 rfl rfl (qaO h23)) ?_
  refine sv rfl (qab ty3 rfl (qaZ eInt h23 (o := 0) rfl rfl)) ?_
  obtain ⟨x24, h25, h⟩ := bS h
  refine sv rfl (qaW ty22 es22 rfl rfl (qaO h25)) ?_
  refine sv rfl (qab ty9 rfl (qaZ eStr h25 (o := 0) rfl rfl)) ?_
  refine s_nil ?_
  refine b_op rfl (o_callJ h (S := (List Int) × Int) (V := Nat) (fun a v => (P1 [(11, .ptr 15011 v10 0), (13, .ptr 15013 v19 0), (14, .ptr 15014 v21 0), E7, (71, .tup [])] [(15011, v10, .arr 1 31 [slE eInt a.1]), (15013, v19, bldO 15013 v19 15513 v true (nS ++ x24)), (15513, v, bytO (nS ++ x24)), (15014, v21, .arr 1 3 [hI a.2])])) rfl rfl rfl rfl (fun a26 w27 h => ?_) (fun k28 h => ?_) )
  ·refine bf hK (P1 [(11, .ptr 15011 v10 0), (13, .ptr 15013 v19 0), (14, .ptr 15014 v21 0), E7] [(15011, v10, .arr 1 31 [slE eInt a26.1]), (15013, v19, bldO 15013 v19 15513 w27 true (nS ++ x24)), (15513, w27, bytO (nS ++ x24)), (15014, v21, .arr 1 3 [hI a26.2])]) ?_
   refine AW.seq ?_
   refine AW.rgs rfl fun K hK => mv rfl rfl ?_
   obtain ⟨h29, h⟩ := ifN h
   refine bv rfl (v_sliceF eInt ty31 es31 rfl rfl rfl h29) (bv rfl (qaI rfl rfl ty31 rfl) (mv rfl rfl ?_))
   let E8 : Nat × HV := (73, slE eInt ((p2.take (((p2).length : Int)).toNat).drop (1 : Int).toNat))
   let E9 : Nat × HV := (74, hI (((p2.take (((p2).length : Int)).toNat).drop (1 : Int).toNat).length : Int))
   let P2 : ASf := fun t H => ⟨(3, jF p0) :: (4, gF p1) :: (11, .ptr 15011 v10 0) :: (13, .ptr 15013 v19 0) :: (14, .ptr 15014 v21 0) :: E7 :: t, H⟩
   refine bf hK (P2 [E8, E9, (75, hI 0)] [(15011, v10, .arr 1 31 [slE eInt a26.1]), (15013, v19, bldO 15013 v19 15513 w27 true (nS ++ x24)), (15513, w27, bytO (nS ++ x24)), (15014, v21, .arr 1 3 [hI a26.2])]) ?_
   refine AW.lpR h (by first | exact qa5 | exact up_to) (S := Int × (List Int) × (List UInt8) × Int) (V := Nat) (fun a v => (P2 [E8, E9, (75, hI a.1)] [(15011, v10, .arr 1 31 [slE eInt a.2.1]), (15013, v19, bldO 15013 v19 15513 v true a.2.2.1), (15513, v, bytO a.2.2.1), (15014, v21, .arr 1 3 [hI a.2.2.2])])) ?_ (X := (List UInt8)) (W := Nat) (fun a v => ⟨[(13, .ptr 15013 v19 0)], [(15013, v19, bldO 15013 v19 15513 v true a), (15513, v, bytO a)]⟩) (fun a81 w82 h => ?_) (fun a30 w31 st32 h hr33=> ?_)
   ·exact to_L ⟨w27, rfl⟩
   ·refine AW.rgs rfl fun K hK => b_op rfl (o_callA rfl rfl rfl rfl (c_String (id := 15013) (ver := v19) (aid := 15513) (aver := w82) (u := true) (l := a81) rfl rfl fun v83 => ?_) )
    refine mv rfl rfl (mv rfl rfl ?_)
    refine bf hK ⟨[(6, .str a81), (7, hI 0)], []⟩ ?_
    obtain rfl := oi h
    exact AW.ret (qac (.inr rfl) (resT rfl (resT rfl rfl)) rfl ⟨trivial, trivial, trivial⟩)
   refine AW.rgs rfl fun K hK => bv rfl (qaf rfl rfl b_lss) ?_
   let O10 : Nat × Nat × AObj := (15011, v10, .arr 1 31 [slE eInt a30.2.1])
   let O11 : Nat × Nat × AObj := (15013, v19, bldO 15013 v19 15513 w31 true a30.2.2.1)
   let O12 : Nat × Nat × AObj := (15513, w31, bytO a30.2.2.1)
   let O13 : Nat × Nat × AObj := (15014, v21, .arr 1 3 [hI a30.2.2.2])
   refine bf hK (P2 [E8, E9, (75, hI a30.1), (76, .bool (decide (a30.1 < (((p2.take (((p2).length : Int)).toNat).drop (1 : Int).toNat).length : Int))))] [O10, O11, O12, O13]) ?_
   refine AW.cseq rfl (fun hc => ?_) (fun hc => ?_)
   ·obtain ⟨hc, h⟩ := cT hc h
    refine AW.skip ?_
    refine AW.seq (AW.block ?_)
    refine AW.rgs rfl fun K hK => ?_
    obtain ⟨x34, h35, h⟩ := bS h
    refine bv rfl (qaW ty31 es31 rfl rfl (qaO h35)) (bv rfl (qab ty3 rfl (qaZ eInt h35 (o := 0) rfl rfl)) ?_)
    refine b_op rfl (qbj (fid := 15) (zs := [hI 0]) 15017 rfl rfl ty3 rfl (fun v36 => ?_))
    refine b_op rfl (qaH (cs := [hI x34]) (zs := [hI x34]) rfl rfl rfl ty3 rfl rfl rfl rfl rfl ?_)
    let O14 : Nat × Nat × AObj := (15017, v36, .arr 1 3 [hI x34])
    refine bf hK (P2 [(17, .ptr 15017 v36 0), E8, E9, (75, hI a30.1)] [O10, O11, O12, O13, O14]) ?_
    refine AW.rgs rfl fun K hK => bv rfl (qad fo24_1 rfl) (bv rfl (qab ty22 rfl (qam rfl rfl)) (bv rfl (v_func rfl rfl) ?_))
    refine b_op rfl (o_callJ h (S := (List UInt8) × Bool) (V := Unit) (fun a v => (P2 [(17, .ptr 15017 v36 0), E8, E9, (75, hI a30.1), (83, .tup [.str a.1, .bool a.2])] [O10, O11, O12, O13, O14])) rfl rfl rfl rfl (fun a37 w38 h => ?_) (fun k39 h => ?_) )
    ·refine mv rfl rfl (bv rfl (qat rfl rfl) (bv rfl (qat rfl rfl) (mv rfl rfl (mv rfl rfl ?_))))
     refine bf hK (P2 [(17, .ptr 15017 v36 0), (18, .str a37.1), (19, .bool a37.2), E8, E9, (75, hI a30.1)] [O10, O11, O12, O13, O14]) ?_
     refine AW.seq ?_
     refine AW.rgs rfl fun K hK => mv rfl rfl (bv rfl (v_not rfl) ?_)
     refine bf hK (P2 [(17, .ptr 15017 v36 0), (18, .str a37.1), E8, E9, (75, hI a30.1), (87, .bool (!a37.2))] [O10, O11, O12, O13, O14]) ?_
     refine AW.cond rfl (fun hc => ?_) (fun hc => ?_)
     ·have h := ifT hc h
      refine AW.rgs rfl fun K hK => mv rfl rfl (mv rfl rfl ?_)
      refine bf hK ⟨[(6, .str nS), (7, hI 13)], []⟩ ?_
      have h := hr33 _ h
      obtain rfl := oi h
      exact AW.ret (qac (.inr rfl) (resT rfl (resT rfl rfl)) rfl ⟨trivial, trivial, trivial⟩)
     have h := ifF (bF' hc) h
     refine AW.skip ?_
     refine AW.rg rfl fun K hK => mv rfl rfl (mv rfl rfl (bv rfl (qad fo24_0 rfl) (bv rfl (qab ty22 rfl (qam rfl rfl)) (bv rfl (qas ty3 rfl rfl (qam rfl rfl)) ?_))))
     obtain ⟨x40, h41, h⟩ := bS h
     refine bv rfl (qaW ty22 es22 rfl rfl (qaO h41)) (bv rfl (qab ty9 rfl (qaZ eStr h41 (o := 0) rfl rfl)) ?_)
     obtain ⟨h42, h⟩ := ifN h
     refine bv rfl (qaf rfl rfl (b_sadd h42)) ?_
     refine b_op rfl (o_callJ h (S := (List Int) × Int) (V := Nat) (fun a v => (P2 [E8, E9, (75, hI a30.1), (96, .tup [])] [(15011, v10, .arr 1 31 [slE eInt a.1]), (15013, v19, bldO 15013 v19 15513 v true (a30.2.2.1 ++ (a37.1 ++ x40))), (15513, v, bytO (a30.2.2.1 ++ (a37.1 ++ x40))), (15014, v21, .arr 1 3 [hI a.2])])) rfl rfl rfl rfl (fun a43 w44 h => ?_) (fun k45 h => ?_) )
     ·refine bf hK (P2 [E8, E9, (75, hI a30.1)] [(15011, v10, .arr 1 31 [slE eInt a43.1]), (15013, v19, bldO 15013 v19 15513 w44 true (a30.2.2.1 ++ (a37.1 ++ x40))), (15513, w44, bytO (a30.2.2.1 ++ (a37.1 ++ x40))), (15014, v21, .arr 1 3 [hI a43.2])]) ?_
      refine AW.rg rfl fun K hK => bv rfl (qaf rfl rfl b_add) (mv rfl rfl ?_)
      refine qah (hK _ ?_)
      exact to_L ⟨(IntKind.wrap .i64 (a30.1 + 1), a43.1, a30.2.2.1 ++ (a37.1 ++ x40), a43.2), w44, h, rfl⟩
     refine ACall.of_body Tryz.func53 rfl rfl (lb rfl) ?_
     unfold Tryz.f53
     dsimp only [qaG, Nat.reduceAdd]
     refine AW.fin ?_
     refine AW.rgs rfl fun K hK => mv rfl rfl ?_
     obtain ⟨h47, h⟩ := ifN h
     refine b_op rfl (o_callA rfl rfl rfl rfl (c_WriteString (id := 15013) (ver := v19) (aid := 15513) (aver := w31) (u := true) (l := a30.2.2.1) (m := (a37.1 ++ x40)) (by decide) rfl rfl h47 fun v46 => ?_) )
     let O15 : Nat × Nat × AObj := (15013, v19, bldO 15013 v19 15513 v46 true (a30.2.2.1 ++ (a37.1 ++ x40)))
     let P3 : ASf := fun t H => ⟨(0, .str (a37.1 ++ x40)) :: t, O10 :: O15 :: (15513, v46, bytO (a30.2.2.1 ++ (a37.1 ++ x40))) :: H⟩
     refine bf hK (P3 [(2, .ptr 15014 v21 0), (3, gF p1), (4, .ptr 15011 v10 0)] [O13, O14]) ?_
     refine AW.dgs 4 follows rfl rfl fun K hK => ?_
     refine sv rfl (qas ty3 rfl rfl (qam rfl rfl)) ?_
     refine sm rfl rfl ?_
     obtain ⟨x48, h49, h⟩ := bS h
     refine s_op rfl rfl (qaS rfl rfl rfl rfl (ACallD.pure0 (w_merging_weight h49)) ?_)
     refine sv rfl (qaf rfl rfl b_add) ?_
     refine s_nil ?_
     refine b_op rfl (qaH (cs := [hI (IntKind.wrap .i64 (a30.2.2.2 + x48))]) (zs := [hI (IntKind.wrap .i64 (a30.2.2.2 + x48))]) rfl rfl rfl ty3 rfl rfl rfl rfl rfl ?_)
     refine bf hK (P3 [(3, gF p1), (4, .ptr 15011 v10 0)] [(15014, v21, .arr 1 3 [hI (IntKind.wrap .i64 (a30.2.2.2 + x48))]), O14]) ?_
     refine AW.rg rfl fun K hK => bv rfl (qab ty27 rfl (qaz rfl (lb rfl) rfl)) (bv rfl (qas ty31 rfl rfl (qam rfl rfl)) (mv rfl rfl ?_))
     obtain ⟨x50, h51, h⟩ := bS h
     refine b_op rfl (qay rfl rfl rfl rfl (ACallD.pure0 (w_merging_step h51)) ?_)
     refine b_op rfl (qaH (cs := [slE eInt x50]) (zs := [slE eInt x50]) rfl rfl rfl ty31 rfl rfl rfl rfl rfl ?_)
     refine qah (hK _ ?_)
     refine to_refl ?_
     refine ret_to (hs := []) (q := HV.tup []) (.inl rfl) rfl rfl ?_
     exact to_L ⟨(x50, IntKind.wrap .i64 (a30.2.2.2 + x48)), v46, h, rfl⟩
    refine ACall.of_body Tryz.func57 rfl rfl (lb rfl) ?_
    unfold Tryz.f57
    dsimp only [qaG, Nat.reduceAdd]
    refine AW.fin ?_
    refine AW.rgs rfl fun K hK => mv rfl rfl (mv rfl rfl ?_)
    let E16 : Nat × HV := (1, .fn (.func 58) [] [.ptr 15014 v21 0, jF p0, .ptr 15017 v36 0, gF p1, .ptr 15011 v10 0])
    let P4 : ASf := fun t H => ⟨t, O10 :: O11 :: O12 :: O13 :: O14 :: H⟩
    refine bf hK (P4 [(0, slE eStr p0.2), E16] []) ?_
    refine AW.rgs rfl fun K hK => mv rfl rfl ?_
    refine bf hK (P4 [(0, slE eStr p0.2), E16, (6, .str nS)] []) ?_
    refine AW.rgs rfl fun K hK => mv rfl rfl (mv rfl rfl ?_)
    refine bf hK (P4 [(0, slE eStr p0.2), E16, (6, .str nS), (7, hI 0), (8, .bool false)] []) ?_
    refine AW.seq ?_
    refine AW.rgs rfl fun K hK => mv rfl rfl (bv rfl (qaI rfl rfl ty22 rfl) (mv rfl rfl ?_))
    let E17 : Nat × HV := (14, hI ((p0.2).length : Int))
    refine bf hK (P4 [E16, (6, .str nS), (7, hI 0), (8, .bool false), (13, slE eStr p0.2), E17, (15, hI 0)] []) ?_
    refine AW.lpX h (by first | exact qa5 | exact up_to) (S := (List UInt8) × Int × Bool × Int) (V := Unit) (fun a v => (P4 [E16, (6, .str a.1), (7, hI a.2.1), (8, .bool a.2.2.1), (13, slE eStr p0.2), E17, (15, hI a.2.2.2)] [])) ?_ (X := (List UInt8) × Bool) (W := Unit) (fun a v => (P4 [(6, .str a.1), (8, .bool a.2)] [])) (fun a79 w80 h => ?_) (fun a52 w53 st54 h => ?_)
    ·exact to_L ⟨(), rfl⟩
    ·refine AW.rgs rfl fun K hK => mv rfl rfl (mv rfl rfl (mv rfl rfl (mv rfl rfl ?_)))
     refine bf hK (P4 [(4, .str a79.1), (5, .bool a79.2)] []) ?_
     refine AW.ret ?_
     refine ret_to (hs := [.str a79.1, .bool a79.2]) (q := HV.tup [.str a79.1, .bool a79.2]) (.inr rfl) (resT rfl (resT rfl rfl)) rfl ?_
     exact to_L ⟨(a79.1, a79.2), (), h, rfl⟩
    refine AW.rgs rfl fun K hK => bv rfl (qaf rfl rfl b_lss) ?_
    refine bf hK (P4 [E16, (6, .str a52.1), (7, hI a52.2.1), (8, .bool a52.2.2.1), (13, slE eStr p0.2), E17, (15, hI a52.2.2.2), (16, .bool (decide (a52.2.2.2 < ((p0.2).length : Int))))] []) ?_
    refine AW.cseq rfl (fun hc => ?_) (fun hc => ?_)
    ·obtain ⟨hc, h⟩ := cT hc h
     refine AW.skip ?_
     refine AW.seqJ h (S := (List UInt8) × Int × Bool) (V := Unit) (fun a v => (P4 [E16, (6, .str a.1), (7, hI a.2.1), (8, .bool a.2.2), (13, slE eStr p0.2), E17, (15, hI a52.2.2.2)] [])) (fun a56 w57 h => ?_) (fun k58 h => ?_)
     ·refine AW.rg rfl fun K hK => bv rfl (qaf rfl rfl b_add) (mv rfl rfl ?_)
      refine qah (hK _ ?_)
      exact to_L ⟨(a56.1, a56.2.1, a56.2.2, IntKind.wrap .i64 (a52.2.2.2 + 1)), (), h, rfl⟩
     refine AW.block ?_
     refine AW.rgs rfl fun K hK => ?_
     obtain ⟨x59, h60, h⟩ := bS h
     refine bv rfl (qaW ty22 es22 rfl rfl (qaO h60)) (bv rfl (qab ty9 rfl (qaZ eStr h60 (o := 0) rfl rfl)) (mv rfl rfl ?_))
     refine bf hK (P4 [E16, (6, .str a52.1), (7, hI a52.2.1), (8, .bool a52.2.2.1), (10, .str x59), (13, slE eStr p0.2), E17, (15, hI a52.2.2.2)] []) ?_
     refine AW.rgs rfl fun K hK => mv rfl rfl (mv rfl rfl ?_)
     refine b_op rfl (o_callJ h (S := Int × Bool) (V := Unit) (fun a v => (P4 [E16, (6, .str a52.1), (7, hI a52.2.1), (8, .bool a52.2.2.1), (10, .str x59), (13, slE eStr p0.2), E17, (15, hI a52.2.2.2), (22, .tup [hI a.1, .bool a.2])] [])) rfl rfl rfl rfl (fun a61 w62 h => ?_) (fun k63 h => ?_) )
     ·refine mv rfl rfl (bv rfl (qat rfl rfl) (bv rfl (qat rfl rfl) (mv rfl rfl (mv rfl rfl ?_))))
      refine bf hK (P4 [E16, (6, .str a52.1), (7, hI a52.2.1), (8, .bool a52.2.2.1), (10, .str x59), (11, hI a61.1), (12, .bool a61.2), (13, slE eStr p0.2), E17, (15, hI a52.2.2.2)] []) ?_
      refine AW.seqJ h (S := Bool) (V := Unit) (fun a v => (P4 [E16, (6, .str a52.1), (7, hI a52.2.1), (8, .bool a52.2.2.1), (10, .str x59), (11, hI a61.1), (13, slE eStr p0.2), E17, (15, hI a52.2.2.2), (34, .bool a)] [])) (fun a64 w65 h => ?_) (fun k66 h => ?_)
      ·refine AW.cond rfl (fun hc => ?_) (fun hc => ?_)
       ·have h := ifT hc h
        refine AW.rg rfl fun K hK => mv rfl rfl (mv rfl rfl (mv rfl rfl (mv rfl rfl (mv rfl rfl ?_))))
        refine qah (hK _ ?_)
        exact to_L ⟨(x59, a61.1, true), (), h, rfl⟩
       have h := ifF (bF' hc) h
       refine AW.skip ?_
       exact to_L ⟨(a52.1, a52.2.1, a52.2.2.1), (), h, rfl⟩
      refine AW.rg rfl fun K hK => mv rfl rfl (mv rfl rfl ?_)
      by_cases hg68 : a61.2 = true
      ·have h := ifT hg68 h
       refine b_T rfl rfl rfl rfl hg68 (qai rfl (qaR rfl rfl).2 ?_)
       refine b_T rfl rfl rfl rfl rfl (qai rfl (v_not rfl) ?_)
       refine b_T rfl rfl rfl rfl rfl (qai rfl (qaR rfl rfl).2 ?_)
       by_cases hg67 : (!a52.2.2.1) = true
       ·have h := ifT hg67 h
        refine b_F rfl rfl rfl rfl rfl hg67 ?_
        iterate 2 refine b_F rfl rfl rfl rfl rfl rfl ?_
        refine b_T rfl rfl rfl rfl rfl (qai rfl (qak rfl rfl rfl) ?_)
        refine bv rfl (qak rfl rfl rfl) ?_
        refine qah (hK _ ?_)
        exact to_L ⟨true, (), h, rfl⟩
       have h := ifF hg67 h
       refine b_T rfl rfl rfl rfl (bF hg67) (qai rfl (qaR rfl rfl).2 ?_)
       refine b_T rfl rfl rfl rfl rfl (qai rfl (qaR rfl rfl).2 ?_)
       refine b_T rfl rfl rfl rfl rfl (qai rfl (qaf rfl rfl b_lss) ?_)
       refine b_T rfl rfl rfl rfl rfl (qai rfl (qan rfl rfl rfl) ?_)
       refine bv rfl (qak rfl rfl rfl) ?_
       refine qah (hK _ ?_)
       exact to_L ⟨decide (a61.1 < a52.2.1), (), h, rfl⟩
      have h := ifF hg68 h
      refine b_F rfl rfl rfl rfl rfl (bF hg68) ?_
      iterate 2 refine b_F rfl rfl rfl rfl rfl rfl ?_
      refine b_U rfl rfl rfl rfl rfl ?_
      refine b_U rfl rfl rfl rfl rfl ?_
      refine b_U rfl rfl rfl rfl rfl ?_
      refine b_F rfl rfl rfl rfl rfl rfl ?_
      refine bv rfl (qan rfl rfl rfl) ?_
      refine qah (hK _ ?_)
      exact to_L ⟨false, (), h, rfl⟩
     refine ACall.of_body Tryz.func58 rfl rfl (lb rfl) ?_
     unfold Tryz.f58
     dsimp only [qaG, Nat.reduceAdd]
     refine AW.fin ?_
     refine AW.rgs rfl fun K hK => mv rfl rfl (mv rfl rfl ?_)
     refine bf hK (P4 [(0, .str x59), (1, .ptr 15014 v21 0), (2, jF p0), (3, .ptr 15017 v36 0), (4, gF p1), (5, .ptr 15011 v10 0)] []) ?_
     refine AW.dgs 11 follows rfl rfl fun K hK => ?_
     refine sv rfl (qas ty3 rfl rfl (qam rfl rfl)) ?_
     refine sm rfl rfl ?_
     refine sv rfl (qad fo24_0 rfl) ?_
     refine sv rfl (qab ty22 rfl (qam rfl rfl)) ?_
     refine sv rfl (qas ty3 rfl rfl (qam rfl rfl)) ?_
     obtain ⟨x69, h70, h⟩ := bS h
     refine sv rfl (qaW ty22 es22 rfl rfl (qaO h70)) ?_
     refine sv rfl (qab ty9 rfl (qaZ eStr h70 (o := 0) rfl rfl)) ?_
     obtain ⟨h71, h⟩ := ifN h
     refine sv rfl (qaf rfl rfl (b_sadd h71)) ?_
     obtain ⟨x72, h73, h⟩ := bS h
     refine s_op rfl rfl (qaS rfl rfl rfl rfl (ACallD.pure0 (w_merging_weight h73)) ?_)
     refine sv rfl (qaf rfl rfl b_add) ?_
     refine sm rfl rfl ?_
     refine s_nil ?_
     refine bf hK (P4 [(0, .str x59), (2, jF p0), (3, .ptr 15017 v36 0), (4, gF p1), (5, .ptr 15011 v10 0), (9, hI (IntKind.wrap .i64 (a30.2.2.2 + x72)))] []) ?_
     refine AW.dgs 18 follows rfl rfl fun K hK => ?_
     iterate 2 refine sm rfl rfl ?_
     refine sv rfl (v_neg rfl) ?_
     refine sv rfl (v_max rfl rfl rfl) ?_
     refine sv rfl (qab ty27 rfl (qaz rfl (lb rfl) rfl)) ?_
     refine sv rfl (qas ty31 rfl rfl (qam rfl rfl)) ?_
     refine sm rfl rfl ?_
     refine sv rfl (qad fo24_0 rfl) ?_
     refine sv rfl (qab ty22 rfl (qam rfl rfl)) ?_
     refine sv rfl (qas ty3 rfl rfl (qam rfl rfl)) ?_
     obtain ⟨x74, h75, h⟩ := bS h
     refine sv rfl (qaW ty22 es22 rfl rfl (qaO h75)) ?_
     refine sv rfl (qab ty9 rfl (qaZ eStr h75 (o := 0) rfl rfl)) ?_
     obtain ⟨h76, h⟩ := ifN h
     refine sv rfl (qaf rfl rfl (b_sadd h76)) ?_
     obtain ⟨x77, h78, h⟩ := bS h
     refine s_op rfl rfl (qaS rfl rfl rfl rfl (ACallD.pure0 (w_merging_step h78)) ?_)
     refine sv rfl (qaI rfl rfl ty31 rfl) ?_
     refine sv rfl (qaf rfl rfl b_gtr) ?_
     iterate 2 refine sm rfl rfl ?_
     refine s_nil ?_
     refine bf hK (P4 [(7, hI (max (IntKind.wrap .i64 (a30.2.2.2 + x72)) (IntKind.wrap .i64 (0 - (IntKind.wrap .i64 (a30.2.2.2 + x72)))))), (8, .bool (decide (0 < ((x77).length : Int))))] []) ?_
     refine AW.ret ?_
     refine ret_to (hs := [hI (max (IntKind.wrap .i64 (a30.2.2.2 + x72)) (IntKind.wrap .i64 (0 - (IntKind.wrap .i64 (a30.2.2.2 + x72))))), .bool (decide (0 < ((x77).length : Int)))]) (q := HV.tup [hI (max (IntKind.wrap .i64 (a30.2.2.2 + x72)) (IntKind.wrap .i64 (0 - (IntKind.wrap .i64 (a30.2.2.2 + x72))))), .bool (decide (0 < ((x77).length : Int)))]) (.inr rfl) (resT rfl (resT rfl rfl)) rfl ?_
     exact to_L ⟨(max (IntKind.wrap .i64 (a30.2.2.2 + x72)) (IntKind.wrap .i64 (0 - (IntKind.wrap .i64 (a30.2.2.2 + x72)))), decide (0 < ((x77).length : Int))), (), h, rfl⟩
    obtain ⟨hc, h⟩ := cF hc h
    refine AW.exit ?_
    exact to_L ⟨(a52.1, a52.2.2.1), (), h, rfl⟩
   obtain ⟨hc, h⟩ := cF hc h
   refine AW.exit ?_
   exact to_L ⟨a30.2.2.1, w31, h, rfl⟩
  refine ACall.of_body Tryz.func53 rfl rfl (lb rfl) ?_
  unfold Tryz.f53
  dsimp only [qaG, Nat.reduceAdd]
  refine AW.fin ?_
  refine AW.rgs rfl fun K hK => mv rfl rfl ?_
  obtain ⟨h85, h⟩ := ifN h
  refine b_op rfl (o_callA rfl rfl rfl rfl (c_WriteString (id := 15013) (ver := v19) (aid := 15513) (aver := v20) (u := false) (l := nS) (m := x24) (by decide) rfl rfl h85 fun v84 => ?_) )
  let O18 : Nat × Nat × AObj := (15013, v19, bldO 15013 v19 15513 v84 true (nS ++ x24))
  refine bf hK ⟨[(0, .str x24), (2, .ptr 15014 v21 0), (3, gF p1), (4, .ptr 15011 v10 0)], [O4, O5, O18, (15513, v84, bytO (nS ++ x24)), (15014, v21, .arr 1 3 [hI 0])]⟩ ?_
  refine AW.dgs 4 follows rfl rfl fun K hK => ?_
  refine sv rfl (qas ty3 rfl rfl (qam rfl rfl)) ?_
  refine sm rfl rfl ?_
  obtain ⟨x86, h87, h⟩ := bS h
  refine s_op rfl rfl (qaS rfl rfl rfl rfl (ACallD.pure0 (w_merging_weight h87)) ?_)
  refine sv rfl (qaf rfl rfl b_add) ?_
  refine s_nil ?_
  refine b_op rfl (qaH (cs := [hI (IntKind.wrap .i64 (0 + x86))]) (zs := [hI (IntKind.wrap .i64 (0 + x86))]) rfl rfl rfl ty3 rfl rfl rfl rfl rfl ?_)
  refine bf hK ⟨[(0, .str x24), (3, gF p1), (4, .ptr 15011 v10 0)], [O4, O5, O18, (15513, v84, bytO (nS ++ x24)), (15014, v21, .arr 1 3 [hI (IntKind.wrap .i64 (0 + x86))])]⟩ ?_
  refine AW.to (to_fill 2 [(15051, v8, .arr eInt.k 3 (eInt.E a17))] ⟨[(0, .str x24), (3, gF p1), (4, .ptr 15011 v10 0)], [(15011, v10, .arr 1 31 [slE eInt a17]), O18, (15513, v84, bytO (nS ++ x24)), (15014, v21, .arr 1 3 [hI (IntKind.wrap .i64 (0 + x86))])]⟩ ⟨⟨_, rfl, rfl⟩, ⟨_, rfl, rfl⟩, ⟨_, rfl, rfl⟩, trivial⟩ ⟨.inr ⟨_, _, _, rfl, congrArg (AObj.arr 1 31) (congrArg (fun z : HV => [z]) (frz_slE eInt (D := [(15051, v8, .arr eInt.k 3 (eInt.E a17))]) (l := a17) rfl fun _ _ => rfl).symm)⟩, .inl rfl, .inl rfl, .inl rfl, trivial⟩ ⟨rfl, trivial⟩ ⟨rfl, trivial⟩ ?_)
  refine AW.rg rfl fun K hK => bv rfl (qab ty27 rfl (qaz rfl (lb rfl) rfl)) (bv rfl (qas ty31 rfl rfl (qam rfl rfl)) (mv rfl rfl ?_))
  obtain ⟨x88, h89, h⟩ := bS h
  refine b_op rfl (qay rfl rfl rfl rfl (ACallD.pure0 (w_merging_step h89)) ?_)
  refine b_op rfl (qaH (cs := [slE eInt x88]) (zs := [slE eInt x88]) rfl rfl rfl ty31 rfl rfl rfl rfl rfl ?_)
  refine qah (hK _ ?_)
  refine to_refl ?_
  refine ret_to (hs := []) (q := HV.tup []) (.inl rfl) rfl rfl ?_
  exact to_L ⟨(x88, IntKind.wrap .i64 (0 + x86)), v84, h, rfl⟩
 refine AW.rgs rfl fun K hK => bv rfl (qaf rfl rfl b_lss) ?_
 let O19 : Nat × Nat × AObj := (15011, v10, .arr 1 31 [.ar 15051 v8 eInt.k 0 ((a11.2).length)])
 refine bf hK (P1 [(11, .ptr 15011 v10 0), E3, (54, hI a11.1), (55, .bool (decide (a11.1 < (((List.replicate (p1.2.1).toNat (0 : Int)).length : Nat) : Int))))] [O19, (15051, v8, .arr eInt.k 3 (eInt.E a11.2))]) ?_
 refine AW.cseq rfl (fun hc => ?_) (fun hc => ?_)
 ·obtain ⟨hc, h⟩ := cT hc h
  refine AW.skip ?_
  refine AW.seq (AW.block ?_)
  refine AW.rgs rfl fun K hK => mv rfl rfl (mv rfl rfl ?_)
  refine bf hK (P1 [(11, .ptr 15011 v10 0), (12, hI a11.1), E3, (54, hI a11.1)] [O19, (15051, v8, .arr eInt.k 3 (eInt.E a11.2))]) ?_
  refine AW.rg rfl fun K hK => bv rfl (qas ty31 rfl rfl (qam rfl rfl)) (mv rfl rfl (mv rfl rfl ?_))
  obtain ⟨x15, h16, h⟩ := bS h
  refine bv rfl (v_idxA ty31 es31 rfl rfl (qaO h16) rfl) ?_
  refine b_op rfl (o_storeE eInt (l := a11.2) (j := a11.1) (v := a11.1) rfl rfl rfl ty3 rfl rfl rfl (qaO h16) ?_)
  refine b_fin hK (s' := (P1 [(11, .ptr 15011 v10 0), E3, (54, hI a11.1)] [(15011, v10, .arr 1 31 [.ar 15051 v8 eInt.k 0 (((a11.2).set (a11.1).toNat a11.1).length)]), (15051, v8, .arr eInt.k 3 (eInt.E ((a11.2).set (a11.1).toNat a11.1)))])) (AS.le_of ⟨rfl, rfl, rfl, rfl, rfl, rfl, trivial⟩ ⟨hle rfl (by first | rfl | simp only [List.length_set, sortI_len, sortS_len]), rfl, trivial⟩) ?_
  refine AW.rg rfl fun K hK => bv rfl (qaf rfl rfl b_add) (mv rfl rfl ?_)
  refine qah (hK _ ?_)
  exact to_L ⟨(IntKind.wrap .i64 (a11.1 + 1), (a11.2).set (a11.1).toNat a11.1), (), h, rfl⟩
 obtain ⟨hc, h⟩ := cF hc h
 refine AW.exit ?_
 exact to_L ⟨a11.2, (), h, rfl⟩
theorem w_math_bits_Len {p0 : Int} {r : Int} (h : m_math_bits_Len p0 = some r) : Pure Tryz.prog 65 [.int .u64 p0] (· = hI r) := by
 unfold m_math_bits_Len at h
 refine Pure.of_body Tryz.func65 rfl rfl (lb rfl) fun hf => ?_
 unfold Tryz.f65
 dsimp only [qaG, Nat.reduceAdd]
 refine AW.rgs rfl fun K hK => mv rfl rfl ?_
 refine bf hK ⟨[(0, .int .u64 p0)], []⟩ ?_
 refine AW.cseq rfl (fun hc => by cases hc) (fun _ => ?_)
 refine AW.skip ?_
 refine AW.rgs rfl fun K hK => mv rfl rfl ?_
 obtain ⟨x1, h2, h⟩ := bS h
 refine b_op rfl (qay rfl rfl rfl rfl (ACallD.pure0 (w_math_bits_Len64 h2)) ?_)
 refine mv rfl rfl ?_
 refine bf hK ⟨[(2, hI x1)], []⟩ ?_
 obtain rfl := oi h
 exact AW.ret (qac (.inr rfl) (resT rfl rfl) rfl trivial)
theorem w_merging_Rate {p0 : qaq} {r : TNumDen × Int} (h : m_merging_Rate p0 = some r) : Pure Tryz.prog 19 [jA p0] (· = HV.tup [.agg (cNumDen r.1), hI r.2]) := by
 unfold m_merging_Rate at h
 refine Pure.of_body Tryz.func19 rfl rfl (lb rfl) fun hf => ?_
 unfold Tryz.f19
 dsimp only [qaG, Nat.reduceAdd]
 refine AW.rgs rfl fun K hK => b_op rfl (o_box rfl rfl rfl ?_)
 refine b_op rfl (qbj (fid := 19) (zs := zND) 19002 rfl rfl ty44 rfl (fun v1 => ?_))
 refine mv rfl rfl ?_
 let P1 : ASf := fun t H => ⟨(1, jF p0) :: (2, .ptr 19002 v1 0) :: t, (19002, v1, .arr 4 44 zND) :: H⟩
 refine bf hK (P1 [] []) ?_
 refine AW.seq ?_
 refine AW.rgs rfl fun K hK => bv rfl (qab ty24 rfl (qaz rfl (lb rfl) rfl)) ?_
 obtain ⟨x2, h3, h⟩ := bS h
 refine b_op rfl (qay rfl rfl rfl rfl (ACallD.pure0 (w_merging_form h3)) ?_)
 refine bv rfl (qaf rfl rfl b_neq) ?_
 refine bf hK (P1 [(6, .bool (decide (x2 ≠ 0)))] []) ?_
 refine AW.cond rfl (fun hc => ?_) (fun hc => ?_)
 ·obtain ⟨hc, h⟩ := cT hc h
  refine AW.rgs rfl fun K hK => b_op rfl (o_build (cs := zND) rfl (bl_of ty44 rfl rfl rfl rfl) ?_)
  refine b_op rfl (qaH (cs := zND) (zs := zND) rfl rfl rfl ty44 rfl rfl rfl rfl rfl ?_)
  refine mv rfl rfl ?_
  refine bf hK ⟨[(2, .ptr 19002 v1 0), (3, hI 1)], [(19002, v1, .arr 4 44 zND)]⟩ ?_
  obtain rfl := oi h
  exact AW.ret (qac (.inr rfl) (resP ty44 rfl rfl (qaz rfl (lb rfl) rfl) (resT rfl rfl)) rfl ⟨⟨trivial, trivial, trivial, trivial, trivial⟩, trivial, trivial⟩)
 obtain ⟨hc, h⟩ := cF hc h
 refine AW.skip ?_
 refine AW.dgs 20 follows rfl rfl fun K hK => ?_
 refine sv rfl (qad fo24_0 rfl) ?_
 refine sv rfl (qab ty22 rfl (qam rfl rfl)) ?_
 refine sv rfl (qaI rfl rfl ty22 rfl) ?_
 refine sv rfl (v_convI ty3 ty97 rfl) ?_
 obtain ⟨x4, h5, h⟩ := bS h
 refine s_op rfl rfl (qaS rfl rfl rfl rfl (ACallD.pure0 (w_math_bits_Len h5)) ?_)
 refine sv rfl (qaf rfl rfl b_sub) ?_
 refine sv rfl (qad fo24_0 rfl) ?_
 refine sv rfl (qab ty22 rfl (qam rfl rfl)) ?_
 obtain ⟨x6, h7, h⟩ := bS h
 refine sv rfl (qaW ty22 es22 rfl rfl (qaO h7)) ?_
 refine sv rfl (qab ty9 rfl (qaZ eStr h7 (o := 0) rfl rfl)) ?_
 refine sv rfl (v_lenS rfl rfl ty9 rfl) ?_
 refine sv rfl (qad fo24_1 rfl) ?_
 refine sv rfl (qab ty22 rfl (qam rfl rfl)) ?_
 obtain ⟨x8, h9, h⟩ := bS h
 refine sv rfl (qaW ty22 es22 rfl rfl (qaO h9)) ?_
 refine sv rfl (qab ty9 rfl (qaZ eStr h9 (o := 0) rfl rfl)) ?_
 refine sv rfl (v_lenS rfl rfl ty9 rfl) ?_
 refine sv rfl (qaf rfl rfl b_add) ?_
 obtain ⟨x10, h11, h⟩ := bS h
 refine s_op rfl rfl (qaS rfl rfl rfl rfl (ACallD.pure0 (w_rational_Ratio h11)) ?_)
 refine sv rfl (qat rfl rfl) ?_
 refine sv rfl (qat rfl rfl) ?_
 refine s_nil ?_
 refine b_op rfl (qaH (cs := (cNumDen x10.1)) (zs := (cNumDen x10.1)) rfl rfl rfl ty44 rfl rfl rfl rfl rfl ?_)
 refine mv rfl rfl ?_
 refine bf hK ⟨[(2, .ptr 19002 v1 0), (3, hI x10.2)], [(19002, v1, .arr 4 44 (cNumDen x10.1))]⟩ ?_
 obtain rfl := oi h
 exact AW.ret (qac (.inr rfl) (resP ty44 rfl rfl (qaz rfl (lb rfl) rfl) (resT rfl rfl)) rfl ⟨⟨trivial, trivial, trivial, trivial, trivial⟩, trivial, trivial⟩)
theorem w_merging_Merges {p0 : qaq} {p1 : qaa} {p2 : Int} {p3 : Int} {r : (List (Int)) × Int} (h : qbf p0 p1 p2 p3 = some r) : Pure Tryz.prog 24 [jA p0, gA p1, hI p2, hI p3] (· = HV.tup [slE eInt r.1, hI r.2]) := by
 unfold qbf at h
 refine Pure.of_body Tryz.func24 rfl rfl (lb rfl) fun hf => ?_
 unfold Tryz.f24
 dsimp only [qaG, Nat.reduceAdd]
 refine AW.rgs rfl fun K hK => b_op rfl (o_box rfl rfl rfl ?_)
 refine b_op rfl (o_box rfl rfl rfl ?_)
 refine mv rfl rfl (mv rfl rfl ?_)
 let P2 : ASf := fun t H => ⟨(2, hI p2) :: (3, hI p3) :: (4, jF p0) :: (5, gF p1) :: t, H⟩
 refine bf hK (P2 [] []) ?_
 refine AW.seq ?_
 refine AW.rgs rfl fun K hK => bv rfl (qab ty24 rfl (qaz rfl (lb rfl) rfl)) (bv rfl (qab ty27 rfl (qaz rfl (lb rfl) rfl)) (mv rfl rfl (mv rfl rfl ?_)))
 refine b_op rfl (o_bsl rfl rfl (as_of (cs := [hI p2, hI p3]) ty31 ty3 rfl rfl rfl rfl rfl) ?_)
 obtain ⟨x1, h2, h⟩ := bS h
 refine b_op rfl (qay rfl rfl rfl rfl (ACallD.pure0 (w_merging_inputs h2)) ?_)
 refine mv rfl rfl ?_
 refine bf hK (P2 [(10, hI x1)] []) ?_
 refine AW.rgs rfl fun K hK => mv rfl rfl (bv rfl (qaf rfl rfl b_neq) ?_)
 refine bf hK (P2 [(10, hI x1), (21, .bool (decide (x1 ≠ 0)))] []) ?_
 refine AW.cond rfl (fun hc => ?_) (fun hc => ?_)
 ·obtain ⟨hc, h⟩ := cT hc h
  refine AW.rgs rfl fun K hK => mv rfl rfl (mv rfl rfl (mv rfl rfl ?_))
  refine bf hK ⟨[(8, .v (.slice none 0 0)), (9, hI x1)], []⟩ ?_
  refine AW.to (to_weak ⟨[(8, slE eInt ([] : List Int)), (9, hI x1)], []⟩ ⟨⟨_, rfl, .nil _⟩, ⟨_, rfl, .refl _⟩, trivial⟩ trivial ?_)
  obtain rfl := oi h
  exact AW.ret (qac (.inr rfl) (resT rfl (resT rfl rfl)) rfl ⟨(qao fun _ _ => ⟨trivial, trivial⟩), trivial, trivial⟩)
 obtain ⟨hc, h⟩ := cF hc h
 refine AW.skip ?_
 refine AW.rgs rfl fun K hK => mv rfl rfl ?_
 refine bf hK (P2 [(11, .v (.slice none 0 0))] []) ?_
 refine AW.seq ?_
 refine AW.rgs rfl fun K hK => bv rfl (qad fo24_1 rfl) (bv rfl (qab ty22 rfl (qam rfl rfl)) (bv rfl (qaI rfl rfl ty22 rfl) (mv rfl rfl ?_)))
 let E1 : Nat × HV := (25, hI ((p0.2).length : Int))
 refine bf hK (P2 [(11, .v (.slice none 0 0)), (24, slE eStr p0.2), E1, (26, hI 0)] []) ?_
 refine AW.lpX h (by first | exact qa5 | exact up_to) (S := Int × (List Int)) (V := Nat) (fun a v => (P2 [(11, .ar 24049 v eInt.k 0 ((a.2).length)), (24, slE eStr p0.2), E1, (26, hI a.1)] [(24049, v, .arr eInt.k 3 (eInt.E a.2))])) ?_ (X := (List Int)) (W := Nat) (fun a v => ⟨[(11, .ar 24049 v eInt.k 0 ((a).length))], [(24049, v, .arr eInt.k 3 (eInt.E a))]⟩) (fun a23 w24 h => ?_) (fun a3 w4 st5 h => ?_)
 ·refine to_bind (to_own 24049 11 eInt.k 3 rfl fun v22 => ?_)
  exact qbd (s' := (P2 [(11, .ar 24049 v22 eInt.k 0 ((([] : List Int)).length)), (24, slE eStr p0.2), E1, (26, hI 0)] [(24049, v22, .arr eInt.k 3 (eInt.E ([] : List Int)))])) (AS.le_of ⟨rfl, rfl, rfl, rfl, arl (by first | rfl | simp only [List.length_set, sortI_len, sortS_len]), rfl, rfl, rfl, trivial⟩ ⟨rfl, trivial⟩) ⟨v22, rfl⟩
 ·refine AW.rgs rfl fun K hK => mv rfl rfl (mv rfl rfl (mv rfl rfl ?_))
  refine bf hK ⟨[(8, .ar 24049 w24 eInt.k 0 ((a23).length)), (9, hI 0)], [(24049, w24, .arr eInt.k 3 (eInt.E a23))]⟩ ?_
  refine AW.to (to_frz 2 [(24049, w24, .arr eInt.k 3 (eInt.E a23))] ⟨[(8, slE eInt a23), (9, hI 0)], []⟩ ⟨⟨_, rfl, frz_slE eInt (l := a23) rfl fun _ _ => rfl⟩, ⟨_, rfl, rfl⟩, trivial⟩ trivial ⟨rfl, trivial⟩ ⟨rfl, trivial⟩ ?_)
  obtain rfl := oi h
  exact AW.ret (qac (.inr rfl) (resT rfl (resT rfl rfl)) rfl ⟨(qao fun _ _ => ⟨trivial, trivial⟩), trivial, trivial⟩)
 refine AW.rgs rfl fun K hK => bv rfl (qaf rfl rfl b_lss) ?_
 let E2 : Nat × HV := (11, .ar 24049 w4 eInt.k 0 ((a3.2).length))
 let O3 : Nat × Nat × AObj := (24049, w4, .arr eInt.k 3 (eInt.E a3.2))
 refine bf hK (P2 [E2, (24, slE eStr p0.2), E1, (26, hI a3.1), (27, .bool (decide (a3.1 < ((p0.2).length : Int))))] [O3]) ?_
 refine AW.cseq rfl (fun hc => ?_) (fun hc => ?_)
 ·obtain ⟨hc, h⟩ := cT hc h
  refine AW.skip ?_
  refine AW.seqJ h (S := (List Int)) (V := Nat) (fun a v => (P2 [(11, .ar 24049 v eInt.k 0 ((a).length)), (24, slE eStr p0.2), E1, (26, hI a3.1)] [(24049, v, .arr eInt.k 3 (eInt.E a))])) (fun a7 w8 h => ?_) (fun k9 h => ?_)
  ·refine AW.rg rfl fun K hK => bv rfl (qaf rfl rfl b_add) (mv rfl rfl ?_)
   refine qah (hK _ ?_)
   exact to_L ⟨(IntKind.wrap .i64 (a3.1 + 1), a7), w8, h, rfl⟩
  refine AW.block ?_
  refine AW.rgs rfl fun K hK => mv rfl rfl ?_
  obtain ⟨x10, h11, h⟩ := bS h
  refine bv rfl (qaW ty22 es22 rfl rfl (qaO h11)) (bv rfl (qab ty9 rfl (qaZ eStr h11 (o := 0) rfl rfl)) (mv rfl rfl (mv rfl rfl ?_)))
  refine bf hK (P2 [E2, (12, hI a3.1), (13, .str x10), (24, slE eStr p0.2), E1, (26, hI a3.1)] [O3]) ?_
  refine AW.dgs 15 follows rfl rfl fun K hK => ?_
  refine sv rfl (qab ty27 rfl (qaz rfl (lb rfl) rfl)) ?_
  refine sv rfl (qad fo24_0 rfl) ?_
  refine sv rfl (qab ty22 rfl (qam rfl rfl)) ?_
  refine sm rfl rfl ?_
  obtain ⟨x12, h13, h⟩ := bS h
  refine sv rfl (qaW ty22 es22 rfl rfl (qaO h13)) ?_
  refine sv rfl (qab ty9 rfl (qaZ eStr h13 (o := 0) rfl rfl)) ?_
  refine sm rfl rfl ?_
  obtain ⟨h14, h⟩ := ifN h
  refine sv rfl (qaf rfl rfl (b_sadd h14)) ?_
  refine sv rfl (qad fo24_0 rfl) ?_
  refine sv rfl (qab ty22 rfl (qam rfl rfl)) ?_
  refine sm rfl rfl ?_
  obtain ⟨x15, h16, h⟩ := bS h
  refine sv rfl (qaW ty22 es22 rfl rfl (qaO h16)) ?_
  refine sv rfl (qab ty9 rfl (qaZ eStr h16 (o := 0) rfl rfl)) ?_
  obtain ⟨h17, h⟩ := ifN h
  refine sv rfl (qaf rfl rfl (b_sadd h17)) ?_
  obtain ⟨x18, h19, h⟩ := bS h
  refine s_op rfl rfl (qaS rfl rfl rfl rfl (ACallD.pure0 (w_merging_accepts h19)) ?_)
  refine s_nil ?_
  refine bf hK (P2 [E2, (12, hI a3.1), (24, slE eStr p0.2), E1, (26, hI a3.1), (45, .bool x18)] [O3]) ?_
  refine AW.cond rfl (fun hc => ?_) (fun hc => ?_)
  ·have h := ifT hc h
   refine AW.rg rfl fun K hK => mv rfl rfl (mv rfl rfl ?_)
   refine b_op rfl (o_bsl rfl rfl (as_of (cs := [hI a3.1]) ty31 ty3 rfl rfl rfl rfl rfl) ?_)
   obtain ⟨h21, h⟩ := ifN h
   refine b_op rfl (o_appE eInt (l := a3.2) (m := [a3.1]) rfl rfl ty31 ty31 ty3 rfl rfl rfl rfl rfl h21 (fun v20 => ?_))
   refine mv rfl rfl ?_
   refine qah (hK _ ?_)
   exact to_L ⟨a3.2 ++ [a3.1], v20, h, rfl⟩
  have h := ifF (bF' hc) h
  refine AW.skip ?_
  exact to_L ⟨a3.2, w4, h, rfl⟩
 obtain ⟨hc, h⟩ := cF hc h
 refine AW.exit ?_
 exact to_L ⟨a3.2, w4, h, rfl⟩
theorem w_slices_Equal_Lint_int {p0 : List (Int)} {p1 : List (Int)} {r : Bool} (h : qa0 p0 p1 = some r) : Pure Tryz.prog 37 [slE eInt p0, slE eInt p1] (· = HV.bool r) := by
 unfold qa0 at h
 refine Pure.of_body Tryz.func37 rfl rfl (lb rfl) fun hf => ?_
 unfold Tryz.f37
 dsimp only [qaG, Nat.reduceAdd]
 refine AW.rgs rfl fun K hK => mv rfl rfl ?_
 let P3 : ASf := fun t H => ⟨(0, slE eInt p0) :: (1, slE eInt p1) :: t, H⟩
 refine bf hK (P3 [] []) ?_
 refine AW.seq ?_
 refine AW.rgs rfl fun K hK => mv rfl rfl (bv rfl (qaI rfl rfl ty31 rfl) (mv rfl rfl (bv rfl (qaI rfl rfl ty31 rfl) (bv rfl (qaf rfl rfl b_neq) ?_))))
 refine bf hK (P3 [(10, .bool (decide (((p0).length : Int) ≠ ((p1).length : Int))))] []) ?_
 refine AW.cond rfl (fun hc => ?_) (fun hc => ?_)
 ·obtain ⟨hc, h⟩ := cT hc h
  refine AW.rgs rfl fun K hK => mv rfl rfl ?_
  refine bf hK ⟨[(4, .bool false)], []⟩ ?_
  obtain rfl := oi h
  exact AW.ret (qac (.inr rfl) (resT rfl rfl) rfl trivial)
 obtain ⟨hc, h⟩ := cF hc h
 refine AW.skip ?_
 refine AW.seq ?_
 refine AW.rgs rfl fun K hK => mv rfl rfl (bv rfl (qaI rfl rfl ty31 rfl) (mv rfl rfl ?_))
 let E4 : Nat × HV := (12, hI ((p0).length : Int))
 refine bf hK (P3 [E4, (13, hI 0)] []) ?_
 refine AW.lpR h (by first | exact qa5 | exact up_to) (S := Int) (V := Unit) (fun a v => (P3 [E4, (13, hI a)] [])) ?_ (X := Unit) (W := Unit) (fun a v => ⟨[], []⟩) (fun a9 w10 h => ?_) (fun a1 w2 st3 h hr4=> ?_)
 ·exact to_L ⟨(), rfl⟩
 ·refine AW.rgs rfl fun K hK => mv rfl rfl ?_
  refine bf hK ⟨[(4, .bool true)], []⟩ ?_
  obtain rfl := oi h
  exact AW.ret (qac (.inr rfl) (resT rfl rfl) rfl trivial)
 refine AW.rgs rfl fun K hK => bv rfl (qaf rfl rfl b_lss) ?_
 refine bf hK (P3 [E4, (13, hI a1), (14, .bool (decide (a1 < ((p0).length : Int))))] []) ?_
 refine AW.cseq rfl (fun hc => ?_) (fun hc => ?_)
 ·obtain ⟨hc, h⟩ := cT hc h
  refine AW.skip ?_
  refine AW.seq (AW.block ?_)
  refine AW.rgs rfl fun K hK => mv rfl rfl (mv rfl rfl ?_)
  refine bf hK (P3 [(5, hI a1), E4, (13, hI a1)] []) ?_
  refine AW.dgs 9 follows rfl rfl fun K hK => ?_
  iterate 2 refine sm rfl rfl ?_
  obtain ⟨x5, h6, h⟩ := bS h
  refine sv rfl (qaW ty31 es31 rfl rfl (qaO h6)) ?_
  refine sv rfl (qab ty3 rfl (qaZ eInt h6 (o := 0) rfl rfl)) ?_
  iterate 2 refine sm rfl rfl ?_
  obtain ⟨x7, h8, h⟩ := bS h
  refine sv rfl (qaW ty31 es31 rfl rfl (qaO h8)) ?_
  refine sv rfl (qab ty3 rfl (qaZ eInt h8 (o := 0) rfl rfl)) ?_
  refine sv rfl (qaf rfl rfl b_neq) ?_
  refine s_nil ?_
  refine bf hK (P3 [E4, (13, hI a1), (24, .bool (decide (x5 ≠ x7)))] []) ?_
  refine AW.cond rfl (fun hc => ?_) (fun hc => ?_)
  ·obtain ⟨hc, h⟩ := cT hc h
   refine AW.rgs rfl fun K hK => mv rfl rfl ?_
   refine bf hK ⟨[(4, .bool false)], []⟩ ?_
   have h := hr4 _ h
   obtain rfl := oi h
   exact AW.ret (qac (.inr rfl) (resT rfl rfl) rfl trivial)
  obtain ⟨hc, h⟩ := cF hc h
  refine AW.skip ?_
  refine AW.rg rfl fun K hK => bv rfl (qaf rfl rfl b_add) (mv rfl rfl ?_)
  refine qah (hK _ ?_)
  exact to_L ⟨IntKind.wrap .i64 (a1 + 1), (), h, rfl⟩
 obtain ⟨hc, h⟩ := cF hc h
 refine AW.exit ?_
 exact to_L ⟨(), (), h, rfl⟩
theorem w_law31_golden  {r : qaa} (h : m_law31_golden  = some r) : Pure Tryz.prog 51 [] (· = gA r) := by
 unfold m_law31_golden at h
 refine Pure.of_body Tryz.func51 rfl rfl (lb rfl) fun hf => ?_
 unfold Tryz.f51
 dsimp only [qaG, Nat.reduceAdd]
 refine AW.rgs rfl fun K hK => b_op rfl (qbj (fid := 51) (zs := [hI 0, hI 0, .v (.slice none 0 0)]) 51000 rfl rfl ty27 rfl (fun v1 => ?_))
 refine bf hK ⟨[(0, .ptr 51000 v1 0)], [(51000, v1, .arr 3 27 [hI 0, hI 0, .v (.slice none 0 0)])]⟩ ?_
 refine AW.rgs rfl fun K hK => b_op rfl (o_build (cs := [hI 0, hI 0, hI 0]) rfl (bl_of ty128 rfl rfl rfl rfl) ?_)
 refine b_op rfl (o_build (cs := [hI 0, hI 1, hI 1]) rfl (bl_of ty128 rfl rfl rfl rfl) ?_)
 refine b_op rfl (o_build (cs := [hI 1, hI 0, hI 0]) rfl (bl_of ty128 rfl rfl rfl rfl) ?_)
 refine b_op rfl (o_bsl rfl rfl (as_of (cs := [hI 0, hI 0, hI 0, hI 0, hI 1, hI 1, hI 1, hI 0, hI 0]) ty25 ty128 rfl rfl rfl rfl rfl) ?_)
 refine b_op rfl (o_build (cs := [hI 2, hI 2, slE eFromLabelTo [(0, 0, 0), (0, 1, 1), (1, 0, 0)]]) rfl (bl_of ty27 rfl rfl rfl rfl) ?_)
 refine b_op rfl (qaH (cs := [hI 2, hI 2, slE eFromLabelTo [(0, 0, 0), (0, 1, 1), (1, 0, 0)]]) (zs := [hI 2, hI 2, slE eFromLabelTo [(0, 0, 0), (0, 1, 1), (1, 0, 0)]]) rfl rfl rfl ty27 rfl rfl rfl rfl rfl ?_)
 refine bf hK ⟨[(0, .ptr 51000 v1 0)], [(51000, v1, .arr 3 27 [hI 2, hI 2, slE eFromLabelTo [(0, 0, 0), (0, 1, 1), (1, 0, 0)]])]⟩ ?_
 obtain rfl := oi h
 exact AW.ret (qac (.inr rfl) (resP ty27 rfl rfl (qaz rfl (lb rfl) rfl) rfl) rfl ⟨trivial, trivial, (qao fun _ _ => ⟨trivial, trivial, trivial, trivial⟩), trivial⟩)
theorem w_law31_awakeG  {r : Bool} (h : m_law31_awakeG  = some r) : Pure Tryz.prog 13 [] (· = HV.bool r) := by
 unfold m_law31_awakeG at h
 refine Pure.of_body Tryz.func13 rfl rfl (lb rfl) fun hf => ?_
 unfold Tryz.f13
 dsimp only [qaG, Nat.reduceAdd]
 refine AW.rgs rfl fun K hK => mv rfl rfl ?_
 refine bf hK ⟨[], []⟩ ?_
 refine AW.rgs rfl fun K hK => b_op rfl (o_bsl rfl rfl (as_of (cs := [.str [48, 48], .str [48, 49], .str [49, 48]]) ty22 ty9 rfl rfl rfl rfl rfl) ?_)
 refine b_op rfl (o_bsl rfl rfl (as_of (cs := [.str [48], .str [49]]) ty22 ty9 rfl rfl rfl rfl rfl) ?_)
 refine b_op rfl (o_build (cs := [slE eStr [[48, 48], [48, 49], [49, 48]], slE eStr [[48], [49]]]) rfl (bl_of ty24 rfl rfl rfl rfl) ?_)
 refine b_op rfl (qbj (fid := 13) (zs := [.v (.slice none 0 0), .v (.slice none 0 0)]) 13001 rfl rfl ty24 rfl (fun v1 => ?_))
 refine b_op rfl (qaH (cs := [slE eStr [[48, 48], [48, 49], [49, 48]], slE eStr [[48], [49]]]) (zs := [slE eStr [[48, 48], [48, 49], [49, 48]], slE eStr [[48], [49]]]) rfl rfl rfl ty24 rfl rfl rfl rfl rfl ?_)
 let O5 : Nat × Nat × AObj := (13001, v1, .arr 2 24 [slE eStr [[48, 48], [48, 49], [49, 48]], slE eStr [[48], [49]]])
 let P4 : ASf := fun t H => ⟨(1, .ptr 13001 v1 0) :: t, O5 :: H⟩
 refine bf hK (P4 [] []) ?_
 refine AW.dgs 8 follows rfl rfl fun K hK => ?_
 refine sv rfl (qas ty24 rfl rfl (qaz rfl (lb rfl) rfl)) ?_
 obtain ⟨x2, h3, h⟩ := bS h
 refine s_op rfl rfl (qaS rfl rfl rfl rfl (ACallD.pure0 (w_law31_golden h3)) ?_)
 obtain ⟨x4, h5, h⟩ := bS h
 refine s_op rfl rfl (qaS rfl rfl rfl rfl (ACallD.pure0 (w_merging_Merges h5)) ?_)
 refine sm rfl rfl ?_
 refine sv rfl (qat rfl rfl) ?_
 refine sv rfl (qat rfl rfl) ?_
 iterate 2 refine sm rfl rfl ?_
 refine s_nil ?_
 refine bf hK (P4 [(2, slE eInt x4.1), (3, hI x4.2)] []) ?_
 refine AW.dgs 8 follows rfl rfl fun K hK => ?_
 refine sv rfl (qas ty24 rfl rfl (qaz rfl (lb rfl) rfl)) ?_
 obtain ⟨x6, h7, h⟩ := bS h
 refine s_op rfl rfl (qaS rfl rfl rfl rfl (ACallD.pure0 (w_law31_golden h7)) ?_)
 obtain ⟨x8, h9, h⟩ := bS h
 refine s_op rfl rfl (qaS rfl rfl rfl rfl (ACallD.pure0 (w_merging_Merges h9)) ?_)
 refine sm rfl rfl ?_
 refine sv rfl (qat rfl rfl) ?_
 refine sv rfl (qat rfl rfl) ?_
 iterate 2 refine sm rfl rfl ?_
 refine s_nil ?_
 refine bf hK (P4 [(2, slE eInt x4.1), (3, hI x4.2), (4, slE eInt x8.1), (5, hI x8.2)] []) ?_
 refine AW.dgs 9 follows rfl rfl fun K hK => ?_
 refine sv rfl (qas ty24 rfl rfl (qaz rfl (lb rfl) rfl)) ?_
 obtain ⟨x10, h11, h⟩ := bS h
 refine s_op rfl rfl (qaS rfl rfl rfl rfl (ACallD.pure0 (w_law31_golden h11)) ?_)
 refine s_op rfl rfl (ops_bsl rfl rfl (as_of (cs := [hI 0, hI 0]) ty31 ty3 rfl rfl rfl rfl rfl) ?_)
 obtain ⟨x12, h13, h⟩ := bS h
 refine s_op rfl rfl (qaS rfl rfl rfl rfl (ACallD.pure0 (w_merging_Encode h13)) ?_)
 refine sm rfl rfl ?_
 refine sv rfl (qat rfl rfl) ?_
 refine sv rfl (qat rfl rfl) ?_
 iterate 2 refine sm rfl rfl ?_
 refine s_nil ?_
 refine bf hK (P4 [(2, slE eInt x4.1), (3, hI x4.2), (4, slE eInt x8.1), (5, hI x8.2), (6, .str x12.1), (7, hI x12.2)] []) ?_
 refine AW.rgs rfl fun K hK => bv rfl (qas ty24 rfl rfl (qaz rfl (lb rfl) rfl)) ?_
 obtain ⟨x14, h15, h⟩ := bS h
 refine b_op rfl (qay rfl rfl rfl rfl (ACallD.pure0 (w_merging_Rate h15)) ?_)
 refine mv rfl rfl (bv rfl (qat rfl rfl) (bv rfl (qat rfl rfl) ?_))
 refine b_op rfl (qbj (fid := 13) (zs := zND) 13008 rfl rfl ty44 rfl (fun v16 => ?_))
 refine b_op rfl (qaH (cs := (cNumDen x14.1)) (zs := (cNumDen x14.1)) rfl rfl rfl ty44 rfl rfl rfl rfl rfl ?_)
 refine mv rfl rfl ?_
 let P5 : ASf := fun t H => ⟨(2, slE eInt x4.1) :: (3, hI x4.2) :: (4, slE eInt x8.1) :: (5, hI x8.2) :: (6, .str x12.1) :: (7, hI x12.2) :: (8, .ptr 13008 v16 0) :: (9, hI x14.2) :: t, (13008, v16, .arr 4 44 (cNumDen x14.1)) :: H⟩
 refine bf hK (P5 [] []) ?_
 refine AW.rgs rfl fun K hK => ?_
 obtain ⟨x17, h18, h⟩ := bS h
 refine b_op rfl (qay rfl rfl rfl rfl (ACallD.pure0 (w_rational_Ratio h18)) ?_)
 refine mv rfl rfl (bv rfl (qat rfl rfl) (bv rfl (qat rfl rfl) ?_))
 refine b_op rfl (qbj (fid := 13) (zs := zND) 13010 rfl rfl ty44 rfl (fun v19 => ?_))
 refine b_op rfl (qaH (cs := (cNumDen x17.1)) (zs := (cNumDen x17.1)) rfl rfl rfl ty44 rfl rfl rfl rfl rfl ?_)
 refine mv rfl rfl ?_
 refine bf hK (P5 [(10, .ptr 13010 v19 0)] [(13010, v19, .arr 4 44 (cNumDen x17.1))]) ?_
 refine AW.seqJ h (S := Bool) (V := Unit) (fun a v => ⟨[(0, .bool a)], []⟩) (fun a20 w21 h => ?_) (fun k22 h => ?_)
 ·obtain rfl := oi h
  exact AW.ret (qac (.inr rfl) (resT rfl rfl) rfl trivial)
 refine AW.rg rfl fun K hK => mv rfl rfl (mv rfl rfl (mv rfl rfl (mv rfl rfl (bv rfl (v_max4 rfl rfl rfl rfl rfl) (bv rfl (qaf rfl rfl b_eql) ?_)))))
 refine mv rfl rfl ?_
 by_cases hg30 : (max (max (max x4.2 x8.2) x12.2) x14.2) = 0
 ·have h := ifT hg30 h
  refine b_T rfl rfl rfl rfl (decide_eq_true hg30) (qai rfl (qaR rfl rfl).2 ?_)
  refine b_T rfl rfl rfl rfl rfl (o_bsl rfl rfl (as_of (cs := [hI 0, hI 1]) ty31 ty3 rfl rfl rfl rfl rfl) ?_)
  obtain ⟨x23, h24, h⟩ := bS h
  refine b_T rfl rfl rfl rfl rfl (qay rfl rfl rfl rfl (ACallD.pure0 (w_slices_Equal_Lint_int h24)) ?_)
  refine bv rfl (qak rfl rfl rfl) (mv rfl rfl ?_)
  by_cases hg29 : x23 = true
  ·have h := ifT hg29 h
   refine b_T rfl rfl rfl rfl hg29 (qai rfl (qaR rfl rfl).2 ?_)
   refine b_T rfl rfl rfl rfl rfl (o_bsl rfl rfl (as_of (cs := [hI 0]) ty31 ty3 rfl rfl rfl rfl rfl) ?_)
   obtain ⟨x25, h26, h⟩ := bS h
   refine b_T rfl rfl rfl rfl rfl (qay rfl rfl rfl rfl (ACallD.pure0 (w_slices_Equal_Lint_int h26)) ?_)
   refine bv rfl (qak rfl rfl rfl) (mv rfl rfl ?_)
   by_cases hg28 : x25 = true
   ·have h := ifT hg28 h
    refine b_T rfl rfl rfl rfl hg28 (qai rfl (qaR rfl rfl).2 ?_)
    refine b_T rfl rfl rfl rfl rfl (qai rfl (qaf rfl rfl b_seql) ?_)
    refine bv rfl (qak rfl rfl rfl) (mv rfl rfl ?_)
    by_cases hg27 : x12.1 = [48, 48, 49, 48, 48]
    ·have h := ifT hg27 h
     refine b_T rfl rfl rfl rfl (decide_eq_true hg27) (qai rfl (qas ty44 rfl rfl (qaz rfl (lb rfl) rfl)) ?_)
     refine b_T rfl rfl rfl rfl rfl (qai rfl (qas ty44 rfl rfl (qaz rfl (lb rfl) rfl)) ?_)
     refine b_T rfl rfl rfl rfl rfl (qai rfl (qaf rfl rfl (b_aeql (hk44 _ _ _ _) (hk44 _ _ _ _) hc44 (hq44 x14.1 x17.1))) ?_)
     refine bv rfl (qak rfl rfl rfl) (mv rfl rfl ?_)
     refine qah (hK _ ?_)
     exact to_L ⟨decide (x14.1 = x17.1), (), h, rfl⟩
    have h := ifF hg27 h
    refine b_F rfl rfl rfl rfl rfl (decide_eq_false hg27) ?_
    iterate 2 refine b_F rfl rfl rfl rfl rfl rfl ?_
    refine bv rfl (qan rfl rfl rfl) (mv rfl rfl ?_)
    refine qah (hK _ ?_)
    exact to_L ⟨false, (), h, rfl⟩
   have h := ifF hg28 h
   refine b_F rfl rfl rfl rfl rfl (bF hg28) ?_
   refine b_F rfl rfl rfl rfl rfl rfl ?_
   refine bv rfl (qan rfl rfl rfl) (mv rfl rfl ?_)
   iterate 3 refine b_F rfl rfl rfl rfl rfl rfl ?_
   refine bv rfl (qan rfl rfl rfl) (mv rfl rfl ?_)
   refine qah (hK _ ?_)
   exact to_L ⟨false, (), h, rfl⟩
  have h := ifF hg29 h
  refine b_F rfl rfl rfl rfl rfl (bF hg29) ?_
  iterate 2 refine b_F rfl rfl rfl rfl rfl rfl ?_
  refine bv rfl (qan rfl rfl rfl) (mv rfl rfl ?_)
  iterate 2 refine b_F rfl rfl rfl rfl rfl rfl ?_
  refine bv rfl (qan rfl rfl rfl) (mv rfl rfl ?_)
  iterate 3 refine b_F rfl rfl rfl rfl rfl rfl ?_
  refine bv rfl (qan rfl rfl rfl) (mv rfl rfl ?_)
  refine qah (hK _ ?_)
  exact to_L ⟨false, (), h, rfl⟩
 have h := ifF hg30 h
 refine b_F rfl rfl rfl rfl rfl (decide_eq_false hg30) ?_
 iterate 2 refine b_F rfl rfl rfl rfl rfl rfl ?_
 refine bv rfl (qan rfl rfl rfl) (mv rfl rfl ?_)
 iterate 3 refine b_F rfl rfl rfl rfl rfl rfl ?_
 refine bv rfl (qan rfl rfl rfl) (mv rfl rfl ?_)
 iterate 2 refine b_F rfl rfl rfl rfl rfl rfl ?_
 refine bv rfl (qan rfl rfl rfl) (mv rfl rfl ?_)
 iterate 3 refine b_F rfl rfl rfl rfl rfl rfl ?_
 refine bv rfl (qan rfl rfl rfl) (mv rfl rfl ?_)
 refine qah (hK _ ?_)
 exact to_L ⟨false, (), h, rfl⟩
end Go.AW

namespace Go.AW
open Go
theorem loopW_eq {S X : Type} (body : S → Option (Stp S X)) (s : S) : loopW body s = match body s with
  | none => none
  | some (.exit x) => some x
  | some (.next s') => loopW body s' := by
 cases h : body s with
 | none => exact loopW_stuck h
 | some r => cases r with
  | exit x => exact loopW_exit h
  | next s' => exact loopW_next h
abbrev Gr := qaa
abbrev Ed := qaj
def cmp3 (x y : Ed) : Int := if x.1 < y.1 then -1 else if y.1 < x.1 then 1 else if x.2.1 < y.2.1 then -1 else if y.2.1 < x.2.1 then 1 else if x.2.2 < y.2.2 then -1 else if y.2.2 < x.2.2 then 1 else 0
theorem cmpC (a b : Int) : m_cmp_Compare_int a b = some (if a < b then -1 else if b < a then 1 else 0) := by
 unfold m_cmp_Compare_int m_cmp_isNaN_int
 simp only [ne_eq, not_true_eq_false, decide_false, Option.bind_some, Bool.false_eq_true, if_false]
 split <;> (try rfl)
 split <;> rfl
theorem wr0 : IntKind.wrap .i64 (0 + 1) = 1 := by decide
theorem wr1 : IntKind.wrap .i64 (1 + 1) = 2 := by decide
theorem wr2 : IntKind.wrap .i64 (2 + 1) = 3 := by decide
theorem ix3_0 (a b c : Int) : idx [a, b, c] 0 = some a := rfl
theorem ix3_1 (a b c : Int) : idx [a, b, c] 1 = some b := rfl
theorem ix3_2 (a b c : Int) : idx [a, b, c] 2 = some c := rfl
theorem len3 (a b c : Int) : (([a, b, c] : List Int).length : Int) = 3 := rfl
theorem by1_eq (x y : Ed) : qbq x y = some (cmp3 x y) := by
 unfold qbq m_graph_list qbo cmp3
 simp only [Option.bind_some, len3]
 rw [loopW_eq]
 simp only [ix3_0, cmpC, Option.bind_some, wr0]
 by_cases a1 : x.1 < y.1
 ·simp [a1, lpO]
 by_cases a2 : y.1 < x.1
 ·simp [a1, a2, lpO]
 simp only [a1, a2, if_false, ne_eq, not_true_eq_false, if_true, Int.reduceLT, Int.reduceLE]
 rw [loopW_eq]
 simp only [ix3_1, cmpC, Option.bind_some, wr1]
 by_cases b1 : x.2.1 < y.2.1
 ·simp [b1, lpO]
 by_cases b2 : y.2.1 < x.2.1
 ·simp [b1, b2, lpO]
 simp only [b1, b2, if_false, ne_eq, not_true_eq_false, if_true, Int.reduceLT, Int.reduceLE]
 rw [loopW_eq]
 simp only [ix3_2, cmpC, Option.bind_some, wr2]
 by_cases c1 : x.2.2 < y.2.2
 ·simp [c1, lpO]
 by_cases c2 : y.2.2 < x.2.2
 ·simp [c1, c2, lpO]
 simp only [c1, c2, if_false, ne_eq, not_true_eq_false, if_true, Int.reduceLT, Int.reduceLE]
 rw [loopW_eq]
 simp [lpO]
theorem cmp_eq (x y : Ed) : m_ref09_Compare x y = some (cmp3 x y) := by
 unfold m_ref09_Compare cmp3
 rw [loopW_eq]
 simp only [ix3_0, Option.bind_some, wr0]
 by_cases a1 : x.1 < y.1
 ·simp [a1, lpO]
 by_cases a2 : y.1 < x.1
 ·simp [a1, a2, lpO]
 simp only [a1, a2, if_false, if_true, Int.reduceLT]
 rw [loopW_eq]
 simp only [ix3_1, Option.bind_some, wr1]
 by_cases b1 : x.2.1 < y.2.1
 ·simp [b1, lpO]
 by_cases b2 : y.2.1 < x.2.1
 ·simp [b1, b2, lpO]
 simp only [b1, b2, if_false, if_true, Int.reduceLT]
 rw [loopW_eq]
 simp only [ix3_2, Option.bind_some, wr2]
 by_cases c1 : x.2.2 < y.2.2
 ·simp [c1, lpO]
 by_cases c2 : y.2.2 < x.2.2
 ·simp [c1, c2, lpO]
 simp only [c1, c2, if_false, if_true, Int.reduceLT]
 rw [loopW_eq]
 simp [lpO]
theorem Check_ref (g : Gr) : qbp g = qaT g := by
 unfold qbp qaT
 have key : ∀ (x : Ed) (k : Bool → Option (Stp Int (Ou Unit Int))), (if (min (min x.1 x.2.1) x.2.2) < 0 then k true else if g.2.1 ≤ (max x.1 x.2.2) then k true else k (decide (g.1 ≤ x.2.1))) =
   (if x.1 < 0 then k true else if g.2.1 ≤ x.1 then k true else if x.2.2 < 0 then k true else if g.2.1 ≤ x.2.2 then k true else if x.2.1 < 0 then k true else k (decide (g.1 ≤ x.2.1))) := by
  intro x k
  by_cases h1 : x.1 < 0
  ·rw [if_pos (by omega), if_pos h1]
  by_cases h2 : g.2.1 ≤ x.1
  ·rw [if_neg h1, if_pos h2]
   split
   ·rfl
   ·rw [if_pos (by omega)]
  by_cases h3 : x.2.2 < 0
  ·rw [if_neg h1, if_neg h2, if_pos h3, if_pos (by omega)]
  by_cases h4 : g.2.1 ≤ x.2.2
  ·rw [if_neg h1, if_neg h2, if_neg h3, if_pos h4]
   split
   ·rfl
   ·rw [if_pos (by omega)]
  by_cases h5 : x.2.1 < 0
  ·rw [if_neg h1, if_neg h2, if_neg h3, if_neg h4, if_pos h5, if_pos (by omega)]
  ·rw [if_neg h1, if_neg h2, if_neg h3, if_neg h4, if_neg h5, if_neg (by omega), if_neg (by omega)]
 simp only [by1_eq, cmp_eq, key]
structure VG (g : Gr) : Prop where
 l1 : 1 ≤ g.1
 l2 : g.1 ≤ 256
 s0 : 0 ≤ g.2.1
 s1 : g.2.1 ≤ 64
 el : g.2.2.length ≤ 1024
 ed : ∀ x ∈ g.2.2, 0 ≤ x.1 ∧ x.1 < g.2.1 ∧ 0 ≤ x.2.2 ∧ x.2.2 < g.2.1 ∧ 0 ≤ x.2.1 ∧ x.2.1 < g.1
 ord : ∀ (i : Nat) (h : i + 1 < g.2.2.length), cmp3 (g.2.2[i]'(by omega)) g.2.2[i + 1] < 0
theorem ix_pred {α : Type} {l : List α} {i : Nat} (h : i < l.length) (hm : l.length ≤ 9223372036854775807) (h0 : 0 < i) : idx l (IntKind.wrap .i64 ((i : Int) - 1)) = some (l[i - 1]'(by omega)) := by
 rw [w64 (by omega) (by omega), show ((i : Int) - 1) = ((i - 1 : Nat) : Int) by omega]
 exact ix (by omega)
theorem lpO_ex {V R Y : Type} {o : Option (Ou V R)} {M : V → Option Y} {Rt : R → Option Y} {C : Y → Prop} (Q : Ou V R → Prop) (h : ∃ x, o = some x ∧ Q x) (k : ∀ x, Q x → ∃ e, lpO (some x) M Rt = some e ∧ C e) : ∃ e, lpO o M Rt = some e ∧ C e := by
 obtain ⟨x, rfl, hq⟩ := h
 exact k x hq
theorem Check_tot (g : Gr) : ∃ e, qaT g = some e ∧ (e = 0 ↔ VG g) := by
  unfold qaT
  simp only [jp]
  by_cases h1 : g.1 < 1
  · exact ⟨12, by simp [h1], by simp; intro v; have := v.l1; omega⟩
  by_cases h2 : 256 < g.1
  · exact ⟨12, by simp [h1, h2], by simp; intro v; have := v.l2; omega⟩
  by_cases h3 : g.2.1 < 0
  · exact ⟨2, by simp [h1, h2, h3], by simp; intro v; have := v.s0; omega⟩
  by_cases h4 : 64 < g.2.1
  · exact ⟨4, by simp [h1, h2, h3, h4], by simp; intro v; have := v.s1; omega⟩
  by_cases h5 : 1024 < (g.2.2.length : Int)
  · exact ⟨4, by simp [h1, h2, h3, h4, h5], by simp; intro v; have := v.el; omega⟩
  simp only [h1, h2, h3, h4, h5, if_false, decide_false, Bool.false_eq_true, cmp_eq, Option.bind_some, if_true]
  refine lpO_ex (fun x => (x = .ret 2 ∧ ¬ VG g) ∨ (x = .ret 10 ∧ ¬ VG g) ∨ (x = .go () ∧ VG g)) ?_ ?_
  · refine loopN g.2.2.length (fun i s => s = (i : Int) ∧ (∀ (j : Nat) (h : j < i) (hj : j < g.2.2.length), 0 ≤ g.2.2[j].1 ∧ g.2.2[j].1 < g.2.1 ∧ 0 ≤ g.2.2[j].2.2 ∧ g.2.2[j].2.2 < g.2.1 ∧ 0 ≤ g.2.2[j].2.1 ∧ g.2.2[j].2.1 < g.1) ∧
        ∀ (j : Nat) (h : j + 1 < i) (hj : j + 1 < g.2.2.length), cmp3 (g.2.2[j]'(by omega)) g.2.2[j + 1] < 0) ?_ ?_ 0 _ (Nat.zero_le _) ⟨rfl, fun _ h => by omega, fun _ h => by omega⟩
    · rintro i s hi ⟨rfl, he, ho⟩
      rw [if_pos (qbt hi), ix hi]
      simp only [Option.bind_some]
      by_cases hg : 0 ≤ g.2.2[i].1 ∧ g.2.2[i].1 < g.2.1 ∧ 0 ≤ g.2.2[i].2.2 ∧ g.2.2[i].2.2 < g.2.1 ∧ 0 ≤ g.2.2[i].2.1 ∧ g.2.2[i].2.1 < g.1
      · obtain ⟨e1, e2, e3, e4, e5, e6⟩ := hg
        rw [if_neg (by omega), if_neg (by omega), if_neg (by omega), if_neg (by omega), if_neg (by omega)]
        have hd : decide (g.1 ≤ g.2.2[i].2.1) = false := decide_eq_false (by omega)
        rw [hd]
        simp only [Bool.false_eq_true, if_false]
        have he' : ∀ (j : Nat) (h : j < i + 1) (hj : j < g.2.2.length), 0 ≤ g.2.2[j].1 ∧ g.2.2[j].1 < g.2.1 ∧ 0 ≤ g.2.2[j].2.2 ∧ g.2.2[j].2.2 < g.2.1 ∧ 0 ≤ g.2.2[j].2.1 ∧ g.2.2[j].2.1 < g.1 := by
          intro j hj hjl
          by_cases hji : j = i
          · subst hji; exact ⟨e1, e2, e3, e4, e5, e6⟩
          · exact he j (by omega) hjl
        by_cases h0 : 0 < i
        · rw [if_pos (by omega), ix_pred hi (by omega) h0]
          simp only [Option.bind_some]
          by_cases hc : 0 ≤ cmp3 (g.2.2[i - 1]'(by omega)) g.2.2[i]
          · refine .inr ⟨.ret 10, by rw [if_pos (decide_eq_true hc)], .inr (.inl ⟨rfl, fun v => ?_⟩)⟩
            have := v.ord (i - 1) (by omega)
            simp only [show i - 1 + 1 = i by omega] at this
            omega
          · refine .inl ⟨_, by rw [if_neg (by simpa using hc)], by rw [nx (by omega : g.2.2.length ≤ _) hi], he', fun j hj hjl => ?_⟩
            by_cases hji : j + 1 = i
            · have hj' : j = i - 1 := by omega
              subst hj'
              simp only [show i - 1 + 1 = i by omega]
              omega
            · exact ho j (by omega) hjl
        · refine .inl ⟨_, by rw [if_neg (by omega)], by rw [nx (by omega : g.2.2.length ≤ _) hi], he', fun j hj hjl => by omega⟩
      · have hv : ¬ VG g := fun v => hg (v.ed _ (List.getElem_mem hi))
        refine .inr ⟨.ret 2, ?_, .inl ⟨rfl, hv⟩⟩
        by_cases e1 : g.2.2[i].1 < 0
        · rw [if_pos e1]
        rw [if_neg e1]
        by_cases e2 : g.2.1 ≤ g.2.2[i].1
        · rw [if_pos e2]
        rw [if_neg e2]
        by_cases e3 : g.2.2[i].2.2 < 0
        · rw [if_pos e3]
        rw [if_neg e3]
        by_cases e4 : g.2.1 ≤ g.2.2[i].2.2
        · rw [if_pos e4]
        rw [if_neg e4]
        by_cases e5 : g.2.2[i].2.1 < 0
        · rw [if_pos e5]
        rw [if_neg e5, if_pos (decide_eq_true (by omega))]
    · rintro s ⟨rfl, he, ho⟩
      rw [if_neg (qaw _)]
      refine ⟨_, rfl, .inr (.inr ⟨rfl, ⟨by omega, by omega, by omega, by omega, by omega, fun x hx => ?_, fun i h => ho i h h⟩⟩)⟩
      obtain ⟨j, hj, rfl⟩ := List.getElem_of_mem hx
      exact he j hj hj
  · rintro x (⟨rfl, hv⟩ | ⟨rfl, hv⟩ | ⟨rfl, hv⟩)
    · exact ⟨2, rfl, by simp [hv]⟩
    · exact ⟨10, rfl, by simp [hv]⟩
    · exact ⟨0, rfl, by simp [hv]⟩
theorem asc_uniq {l m : List Int} (hl : l.Pairwise (· < ·)) (hm : m.Pairwise (· < ·)) (h : ∀ x, x ∈ l ↔ x ∈ m) : l = m := by
 have nl : l.Nodup := hl.imp fun h => Int.ne_of_lt h
 have nm : m.Nodup := hm.imp fun h => Int.ne_of_lt h
 have hp : l.Perm m := (List.perm_ext_iff_of_nodup nl nm).2 h
 exact hp.eq_of_pairwise (fun a b _ _ h1 h2 => by omega) hl hm
theorem sortI_mem {l : List Int} {x : Int} : x ∈ sortI l ↔ x ∈ l := (List.mergeSort_perm l _).mem_iff
theorem sortI_asc (l : List Int) : (sortI l).Pairwise (· ≤ ·) := by
 have := List.pairwise_mergeSort (le := fun x y : Int => decide (x ≤ y)) (fun a b c h1 h2 => by simp at *; omega) (fun a b => by simp; omega) l
 exact this.imp fun h => by simpa using h
theorem keeps_iff (d : Array Int) (j : Nat) : Lib.keeps d j = true ↔ j = 0 ∨ d[j]! ≠ d[j - 1]! := by
 simp [Lib.keeps]
theorem compact_asc {l : List Int} (h : l.Pairwise (· ≤ ·)) : (qaU l).Pairwise (· < ·) := by
 show (Lib.compactUpTo l.toArray l.length).Pairwise (· < ·)
 unfold Lib.compactUpTo
 rw [List.pairwise_map]
 refine List.Pairwise.imp_of_mem ?_ ((List.pairwise_lt_range (n := l.length)).filter _)
 intro i j hi hj hij
 have hi' := List.mem_range.1 (List.mem_filter.1 hi).1
 have hj' := List.mem_range.1 (List.mem_filter.1 hj).1
 have hk := (keeps_iff _ _).1 (List.mem_filter.1 hj).2
 have e1 : l.toArray[i]! = l[i] := by simp [hi']
 have e2 : l.toArray[j]! = l[j] := by simp [hj']
 have e3 : l.toArray[j - 1]! = l[j - 1]'(by omega) := by simp [show j - 1 < l.length by omega]
 rw [e2, e3] at hk
 rw [e1, e2]
 have hp := List.pairwise_iff_getElem.1 h
 have h1 : l[i] ≤ l[j - 1]'(by omega) := by
  by_cases hie : i = j - 1
  ·subst hie; exact Int.le_refl _
  ·exact hp i (j - 1) hi' (by omega) (by omega)
 have h2 : l[j - 1]'(by omega) ≤ l[j] := hp (j - 1) j (by omega) hj' (by omega)
 omega
theorem compact_has {l : List Int} {x : Int} (h : x ∈ l) : x ∈ qaU l := by
 show x ∈ Lib.compactUpTo l.toArray l.length
 unfold Lib.compactUpTo
 obtain ⟨i, hi, rfl⟩ := List.getElem_of_mem h
 obtain ⟨j, ⟨hjl, hj⟩, hmin⟩ := least (fun j => ∃ h : j < l.length, l[j] = l[i]) ⟨i, hi, rfl⟩
 refine List.mem_map.2 ⟨j, List.mem_filter.2 ⟨List.mem_range.2 hjl, (keeps_iff _ _).2 ?_⟩, by simp [hjl, hj]⟩
 by_cases h0 : j = 0
 ·exact .inl h0
 ·right
  intro he
  have e2 : l.toArray[j]! = l[j] := by simp [hjl]
  have e3 : l.toArray[j - 1]! = l[j - 1]'(by omega) := by simp [show j - 1 < l.length by omega]
  rw [e2, e3] at he
  have := hmin (j - 1) ⟨by omega, by rw [← he, hj]⟩
  omega
theorem compact_sort_mem {l : List Int} {x : Int} : x ∈ qaU (sortI l) ↔ x ∈ l := ⟨fun h => sortI_mem.1 (compact_mem h), fun h => compact_has (sortI_mem.2 h)⟩
def SetOk (g : Gr) (a : List Int) : Prop := a.Pairwise (· < ·) ∧ ∀ x ∈ a, 0 ≤ x ∧ x < g.2.1
def upto (n : Int) : List Int := (List.range n.toNat).map Int.ofNat
theorem mem_upto {n x : Int} : x ∈ upto n ↔ 0 ≤ x ∧ x < n := by
 simp only [upto, List.mem_map, List.mem_range]
 constructor
 ·rintro ⟨i, hi, rfl⟩; simp only [Int.ofNat_eq_natCast]; omega
 ·rintro ⟨h0, h1⟩; exact ⟨x.toNat, by omega, by simp only [Int.ofNat_eq_natCast]; omega⟩
theorem upto_asc (n : Int) : (upto n).Pairwise (· < ·) := by
 rw [upto, List.pairwise_map]
 exact (List.pairwise_lt_range (n := n.toNat)).imp fun h => by simp only [Int.ofNat_eq_natCast]; omega
theorem upto_len (n : Int) : (upto n).length = n.toNat := by simp [upto]
def stepL (g : Gr) (a : List Int) (c : Int) : List Int := (upto g.2.1).filter fun t => g.2.2.any fun e => decide (e.2.2 = t ∧ e.2.1 = c ∧ e.1 ∈ a)
theorem mem_stepL {g : Gr} (hv : VG g) {a : List Int} {c t : Int} : t ∈ stepL g a c ↔ ∃ e ∈ g.2.2, e.2.2 = t ∧ e.2.1 = c ∧ e.1 ∈ a := by
 simp only [stepL, List.mem_filter, List.any_eq_true, decide_eq_true_eq, mem_upto]
 constructor
 ·rintro ⟨_, h⟩; exact h
 ·rintro ⟨e, he, h1, h2, h3⟩
  have := hv.ed e he
  exact ⟨by omega, e, he, h1, h2, h3⟩
theorem stepL_ok (g : Gr) (a : List Int) (c : Int) : SetOk g (stepL g a c) :=
 ⟨(upto_asc _).filter _, fun x hx => mem_upto.1 (List.mem_filter.1 hx).1⟩
theorem upto_ok (g : Gr) : SetOk g (upto g.2.1) := ⟨upto_asc _, fun x hx => mem_upto.1 hx⟩
theorem setOk_len {g : Gr} {a : List Int} (hv : VG g) (h : SetOk g a) : a.length ≤ 64 := by
 have e : a = (upto g.2.1).filter fun x => decide (x ∈ a) := asc_uniq h.1 ((upto_asc _).filter _) fun x => by
  simp only [List.mem_filter, mem_upto, decide_eq_true_eq]
  exact ⟨fun hx => ⟨h.2 x hx, hx⟩, fun hx => hx.2⟩
 rw [e]
 refine Nat.le_trans (List.length_filter_le _ _) ?_
 rw [upto_len]
 have := hv.s1
 omega
theorem checkSet_ok {g : Gr} {a : List Int} (h : SetOk g a) (hm : a.length ≤ 9223372036854775807) : m_graph_checkSet g a = some 0 := by
 unfold m_graph_checkSet
 simp only [jp]
 refine lpL (loop_is (fun i => (i : Int)) a.length (Ou.go ()) (fun i hi => ?_) (by rw [if_neg (qaw _)]) rfl) rfl
 obtain ⟨h0, h1⟩ := h.2 a[i] (List.getElem_mem hi)
 rw [if_pos (qbt hi), ix hi]
 simp only [Option.bind_some]
 rw [if_neg (by omega)]
 have hd : decide (g.2.1 ≤ a[i]) = false := decide_eq_false (by omega)
 simp only [hd, Bool.false_eq_true, if_false]
 by_cases hz : 0 < i
 ·have hlt := List.pairwise_iff_getElem.1 h.1 (i - 1) i (by omega) hi (by omega)
  rw [if_pos (by omega), ix_pred hi hm hz]
  simp only [Option.bind_some]
  have hd2 : decide (a[i] ≤ a[i - 1]'(by omega)) = false := decide_eq_false (by omega)
  simp only [hd2, Bool.false_eq_true, if_false, nx hm hi]
 ·rw [if_neg (by omega)]
  simp only [Bool.false_eq_true, if_false, nx hm hi]
def outL (g : Gr) (s c : Int) : List Int := ((leaveL g.2.2 s).filter fun x => decide (x.2.2.1 = c)).map fun x => x.2.2.2
theorem mem_leaveL {es : List Ed} {s : Int} {x : Ed} : (∃ i, (i, x) ∈ leaveL es s) ↔ x ∈ es ∧ x.1 = s := by
 constructor
 ·rintro ⟨i, h⟩
  obtain ⟨p, hp, he⟩ := List.mem_map.1 h
  obtain ⟨hp1, hp2⟩ := List.mem_filter.1 hp
  cases he
  exact ⟨List.fst_mem_of_mem_zipIdx hp1, of_decide_eq_true hp2⟩
 ·rintro ⟨hm, hs⟩
  obtain ⟨k, hk, rfl⟩ := List.getElem_of_mem hm
  exact ⟨_, List.mem_map.2 ⟨(es[k], k), List.mem_filter.2 ⟨by rw [List.mem_zipIdx_iff_getElem?]; exact List.getElem?_eq_getElem hk, decide_eq_true hs⟩, rfl⟩⟩
theorem mem_outL {g : Gr} {s c t : Int} : t ∈ outL g s c ↔ ∃ e ∈ g.2.2, e.2.2 = t ∧ e.2.1 = c ∧ e.1 = s := by
 simp only [outL, List.mem_map, List.mem_filter, decide_eq_true_eq]
 constructor
 ·rintro ⟨⟨i, x⟩, ⟨hm, hc⟩, rfl⟩
  obtain ⟨h1, h2⟩ := mem_leaveL.1 ⟨i, hm⟩
  exact ⟨x, h1, rfl, hc, h2⟩
 ·rintro ⟨x, hx, rfl, hc, hs⟩
  obtain ⟨i, hi⟩ := mem_leaveL.2 ⟨hx, hs⟩
  exact ⟨(i, x), ⟨hi, hc⟩, rfl⟩
theorem outL_len (g : Gr) (s c : Int) : (outL g s c).length ≤ g.2.2.length := by
 simp only [outL, leaveL, List.length_map]
 refine Nat.le_trans (List.length_filter_le _ _) ?_
 rw [List.length_map]
 refine Nat.le_trans (List.length_filter_le _ _) ?_
 simp
theorem fold_out (c : Int) : ∀ (L : List (Int × Ed)) (acc : List Int), L.foldl (fun (a : List Int) (x : Int × Ed) => if x.2.2.1 = c then a ++ [x.2.2.2] else a) acc = acc ++ (L.filter fun x => decide (x.2.2.1 = c)).map fun x => x.2.2.2
 | [], acc => by simp
 | x :: L, acc => by
  rw [List.foldl_cons, fold_out c L]
  by_cases h : x.2.2.1 = c
  ·rw [if_pos h, List.filter_cons_of_pos (by simpa using h)]; simp
  ·rw [if_neg h, List.filter_cons_of_neg (by simpa using h)]
theorem forL_foldI {S α X : Type} {body : S → α → Option (Stp S X)} (f : S → α → S) (P : Nat → S → Prop) : ∀ (L : List α) (s : S) (k : Nat), (∀ i s x, i < L.length → x ∈ L → P (k + i) s → body s x = some (.next (f s x)) ∧ P (k + i + 1) (f s x)) → P k s → forL body L s = some (.go (L.foldl f s))
 | [], _, _, _, _ => rfl
 | x :: L, s, k, h, hs => by
  obtain ⟨h1, h2⟩ := h 0 s x (by simp) (List.mem_cons_self ..) hs
  simp only [forL, h1]
  exact forL_foldI f P L _ (k + 1) (fun i s y hi hy hP => by
   have e : k + 1 + i = k + (i + 1) := by omega
   rw [e] at hP ⊢
   exact h (i + 1) s y (by simp; omega) (List.mem_cons_of_mem _ hy) hP) h2
theorem fits_le {k n : Nat} (h : n * k ≤ 140737488355328) (h2 : n ≤ 1048576) : fits k n := ⟨h, by simp only [maxLen]; omega⟩
theorem Step_eq {g : Gr} (hv : VG g) {a : List Int} (ha : SetOk g a) {c : Int} (h0 : 0 ≤ c) (h1 : c < g.1) : m_graph_Step g a c = some (stepL g a c, 0) := by
 obtain ⟨e, he, hz⟩ := Check_tot g
 have he0 := hz.2 hv
 subst he0
 have hl := setOk_len hv ha
 have hel := hv.el
 unfold m_graph_Step
 rw [Check_ref, he, Option.bind_some, checkSet_ok ha (by omega)]
 simp only [ne_eq, not_true_eq_false, if_false, Option.bind_some, jp]
 rw [if_neg (by omega)]
 have hd : decide (g.1 ≤ c) = false := decide_eq_false (by omega)
 simp only [hd, Bool.false_eq_true, if_false]
 have hy : ∀ x, y_graph_leaving g x = some (leaveL g.2.2 x) := fun x => by unfold y_graph_leaving; rw [if_pos (by omega)]
 have hlen : ∀ i, i ≤ a.length → ((a.take i).flatMap fun s => outL g s c).length ≤ i * 1024 := by
  intro i
  induction i with
  | zero => intro _; simp
  | succ i ih =>
   intro hi
   have := ih (by omega)
   rw [List.take_add_one, List.getElem?_eq_getElem (by omega)]
   simp only [Option.toList_some, List.flatMap_append, List.flatMap_cons, List.flatMap_nil, List.append_nil, List.length_append]
   have h2 := outL_len g a[i] c
   omega
 refine bindL (loop_is (fun i => ((i : Int), (a.take i).flatMap fun s => outL g s c)) a.length (a.flatMap fun s => outL g s c) (fun i hi => ?_) ?_ (by simp)) ?_
 ·dsimp only
  rw [if_pos (qbt hi), ix hi]
  simp only [Option.bind_some, hy]
  have hb := hlen i (by omega)
  have hll : (leaveL g.2.2 a[i]).length ≤ 1024 := by
   simp only [leaveL, List.length_map]
   refine Nat.le_trans (List.length_filter_le _ _) ?_
   simp; omega
  rw [forL_foldI (fun (acc : List Int) (x : Int × Ed) => if x.2.2.1 = c then acc ++ [x.2.2.2] else acc) (fun k s => s.length ≤ i * 1024 + k) _ _ 0 (fun k s x hk hx hP => ?_) (Nat.le_trans hb (Nat.le_add_right _ _))]
  ·simp only [lpO, nx (by omega : a.length ≤ _) hi, fold_out, Option.some.injEq, Stp.next.injEq, Prod.mk.injEq, true_and]
   rw [List.take_add_one, List.getElem?_eq_getElem hi]
   simp only [Option.toList_some, List.flatMap_append, List.flatMap_cons, List.flatMap_nil, List.append_nil]
   rfl
  ·by_cases hc : x.2.2.1 = c
   ·rw [if_pos hc, if_pos hc, if_pos (fits_le (by simp; omega) (by simp; omega))]
    exact ⟨rfl, by simp; omega⟩
   ·rw [if_neg hc, if_neg hc]
    exact ⟨rfl, by omega⟩
 ·dsimp only
  rw [if_neg (qaw _), List.take_length]
 ·have hb := hlen a.length (Nat.le_refl _)
  rw [List.take_length] at hb
  rw [if_pos (by omega)]
  congr 2
  refine asc_uniq (compact_asc (sortI_asc _)) (stepL_ok g a c).1 fun x => ?_
  rw [compact_sort_mem, mem_stepL hv]
  simp only [List.mem_flatMap, mem_outL]
  constructor
  ·rintro ⟨s, hs, e, he, h1, h2, rfl⟩; exact ⟨e, he, h1, h2, hs⟩
  ·rintro ⟨e, he, h1, h2, hs⟩; exact ⟨_, hs, e, he, h1, h2, rfl⟩
theorem has_eq {l : List Int} (hm : l.length ≤ 9223372036854775807) (n : Int) : m_ref11_has l n = some (decide (n ∈ l)) := by
 unfold m_ref11_has
 refine lpL (loop_any (fun i => (i : Int)) l.length (fun i => decide (l.getD i 0 = n)) (Ou.ret true) (Ou.go ()) (fun i hi => ?_) (by rw [if_neg (qaw _)]) rfl) ?_
 ·have e1 : l.getD i 0 = l[i] := by simp [List.getD, hi]
  rw [if_pos (qbt hi), ix hi]
  simp only [Option.bind_some, nx hm hi, e1, decide_eq_true_eq]
 ·by_cases h : n ∈ l
  ·obtain ⟨i, hi, he⟩ := List.getElem_of_mem h
   rw [if_pos]
   ·simp [lpO, h]
   ·exact List.any_eq_true.2 ⟨i, List.mem_range.2 hi, by simp [List.getD, hi, he]⟩
  ·rw [if_neg]
   ·simp [lpO, h]
   ·intro hx
    obtain ⟨i, hi, hp⟩ := List.any_eq_true.1 hx
    have hi := List.mem_range.1 hi
    have e1 : l.getD i 0 = l[i] := by simp [List.getD, hi]
    rw [e1] at hp
    exact h (of_decide_eq_true hp ▸ List.getElem_mem hi)
theorem refStep_eq {g : Gr} (hv : VG g) {a : List Int} (hl : a.length ≤ 9223372036854775807) {c : Int} : m_ref11_Step g a c = some (stepL g a c) := by
  have hel := hv.el
  have hs1 := hv.s1
  have hs0 := hv.s0
  obtain ⟨m, hm⟩ := Int.eq_ofNat_of_zero_le hs0
  have hfl : ∀ i, ((((List.range i).map Int.ofNat).filter fun t => g.2.2.any fun e => decide (e.2.2 = t ∧ e.2.1 = c ∧ e.1 ∈ a)) : List Int).length ≤ i := fun i => Nat.le_trans (List.length_filter_le _ _) (by simp)
  unfold m_ref11_Step
  refine bindL (loop_is (fun i => ((i : Int), ((List.range i).map Int.ofNat).filter fun t => g.2.2.any fun e => decide (e.2.2 = t ∧ e.2.1 = c ∧ e.1 ∈ a))) m (stepL g a c) (fun i hi => ?_) ?_ (by simp)) rfl
  · dsimp only
    rw [if_pos (by omega)]
    simp only [jp]
    have hin : loopW (S := Bool × Int) (X := Bool) (fun a9 =>
              if a9.2 < ((g.2.2).length : Int) then
                (idx g.2.2 a9.2).bind fun x19 =>
                  if x19.2.2 = (i : Int) then
                    (idx g.2.2 a9.2).bind fun x21 =>
                      if x21.2.1 = c then
                        (idx g.2.2 a9.2).bind fun x23 => (m_ref11_has a x23.1).bind fun x25 => if x25 = true then some (Stp.next (true, IntKind.wrap .i64 (a9.2 + 1))) else some (Stp.next (a9.1, IntKind.wrap .i64 (a9.2 + 1)))
                      else if false = true then some (Stp.next (true, IntKind.wrap .i64 (a9.2 + 1))) else some (Stp.next (a9.1, IntKind.wrap .i64 (a9.2 + 1)))
                  else if false = true then some (Stp.next (true, IntKind.wrap .i64 (a9.2 + 1))) else some (Stp.next (a9.1, IntKind.wrap .i64 (a9.2 + 1)))
              else
                some (Stp.exit a9.1)) (false, 0) = some (g.2.2.any fun e => decide (e.2.2 = (i : Int) ∧ e.2.1 = c ∧ e.1 ∈ a)) := by
      refine loop_is (fun k => ((g.2.2.take k).any fun e => decide (e.2.2 = (i : Int) ∧ e.2.1 = c ∧ e.1 ∈ a), (k : Int))) g.2.2.length _ (fun k hk => ?_) ?_ (by simp)
      · dsimp only
        rw [if_pos (qbt hk), ix hk]
        simp only [Option.bind_some, has_eq hl, nx (by omega : g.2.2.length ≤ _) hk, Bool.false_eq_true, if_false, decide_eq_true_eq]
        have e : (g.2.2.take (k + 1)).any (fun e => decide (e.2.2 = (i : Int) ∧ e.2.1 = c ∧ e.1 ∈ a)) = ((g.2.2.take k).any (fun e => decide (e.2.2 = (i : Int) ∧ e.2.1 = c ∧ e.1 ∈ a)) || decide (g.2.2[k].2.2 = (i : Int) ∧ g.2.2[k].2.1 = c ∧ g.2.2[k].1 ∈ a)) := by
          rw [List.take_add_one, List.getElem?_eq_getElem hk, List.any_append]
          congr 1
          simp
        rw [e]
        by_cases h1 : g.2.2[k].2.2 = (i : Int)
        · by_cases h2 : g.2.2[k].2.1 = c
          · by_cases h3 : g.2.2[k].1 ∈ a
            · simp [h1, h2, h3]
            · simp [h1, h2, h3]
          · simp [h1, h2]
        · simp [h1]
      · dsimp only
        rw [if_neg (qaw _), List.take_length]
    rw [hin]
    simp only [Option.bind_some]
    have er : (List.range (i + 1)).map Int.ofNat = (List.range i).map Int.ofNat ++ [(i : Int)] := by rw [List.range_succ, List.map_append]; rfl
    rw [er, List.filter_append]
    by_cases hb : (g.2.2.any fun e => decide (e.2.2 = (i : Int) ∧ e.2.1 = c ∧ e.1 ∈ a)) = true
    · have := hfl i
      rw [if_pos hb, if_pos (fits_le (by simp only [List.length_cons, List.length_nil]; omega) (by simp only [List.length_cons, List.length_nil]; omega)), nx (by omega : m ≤ _) hi, List.filter_cons_of_pos (by exact hb)]
      rfl
    · rw [if_neg hb, nx (by omega : m ≤ _) hi, List.filter_cons_of_neg (by exact hb)]
      simp
  · dsimp only
    rw [if_neg (by omega)]
    simp only [stepL, upto, hm, Int.toNat_natCast]
theorem All_eq {g : Gr} (hv : VG g) : m_ref11_All g = some (upto g.2.1) := by
 have hs1 := hv.s1
 obtain ⟨m, hm⟩ := Int.eq_ofNat_of_zero_le hv.s0
 unfold m_ref11_All
 refine bindL (loop_is (fun i => ((i : Int), (List.range i).map Int.ofNat)) m (upto g.2.1) (fun i hi => ?_) ?_ (by simp)) rfl
 ·dsimp only
  rw [if_pos (by omega), if_pos (fits_le (by simp; omega) (by simp; omega)), nx (by omega : m ≤ _) hi, List.range_succ, List.map_append]
  rfl
 ·dsimp only
  rw [if_neg (by omega)]
  simp only [upto, hm, Int.toNat_natCast]
theorem states_eq {g : Gr} (hv : VG g) : qbl g = some (upto g.2.1) := by
 have hs1 := hv.s1
 obtain ⟨m, hm⟩ := Int.eq_ofNat_of_zero_le hv.s0
 unfold qbl
 rw [if_pos (by omega)]
 simp only [hm, Int.toNat_natCast, List.length_replicate]
 refine bindL (loop_is (fun i => ((i : Int), (List.range i).map Int.ofNat ++ List.replicate (m - i) (0 : Int))) m (upto m) (fun i hi => ?_) ?_ (by simp)) rfl
 ·dsimp only
  have hlen : ((List.range i).map Int.ofNat ++ List.replicate (m - i) (0 : Int)).length = m := by simp; omega
  rw [if_pos (qbt hi), ix (by omega)]
  simp only [Option.bind_some, nx (by omega : m ≤ _) hi, Int.toNat_natCast]
  congr 3
  rw [List.set_append_right _ _ (by simp), List.range_succ, List.map_append]
  have e : m - i = (m - (i + 1)) + 1 := by omega
  simp only [List.length_map, List.length_range, Nat.sub_self, e, List.replicate_succ, List.set_cons_zero]
  simp
 ·dsimp only
  rw [if_neg (qaw _)]
  simp [upto]
theorem letters_len : letters.length = 16 := rfl
theorem idx_letter {i : Nat} (h : i < letters.length) : Lib.indexByte letters letters[i] = (i : Int) := by
 have : ∀ j : Fin 16, Lib.indexByte letters (letters[j.1]'j.2) = (j.1 : Int) := by decide
 exact this ⟨i, h⟩
theorem byte_back (c : UInt8) : ((c.toNat : Int).toNat.toUInt8) = c := by simp
def lets (g : Gr) : List UInt8 := letters.take g.1.toNat
section
variable {g : Gr}
theorem lets_len (hv : VG g) (h16 : g.1 ≤ 16) : (lets g).length = g.1.toNat := by
 have := hv.l1
 rw [lets, List.length_take, letters_len]; omega
theorem lstep_eq (hv : VG g) {a : List Int} (ha : SetOk g a) {i : Nat} (h : i < letters.length) (hi : (i : Int) < g.1) : qba g a ((letters[i]).toNat : Int) = some (stepL g a i) := by
 unfold qba qaK
 simp only [byte_back, Option.bind_some]
 have e : Lib.indexByte [48, 49, 50, 51, 52, 53, 54, 55, 56, 57, 97, 98, 99, 100, 101, 102] letters[i] = (i : Int) := idx_letter h
 rw [e, Step_eq hv ha (by omega) hi]
 rfl
theorem stpM_eq (hv : VG g) {a : List Int} (ha : SetOk g a) {i : Nat} (h : i < letters.length) (hi : (i : Int) < g.1) : stpM g a letters[i] = stepL g a i := by
 unfold stpM; rw [lstep_eq hv ha h hi]; rfl
theorem mem_lets {c : UInt8} (h : c ∈ letters.take g.1.toNat) : ∃ (i : Nat) (hi : i < letters.length), (i : Int) < g.1 ∧ letters[i] = c := by
 obtain ⟨i, hi, rfl⟩ := List.mem_take_iff_getElem.1 h
 have h1 : i < g.1.toNat := by omega
 exact ⟨i, by omega, by omega, rfl⟩
theorem stpM_ok (hv : VG g) {a : List Int} {c : UInt8} (ha : SetOk g a) (hc : c ∈ letters.take g.1.toNat) : SetOk g (stpM g a c) := by
 obtain ⟨i, hi, hg, rfl⟩ := mem_lets hc
 rw [stpM_eq hv ha hi hg]
 exact stepL_ok g a i
theorem stepsOk (hv : VG g) {set : List Int} (hs : SetOk g set) : StepsOk g set := ⟨SetOk g, hs, fun a c ha hc => by
 obtain ⟨i, hi, hg, rfl⟩ := mem_lets hc
 exact ⟨_, lstep_eq hv ha hi hg, stepL_ok g a i⟩⟩
noncomputable def LV (g : Gr) (set : List Int) (n : Nat) : List WS := lvl (stpM g) (letters.take g.1.toNat) set n
noncomputable def OKL (g : Gr) (set : List Int) (n : Nat) : Bool := okLvl (stpM g) (letters.take g.1.toNat) set n
theorem list_eq (hv : VG g) (h16 : g.1 ≤ 16) {set : List Int} (hs : SetOk g set) {n : Nat} : m_language_list g set (n : Int) = some (if OKL g set n = true then (LV g set n, true) else ([], false)) := by
 unfold m_language_list
 have := hv.l1
 rw [if_pos ⟨by omega, h16, by omega, stepsOk hv hs⟩]
 rfl
theorem LV_set (hv : VG g) {set : List Int} (hs : SetOk g set) {n : Nat} {x : WS} (h : x ∈ LV g set n) : SetOk g x.2 := lvl_all hs (fun a c ha hc => stpM_ok hv ha hc) n x h
theorem LV_len {set : List Int} {n : Nat} {x : WS} (h : x ∈ LV g set n) : x.1.length = n := lvl_len n x h
theorem OKL_iff {set : List Int} {n : Nat} : OKL g set n = true ↔ ∀ j, 1 ≤ j → j ≤ n → (LV g set j).length ≤ 4096 := okLvl_iff
theorem ext1_len (stp : List Int → UInt8 → List Int) (cs : List UInt8) (x : WS) : (ext1 stp cs x).length ≤ cs.length := List.length_filterMap_le _ _
theorem flat_len (stp : List Int → UInt8 → List Int) (cs : List UInt8) : ∀ l : List WS, (l.flatMap (ext1 stp cs)).length ≤ l.length * cs.length
 | [] => by simp
 | x :: l => by
  have h1 := flat_len stp cs l
  have h2 := ext1_len stp cs x
  rw [List.flatMap_cons, List.length_append, List.length_cons, Nat.succ_mul]
  omega
theorem one_letter {k : Nat} (h : k < letters.length) : (letters.take (k + 1)).drop k = [letters[k]] := by
 rw [List.take_add_one, List.getElem?_eq_getElem h, List.drop_left' (by rw [List.length_take]; omega)]
 rfl
theorem grow_eq (hv : VG g) (h16 : g.1 ≤ 16) {l : List WS} (hl : l.length ≤ 4096) (hs : ∀ x ∈ l, SetOk g x.2) (hw : ∀ x ∈ l, x.1.length ≤ 1000000) : m_ref11_grow g l = some (l.flatMap (ext1 (stpM g) (letters.take g.1.toNat))) := by
 have h1 := hv.l1
 obtain ⟨L, hL⟩ := Int.eq_ofNat_of_zero_le (show 0 ≤ g.1 by omega)
 have hL16 : L ≤ letters.length := by rw [letters_len]; omega
 have htn : g.1.toNat = L := by omega
 unfold m_ref11_grow
 rw [htn]
 have hb : ∀ i, ((l.take i).flatMap (ext1 (stpM g) (letters.take L))).length ≤ 65536 := fun i => by
  have h2 := flat_len (stpM g) (letters.take L) (l.take i)
  have h3 : (l.take i).length ≤ 4096 := by rw [List.length_take]; omega
  have h4 : (letters.take L).length ≤ 16 := by rw [List.length_take, letters_len]; omega
  exact Nat.le_trans h2 (Nat.le_trans (Nat.mul_le_mul h3 h4) (by decide))
 refine bindL (loop_is (fun i => ((i : Int), (l.take i).flatMap (ext1 (stpM g) (letters.take L)))) l.length (l.flatMap (ext1 (stpM g) (letters.take L))) (fun i hi => ?_) ?_ (by simp)) rfl
 ·dsimp only
  rw [if_pos (qbt hi)]
  have hsx := hs _ (List.getElem_mem hi)
  have hlx := setOk_len hv hsx
  refine bindL (loop_is (fun k => ((k : Int), (l.take i).flatMap (ext1 (stpM g) (letters.take L)) ++ ext1 (stpM g) (letters.take k) l[i])) L ((l.take i).flatMap (ext1 (stpM g) (letters.take L)) ++ ext1 (stpM g) (letters.take L) l[i]) (fun k hk => ?_) ?_ (by simp [ext1])) ?_
  ·dsimp only
   have hk16 : k < letters.length := by omega
   have hk16' : k < 16 := hk16
   rw [if_pos (by omega), ix hi]
   simp only [jp, Option.bind_some, refStep_eq hv (show (l[i]).2.length ≤ 9223372036854775807 by omega), nx (by omega : L ≤ _) hk]
   have hst := stpM_eq hv hsx hk16 (by omega : (k : Int) < g.1)
   have htk := ext1_take (stp := stpM g) (cs := letters) l[i] hk16
   rw [hst] at htk
   by_cases he : stepL g (l[i]).2 (k : Int) = []
   ·rw [if_neg (by rw [he]; simp)]
    rw [htk, if_pos he, List.append_nil]
   ·have hpos : 0 < ((stepL g (l[i]).2 (k : Int)).length : Int) := by
     have := List.length_pos_iff.2 he
     omega
    rw [if_pos hpos]
    have e16 : ([48, 49, 50, 51, 52, 53, 54, 55, 56, 57, 97, 98, 99, 100, 101, 102] : List UInt8) = letters := rfl
    rw [e16, if_pos (by rw [letters_len]; omega)]
    simp only [Int.toNat_natCast, one_letter hk16]
    have hwl := hw _ (List.getElem_mem hi)
    have he1 := ext1_len (stpM g) (letters.take k) l[i]
    have he2 : (letters.take k).length ≤ 16 := by rw [List.length_take, letters_len]; omega
    have hbi := hb i
    rw [if_pos (by simp only [List.length_cons, List.length_nil, maxLen]; omega), if_pos (fits_le (by simp only [List.length_append, List.length_cons, List.length_nil]; omega) (by simp only [List.length_append, List.length_cons, List.length_nil]; omega))]
    rw [htk, if_neg he, List.append_assoc]
  ·dsimp only
   rw [if_neg (by omega)]
  ·simp only [nx (by omega : l.length ≤ _) hi]
   rw [List.take_add_one, List.getElem?_eq_getElem hi]
   simp only [Option.toList_some, List.flatMap_append, List.flatMap_cons, List.flatMap_nil, List.append_nil]
 ·dsimp only
  rw [if_neg (qaw _), List.take_length]
theorem LV_zero (g : Gr) (set : List Int) : (LV g set 0).length ≤ 1 := by
 unfold LV lvl; split <;> simp
theorem refwords_eq (hv : VG g) (h16 : g.1 ≤ 16) {set : List Int} (hs : SetOk g set) {n : Nat} (hn : n ≤ 4096) : m_ref11_words g set n = some (if OKL g set n = true then (LV g set n, 0) else ([], 4)) := by
 unfold m_ref11_words
 simp only [jp]
 have key : ∀ (l0 : List WS), l0 = LV g set 0 → lpO (loopW (S := List qa2 × Int) (X := Ou (List qa2) (List qa2 × Int)) (fun a5 =>
   if a5.2 < (n : Int) then
    if decide (0 < ((a5.1).length : Int)) = true then
     (m_ref11_grow g a5.1).bind fun x12 => if 4096 < ((x12).length : Int) then some (Stp.exit (Ou.ret ([], 4))) else some (Stp.next (x12, IntKind.wrap .i64 (a5.2 + 1)))
    else some (Stp.exit (Ou.go a5.1))
   else if false = true then
     (m_ref11_grow g a5.1).bind fun x12 => if 4096 < ((x12).length : Int) then some (Stp.exit (Ou.ret ([], 4))) else some (Stp.next (x12, IntKind.wrap .i64 (a5.2 + 1)))
    else some (Stp.exit (Ou.go a5.1))) (l0, 0)) (fun a15 => some (a15, 0)) some = some (if OKL g set n = true then (LV g set n, 0) else ([], 4)) := by
  intro l0 hl0
  have hx : ∃ x, loopW (S := List qa2 × Int) (X := Ou (List qa2) (List qa2 × Int)) (fun a5 =>
   if a5.2 < (n : Int) then
    if decide (0 < ((a5.1).length : Int)) = true then
     (m_ref11_grow g a5.1).bind fun x12 => if 4096 < ((x12).length : Int) then some (Stp.exit (Ou.ret ([], 4))) else some (Stp.next (x12, IntKind.wrap .i64 (a5.2 + 1)))
    else some (Stp.exit (Ou.go a5.1))
   else if false = true then
     (m_ref11_grow g a5.1).bind fun x12 => if 4096 < ((x12).length : Int) then some (Stp.exit (Ou.ret ([], 4))) else some (Stp.next (x12, IntKind.wrap .i64 (a5.2 + 1)))
    else some (Stp.exit (Ou.go a5.1))) (l0, 0) = some x ∧ ((x = .go (LV g set n) ∧ OKL g set n = true) ∨ (x = .ret ([], 4) ∧ ¬ OKL g set n = true)) := by
   refine loopN n (fun i s => s = (LV g set i, (i : Int)) ∧ ∀ j, 1 ≤ j → j ≤ i → (LV g set j).length ≤ 4096) ?_ ?_ 0 _ (Nat.zero_le _) ⟨by rw [hl0]; rfl, fun j h1 h2 => by omega⟩
   ·rintro i s hi ⟨rfl, hj⟩
    dsimp only
    rw [if_pos (qbt hi)]
    by_cases h0 : LV g set i = []
    ·rw [if_neg (by rw [h0]; simp)]
     have hnil : ∀ j, i ≤ j → LV g set j = [] := fun j h => lvl_nil h0 h
     refine .inr ⟨_, rfl, .inl ⟨by rw [h0, hnil n (by omega)], OKL_iff.2 fun j h1 h2 => ?_⟩⟩
     by_cases h : j ≤ i
     ·exact hj j h1 h
     ·rw [hnil j (by omega)]; simp
    ·have hpos : 0 < (LV g set i).length := List.length_pos_iff.2 h0
     rw [if_pos (decide_eq_true (by omega))]
     have hl : (LV g set i).length ≤ 4096 := by
      by_cases hi0 : i = 0
      ·subst hi0; have := LV_zero g set; omega
      ·exact hj i (by omega) (Nat.le_refl _)
     rw [grow_eq hv h16 hl (fun x hx => LV_set hv hs hx) (fun x hx => by rw [LV_len hx]; omega)]
     simp only [Option.bind_some]
     have e : (LV g set i).flatMap (ext1 (stpM g) (letters.take g.1.toNat)) = LV g set (i + 1) := rfl
     rw [e]
     by_cases h4 : 4096 < (LV g set (i + 1)).length
     ·rw [if_pos (by omega)]
      refine .inr ⟨_, rfl, .inr ⟨rfl, fun hok => ?_⟩⟩
      have := OKL_iff.1 hok (i + 1) (by omega) (by omega)
      omega
     ·rw [if_neg (by omega)]
      refine .inl ⟨_, rfl, by rw [nx (by omega : n ≤ _) hi], fun j h1 h2 => ?_⟩
      by_cases h : j ≤ i
      ·exact hj j h1 h
      ·have : j = i + 1 := by omega
       subst this; omega
   ·rintro s ⟨rfl, hj⟩
    dsimp only
    rw [if_neg (qaw _), if_neg (by simp)]
    exact ⟨_, rfl, .inl ⟨rfl, OKL_iff.2 hj⟩⟩
  obtain ⟨x, hx, ⟨rfl, hok⟩ | ⟨rfl, hok⟩⟩ := hx
  ·rw [hx, if_pos hok]; rfl
  ·rw [hx, if_neg hok]; rfl
 by_cases h0 : set = []
 ·rw [if_neg (by rw [h0]; simp)]
  exact key [] (by unfold LV lvl; rw [if_pos h0])
 ·have hpos : 0 < set.length := List.length_pos_iff.2 h0
  rw [if_pos (by omega), if_pos (fits_le (by simp) (by simp))]
  exact key _ (by unfold LV lvl; rw [if_neg h0]; rfl)
theorem texts_eq {l : List WS} (hl : l.length ≤ 1000000) : m_ref11_texts l = some (l.map Prod.fst) := by
 unfold m_ref11_texts
 refine bindL (loop_is (fun i => ((i : Int), (l.take i).map Prod.fst)) l.length (l.map Prod.fst) (fun i hi => ?_) ?_ (by simp)) rfl
 ·dsimp only
  rw [if_pos (qbt hi), ix hi]
  simp only [Option.bind_some]
  rw [if_pos (fits_le (by simp; omega) (by simp; omega)), nx (by omega : l.length ≤ _) hi, List.take_add_one, List.getElem?_eq_getElem hi, List.map_append]
  rfl
 ·dsimp only
  rw [if_neg (qaw _), List.take_length]
theorem u8_irr (a : UInt8) : ¬ a < a := UInt8.lt_irrefl a
theorem app_lt {u v : List UInt8} : ∀ (w : List UInt8), u < v → w ++ u < w ++ v
 | [], h => h
 | a :: w, h => List.cons_lt_cons_iff.2 (.inr ⟨rfl, app_lt w h⟩)
theorem lt_app : ∀ {u v : List UInt8} (x y : List UInt8), u.length = v.length → u < v → u ++ x < v ++ y
 | [], [], _, _, _, h => by cases h
 | [], _ :: _, _, _, hl, _ => by cases hl
 | _ :: _, [], _, _, hl, _ => by cases hl
 | a :: u, b :: v, x, y, hl, h => by
  rcases List.cons_lt_cons_iff.1 h with h1 | ⟨h0, h1⟩
  ·exact List.cons_lt_cons_iff.2 (.inl h1)
  ·exact List.cons_lt_cons_iff.2 (.inr ⟨h0, lt_app x y (by simpa using hl) h1⟩)
theorem lt_irr : ∀ (u : List UInt8), ¬ u < u
 | [], h => by cases h
 | a :: u, h => by
  rcases List.cons_lt_cons_iff.1 h with h | ⟨_, h⟩
  ·exact u8_irr a h
  ·exact lt_irr u h
theorem bytesLess_iff : ∀ {u v : List UInt8}, Op.bytesLess u v = true ↔ u < v
 | [], [] => by simp [Op.bytesLess, lt_irr]
 | _ :: _, [] => by simp [Op.bytesLess]
 | [], _ :: _ => by simp [Op.bytesLess]
 | a :: u, b :: v => by
  rw [List.cons_lt_cons_iff, ← bytesLess_iff (u := u) (v := v)]
  simp [Op.bytesLess]
theorem lvl_asc {stp : List Int → UInt8 → List Int} {cs : List UInt8} {set : List Int} (hcs : cs.Pairwise (· < ·)) : ∀ i, (lvl stp cs set i).Pairwise (fun x y => x.1 < y.1)
 | 0 => by simp only [lvl]; split <;> simp
 | i + 1 => by
  simp only [lvl]
  rw [List.pairwise_flatMap]
  refine ⟨fun x hx => ?_, (lvl_asc hcs i).imp_of_mem fun {x y} hx hy hxy a ha b hb => ?_⟩
  ·unfold ext1
   rw [List.pairwise_filterMap]
   refine hcs.imp fun {c d} hcd y hy z hz => ?_
   split at hy
   ·cases hy
   ·split at hz
    ·cases hz
    ·cases hy; cases hz
     exact app_lt _ (List.cons_lt_cons_iff.2 (.inl hcd))
  ·obtain ⟨c, _, _, rfl⟩ := mem_ext1.1 ha
   obtain ⟨d, _, _, rfl⟩ := mem_ext1.1 hb
   exact lt_app _ _ (by rw [lvl_len i x hx, lvl_len i y hy]) hxy
theorem letters_asc : letters.Pairwise (· < ·) := by decide
theorem LV_asc (g : Gr) (set : List Int) (n : Nat) : ((LV g set n).map Prod.fst).Pairwise (· < ·) := by
 rw [List.pairwise_map]
 exact lvl_asc (letters_asc.sublist (List.take_sublist _ _)) n
theorem sortS_id {l : List (List UInt8)} (h : l.Pairwise (· < ·)) : sortS l = l := sortS_eq (List.Perm.refl l) (h.imp fun h => decide_eq_true (List.le_of_lt h))
theorem lengths_ref (g : Gr) (n : Int) : m_language_lengths g n = m_ref11_checkNumber g n := by
 unfold m_language_lengths m_ref11_checkNumber qa4 m_ref11_check
 rw [Check_ref]
theorem checkNumber_tot (g : Gr) (n : Int) : ∃ e, m_ref11_checkNumber g n = some e ∧ (e = 0 ↔ VG g ∧ g.1 ≤ 16 ∧ 0 ≤ n ∧ n ≤ 4096) := by
 obtain ⟨e, he, hz⟩ := Check_tot g
 unfold m_ref11_checkNumber m_ref11_check
 rw [he]
 simp only [Option.bind_some, jp]
 by_cases h0 : e = 0
 ·have hv := hz.1 h0
  rw [if_neg (by omega : ¬ e ≠ 0)]
  by_cases h1 : 16 < g.1
  ·exact ⟨12, by simp [h1], by simp; omega⟩
  ·simp only [if_neg h1, Option.bind_some, ne_eq, not_true_eq_false, if_false]
   by_cases h2 : n < 0
   ·exact ⟨2, by simp [h2], by simp; omega⟩
   ·by_cases h3 : 4096 < n
    ·exact ⟨2, by simp [h2, h3], by simp; omega⟩
    ·exact ⟨0, by simp [h2, h3], by simp [hv]; omega⟩
 ·have hv : ¬ VG g := fun v => h0 (hz.2 v)
  rw [if_pos h0]
  exact ⟨1, by simp, by simp [hv]⟩
noncomputable def wordsE (g : Gr) (n : Int) : List (List UInt8) := (LV g (upto g.2.1) n.toNat).map Prod.fst
theorem Words_both (g : Gr) (n : Int) : ∃ r, qbg g n = some r ∧ m_ref11_Words g n = some r ∧ (r.2 = 0 → (VG g ∧ g.1 ≤ 16 ∧ 0 ≤ n ∧ n ≤ 4096 ∧ OKL g (upto g.2.1) n.toNat = true) ∧ r.1 = wordsE g n) ∧
  (VG g → g.1 ≤ 16 → 0 ≤ n → n ≤ 4096 → OKL g (upto g.2.1) n.toNat = true → r.2 = 0) := by
 obtain ⟨e, he, hz⟩ := checkNumber_tot g n
 unfold qbg m_ref11_Words
 rw [lengths_ref, he]
 simp only [Option.bind_some]
 by_cases h0 : e = 0
 ·obtain ⟨hv, h16, hn0, hn1⟩ := hz.1 h0
  have hs := upto_ok g
  obtain ⟨m, hm⟩ := Int.eq_ofNat_of_zero_le hn0
  have hn : ¬ e ≠ 0 := by omega
  rw [if_neg hn, if_neg hn, states_eq hv, All_eq hv]
  subst hm
  simp only [Option.bind_some, list_eq hv h16 hs, refwords_eq hv h16 hs (by omega : m ≤ 4096), Int.toNat_natCast]
  by_cases hok : OKL g (upto g.2.1) m = true
  ·simp only [if_pos hok, if_true, ne_eq, not_true_eq_false, if_false]
   have hl : (LV g (upto g.2.1) m).length ≤ 4096 := by
    by_cases hm0 : m = 0
    ·subst hm0; have := LV_zero g (upto g.2.1); omega
    ·exact OKL_iff.1 hok m (by omega) (Nat.le_refl _)
   rw [texts_eq (by omega), sortS_id (LV_asc g _ m)]
   exact ⟨_, rfl, rfl, fun _ => ⟨⟨hv, h16, hn0, hn1, hok⟩, by simp [wordsE]⟩, fun _ _ _ _ _ => rfl⟩
  ·simp only [if_neg hok, if_neg (show ¬ false = true by simp)]
   exact ⟨([], 4), rfl, (by simp), (fun h => by cases h), fun _ _ _ _ h => absurd h hok⟩
 ·rw [if_pos h0, if_pos h0]
  exact ⟨_, rfl, rfl, fun h => absurd h h0, fun h1 h2 h3 h4 _ => absurd (hz.2 ⟨h1, h2, h3, h4⟩) h0⟩
end
end Go.AW
namespace Go.AW
open Go
def lab (c : UInt8) : Int := Lib.indexByte letters c
theorem idxB_neg : ∀ {l : List UInt8} {c : UInt8}, Lib.indexByte l c < 0 ↔ c ∉ l
 | [], c => by simp [Lib.indexByte]
 | b :: l, c => by
  have h := @idxB_neg l c
  have hg := Lib.indexByte_ge l c
  simp only [Lib.indexByte, List.mem_cons, not_or]
  by_cases e : b = c
  ·subst e; simp
  ·have e1 : (b == c) = false := by simpa using e
   simp only [e1, Bool.false_eq_true, if_false]
   by_cases e2 : Lib.indexByte l c = -1
   ·have := h.1 (by omega)
    simp only [e2, beq_self_eq_true, if_true]
    exact ⟨fun _ => ⟨fun e' => e e'.symm, this⟩, fun _ => by decide⟩
   ·have e3 : (Lib.indexByte l c == -1) = false := by simpa using e2
    simp only [e3, Bool.false_eq_true, if_false]
    exact ⟨fun h' => by omega, fun h' => by have := h.2 h'.2; omega⟩
theorem known_eq (L : Int) : m_word_known L = some (decide (1 ≤ L ∧ L ≤ 16)) := by
 unfold m_word_known
 simp only [jp]
 by_cases h1 : 1 ≤ L
 ·rw [if_pos h1]; simp [h1]
 ·rw [if_neg h1]; simp [h1]
theorem wcheck (L : Int) (w : List UInt8) : ∃ e, m_word_Check L w = some e ∧ (e = 0 ↔ (1 ≤ L ∧ L ≤ 16) ∧ w.length ≤ 65536 ∧ ∀ c ∈ w, c ∈ letters.take L.toNat) := by
  unfold m_word_Check
  rw [known_eq]
  simp only [Option.bind_some]
  by_cases h1 : 1 ≤ L ∧ L ≤ 16
  case neg =>
    rw [if_pos (by rw [decide_eq_false h1]; rfl)]
    exact ⟨12, rfl, by simp [h1]⟩
  rw [if_neg (by rw [decide_eq_true h1]; decide)]
  by_cases h2 : 65536 < (w.length : Int)
  · rw [if_pos h2]
    exact ⟨4, rfl, by simp; omega⟩
  rw [if_neg h2]
  have hx : ∀ c : UInt8, qaK ((([48, 49, 50, 51, 52, 53, 54, 55, 56, 57, 97, 98, 99, 100, 101, 102] : List UInt8).take L.toNat).drop (0 : Int).toNat) (c.toNat : Int) = some (Lib.indexByte (letters.take L.toNat) c) := fun c => by
    unfold qaK
    rw [byte_back]
    rfl
  have hl := loop_any (body := fun a3 => if a3 < ((w).length : Int) then
            if 0 ≤ (0 : Int) ∧ (0 : Int) ≤ L ∧ L ≤ (([48, 49, 50, 51, 52, 53, 54, 55, 56, 57, 97, 98, 99, 100, 101, 102] : List UInt8).length : Int) then
              (idx w a3).bind fun x8 =>
              (qaK ((([48, 49, 50, 51, 52, 53, 54, 55, 56, 57, 97, 98, 99, 100, 101, 102] : List UInt8).take (L).toNat).drop (0 : Int).toNat) (x8.toNat : Int)).bind fun x10 =>
              if x10 < 0 then
                some (Stp.exit (Ou.ret 13))
              else
                some (Stp.next (IntKind.wrap .i64 (a3 + 1)))
            else none
          else
            some (Stp.exit (Ou.go ()))) (fun i => (i : Int)) w.length (fun i => decide (Lib.indexByte (letters.take L.toNat) (w.getD i 0) < 0)) (Ou.ret (13 : Int)) (Ou.go ()) (fun i hi => by
      have e1 : w.getD i 0 = w[i] := by simp [List.getD, hi]
      rw [if_pos (qbt hi), if_pos ⟨by decide, by omega, by show L ≤ (16 : Int); omega⟩, ix hi]
      simp only [Option.bind_some, hx, nx (by omega : w.length ≤ _) hi, e1, decide_eq_true_eq]) (by rw [if_neg (qaw _)]) (s0 := (0 : Int)) rfl
  rw [hl]
  by_cases hw : ∀ c ∈ w, c ∈ letters.take L.toNat
  · rw [if_neg]
    · exact ⟨0, rfl, by simp only [true_iff]; exact ⟨h1, by omega, hw⟩⟩
    · intro ha
      obtain ⟨i, hi, hp⟩ := List.any_eq_true.1 ha
      have hi := List.mem_range.1 hi
      have e1 : w.getD i 0 = w[i] := by simp [List.getD, hi]
      rw [e1] at hp
      exact idxB_neg.1 (of_decide_eq_true hp) (hw _ (List.getElem_mem hi))
  · rw [if_pos]
    · exact ⟨13, rfl, by simp only [show ¬ (13 : Int) = 0 by decide, false_iff]; exact fun h => hw h.2.2⟩
    · apply Classical.byContradiction
      intro hno
      refine hw fun c hc => ?_
      obtain ⟨i, hi, rfl⟩ := List.getElem_of_mem hc
      apply Classical.byContradiction
      intro hn
      refine hno (List.any_eq_true.2 ⟨i, List.mem_range.2 hi, ?_⟩)
      have e1 : w.getD i 0 = w[i] := by simp [List.getD, hi]
      rw [e1]
      exact decide_eq_true (idxB_neg.2 hn)
theorem lcheck_tot (g : Gr) : ∃ e, qa4 g = some e ∧ (e = 0 ↔ VG g ∧ g.1 ≤ 16) := by
 obtain ⟨e, he, hz⟩ := Check_tot g
 unfold qa4
 rw [Check_ref, he]
 simp only [Option.bind_some]
 by_cases h0 : e = 0
 ·rw [if_neg (by omega)]
  by_cases h1 : 16 < g.1
  ·rw [if_pos h1]; exact ⟨12, rfl, by simp; intro _; omega⟩
  ·rw [if_neg h1]; exact ⟨0, rfl, by simp only [true_iff]; exact ⟨hz.1 h0, by omega⟩⟩
 ·rw [if_pos h0]
  exact ⟨1, rfl, by simp; intro hv; exact absurd (hz.2 hv) h0⟩
def WOk (g : Gr) (w : List UInt8) : Prop := w.length ≤ 65536 ∧ ∀ c ∈ w, c ∈ lets g
theorem spells_tot (g : Gr) (w : List UInt8) : ∃ e, qbm g w = some e ∧ (e = 0 ↔ VG g ∧ g.1 ≤ 16 ∧ WOk g w) := by
 obtain ⟨e, he, hz⟩ := lcheck_tot g
 obtain ⟨f, hf, hy⟩ := wcheck g.1 w
 unfold qbm
 rw [he]
 simp only [Option.bind_some, hf]
 by_cases h0 : e = 0
 ·rw [if_neg (by omega)]
  obtain ⟨hv, h16⟩ := hz.1 h0
  exact ⟨f, rfl, hy.trans ⟨fun h => ⟨hv, h16, h.2⟩, fun h => ⟨⟨hv.l1, h16⟩, h.2.2⟩⟩⟩
 ·rw [if_pos h0]
  exact ⟨e, rfl, ⟨fun h => absurd h h0, fun h => absurd (hz.2 ⟨h.1, h.2.1⟩) h0⟩⟩
section
variable {g : Gr}
theorem lab_mem {c : UInt8} (h : c ∈ lets g) : ∃ (i : Nat) (hi : i < letters.length), (i : Int) < g.1 ∧ letters[i] = c ∧ lab c = i := by
 obtain ⟨i, hi, hg, rfl⟩ := mem_lets h
 exact ⟨i, hi, hg, rfl, idx_letter hi⟩
theorem step_lab (hv : VG g) {a : List Int} (ha : SetOk g a) {c : UInt8} (hc : c ∈ lets g) : qba g a (c.toNat : Int) = some (stepL g a (lab c)) := by
 obtain ⟨i, hi, hg, rfl, e⟩ := lab_mem hc
 rw [e]
 exact lstep_eq hv ha hi hg
def endsL (g : Gr) (a : List Int) (w : List UInt8) : List Int := w.foldl (fun a c => stepL g a (lab c)) a
theorem endsL_cons (a : List Int) (c : UInt8) (w : List UInt8) : endsL g a (c :: w) = endsL g (stepL g a (lab c)) w := rfl
theorem endsL_app (a : List Int) (u v : List UInt8) : endsL g a (u ++ v) = endsL g (endsL g a u) v := List.foldl_append ..
theorem stepL_nil (c : Int) : stepL g [] c = [] := by simp [stepL]
theorem endsL_nil : ∀ w : List UInt8, endsL g [] w = []
 | [] => rfl
 | c :: w => by rw [endsL_cons, stepL_nil, endsL_nil w]
theorem endsL_ok {a : List Int} (ha : SetOk g a) : ∀ w, SetOk g (endsL g a w) := fun w => by
 induction w generalizing a with
 | nil => exact ha
 | cons c w ih => exact ih (stepL_ok g a _)
theorem ends_eq (hv : VG g) {a : List Int} (ha : SetOk g a) {w : List UInt8} (hw : WOk g w) : m_language_ends g a w = some (endsL g a w) := by
 obtain ⟨hl, hc⟩ := hw
 unfold m_language_ends
 have hx : ∃ x, loopW (S := (List Int) × Int) (X := (List Int)) (fun a1 =>
   jp (fun (a5 : Bool) =>
    if a5 = true then
     (idx w a1.2).bind fun x8 =>
     (qba g a1.1 (x8.toNat : Int)).bind fun x10 =>
     some (Stp.next (x10, IntKind.wrap .i64 (a1.2 + 1)))
    else
     some (Stp.exit a1.1))
    fun k7 =>
    if a1.2 < ((w).length : Int) then
     k7 (decide (0 < ((a1.1).length : Int)))
    else
     k7 false) (a, 0) = some x ∧ x = endsL g a w := by
  refine loopN w.length (fun i s => s = (endsL g a (w.take i), (i : Int))) ?_ ?_ 0 _ (Nat.zero_le _) rfl
  ·rintro i s hi rfl
   simp only [jp]
   rw [if_pos (qbt hi)]
   by_cases h0 : endsL g a (w.take i) = []
   ·rw [if_neg (by rw [h0]; simp)]
    refine .inr ⟨_, rfl, ?_⟩
    rw [h0]
    conv => rhs; rw [← List.take_append_drop i w, endsL_app, h0, endsL_nil]
   ·have hpos := List.length_pos_iff.2 h0
    rw [if_pos (decide_eq_true (by omega)), ix hi]
    simp only [Option.bind_some]
    rw [step_lab hv (endsL_ok ha _) (hc _ (List.getElem_mem hi))]
    refine .inl ⟨_, rfl, ?_⟩
    rw [nx (by omega : w.length ≤ _) hi, List.take_add_one, List.getElem?_eq_getElem hi, endsL_app]
    rfl
  ·rintro s rfl
   simp only [jp]
   rw [if_neg (qaw _), if_neg (by simp)]
   exact ⟨_, rfl, by rw [List.take_length]⟩
 obtain ⟨x, hx, rfl⟩ := hx
 rw [hx]
 rfl
theorem Accepts_eq (hv : VG g) (h16 : g.1 ≤ 16) {w : List UInt8} (hw : WOk g w) : qbb g w = some (decide (endsL g (upto g.2.1) w ≠ []), 0) := by
 obtain ⟨e, he, hz⟩ := spells_tot g w
 have h0 := hz.2 ⟨hv, h16, hw⟩
 subst h0
 unfold qbb
 rw [he]
 simp only [Option.bind_some, ne_eq, not_true_eq_false, if_false, states_eq hv, ends_eq hv (upto_ok g) hw]
 congr 2
 by_cases h : endsL g (upto g.2.1) w = []
 ·simp [h]
 ·have := List.length_pos_iff.2 h
  simp [h, this]
end
theorem Great_tot (g : Gr) : ∃ b, m_ref11_Great g = some b ∧ (b = false → (g.2.1 ≤ 8 ∨ 64 < g.2.1) ∧ (g.2.2.length ≤ 30 ∨ 1024 < g.2.2.length) ∧ g.2.2.length ≤ 1027) := by
 unfold m_ref11_Great
 simp only [jp]
 by_cases h1 : 8 < g.2.1
 ·rw [if_pos h1]
  by_cases h2 : g.2.1 ≤ 64
  ·rw [if_pos h2]; exact ⟨true, rfl, by simp⟩
  rw [if_neg h2]
  by_cases h3 : 30 < (g.2.2.length : Int)
  ·rw [if_pos h3]
   by_cases h4 : (g.2.2.length : Int) ≤ 1024
   ·rw [if_pos h4]; exact ⟨true, rfl, by simp⟩
   ·rw [if_neg h4]; exact ⟨_, rfl, by simp; omega⟩
  ·rw [if_neg h3]; exact ⟨_, rfl, by simp; omega⟩
 ·rw [if_neg h1]
  by_cases h3 : 30 < (g.2.2.length : Int)
  ·rw [if_pos h3]
   by_cases h4 : (g.2.2.length : Int) ≤ 1024
   ·rw [if_pos h4]; exact ⟨true, rfl, by simp⟩
   ·rw [if_neg h4]; exact ⟨_, rfl, by simp; omega⟩
  ·rw [if_neg h3]; exact ⟨_, rfl, by simp; omega⟩
theorem EqI_eq {a b : List Int} (hm : a.length ≤ 9223372036854775807) : qa0 a b = some (decide (a = b)) := by
 unfold qa0
 by_cases hl : a.length = b.length
 ·rw [if_neg (by omega)]
  refine lpL (loop_any (fun i => (i : Int)) a.length (fun i => decide (a.getD i 0 ≠ b.getD i 0)) (Ou.ret false) (Ou.go ()) (fun i hi => ?_) (by rw [if_neg (qaw _)]) rfl) ?_
  ·have hi' : i < b.length := by omega
   have e1 : a.getD i 0 = a[i] := by simp [List.getD, hi]
   have e2 : b.getD i 0 = b[i] := by simp [List.getD, hi']
   rw [if_pos (qbt hi), ix hi, ix hi']
   simp only [Option.bind_some, nx hm hi, e1, e2, decide_eq_true_eq]
  ·by_cases he : a = b
   ·subst he
    rw [if_neg]
    ·simp [lpO]
    ·simp
   ·rw [if_pos]
    ·simp [lpO, he]
    ·refine List.any_eq_true.2 ?_
     apply Classical.byContradiction
     intro hno
     refine he (List.ext_getElem hl fun i h1 h2 => ?_)
     apply Classical.byContradiction
     intro hne
     refine hno ⟨i, List.mem_range.2 h1, decide_eq_true ?_⟩
     rwa [show a.getD i 0 = a[i] by simp [List.getD, h1], show b.getD i 0 = b[i] by simp [List.getD, h2]]
 ·rw [if_pos (by omega)]
  have : ¬ a = b := fun e => hl (by rw [e])
  simp [this]
theorem WOk.sub {g : Gr} {w u : List UInt8} (h : WOk g w) (hl : u.length ≤ w.length) (hs : ∀ c ∈ u, c ∈ w) : WOk g u := ⟨Nat.le_trans hl h.1, fun c hc => h.2 c (hs c hc)⟩
end Go.AW
namespace Go.AW
open Go
section
variable {g : Gr}
def canB (g : Gr) : List UInt8 → List Bool
 | [] => List.replicate g.2.1.toNat true
 | c :: w => (upto g.2.1).map fun s => g.2.2.any fun x => decide (x.1 = s ∧ x.2.1 = lab c) && (canB g w).getD x.2.2.toNat false
def okE (g : Gr) (w : List UInt8) (c : UInt8) (prev : Option Int) (x : Ed) : Bool := decide (x.2.1 = lab c) && (canB g w).getD x.2.2.toNat false && (match prev with
 | none => true
 | some s => decide (x.1 = s))
def pick (g : Gr) (w : List UInt8) (c : UInt8) (prev : Option Int) : Nat := g.2.2.findIdx (okE g w c prev)
end
end Go.AW
namespace Go.AW
open Go
section
variable {g : Gr}
end
end Go.AW
namespace Go.AW
open Go
section
variable {g : Gr}
theorem loopN_eq {S X : Type} {body : S → Option (Stp S X)} (x0 : X) (n : Nat) (I : Nat → S → Prop)
  (step : ∀ i s, i < n → I i s → (∃ s', body s = some (.next s') ∧ I (i + 1) s') ∨ ∃ x, body s = some (.exit x) ∧ x = x0) (fin : ∀ s, I n s → ∃ x, body s = some (.exit x) ∧ x = x0) {s0 : S} (h : I 0 s0) : loopW body s0 = some x0 := by
 obtain ⟨x, hx, rfl⟩ := loopN n I step fin 0 s0 (Nat.zero_le _) h
 exact hx
end
end Go.AW
namespace Go.AW
open Go
def allW (cs : List UInt8) : Nat → List (List UInt8)
 | 0 => [[]]
 | n + 1 => (allW cs n).flatMap fun w => cs.map fun c => w ++ [c]
theorem mem_allW {cs : List UInt8} : ∀ {n : Nat} {w : List UInt8}, w ∈ allW cs n ↔ w.length = n ∧ ∀ c ∈ w, c ∈ cs
 | 0, w => by
  simp only [allW, List.mem_singleton]
  constructor
  ·rintro rfl; simp
  ·rintro ⟨h, _⟩; exact List.eq_nil_of_length_eq_zero h
 | n + 1, w => by
  simp only [allW, List.mem_flatMap, List.mem_map]
  constructor
  ·rintro ⟨u, hu, c, hc, rfl⟩
   obtain ⟨h1, h2⟩ := mem_allW.1 hu
   refine ⟨by simp [h1], fun d hd => ?_⟩
   rcases List.mem_append.1 hd with h | h
   ·exact h2 d h
   ·simp at h; subst h; exact hc
  ·rintro ⟨h1, h2⟩
   rcases List.eq_nil_or_concat w with rfl | ⟨v, c, rfl⟩
   ·simp at h1
   ·rw [List.concat_eq_append] at h1 h2 ⊢
    exact ⟨v, mem_allW.2 ⟨by simpa using h1, fun d hd => h2 d (List.mem_append_left _ hd)⟩, c, h2 c (by simp), rfl⟩
theorem allW_len (cs : List UInt8) : ∀ n, (allW cs n).length = cs.length ^ n
 | 0 => rfl
 | n + 1 => by
  have h : ∀ l : List (List UInt8), (l.flatMap fun w => cs.map fun c => w ++ [c]).length = l.length * cs.length := by
   intro l
   induction l with
   | nil => simp
   | cons x l ih => rw [List.flatMap_cons, List.length_append, ih, List.length_map, List.length_cons, Nat.succ_mul]; omega
  simp only [allW]
  rw [h, allW_len cs n, Nat.pow_succ]
theorem allW_asc {cs : List UInt8} (hcs : cs.Pairwise (· < ·)) : ∀ n, (allW cs n).Pairwise (· < ·)
 | 0 => by simp [allW]
 | n + 1 => by
  simp only [allW]
  rw [List.pairwise_flatMap]
  refine ⟨fun x hx => ?_, (allW_asc hcs n).imp_of_mem fun {x y} hx hy hxy a ha b hb => ?_⟩
  ·rw [List.pairwise_map]
   exact hcs.imp fun hcd => app_lt _ (List.cons_lt_cons_iff.2 (.inl hcd))
  ·obtain ⟨c, _, rfl⟩ := List.mem_map.1 ha
   obtain ⟨d, _, rfl⟩ := List.mem_map.1 hb
   exact lt_app _ _ (by rw [(mem_allW.1 hx).1, (mem_allW.1 hy).1]) hxy
section
variable {g : Gr}
def accB (g : Gr) (w : List UInt8) : Bool := decide (endsL g (upto g.2.1) w ≠ [])
end
end Go.AW
namespace Go.AW
open Go
section
variable {β : Type}
theorem mlook_put (k q : List UInt8) (v : β) : ∀ l : List (List UInt8 × β), mlook q (mputN k v l) = if q = k then some v else mlook q l
 | [] => by simp only [mputN, mlook]
 | (p, x) :: l => by
  simp only [mputN]
  by_cases h : k = p
  ·rw [if_pos h]
   simp only [mlook]
   by_cases e : q = p
   ·rw [if_pos e, if_pos (e.trans h.symm)]
   ·rw [if_neg e, if_neg (fun e' => e (e'.trans h)), if_neg e]
  ·rw [if_neg h]
   simp only [mlook]
   by_cases e : q = p
   ·rw [if_pos e, if_neg (fun e' => h (e'.symm.trans e)), if_pos e]
   ·rw [if_neg e, mlook_put k q v l, if_neg e]
end
section
variable {g : Gr}
end
end Go.AW
namespace Go.AW
open Go
theorem lvl_congr {f h : List Int → UInt8 → List Int} {cs : List UInt8} {A : List Int → Prop} {set : List Int} (hs : A set) (hA : ∀ a c, A a → c ∈ cs → A (f a c)) (he : ∀ a c, A a → c ∈ cs → f a c = h a c) : ∀ n, lvl f cs set n = lvl h cs set n
 | 0 => rfl
 | n + 1 => by
  simp only [lvl]
  rw [← lvl_congr hs hA he n]
  have hall : ∀ x ∈ lvl f cs set n, A x.2 := lvl_all hs hA n
  have hcs : ∀ (cs' : List UInt8), (∀ c ∈ cs', c ∈ cs) → ∀ x ∈ lvl f cs set n, ext1 f cs' x = ext1 h cs' x := by
   intro cs' hsub x hx
   unfold ext1
   induction cs' with
   | nil => rfl
   | cons c cs' ih =>
    rw [List.filterMap_cons, List.filterMap_cons, he x.2 c (hall x hx) (hsub c (List.mem_cons_self ..)), ih fun d hd => hsub d (List.mem_cons_of_mem _ hd)]
  have : ∀ l : List WS, (∀ x ∈ l, ext1 f cs x = ext1 h cs x) → l.flatMap (ext1 f cs) = l.flatMap (ext1 h cs) := by
   intro l hl
   induction l with
   | nil => rfl
   | cons x l ih => rw [List.flatMap_cons, List.flatMap_cons, hl x (List.mem_cons_self ..), ih fun y hy => hl y (List.mem_cons_of_mem _ hy)]
  exact this _ (hcs cs fun _ h => h)
section
variable {g : Gr}
def stpL (g : Gr) (a : List Int) (c : UInt8) : List Int := stepL g a (lab c)
theorem LV_lab (hv : VG g) {set : List Int} (hs : SetOk g set) (n : Nat) : LV g set n = lvl (stpL g) (lets g) set n := by
 refine lvl_congr (A := SetOk g) hs (fun a c ha hc => stpM_ok hv ha hc) (fun a c ha hc => ?_) n
 unfold stpM
 rw [step_lab hv ha hc]
 rfl
theorem mem_LV (hv : VG g) {set : List Int} (hs : SetOk g set) : ∀ (n : Nat) (x : WS), x ∈ LV g set n ↔ x.1.length = n ∧ (∀ c ∈ x.1, c ∈ lets g) ∧ x.2 = endsL g set x.1 ∧ x.2 ≠ [] := by
 intro n
 rw [LV_lab hv hs]
 induction n with
 | zero =>
  rintro ⟨u, a⟩
  simp only [lvl]
  constructor
  ·intro h
   split at h
   ·cases h
   ·rename_i hne
    simp only [List.mem_singleton, Prod.mk.injEq] at h
    obtain ⟨rfl, rfl⟩ := h
    exact ⟨rfl, by simp, rfl, hne⟩
  ·rintro ⟨hl, _, he, hne⟩
   have hu : u = [] := List.eq_nil_of_length_eq_zero hl
   subst hu
   have : a = set := he
   subst this
   rw [if_neg hne]
   simp
 | succ n ih =>
  rintro ⟨u, a⟩
  simp only [lvl, List.mem_flatMap, mem_ext1]
  constructor
  ·rintro ⟨y, hy, c, hc, hne, he⟩
   cases he
   obtain ⟨h1, h2, h3, h4⟩ := (ih y).1 hy
   refine ⟨by simp [h1], fun d hd => ?_, ?_, hne⟩
   ·rcases List.mem_append.1 hd with hd | hd
    ·exact h2 d hd
    ·simp at hd; subst hd; exact hc
   ·show stepL g y.2 (lab c) = _
    rw [endsL_app, ← h3]
    rfl
  ·rintro ⟨hl, hc, he, hne⟩
   rcases List.eq_nil_or_concat u with rfl | ⟨v, c, rfl⟩
   ·simp at hl
   ·rw [List.concat_eq_append] at he hl hc ⊢
    rw [endsL_app] at he
    have he' : a = stepL g (endsL g set v) (lab c) := he
    have hne2 : endsL g set v ≠ [] := fun h0 => hne (by rw [he', h0, stepL_nil])
    exact ⟨(v, endsL g set v), (ih _).2 ⟨by simpa using hl, fun d hd => hc d (List.mem_append_left _ hd), rfl, hne2⟩, c, hc c (by simp), by show stepL g _ _ ≠ []; rw [← he']; exact hne, by rw [he']; rfl⟩
end
theorem EqS_eq {a b : List (List UInt8)} (hm : a.length ≤ 9223372036854775807) : qaP a b = some (decide (a = b)) := by
 unfold qaP
 by_cases hl : a.length = b.length
 ·rw [if_neg (by omega)]
  refine lpL (loop_any (fun i => (i : Int)) a.length (fun i => decide (a.getD i [] ≠ b.getD i [])) (Ou.ret false) (Ou.go ()) (fun i hi => ?_) (by rw [if_neg (qaw _)]) rfl) ?_
  ·have hi' : i < b.length := by omega
   have e1 : a.getD i [] = a[i] := by simp [List.getD, hi]
   have e2 : b.getD i [] = b[i] := by simp [List.getD, hi']
   rw [if_pos (qbt hi), ix hi, ix hi']
   simp only [Option.bind_some, nx hm hi, e1, e2, decide_eq_true_eq]
  ·by_cases he : a = b
   ·subst he
    rw [if_neg]
    ·simp [lpO]
    ·simp
   ·rw [if_pos]
    ·simp [lpO, he]
    ·refine List.any_eq_true.2 ?_
     apply Classical.byContradiction
     intro hno
     refine he (List.ext_getElem hl fun i h1 h2 => ?_)
     apply Classical.byContradiction
     intro hne
     refine hno ⟨i, List.mem_range.2 h1, decide_eq_true ?_⟩
     rwa [show a.getD i [] = a[i] by simp [List.getD, h1], show b.getD i [] = b[i] by simp [List.getD, h2]]
 ·rw [if_pos (by omega)]
  have : ¬ a = b := fun e => hl (by rw [e])
  simp [this]
end Go.AW
namespace Go.AW
open Go
theorem ltW_asym : ∀ {u v : List UInt8}, u < v → ¬ v < u
 | [], [], h, _ => by cases h
 | [], _ :: _, _, h => by cases h
 | _ :: _, [], h, _ => by cases h
 | a :: u, b :: v, h, h' => by
  rcases List.cons_lt_cons_iff.1 h with h1 | ⟨h1, h2⟩
  ·rcases List.cons_lt_cons_iff.1 h' with h3 | ⟨h3, h4⟩
   ·exact absurd (UInt8.lt_trans h1 h3) (u8_irr a)
   ·subst h3; exact u8_irr _ h1
  ·subst h1
   rcases List.cons_lt_cons_iff.1 h' with h3 | ⟨h3, h4⟩
   ·exact u8_irr _ h3
   ·exact ltW_asym h2 h4
theorem ascW_uniq {l m : List (List UInt8)} (hl : l.Pairwise (· < ·)) (hm : m.Pairwise (· < ·)) (h : ∀ x, x ∈ l ↔ x ∈ m) : l = m := by
 have nl : l.Nodup := hl.imp fun h e => by subst e; exact lt_irr _ h
 have nm : m.Nodup := hm.imp fun h e => by subst e; exact lt_irr _ h
 have hp : l.Perm m := (List.perm_ext_iff_of_nodup nl nm).2 h
 exact hp.eq_of_pairwise (fun a b _ _ h1 h2 => absurd h2 (ltW_asym h1)) hl hm
section
variable {g : Gr}
theorem lets_asc (g : Gr) : (lets g).Pairwise (· < ·) := letters_asc.sublist (List.take_sublist _ _)
theorem words_filter (hv : VG g) (n : Nat) : (LV g (upto g.2.1) n).map Prod.fst = (allW (lets g) n).filter (accB g) := by
 refine ascW_uniq (LV_asc g _ n) ((allW_asc (lets_asc g) n).filter _) fun w => ?_
 simp only [List.mem_map, List.mem_filter, mem_allW, accB, decide_eq_true_eq]
 constructor
 ·rintro ⟨x, hx, rfl⟩
  obtain ⟨h1, h2, h3, h4⟩ := (mem_LV hv (upto_ok g) n x).1 hx
  exact ⟨⟨h1, h2⟩, by rw [← h3]; exact h4⟩
 ·rintro ⟨⟨h1, h2⟩, h3⟩
  exact ⟨(w, endsL g (upto g.2.1) w), (mem_LV hv (upto_ok g) n _).2 ⟨h1, h2, rfl, h3⟩, rfl⟩
theorem LV_pow (hv : VG g) (h16 : g.1 ≤ 16) (n : Nat) : (LV g (upto g.2.1) n).length ≤ g.1.toNat ^ n := by
 have h := words_filter hv n
 have h2 := congrArg List.length h
 rw [List.length_map] at h2
 rw [h2]
 refine Nat.le_trans (List.length_filter_le _ _) ?_
 rw [allW_len, lets_len hv h16]
 exact Nat.le_refl _
end
end Go.AW
namespace Go.AW
open Go
theorem Words_ok {g : Gr} (hv : VG g) (h16 : g.1 ≤ 16) {n : Nat} (hn : n ≤ 4096) (hb : ∀ j, 1 ≤ j → j ≤ n → g.1.toNat ^ j ≤ 4096) : qbg g (n : Int) = some ((allW (lets g) n).filter (accB g), 0) := by
 obtain ⟨r, hr, _, h2, h3⟩ := Words_both g n
 have h0 := h3 hv h16 (by omega) (by omega) (OKL_iff.2 fun j j1 j2 => Nat.le_trans (LV_pow hv h16 j) (hb j j1 (by simpa using j2)))
 obtain ⟨_, hw⟩ := h2 h0
 obtain ⟨r1, r2⟩ := r
 dsimp only at h0 hw
 rw [hr, h0, hw]
 unfold wordsE
 rw [Int.toNat_natCast, words_filter hv]
section
variable {g : Gr}
end
end Go.AW
namespace Go.AW
open Go
theorem u8_int {a b : UInt8} : ((a.toNat : Int) = (b.toNat : Int)) ↔ a = b := by
 constructor
 ·intro h
  exact UInt8.toNat_inj.1 (by omega)
 ·rintro rfl; rfl
theorem lab_none {c : UInt8} (h : c ∉ letters) : lab c = -1 := by
 have h1 : lab c < 0 := idxB_neg.2 h
 have h2 := Lib.indexByte_ge letters c
 show Lib.indexByte letters c = -1
 have h1 : Lib.indexByte letters c < 0 := h1
 omega
theorem digit_eq (c : UInt8) : m_ref07_Digit (c.toNat : Int) = some (lab c) := by
 unfold m_ref07_Digit
 refine lpL (loopN_eq (if c ∈ letters then .ret (lab c) else .go ()) 16 (fun i s => s = (i : Int) ∧ ∀ j (_ : j < i) (h : j < letters.length), letters[j] ≠ c) ?_ ?_ ⟨rfl, fun j hj => by omega⟩) ?_
 ·rintro i s hi ⟨rfl, hne⟩
  have hil : i < letters.length := hi
  have hx : idx ([48, 49, 50, 51, 52, 53, 54, 55, 56, 57, 97, 98, 99, 100, 101, 102] : List UInt8) (i : Int) = some letters[i] := ix (l := letters) hil
  rw [if_pos (by omega), hx]
  simp only [Option.bind_some, u8_int]
  by_cases e : letters[i] = c
  ·rw [if_pos e]
   refine .inr ⟨_, rfl, ?_⟩
   rw [if_pos (by rw [← e]; exact List.getElem_mem hil)]
   congr 1
   rw [← e]
   exact (idx_letter hil).symm
  ·rw [if_neg e]
   refine .inl ⟨_, rfl, nx (by omega : (16 : Nat) ≤ _) hi, fun j hj h => ?_⟩
   by_cases hji : j = i
   ·subst hji; exact e
   ·exact hne j (by omega) h
 ·rintro s ⟨rfl, hne⟩
  rw [if_neg (by omega)]
  refine ⟨_, rfl, ?_⟩
  rw [if_neg]
  intro hm
  obtain ⟨j, hj, e⟩ := List.getElem_of_mem hm
  exact hne j hj hj e
 ·by_cases h : c ∈ letters
  ·rw [if_pos h]; rfl
  ·rw [if_neg h, lab_none h]; rfl
theorem lab_take {L : Int} (h1 : 1 ≤ L) (h16 : L ≤ 16) (c : UInt8) : (c ∉ letters.take L.toNat) ↔ lab c < 0 ∨ L ≤ lab c := by
 by_cases h : c ∈ letters
 ·obtain ⟨i, hi, rfl⟩ := List.getElem_of_mem h
  have e : lab letters[i] = (i : Int) := idx_letter hi
  rw [e]
  constructor
  ·intro hn
   right
   apply Classical.byContradiction
   intro hlt
   exact hn (List.mem_take_iff_getElem.2 ⟨i, by omega, rfl⟩)
  ·rintro (h0 | h0) hm
   ·omega
   ·obtain ⟨j, hj, e2⟩ := List.mem_take_iff_getElem.1 hm
    have := (List.getElem_inj (h₀ := by omega) (h₁ := hi) letters_nodup).1 e2
    omega
 ·rw [lab_none h]
  exact ⟨fun _ => .inl (by omega), fun _ hm => h (List.mem_of_mem_take hm)⟩
theorem rcheck (L : Int) (w : List UInt8) : m_ref07_Check L w = m_word_Check L w := by
 unfold m_ref07_Check m_word_Check
 rw [known_eq]
 simp only [jp, Option.bind_some]
 by_cases h1 : 1 ≤ L ∧ L ≤ 16
 case neg =>
  rw [if_pos (show (!decide (1 ≤ L ∧ L ≤ 16)) = true by rw [decide_eq_false h1]; rfl)]
  by_cases h0 : L < 1
  ·rw [if_pos h0]; rfl
  ·rw [if_neg h0, if_pos (decide_eq_true (by omega))]
 rw [if_neg (show ¬ (!decide (1 ≤ L ∧ L ≤ 16)) = true by rw [decide_eq_true h1]; decide), if_neg (by omega : ¬ L < 1), if_neg (show ¬ decide (16 < L) = true by simp; omega)]
 by_cases h2 : 65536 < (w.length : Int)
 ·rw [if_pos h2, if_pos h2]
 rw [if_neg h2, if_neg h2]
 congr 2
 funext a
 by_cases ha : a < (w.length : Int)
 case neg => rw [if_neg ha, if_neg ha]
 have hc0 : 0 ≤ (0 : Int) ∧ (0 : Int) ≤ L ∧ L ≤ (([48, 49, 50, 51, 52, 53, 54, 55, 56, 57, 97, 98, 99, 100, 101, 102] : List UInt8).length : Int) := ⟨by decide, by omega, by show L ≤ (16 : Int); omega⟩
 rw [if_pos ha, if_pos ha, if_pos hc0]
 cases hx : idx w a with
 | none => rfl
 | some c =>
  simp only [Option.bind_some, digit_eq]
  have hs : qaK ((([48, 49, 50, 51, 52, 53, 54, 55, 56, 57, 97, 98, 99, 100, 101, 102] : List UInt8).take L.toNat).drop (0 : Int).toNat) (c.toNat : Int) = some (Lib.indexByte (letters.take L.toNat) c) := by
   unfold qaK
   rw [byte_back]
   rfl
  rw [hs]
  simp only [Option.bind_some]
  have hiff := (idxB_neg (l := letters.take L.toNat) (c := c)).trans (lab_take h1.1 h1.2 c)
  by_cases h3 : lab c < 0
  ·rw [if_pos h3, if_pos (hiff.2 (.inl h3))]; rfl
  ·rw [if_neg h3]
   by_cases h4 : L ≤ lab c
   ·rw [if_pos (decide_eq_true h4), if_pos (hiff.2 (.inr h4))]
   ·rw [if_neg (by simp; omega), if_neg (fun h => by rcases hiff.1 h with h | h <;> omega)]
theorem check_ref (g : Gr) : m_ref11_check g = qa4 g := by
 unfold qa4 m_ref11_check
 rw [Check_ref]
theorem checkWord_ref (g : Gr) (w : List UInt8) : m_ref11_checkWord g w = qbm g w := by
 unfold m_ref11_checkWord qbm
 rw [check_ref]
 congr 1
 funext x
 rw [rcheck]
section
variable {g : Gr}
theorem refends_eq (hv : VG g) {a : List Int} (ha : SetOk g a) {w : List UInt8} (hl : w.length ≤ 1000000) : m_ref11_ends g a w = some (endsL g a w) := by
 unfold m_ref11_ends
 refine bindL (loop_is (fun i => (endsL g a (w.take i), (i : Int))) w.length (endsL g a w) (fun i hi => ?_) ?_ rfl) rfl
 ·dsimp only
  rw [if_pos (qbt hi), ix hi]
  simp only [Option.bind_some, digit_eq]
  have hle := setOk_len hv (endsL_ok ha (w.take i))
  rw [refStep_eq hv (by omega)]
  simp only [Option.bind_some, nx (by omega : w.length ≤ _) hi]
  rw [List.take_add_one, List.getElem?_eq_getElem hi, endsL_app]
  rfl
 ·dsimp only
  rw [if_neg (qaw _), List.take_length]
theorem Accepts_both (g : Gr) (w : List UInt8) : ∃ r, qbb g w = some r ∧ m_ref11_Accepts g w = some r := by
 obtain ⟨e, he, hz⟩ := spells_tot g w
 by_cases h0 : e = 0
 ·obtain ⟨hv, h16, hw⟩ := hz.1 h0
  subst h0
  refine ⟨_, Accepts_eq hv h16 hw, ?_⟩
  unfold m_ref11_Accepts
  rw [checkWord_ref, he]
  have hl := hw.1
  simp only [Option.bind_some, ne_eq, not_true_eq_false, if_false, All_eq hv, refends_eq hv (upto_ok g) (by omega : w.length ≤ 1000000)]
  congr 2
  by_cases h : endsL g (upto g.2.1) w = []
  ·simp [h]
  ·have := List.length_pos_iff.2 h
   simp [h, this]
 ·refine ⟨(false, e), ?_, ?_⟩
  ·unfold qbb
   rw [he]
   simp only [Option.bind_some]
   rw [if_pos h0]
  ·unfold m_ref11_Accepts
   rw [checkWord_ref, he]
   simp only [Option.bind_some]
   rw [if_pos h0]
end
end Go.AW
namespace Go.AW
open Go
section
variable {g : Gr}
end
end Go.AW
namespace Go.AW
open Go
section
variable {g : Gr}
end
end Go.AW
namespace Go.AW
open Go
section
variable {g : Gr}
end
end Go.AW
namespace Go.AW
open Go
abbrev Jn := qaq
def fstN {X : Type} (p : Nat → Bool) (xr : Nat → X) (xf : X) : Nat → Nat → X
 | 0, _ => xf
 | d + 1, i => if p i = true then xr i else fstN p xr xf d (i + 1)
theorem loop_fst {S X : Type} {body : S → Option (Stp S X)} (st : Nat → S) (n : Nat) (p : Nat → Bool) (xr : Nat → X) (xf : X) (h : ∀ i, i < n → body (st i) = if p i = true then some (.exit (xr i)) else some (.next (st (i + 1)))) (hf : body (st n) = some (.exit xf)) {s0 : S} (hs0 : s0 = st 0) :
  loopW body s0 = some (fstN p xr xf n 0) := by
 subst hs0
 have : ∀ d i, i + d = n → loopW body (st i) = some (fstN p xr xf d i) := by
  intro d
  induction d with
  | zero =>
   intro i hi
   have e : i = n := by omega
   subst e
   rw [loopW_exit hf]
   rfl
  | succ d ih =>
   intro i hi
   have hb := h i (by omega)
   unfold fstN
   by_cases hp : p i = true
   ·rw [if_pos hp] at hb ⊢
    rw [loopW_exit hb]
   ·rw [if_neg hp] at hb ⊢
    rw [loopW_next hb]
    exact ih (i + 1) (by omega)
 exact this n 0 (by omega)
theorem fstN_cases {X : Type} (p : Nat → Bool) (xr : Nat → X) (xf : X) : ∀ d i, (∃ j, i ≤ j ∧ j < i + d ∧ p j = true ∧ (∀ k, i ≤ k → k < j → p k = false) ∧ fstN p xr xf d i = xr j) ∨ ((∀ j, i ≤ j → j < i + d → p j = false) ∧ fstN p xr xf d i = xf)
 | 0, i => .inr ⟨fun j h1 h2 => by omega, rfl⟩
 | d + 1, i => by
  unfold fstN
  by_cases hp : p i = true
  ·rw [if_pos hp]
   exact .inl ⟨i, by omega, by omega, hp, fun k h1 h2 => by omega, rfl⟩
  ·rw [if_neg hp]
   have hp' : p i = false := by simpa using hp
   rcases fstN_cases p xr xf d (i + 1) with ⟨j, h1, h2, h3, h4, h5⟩ | ⟨h1, h2⟩
   ·refine .inl ⟨j, by omega, by omega, h3, fun k hk1 hk2 => ?_, h5⟩
    by_cases hk : k = i
    ·subst hk; exact hp'
    ·exact h4 k (by omega) hk2
   ·refine .inr ⟨fun j hj1 hj2 => ?_, h2⟩
    by_cases hj : j = i
    ·subst hj; exact hp'
    ·exact h1 j (by omega) (by omega)
theorem fstN_any {α X : Type} (l : List α) (P : α → Bool) {p : Nat → Bool} (hp : ∀ i (h : i < l.length), p i = P l[i]) (xr xf : X) : fstN p (fun _ => xr) xf l.length 0 = if l.any P = true then xr else xf := by
 rcases fstN_cases p (fun _ => xr) xf l.length 0 with ⟨j, h1, h2, h3, h4, h5⟩ | ⟨h1, h2⟩
 ·rw [h5, if_pos]
  rw [List.any_eq_true]
  exact ⟨l[j], List.getElem_mem (by omega), by rw [← hp j (by omega)]; exact h3⟩
 ·rw [h2, if_neg]
  rw [List.any_eq_true]
  rintro ⟨x, hx, hP⟩
  obtain ⟨j, hj, rfl⟩ := List.getElem_of_mem hx
  rw [← hp j hj, h1 j (by omega) (by omega)] at hP
  cases hP
theorem loop_anyL {α S X : Type} {body : S → Option (Stp S X)} (st : Nat → S) (l : List α) (P : α → Bool) (xr xf : X) (h : ∀ i (hi : i < l.length), body (st i) = if P l[i] = true then some (.exit xr) else some (.next (st (i + 1)))) (hf : body (st l.length) = some (.exit xf)) {s0 : S} (hs0 : s0 = st 0) :
  loopW body s0 = some (if l.any P = true then xr else xf) := by
 rw [← fstN_any l P (p := fun i => if h : i < l.length then P l[i] else false) (fun i hi => by rw [dif_pos hi]) xr xf]
 exact loop_fst st l.length _ _ xf (fun i hi => by rw [h i hi, dif_pos hi]) hf hs0
theorem fstN_find {α X : Type} (l : List α) (P : α → Bool) {p : Nat → Bool} (hp : ∀ i (h : i < l.length), p i = P l[i]) (xr : Nat → X) (xf : X) : fstN p xr xf l.length 0 = if l.any P = true then xr (l.findIdx P) else xf := by
 rcases fstN_cases p xr xf l.length 0 with ⟨j, h1, h2, h3, h4, h5⟩ | ⟨h1, h2⟩
 ·have hj : j < l.length := by omega
  have hf : l.findIdx P = j := by
   rw [List.findIdx_eq hj]
   exact ⟨by rw [← hp j hj]; exact h3, fun k hk => by rw [← hp k (by omega)]; exact h4 k (by omega) hk⟩
  rw [h5, if_pos, hf]
  rw [List.any_eq_true]
  exact ⟨l[j], List.getElem_mem hj, by rw [← hp j hj]; exact h3⟩
 ·rw [h2, if_neg]
  rw [List.any_eq_true]
  rintro ⟨x, hx, hP⟩
  obtain ⟨j, hj, rfl⟩ := List.getElem_of_mem hx
  rw [← hp j hj, h1 j (by omega) (by omega)] at hP
  cases hP
theorem loop_findL {α S X : Type} {body : S → Option (Stp S X)} (st : Nat → S) (l : List α) (P : α → Bool) (xr : Nat → X) (xf : X) (h : ∀ i (hi : i < l.length), body (st i) = if P l[i] = true then some (.exit (xr i)) else some (.next (st (i + 1)))) (hf : body (st l.length) = some (.exit xf)) {s0 : S} (hs0 : s0 = st 0) :
  loopW body s0 = some (if l.any P = true then xr (l.findIdx P) else xf) := by
 rw [← fstN_find l P (p := fun i => if h : i < l.length then P l[i] else false) (fun i hi => by rw [dif_pos hi]) xr xf]
 exact loop_fst st l.length _ _ xf (fun i hi => by rw [h i hi, dif_pos hi]) hf hs0
theorem lpE {V R Y : Type} {o : Option (Ou V R)} {x : Ou V R} {M : V → Option Y} {Rt : R → Option Y} {r : Option Y} (h : o = some x) (hr : lpO (some x) M Rt = r) : lpO o M Rt = r := by rw [h]; exact hr
def firstI {α : Type} (l : List α) (P : α → Bool) : Int := if l.any P = true then (l.findIdx P : Nat) else -1
theorem firstI_nn {α : Type} {l : List α} {P : α → Bool} : 0 ≤ firstI l P ↔ l.any P = true := by
 unfold firstI
 split <;> simp_all
theorem IndexFuncS {l : List (List UInt8)} {p : List UInt8 → Option Bool} (P : List UInt8 → Bool) (hm : l.length ≤ 9223372036854775807) (hp : ∀ x ∈ l, p x = some (P x)) : qaN l p = some (firstI l P) := by
 unfold qaN
 refine lpE (loop_findL (fun i => (i : Int)) l P (fun i => Ou.ret (i : Int)) (Ou.go ()) (fun i hi => ?_) (by rw [if_neg (qaw _)]) rfl) ?_
 ·rw [if_pos (qbt hi), ix hi]
  simp only [Option.bind_some, hp _ (List.getElem_mem hi), nx hm hi]
 ·unfold firstI
  split <;> rfl
theorem ContainsFuncS {l : List (List UInt8)} {p : List UInt8 → Option Bool} (P : List UInt8 → Bool) (hm : l.length ≤ 9223372036854775807) (hp : ∀ x ∈ l, p x = some (P x)) : qal l p = some (l.any P) := by
 unfold qal
 rw [IndexFuncS P hm hp]
 simp only [Option.bind_some, firstI_nn, Bool.decide_eq_true]
def qbn (l : List (List UInt8)) : Nat := (l.headD []).length
def unev (l : List (List UInt8)) : Bool := l.any fun w => decide (w.length ≠ qbn l)
def bitB (c : UInt8) : Bool := c == 48 || c == 49
def lett (l : List (List UInt8)) : Bool := l.any fun w => w.any fun c => !bitB c
def rept (l : List (List UInt8)) : Bool := !decide l.Nodup
theorem idx0 {l : List (List UInt8)} (h : l ≠ []) : idx l 0 = some (l.headD []) := by
 cases l with
 | nil => exact absurd rfl h
 | cons a l => rfl
theorem hdl (l : List (List UInt8)) : (l.headD []).length = qbn l := rfl
def Sm (l : List (List UInt8)) : Prop := l.length ≤ 9223372036854775807 ∧ ∀ w ∈ l, w.length ≤ 4611686018427387904
theorem uneven_eq {l : List (List UInt8)} (h : l ≠ []) (hs : Sm l) : m_merging_uneven l = some (unev l) := by
 unfold m_merging_uneven
 rw [ContainsFuncS (fun w => decide (w.length ≠ qbn l)) hs.1 fun w hw => ?_]
 ·rfl
 ·unfold m_merging_uneven_1
  rw [idx0 h]
  simp only [Option.bind_some, hdl]
  congr 1
  exact decide_eq_decide.2 (by omega)
theorem count2 : ∀ w : List UInt8, w.count 48 + w.count 49 ≤ w.length ∧ (w.count 48 + w.count 49 = w.length ↔ ∀ c ∈ w, bitB c = true)
 | [] => by simp
 | c :: w => by
  obtain ⟨h1, h2⟩ := count2 w
  by_cases h48 : c = 48
  ·subst h48
   simp [bitB] at h2 ⊢
   refine ⟨by omega, ?_⟩
   rw [← h2]; omega
  ·by_cases h49 : c = 49
   ·subst h49
    simp [bitB] at h2 ⊢
    refine ⟨by omega, ?_⟩
    rw [← h2]; omega
   ·have e1 : (c :: w).count 48 = w.count 48 := by simp [List.count_cons, h48]
    have e2 : (c :: w).count 49 = w.count 49 := by simp [List.count_cons, h49]
    rw [e1, e2, List.length_cons]
    refine ⟨by omega, ⟨fun h => by omega, fun h => ?_⟩⟩
    have := h c (List.mem_cons_self ..)
    simp [bitB, h48, h49] at this
theorem letters_eq {l : List (List UInt8)} (hs : Sm l) : m_merging_letters l = some (lett l) := by
 unfold m_merging_letters
 rw [ContainsFuncS (fun w => w.any fun c => !bitB c) hs.1 fun w hw => ?_]
 ·rfl
 ·unfold m_merging_letters_1
  have hl := hs.2 w hw
  obtain ⟨h1, h2⟩ := count2 w
  simp only [m_strings_Count, Option.bind_some, Lib.countByte]
  congr 1
  have e : IntKind.wrap .i64 (((w.count 48 : Nat) : Int) + ((w.count 49 : Nat) : Int)) = ((w.count 48 + w.count 49 : Nat) : Int) := by
   rw [w64 (by omega) (by omega)]; omega
  rw [e]
  by_cases hc : w.count 48 + w.count 49 = w.length
  ·have := h2.1 hc
   rw [decide_eq_false (by omega), eq_comm]
   rw [Bool.eq_false_iff]
   intro ha
   obtain ⟨c, hc', hb⟩ := List.any_eq_true.1 ha
   rw [this c hc'] at hb
   cases hb
  ·rw [decide_eq_true (by omega), eq_comm, List.any_eq_true]
   refine Classical.byContradiction fun hn => hc (h2.2 fun c hc' => Classical.byContradiction fun hb => hn ⟨c, hc', by simpa using hb⟩)
theorem nodup_iff {α : Type} {l : List α} : l.Nodup ↔ ∀ i (h : i < l.length), l[i] ∉ l.take i := by
 rw [List.nodup_iff_pairwise_ne, List.pairwise_iff_getElem]
 constructor
 ·intro h i hi hm
  obtain ⟨j, hj, e⟩ := List.getElem_of_mem hm
  rw [List.length_take] at hj
  rw [List.getElem_take] at e
  exact h j i (by omega) hi (by omega) e
 ·intro h i j hi hj hij e
  refine h j hj ?_
  rw [← e]
  have hq : i < (l.take j).length := by rw [List.length_take]; omega
  have := List.getElem_mem hq
  rwa [List.getElem_take] at this
theorem rept_any {l : List (List UInt8)} {p : Nat → Bool} (hp : ∀ i (h : i < l.length), p i = decide (l[i] ∈ l.take i)) {X : Type} (xr xf : X) : fstN p (fun _ => xr) xf l.length 0 = if rept l = true then xr else xf := by
 rcases fstN_cases p (fun _ => xr) xf l.length 0 with ⟨j, h1, h2, h3, h4, h5⟩ | ⟨h1, h2⟩
 ·rw [h5, if_pos]
  have hj : j < l.length := by omega
  rw [hp j hj, decide_eq_true_eq] at h3
  simp only [rept, Bool.not_eq_true', decide_eq_false_iff_not, nodup_iff]
  exact fun hn => hn j hj h3
 ·rw [h2, if_neg]
  simp only [rept, Bool.not_eq_true', decide_eq_false_iff_not, nodup_iff, Classical.not_not]
  intro i hi hm
  have := h1 i (by omega) (by omega)
  rw [hp i hi] at this
  exact of_decide_eq_false this hm
def seenM (l : List (List UInt8)) (i : Nat) : List (List UInt8 × Bool) := (l.take i).foldl (fun m w => mputN w true m) []
theorem seenM_succ {l : List (List UInt8)} {i : Nat} (hi : i < l.length) : seenM l (i + 1) = mputN l[i] true (seenM l i) := by
 unfold seenM
 rw [← List.take_append_getElem hi, List.foldl_append]
 rfl
theorem seenM_look {l : List (List UInt8)} (q : List UInt8) : ∀ i, i ≤ l.length → (mlook q (seenM l i)).getD false = decide (q ∈ l.take i) := by
 intro i
 induction i with
 | zero => intro _; simp [seenM, mlook]
 | succ i ih =>
  intro hi
  have hi' : i < l.length := by omega
  have e2 : (q ∈ l.take (i + 1)) ↔ q ∈ l.take i ∨ q = l[i] := by rw [← List.take_append_getElem hi', List.mem_append, List.mem_singleton]
  rw [seenM_succ hi', mlook_put]
  by_cases e : q = l[i]
  ·rw [if_pos e, decide_eq_true (e2.2 (.inr e))]; rfl
  ·rw [if_neg e, ih (by omega)]; simp [e2, e]
theorem repeats_eq {l : List (List UInt8)} (hs : Sm l) : m_merging_repeats l = some (rept l) := by
 unfold m_merging_repeats
 refine lpE (loop_fst (fun i => ((i : Int), seenM l i)) l.length (fun i => if h : i < l.length then decide (l[i] ∈ l.take i) else false) (fun _ => Ou.ret true) (Ou.go ()) (fun i hi => ?_) (by simp only; rw [if_neg (qaw _)]) rfl) ?_
 ·simp only
  rw [if_pos (qbt hi), ix hi]
  simp only [Option.bind_some, dif_pos hi, seenM_look l[i] i (Nat.le_of_lt hi), nx hs.1 hi, seenM_succ hi]
 ·rw [rept_any (fun i hi => by rw [dif_pos hi])]
  split
  ·rename_i h; rw [h]; rfl
  ·rename_i h; rw [Bool.not_eq_true] at h; rw [h]; rfl
def formE (j : Jn) : Int :=
 if j.1 = [] ∨ j.2 = [] then 5 else if 256 < j.1.length ∨ 256 < j.2.length then 4 else if unev j.1 = true ∨ unev j.2 = true then 11
 else if qbn j.1 < 1 ∨ 16 < qbn j.1 ∨ 16 < qbn j.2 then 2 else if lett j.1 = true ∨ lett j.2 = true then 13 else if rept j.1 = true ∨ rept j.2 = true then 7 else 0
def SmJ (j : Jn) : Prop := Sm j.1 ∧ Sm j.2
theorem i256 (n : Nat) : (256 < (n : Int)) ↔ 256 < n := by omega
theorem i16 (n : Nat) : (16 < (n : Int)) ↔ 16 < n := by omega
theorem i1 (n : Nat) : ((n : Int) < 1) ↔ n < 1 := by omega
theorem form_eq {j : Jn} (hs : SmJ j) : m_merging_form j = some (formE j) := by
 obtain ⟨h1, h2⟩ := hs
 unfold m_merging_form formE
 simp only [jp]
 by_cases e1 : j.1 = []
 ·simp [e1]
 by_cases e2 : j.2 = []
 ·simp [e1, e2]
 have l1 : ¬ (j.1.length : Int) = 0 := by have := List.length_pos_iff.2 e1; omega
 have l2 : ¬ (j.2.length : Int) = 0 := by have := List.length_pos_iff.2 e2; omega
 rw [if_neg l1, decide_eq_false l2, if_neg Bool.false_ne_true, uneven_eq e1 h1, uneven_eq e2 h2, letters_eq h1, letters_eq h2, repeats_eq h1, repeats_eq h2, idx0 e1, idx0 e2]
 simp only [Option.bind_some, hdl, i256, i16, i1, e1, e2, or_self, if_false]
 by_cases c1 : 256 < j.1.length
 ·simp [c1]
 by_cases c2 : 256 < j.2.length
 ·simp [c1, c2]
 by_cases u1 : unev j.1 = true
 ·simp [c1, c2, u1]
 by_cases u2 : unev j.2 = true
 ·simp [c1, c2, u1, u2]
 by_cases f1 : qbn j.1 < 1
 ·simp only [c1, c2, u1, u2, f1, decide_true, decide_false, if_true, if_false, Bool.false_eq_true, or_self, true_or, not_false_eq_true, Bool.not_true, Bool.not_false]
 by_cases f2 : 16 < qbn j.1
 ·simp only [c1, c2, u1, u2, f1, f2, decide_true, decide_false, if_true, if_false, Bool.false_eq_true, or_self, true_or, or_true, not_false_eq_true, Bool.not_true, Bool.not_false]
 by_cases f3 : 16 < qbn j.2
 ·simp only [c1, c2, u1, u2, f1, f2, f3, decide_true, decide_false, if_true, if_false, Bool.false_eq_true, or_self, true_or, or_true, not_false_eq_true, Bool.not_true, Bool.not_false]
 have b1 := Bool.eq_false_iff.2 u1
 have b2 := Bool.eq_false_iff.2 u2
 simp only [c1, c2, b1, b2, f1, f2, f3, decide_true, decide_false, if_true, if_false, Bool.false_eq_true, or_self, not_false_eq_true, Bool.not_true, Bool.not_false]
 cases lett j.1 <;> cases lett j.2 <;> cases rept j.1 <;> cases rept j.2 <;> rfl
def inW (g : Gr) (w : List UInt8) : Bool := decide (endsL g (upto g.2.1) w ≠ [])
def bitW (w : List UInt8) : Prop := ∀ c ∈ w, bitB c = true
theorem bitW_app {u v : List UInt8} : bitW (u ++ v) ↔ bitW u ∧ bitW v := by
 constructor
 ·exact fun h => ⟨fun c hc => h c (List.mem_append.2 (.inl hc)), fun c hc => h c (List.mem_append.2 (.inr hc))⟩
 ·intro h c hc
  rcases List.mem_append.1 hc with hc | hc
  ·exact h.1 c hc
  ·exact h.2 c hc
theorem bit_lets {g : Gr} (h2 : g.1 = 2) {c : UInt8} (h : bitB c = true) : c ∈ lets g := by
 have e : lets g = [48, 49] := by simp only [lets, h2]; decide
 rw [e]
 simpa [bitB] using h
theorem WOk_bit {g : Gr} (h2 : g.1 = 2) {w : List UInt8} (hb : bitW w) (hl : w.length ≤ 65536) : WOk g w := ⟨hl, fun c hc => bit_lets h2 (hb c hc)⟩
section
variable {g : Gr}
theorem accepts_eq (hv : VG g) (h2 : g.1 = 2) {w : List UInt8} (hb : bitW w) (hl : w.length ≤ 65536) : qbk g w = some (inW g w) := by
 unfold qbk
 rw [Accepts_eq hv (by omega) (WOk_bit h2 hb hl)]
 rfl
theorem refaccepts_eq (hv : VG g) (h2 : g.1 = 2) {w : List UInt8} (hb : bitW w) (hl : w.length ≤ 65536) : m_ref31_accepts g w = some (inW g w) := by
 unfold m_ref31_accepts
 obtain ⟨r, h1, h2'⟩ := Accepts_both g w
 rw [Accepts_eq hv (by omega) (WOk_bit h2 hb hl)] at h1
 cases h1
 rw [h2']
 rfl
structure FormOk (j : Jn) : Prop where
 ne1 : j.1 ≠ []
 ne2 : j.2 ≠ []
 l1 : j.1.length ≤ 256
 l2 : j.2.length ≤ 256
 n : ∀ w ∈ j.1, w.length = qbn j.1
 r : ∀ w ∈ j.2, w.length = qbn j.2
 n1 : 1 ≤ qbn j.1
 n16 : qbn j.1 ≤ 16
 r16 : qbn j.2 ≤ 16
 b1 : ∀ w ∈ j.1, bitW w
 b2 : ∀ w ∈ j.2, bitW w
 d1 : j.1.Nodup
 d2 : j.2.Nodup
theorem unev_iff {l : List (List UInt8)} : unev l = true ↔ ¬ ∀ w ∈ l, w.length = qbn l := by
 simp [unev]
theorem lett_iff {l : List (List UInt8)} : lett l = true ↔ ¬ ∀ w ∈ l, bitW w := by
 simp [lett, bitW]
theorem rept_iff {l : List (List UInt8)} : rept l = true ↔ ¬ l.Nodup := by
 simp [rept]
theorem formE_zero {j : Jn} (h : formE j = 0) : FormOk j := by
 unfold formE at h
 split at h
 ·cases h
 rename_i h1
 split at h
 ·cases h
 rename_i h2
 split at h
 ·cases h
 rename_i h3
 split at h
 ·cases h
 rename_i h4
 split at h
 ·cases h
 rename_i h5
 split at h
 ·cases h
 rename_i h6
 simp only [unev_iff, lett_iff, rept_iff, not_or, Classical.not_not] at h1 h2 h3 h4 h5 h6
 exact ⟨h1.1, h1.2, by omega, by omega, h3.1, h3.2, by omega, by omega, by omega, h5.1, h5.2, h6.1, h6.2⟩
theorem FormOk.sm {j : Jn} (h : FormOk j) : SmJ j := by
 have := h.l1; have := h.l2; have := h.n16; have := h.r16
 exact ⟨⟨by omega, fun w hw => by rw [h.n w hw]; omega⟩, ⟨by omega, fun w hw => by rw [h.r w hw]; omega⟩⟩
def qbh (g : Gr) (ms : List (List UInt8)) (a b : List UInt8) : Bool := ms.any fun m => inW g (a ++ m ++ b)
theorem joins1_eq (hv : VG g) (h2 : g.1 = 2) {a m b : List UInt8} (ha : bitW a) (hm : bitW m) (hb : bitW b) (la : a.length ≤ 16) (lm : m.length ≤ 16) (lb : b.length ≤ 16) : m_merging_joins_1 m g a b = some (inW g (a ++ m ++ b)) := by
 unfold m_merging_joins_1
 rw [if_pos (by simp only [maxLen]; omega), if_pos (by simp only [maxLen, List.length_append]; omega), accepts_eq hv h2 (bitW_app.2 ⟨bitW_app.2 ⟨ha, hm⟩, hb⟩) (by simp only [List.length_append]; omega)]
 rfl
theorem joins_eq (hv : VG g) (h2 : g.1 = 2) {j : Jn} (hj : FormOk j) {a b : List UInt8} (ha : a ∈ j.1) (hb : b ∈ j.1) : qa3 g j.2 a b = some (qbh g j.2 a b) := by
 unfold qa3
 have := hj.l2
 rw [ContainsFuncS (fun m => inW g (a ++ m ++ b)) (by omega) fun m hm => joins1_eq hv h2 (hj.b1 a ha) (hj.b2 m hm) (hj.b1 b hb) (by rw [hj.n a ha]; exact hj.n16) (by rw [hj.r m hm]; exact hj.r16) (by rw [hj.n b hb]; exact hj.n16)]
 rfl
def badW (g : Gr) (j : Jn) : Bool := j.1.any fun w => !inW g w
def badP (g : Gr) (j : Jn) : Bool := j.1.any fun a => j.1.any fun b => !qbh g j.2 a b
open Classical in
noncomputable def checkE (j : Jn) (g : Gr) : Int :=
 if ¬ VG g then 1 else if g.1 ≠ 2 then 12 else if formE j ≠ 0 then formE j else if badW g j = true then 13 else if badP g j = true then 15 else 0
theorem Check31_eq {j : Jn} (hs : SmJ j) : m_merging_Check j g = some (checkE j g) := by
 unfold m_merging_Check checkE
 rw [Check_ref]
 obtain ⟨e, he, hv⟩ := Check_tot g
 rw [he]
 simp only [Option.bind_some]
 by_cases h0 : e = 0
 ·have hvg := hv.1 h0
  rw [if_neg (show ¬ (e ≠ 0) from fun h => h h0), if_neg (show ¬ ¬ VG g from fun h => h hvg)]
  by_cases h2 : g.1 = 2
  ·rw [if_neg (show ¬ (g.1 ≠ 2) from fun h => h h2), if_neg (show ¬ (g.1 ≠ 2) from fun h => h h2), form_eq hs]
   simp only [Option.bind_some]
   by_cases hf : formE j = 0
   ·rw [if_neg (show ¬ (formE j ≠ 0) from fun h => h hf), if_neg (show ¬ (formE j ≠ 0) from fun h => h hf)]
    have hj := formE_zero hf
    have h256 := hj.l1
    have hm : j.1.length ≤ 9223372036854775807 := by omega
    rw [ContainsFuncS (fun w => !inW g w) hm fun w hw => by
     unfold m_merging_Check_1
     rw [accepts_eq hvg h2 (hj.b1 w hw) (by rw [hj.n w hw]; have := hj.n16; omega)]
     rfl]
    simp only [Option.bind_some, show (j.1.any fun w => !inW g w) = badW g j from rfl]
    by_cases hw : badW g j = true
    ·rw [if_pos hw, if_pos hw]
    ·rw [if_neg hw, if_neg hw]
     refine lpE (loop_anyL (fun i => (i : Int)) j.1 (fun a => j.1.any fun b => !qbh g j.2 a b) (Ou.ret 15) (Ou.go ()) (fun i hi => ?_) (by rw [if_neg (qaw _)]) rfl) ?_
     ·rw [if_pos (qbt hi), ix hi]
      simp only [Option.bind_some]
      refine lpE (loop_anyL (fun k => (k : Int)) j.1 (fun b => !qbh g j.2 j.1[i] b) (Ou.ret 15) (Ou.go ()) (fun k hk => ?_) (by rw [if_neg (qaw _)]) rfl) ?_
      ·rw [if_pos (qbt hk), ix hk]
       simp only [Option.bind_some, joins_eq hvg h2 hj (List.getElem_mem hi) (List.getElem_mem hk), nx hm hk]
      ·split
       ·rename_i h; simp only [h, if_true, lpO]
       ·rename_i h; simp only [h, if_false, lpO, nx hm hi, Bool.false_eq_true]
     ·unfold badP
      split
      ·rename_i h; simp only [lpO, h, if_true]
      ·rename_i h; simp only [lpO, h, if_false, Bool.false_eq_true]
   ·rw [if_pos (show formE j ≠ 0 from hf), if_pos (show formE j ≠ 0 from hf)]
  ·rw [if_pos (show g.1 ≠ 2 from h2), if_pos (show g.1 ≠ 2 from h2)]
 ·have hvg : ¬ VG g := fun h => h0 (hv.2 h)
  rw [if_pos (show e ≠ 0 from h0), if_pos (show ¬ VG g from hvg)]
structure VJ (j : Jn) (g : Gr) : Prop where
 hv : VG g
 h2 : g.1 = 2
 f : FormOk j
 w : ∀ x ∈ j.1, inW g x = true
 p : ∀ a ∈ j.1, ∀ b ∈ j.1, qbh g j.2 a b = true
theorem checkE_zero {j : Jn} (h : checkE j g = 0) : VJ j g := by
 unfold checkE at h
 split at h
 ·cases h
 rename_i h1
 split at h
 ·cases h
 rename_i h2
 split at h
 ·rename_i h3; exact absurd h h3
 rename_i h3
 split at h
 ·cases h
 rename_i h4
 split at h
 ·cases h
 rename_i h5
 simp only [Classical.not_not] at h1 h2 h3
 refine ⟨h1, h2, formE_zero h3, fun x hx => ?_, fun a ha b hb => ?_⟩
 ·simp only [badW, List.any_eq_true, not_exists, not_and] at h4
  have := h4 x hx
  simpa using this
 ·simp only [badP, List.any_eq_true, not_exists, not_and] at h5
  have := h5 a ha b hb
  simpa using this
structure JSize (j : Jn) : Prop where
 sm : SmJ j
 w : j.1.length ≤ 6 ∨ 256 < j.1.length
 m : j.2.length ≤ 8 ∨ 256 < j.2.length
 lw : ∀ w ∈ j.1, w.length ≤ 8 ∨ 16 < w.length
 lm : ∀ w ∈ j.2, w.length ≤ 8 ∨ 16 < w.length
structure VS (j : Jn) (g : Gr) : Prop extends VJ j g where
 w6 : j.1.length ≤ 6
 m8 : j.2.length ≤ 8
 n8 : qbn j.1 ≤ 8
 r8 : qbn j.2 ≤ 8
 g8 : g.2.1 ≤ 8
 e30 : g.2.2.length ≤ 30
theorem fst_mem {l : List (List UInt8)} (h : l ≠ []) : l.headD [] ∈ l := by
 cases l with
 | nil => exact absurd rfl h
 | cons a l => exact List.mem_cons_self ..
theorem FormOk.small {j : Jn} (h : FormOk j) (hs : JSize j) : j.1.length ≤ 6 ∧ j.2.length ≤ 8 ∧ qbn j.1 ≤ 8 ∧ qbn j.2 ≤ 8 := by
 have := h.l1; have := h.l2; have := h.n16; have := h.r16
 have h1 := hs.w
 have h2 := hs.m
 have h3 := hs.lw _ (fst_mem h.ne1)
 have h4 := hs.lm _ (fst_mem h.ne2)
 rw [hdl] at h3 h4
 omega
end
end Go.AW
namespace Go.AW
open Go
theorem IndexFuncI {l : List Int} {p : Int → Option Bool} (P : Int → Bool) (hm : l.length ≤ 9223372036854775807) (hp : ∀ x ∈ l, p x = some (P x)) : qaY l p = some (firstI l P) := by
 unfold qaY
 refine lpE (loop_findL (fun i => (i : Int)) l P (fun i => Ou.ret (i : Int)) (Ou.go ()) (fun i hi => ?_) (by rw [if_neg (qaw _)]) rfl) ?_
 ·rw [if_pos (qbt hi), ix hi]
  simp only [Option.bind_some, hp _ (List.getElem_mem hi), nx hm hi]
 ·unfold firstI
  split <;> rfl
theorem ContainsFuncI {l : List Int} {p : Int → Option Bool} (P : Int → Bool) (hm : l.length ≤ 9223372036854775807) (hp : ∀ x ∈ l, p x = some (P x)) : qaV l p = some (l.any P) := by
 unfold qaV
 rw [IndexFuncI P hm hp]
 simp only [Option.bind_some, firstI_nn, Bool.decide_eq_true]
def badI (j : Jn) (n : Int) : Bool := decide (n < 0 ∨ (j.1.length : Int) ≤ n)
noncomputable def inpE (j : Jn) (g : Gr) (l : List Int) : Int := if checkE j g ≠ 0 then 1 else if l.any (badI j) = true then 2 else 0
theorem inputs_eq {j : Jn} {g : Gr} {l : List Int} (hs : SmJ j) (hm : l.length ≤ 9223372036854775807) : m_merging_inputs j g l = some (inpE j g l) := by
 unfold m_merging_inputs inpE
 rw [Check31_eq hs]
 simp only [Option.bind_some]
 by_cases hc : checkE j g = 0
 ·rw [if_neg (show ¬ (checkE j g ≠ 0) from fun h => h hc), if_neg (show ¬ (checkE j g ≠ 0) from fun h => h hc), ContainsFuncI (badI j) hm fun n _ => ?_]
  ·simp only [Option.bind_some]
   split <;> rfl
  ·unfold m_merging_inputs_1 badI
   simp only [jp]
   by_cases h0 : n < 0
   ·rw [if_pos h0, decide_eq_true (.inl h0)]
   ·rw [if_neg h0]; congr 1; exact decide_eq_decide.2 (by omega)
 ·rw [if_pos (show checkE j g ≠ 0 from hc), if_pos (show checkE j g ≠ 0 from hc)]
def wd (j : Jn) (n : Int) : List UInt8 := j.1.getD n.toNat []
theorem badI_no {j : Jn} {n : Int} (h : ¬ badI j n = true) : 0 ≤ n ∧ n.toNat < j.1.length := by
 simp only [badI, decide_eq_true_eq] at h
 omega
theorem wd_idx {j : Jn} {n : Int} (h : 0 ≤ n ∧ n.toNat < j.1.length) : idx j.1 n = some (wd j n) := by
 obtain ⟨k, rfl⟩ := Int.eq_ofNat_of_zero_le h.1
 rw [ix (show k < j.1.length by simpa using h.2)]
 simp [wd, List.getD_eq_getElem?_getD, List.getElem?_eq_getElem (show k < j.1.length by simpa using h.2)]
theorem wd_mem {j : Jn} {n : Int} (h : 0 ≤ n ∧ n.toNat < j.1.length) : wd j n ∈ j.1 := by
 simp only [wd, List.getD_eq_getElem?_getD, List.getElem?_eq_getElem h.2, Option.getD_some]
 exact List.getElem_mem h.2
def allowL (g : Gr) (ms : List (List UInt8)) (a b : List UInt8) (k : Nat) : List Int := ((List.range k).filter fun i => inW g (a ++ ms.getD i [] ++ b)).map Int.ofNat
theorem allowL_succ (g : Gr) (ms : List (List UInt8)) (a b : List UInt8) (k : Nat) : allowL g ms a b (k + 1) = allowL g ms a b k ++ if inW g (a ++ ms.getD k [] ++ b) = true then [(k : Int)] else [] := by
 unfold allowL
 rw [List.range_succ, List.filter_append, List.map_append]
 congr 1
 by_cases h : inW g (a ++ ms.getD k [] ++ b) = true
 ·rw [if_pos h, List.filter_cons_of_pos (p := fun i => inW g (a ++ ms.getD i [] ++ b)) h]; rfl
 ·rw [if_neg h, List.filter_cons_of_neg (p := fun i => inW g (a ++ ms.getD i [] ++ b)) h]; rfl
theorem allowL_len (g : Gr) (ms : List (List UInt8)) (a b : List UInt8) (k : Nat) : (allowL g ms a b k).length ≤ k := by
 unfold allowL
 rw [List.length_map]
 exact Nat.le_trans (List.length_filter_le _ _) (by simp)
noncomputable def mergesE (j : Jn) (g : Gr) (a b : Int) : List Int × Int := if inpE j g [a, b] ≠ 0 then ([], inpE j g [a, b]) else (allowL g j.2 (wd j a) (wd j b) j.2.length, 0)
section
variable {g : Gr}
theorem inp_zero {j : Jn} {l : List Int} (h : inpE j g l = 0) : VJ j g ∧ ∀ n ∈ l, 0 ≤ n ∧ n.toNat < j.1.length := by
 unfold inpE at h
 split at h
 ·cases h
 rename_i h1
 split at h
 ·cases h
 rename_i h2
 refine ⟨checkE_zero (Classical.not_not.1 h1), fun n hn => badI_no fun hb => h2 (List.any_eq_true.2 ⟨n, hn, hb⟩)⟩
theorem word_ok {j : Jn} (hj : FormOk j) {a : List UInt8} (ha : a ∈ j.1) : bitW a ∧ a.length ≤ 16 := ⟨hj.b1 a ha, by rw [hj.n a ha]; exact hj.n16⟩
theorem merge_ok {j : Jn} (hj : FormOk j) {a : List UInt8} (ha : a ∈ j.2) : bitW a ∧ a.length ≤ 16 := ⟨hj.b2 a ha, by rw [hj.r a ha]; exact hj.r16⟩
theorem getD_get {α : Type} {l : List α} {i : Nat} (h : i < l.length) (d : α) : l.getD i d = l[i] := by simp [List.getD_eq_getElem?_getD, List.getElem?_eq_getElem h]
theorem Merges_eq {j : Jn} (hs : SmJ j) (a b : Int) : qbf j g a b = some (mergesE j g a b) := by
 unfold qbf mergesE
 rw [inputs_eq hs (by simp)]
 simp only [Option.bind_some]
 by_cases h : inpE j g [a, b] = 0
 ·rw [if_neg (show ¬ (inpE j g [a, b] ≠ 0) from fun e => e h), if_neg (show ¬ (inpE j g [a, b] ≠ 0) from fun e => e h)]
  obtain ⟨hj, hab⟩ := inp_zero h
  have ha := hab a (List.mem_cons_self ..)
  have hb := hab b (List.mem_cons_of_mem _ (List.mem_cons_self ..))
  have wa := word_ok hj.f (wd_mem ha)
  have wb := word_ok hj.f (wd_mem hb)
  have hl := hj.f.l2
  refine bindL (loop_is (fun i => ((i : Int), allowL g j.2 (wd j a) (wd j b) i)) j.2.length (allowL g j.2 (wd j a) (wd j b) j.2.length) (fun i hi => ?_) (by simp only; rw [if_neg (qaw _)]) rfl) rfl
  have wm := merge_ok hj.f (List.getElem_mem hi)
  simp only [jp]
  rw [if_pos (qbt hi), ix hi, wd_idx ha, wd_idx hb]
  simp only [Option.bind_some]
  rw [if_pos (by simp only [maxLen]; omega), if_pos (by simp only [maxLen, List.length_append]; omega), accepts_eq hj.hv hj.h2 (bitW_app.2 ⟨bitW_app.2 ⟨wa.1, wm.1⟩, wb.1⟩) (by simp only [List.length_append]; omega)]
  simp only [Option.bind_some, allowL_succ, getD_get hi, nx (show j.2.length ≤ 9223372036854775807 by omega) hi]
  have hlen := allowL_len g j.2 (wd j a) (wd j b) i
  by_cases hw : inW g (wd j a ++ j.2[i] ++ wd j b) = true
  ·rw [if_pos hw, if_pos hw, if_pos (fits_le (by simp only [List.length_singleton]; omega) (by simp only [List.length_singleton]; omega))]
  ·rw [if_neg hw, if_neg hw, List.append_nil]
 ·rw [if_pos (show inpE j g [a, b] ≠ 0 from h), if_pos (show inpE j g [a, b] ≠ 0 from h)]
end
end Go.AW
namespace Go.AW
open Go
theorem hdl2 (l : List (List UInt8)) : (l.headD []).length = qbn l := id rfl
def sub (w : List UInt8) (a l : Nat) : List UInt8 := (w.drop a).take l
def disp (w : List UInt8) : Int := 2 * ((w.count 49 : Nat) : Int) - (w.length : Int)
theorem Disparity_eq {w : List UInt8} (hb : bitW w) (hl : w.length ≤ 65536) : m_runs_Disparity w = some (disp w, 0) := by
 unfold m_runs_Disparity
 obtain ⟨e, he, hz⟩ := wcheck 2 w
 have : e = 0 := hz.2 ⟨by omega, hl, fun c hc => by
  have := hb c hc
  have e2 : letters.take (2 : Int).toNat = [48, 49] := by decide
  rw [e2]
  simpa [bitB] using this⟩
 rw [he, this]
 have hc := List.count_le_length (a := (49 : UInt8)) (l := w)
 simp only [Option.bind_some, m_strings_Count, Lib.countByte]
 rw [if_neg (show ¬ ((0 : Int) ≠ 0) from fun h => h rfl), w64 (n := 2 * ((w.count 49 : Nat) : Int)) (by omega) (by omega), w64 (by omega) (by omega)]
 rfl
theorem weight_eq {w : List UInt8} (hb : bitW w) (hl : w.length ≤ 65536) : qbe w = some (disp w) := by
 unfold qbe
 rw [Disparity_eq hb hl]
 rfl
section
variable {g : Gr}
theorem step31_eq (hv : VG g) (h2 : g.1 = 2) {a : List Int} (ha : SetOk g a) {w : List UInt8} (hb : bitW w) (hl : w.length ≤ 65536) : m_merging_step g a w = some (endsL g a w) := by
 unfold m_merging_step
 refine bindL (loop_is (fun i => (endsL g a (w.take i), (i : Int))) w.length (endsL g a w) (fun i hi => ?_) (by simp only; rw [if_neg (qaw _), List.take_length]) rfl) rfl
 simp only
 have hc := bit_lets h2 (hb _ (List.getElem_mem hi))
 obtain ⟨k, hk, hk1, hk2, hk3⟩ := lab_mem hc
 rw [if_pos (qbt hi), ix hi]
 simp only [Option.bind_some, qaK]
 have e : Lib.indexByte [48, 49, 50, 51, 52, 53, 54, 55, 56, 57, 97, 98, 99, 100, 101, 102] (w[i].toNat : Int).toNat.toUInt8 = lab w[i] := by
  rw [Int.toNat_natCast]
  simp [lab, letters]
 rw [e, Step_eq hv (endsL_ok ha _) (by omega) (by omega)]
 simp only [Option.bind_some, nx (show w.length ≤ 9223372036854775807 by omega) hi]
 rw [← List.take_append_getElem hi, endsL_app]
 rfl
end
end Go.AW
namespace Go.AW
open Go
def scoreM (g : Gr) (set : List Int) (sum : Int) (x m : List UInt8) : Int × Bool := (max (sum + disp (m ++ x)) (-(sum + disp (m ++ x))), decide (endsL g set (m ++ x) ≠ []))
def bestStep (g : Gr) (set : List Int) (sum : Int) (x : List UInt8) (a : List UInt8 × Int × Bool) (m : List UInt8) : List UInt8 × Int × Bool :=
 if (scoreM g set sum x m).2 = true ∧ (a.2.2 = false ∨ (scoreM g set sum x m).1 < a.2.1) then (m, (scoreM g set sum x m).1, true) else a
def bestF (g : Gr) (set : List Int) (sum : Int) (x : List UInt8) (ms : List (List UInt8)) : List UInt8 × Int × Bool := ms.foldl (bestStep g set sum x) ([], 0, false)
theorem disp_le {w : List UInt8} : -(w.length : Int) ≤ disp w ∧ disp w ≤ w.length := by
 have := List.count_le_length (a := (49 : UInt8)) (l := w)
 unfold disp
 omega
section
variable {g : Gr}
theorem best_loop {j : Jn} (hj : VJ j g) {set : List Int} (hset : SetOk g set) {sum : Int} (hsum : -1000000 ≤ sum ∧ sum ≤ 1000000) {n : Int} (hn : 0 ≤ n ∧ n.toNat < j.1.length) :
    loopW (S := (List UInt8) × Int × Bool × Int) (X := (List UInt8) × Bool) (fun a52 =>
                   if a52.2.2.2 < ((j.2).length : Int) then
                    jp (fun (a56 : (List UInt8) × Int × Bool) =>
                      some (Stp.next (a56.1, a56.2.1, a56.2.2, IntKind.wrap .i64 (a52.2.2.2 + 1))))
                      fun k58 =>
                     (idx j.2 a52.2.2.2).bind fun x59 =>
                     jp (fun (a61 : Int × Bool) =>
                       jp (fun (a64 : Bool) =>
                         if a64 = true then
                          k58 (x59, a61.1, true)
                         else
                          k58 (a52.1, a52.2.1, a52.2.2.1))
                         fun k66 =>
                        if a61.2 = true then
                         if (!a52.2.2.1) = true then
                          k66 true
                         else
                          k66 (decide (a61.1 < a52.2.1))
                        else
                         k66 false)
                       fun k63 =>
                      (idx j.1 n).bind fun x69 =>
                      if x59.length + x69.length ≤ maxLen then
                       (qbe (x59 ++ x69)).bind fun x72 =>
                       (idx j.1 n).bind fun x74 =>
                       if x59.length + x74.length ≤ maxLen then
                        (m_merging_step g set (x59 ++ x74)).bind fun x77 =>
                        k63 (max (IntKind.wrap .i64 (sum + x72)) (IntKind.wrap .i64 (0 - (IntKind.wrap .i64 (sum + x72)))), decide (0 < ((x77).length : Int)))
                       else none
                      else none
                   else
                    some (Stp.exit (a52.1, a52.2.2.1))) (([] : List UInt8), 0, false, 0) = some ((bestF g set sum (wd j n) j.2).1, (bestF g set sum (wd j n) j.2).2.2) := by
  have hl := hj.f.l2
  have wx := word_ok hj.f (wd_mem hn)
  have key : ∀ k, k ≤ j.2.length → True := fun _ _ => trivial
  refine loop_is (fun i => ((bestF g set sum (wd j n) (j.2.take i)).1, (bestF g set sum (wd j n) (j.2.take i)).2.1, (bestF g set sum (wd j n) (j.2.take i)).2.2, (i : Int))) j.2.length _ (fun i hi => ?_) (by simp only; rw [if_neg (qaw _), List.take_length]) rfl
  have wm := merge_ok hj.f (List.getElem_mem hi)
  have hbw : bitW (j.2[i] ++ wd j n) := bitW_app.2 ⟨wm.1, wx.1⟩
  have hlw : (j.2[i] ++ wd j n).length ≤ 32 := by simp only [List.length_append]; omega
  have hd := disp_le (w := j.2[i] ++ wd j n)
  simp only [jp]
  rw [if_pos (qbt hi), ix hi, wd_idx hn]
  simp only [Option.bind_some]
  rw [if_pos (by simp only [maxLen]; omega), weight_eq hbw (by omega)]
  simp only [Option.bind_some]
  rw [if_pos (by simp only [maxLen]; omega), step31_eq hj.hv hj.h2 hset hbw (by omega)]
  simp only [Option.bind_some, nx (show j.2.length ≤ 9223372036854775807 by omega) hi]
  have w1 : IntKind.wrap .i64 (sum + disp (j.2[i] ++ wd j n)) = sum + disp (j.2[i] ++ wd j n) := w64 (by omega) (by omega)
  have w2 : IntKind.wrap .i64 (0 - (sum + disp (j.2[i] ++ wd j n))) = -(sum + disp (j.2[i] ++ wd j n)) := by rw [w64 (by omega) (by omega)]; omega
  simp only [w1, w2]
  have es : bestF g set sum (wd j n) (j.2.take (i + 1)) = bestStep g set sum (wd j n) (bestF g set sum (wd j n) (j.2.take i)) j.2[i] := by
    unfold bestF
    rw [← List.take_append_getElem hi, List.foldl_append]
    rfl
  rw [es]
  generalize bestF g set sum (wd j n) (j.2.take i) = A
  have hne : (0 < ((endsL g set (j.2[i] ++ wd j n)).length : Int)) ↔ endsL g set (j.2[i] ++ wd j n) ≠ [] := by
    rw [← List.length_pos_iff]; omega
  unfold bestStep scoreM
  simp only [hne, decide_eq_true_eq]
  by_cases h1 : endsL g set (j.2[i] ++ wd j n) ≠ []
  · rw [if_pos h1]
    cases h2 : A.2.2 with
    | false => simp [h1, h2]
    | true =>
      by_cases h3 : max (sum + disp (j.2[i] ++ wd j n)) (-(sum + disp (j.2[i] ++ wd j n))) < A.2.1 <;> simp [h1, h2, h3]
  · rw [if_neg h1]
    simp [h1]
end
end Go.AW
namespace Go.AW
open Go
def encG (j : Jn) (g : Gr) : List Int → List UInt8 → Int → List Int → List UInt8 × Int
 | _, b, _, [] => (b, 0)
 | set, b, sum, x :: xs =>
  if (bestF g set sum (wd j x) j.2).2.2 = true then encG j g (endsL g set ((bestF g set sum (wd j x) j.2).1 ++ wd j x)) (b ++ ((bestF g set sum (wd j x) j.2).1 ++ wd j x)) (sum + disp ((bestF g set sum (wd j x) j.2).1 ++ wd j x)) xs
  else ([], 13)
noncomputable def encE (j : Jn) (g : Gr) (l : List Int) : List UInt8 × Int :=
 if inpE j g l ≠ 0 then ([], inpE j g l) else match l with
  | [] => ([], 0)
  | x :: xs => encG j g (endsL g (upto g.2.1) (wd j x)) (wd j x) (disp (wd j x)) xs
theorem bestF_mem (g : Gr) (set : List Int) (sum : Int) (x : List UInt8) : ∀ (ms : List (List UInt8)) (a : List UInt8 × Int × Bool), (ms.foldl (bestStep g set sum x) a).1 = a.1 ∨ (ms.foldl (bestStep g set sum x) a).1 ∈ ms
 | [], a => .inl rfl
 | m :: ms, a => by
  rw [List.foldl_cons]
  rcases bestF_mem g set sum x ms (bestStep g set sum x a m) with h | h
  ·rw [h]
   unfold bestStep
   split
   ·exact .inr (List.mem_cons_self ..)
   ·exact .inl rfl
  ·exact .inr (List.mem_cons_of_mem _ h)
theorem best_ok {j : Jn} {g : Gr} (hj : FormOk j) (set : List Int) (sum : Int) (x : List UInt8) : bitW (bestF g set sum x j.2).1 ∧ (bestF g set sum x j.2).1.length ≤ 16 := by
 rcases bestF_mem g set sum x j.2 ([], 0, false) with h | h
 ·unfold bestF
  rw [h]
  exact ⟨(fun _ h => by cases h), by simp⟩
 ·exact merge_ok hj h
def runF {σ α X : Type} (F : σ → α → Option σ) (fin : σ → X) (xr : X) : List α → σ → X
 | [], s => fin s
 | x :: xs, s => match F s x with
  | some s' => runF F fin xr xs s'
  | none => xr
theorem loop_run {S X σ α : Type} {body : S → Option (Stp S X)} (st : Nat → σ → S) (xs : List α) (F : σ → α → Option σ) (fin : σ → X) (xr : X) (P : Nat → σ → Prop)
  (h : ∀ i s (hi : i < xs.length), P i s → body (st i s) = (match F s xs[i] with | some s' => some (.next (st (i + 1) s')) | none => some (.exit xr)) ∧ ∀ s', F s xs[i] = some s' → P (i + 1) s')
  (hf : ∀ s, P xs.length s → body (st xs.length s) = some (.exit (fin s))) {s0 : σ} (h0 : P 0 s0) : loopW body (st 0 s0) = some (runF F fin xr xs s0) := by
 have : ∀ d i s, i + d = xs.length → P i s → loopW body (st i s) = some (runF F fin xr (xs.drop i) s) := by
  intro d
  induction d with
  | zero =>
   intro i s hi hP
   have e : i = xs.length := by omega
   subst e
   rw [loopW_exit (hf s hP), List.drop_length]
   rfl
  | succ d ih =>
   intro i s hi hP
   have hi' : i < xs.length := by omega
   obtain ⟨h1, h2⟩ := h i s hi' hP
   rw [List.drop_eq_getElem_cons hi']
   unfold runF
   cases hF : F s xs[i] with
   | none => rw [hF] at h1; rw [loopW_exit h1]
   | some s' => rw [hF] at h1; rw [loopW_next h1]; exact ih (i + 1) s' (by omega) (h2 s' hF)
 exact this xs.length 0 s0 (by omega) h0
def encS (j : Jn) (g : Gr) (s : List Int × List UInt8 × Int) (x : Int) : Option (List Int × List UInt8 × Int) :=
 if (bestF g s.1 s.2.2 (wd j x) j.2).2.2 = true then some (endsL g s.1 ((bestF g s.1 s.2.2 (wd j x) j.2).1 ++ wd j x), s.2.1 ++ ((bestF g s.1 s.2.2 (wd j x) j.2).1 ++ wd j x), s.2.2 + disp ((bestF g s.1 s.2.2 (wd j x) j.2).1 ++ wd j x)) else none
def unOu (x : Ou (List UInt8) (List UInt8 × Int)) : List UInt8 × Int := match x with
 | .go v => (v, 0)
 | .ret r => r
theorem encG_run (j : Jn) (g : Gr) : ∀ (xs : List Int) (s : List Int × List UInt8 × Int), unOu (runF (encS j g) (fun s => Ou.go s.2.1) (Ou.ret ([], 13)) xs s) = encG j g s.1 s.2.1 s.2.2 xs
 | [], s => rfl
 | x :: xs, s => by
  unfold runF encG encS
  by_cases h : (bestF g s.1 s.2.2 (wd j x) j.2).2.2 = true
  ·simp only [if_pos h]
   exact encG_run j g xs _
  ·simp only [if_neg h]
   rfl
theorem Encode_eq {j : Jn} {g : Gr} (hs : SmJ j) {l : List Int} (hl : l.length ≤ 8) : m_merging_Encode j g l = some (encE j g l) := by
 unfold m_merging_Encode encE
 rw [inputs_eq hs (by omega)]
 simp only [Option.bind_some]
 by_cases h : inpE j g l ≠ 0
 ·rw [if_pos h, if_pos h]
 rw [if_neg h, if_neg h]
 obtain ⟨hj, hx⟩ := inp_zero (Classical.not_not.1 h)
 cases l with
 | nil => rfl
 | cons x xs =>
  have n1 := hj.f.n1
  have n16 := hj.f.n16
  have r16 := hj.f.r16
  have hx0 := hx x (List.mem_cons_self ..)
  have wx := word_ok hj.f (wd_mem hx0)
  rw [if_neg (show ¬ (((x :: xs).length : Int) = 0) by simp only [List.length_cons]; omega), idx0 hj.f.ne1, idx0 hj.f.ne2]
  simp only [Option.bind_some, hdl2]
  have e1 : IntKind.wrap .i64 (((qbn j.1 : Nat) : Int) + ((qbn j.2 : Nat) : Int)) = ((qbn j.1 + qbn j.2 : Nat) : Int) := by rw [w64 (by omega) (by omega)]; omega
  have e2 : IntKind.wrap .i64 (65536 + ((qbn j.2 : Nat) : Int)) = ((65536 + qbn j.2 : Nat) : Int) := by rw [w64 (by omega) (by omega)]; omega
  have hq : 8 ≤ (65536 + qbn j.2) / (qbn j.1 + qbn j.2) := by
   rw [Nat.le_div_iff_mul_le (by omega)]; omega
  have hq2 : (65536 + qbn j.2) / (qbn j.1 + qbn j.2) ≤ 65552 := Nat.le_trans (Nat.div_le_self _ _) (by omega)
  simp only [e1, e2, ← Int.ofNat_tdiv]
  rw [if_pos (show ((qbn j.1 + qbn j.2 : Nat) : Int) ≠ 0 by omega), w64 (by omega) (by omega), if_neg (by omega)]
  have s0 := hj.hv.s0
  have s1 := hj.hv.s1
  rw [if_pos ⟨s0, by omega, by omega⟩]
  refine bindL (x := upto g.2.1) ?_ ?_
  ·have := states_eq hj.hv
   unfold qbl at this
   rw [if_pos ⟨s0, by omega, by omega⟩] at this
   obtain ⟨y, hy, hz⟩ := bS this
   cases hz
   exact hy
  ·have ei : idx (x :: xs) 0 = some x := rfl
   rw [ei]
   simp only [Option.bind_some, wd_idx hx0, jp]
   have hd := disp_le (w := wd j x)
   rw [if_pos ⟨by simp only [List.length_nil]; omega, by simp only [List.length_nil, maxLen]; omega⟩, weight_eq wx.1 (by omega), Option.bind_some, step31_eq hj.hv hj.h2 (upto_ok g) wx.1 (by omega)]
   simp only [Option.bind_some]
   rw [if_pos ⟨by omega, by simp only [List.length_cons]; omega, by omega⟩]
   have et : ((x :: xs).take (((x :: xs).length : Int)).toNat).drop (1 : Int).toNat = xs := by
    rw [Int.toNat_natCast, List.take_length]; rfl
   simp only [et, List.nil_append, Int.zero_add, w64 (n := disp (wd j x)) (by omega) (by omega)]
   refine lpE (x := runF (encS j g) (fun s => Ou.go s.2.1) (Ou.ret ([], 13)) xs (endsL g (upto g.2.1) (wd j x), wd j x, disp (wd j x))) ?_ ?_
   ·refine loop_run (s0 := (endsL g (upto g.2.1) (wd j x), wd j x, disp (wd j x))) (fun i (s : List Int × List UInt8 × Int) => ((i : Int), s.1, s.2.1, s.2.2)) xs (encS j g) (fun s => Ou.go s.2.1) (Ou.ret ([], 13)) (fun i s => SetOk g s.1 ∧ s.2.1.length ≤ 32 * (i + 1) ∧ -(32 * (i + 1) : Int) ≤ s.2.2 ∧ s.2.2 ≤ 32 * (i + 1)) (fun i s hi hP => ?_) (fun s _ => ?_) ⟨endsL_ok (upto_ok g) _, by dsimp only; omega, by dsimp only; omega, by dsimp only; omega⟩
    ·obtain ⟨p1, p2, p3, p4⟩ := hP
     have hi8 : i < 8 := by simp only [List.length_cons] at hl; omega
     have hxi := hx xs[i] (List.mem_cons_of_mem _ (List.getElem_mem hi))
     have wi := word_ok hj.f (wd_mem hxi)
     have bo := best_ok (g := g) hj.f s.1 s.2.2 (wd j xs[i])
     have hb := best_loop hj p1 (sum := s.2.2) (by omega) hxi
     simp only [jp] at hb
     have hd2 := disp_le (w := (bestF g s.1 s.2.2 (wd j xs[i]) j.2).1 ++ wd j xs[i])
     have hlen : ((bestF g s.1 s.2.2 (wd j xs[i]) j.2).1 ++ wd j xs[i]).length ≤ 32 := by simp only [List.length_append]; omega
     have hbw : bitW ((bestF g s.1 s.2.2 (wd j xs[i]) j.2).1 ++ wd j xs[i]) := bitW_app.2 ⟨bo.1, wi.1⟩
     constructor
     ·simp only
      rw [if_pos (qbt hi), ix hi]
      simp only [Option.bind_some]
      rw [hb]
      simp only [Option.bind_some, encS]
      by_cases hf : (bestF g s.1 s.2.2 (wd j xs[i]) j.2).2.2 = true
      ·rw [if_neg (by simp [hf]), wd_idx hxi, if_pos hf]
       simp only [Option.bind_some]
       rw [if_pos (by simp only [maxLen]; omega), if_pos ⟨by omega, by simp only [maxLen]; omega⟩, weight_eq hbw (by omega), Option.bind_some, step31_eq hj.hv hj.h2 p1 hbw (by omega)]
       simp only [Option.bind_some]
       rw [w64 (n := s.2.2 + _) (by omega) (by omega), nx (show xs.length ≤ 9223372036854775807 by simp only [List.length_cons] at hl; omega) hi]
      ·rw [if_pos (by simp [hf]), if_neg hf]
     ·intro s' hs'
      unfold encS at hs'
      split at hs'
      ·cases hs'
       exact ⟨endsL_ok p1 _, by simp only [List.length_append] at hlen ⊢; omega, by simp only; omega, by simp only; omega⟩
      ·cases hs'
    ·simp only
     rw [if_neg (qaw _)]
   ·have := encG_run j g xs (endsL g (upto g.2.1) (wd j x), wd j x, disp (wd j x))
    rw [← this]
    unfold unOu
    split
    ·rename_i v hv; rw [hv]; rfl
    ·rename_i r hr; rw [hr]; rfl
def jEx : Jn := ([[48, 48], [48, 49], [49, 48]], [[48], [49]])
def gEx : Gr := (2, 2, [(0, 0, 0), (0, 1, 1), (1, 0, 0)])
theorem gEx_ok : VG gEx where
 l1 := by decide
 l2 := by decide
 s0 := by decide
 s1 := by decide
 el := by decide
 ed := by decide
 ord := fun i h => match i, h with
  | 0, _ => by show cmp3 ((0, 0, 0) : Int × Int × Int) (0, 1, 1) < 0; decide
  | 1, _ => by show cmp3 ((0, 1, 1) : Int × Int × Int) (1, 0, 0) < 0; decide
  | n + 2, h => absurd h (by show ¬ n + 2 + 1 < 3; omega)
theorem jEx_ok : VJ jEx gEx := ⟨gEx_ok, rfl, formE_zero (by decide +kernel), by decide +kernel, by decide +kernel⟩
theorem jEx_zero : checkE jEx gEx = 0 := by
 have h := jEx_ok
 unfold checkE
 rw [if_neg (fun e => e h.hv), if_neg (fun e => e h.h2), if_neg (by decide +kernel), if_neg (by decide +kernel), if_neg (by decide +kernel)]
theorem jEx_in {l : List Int} (hl : l.any (badI jEx) = false) : inpE jEx gEx l = 0 := by
 unfold inpE
 rw [if_neg (fun e => e jEx_zero), if_neg (by rw [hl]; decide)]
theorem awake31_eq : m_law31_awakeG = some true := by
 have hs := jEx_ok.f.sm
 unfold m_law31_awakeG m_law31_golden
 simp only [Option.bind_some]
 have m1 : mergesE jEx gEx 0 0 = ([0, 1], 0) := by
  unfold mergesE
  rw [if_neg (fun e => e (jEx_in (by decide)))]
  decide +kernel
 have m2 : mergesE jEx gEx 1 2 = ([0], 0) := by
  unfold mergesE
  rw [if_neg (fun e => e (jEx_in (by decide)))]
  decide +kernel
 have m3 : encE jEx gEx [0, 0] = ([48, 48, 49, 48, 48], 0) := by
  unfold encE
  rw [if_neg (fun e => e (jEx_in (by decide)))]
  decide +kernel
 have m4 : m_merging_Rate jEx = some (ratT 1 3, 0) := by
  unfold m_merging_Rate
  rw [form_eq hs]
  decide +kernel
 rw [show qbf ([[48, 48], [48, 49], [49, 48]], [[48], [49]]) (2, 2, [(0, 0, 0), (0, 1, 1), (1, 0, 0)]) 0 0 = some (mergesE jEx gEx 0 0) from Merges_eq hs 0 0, show qbf ([[48, 48], [48, 49], [49, 48]], [[48], [49]]) (2, 2, [(0, 0, 0), (0, 1, 1), (1, 0, 0)]) 1 2 = some (mergesE jEx gEx 1 2) from Merges_eq hs 1 2, show m_merging_Encode ([[48, 48], [48, 49], [49, 48]], [[48], [49]]) (2, 2, [(0, 0, 0), (0, 1, 1), (1, 0, 0)]) [0, 0] = some (encE jEx gEx [0, 0]) from Encode_eq hs (by decide), show m_merging_Rate ([[48, 48], [48, 49], [49, 48]], [[48], [49]]) = some (ratT 1 3, 0) from m4, m1, m2, m3]
 simp only [Option.bind_some, EqI_eq (show ([0, 1] : List Int).length ≤ 9223372036854775807 by decide), EqI_eq (show ([0] : List Int).length ≤ 9223372036854775807 by decide)]
 decide +kernel
end Go.AW
namespace Go.AW
open Go Go.Proofs
theorem w_law31_awake {r : Bool} (h : m_law31_awake = some r) : Pure Tryz.prog 13 [] (· = HV.bool r) := by
 cases h
 exact w_law31_awakeG awake31_eq
set_option maxHeartbeats 1600000
set_option maxRecDepth 100000
theorem w_ref11_Great {p0 : qaa} {r : Bool} (h : m_ref11_Great p0 = some r) : Pure Tryz.prog 45 [gA p0] (· = HV.bool r) := by
 unfold m_ref11_Great at h
 refine Pure.of_body Tryz.func45 rfl rfl (lb rfl) fun hf => ?_
 unfold Tryz.f45
 dsimp only [qaG, Nat.reduceAdd]
 refine AW.rgs rfl fun K hK => b_op rfl (o_box rfl rfl rfl ?_)
 refine mv rfl rfl ?_
 refine bf hK ⟨[(1, gF p0)], []⟩ ?_
 refine AW.seqJ h (S := Bool) (V := Unit) (fun a v => ⟨[(2, .bool a)], []⟩) (fun a1 w2 h => ?_) (fun k3 h => ?_)
 ·obtain rfl := oi h
  exact AW.ret (qac (.inr rfl) (resT rfl rfl) rfl trivial)
 refine AW.rg rfl fun K hK => bv rfl (qad fo27_1 rfl) (bv rfl (qab ty3 rfl (qam rfl rfl)) (bv rfl (qaf rfl rfl b_gtr) (mv rfl rfl ?_)))
 by_cases hg9 : 8 < p0.2.1
 ·have h := ifT hg9 h
  refine b_T rfl rfl rfl rfl (decide_eq_true hg9) (qai rfl (qad fo27_1 rfl) ?_)
  refine b_T rfl rfl rfl rfl rfl (qai rfl (qab ty3 rfl (qam rfl rfl)) ?_)
  refine b_T rfl rfl rfl rfl rfl (qai rfl (qaf rfl rfl b_leq) ?_)
  refine bv rfl (qak rfl rfl rfl) (mv rfl rfl ?_)
  by_cases hg6 : p0.2.1 ≤ 64
  ·have h := ifT hg6 h
   refine b_F rfl rfl rfl rfl rfl (decide_eq_true hg6) ?_
   iterate 4 refine b_F rfl rfl rfl rfl rfl rfl ?_
   refine b_U rfl rfl rfl rfl rfl ?_
   refine b_U rfl rfl rfl rfl rfl ?_
   refine b_U rfl rfl rfl rfl rfl ?_
   refine b_U rfl rfl rfl rfl rfl ?_
   refine b_F rfl rfl rfl rfl rfl rfl ?_
   refine bv rfl (qak rfl rfl rfl) (mv rfl rfl ?_)
   iterate 4 refine b_F rfl rfl rfl rfl rfl rfl ?_
   refine bv rfl (qak rfl rfl rfl) (mv rfl rfl ?_)
   refine qah (hK _ ?_)
   exact to_L ⟨true, (), h, rfl⟩
  have h := ifF hg6 h
  refine b_T rfl rfl rfl rfl (decide_eq_false hg6) (qai rfl (qad fo27_2 rfl) ?_)
  refine b_T rfl rfl rfl rfl rfl (qai rfl (qab ty25 rfl (qam rfl rfl)) ?_)
  refine b_T rfl rfl rfl rfl rfl (qai rfl (qaI rfl rfl ty25 rfl) ?_)
  refine b_T rfl rfl rfl rfl rfl (qai rfl (qaf rfl rfl b_gtr) ?_)
  refine b_T rfl rfl rfl rfl rfl (qai rfl (qaR rfl rfl).2 ?_)
  by_cases hg5 : 30 < ((p0.2.2).length : Int)
  ·have h := ifT hg5 h
   refine b_T rfl rfl rfl rfl (decide_eq_true hg5) (qai rfl (qad fo27_2 rfl) ?_)
   refine b_T rfl rfl rfl rfl rfl (qai rfl (qab ty25 rfl (qam rfl rfl)) ?_)
   refine b_T rfl rfl rfl rfl rfl (qai rfl (qaI rfl rfl ty25 rfl) ?_)
   refine b_T rfl rfl rfl rfl rfl (qai rfl (qaf rfl rfl b_leq) ?_)
   refine b_T rfl rfl rfl rfl rfl (qai rfl (qak rfl rfl rfl) ?_)
   refine bv rfl (qan rfl rfl rfl) (mv rfl rfl ?_)
   by_cases hg4 : ((p0.2.2).length : Int) ≤ 1024
   ·have h := ifT hg4 h
    refine b_F rfl rfl rfl rfl rfl (decide_eq_true hg4) ?_
    iterate 3 refine b_F rfl rfl rfl rfl rfl rfl ?_
    refine bv rfl (qak rfl rfl rfl) (mv rfl rfl ?_)
    refine qah (hK _ ?_)
    exact to_L ⟨true, (), h, rfl⟩
   have h := ifF hg4 h
   refine b_T rfl rfl rfl rfl (decide_eq_false hg4) (qai rfl (qad fo27_2 rfl) ?_)
   refine b_T rfl rfl rfl rfl rfl (qai rfl (qab ty25 rfl (qam rfl rfl)) ?_)
   refine b_T rfl rfl rfl rfl rfl (qai rfl (qaI rfl rfl ty25 rfl) ?_)
   refine b_T rfl rfl rfl rfl rfl (qai rfl (qaf rfl rfl b_gtr) ?_)
   refine bv rfl (qan rfl rfl rfl) (mv rfl rfl ?_)
   refine qah (hK _ ?_)
   exact to_L ⟨decide (1027 < ((p0.2.2).length : Int)), (), h, rfl⟩
  have h := ifF hg5 h
  refine b_F rfl rfl rfl rfl rfl (decide_eq_false hg5) ?_
  iterate 3 refine b_F rfl rfl rfl rfl rfl rfl ?_
  refine b_T rfl rfl rfl rfl rfl (qai rfl (qan rfl rfl rfl) ?_)
  refine bv rfl (qan rfl rfl rfl) (mv rfl rfl ?_)
  refine b_T rfl rfl rfl rfl rfl (qai rfl (qad fo27_2 rfl) ?_)
  refine b_T rfl rfl rfl rfl rfl (qai rfl (qab ty25 rfl (qam rfl rfl)) ?_)
  refine b_T rfl rfl rfl rfl rfl (qai rfl (qaI rfl rfl ty25 rfl) ?_)
  refine b_T rfl rfl rfl rfl rfl (qai rfl (qaf rfl rfl b_gtr) ?_)
  refine bv rfl (qan rfl rfl rfl) (mv rfl rfl ?_)
  refine qah (hK _ ?_)
  exact to_L ⟨decide (1027 < ((p0.2.2).length : Int)), (), h, rfl⟩
 have h := ifF hg9 h
 refine b_F rfl rfl rfl rfl rfl (decide_eq_false hg9) ?_
 iterate 2 refine b_F rfl rfl rfl rfl rfl rfl ?_
 refine bv rfl (qan rfl rfl rfl) (mv rfl rfl ?_)
 refine b_T rfl rfl rfl rfl rfl (qai rfl (qad fo27_2 rfl) ?_)
 refine b_T rfl rfl rfl rfl rfl (qai rfl (qab ty25 rfl (qam rfl rfl)) ?_)
 refine b_T rfl rfl rfl rfl rfl (qai rfl (qaI rfl rfl ty25 rfl) ?_)
 refine b_T rfl rfl rfl rfl rfl (qai rfl (qaf rfl rfl b_gtr) ?_)
 refine b_T rfl rfl rfl rfl rfl (qai rfl (qaR rfl rfl).2 ?_)
 by_cases hg8 : 30 < ((p0.2.2).length : Int)
 ·have h := ifT hg8 h
  refine b_T rfl rfl rfl rfl (decide_eq_true hg8) (qai rfl (qad fo27_2 rfl) ?_)
  refine b_T rfl rfl rfl rfl rfl (qai rfl (qab ty25 rfl (qam rfl rfl)) ?_)
  refine b_T rfl rfl rfl rfl rfl (qai rfl (qaI rfl rfl ty25 rfl) ?_)
  refine b_T rfl rfl rfl rfl rfl (qai rfl (qaf rfl rfl b_leq) ?_)
  refine b_T rfl rfl rfl rfl rfl (qai rfl (qak rfl rfl rfl) ?_)
  refine bv rfl (qan rfl rfl rfl) (mv rfl rfl ?_)
  by_cases hg7 : ((p0.2.2).length : Int) ≤ 1024
  ·have h := ifT hg7 h
   refine b_F rfl rfl rfl rfl rfl (decide_eq_true hg7) ?_
   iterate 3 refine b_F rfl rfl rfl rfl rfl rfl ?_
   refine bv rfl (qak rfl rfl rfl) (mv rfl rfl ?_)
   refine qah (hK _ ?_)
   exact to_L ⟨true, (), h, rfl⟩
  have h := ifF hg7 h
  refine b_T rfl rfl rfl rfl (decide_eq_false hg7) (qai rfl (qad fo27_2 rfl) ?_)
  refine b_T rfl rfl rfl rfl rfl (qai rfl (qab ty25 rfl (qam rfl rfl)) ?_)
  refine b_T rfl rfl rfl rfl rfl (qai rfl (qaI rfl rfl ty25 rfl) ?_)
  refine b_T rfl rfl rfl rfl rfl (qai rfl (qaf rfl rfl b_gtr) ?_)
  refine bv rfl (qan rfl rfl rfl) (mv rfl rfl ?_)
  refine qah (hK _ ?_)
  exact to_L ⟨decide (1027 < ((p0.2.2).length : Int)), (), h, rfl⟩
 have h := ifF hg8 h
 refine b_F rfl rfl rfl rfl rfl (decide_eq_false hg8) ?_
 iterate 3 refine b_F rfl rfl rfl rfl rfl rfl ?_
 refine b_T rfl rfl rfl rfl rfl (qai rfl (qan rfl rfl rfl) ?_)
 refine bv rfl (qan rfl rfl rfl) (mv rfl rfl ?_)
 refine b_T rfl rfl rfl rfl rfl (qai rfl (qad fo27_2 rfl) ?_)
 refine b_T rfl rfl rfl rfl rfl (qai rfl (qab ty25 rfl (qam rfl rfl)) ?_)
 refine b_T rfl rfl rfl rfl rfl (qai rfl (qaI rfl rfl ty25 rfl) ?_)
 refine b_T rfl rfl rfl rfl rfl (qai rfl (qaf rfl rfl b_gtr) ?_)
 refine bv rfl (qan rfl rfl rfl) (mv rfl rfl ?_)
 refine qah (hK _ ?_)
 exact to_L ⟨decide (1027 < ((p0.2.2).length : Int)), (), h, rfl⟩
theorem w_component_Of_1 {p0 : List (Int)} {r : Bool} (h : qbx p0 = some r) : Pure Tryz.prog 183 [slE eInt p0] (· = HV.bool r) := by
 unfold qbx at h
 refine Pure.of_body Tryz.func183 rfl rfl (lb rfl) fun hf => ?_
 unfold Tryz.f183
 dsimp only [qaG, Nat.reduceAdd]
 refine AW.rgs rfl fun K hK => mv rfl rfl ?_
 refine bf hK ⟨[], []⟩ ?_
 refine AW.rgs rfl fun K hK => mv rfl rfl ?_
 refine bf hK ⟨[(2, .bool true)], []⟩ ?_
 obtain rfl := oi h
 exact AW.ret (qac (.inr rfl) (resT rfl rfl) rfl trivial)
theorem w_component_components (p0 : qaa) : Pure Tryz.prog 212 [gA p0] (· = HV.fn (.func 233) [] [gF p0]) := by
 refine Pure.of_body Tryz.func212 rfl rfl (lb rfl) fun hf => ?_
 unfold Tryz.f212
 dsimp only [qaG, Nat.reduceAdd]
 refine AW.rgs rfl fun K hK => b_op rfl (o_box rfl rfl rfl ?_)
 refine mv rfl rfl ?_
 refine bf hK ⟨[(1, gF p0)], []⟩ ?_
 refine AW.rgs rfl fun K hK => bv rfl (v_func rfl rfl) (mv rfl rfl ?_)
 refine bf hK ⟨[(2, .fn (.func 233) [] [gF p0])], []⟩ ?_
 refine AW.ret ?_
 exact qac (.inr rfl) (resT rfl rfl) rfl ⟨trivial, ⟨⟨trivial, trivial, (qao fun _ _ => ⟨trivial, trivial, trivial, trivial⟩), trivial⟩, trivial⟩⟩
theorem w_component_some {p0 : qaa} {r : (List (List (Int))) × Int} (h : m_component_some p0 = some r) : Pure Tryz.prog 182 [gA p0, .fn (.func 183) [] []] (· = HV.tup [slE (eSl eInt) r.1, hI r.2]) := by
 unfold m_component_some at h
 refine Pure.of_body Tryz.func182 rfl rfl (lb rfl) fun hf => ?_
 unfold Tryz.f182
 dsimp only [qaG, Nat.reduceAdd]
 refine AW.rgs rfl fun K hK => b_op rfl (o_box rfl rfl rfl ?_)
 refine b_op rfl (o_box rfl rfl rfl ?_)
 refine mv rfl rfl (mv rfl rfl ?_)
 let E1 : Nat × HV := (3, .fptr [.fn (.func 183) [] []] 0)
 refine bf hK ⟨[(2, gF p0), E1], []⟩ ?_
 refine AW.seq ?_
 refine AW.rgs rfl fun K hK => bv rfl (qab ty27 rfl (qaz rfl (lb rfl) rfl)) ?_
 obtain ⟨x1, h2, h⟩ := bS h
 refine b_op rfl (qay rfl rfl rfl rfl (ACallD.pure0 (w_graph_Check h2)) ?_)
 refine bv rfl (qaf rfl rfl b_neq) ?_
 refine bf hK ⟨[(2, gF p0), E1, (10, .bool (decide (x1 ≠ 0)))], []⟩ ?_
 refine AW.cond rfl (fun hc => ?_) (fun hc => ?_)
 ·obtain ⟨hc, h⟩ := cT hc h
  refine AW.rgs rfl fun K hK => mv rfl rfl (mv rfl rfl ?_)
  refine bf hK ⟨[(4, .v (.slice none 0 0)), (5, hI 1)], []⟩ ?_
  refine AW.to (to_weak ⟨[(4, slE (eSl eInt) ([] : List (List (Int)))), (5, hI 1)], []⟩ ⟨⟨_, rfl, .nil _⟩, ⟨_, rfl, .refl _⟩, trivial⟩ trivial ?_)
  obtain rfl := oi h
  exact AW.ret (qac (.inr rfl) (resT rfl (resT rfl rfl)) rfl ⟨(qao fun _ _ => ⟨(qao fun _ _ => ⟨trivial, trivial⟩), trivial⟩), trivial, trivial⟩)
 obtain ⟨hc, h⟩ := cF hc h
 refine AW.skip ?_
 refine AW.rgs rfl fun K hK => b_op rfl (qbj (fid := 182) (zs := [.v (.slice none 0 0)]) 182006 rfl rfl ty151 rfl (fun v3 => ?_))
 refine bf hK ⟨[(2, gF p0), E1, (6, .ptr 182006 v3 0)], [(182006, v3, .arr 1 151 [.v (.slice none 0 0)])]⟩ ?_
 refine AW.seq ?_
 refine AW.rgs rfl fun K hK => bv rfl (qab ty27 rfl (qaz rfl (lb rfl) rfl)) ?_
 refine b_op rfl (qay rfl rfl rfl rfl (ACallD.pure0 (w_component_components p0)) ?_)
 refine bf hK ⟨[E1, (6, .ptr 182006 v3 0), (12, .fn (.func 233) [] [gF p0])], [(182006, v3, .arr 1 151 [.v (.slice none 0 0)])]⟩ ?_
 refine AW.block ?_
 refine AW.to (to_ownC 182020 182006 v3 1 0 (eSl eInt).k 31 151 rfl rfl (by decide) fun v4 => ?_)
 refine AW.to (qbd (s' := ⟨[E1, (6, .ptr 182006 v3 0), (12, .fn (.func 233) [] [gF p0])], [(182006, v3, .arr 1 151 [.ar 182020 v4 (eSl eInt).k 0 ((([] : List (List (Int)))).length)]), (182020, v4, .arr (eSl eInt).k 31 ((eSl eInt).E ([] : List (List (Int)))))]⟩) (AS.le_of ⟨rfl, rfl, rfl, trivial⟩ ⟨hle rfl (by first | rfl | simp only [List.length_set, sortI_len, sortS_len]), rfl, trivial⟩) ?_)
 obtain ⟨L5, h6, h⟩ := bS h
 refine AW.rangeY (c := .ret) 182900 (fun x => [slE eInt x]) h (by first | exact qa5 | exact up_to) rfl (iy_component_components h6) (S := (List (List (Int)))) (V := Nat) (fun a v => [(182006, v3, .arr 1 151 [.ar 182020 v (eSl eInt).k 0 ((a).length)]), (182020, v, .arr (eSl eInt).k 31 ((eSl eInt).E a))]) v4 (X := Unit) (W := Unit) (fun _ _ => []) (fun _ _ => rfl) (fun _ _ => rfl) rfl (fun _ => rfl) (fun a17 w18 h => ?_) (fun a19 w20 h => ?_) (fun Lo l12 v10 a7 x9 w8 st11 h => ?_)
 ·refine AW.rgs rfl fun K hK => bv rfl (qas ty151 rfl rfl (qam rfl rfl)) (mv rfl rfl (mv rfl rfl ?_))
  refine bf hK ⟨[(4, .ar 182020 w18 (eSl eInt).k 0 ((a17).length)), (5, hI 0)], [(182020, w18, .arr (eSl eInt).k 31 ((eSl eInt).E a17))]⟩ ?_
  refine AW.to (to_frz 2 [(182020, w18, .arr (eSl eInt).k 31 ((eSl eInt).E a17))] ⟨[(4, slE (eSl eInt) a17), (5, hI 0)], []⟩ ⟨⟨_, rfl, frz_slE (eSl eInt) (l := a17) rfl fun _ _ => rfl⟩, ⟨_, rfl, rfl⟩, trivial⟩ trivial ⟨rfl, trivial⟩ ⟨rfl, trivial⟩ ?_)
  obtain rfl := oi h
  exact AW.ret (qac (.inr rfl) (resT rfl (resT rfl rfl)) rfl ⟨(qao fun _ _ => ⟨(qao fun _ _ => ⟨trivial, trivial⟩), trivial⟩), trivial, trivial⟩)
 ·cases h
 refine AW.rg rfl fun K hK => mv rfl rfl ?_
 refine qah (hK _ ?_)
 refine ⟨rfl, rfl, ?_⟩
 refine AW.block ?_
 refine AW.rgs rfl fun K hK => bv rfl (qab ty55 rfl (qam rfl rfl)) (mv rfl rfl ?_)
 obtain ⟨x13, h14, h⟩ := bS h
 refine b_op rfl (qay rfl rfl rfl rfl (ACallD.pure0 (w_component_Of_1 h14)) ?_)
 refine bf hK ⟨[E1, (6, .ptr 182006 v3 0), (7, slE eInt x9), (13, slE eInt x9), (16, .bool x13)], [(182900, v10, Lo .busy none), (182006, v3, .arr 1 151 [.ar 182020 w8 (eSl eInt).k 0 ((a7).length)]), (182020, w8, .arr (eSl eInt).k 31 ((eSl eInt).E a7))]⟩ ?_
 refine AW.cond rfl (fun hc => ?_) (fun hc => ?_)
 ·have h := ifT hc h
  refine AW.rg rfl fun K hK => bv rfl (qas ty151 rfl rfl (qam rfl rfl)) (mv rfl rfl ?_)
  refine b_op rfl (o_bsl rfl rfl (as_of (cs := [slE eInt x9]) ty151 ty31 rfl rfl rfl rfl rfl) ?_)
  obtain ⟨h16, h⟩ := ifN h
  refine b_op rfl (o_appE (eSl eInt) (l := a7) (m := [x9]) rfl rfl ty151 ty151 ty31 rfl rfl rfl rfl rfl h16 (fun v15 => ?_))
  refine b_op rfl (qaH (cs := [.ar 182020 v15 (eSl eInt).k 0 ((a7 ++ [x9]).length)]) (zs := [.ar 182020 v15 (eSl eInt).k 0 ((a7 ++ [x9]).length)]) rfl rfl rfl ty151 rfl rfl rfl rfl rfl ?_)
  refine qah (hK _ ?_)
  exact ⟨a7 ++ [x9], v15, h, (AS.le_of trivial ⟨rfl, rfl, rfl, trivial⟩)⟩
 have h := ifF (bF' hc) h
 refine AW.skip ?_
 exact ⟨a7, w8, h, (AS.le_of trivial ⟨rfl, rfl, rfl, trivial⟩)⟩
theorem w_component_Of {p0 : qaa} {r : (List (List (Int))) × Int} (h : m_component_Of p0 = some r) : Pure Tryz.prog 141 [gA p0] (· = HV.tup [slE (eSl eInt) r.1, hI r.2]) := by
 unfold m_component_Of at h
 refine Pure.of_body Tryz.func141 rfl rfl (lb rfl) fun hf => ?_
 unfold Tryz.f141
 dsimp only [qaG, Nat.reduceAdd]
 refine AW.rgs rfl fun K hK => b_op rfl (o_box rfl rfl rfl ?_)
 refine mv rfl rfl (mv rfl rfl ?_)
 refine bf hK ⟨[(1, gF p0)], []⟩ ?_
 refine AW.rgs rfl fun K hK => bv rfl (qab ty27 rfl (qaz rfl (lb rfl) rfl)) ?_
 obtain ⟨x1, h2, h⟩ := bS h
 refine b_op rfl (qay rfl rfl rfl rfl (ACallD.pure0 (w_component_some h2)) ?_)
 refine bv rfl (qat rfl rfl) (bv rfl (qat rfl rfl) (mv rfl rfl (mv rfl rfl ?_)))
 refine bf hK ⟨[(2, slE (eSl eInt) x1.1), (3, hI x1.2)], []⟩ ?_
 obtain rfl := oi h
 exact AW.ret (qac (.inr rfl) (resT rfl (resT rfl rfl)) rfl ⟨(qao fun _ _ => ⟨(qao fun _ _ => ⟨trivial, trivial⟩), trivial⟩), trivial, trivial⟩)
theorem w_component_Irreducible {p0 : qaa} {r : Bool × Int} (h : qbc p0 = some r) : Pure Tryz.prog 95 [gA p0] (· = HV.tup [.bool r.1, hI r.2]) := by
 unfold qbc at h
 refine Pure.of_body Tryz.func95 rfl rfl (lb rfl) fun hf => ?_
 unfold Tryz.f95
 dsimp only [qaG, Nat.reduceAdd]
 refine AW.rgs rfl fun K hK => b_op rfl (o_box rfl rfl rfl ?_)
 refine mv rfl rfl (mv rfl rfl ?_)
 refine bf hK ⟨[(1, gF p0)], []⟩ ?_
 refine AW.rgs rfl fun K hK => bv rfl (qab ty27 rfl (qaz rfl (lb rfl) rfl)) ?_
 obtain ⟨x1, h2, h⟩ := bS h
 refine b_op rfl (qay rfl rfl rfl rfl (ACallD.pure0 (w_component_Of h2)) ?_)
 refine mv rfl rfl (bv rfl (qat rfl rfl) (bv rfl (qat rfl rfl) (mv rfl rfl (mv rfl rfl ?_))))
 refine bf hK ⟨[(1, gF p0), (4, slE (eSl eInt) x1.1), (5, hI x1.2)], []⟩ ?_
 refine AW.seqJ h (S := Bool) (V := Unit) (fun a v => ⟨[(2, .bool a), (3, hI x1.2)], []⟩) (fun a3 w4 h => ?_) (fun k5 h => ?_)
 ·obtain rfl := oi h
  exact AW.ret (qac (.inr rfl) (resT rfl (resT rfl rfl)) rfl ⟨trivial, trivial, trivial⟩)
 refine AW.rg rfl fun K hK => mv rfl rfl (bv rfl (qaf rfl rfl b_eql) (mv rfl rfl ?_))
 by_cases hg7 : x1.2 = 0
 ·have h := ifT hg7 h
  refine b_T rfl rfl rfl rfl (decide_eq_true hg7) (qai rfl (qaR rfl rfl).2 ?_)
  refine b_T rfl rfl rfl rfl rfl (qai rfl (qaI rfl rfl ty151 rfl) ?_)
  refine b_T rfl rfl rfl rfl rfl (qai rfl (qaf rfl rfl b_eql) ?_)
  refine bv rfl (qak rfl rfl rfl) (mv rfl rfl ?_)
  by_cases hg6 : ((x1.1).length : Int) = 1
  ·have h := ifT hg6 h
   refine b_T rfl rfl rfl rfl (decide_eq_true hg6) (qai rfl (qad fo27_2 rfl) ?_)
   refine b_T rfl rfl rfl rfl rfl (qai rfl (qab ty25 rfl (qam rfl rfl)) ?_)
   refine b_T rfl rfl rfl rfl rfl (qai rfl (qaI rfl rfl ty25 rfl) ?_)
   refine b_T rfl rfl rfl rfl rfl (qai rfl (qaf rfl rfl b_gtr) ?_)
   refine bv rfl (qak rfl rfl rfl) (mv rfl rfl (mv rfl rfl (mv rfl rfl ?_)))
   refine qah (hK _ ?_)
   exact to_L ⟨decide (0 < ((p0.2.2).length : Int)), (), h, rfl⟩
  have h := ifF hg6 h
  refine b_F rfl rfl rfl rfl rfl (decide_eq_false hg6) ?_
  iterate 3 refine b_F rfl rfl rfl rfl rfl rfl ?_
  refine bv rfl (qan rfl rfl rfl) (mv rfl rfl (mv rfl rfl (mv rfl rfl ?_)))
  refine qah (hK _ ?_)
  exact to_L ⟨false, (), h, rfl⟩
 have h := ifF hg7 h
 refine b_F rfl rfl rfl rfl rfl (decide_eq_false hg7) ?_
 iterate 2 refine b_F rfl rfl rfl rfl rfl rfl ?_
 refine bv rfl (qan rfl rfl rfl) (mv rfl rfl ?_)
 iterate 4 refine b_F rfl rfl rfl rfl rfl rfl ?_
 refine bv rfl (qan rfl rfl rfl) (mv rfl rfl (mv rfl rfl (mv rfl rfl ?_)))
 refine qah (hK _ ?_)
 exact to_L ⟨false, (), h, rfl⟩
theorem w_language_Words {p0 : qaa} {p1 : Int} {r : (List (List UInt8)) × Int} (h : qbg p0 p1 = some r) : Pure Tryz.prog 96 [gA p0, hI p1] (· = HV.tup [slE eStr r.1, hI r.2]) := by
 unfold qbg at h
 refine Pure.of_body Tryz.func96 rfl rfl (lb rfl) fun hf => ?_
 unfold Tryz.f96
 dsimp only [qaG, Nat.reduceAdd]
 refine AW.rgs rfl fun K hK => b_op rfl (o_box rfl rfl rfl ?_)
 refine mv rfl rfl (mv rfl rfl ?_)
 refine bf hK ⟨[(1, hI p1), (2, gF p0)], []⟩ ?_
 refine AW.seq ?_
 refine AW.rgs rfl fun K hK => bv rfl (qab ty27 rfl (qaz rfl (lb rfl) rfl)) (mv rfl rfl ?_)
 obtain ⟨x1, h2, h⟩ := bS h
 refine b_op rfl (qay rfl rfl rfl rfl (ACallD.pure0 (w_language_lengths h2)) ?_)
 refine mv rfl rfl ?_
 refine bf hK ⟨[(1, hI p1), (2, gF p0), (6, hI x1)], []⟩ ?_
 refine AW.rgs rfl fun K hK => mv rfl rfl (bv rfl (qaf rfl rfl b_neq) ?_)
 refine bf hK ⟨[(1, hI p1), (2, gF p0), (6, hI x1), (13, .bool (decide (x1 ≠ 0)))], []⟩ ?_
 refine AW.cond rfl (fun hc => ?_) (fun hc => ?_)
 ·obtain ⟨hc, h⟩ := cT hc h
  refine AW.rgs rfl fun K hK => mv rfl rfl (mv rfl rfl (mv rfl rfl ?_))
  refine bf hK ⟨[(4, .v (.slice none 0 0)), (5, hI x1)], []⟩ ?_
  refine AW.to (to_weak ⟨[(4, slE eStr ([] : List (List UInt8))), (5, hI x1)], []⟩ ⟨⟨_, rfl, .nil _⟩, ⟨_, rfl, .refl _⟩, trivial⟩ trivial ?_)
  obtain rfl := oi h
  exact AW.ret (qac (.inr rfl) (resT rfl (resT rfl rfl)) rfl ⟨(qao fun _ _ => ⟨trivial, trivial⟩), trivial, trivial⟩)
 obtain ⟨hc, h⟩ := cF hc h
 refine AW.skip ?_
 refine AW.dys follows fun K hK => ?_
 refine y_st 4 rfl rfl ?_
 refine sv rfl (qab ty27 rfl (qaz rfl (lb rfl) rfl)) ?_
 refine sv rfl (qab ty27 rfl (qaz rfl (lb rfl) rfl)) ?_
 obtain ⟨x3, h4, h⟩ := bS h
 refine s_op rfl rfl (qaS rfl rfl rfl rfl (ACallD.pure0 (w_language_states h4)) ?_)
 refine sm rfl rfl ?_
 refine s_nil ?_
 obtain ⟨x5, h6, h⟩ := bS h
 by_cases hg7 : x5.2 = true
 ·have h := ifT hg7 h
  refine y_op rfl rfl rfl rfl (o_callA rfl rfl rfl rfl (c_listT h6 hg7 fun i8 v9 es10 hes11 => ?_) )
  refine qah ?_
  refine y_st 10 rfl rfl ?_
  refine sm rfl rfl ?_
  refine sv rfl (qat rfl rfl) ?_
  refine sv rfl (qat rfl rfl) ?_
  iterate 2 refine sm rfl rfl ?_
  refine s_nil ?_
  refine y_nil rfl (hK _ (AW.to (qbd (s' := ⟨[(7, .mp i8 v9), (8, .bool true)], [(i8, v9, .map es10)]⟩) (AS.le_of ⟨rfl, rfl, trivial⟩ ⟨hget_0, trivial⟩) ?_)))
  refine AW.seq ?_
  refine AW.rgs rfl fun K hK => mv rfl rfl (bv rfl (v_not rfl) ?_)
  refine b_fin hK (s' := ⟨[(7, .mp i8 v9), (24, .bool false)], [(i8, v9, .map es10)]⟩) (AS.le_of ⟨rfl, rfl, trivial⟩ ⟨hget_0, trivial⟩) ?_
  refine AW.cond rfl (fun hc => by cases hc) (fun _ => ?_)
  refine AW.skip ?_
  refine AW.rgs rfl fun K hK => mv rfl rfl ?_
  refine b_op rfl (o_callK [(i8, v9, .map es10)] rfl rfl rfl rfl (fun K hK => w82 hK) ?_)
  refine b_op rfl (o_callK (q := slE eStr (sortS ((x5.1).map Prod.fst))) [] rfl rfl rfl rfl (fun K hK => c_sortedKeys hes11 hK) ?_)
  refine mv rfl rfl (mv rfl rfl ?_)
  refine bf hK ⟨[(4, slE eStr (sortS ((x5.1).map Prod.fst))), (5, hI 0)], []⟩ ?_
  obtain rfl := oi h
  exact AW.ret (qac (.inr rfl) (resT rfl (resT rfl rfl)) rfl ⟨(qao fun _ _ => ⟨trivial, trivial⟩), trivial, trivial⟩)
 have h := ifF hg7 h
 refine y_op rfl rfl rfl rfl (o_callA rfl rfl rfl rfl (c_listF h6 hg7 ?_) )
 refine qah ?_
 refine y_st 10 rfl rfl ?_
 refine sm rfl rfl ?_
 refine sv rfl (qat rfl rfl) ?_
 refine sv rfl (qat rfl rfl) ?_
 iterate 2 refine sm rfl rfl ?_
 refine s_nil ?_
 refine y_nil rfl (hK _ (AW.to (qbd (s' := ⟨[(7, .v (.map none)), (8, .bool false)], []⟩) (le_q rfl rfl) ?_)))
 refine AW.seq ?_
 refine AW.rgs rfl fun K hK => mv rfl rfl (bv rfl (v_not rfl) ?_)
 refine bf hK ⟨[(7, .v (.map none)), (24, .bool true)], []⟩ ?_
 refine AW.cond rfl (fun _ => ?_) (fun hc => by cases hc)
 refine AW.rgs rfl fun K hK => mv rfl rfl (mv rfl rfl ?_)
 refine bf hK ⟨[(4, .v (.slice none 0 0)), (5, hI 4)], []⟩ ?_
 refine AW.to (to_weak ⟨[(4, slE eStr ([] : List (List UInt8))), (5, hI 4)], []⟩ ⟨⟨_, rfl, .nil _⟩, ⟨_, rfl, .refl _⟩, trivial⟩ trivial ?_)
 obtain rfl := oi h
 exact AW.ret (qac (.inr rfl) (resT rfl (resT rfl rfl)) rfl ⟨(qao fun _ _ => ⟨trivial, trivial⟩), trivial, trivial⟩)
theorem w_word_All {p0 : Int} {p1 : Int} {r : (List (List UInt8)) × Int} (h : m_word_All p0 p1 = some r) : Pure Tryz.prog 97 [hI p0, hI p1] (· = HV.tup [slE eStr r.1, hI r.2]) := by
 unfold m_word_All at h
 refine Pure.of_body Tryz.func97 rfl rfl (lb rfl) fun hf => ?_
 unfold Tryz.f97
 dsimp only [qaG, Nat.reduceAdd]
 refine AW.rgs rfl fun K hK => mv rfl rfl (mv rfl rfl ?_)
 let P1 : ASf := fun t H => ⟨(0, hI p0) :: t, H⟩
 refine bf hK (P1 [(1, hI p1)] []) ?_
 refine AW.seq (AW.block ?_)
 refine AW.rgs rfl fun K hK => mv rfl rfl ?_
 obtain ⟨x1, h2, h⟩ := bS h
 refine b_op rfl (qay rfl rfl rfl rfl (ACallD.pure0 (w_word_known h2)) ?_)
 refine bv rfl (v_not rfl) (mv rfl rfl ?_)
 refine bf hK (P1 [(1, hI p1), (11, .bool (!x1))] []) ?_
 refine AW.cond rfl (fun hc => ?_) (fun hc => ?_)
 ·have h := ifT hc h
  refine AW.rgs rfl fun K hK => mv rfl rfl (mv rfl rfl ?_)
  refine bf hK ⟨[(4, .v (.slice none 0 0)), (5, hI 12)], []⟩ ?_
  refine AW.to (to_weak ⟨[(4, slE eStr ([] : List (List UInt8))), (5, hI 12)], []⟩ ⟨⟨_, rfl, .nil _⟩, ⟨_, rfl, .refl _⟩, trivial⟩ trivial ?_)
  obtain rfl := oi h
  exact AW.ret (qac (.inr rfl) (resT rfl (resT rfl rfl)) rfl ⟨(qao fun _ _ => ⟨trivial, trivial⟩), trivial, trivial⟩)
 have h := ifF (bF' hc) h
 refine AW.rgs rfl fun K hK => mv rfl rfl (bv rfl (qaf rfl rfl b_lss) (mv rfl rfl ?_))
 refine bf hK (P1 [(1, hI p1), (15, .bool (decide (p1 < 0)))] []) ?_
 refine AW.cond rfl (fun hc => ?_) (fun hc => ?_)
 ·obtain ⟨hc, h⟩ := cT hc h
  refine AW.rgs rfl fun K hK => mv rfl rfl (mv rfl rfl ?_)
  refine bf hK ⟨[(4, .v (.slice none 0 0)), (5, hI 2)], []⟩ ?_
  refine AW.to (to_weak ⟨[(4, slE eStr ([] : List (List UInt8))), (5, hI 2)], []⟩ ⟨⟨_, rfl, .nil _⟩, ⟨_, rfl, .refl _⟩, trivial⟩ trivial ?_)
  obtain rfl := oi h
  exact AW.ret (qac (.inr rfl) (resT rfl (resT rfl rfl)) rfl ⟨(qao fun _ _ => ⟨trivial, trivial⟩), trivial, trivial⟩)
 obtain ⟨hc, h⟩ := cF hc h
 refine AW.rgs rfl fun K hK => mv rfl rfl (bv rfl (qaf rfl rfl b_gtr) (mv rfl rfl ?_))
 refine bf hK (P1 [(1, hI p1), (18, .bool (decide (65536 < p1)))] []) ?_
 refine AW.cond rfl (fun hc => ?_) (fun hc => ?_)
 ·obtain ⟨hc, h⟩ := cT hc h
  refine AW.rgs rfl fun K hK => mv rfl rfl (mv rfl rfl ?_)
  refine bf hK ⟨[(4, .v (.slice none 0 0)), (5, hI 4)], []⟩ ?_
  refine AW.to (to_weak ⟨[(4, slE eStr ([] : List (List UInt8))), (5, hI 4)], []⟩ ⟨⟨_, rfl, .nil _⟩, ⟨_, rfl, .refl _⟩, trivial⟩ trivial ?_)
  obtain rfl := oi h
  exact AW.ret (qac (.inr rfl) (resT rfl (resT rfl rfl)) rfl ⟨(qao fun _ _ => ⟨trivial, trivial⟩), trivial, trivial⟩)
 obtain ⟨hc, h⟩ := cF hc h
 refine AW.skip ?_
 refine AW.seq ?_
 refine AW.rgs rfl fun K hK => mv rfl rfl (bv rfl (qaf rfl rfl b_eql) ?_)
 refine bf hK (P1 [(1, hI p1), (22, .bool (decide (p0 = 1)))] []) ?_
 refine AW.cond rfl (fun hc => ?_) (fun hc => ?_)
 ·obtain ⟨hc, h⟩ := cT hc h
  refine AW.rgs rfl fun K hK => mv rfl rfl ?_
  obtain ⟨x3, h4, h⟩ := bS h
  refine b_op rfl (qay rfl rfl rfl rfl (ACallD.pure0 (w_strings_Repeat h4)) ?_)
  refine b_op rfl (o_bsl rfl rfl (as_of (cs := [.str x3]) ty22 ty9 rfl rfl rfl rfl rfl) ?_)
  refine mv rfl rfl (mv rfl rfl ?_)
  refine bf hK ⟨[(4, slE eStr [x3]), (5, hI 0)], []⟩ ?_
  obtain rfl := oi h
  exact AW.ret (qac (.inr rfl) (resT rfl (resT rfl rfl)) rfl ⟨(qao fun _ _ => ⟨trivial, trivial⟩), trivial, trivial⟩)
 obtain ⟨hc, h⟩ := cF hc h
 refine AW.skip ?_
 refine AW.rgs rfl fun K hK => b_op rfl (o_bsl rfl rfl (as_of (cs := [.str nS]) ty22 ty9 rfl rfl rfl rfl rfl) ?_)
 refine mv rfl rfl ?_
 refine bf hK (P1 [(1, hI p1), (6, slE eStr [nS])] []) ?_
 refine AW.seq ?_
 refine AW.rgs rfl fun K hK => mv rfl rfl (mv rfl rfl ?_)
 refine bf hK (P1 [(6, slE eStr [nS]), (27, hI p1), (28, hI 0)] []) ?_
 refine AW.lpR h (by first | exact qa5 | exact up_to) (S := (List (List UInt8)) × Int) (V := Unit) (fun a v => (P1 [(6, slE eStr a.1), (27, hI p1), (28, hI a.2)] [])) ?_ (X := (List (List UInt8))) (W := Unit) (fun a v => ⟨[(6, slE eStr a)], []⟩) (fun a29 w30 h => ?_) (fun a5 w6 st7 h hr8=> ?_)
 ·exact to_L ⟨(), rfl⟩
 ·refine AW.rgs rfl fun K hK => mv rfl rfl (mv rfl rfl (mv rfl rfl ?_))
  refine bf hK ⟨[(4, slE eStr a29), (5, hI 0)], []⟩ ?_
  obtain rfl := oi h
  exact AW.ret (qac (.inr rfl) (resT rfl (resT rfl rfl)) rfl ⟨(qao fun _ _ => ⟨trivial, trivial⟩), trivial, trivial⟩)
 refine AW.rgs rfl fun K hK => bv rfl (qaf rfl rfl b_lss) ?_
 refine bf hK (P1 [(6, slE eStr a5.1), (27, hI p1), (28, hI a5.2), (29, .bool (decide (a5.2 < p1)))] []) ?_
 refine AW.cseq rfl (fun hc => ?_) (fun hc => ?_)
 ·obtain ⟨hc, h⟩ := cT hc h
  refine AW.skip ?_
  refine AW.seq (AW.block ?_)
  refine AW.seq ?_
  refine AW.rgs rfl fun K hK => mv rfl rfl (bv rfl (qaI rfl rfl ty22 rfl) (mv rfl rfl (bv rfl (qaf rfl rfl b_mul) (bv rfl (qaf rfl rfl b_gtr) ?_))))
  refine bf hK (P1 [(6, slE eStr a5.1), (27, hI p1), (28, hI a5.2), (34, .bool (decide (4096 < (IntKind.wrap .i64 (((a5.1).length : Int) * p0)))))] []) ?_
  refine AW.cond rfl (fun hc => ?_) (fun hc => ?_)
  ·obtain ⟨hc, h⟩ := cT hc h
   refine AW.rgs rfl fun K hK => mv rfl rfl (mv rfl rfl ?_)
   refine bf hK ⟨[(4, .v (.slice none 0 0)), (5, hI 4)], []⟩ ?_
   have h := hr8 _ h
   refine AW.to (to_weak ⟨[(4, slE eStr ([] : List (List UInt8))), (5, hI 4)], []⟩ ⟨⟨_, rfl, .nil _⟩, ⟨_, rfl, .refl _⟩, trivial⟩ trivial ?_)
   obtain rfl := oi h
   exact AW.ret (qac (.inr rfl) (resT rfl (resT rfl rfl)) rfl ⟨(qao fun _ _ => ⟨trivial, trivial⟩), trivial, trivial⟩)
  obtain ⟨hc, h⟩ := cF hc h
  refine AW.skip ?_
  refine AW.rgs rfl fun K hK => mv rfl rfl (bv rfl (qaI rfl rfl ty22 rfl) (mv rfl rfl (bv rfl (qaf rfl rfl b_mul) ?_)))
  obtain ⟨h10, h⟩ := ifN h
  refine b_op rfl (o_makeE (fid := 97) eStr (nS : List UInt8) 97039 rfl rfl ty22 rfl rfl ty9 rfl rfl h10 (fun v9 => ?_))
  refine mv rfl rfl ?_
  let E2 : Nat × HV := (7, .ar 97039 v9 eStr.k 0 ((List.replicate (0 : Int).toNat (nS : List UInt8)).length))
  let O3 : Nat × Nat × AObj := (97039, v9, .arr eStr.k 9 (eStr.E (List.replicate (0 : Int).toNat (nS : List UInt8))))
  refine bf hK (P1 [(6, slE eStr a5.1), E2, (27, hI p1), (28, hI a5.2)] [O3]) ?_
  refine AW.seq ?_
  refine AW.rgs rfl fun K hK => mv rfl rfl (bv rfl (qaI rfl rfl ty22 rfl) (mv rfl rfl ?_))
  let E4 : Nat × HV := (41, hI ((a5.1).length : Int))
  refine bf hK (P1 [E2, (27, hI p1), (28, hI a5.2), (40, slE eStr a5.1), E4, (42, hI 0)] [O3]) ?_
  refine AW.lpX h (by first | exact qa5 | exact up_to) (S := Int × (List (List UInt8))) (V := Nat) (fun a v => (P1 [(7, .ar 97039 v eStr.k 0 ((a.2).length)), (27, hI p1), (28, hI a5.2), (40, slE eStr a5.1), E4, (42, hI a.1)] [(97039, v, .arr eStr.k 9 (eStr.E a.2))])) ?_ (X := (List (List UInt8))) (W := Nat) (fun a v => (P1 [(7, .ar 97039 v eStr.k 0 ((a).length)), (27, hI p1), (28, hI a5.2)] [(97039, v, .arr eStr.k 9 (eStr.E a))])) (fun a27 w28 h => ?_) (fun a11 w12 st13 h => ?_)
  ·exact to_L ⟨v9, rfl⟩
  ·refine AW.rg rfl fun K hK => mv rfl rfl (mv rfl rfl ?_)
   refine bf hK (P1 [(6, .ar 97039 w28 eStr.k 0 ((a27).length)), (27, hI p1), (28, hI a5.2)] [(97039, w28, .arr eStr.k 9 (eStr.E a27))]) ?_
   refine AW.rg rfl fun K hK => bv rfl (qaf rfl rfl b_add) (mv rfl rfl ?_)
   refine qah (hK _ ?_)
   refine to_bind (to_frz 2 [(97039, w28, .arr eStr.k 9 (eStr.E a27))] (P1 [(6, slE eStr a27), (27, hI p1), (28, hI (IntKind.wrap .i64 (a5.2 + 1)))] []) ⟨⟨_, rfl, rfl⟩, ⟨_, rfl, frz_slE eStr (l := a27) rfl fun _ _ => rfl⟩, ⟨_, rfl, rfl⟩, ⟨_, rfl, rfl⟩, trivial⟩ trivial ⟨rfl, trivial⟩ ⟨rfl, trivial⟩ ?_)
   exact to_L ⟨(a27, IntKind.wrap .i64 (a5.2 + 1)), (), h, rfl⟩
  refine AW.rgs rfl fun K hK => bv rfl (qaf rfl rfl b_lss) ?_
  let E5 : Nat × HV := (7, .ar 97039 w12 eStr.k 0 ((a11.2).length))
  let O6 : Nat × Nat × AObj := (97039, w12, .arr eStr.k 9 (eStr.E a11.2))
  refine bf hK (P1 [E5, (27, hI p1), (28, hI a5.2), (40, slE eStr a5.1), E4, (42, hI a11.1), (43, .bool (decide (a11.1 < ((a5.1).length : Int))))] [O6]) ?_
  refine AW.cseq rfl (fun hc => ?_) (fun hc => ?_)
  ·obtain ⟨hc, h⟩ := cT hc h
   refine AW.skip ?_
   refine AW.seq (AW.block ?_)
   refine AW.rgs rfl fun K hK => ?_
   obtain ⟨x15, h16, h⟩ := bS h
   refine bv rfl (qaW ty22 es22 rfl rfl (qaO h16)) (bv rfl (qab ty9 rfl (qaZ eStr h16 (o := 0) rfl rfl)) (mv rfl rfl ?_))
   refine bf hK (P1 [E5, (9, .str x15), (27, hI p1), (28, hI a5.2), (40, slE eStr a5.1), E4, (42, hI a11.1)] [O6]) ?_
   refine AW.rgs rfl fun K hK => mv rfl rfl (mv rfl rfl ?_)
   refine bf hK (P1 [E5, (9, .str x15), (27, hI p1), (28, hI a5.2), (40, slE eStr a5.1), E4, (42, hI a11.1), (46, hI p0), (47, hI 0)] [O6]) ?_
   refine AW.lpX h (by first | exact qa5 | exact up_to) (S := Int × (List (List UInt8))) (V := Nat) (fun a v => (P1 [(7, .ar 97039 v eStr.k 0 ((a.2).length)), (9, .str x15), (27, hI p1), (28, hI a5.2), (40, slE eStr a5.1), E4, (42, hI a11.1), (46, hI p0), (47, hI a.1)] [(97039, v, .arr eStr.k 9 (eStr.E a.2))])) ?_ (X := (List (List UInt8))) (W := Nat) (fun a v => (P1 [(7, .ar 97039 v eStr.k 0 ((a).length)), (27, hI p1), (28, hI a5.2), (40, slE eStr a5.1), E4, (42, hI a11.1)] [(97039, v, .arr eStr.k 9 (eStr.E a))])) (fun a25 w26 h => ?_) (fun a17 w18 st19 h => ?_)
   ·exact to_L ⟨w12, rfl⟩
   ·refine AW.rg rfl fun K hK => bv rfl (qaf rfl rfl b_add) (mv rfl rfl ?_)
    refine qah (hK _ ?_)
    exact to_L ⟨(IntKind.wrap .i64 (a11.1 + 1), a25), w26, h, rfl⟩
   refine AW.rgs rfl fun K hK => bv rfl (qaf rfl rfl b_lss) ?_
   refine bf hK (P1 [(7, .ar 97039 w18 eStr.k 0 ((a17.2).length)), (9, .str x15), (27, hI p1), (28, hI a5.2), (40, slE eStr a5.1), E4, (42, hI a11.1), (46, hI p0), (47, hI a17.1), (48, .bool (decide (a17.1 < p0)))] [(97039, w18, .arr eStr.k 9 (eStr.E a17.2))]) ?_
   refine AW.cseq rfl (fun hc => ?_) (fun hc => ?_)
   ·obtain ⟨hc, h⟩ := cT hc h
    refine AW.skip ?_
    refine AW.seq (AW.block ?_)
    refine AW.rgs rfl fun K hK => mv rfl rfl (mv rfl rfl ?_)
    refine bf hK (P1 [(7, .ar 97039 w18 eStr.k 0 ((a17.2).length)), (9, .str x15), (10, hI a17.1), (27, hI p1), (28, hI a5.2), (40, slE eStr a5.1), E4, (42, hI a11.1), (46, hI p0), (47, hI a17.1)] [(97039, w18, .arr eStr.k 9 (eStr.E a17.2))]) ?_
    refine AW.rg rfl fun K hK => mv rfl rfl (mv rfl rfl (mv rfl rfl (mv rfl rfl (bv rfl (qaf rfl rfl b_add) ?_))))
    obtain ⟨h21, h⟩ := ifN h
    refine bv rfl (v_sliceS ty9 rfl rfl rfl h21) ?_
    obtain ⟨h22, h⟩ := ifN h
    refine bv rfl (qaf rfl rfl (b_sadd h22)) ?_
    refine b_op rfl (o_bsl rfl rfl (as_of (cs := [.str (x15 ++ ((([48, 49, 50, 51, 52, 53, 54, 55, 56, 57, 97, 98, 99, 100, 101, 102] : List UInt8).take (IntKind.wrap .i64 (a17.1 + 1)).toNat).drop (a17.1).toNat))]) ty22 ty9 rfl rfl rfl rfl rfl) ?_)
    obtain ⟨h24, h⟩ := ifN h
    refine b_op rfl (o_appE eStr (l := a17.2) (m := [x15 ++ ((([48, 49, 50, 51, 52, 53, 54, 55, 56, 57, 97, 98, 99, 100, 101, 102] : List UInt8).take (IntKind.wrap .i64 (a17.1 + 1)).toNat).drop (a17.1).toNat)]) rfl rfl ty22 ty22 ty9 rfl rfl rfl rfl rfl h24 (fun v23 => ?_))
    refine mv rfl rfl ?_
    refine bf hK (P1 [(7, .ar 97039 v23 eStr.k 0 ((a17.2 ++ [x15 ++ ((([48, 49, 50, 51, 52, 53, 54, 55, 56, 57, 97, 98, 99, 100, 101, 102] : List UInt8).take (IntKind.wrap .i64 (a17.1 + 1)).toNat).drop (a17.1).toNat)]).length)), (9, .str x15), (27, hI p1), (28, hI a5.2), (40, slE eStr a5.1), E4, (42, hI a11.1), (46, hI p0), (47, hI a17.1)] [(97039, v23, .arr eStr.k 9 (eStr.E (a17.2 ++ [x15 ++ ((([48, 49, 50, 51, 52, 53, 54, 55, 56, 57, 97, 98, 99, 100, 101, 102] : List UInt8).take (IntKind.wrap .i64 (a17.1 + 1)).toNat).drop (a17.1).toNat)])))]) ?_
    refine AW.rg rfl fun K hK => bv rfl (qaf rfl rfl b_add) (mv rfl rfl ?_)
    refine qah (hK _ ?_)
    exact to_L ⟨(IntKind.wrap .i64 (a17.1 + 1), a17.2 ++ [x15 ++ ((([48, 49, 50, 51, 52, 53, 54, 55, 56, 57, 97, 98, 99, 100, 101, 102] : List UInt8).take (IntKind.wrap .i64 (a17.1 + 1)).toNat).drop (a17.1).toNat)]), v23, h, rfl⟩
   obtain ⟨hc, h⟩ := cF hc h
   refine AW.exit ?_
   exact to_L ⟨a17.2, w18, h, rfl⟩
  obtain ⟨hc, h⟩ := cF hc h
  refine AW.exit ?_
  exact to_L ⟨a11.2, w12, h, rfl⟩
 obtain ⟨hc, h⟩ := cF hc h
 refine AW.exit ?_
 exact to_L ⟨a5.1, (), h, rfl⟩
theorem w_merging_taken (p0 : qaa) (p1 : List (List UInt8)) (p2 : List (List UInt8)) : Pure Tryz.prog 98 [gA p0, slE eStr p1, slE eStr p2] (· = HV.fn (.func 147) [] [.fptr [slE eStr p1] 0, gF p0, .fptr [slE eStr p2] 0]) := by
 refine Pure.of_body Tryz.func98 rfl rfl (lb rfl) fun hf => ?_
 unfold Tryz.f98
 dsimp only [qaG, Nat.reduceAdd]
 refine AW.rgs rfl fun K hK => b_op rfl (o_box rfl rfl rfl ?_)
 refine b_op rfl (o_box rfl rfl rfl ?_)
 refine b_op rfl (o_box rfl rfl rfl ?_)
 refine mv rfl rfl ?_
 refine bf hK ⟨[(3, gF p0), (4, .fptr [slE eStr p1] 0), (5, .fptr [slE eStr p2] 0)], []⟩ ?_
 refine AW.rgs rfl fun K hK => bv rfl (v_func rfl rfl) (mv rfl rfl ?_)
 refine bf hK ⟨[(6, .fn (.func 147) [] [.fptr [slE eStr p1] 0, gF p0, .fptr [slE eStr p2] 0])], []⟩ ?_
 refine AW.ret ?_
 exact qac (.inr rfl) (resT rfl rfl) rfl ⟨trivial, ⟨⟨(qao fun _ _ => ⟨trivial, trivial⟩), trivial⟩, ⟨trivial, trivial, (qao fun _ _ => ⟨trivial, trivial, trivial, trivial⟩), trivial⟩, ⟨(qao fun _ _ => ⟨trivial, trivial⟩), trivial⟩, trivial⟩⟩
end Go.AW

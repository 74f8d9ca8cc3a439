import Derived.Test.YtnfbggalhcceoaaDoorRe3
namespace Go.AW
open Go Go.Proofs
set_option maxHeartbeats 1600000
set_option maxRecDepth 100000
set_option linter.unusedVariables false
theorem w_parser_build {p0 : TLettersWords} {r : TLettersPrefixesNextEmit} (h : m_parser_build p0 = some r) : Pure Tryd.prog 30 [.agg [hI p0.1, slE eStr p0.2]] (· = HV.agg [hI r.1, slE eStr r.2.1, slE (eSl eInt) r.2.2.1, slE (eSl eInt) r.2.2.2]) := by
 unfold m_parser_build at h
 refine Pure.of_body Tryd.func30 rfl rfl (lb rfl) fun hf => ?_
 unfold Tryd.f30
 dsimp only [enumS, Nat.reduceAdd]
 refine AW.rgs rfl fun K hK => b_op rfl (o_box rfl rfl rfl ?_)
 refine b_op rfl (o_alloc (fid := 30) (zs := [hI 0, .v (.slice none 0 0), .v (.slice none 0 0), .v (.slice none 0 0)]) 30002 rfl rfl ty27 rfl (fun v1 => ?_))
 let E1 : Nat × HV := (1, .fptr [hI p0.1, slE eStr p0.2] 0)
 let O2 : Nat × Nat × AObj := (30002, v1, .arr 4 27 [hI 0, .v (.slice none 0 0), .v (.slice none 0 0), .v (.slice none 0 0)])
 let P1 : ASf := fun t H => ⟨E1 :: (2, .ptr 30002 v1 0) :: t, O2 :: H⟩
 refine bf hK (P1 [] []) ?_
 refine AW.rgs rfl fun K hK => b_op rfl (o_makeMap (fid := 30) (HV.int .i64) 30020 rfl rfl (fun v2 => ?_))
 refine mv rfl rfl ?_
 let O3 : Nat × Nat × AObj := (30020, v2, .map (entE (HV.int .i64) ([] : List (List UInt8 × Int))))
 refine bf hK (P1 [(3, .mp 30020 v2)] [O3]) ?_
 refine AW.rgs rfl fun K hK => bv rfl (v_fieldAddrF fo24_0 rfl) (bv rfl (v_loadF ty3 rfl (l_lit rfl rfl)) ?_)
 refine b_op rfl (o_build (cs := [hI p0.1, .v (.slice none 0 0), .v (.slice none 0 0), .v (.slice none 0 0)]) rfl (bl_of ty27 rfl rfl rfl rfl) ?_)
 refine b_op rfl (o_alloc (fid := 30) (zs := [hI 0, .v (.slice none 0 0), .v (.slice none 0 0), .v (.slice none 0 0)]) 30004 rfl rfl ty27 rfl (fun v3 => ?_))
 refine b_op rfl (o_store (cs := [hI p0.1, .v (.slice none 0 0), .v (.slice none 0 0), .v (.slice none 0 0)]) (zs := [hI p0.1, .v (.slice none 0 0), .v (.slice none 0 0), .v (.slice none 0 0)]) rfl rfl rfl ty27 rfl rfl rfl rfl rfl ?_)
 let O4 : Nat × Nat × AObj := (30004, v3, .arr 4 27 [hI p0.1, .v (.slice none 0 0), .v (.slice none 0 0), .v (.slice none 0 0)])
 refine bf hK (P1 [(3, .mp 30020 v2), (4, .ptr 30004 v3 0)] [O3, O4]) ?_
 refine AW.seq ?_
 refine AW.rgs rfl fun K hK => bv rfl (v_fieldAddrF fo24_1 rfl) (bv rfl (v_loadF ty22 rfl (l_lit rfl rfl)) (bv rfl (v_lenF rfl rfl ty22 rfl) (mv rfl rfl ?_)))
 let E5 : Nat × HV := (26, hI ((p0.2).length : Int))
 refine bf hK (P1 [(3, .mp 30020 v2), (4, .ptr 30004 v3 0), (25, slE eStr p0.2), E5, (27, hI 0)] [O3, O4]) ?_
 refine AW.lpX h (by first | exact up_then | exact up_to) (S := Int × (List (List UInt8 × Int)) × (List (List UInt8))) (V := Nat) (fun a v => (P1 [(3, .mp 30020 v2), (4, .ptr 30004 v3 0), (25, slE eStr p0.2), E5, (27, hI a.1)] [(30004, v3, .arr 4 27 [hI p0.1, .ar 30056 v eStr.k 0 ((a.2.2).length), .v (.slice none 0 0), .v (.slice none 0 0)]), (30020, v2, .map (entE (HV.int .i64) a.2.1)), (30056, v, .arr eStr.k 9 (eStr.E a.2.2))])) ?_ (X := (List (List UInt8 × Int)) × (List (List UInt8))) (W := Nat) (fun a v => (P1 [(3, .mp 30020 v2), (4, .ptr 30004 v3 0)] [(30004, v3, .arr 4 27 [hI p0.1, .ar 30056 v eStr.k 0 ((a.2).length), .v (.slice none 0 0), .v (.slice none 0 0)]), (30020, v2, .map (entE (HV.int .i64) a.1)), (30056, v, .arr eStr.k 9 (eStr.E a.2))])) (fun a25 w26 h => ?_) (fun a4 w5 st6 h => ?_)
 ·refine to_bind (to_ownC 30056 30004 v3 4 1 eStr.k 9 27 rfl rfl (by decide) fun v24 => ?_)
  exact to_le (s' := (P1 [(3, .mp 30020 v2), (4, .ptr 30004 v3 0), (25, slE eStr p0.2), E5, (27, hI 0)] [(30004, v3, .arr 4 27 [hI p0.1, .ar 30056 v24 eStr.k 0 ((([] : List (List UInt8))).length), .v (.slice none 0 0), .v (.slice none 0 0)]), O3, (30056, v24, .arr eStr.k 9 (eStr.E ([] : List (List UInt8))))])) (AS.le_of ⟨rfl, rfl, rfl, rfl, rfl, rfl, rfl, trivial⟩ ⟨rfl, hle rfl (by first | rfl | simp only [List.length_set, sortI_len, sortS_len, sortW_len, List.length_reverse]), rfl, rfl, trivial⟩) ⟨v24, rfl⟩
 ·refine AW.rgs rfl fun K hK => bv rfl (v_fieldAddrP fo27_1 rfl rfl) (bv rfl (v_loadP ty22 rfl rfl (l_lit rfl rfl)) ?_)
  obtain ⟨h27, h⟩ := ifN h
  refine b_op rfl (o_sortW c_sortWp (l := a25.2) rfl rfl rfl rfl h27 ?_)
  let O6 : Nat × Nat × AObj := (30004, v3, .arr 4 27 [hI p0.1, .ar 30056 w26 eStr.k 0 ((sortW a25.2).length), .v (.slice none 0 0), .v (.slice none 0 0)])
  let O7 : Nat × Nat × AObj := (30056, w26, .arr eStr.k 9 (eStr.E (sortW a25.2)))
  refine b_fin hK (s' := (P1 [(3, .mp 30020 v2), (4, .ptr 30004 v3 0)] [O6, (30020, v2, .map (entE (HV.int .i64) a25.1)), O7])) (AS.le_of ⟨rfl, rfl, rfl, rfl, trivial⟩ ⟨rfl, hle rfl (by first | rfl | simp only [List.length_set, sortI_len, sortS_len, sortW_len, List.length_reverse]), rfl, rfl, trivial⟩) ?_
  refine AW.seq ?_
  refine AW.rgs rfl fun K hK => bv rfl (v_fieldAddrP fo27_1 rfl rfl) (bv rfl (v_loadP ty22 rfl rfl (l_lit rfl rfl)) (bv rfl (v_lenA rfl rfl ty22 rfl rfl) (mv rfl rfl ?_)))
  let E8 : Nat × HV := (64, .ar 30056 w26 eStr.k 0 ((sortW a25.2).length))
  let E9 : Nat × HV := (65, hI (((sortW a25.2).length : Nat) : Int))
  refine bf hK (P1 [(3, .mp 30020 v2), (4, .ptr 30004 v3 0), E8, E9, (66, hI 0)] [O6, (30020, v2, .map (entE (HV.int .i64) a25.1)), O7]) ?_
  refine AW.lpX h (by first | exact up_then | exact up_to) (S := Int × (List (List UInt8 × Int))) (V := Unit) (fun a v => (P1 [(3, .mp 30020 v2), (4, .ptr 30004 v3 0), E8, E9, (66, hI a.1)] [O6, (30020, v2, .map (entE (HV.int .i64) a.2)), O7])) ?_ (X := (List (List UInt8 × Int))) (W := Unit) (fun a v => (P1 [(3, .mp 30020 v2), (4, .ptr 30004 v3 0)] [O6, (30020, v2, .map (entE (HV.int .i64) a)), O7])) (fun a36 w37 h => ?_) (fun a28 w29 st30 h => ?_)
  ·exact to_L ⟨(), rfl⟩
  ·refine AW.seq ?_
   refine AW.rgs rfl fun K hK => bv rfl (v_fieldAddrP fo27_1 rfl rfl) (bv rfl (v_loadP ty22 rfl rfl (l_lit rfl rfl)) (bv rfl (v_lenA rfl rfl ty22 rfl rfl) (mv rfl rfl ?_)))
   let E10 : Nat × HV := (76, .ar 30056 w26 eStr.k 0 ((sortW a25.2).length))
   let E11 : Nat × HV := (77, hI (((sortW a25.2).length : Nat) : Int))
   let O12 : Nat × Nat × AObj := (30020, v2, .map (entE (HV.int .i64) a36))
   refine bf hK (P1 [(3, .mp 30020 v2), (4, .ptr 30004 v3 0), E10, E11, (78, hI 0)] [O6, O12, O7]) ?_
   let P2 : ASf := fun t H => ⟨(2, .ptr 30002 v1 0) :: t, H⟩
   refine AW.lpX h (by first | exact up_then | exact up_to) (S := Int × (List (List (Int))) × (List (List (Int)))) (V := Nat × Nat) (fun a v => (P1 [(3, .mp 30020 v2), (4, .ptr 30004 v3 0), E10, E11, (78, hI a.1)] [(30004, v3, .arr 4 27 [hI p0.1, .ar 30056 w26 eStr.k 0 ((sortW a25.2).length), .ar 30133 v.1 (eSl eInt).k 0 ((a.2.1).length), .ar 30138 v.2 (eSl eInt).k 0 ((a.2.2).length)]), O12, O7, (30133, v.1, .arr (eSl eInt).k 39 ((eSl eInt).E a.2.1)), (30138, v.2, .arr (eSl eInt).k 39 ((eSl eInt).E a.2.2))])) ?_ (X := (List (List (Int))) × (List (List (Int)))) (W := Nat × Nat) (fun a v => (P2 [(4, .ptr 30004 v3 0)] [O2, (30004, v3, .arr 4 27 [hI p0.1, .ar 30056 w26 eStr.k 0 ((sortW a25.2).length), .ar 30133 v.1 (eSl eInt).k 0 ((a.1).length), .ar 30138 v.2 (eSl eInt).k 0 ((a.2).length)]), O7, (30133, v.1, .arr (eSl eInt).k 39 ((eSl eInt).E a.1)), (30138, v.2, .arr (eSl eInt).k 39 ((eSl eInt).E a.2))])) (fun a78 w79 h => ?_) (fun a38 w39 st40 h => ?_)
   ·refine to_bind (to_ownC 30133 30004 v3 4 2 (eSl eInt).k 39 27 rfl rfl (by decide) fun v76 => ?_)
    refine to_bind (to_ownC 30138 30004 v3 4 3 (eSl eInt).k 39 27 rfl rfl (by decide) fun v77 => ?_)
    exact to_le (s' := (P1 [(3, .mp 30020 v2), (4, .ptr 30004 v3 0), E10, E11, (78, hI 0)] [(30004, v3, .arr 4 27 [hI p0.1, .ar 30056 w26 eStr.k 0 ((sortW a25.2).length), .ar 30133 v76 (eSl eInt).k 0 ((([] : List (List (Int)))).length), .ar 30138 v77 (eSl eInt).k 0 ((([] : List (List (Int)))).length)]), O12, O7, (30133, v76, .arr (eSl eInt).k 39 ((eSl eInt).E ([] : List (List (Int))))), (30138, v77, .arr (eSl eInt).k 39 ((eSl eInt).E ([] : List (List (Int)))))])) (AS.le_of ⟨rfl, rfl, rfl, rfl, rfl, rfl, rfl, trivial⟩ ⟨rfl, hle rfl (by first | rfl | simp only [List.length_set, sortI_len, sortS_len, sortW_len, List.length_reverse]), rfl, rfl, rfl, rfl, trivial⟩) ⟨(v76, v77), rfl⟩
   ·refine AW.rgs rfl fun K hK => bv rfl (v_loadP ty27 rfl rfl (l_litA rfl (lb rfl) rfl)) ?_
    refine b_op rfl (o_store (cs := [hI p0.1, .ar 30056 w26 eStr.k 0 ((sortW a25.2).length), .ar 30133 w79.1 (eSl eInt).k 0 ((a78.1).length), .ar 30138 w79.2 (eSl eInt).k 0 ((a78.2).length)]) (zs := [hI p0.1, .ar 30056 w26 eStr.k 0 ((sortW a25.2).length), .ar 30133 w79.1 (eSl eInt).k 0 ((a78.1).length), .ar 30138 w79.2 (eSl eInt).k 0 ((a78.2).length)]) rfl rfl rfl ty27 rfl rfl rfl rfl rfl ?_)
    let O13 : Nat × Nat × AObj := (30138, w79.2, .arr (eSl eInt).k 39 ((eSl eInt).E a78.2))
    refine bf hK (P2 [] [(30002, v1, .arr 4 27 [hI p0.1, .ar 30056 w26 eStr.k 0 ((sortW a25.2).length), .ar 30133 w79.1 (eSl eInt).k 0 ((a78.1).length), .ar 30138 w79.2 (eSl eInt).k 0 ((a78.2).length)]), O7, (30133, w79.1, .arr (eSl eInt).k 39 ((eSl eInt).E a78.1)), O13]) ?_
    refine AW.to (to_fill 2 [(30056, w26, .arr eStr.k 9 (eStr.E (sortW a25.2)))] (P2 [] [(30002, v1, .arr 4 27 [hI p0.1, slE eStr (sortW a25.2), .ar 30133 w79.1 (eSl eInt).k 0 ((a78.1).length), .ar 30138 w79.2 (eSl eInt).k 0 ((a78.2).length)]), (30133, w79.1, .arr (eSl eInt).k 39 ((eSl eInt).E a78.1)), O13]) ⟨⟨_, rfl, rfl⟩, trivial⟩ ⟨.inr ⟨_, _, _, rfl, congrArg (AObj.arr 4 27) (congrArg (fun z : HV => [hI p0.1, z, .ar 30133 w79.1 (eSl eInt).k 0 ((a78.1).length), .ar 30138 w79.2 (eSl eInt).k 0 ((a78.2).length)]) (frz_slE eStr (D := [(30056, w26, .arr eStr.k 9 (eStr.E (sortW a25.2)))]) (l := sortW a25.2) rfl fun _ _ => rfl).symm)⟩, .inl rfl, .inl rfl, trivial⟩ ⟨rfl, trivial⟩ ⟨rfl, trivial⟩ ?_)
    refine AW.to (to_fill 2 [(30133, w79.1, .arr (eSl eInt).k 39 ((eSl eInt).E a78.1))] (P2 [] [(30002, v1, .arr 4 27 [hI p0.1, slE eStr (sortW a25.2), slE (eSl eInt) a78.1, .ar 30138 w79.2 (eSl eInt).k 0 ((a78.2).length)]), O13]) ⟨⟨_, rfl, rfl⟩, trivial⟩ ⟨.inr ⟨_, _, _, rfl, congrArg (AObj.arr 4 27) (congrArg (fun z : HV => [hI p0.1, slE eStr (sortW a25.2), z, .ar 30138 w79.2 (eSl eInt).k 0 ((a78.2).length)]) (frz_slE (eSl eInt) (D := [(30133, w79.1, .arr (eSl eInt).k 39 ((eSl eInt).E a78.1))]) (l := a78.1) rfl fun _ _ => rfl).symm)⟩, .inl rfl, trivial⟩ ⟨rfl, trivial⟩ ⟨rfl, trivial⟩ ?_)
    refine AW.to (to_fill 2 [(30138, w79.2, .arr (eSl eInt).k 39 ((eSl eInt).E a78.2))] (P2 [] [(30002, v1, .arr 4 27 [hI p0.1, slE eStr (sortW a25.2), slE (eSl eInt) a78.1, slE (eSl eInt) a78.2])]) ⟨⟨_, rfl, rfl⟩, trivial⟩ ⟨.inr ⟨_, _, _, rfl, congrArg (AObj.arr 4 27) (congrArg (fun z : HV => [hI p0.1, slE eStr (sortW a25.2), slE (eSl eInt) a78.1, z]) (frz_slE (eSl eInt) (D := [(30138, w79.2, .arr (eSl eInt).k 39 ((eSl eInt).E a78.2))]) (l := a78.2) rfl fun _ _ => rfl).symm)⟩, trivial⟩ ⟨rfl, trivial⟩ ⟨rfl, trivial⟩ ?_)
    obtain rfl := oi h
    exact AW.ret (ret_pure (.inr rfl) (resP ty27 rfl rfl (l_litA rfl (lb rfl) rfl) rfl) rfl ⟨trivial, (clean_slE fun _ _ => ⟨trivial, trivial⟩), (clean_slE fun _ _ => ⟨(clean_slE fun _ _ => ⟨trivial, trivial⟩), trivial⟩), (clean_slE fun _ _ => ⟨(clean_slE fun _ _ => ⟨trivial, trivial⟩), trivial⟩), trivial⟩)
   refine AW.rgs rfl fun K hK => bv rfl (v_bin rfl rfl b_lss) ?_
   let O14 : Nat × Nat × AObj := (30004, v3, .arr 4 27 [hI p0.1, .ar 30056 w26 eStr.k 0 ((sortW a25.2).length), .ar 30133 w39.1 (eSl eInt).k 0 ((a38.2.1).length), .ar 30138 w39.2 (eSl eInt).k 0 ((a38.2.2).length)])
   let O15 : Nat × Nat × AObj := (30133, w39.1, .arr (eSl eInt).k 39 ((eSl eInt).E a38.2.1))
   let O16 : Nat × Nat × AObj := (30138, w39.2, .arr (eSl eInt).k 39 ((eSl eInt).E a38.2.2))
   refine bf hK (P1 [(3, .mp 30020 v2), (4, .ptr 30004 v3 0), E10, E11, (78, hI a38.1), (79, .bool (decide (a38.1 < (((sortW a25.2).length : Nat) : Int))))] [O14, O12, O7, O15, O16]) ?_
   refine AW.cseq rfl (fun hc => ?_) (fun hc => ?_)
   ·obtain ⟨hc, h⟩ := cT hc h
    refine AW.skip ?_
    refine AW.seq (AW.block ?_)
    refine AW.rgs rfl fun K hK => ?_
    obtain ⟨x42, h43, h⟩ := bS h
    refine bv rfl (v_idxA ty22 es22 rfl rfl (idx_lt h43) rfl) ?_
    obtain ⟨x44, h45, h⟩ := bS h
    refine bv rfl (v_loadP ty9 rfl rfl (l_cell eStr h45 (o := 0) rfl rfl)) (mv rfl rfl ?_)
    refine bf hK (P1 [(3, .mp 30020 v2), (4, .ptr 30004 v3 0), (13, .str x44), E10, E11, (78, hI a38.1)] [O14, O12, O7, O15, O16]) ?_
    refine AW.dls follows fun K hK F hF => ?_
    obtain ⟨h460202, h⟩ := ifN h
    obtain ⟨h460502, h⟩ := ifN h
    refine l_go (L' := []) hF rfl (s' := (P1 [(3, .mp 30020 v2), (4, .ptr 30004 v3 0), (13, .str x44), E10, E11, (78, hI a38.1)] [O14, O12, O7, O15, O16])) ?_ (le_q rfl rfl)
    have g46_10 : ∀ (v460201 : Nat) (v460501 : Nat), F [0, 1, 2, 3, 4, 5, 6, 7] (P1 [(3, .mp 30020 v2), (4, .ptr 30004 v3 0), (13, .str x44), (14, .ar 30084 v460201 eInt.k 0 ((List.replicate (p0.1).toNat (0 : Int)).length)), (15, .ar 30087 v460501 eInt.k 0 ((List.replicate (p0.1).toNat (0 : Int)).length)), E10, E11, (78, hI a38.1)] [O14, O12, O7, O15, O16, (30084, v460201, .arr eInt.k 3 (eInt.E (List.replicate (p0.1).toNat (0 : Int)))), (30087, v460501, .arr eInt.k 3 (eInt.E (List.replicate (p0.1).toNat (0 : Int))))]) := by
     intro v460201 v460501
     let E17 : Nat × HV := (14, .ar 30084 v460201 eInt.k 0 ((List.replicate (p0.1).toNat (0 : Int)).length))
     let E18 : Nat × HV := (15, .ar 30087 v460501 eInt.k 0 ((List.replicate (p0.1).toNat (0 : Int)).length))
     let O19 : Nat × Nat × AObj := (30084, v460201, .arr eInt.k 3 (eInt.E (List.replicate (p0.1).toNat (0 : Int))))
     let O20 : Nat × Nat × AObj := (30087, v460501, .arr eInt.k 3 (eInt.E (List.replicate (p0.1).toNat (0 : Int))))
     refine l_done hF rfl rfl (hK _ (AW.to (to_le (s' := (P1 [(3, .mp 30020 v2), (4, .ptr 30004 v3 0), (13, .str x44), E17, E18, E10, E11, (78, hI a38.1)] [O14, O12, O7, O15, O16, O19, O20])) (le_q rfl rfl) ?_)))
     refine AW.seq ?_
     refine AW.rgs rfl fun K hK => bv rfl (v_fieldAddrF fo24_0 rfl) (bv rfl (v_loadF ty3 rfl (l_lit rfl rfl)) (mv rfl rfl ?_))
     refine bf hK (P1 [(3, .mp 30020 v2), (4, .ptr 30004 v3 0), (13, .str x44), E17, E18, E10, E11, (78, hI a38.1), (89, hI p0.1), (90, hI 0)] [O14, O12, O7, O15, O16, O19, O20]) ?_
     refine AW.lpX h (by first | exact up_then | exact up_to) (S := Int × (List Int) × (List Int)) (V := Unit) (fun a v => (P1 [(3, .mp 30020 v2), (4, .ptr 30004 v3 0), (13, .str x44), (14, .ar 30084 v460201 eInt.k 0 ((a.2.1).length)), (15, .ar 30087 v460501 eInt.k 0 ((a.2.2).length)), E10, E11, (78, hI a38.1), (89, hI p0.1), (90, hI a.1)] [O14, O12, O7, (30084, v460201, .arr eInt.k 3 (eInt.E a.2.1)), (30087, v460501, .arr eInt.k 3 (eInt.E a.2.2)), O15, O16])) ?_ (X := (List Int) × (List Int)) (W := Unit) (fun a v => (P1 [(3, .mp 30020 v2), (4, .ptr 30004 v3 0), (14, .ar 30084 v460201 eInt.k 0 ((a.1).length)), (15, .ar 30087 v460501 eInt.k 0 ((a.2).length)), E10, E11, (78, hI a38.1)] [O14, O12, O7, (30084, v460201, .arr eInt.k 3 (eInt.E a.1)), (30087, v460501, .arr eInt.k 3 (eInt.E a.2)), O15, O16])) (fun a73 w74 h => ?_) (fun a47 w48 st49 h => ?_)
     ·exact to_L ⟨(), rfl⟩
     ·refine AW.to (to_frz 2 [(30084, v460201, .arr eInt.k 3 (eInt.E a73.1))] (P1 [(3, .mp 30020 v2), (4, .ptr 30004 v3 0), (14, slE eInt a73.1), (15, .ar 30087 v460501 eInt.k 0 ((a73.2).length)), E10, E11, (78, hI a38.1)] [O14, O12, O7, (30087, v460501, .arr eInt.k 3 (eInt.E a73.2)), O15, O16]) ⟨⟨_, rfl, rfl⟩, ⟨_, rfl, rfl⟩, ⟨_, rfl, rfl⟩, ⟨_, rfl, rfl⟩, ⟨_, rfl, frz_slE eInt (l := a73.1) rfl fun _ _ => rfl⟩, ⟨_, rfl, rfl⟩, ⟨_, rfl, rfl⟩, ⟨_, rfl, rfl⟩, ⟨_, rfl, rfl⟩, trivial⟩ ⟨rfl, rfl, rfl, rfl, rfl, rfl, rfl, trivial⟩ ⟨rfl, trivial⟩ ⟨rfl, trivial⟩ ?_)
      refine AW.to (to_frz 2 [(30087, v460501, .arr eInt.k 3 (eInt.E a73.2))] (P1 [(3, .mp 30020 v2), (4, .ptr 30004 v3 0), (14, slE eInt a73.1), (15, slE eInt a73.2), E10, E11, (78, hI a38.1)] [O14, O12, O7, O15, O16]) ⟨⟨_, rfl, rfl⟩, ⟨_, rfl, rfl⟩, ⟨_, rfl, rfl⟩, ⟨_, rfl, rfl⟩, ⟨_, rfl, rfl⟩, ⟨_, rfl, frz_slE eInt (l := a73.2) rfl fun _ _ => rfl⟩, ⟨_, rfl, rfl⟩, ⟨_, rfl, rfl⟩, ⟨_, rfl, rfl⟩, trivial⟩ ⟨rfl, rfl, rfl, rfl, rfl, rfl, trivial⟩ ⟨rfl, trivial⟩ ⟨rfl, trivial⟩ ?_)
      refine AW.dl follows fun K hK F hF => ?_
      obtain ⟨h750402, h⟩ := ifN h
      obtain ⟨h750902, h⟩ := ifN h
      refine l_go (L' := []) hF rfl (s' := (P1 [(3, .mp 30020 v2), (4, .ptr 30004 v3 0), (14, slE eInt a73.1), (15, slE eInt a73.2), E10, E11, (78, hI a38.1)] [O14, O12, O7, O15, O16])) ?_ (le_q rfl rfl)
      have g75_20 : ∀ (v750401 : Nat) (v750901 : Nat), F [0, 1, 2, 3, 4, 5, 6, 7, 8, 9, 10, 11, 12, 13] (P1 [(3, .mp 30020 v2), (4, .ptr 30004 v3 0), E10, E11, (78, hI a38.1)] [(30004, v3, .arr 4 27 [hI p0.1, .ar 30056 w26 eStr.k 0 ((sortW a25.2).length), .ar 30133 v750401 (eSl eInt).k 0 ((a38.2.1 ++ [a73.1]).length), .ar 30138 v750901 (eSl eInt).k 0 ((a38.2.2 ++ [a73.2]).length)]), O12, O7, (30133, v750401, .arr (eSl eInt).k 39 ((eSl eInt).E (a38.2.1 ++ [a73.1]))), (30138, v750901, .arr (eSl eInt).k 39 ((eSl eInt).E (a38.2.2 ++ [a73.2])))]) := by
       intro v750401 v750901
       refine l_done hF rfl rfl (hK _ (AW.to (to_le (s' := (P1 [(3, .mp 30020 v2), (4, .ptr 30004 v3 0), E10, E11, (78, hI a38.1)] [(30004, v3, .arr 4 27 [hI p0.1, .ar 30056 w26 eStr.k 0 ((sortW a25.2).length), .ar 30133 v750401 (eSl eInt).k 0 ((a38.2.1 ++ [a73.1]).length), .ar 30138 v750901 (eSl eInt).k 0 ((a38.2.2 ++ [a73.2]).length)]), O12, O7, (30133, v750401, .arr (eSl eInt).k 39 ((eSl eInt).E (a38.2.1 ++ [a73.1]))), (30138, v750901, .arr (eSl eInt).k 39 ((eSl eInt).E (a38.2.2 ++ [a73.2])))])) (le_q rfl rfl) ?_)))
       refine AW.rg rfl fun K hK => bv rfl (v_bin rfl rfl b_add) (mv rfl rfl ?_)
       refine b_nil (hK _ ?_)
       exact to_L ⟨(IntKind.wrap .i64 (a38.1 + 1), a38.2.1 ++ [a73.1], a38.2.2 ++ [a73.2]), (v750401, v750901), h, rfl⟩
      have g75_19 : ∀ (v750401 : Nat) (v750901 : Nat), F [0, 1, 2, 3, 4, 5, 6, 7, 8, 9, 10, 11, 12] (P1 [(3, .mp 30020 v2), (4, .ptr 30004 v3 0), E10, E11, (78, hI a38.1), (138, .ar 30138 v750901 (eSl eInt).k 0 ((a38.2.2 ++ [a73.2]).length)), (140, .ptr 30004 v3 3)] [(30004, v3, .arr 4 27 [hI p0.1, .ar 30056 w26 eStr.k 0 ((sortW a25.2).length), .ar 30133 v750401 (eSl eInt).k 0 ((a38.2.1 ++ [a73.1]).length), .ar 30138 w39.2 (eSl eInt).k 0 ((a38.2.2).length)]), O12, O7, (30133, v750401, .arr (eSl eInt).k 39 ((eSl eInt).E (a38.2.1 ++ [a73.1]))), (30138, v750901, .arr (eSl eInt).k 39 ((eSl eInt).E (a38.2.2 ++ [a73.2])))]) := by
       intro v750401 v750901
       refine l_step hF rfl [13] rfl rfl ⟨?_, trivial⟩
       refine l_op rfl rfl rfl (o_store (cs := [.ar 30138 v750901 (eSl eInt).k 0 ((a38.2.2 ++ [a73.2]).length)]) (zs := [hI p0.1, .ar 30056 w26 eStr.k 0 ((sortW a25.2).length), .ar 30133 v750401 (eSl eInt).k 0 ((a38.2.1 ++ [a73.1]).length), .ar 30138 v750901 (eSl eInt).k 0 ((a38.2.2 ++ [a73.2]).length)]) rfl rfl rfl ty25 rfl rfl rfl rfl rfl ?_)
       exact b_nil (lg hF (g75_20 v750401 v750901))
      have g75_18 : ∀ (v750401 : Nat) (v750901 : Nat), F [0, 1, 2, 3, 4, 5, 6, 7, 8, 9, 10, 11] (P1 [(3, .mp 30020 v2), (4, .ptr 30004 v3 0), E10, E11, (78, hI a38.1), (138, .ar 30138 v750901 (eSl eInt).k 0 ((a38.2.2 ++ [a73.2]).length))] [(30004, v3, .arr 4 27 [hI p0.1, .ar 30056 w26 eStr.k 0 ((sortW a25.2).length), .ar 30133 v750401 (eSl eInt).k 0 ((a38.2.1 ++ [a73.1]).length), .ar 30138 w39.2 (eSl eInt).k 0 ((a38.2.2).length)]), O12, O7, (30133, v750401, .arr (eSl eInt).k 39 ((eSl eInt).E (a38.2.1 ++ [a73.1]))), (30138, v750901, .arr (eSl eInt).k 39 ((eSl eInt).E (a38.2.2 ++ [a73.2])))]) := by
       intro v750401 v750901
       refine l_take (i := 12) hF rfl rfl rfl (v_fieldAddrP fo27_3 rfl rfl) ?_
       exact lg hF (g75_19 v750401 v750901)
      have g75_17 : ∀ (v750401 : Nat) (v750901 : Nat), F [0, 1, 2, 3, 4, 5, 6, 7, 8, 9, 10] (P1 [(3, .mp 30020 v2), (4, .ptr 30004 v3 0), E10, E11, (78, hI a38.1), (133, .ar 30133 v750401 (eSl eInt).k 0 ((a38.2.1 ++ [a73.1]).length)), (138, .ar 30138 v750901 (eSl eInt).k 0 ((a38.2.2 ++ [a73.2]).length)), (139, .ptr 30004 v3 2)] [O14, O12, O7, (30133, v750401, .arr (eSl eInt).k 39 ((eSl eInt).E (a38.2.1 ++ [a73.1]))), (30138, v750901, .arr (eSl eInt).k 39 ((eSl eInt).E (a38.2.2 ++ [a73.2])))]) := by
       intro v750401 v750901
       refine l_step hF rfl [11] rfl rfl ⟨?_, trivial⟩
       refine l_op rfl rfl rfl (o_store (cs := [.ar 30133 v750401 (eSl eInt).k 0 ((a38.2.1 ++ [a73.1]).length)]) (zs := [hI p0.1, .ar 30056 w26 eStr.k 0 ((sortW a25.2).length), .ar 30133 v750401 (eSl eInt).k 0 ((a38.2.1 ++ [a73.1]).length), .ar 30138 w39.2 (eSl eInt).k 0 ((a38.2.2).length)]) rfl rfl rfl ty25 rfl rfl rfl rfl rfl ?_)
       exact b_nil (lg hF (g75_18 v750401 v750901))
      let P : ASf := fun t H => ⟨(1, .fptr [hI p0.1, slE eStr p0.2] 0) :: (2, .ptr 30002 v1 0) :: (3, .mp 30020 v2) :: (4, .ptr 30004 v3 0) :: (76, .ar 30056 w26 eStr.k 0 ((sortW a25.2).length)) :: (77, hI (((sortW a25.2).length : Nat) : Int)) :: (78, hI a38.1) :: t, (30002, v1, .arr 4 27 [hI 0, .v (.slice none 0 0), .v (.slice none 0 0), .v (.slice none 0 0)]) :: (30004, v3, .arr 4 27 [hI p0.1, .ar 30056 w26 eStr.k 0 ((sortW a25.2).length), .ar 30133 w39.1 (eSl eInt).k 0 ((a38.2.1).length), .ar 30138 w39.2 (eSl eInt).k 0 ((a38.2.2).length)]) :: (30020, v2, .map (entE (HV.int .i64) a36)) :: (30056, w26, .arr eStr.k 9 (eStr.E (sortW a25.2))) :: (30133, w39.1, .arr (eSl eInt).k 39 ((eSl eInt).E a38.2.1)) :: (30138, w39.2, .arr (eSl eInt).k 39 ((eSl eInt).E a38.2.2)) :: H⟩
      let E21 : Nat × HV := (135, .ar 30138 w39.2 (eSl eInt).k 0 ((a38.2.2).length))
      have g75_16 : ∀ (v750401 : Nat), F [0, 1, 2, 3, 4, 5, 6, 7, 8, 10] (P1 [(3, .mp 30020 v2), (4, .ptr 30004 v3 0), E10, E11, (78, hI a38.1), (133, .ar 30133 v750401 (eSl eInt).k 0 ((a38.2.1 ++ [a73.1]).length)), E21, (137, slE (eSl eInt) [a73.2]), (139, .ptr 30004 v3 2)] [O14, O12, O7, (30133, v750401, .arr (eSl eInt).k 39 ((eSl eInt).E (a38.2.1 ++ [a73.1]))), O16]) := by
       intro v750401
       refine l_step hF rfl [9] rfl rfl ⟨?_, trivial⟩
       refine l_op rfl rfl rfl (o_appE (eSl eInt) (l := a38.2.2) (m := [a73.2]) rfl rfl ty25 ty25 ty39 rfl rfl rfl rfl rfl h750902 (fun v750901 => ?_))
       exact b_nil (lg hF (g75_17 v750401 v750901))
      have g75_15 : ∀ (v750401 : Nat), F [0, 1, 2, 3, 4, 5, 6, 7, 8] (P1 [(3, .mp 30020 v2), (4, .ptr 30004 v3 0), E10, E11, (78, hI a38.1), (133, .ar 30133 v750401 (eSl eInt).k 0 ((a38.2.1 ++ [a73.1]).length)), E21, (137, slE (eSl eInt) [a73.2])] [O14, O12, O7, (30133, v750401, .arr (eSl eInt).k 39 ((eSl eInt).E (a38.2.1 ++ [a73.1]))), O16]) := by
       intro v750401
       refine l_take (i := 10) hF rfl rfl rfl (v_fieldAddrP fo27_2 rfl rfl) ?_
       exact lg hF (g75_16 v750401)
      have g75_27 : ∀ (v750401 : Nat), F [0, 1, 2, 3, 4, 5, 6, 7, 10] (P1 [(3, .mp 30020 v2), (4, .ptr 30004 v3 0), E10, E11, (78, hI a38.1), (133, .ar 30133 v750401 (eSl eInt).k 0 ((a38.2.1 ++ [a73.1]).length)), E21, (136, slE eInt a73.2), (139, .ptr 30004 v3 2)] [O14, O12, O7, (30133, v750401, .arr (eSl eInt).k 39 ((eSl eInt).E (a38.2.1 ++ [a73.1]))), O16]) := by
       intro v750401
       refine l_step hF rfl [8] rfl rfl ⟨?_, trivial⟩
       refine l_op rfl rfl rfl (o_bsl rfl rfl (as_of (cs := [slE eInt a73.2]) ty25 ty39 rfl rfl rfl rfl rfl) ?_)
       exact b_nil (lg hF (g75_16 v750401))
      have g75_14 : F [0, 1, 2, 3, 5, 6, 7, 8] (P [(130, .ar 30133 w39.1 (eSl eInt).k 0 ((a38.2.1).length)), (132, slE (eSl eInt) [a73.1]), (135, .ar 30138 w39.2 (eSl eInt).k 0 ((a38.2.2).length)), (137, slE (eSl eInt) [a73.2])] []) := by
       refine l_step hF rfl [4] rfl rfl ⟨?_, trivial⟩
       refine l_op rfl rfl rfl (o_appE (eSl eInt) (l := a38.2.1) (m := [a73.1]) rfl rfl ty25 ty25 ty39 rfl rfl rfl rfl rfl h750402 (fun v750401 => ?_))
       exact b_nil (lg hF (g75_15 v750401))
      have g75_22 : ∀ (v750401 : Nat), F [0, 1, 2, 3, 4, 5, 7, 8] (P1 [(3, .mp 30020 v2), (4, .ptr 30004 v3 0), E10, E11, (78, hI a38.1), (133, .ar 30133 v750401 (eSl eInt).k 0 ((a38.2.1 ++ [a73.1]).length)), (134, .ptr 30004 v3 3), (137, slE (eSl eInt) [a73.2])] [O14, O12, O7, (30133, v750401, .arr (eSl eInt).k 39 ((eSl eInt).E (a38.2.1 ++ [a73.1]))), O16]) := by
       intro v750401
       refine l_step hF rfl [6] rfl rfl ⟨?_, trivial⟩
       exact l_ov rfl rfl rfl rfl (v_loadP ty25 rfl rfl (l_lit rfl rfl)) (lg hF (g75_15 v750401))
      have g75_26 : ∀ (v750401 : Nat), F [0, 1, 2, 3, 4, 5, 6, 7] (P1 [(3, .mp 30020 v2), (4, .ptr 30004 v3 0), E10, E11, (78, hI a38.1), (133, .ar 30133 v750401 (eSl eInt).k 0 ((a38.2.1 ++ [a73.1]).length)), E21, (136, slE eInt a73.2)] [O14, O12, O7, (30133, v750401, .arr (eSl eInt).k 39 ((eSl eInt).E (a38.2.1 ++ [a73.1]))), O16]) := by
       intro v750401
       refine l_take (i := 10) hF rfl rfl rfl (v_fieldAddrP fo27_2 rfl rfl) ?_
       exact lg hF (g75_27 v750401)
      have g75_12 : F [0, 1, 2, 5, 6, 7, 8] (P [(130, .ar 30133 w39.1 (eSl eInt).k 0 ((a38.2.1).length)), (131, slE eInt a73.1), (135, .ar 30138 w39.2 (eSl eInt).k 0 ((a38.2.2).length)), (137, slE (eSl eInt) [a73.2])] []) := by
       refine l_step hF rfl [3] rfl rfl ⟨?_, trivial⟩
       refine l_op rfl rfl rfl (o_bsl rfl rfl (as_of (cs := [slE eInt a73.1]) ty25 ty39 rfl rfl rfl rfl rfl) ?_)
       exact b_nil (lg hF (g75_14))
      have g75_13 : F [0, 2, 3, 5, 6, 7, 8] (P [(129, .ptr 30004 v3 2), (132, slE (eSl eInt) [a73.1]), (135, .ar 30138 w39.2 (eSl eInt).k 0 ((a38.2.2).length)), (137, slE (eSl eInt) [a73.2])] []) := by
       refine l_step hF rfl [1] rfl rfl ⟨?_, trivial⟩
       exact l_ov rfl rfl rfl rfl (v_loadP ty25 rfl rfl (l_lit rfl rfl)) (lg hF (g75_14))
      have g75_21 : F [0, 1, 2, 3, 5, 7, 8] (P [(130, .ar 30133 w39.1 (eSl eInt).k 0 ((a38.2.1).length)), (132, slE (eSl eInt) [a73.1]), (134, .ptr 30004 v3 3), (137, slE (eSl eInt) [a73.2])] []) := by
       refine l_step hF rfl [4, 6] rfl rfl ⟨?_, ?_, trivial⟩
       ·refine l_op rfl rfl rfl (o_appE (eSl eInt) (l := a38.2.1) (m := [a73.1]) rfl rfl ty25 ty25 ty39 rfl rfl rfl rfl rfl h750402 (fun v750401 => ?_))
        exact b_nil (lg hF (g75_22 v750401))
       exact l_ov rfl rfl rfl rfl (v_loadP ty25 rfl rfl (l_lit rfl rfl)) (lg hF (g75_14))
      have g75_25 : F [0, 1, 2, 3, 5, 6, 7] (P [(130, .ar 30133 w39.1 (eSl eInt).k 0 ((a38.2.1).length)), (132, slE (eSl eInt) [a73.1]), (135, .ar 30138 w39.2 (eSl eInt).k 0 ((a38.2.2).length)), (136, slE eInt a73.2)] []) := by
       refine l_step hF rfl [4, 8] rfl rfl ⟨?_, ?_, trivial⟩
       ·refine l_op rfl rfl rfl (o_appE (eSl eInt) (l := a38.2.1) (m := [a73.1]) rfl rfl ty25 ty25 ty39 rfl rfl rfl rfl rfl h750402 (fun v750401 => ?_))
        exact b_nil (lg hF (g75_26 v750401))
       refine l_op rfl rfl rfl (o_bsl rfl rfl (as_of (cs := [slE eInt a73.2]) ty25 ty39 rfl rfl rfl rfl rfl) ?_)
       exact b_nil (lg hF (g75_14))
      have g75_29 : ∀ (v750401 : Nat), F [0, 1, 2, 3, 4, 5, 7] (P1 [(3, .mp 30020 v2), (4, .ptr 30004 v3 0), E10, E11, (78, hI a38.1), (133, .ar 30133 v750401 (eSl eInt).k 0 ((a38.2.1 ++ [a73.1]).length)), (134, .ptr 30004 v3 3), (136, slE eInt a73.2)] [O14, O12, O7, (30133, v750401, .arr (eSl eInt).k 39 ((eSl eInt).E (a38.2.1 ++ [a73.1]))), O16]) := by
       intro v750401
       refine l_step hF rfl [6, 8] rfl rfl ⟨?_, ?_, trivial⟩
       ·exact l_ov rfl rfl rfl rfl (v_loadP ty25 rfl rfl (l_lit rfl rfl)) (lg hF (g75_26 v750401))
       refine l_op rfl rfl rfl (o_bsl rfl rfl (as_of (cs := [slE eInt a73.2]) ty25 ty39 rfl rfl rfl rfl rfl) ?_)
       exact b_nil (lg hF (g75_22 v750401))
      have g75_9 : F [0, 1, 2, 5, 7, 8] (P [(130, .ar 30133 w39.1 (eSl eInt).k 0 ((a38.2.1).length)), (131, slE eInt a73.1), (134, .ptr 30004 v3 3), (137, slE (eSl eInt) [a73.2])] []) := by
       refine l_step hF rfl [3, 6] rfl rfl ⟨?_, ?_, trivial⟩
       ·refine l_op rfl rfl rfl (o_bsl rfl rfl (as_of (cs := [slE eInt a73.1]) ty25 ty39 rfl rfl rfl rfl rfl) ?_)
        exact b_nil (lg hF (g75_21))
       exact l_ov rfl rfl rfl rfl (v_loadP ty25 rfl rfl (l_lit rfl rfl)) (lg hF (g75_12))
      have g75_10 : F [0, 2, 3, 5, 7, 8] (P [(129, .ptr 30004 v3 2), (132, slE (eSl eInt) [a73.1]), (134, .ptr 30004 v3 3), (137, slE (eSl eInt) [a73.2])] []) := by
       refine l_step hF rfl [1, 6] rfl rfl ⟨?_, ?_, trivial⟩
       ·exact l_ov rfl rfl rfl rfl (v_loadP ty25 rfl rfl (l_lit rfl rfl)) (lg hF (g75_21))
       exact l_ov rfl rfl rfl rfl (v_loadP ty25 rfl rfl (l_lit rfl rfl)) (lg hF (g75_13))
      have g75_11 : F [0, 2, 5, 6, 7, 8] (P [(129, .ptr 30004 v3 2), (131, slE eInt a73.1), (135, .ar 30138 w39.2 (eSl eInt).k 0 ((a38.2.2).length)), (137, slE (eSl eInt) [a73.2])] []) := by
       refine l_step hF rfl [1, 3] rfl rfl ⟨?_, ?_, trivial⟩
       ·exact l_ov rfl rfl rfl rfl (v_loadP ty25 rfl rfl (l_lit rfl rfl)) (lg hF (g75_12))
       refine l_op rfl rfl rfl (o_bsl rfl rfl (as_of (cs := [slE eInt a73.1]) ty25 ty39 rfl rfl rfl rfl rfl) ?_)
       exact b_nil (lg hF (g75_13))
      have g75_23 : F [0, 1, 2, 5, 6, 7] (P [(130, .ar 30133 w39.1 (eSl eInt).k 0 ((a38.2.1).length)), (131, slE eInt a73.1), (135, .ar 30138 w39.2 (eSl eInt).k 0 ((a38.2.2).length)), (136, slE eInt a73.2)] []) := by
       refine l_step hF rfl [3, 8] rfl rfl ⟨?_, ?_, trivial⟩
       ·refine l_op rfl rfl rfl (o_bsl rfl rfl (as_of (cs := [slE eInt a73.1]) ty25 ty39 rfl rfl rfl rfl rfl) ?_)
        exact b_nil (lg hF (g75_25))
       refine l_op rfl rfl rfl (o_bsl rfl rfl (as_of (cs := [slE eInt a73.2]) ty25 ty39 rfl rfl rfl rfl rfl) ?_)
       exact b_nil (lg hF (g75_12))
      have g75_24 : F [0, 2, 3, 5, 6, 7] (P [(129, .ptr 30004 v3 2), (132, slE (eSl eInt) [a73.1]), (135, .ar 30138 w39.2 (eSl eInt).k 0 ((a38.2.2).length)), (136, slE eInt a73.2)] []) := by
       refine l_step hF rfl [1, 8] rfl rfl ⟨?_, ?_, trivial⟩
       ·exact l_ov rfl rfl rfl rfl (v_loadP ty25 rfl rfl (l_lit rfl rfl)) (lg hF (g75_25))
       refine l_op rfl rfl rfl (o_bsl rfl rfl (as_of (cs := [slE eInt a73.2]) ty25 ty39 rfl rfl rfl rfl rfl) ?_)
       exact b_nil (lg hF (g75_13))
      have g75_28 : F [0, 1, 2, 3, 5, 7] (P [(130, .ar 30133 w39.1 (eSl eInt).k 0 ((a38.2.1).length)), (132, slE (eSl eInt) [a73.1]), (134, .ptr 30004 v3 3), (136, slE eInt a73.2)] []) := by
       refine l_step hF rfl [4, 6, 8] rfl rfl ⟨?_, ?_, ?_, trivial⟩
       ·refine l_op rfl rfl rfl (o_appE (eSl eInt) (l := a38.2.1) (m := [a73.1]) rfl rfl ty25 ty25 ty39 rfl rfl rfl rfl rfl h750402 (fun v750401 => ?_))
        exact b_nil (lg hF (g75_29 v750401))
       ·exact l_ov rfl rfl rfl rfl (v_loadP ty25 rfl rfl (l_lit rfl rfl)) (lg hF (g75_25))
       refine l_op rfl rfl rfl (o_bsl rfl rfl (as_of (cs := [slE eInt a73.2]) ty25 ty39 rfl rfl rfl rfl rfl) ?_)
       exact b_nil (lg hF (g75_21))
      have g75_5 : F [0, 1, 2, 5, 7] (P [(130, .ar 30133 w39.1 (eSl eInt).k 0 ((a38.2.1).length)), (131, slE eInt a73.1), (134, .ptr 30004 v3 3), (136, slE eInt a73.2)] []) := by
       refine l_step hF rfl [3, 6, 8] rfl rfl ⟨?_, ?_, ?_, trivial⟩
       ·refine l_op rfl rfl rfl (o_bsl rfl rfl (as_of (cs := [slE eInt a73.1]) ty25 ty39 rfl rfl rfl rfl rfl) ?_)
        exact b_nil (lg hF (g75_28))
       ·exact l_ov rfl rfl rfl rfl (v_loadP ty25 rfl rfl (l_lit rfl rfl)) (lg hF (g75_23))
       refine l_op rfl rfl rfl (o_bsl rfl rfl (as_of (cs := [slE eInt a73.2]) ty25 ty39 rfl rfl rfl rfl rfl) ?_)
       exact b_nil (lg hF (g75_9))
      have g75_6 : F [0, 2, 3, 5, 7] (P [(129, .ptr 30004 v3 2), (132, slE (eSl eInt) [a73.1]), (134, .ptr 30004 v3 3), (136, slE eInt a73.2)] []) := by
       refine l_step hF rfl [1, 6, 8] rfl rfl ⟨?_, ?_, ?_, trivial⟩
       ·exact l_ov rfl rfl rfl rfl (v_loadP ty25 rfl rfl (l_lit rfl rfl)) (lg hF (g75_28))
       ·exact l_ov rfl rfl rfl rfl (v_loadP ty25 rfl rfl (l_lit rfl rfl)) (lg hF (g75_24))
       refine l_op rfl rfl rfl (o_bsl rfl rfl (as_of (cs := [slE eInt a73.2]) ty25 ty39 rfl rfl rfl rfl rfl) ?_)
       exact b_nil (lg hF (g75_10))
      have g75_7 : F [0, 2, 5, 6, 7] (P [(129, .ptr 30004 v3 2), (131, slE eInt a73.1), (135, .ar 30138 w39.2 (eSl eInt).k 0 ((a38.2.2).length)), (136, slE eInt a73.2)] []) := by
       refine l_step hF rfl [1, 3, 8] rfl rfl ⟨?_, ?_, ?_, trivial⟩
       ·exact l_ov rfl rfl rfl rfl (v_loadP ty25 rfl rfl (l_lit rfl rfl)) (lg hF (g75_23))
       ·refine l_op rfl rfl rfl (o_bsl rfl rfl (as_of (cs := [slE eInt a73.1]) ty25 ty39 rfl rfl rfl rfl rfl) ?_)
        exact b_nil (lg hF (g75_24))
       refine l_op rfl rfl rfl (o_bsl rfl rfl (as_of (cs := [slE eInt a73.2]) ty25 ty39 rfl rfl rfl rfl rfl) ?_)
       exact b_nil (lg hF (g75_11))
      have g75_8 : F [0, 2, 5, 7, 8] (P [(129, .ptr 30004 v3 2), (131, slE eInt a73.1), (134, .ptr 30004 v3 3), (137, slE (eSl eInt) [a73.2])] []) := by
       refine l_step hF rfl [1, 3, 6] rfl rfl ⟨?_, ?_, ?_, trivial⟩
       ·exact l_ov rfl rfl rfl rfl (v_loadP ty25 rfl rfl (l_lit rfl rfl)) (lg hF (g75_9))
       ·refine l_op rfl rfl rfl (o_bsl rfl rfl (as_of (cs := [slE eInt a73.1]) ty25 ty39 rfl rfl rfl rfl rfl) ?_)
        exact b_nil (lg hF (g75_10))
       exact l_ov rfl rfl rfl rfl (v_loadP ty25 rfl rfl (l_lit rfl rfl)) (lg hF (g75_11))
      have g75_4 : F [0, 2, 5, 7] (P [(129, .ptr 30004 v3 2), (131, slE eInt a73.1), (134, .ptr 30004 v3 3), (136, slE eInt a73.2)] []) := by
       refine l_step hF rfl [1, 3, 6, 8] rfl rfl ⟨?_, ?_, ?_, ?_, trivial⟩
       ·exact l_ov rfl rfl rfl rfl (v_loadP ty25 rfl rfl (l_lit rfl rfl)) (lg hF (g75_5))
       ·refine l_op rfl rfl rfl (o_bsl rfl rfl (as_of (cs := [slE eInt a73.1]) ty25 ty39 rfl rfl rfl rfl rfl) ?_)
        exact b_nil (lg hF (g75_6))
       ·exact l_ov rfl rfl rfl rfl (v_loadP ty25 rfl rfl (l_lit rfl rfl)) (lg hF (g75_7))
       refine l_op rfl rfl rfl (o_bsl rfl rfl (as_of (cs := [slE eInt a73.2]) ty25 ty39 rfl rfl rfl rfl rfl) ?_)
       exact b_nil (lg hF (g75_8))
      have g75_3 : F [0, 2, 5] (P1 [(3, .mp 30020 v2), (4, .ptr 30004 v3 0), (15, slE eInt a73.2), E10, E11, (78, hI a38.1), (129, .ptr 30004 v3 2), (131, slE eInt a73.1), (134, .ptr 30004 v3 3)] [O14, O12, O7, O15, O16]) := by
       refine l_take (i := 7) hF rfl rfl rfl (mv_val rfl rfl).2 ?_
       exact lg hF (g75_4)
      have g75_2 : F [0, 2] (P1 [(3, .mp 30020 v2), (4, .ptr 30004 v3 0), (15, slE eInt a73.2), E10, E11, (78, hI a38.1), (129, .ptr 30004 v3 2), (131, slE eInt a73.1)] [O14, O12, O7, O15, O16]) := by
       refine l_take (i := 5) hF rfl rfl rfl (v_fieldAddrP fo27_3 rfl rfl) ?_
       exact lg hF (g75_3)
      have g75_1 : F [0] (P1 [(3, .mp 30020 v2), (4, .ptr 30004 v3 0), (14, slE eInt a73.1), (15, slE eInt a73.2), E10, E11, (78, hI a38.1), (129, .ptr 30004 v3 2)] [O14, O12, O7, O15, O16]) := by
       refine l_take (i := 2) hF rfl rfl rfl (mv_val rfl rfl).2 ?_
       exact lg hF (g75_2)
      have g75_0 : F [] (P1 [(3, .mp 30020 v2), (4, .ptr 30004 v3 0), (14, slE eInt a73.1), (15, slE eInt a73.2), E10, E11, (78, hI a38.1)] [O14, O12, O7, O15, O16]) := by
       refine l_take (i := 0) hF rfl rfl rfl (v_fieldAddrP fo27_2 rfl rfl) ?_
       exact lg hF (g75_1)
      exact g75_0
     refine AW.rgs rfl fun K hK => bv rfl (v_bin rfl rfl b_lss) ?_
     let E22 : Nat × HV := (14, .ar 30084 v460201 eInt.k 0 ((a47.2.1).length))
     let E23 : Nat × HV := (15, .ar 30087 v460501 eInt.k 0 ((a47.2.2).length))
     let O24 : Nat × Nat × AObj := (30084, v460201, .arr eInt.k 3 (eInt.E a47.2.1))
     let O25 : Nat × Nat × AObj := (30087, v460501, .arr eInt.k 3 (eInt.E a47.2.2))
     refine bf hK (P1 [(3, .mp 30020 v2), (4, .ptr 30004 v3 0), (13, .str x44), E22, E23, E10, E11, (78, hI a38.1), (89, hI p0.1), (90, hI a47.1), (91, .bool (decide (a47.1 < p0.1)))] [O14, O12, O7, O24, O25, O15, O16]) ?_
     refine AW.cseq rfl (fun hc => ?_) (fun hc => ?_)
     ·obtain ⟨hc, h⟩ := cT hc h
      refine AW.skip ?_
      refine AW.seqJ h (S := (List Int) × (List Int)) (V := Unit) (fun a v => (P1 [(3, .mp 30020 v2), (4, .ptr 30004 v3 0), (13, .str x44), (14, .ar 30084 v460201 eInt.k 0 ((a.1).length)), (15, .ar 30087 v460501 eInt.k 0 ((a.2).length)), E10, E11, (78, hI a38.1), (89, hI p0.1), (90, hI a47.1)] [O14, O12, O7, (30084, v460201, .arr eInt.k 3 (eInt.E a.1)), (30087, v460501, .arr eInt.k 3 (eInt.E a.2)), O15, O16])) (fun a51 w52 h => ?_) (fun k53 h => ?_)
      ·refine AW.rg rfl fun K hK => bv rfl (v_bin rfl rfl b_add) (mv rfl rfl ?_)
       refine b_nil (hK _ ?_)
       exact to_L ⟨(IntKind.wrap .i64 (a47.1 + 1), a51.1, a51.2), (), h, rfl⟩
      refine AW.block ?_
      refine AW.rgs rfl fun K hK => mv rfl rfl (mv rfl rfl ?_)
      refine bf hK (P1 [(3, .mp 30020 v2), (4, .ptr 30004 v3 0), (13, .str x44), E22, E23, (16, hI a47.1), E10, E11, (78, hI a38.1), (89, hI p0.1), (90, hI a47.1)] [O14, O12, O7, O24, O25, O15, O16]) ?_
      refine AW.rgs rfl fun K hK => mv rfl rfl (mv rfl rfl (mv rfl rfl (bv rfl (v_bin rfl rfl b_add) ?_)))
      obtain ⟨h54, h⟩ := ifN h
      refine bv rfl (v_sliceS ty9 rfl rfl rfl h54) ?_
      obtain ⟨h55, h⟩ := ifN h
      refine bv rfl (v_bin rfl rfl (b_sadd h55)) (mv rfl rfl ?_)
      let E26 : Nat × HV := (17, .str (x44 ++ ((([48, 49, 50, 51, 52, 53, 54, 55, 56, 57, 97, 98, 99, 100, 101, 102] : List UInt8).take (IntKind.wrap .i64 (a47.1 + 1)).toNat).drop (a47.1).toNat)))
      refine bf hK (P1 [(3, .mp 30020 v2), (4, .ptr 30004 v3 0), (13, .str x44), E22, E23, (16, hI a47.1), E26, E10, E11, (78, hI a38.1), (89, hI p0.1), (90, hI a47.1)] [O14, O12, O7, O24, O25, O15, O16]) ?_
      refine AW.rgs rfl fun K hK => mv rfl rfl (mv rfl rfl (mv rfl rfl (mv rfl rfl (bv rfl (v_fieldAddrF fo24_1 rfl) (bv rfl (v_loadF ty22 rfl (l_lit rfl rfl)) ?_)))))
      refine mv rfl rfl ?_
      obtain ⟨x56, h57, h⟩ := bS h
      refine b_op rfl (o_call rfl rfl rfl rfl (ACallD.pure0 (w_slices_Index_Lstring_string h57)) ?_)
      obtain ⟨x58, h59, h⟩ := bS h
      refine bv rfl (v_idxA ty39 es39 rfl rfl (idx_lt h59) rfl) ?_
      refine b_op rfl (o_storeE eInt (l := a47.2.1) (j := a47.1) (v := (-1)) rfl rfl rfl ty3 rfl rfl rfl (idx_lt h59) ?_)
      obtain ⟨x60, h61, h⟩ := bS h
      refine bv rfl (v_idxA ty39 es39 rfl rfl (idx_lt h61) rfl) ?_
      refine b_op rfl (o_storeE eInt (l := a47.2.2) (j := a47.1) (v := x56) rfl rfl rfl ty3 rfl rfl rfl (idx_lt h61) ?_)
      let E27 : Nat × HV := (14, .ar 30084 v460201 eInt.k 0 (((a47.2.1).set (a47.1).toNat (-1)).length))
      let E28 : Nat × HV := (15, .ar 30087 v460501 eInt.k 0 (((a47.2.2).set (a47.1).toNat x56).length))
      let O29 : Nat × Nat × AObj := (30084, v460201, .arr eInt.k 3 (eInt.E ((a47.2.1).set (a47.1).toNat (-1))))
      let O30 : Nat × Nat × AObj := (30087, v460501, .arr eInt.k 3 (eInt.E ((a47.2.2).set (a47.1).toNat x56)))
      refine b_fin hK (s' := (P1 [(3, .mp 30020 v2), (4, .ptr 30004 v3 0), (13, .str x44), E27, E28, (16, hI a47.1), E26, E10, E11, (78, hI a38.1), (89, hI p0.1), (90, hI a47.1)] [O14, O12, O7, O29, O30, O15, O16])) (AS.le_of ⟨rfl, rfl, rfl, rfl, rfl, arl (by first | rfl | simp only [List.length_set, sortI_len, sortS_len, sortW_len, List.length_reverse]), arl (by first | rfl | simp only [List.length_set, sortI_len, sortS_len, sortW_len, List.length_reverse]), rfl, rfl, rfl, rfl, rfl, rfl, rfl, trivial⟩ ⟨rfl, rfl, rfl, rfl, rfl, rfl, rfl, rfl, trivial⟩) ?_
      refine AW.seq ?_
      refine AW.rgs rfl fun K hK => mv rfl rfl (mv rfl rfl ?_)
      refine b_lookOk (HV.int .i64) (es := a36) (k := (x44 ++ ((([48, 49, 50, 51, 52, 53, 54, 55, 56, 57, 97, 98, 99, 100, 101, 102] : List UInt8).take (IntKind.wrap .i64 (a47.1 + 1)).toNat).drop (a47.1).toNat))) (v := (mlook (x44 ++ ((([48, 49, 50, 51, 52, 53, 54, 55, 56, 57, 97, 98, 99, 100, 101, 102] : List UInt8).take (IntKind.wrap .i64 (a47.1 + 1)).toNat).drop (a47.1).toNat)) a36).getD 0) rfl ty87 ty9 ty3 rfl rfl rfl rfl (look_dflt rfl) ?_
      refine mv rfl rfl (bv rfl (v_extract rfl rfl) (bv rfl (v_extract rfl rfl) (mv rfl rfl (mv rfl rfl ?_))))
      let E31 : Nat × HV := (18, hI ((mlook (x44 ++ ((([48, 49, 50, 51, 52, 53, 54, 55, 56, 57, 97, 98, 99, 100, 101, 102] : List UInt8).take (IntKind.wrap .i64 (a47.1 + 1)).toNat).drop (a47.1).toNat)) a36).getD 0))
      refine bf hK (P1 [(3, .mp 30020 v2), (4, .ptr 30004 v3 0), (13, .str x44), E27, E28, (16, hI a47.1), E31, (19, .bool ((mlook (x44 ++ ((([48, 49, 50, 51, 52, 53, 54, 55, 56, 57, 97, 98, 99, 100, 101, 102] : List UInt8).take (IntKind.wrap .i64 (a47.1 + 1)).toNat).drop (a47.1).toNat)) a36).isSome)), E10, E11, (78, hI a38.1), (89, hI p0.1), (90, hI a47.1)] [O14, O12, O7, O29, O30, O15, O16]) ?_
      refine AW.rgs rfl fun K hK => mv rfl rfl ?_
      refine bf hK (P1 [(3, .mp 30020 v2), (4, .ptr 30004 v3 0), (13, .str x44), E27, E28, (16, hI a47.1), E31, E10, E11, (78, hI a38.1), (89, hI p0.1), (90, hI a47.1), (115, .bool ((mlook (x44 ++ ((([48, 49, 50, 51, 52, 53, 54, 55, 56, 57, 97, 98, 99, 100, 101, 102] : List UInt8).take (IntKind.wrap .i64 (a47.1 + 1)).toNat).drop (a47.1).toNat)) a36).isSome))] [O14, O12, O7, O29, O30, O15, O16]) ?_
      refine AW.lastJ h (by first | exact up_then | exact up_to) (S := (List Int)) (V := Unit) (fun a v => (P1 [(3, .mp 30020 v2), (4, .ptr 30004 v3 0), (13, .str x44), (14, .ar 30084 v460201 eInt.k 0 ((a).length)), E28, (16, hI a47.1), E10, E11, (78, hI a38.1), (89, hI p0.1), (90, hI a47.1)] [O14, O12, O7, (30084, v460201, .arr eInt.k 3 (eInt.E a)), O30, O15, O16])) (fun a62 w63 h => ?_) (fun k64 h => ?_)
      ·refine AW.rgs rfl fun K hK => mv rfl rfl (mv rfl rfl ?_)
       obtain ⟨x65, h66, h⟩ := bS h
       refine bv rfl (v_idxA ty39 es39 rfl rfl (idx_lt h66) rfl) ?_
       obtain ⟨x67, h68, h⟩ := bS h
       refine bv rfl (v_loadP ty3 rfl rfl (l_cell eInt h68 (o := 0) rfl rfl)) (bv rfl (v_bin rfl rfl b_geq) ?_)
       refine bf hK (P1 [(3, .mp 30020 v2), (4, .ptr 30004 v3 0), (13, .str x44), (14, .ar 30084 v460201 eInt.k 0 ((a62).length)), E28, (16, hI a47.1), E10, E11, (78, hI a38.1), (89, hI p0.1), (90, hI a47.1), (124, .bool (decide (0 ≤ x67)))] [O14, O12, O7, (30084, v460201, .arr eInt.k 3 (eInt.E a62)), O30, O15, O16]) ?_
       refine AW.cond rfl (fun hc => ?_) (fun hc => ?_)
       ·obtain ⟨hc, h⟩ := cT hc h
        refine AW.rg rfl fun K hK => mv rfl rfl (mv rfl rfl ?_)
        obtain ⟨x69, h70, h⟩ := bS h
        refine bv rfl (v_idxA ty39 es39 rfl rfl (idx_lt h70) rfl) ?_
        refine b_op rfl (o_storeE eInt (l := a62) (j := a47.1) (v := 0) rfl rfl rfl ty3 rfl rfl rfl (idx_lt h70) ?_)
        refine b_nil (hK _ ?_)
        exact to_le (s' := (P1 [(3, .mp 30020 v2), (4, .ptr 30004 v3 0), (13, .str x44), (14, .ar 30084 v460201 eInt.k 0 (((a62).set (a47.1).toNat 0).length)), E28, E10, E11, (78, hI a38.1), (89, hI p0.1), (90, hI a47.1)] [O14, O12, O7, (30084, v460201, .arr eInt.k 3 (eInt.E ((a62).set (a47.1).toNat 0))), O30, O15, O16])) (AS.le_of ⟨rfl, rfl, rfl, rfl, rfl, arl (by first | rfl | simp only [List.length_set, sortI_len, sortS_len, sortW_len, List.length_reverse]), rfl, rfl, rfl, rfl, rfl, rfl, trivial⟩ ⟨rfl, rfl, rfl, rfl, rfl, rfl, rfl, rfl, trivial⟩) ⟨((a62).set (a47.1).toNat 0, (a47.2.2).set (a47.1).toNat x56), (), h, rfl⟩
       obtain ⟨hc, h⟩ := cF hc h
       refine AW.skip ?_
       exact to_L ⟨(a62, (a47.2.2).set (a47.1).toNat x56), (), h, rfl⟩
      refine AW.cond rfl (fun hc => ?_) (fun hc => ?_)
      ·have h := ifT hc h
       refine AW.rg rfl fun K hK => mv rfl rfl (mv rfl rfl (mv rfl rfl ?_))
       obtain ⟨x71, h72, h⟩ := bS h
       refine bv rfl (v_idxA ty39 es39 rfl rfl (idx_lt h72) rfl) ?_
       refine b_op rfl (o_storeE eInt (l := ((a47.2.1).set (a47.1).toNat (-1))) (j := a47.1) (v := (mlook (x44 ++ ((([48, 49, 50, 51, 52, 53, 54, 55, 56, 57, 97, 98, 99, 100, 101, 102] : List UInt8).take (IntKind.wrap .i64 (a47.1 + 1)).toNat).drop (a47.1).toNat)) a36).getD 0) rfl rfl rfl ty3 rfl rfl rfl (idx_lt h72) ?_)
       refine b_nil (hK _ ?_)
       exact to_le (s' := (P1 [(3, .mp 30020 v2), (4, .ptr 30004 v3 0), (13, .str x44), (14, .ar 30084 v460201 eInt.k 0 ((((a47.2.1).set (a47.1).toNat (-1)).set (a47.1).toNat ((mlook (x44 ++ ((([48, 49, 50, 51, 52, 53, 54, 55, 56, 57, 97, 98, 99, 100, 101, 102] : List UInt8).take (IntKind.wrap .i64 (a47.1 + 1)).toNat).drop (a47.1).toNat)) a36).getD 0)).length)), E28, (16, hI a47.1), E10, E11, (78, hI a38.1), (89, hI p0.1), (90, hI a47.1)] [O14, O12, O7, (30084, v460201, .arr eInt.k 3 (eInt.E (((a47.2.1).set (a47.1).toNat (-1)).set (a47.1).toNat ((mlook (x44 ++ ((([48, 49, 50, 51, 52, 53, 54, 55, 56, 57, 97, 98, 99, 100, 101, 102] : List UInt8).take (IntKind.wrap .i64 (a47.1 + 1)).toNat).drop (a47.1).toNat)) a36).getD 0)))), O30, O15, O16])) (AS.le_of ⟨rfl, rfl, rfl, rfl, rfl, arl (by first | rfl | simp only [List.length_set, sortI_len, sortS_len, sortW_len, List.length_reverse]), rfl, rfl, rfl, rfl, rfl, rfl, rfl, trivial⟩ ⟨rfl, rfl, rfl, rfl, rfl, rfl, rfl, rfl, trivial⟩) ⟨((a47.2.1).set (a47.1).toNat (-1)).set (a47.1).toNat ((mlook (x44 ++ ((([48, 49, 50, 51, 52, 53, 54, 55, 56, 57, 97, 98, 99, 100, 101, 102] : List UInt8).take (IntKind.wrap .i64 (a47.1 + 1)).toNat).drop (a47.1).toNat)) a36).getD 0), (), h, rfl⟩
      have h := ifF (bF' hc) h
      refine AW.skip ?_
      exact to_L ⟨(a47.2.1).set (a47.1).toNat (-1), (), h, rfl⟩
     obtain ⟨hc, h⟩ := cF hc h
     refine AW.exit ?_
     exact to_L ⟨(a47.2.1, a47.2.2), (), h, rfl⟩
    have g46_9 : ∀ (v460201 : Nat) (v460501 : Nat), F [0, 1, 2, 3, 4, 5, 6] (P1 [(3, .mp 30020 v2), (4, .ptr 30004 v3 0), (13, .str x44), (14, .ar 30084 v460201 eInt.k 0 ((List.replicate (p0.1).toNat (0 : Int)).length)), E10, E11, (78, hI a38.1), (87, .ar 30087 v460501 eInt.k 0 ((List.replicate (p0.1).toNat (0 : Int)).length))] [O14, O12, O7, O15, O16, (30084, v460201, .arr eInt.k 3 (eInt.E (List.replicate (p0.1).toNat (0 : Int)))), (30087, v460501, .arr eInt.k 3 (eInt.E (List.replicate (p0.1).toNat (0 : Int))))]) := by
     intro v460201 v460501
     refine l_step hF rfl [7] rfl rfl ⟨?_, trivial⟩
     exact l_ov rfl rfl rfl rfl (mv_val rfl rfl).2 (lg hF (g46_10 v460201 v460501))
    have g46_8 : ∀ (v460201 : Nat) (v460501 : Nat), F [0, 1, 2, 3, 4, 5] (P1 [(3, .mp 30020 v2), (4, .ptr 30004 v3 0), (13, .str x44), E10, E11, (78, hI a38.1), (84, .ar 30084 v460201 eInt.k 0 ((List.replicate (p0.1).toNat (0 : Int)).length)), (87, .ar 30087 v460501 eInt.k 0 ((List.replicate (p0.1).toNat (0 : Int)).length))] [O14, O12, O7, O15, O16, (30084, v460201, .arr eInt.k 3 (eInt.E (List.replicate (p0.1).toNat (0 : Int)))), (30087, v460501, .arr eInt.k 3 (eInt.E (List.replicate (p0.1).toNat (0 : Int))))]) := by
     intro v460201 v460501
     refine l_step hF rfl [6] rfl rfl ⟨?_, trivial⟩
     exact l_ov rfl rfl rfl rfl (mv_val rfl rfl).2 (lg hF (g46_9 v460201 v460501))
    let P : ASf := fun t H => ⟨(1, .fptr [hI p0.1, slE eStr p0.2] 0) :: (2, .ptr 30002 v1 0) :: (3, .mp 30020 v2) :: (4, .ptr 30004 v3 0) :: (13, .str x44) :: (76, .ar 30056 w26 eStr.k 0 ((sortW a25.2).length)) :: (77, hI (((sortW a25.2).length : Nat) : Int)) :: (78, hI a38.1) :: t, (30002, v1, .arr 4 27 [hI 0, .v (.slice none 0 0), .v (.slice none 0 0), .v (.slice none 0 0)]) :: (30004, v3, .arr 4 27 [hI p0.1, .ar 30056 w26 eStr.k 0 ((sortW a25.2).length), .ar 30133 w39.1 (eSl eInt).k 0 ((a38.2.1).length), .ar 30138 w39.2 (eSl eInt).k 0 ((a38.2.2).length)]) :: (30020, v2, .map (entE (HV.int .i64) a36)) :: (30056, w26, .arr eStr.k 9 (eStr.E (sortW a25.2))) :: (30133, w39.1, .arr (eSl eInt).k 39 ((eSl eInt).E a38.2.1)) :: (30138, w39.2, .arr (eSl eInt).k 39 ((eSl eInt).E a38.2.2)) :: H⟩
    have g46_12 : ∀ (v460201 : Nat), F [0, 1, 2, 3, 4, 6] (P1 [(3, .mp 30020 v2), (4, .ptr 30004 v3 0), (13, .str x44), (14, .ar 30084 v460201 eInt.k 0 ((List.replicate (p0.1).toNat (0 : Int)).length)), E10, E11, (78, hI a38.1), (86, hI p0.1)] [O14, O12, O7, O15, O16, (30084, v460201, .arr eInt.k 3 (eInt.E (List.replicate (p0.1).toNat (0 : Int))))]) := by
     intro v460201
     refine l_step hF rfl [5] rfl rfl ⟨?_, trivial⟩
     refine l_op rfl rfl rfl (o_makeE (fid := 30) eInt (0 : Int) 30087 rfl rfl ty39 rfl rfl ty3 rfl rfl h460502 (fun v460501 => ?_))
     exact b_nil (lg hF (g46_9 v460201 v460501))
    have g46_7 : ∀ (v460501 : Nat), F [0, 1, 3, 4, 5] (P [(83, hI p0.1), (87, .ar 30087 v460501 eInt.k 0 ((List.replicate (p0.1).toNat (0 : Int)).length))] [(30087, v460501, .arr eInt.k 3 (eInt.E (List.replicate (p0.1).toNat (0 : Int))))]) := by
     intro v460501
     refine l_step hF rfl [2] rfl rfl ⟨?_, trivial⟩
     refine l_op rfl rfl rfl (o_makeE (fid := 30) eInt (0 : Int) 30084 rfl rfl ty39 rfl rfl ty3 rfl rfl h460202 (fun v460201 => ?_))
     exact b_nil (lg hF (g46_8 v460201 v460501))
    have g46_11 : ∀ (v460201 : Nat), F [0, 1, 2, 3, 4] (P [(84, .ar 30084 v460201 eInt.k 0 ((List.replicate (p0.1).toNat (0 : Int)).length)), (86, hI p0.1)] [(30084, v460201, .arr eInt.k 3 (eInt.E (List.replicate (p0.1).toNat (0 : Int))))]) := by
     intro v460201
     refine l_step hF rfl [5, 6] rfl rfl ⟨?_, ?_, trivial⟩
     ·refine l_op rfl rfl rfl (o_makeE (fid := 30) eInt (0 : Int) 30087 rfl rfl ty39 rfl rfl ty3 rfl rfl h460502 (fun v460501 => ?_))
      exact b_nil (lg hF (g46_8 v460201 v460501))
     exact l_ov rfl rfl rfl rfl (mv_val rfl rfl).2 (lg hF (g46_12 v460201))
    have g46_14 : ∀ (v460201 : Nat), F [0, 1, 2, 3, 6] (P1 [(3, .mp 30020 v2), (4, .ptr 30004 v3 0), (13, .str x44), (14, .ar 30084 v460201 eInt.k 0 ((List.replicate (p0.1).toNat (0 : Int)).length)), E10, E11, (78, hI a38.1), (85, .fptr [hI p0.1, slE eStr p0.2] 0)] [O14, O12, O7, O15, O16, (30084, v460201, .arr eInt.k 3 (eInt.E (List.replicate (p0.1).toNat (0 : Int))))]) := by
     intro v460201
     refine l_step hF rfl [4] rfl rfl ⟨?_, trivial⟩
     exact l_ov rfl rfl rfl rfl (v_loadF ty3 rfl (l_lit rfl rfl)) (lg hF (g46_12 v460201))
    have g46_5 : F [0, 1, 3, 4] (P [(83, hI p0.1), (86, hI p0.1)] []) := by
     refine l_step hF rfl [2, 5] rfl rfl ⟨?_, ?_, trivial⟩
     ·refine l_op rfl rfl rfl (o_makeE (fid := 30) eInt (0 : Int) 30084 rfl rfl ty39 rfl rfl ty3 rfl rfl h460202 (fun v460201 => ?_))
      exact b_nil (lg hF (g46_11 v460201))
     refine l_op rfl rfl rfl (o_makeE (fid := 30) eInt (0 : Int) 30087 rfl rfl ty39 rfl rfl ty3 rfl rfl h460502 (fun v460501 => ?_))
     exact b_nil (lg hF (g46_7 v460501))
    have g46_6 : ∀ (v460501 : Nat), F [0, 3, 4, 5] (P [(82, .fptr [hI p0.1, slE eStr p0.2] 0), (87, .ar 30087 v460501 eInt.k 0 ((List.replicate (p0.1).toNat (0 : Int)).length))] [(30087, v460501, .arr eInt.k 3 (eInt.E (List.replicate (p0.1).toNat (0 : Int))))]) := by
     intro v460501
     refine l_step hF rfl [1] rfl rfl ⟨?_, trivial⟩
     exact l_ov rfl rfl rfl rfl (v_loadF ty3 rfl (l_lit rfl rfl)) (lg hF (g46_7 v460501))
    have g46_13 : ∀ (v460201 : Nat), F [0, 1, 2, 3] (P [(84, .ar 30084 v460201 eInt.k 0 ((List.replicate (p0.1).toNat (0 : Int)).length)), (85, .fptr [hI p0.1, slE eStr p0.2] 0)] [(30084, v460201, .arr eInt.k 3 (eInt.E (List.replicate (p0.1).toNat (0 : Int))))]) := by
     intro v460201
     refine l_step hF rfl [4, 6] rfl rfl ⟨?_, ?_, trivial⟩
     ·exact l_ov rfl rfl rfl rfl (v_loadF ty3 rfl (l_lit rfl rfl)) (lg hF (g46_11 v460201))
     exact l_ov rfl rfl rfl rfl (mv_val rfl rfl).2 (lg hF (g46_14 v460201))
    have g46_3 : F [0, 1, 3] (P [(83, hI p0.1), (85, .fptr [hI p0.1, slE eStr p0.2] 0)] []) := by
     refine l_step hF rfl [2, 4] rfl rfl ⟨?_, ?_, trivial⟩
     ·refine l_op rfl rfl rfl (o_makeE (fid := 30) eInt (0 : Int) 30084 rfl rfl ty39 rfl rfl ty3 rfl rfl h460202 (fun v460201 => ?_))
      exact b_nil (lg hF (g46_13 v460201))
     exact l_ov rfl rfl rfl rfl (v_loadF ty3 rfl (l_lit rfl rfl)) (lg hF (g46_5))
    have g46_4 : F [0, 3, 4] (P [(82, .fptr [hI p0.1, slE eStr p0.2] 0), (86, hI p0.1)] []) := by
     refine l_step hF rfl [1, 5] rfl rfl ⟨?_, ?_, trivial⟩
     ·exact l_ov rfl rfl rfl rfl (v_loadF ty3 rfl (l_lit rfl rfl)) (lg hF (g46_5))
     refine l_op rfl rfl rfl (o_makeE (fid := 30) eInt (0 : Int) 30087 rfl rfl ty39 rfl rfl ty3 rfl rfl h460502 (fun v460501 => ?_))
     exact b_nil (lg hF (g46_6 v460501))
    have g46_2 : F [0, 3] (P [(82, .fptr [hI p0.1, slE eStr p0.2] 0), (85, .fptr [hI p0.1, slE eStr p0.2] 0)] []) := by
     refine l_step hF rfl [1, 4] rfl rfl ⟨?_, ?_, trivial⟩
     ·exact l_ov rfl rfl rfl rfl (v_loadF ty3 rfl (l_lit rfl rfl)) (lg hF (g46_3))
     exact l_ov rfl rfl rfl rfl (v_loadF ty3 rfl (l_lit rfl rfl)) (lg hF (g46_4))
    have g46_1 : F [0] (P [(82, .fptr [hI p0.1, slE eStr p0.2] 0)] []) := by
     refine l_take (i := 3) hF rfl rfl rfl (v_fieldAddrF fo24_0 rfl) ?_
     exact lg hF (g46_2)
    have g46_0 : F [] (P [] []) := by
     refine l_take (i := 0) hF rfl rfl rfl (v_fieldAddrF fo24_0 rfl) ?_
     exact lg hF (g46_1)
    exact g46_0
   obtain ⟨hc, h⟩ := cF hc h
   refine AW.exit ?_
   exact to_L ⟨(a38.2.1, a38.2.2), (w39.1, w39.2), h, rfl⟩
  refine AW.rgs rfl fun K hK => bv rfl (v_bin rfl rfl b_lss) ?_
  refine bf hK (P1 [(3, .mp 30020 v2), (4, .ptr 30004 v3 0), E8, E9, (66, hI a28.1), (67, .bool (decide (a28.1 < (((sortW a25.2).length : Nat) : Int))))] [O6, (30020, v2, .map (entE (HV.int .i64) a28.2)), O7]) ?_
  refine AW.cseq rfl (fun hc => ?_) (fun hc => ?_)
  ·obtain ⟨hc, h⟩ := cT hc h
   refine AW.skip ?_
   refine AW.seq (AW.block ?_)
   refine AW.rgs rfl fun K hK => mv rfl rfl ?_
   obtain ⟨x32, h33, h⟩ := bS h
   refine bv rfl (v_idxA ty22 es22 rfl rfl (idx_lt h33) rfl) ?_
   obtain ⟨x34, h35, h⟩ := bS h
   refine bv rfl (v_loadP ty9 rfl rfl (l_cell eStr h35 (o := 0) rfl rfl)) (mv rfl rfl (mv rfl rfl ?_))
   refine bf hK (P1 [(3, .mp 30020 v2), (4, .ptr 30004 v3 0), (10, hI a28.1), (11, .str x34), E8, E9, (66, hI a28.1)] [O6, (30020, v2, .map (entE (HV.int .i64) a28.2)), O7]) ?_
   refine AW.rg rfl fun K hK => mv rfl rfl (mv rfl rfl (mv rfl rfl ?_))
   refine b_op rfl (o_mapSet (HV.int .i64) (es := a28.2) (k := x34) (v := a28.1) (.inl rfl) ty87 ty9 rfl rfl rfl rfl trivial ?_)
   refine bf hK (P1 [(3, .mp 30020 v2), (4, .ptr 30004 v3 0), E8, E9, (66, hI a28.1)] [O6, (30020, v2, .map (entE (HV.int .i64) (mputN x34 a28.1 a28.2))), O7]) ?_
   refine AW.rg rfl fun K hK => bv rfl (v_bin rfl rfl b_add) (mv rfl rfl ?_)
   refine b_nil (hK _ ?_)
   exact to_L ⟨(IntKind.wrap .i64 (a28.1 + 1), mputN x34 a28.1 a28.2), (), h, rfl⟩
  obtain ⟨hc, h⟩ := cF hc h
  refine AW.exit ?_
  exact to_L ⟨a28.2, (), h, rfl⟩
 refine AW.rgs rfl fun K hK => bv rfl (v_bin rfl rfl b_lss) ?_
 let O32 : Nat × Nat × AObj := (30004, v3, .arr 4 27 [hI p0.1, .ar 30056 w5 eStr.k 0 ((a4.2.2).length), .v (.slice none 0 0), .v (.slice none 0 0)])
 let O33 : Nat × Nat × AObj := (30020, v2, .map (entE (HV.int .i64) a4.2.1))
 let O34 : Nat × Nat × AObj := (30056, w5, .arr eStr.k 9 (eStr.E a4.2.2))
 refine bf hK (P1 [(3, .mp 30020 v2), (4, .ptr 30004 v3 0), (25, slE eStr p0.2), E5, (27, hI a4.1), (28, .bool (decide (a4.1 < ((p0.2).length : Int))))] [O32, O33, O34]) ?_
 refine AW.cseq rfl (fun hc => ?_) (fun hc => ?_)
 ·obtain ⟨hc, h⟩ := cT hc h
  refine AW.skip ?_
  refine AW.seq (AW.block ?_)
  refine AW.rgs rfl fun K hK => ?_
  obtain ⟨x8, h9, h⟩ := bS h
  refine bv rfl (v_idxF ty22 es22 rfl rfl (idx_lt h9)) (bv rfl (v_loadF ty9 rfl (l_cell eStr h9 (o := 0) rfl rfl)) (mv rfl rfl ?_))
  refine bf hK (P1 [(3, .mp 30020 v2), (4, .ptr 30004 v3 0), (6, .str x8), (25, slE eStr p0.2), E5, (27, hI a4.1)] [O32, O33, O34]) ?_
  refine AW.rgs rfl fun K hK => mv rfl rfl (bv rfl (v_lenS rfl rfl ty9 rfl) (mv rfl rfl ?_))
  let E35 : Nat × HV := (32, hI ((x8).length : Int))
  refine bf hK (P1 [(3, .mp 30020 v2), (4, .ptr 30004 v3 0), (6, .str x8), (25, slE eStr p0.2), E5, (27, hI a4.1), E35, (33, hI 0)] [O32, O33, O34]) ?_
  refine AW.lpX h (by first | exact up_then | exact up_to) (S := Int × (List (List UInt8 × Int)) × (List (List UInt8))) (V := Nat) (fun a v => (P1 [(3, .mp 30020 v2), (4, .ptr 30004 v3 0), (6, .str x8), (25, slE eStr p0.2), E5, (27, hI a4.1), E35, (33, hI a.1)] [(30004, v3, .arr 4 27 [hI p0.1, .ar 30056 v eStr.k 0 ((a.2.2).length), .v (.slice none 0 0), .v (.slice none 0 0)]), (30020, v2, .map (entE (HV.int .i64) a.2.1)), (30056, v, .arr eStr.k 9 (eStr.E a.2.2))])) ?_ (X := (List (List UInt8 × Int)) × (List (List UInt8))) (W := Nat) (fun a v => (P1 [(3, .mp 30020 v2), (4, .ptr 30004 v3 0), (25, slE eStr p0.2), E5, (27, hI a4.1)] [(30004, v3, .arr 4 27 [hI p0.1, .ar 30056 v eStr.k 0 ((a.2).length), .v (.slice none 0 0), .v (.slice none 0 0)]), (30020, v2, .map (entE (HV.int .i64) a.1)), (30056, v, .arr eStr.k 9 (eStr.E a.2))])) (fun a22 w23 h => ?_) (fun a10 w11 st12 h => ?_)
  ·exact to_L ⟨w5, rfl⟩
  ·refine AW.rg rfl fun K hK => bv rfl (v_bin rfl rfl b_add) (mv rfl rfl ?_)
   refine b_nil (hK _ ?_)
   exact to_L ⟨(IntKind.wrap .i64 (a4.1 + 1), a22.1, a22.2), w23, h, rfl⟩
  refine AW.rgs rfl fun K hK => bv rfl (v_bin rfl rfl b_lss) ?_
  let O36 : Nat × Nat × AObj := (30004, v3, .arr 4 27 [hI p0.1, .ar 30056 w11 eStr.k 0 ((a10.2.2).length), .v (.slice none 0 0), .v (.slice none 0 0)])
  let O37 : Nat × Nat × AObj := (30020, v2, .map (entE (HV.int .i64) a10.2.1))
  let O38 : Nat × Nat × AObj := (30056, w11, .arr eStr.k 9 (eStr.E a10.2.2))
  refine bf hK (P1 [(3, .mp 30020 v2), (4, .ptr 30004 v3 0), (6, .str x8), (25, slE eStr p0.2), E5, (27, hI a4.1), E35, (33, hI a10.1), (34, .bool (decide (a10.1 < ((x8).length : Int))))] [O36, O37, O38]) ?_
  refine AW.cseq rfl (fun hc => ?_) (fun hc => ?_)
  ·obtain ⟨hc, h⟩ := cT hc h
   refine AW.skip ?_
   refine AW.seqJ h (S := (List (List UInt8 × Int)) × (List (List UInt8))) (V := Nat) (fun a v => (P1 [(3, .mp 30020 v2), (4, .ptr 30004 v3 0), (6, .str x8), (25, slE eStr p0.2), E5, (27, hI a4.1), E35, (33, hI a10.1)] [(30004, v3, .arr 4 27 [hI p0.1, .ar 30056 v eStr.k 0 ((a.2).length), .v (.slice none 0 0), .v (.slice none 0 0)]), (30020, v2, .map (entE (HV.int .i64) a.1)), (30056, v, .arr eStr.k 9 (eStr.E a.2))])) (fun a14 w15 h => ?_) (fun k16 h => ?_)
   ·refine AW.rg rfl fun K hK => bv rfl (v_bin rfl rfl b_add) (mv rfl rfl ?_)
    refine b_nil (hK _ ?_)
    exact to_L ⟨(IntKind.wrap .i64 (a10.1 + 1), a14.1, a14.2), w15, h, rfl⟩
   refine AW.block ?_
   refine AW.rgs rfl fun K hK => mv rfl rfl (mv rfl rfl ?_)
   refine bf hK (P1 [(3, .mp 30020 v2), (4, .ptr 30004 v3 0), (6, .str x8), (7, hI a10.1), (25, slE eStr p0.2), E5, (27, hI a4.1), E35, (33, hI a10.1)] [O36, O37, O38]) ?_
   refine AW.rgs rfl fun K hK => mv rfl rfl (mv rfl rfl (mv rfl rfl ?_))
   obtain ⟨h17, h⟩ := ifN h
   refine bv rfl (v_sliceS ty9 rfl rfl rfl h17) ?_
   refine b_lookOk (HV.int .i64) (es := a10.2.1) (k := ((x8.take (a10.1).toNat).drop (0 : Int).toNat)) (v := (mlook ((x8.take (a10.1).toNat).drop (0 : Int).toNat) a10.2.1).getD 0) rfl ty87 ty9 ty3 rfl rfl rfl rfl (look_dflt rfl) ?_
   refine mv rfl rfl (bv rfl (v_extract rfl rfl) (bv rfl (v_extract rfl rfl) (mv rfl rfl (mv rfl rfl ?_))))
   refine bf hK (P1 [(3, .mp 30020 v2), (4, .ptr 30004 v3 0), (6, .str x8), (7, hI a10.1), (9, .bool ((mlook ((x8.take (a10.1).toNat).drop (0 : Int).toNat) a10.2.1).isSome)), (25, slE eStr p0.2), E5, (27, hI a4.1), E35, (33, hI a10.1)] [O36, O37, O38]) ?_
   refine AW.rgs rfl fun K hK => mv rfl rfl (bv rfl (v_not rfl) ?_)
   refine bf hK (P1 [(3, .mp 30020 v2), (4, .ptr 30004 v3 0), (6, .str x8), (7, hI a10.1), (25, slE eStr p0.2), E5, (27, hI a4.1), E35, (33, hI a10.1), (45, .bool (!((mlook ((x8.take (a10.1).toNat).drop (0 : Int).toNat) a10.2.1).isSome)))] [O36, O37, O38]) ?_
   refine AW.cond rfl (fun hc => ?_) (fun hc => ?_)
   ·have h := ifT hc h
    refine AW.rgs rfl fun K hK => mv rfl rfl (mv rfl rfl (mv rfl rfl ?_))
    obtain ⟨h18, h⟩ := ifN h
    refine bv rfl (v_sliceS ty9 rfl rfl rfl h18) ?_
    refine b_op rfl (o_mapSet (HV.int .i64) (es := a10.2.1) (k := ((x8.take (a10.1).toNat).drop (0 : Int).toNat)) (v := 0) (.inl rfl) ty87 ty9 rfl rfl rfl rfl trivial ?_)
    refine bf hK (P1 [(3, .mp 30020 v2), (4, .ptr 30004 v3 0), (6, .str x8), (7, hI a10.1), (25, slE eStr p0.2), E5, (27, hI a4.1), E35, (33, hI a10.1)] [O36, (30020, v2, .map (entE (HV.int .i64) (mputN ((x8.take (a10.1).toNat).drop (0 : Int).toNat) 0 a10.2.1))), O38]) ?_
    refine AW.dg 6 follows rfl rfl fun K hK => ?_
    refine sv rfl (v_fieldAddrP fo27_1 rfl rfl) ?_
    refine sv rfl (v_loadP ty22 rfl rfl (l_lit rfl rfl)) ?_
    iterate 2 refine sm rfl rfl ?_
    obtain ⟨h19, h⟩ := ifN h
    refine sv rfl (v_sliceS ty9 rfl rfl rfl h19) ?_
    refine s_op rfl rfl (ops_bsl rfl rfl (as_of (cs := [.str ((x8.take (a10.1).toNat).drop (0 : Int).toNat)]) ty22 ty9 rfl rfl rfl rfl rfl) ?_)
    refine s_nil ?_
    obtain ⟨h21, h⟩ := ifN h
    refine b_op rfl (o_appE eStr (l := a10.2.2) (m := [(x8.take (a10.1).toNat).drop (0 : Int).toNat]) rfl rfl ty22 ty22 ty9 rfl rfl rfl rfl rfl h21 (fun v20 => ?_))
    refine bv rfl (v_fieldAddrP fo27_1 rfl rfl) ?_
    refine b_op rfl (o_store (cs := [.ar 30056 v20 eStr.k 0 ((a10.2.2 ++ [(x8.take (a10.1).toNat).drop (0 : Int).toNat]).length)]) (zs := [hI p0.1, .ar 30056 v20 eStr.k 0 ((a10.2.2 ++ [(x8.take (a10.1).toNat).drop (0 : Int).toNat]).length), .v (.slice none 0 0), .v (.slice none 0 0)]) rfl rfl rfl ty22 rfl rfl rfl rfl rfl ?_)
    refine b_nil (hK _ ?_)
    exact to_L ⟨(mputN ((x8.take (a10.1).toNat).drop (0 : Int).toNat) 0 a10.2.1, a10.2.2 ++ [(x8.take (a10.1).toNat).drop (0 : Int).toNat]), v20, h, rfl⟩
   have h := ifF (bF' hc) h
   refine AW.skip ?_
   exact to_L ⟨(a10.2.1, a10.2.2), w11, h, rfl⟩
  obtain ⟨hc, h⟩ := cF hc h
  refine AW.exit ?_
  exact to_L ⟨(a10.2.1, a10.2.2), w11, h, rfl⟩
 obtain ⟨hc, h⟩ := cF hc h
 refine AW.exit ?_
 exact to_L ⟨(a4.2.1, a4.2.2), w5, h, rfl⟩
theorem w_parser_Build {p0 : TLettersWords} {r : TLettersPrefixesNextEmit × Int} (h : m_parser_Build p0 = some r) : Pure Tryd.prog 13 [.agg [hI p0.1, slE eStr p0.2]] (· = HV.tup [.agg [hI r.1.1, slE eStr r.1.2.1, slE (eSl eInt) r.1.2.2.1, slE (eSl eInt) r.1.2.2.2], hI r.2]) := by
 unfold m_parser_Build at h
 refine Pure.of_body Tryd.func13 rfl rfl (lb rfl) fun hf => ?_
 unfold Tryd.f13
 dsimp only [enumS, Nat.reduceAdd]
 refine AW.rgs rfl fun K hK => b_op rfl (o_box rfl rfl rfl ?_)
 refine b_op rfl (o_alloc (fid := 13) (zs := [hI 0, .v (.slice none 0 0), .v (.slice none 0 0), .v (.slice none 0 0)]) 13002 rfl rfl ty27 rfl (fun v1 => ?_))
 refine mv rfl rfl ?_
 let E1 : Nat × HV := (1, .fptr [hI p0.1, slE eStr p0.2] 0)
 let O3 : Nat × Nat × AObj := (13002, v1, .arr 4 27 [hI 0, .v (.slice none 0 0), .v (.slice none 0 0), .v (.slice none 0 0)])
 refine bf hK ⟨[E1, (2, .ptr 13002 v1 0)], [O3]⟩ ?_
 refine AW.seq ?_
 refine AW.rgs rfl fun K hK => bv rfl (v_loadF ty24 rfl (l_litA rfl (lb rfl) rfl)) ?_
 obtain ⟨x2, h3, h⟩ := bS h
 refine b_op rfl (o_call rfl rfl rfl rfl (ACallD.pure0 (w_code_Check h3)) ?_)
 refine bv rfl (v_bin rfl rfl b_neq) ?_
 refine bf hK ⟨[E1, (2, .ptr 13002 v1 0), (6, .bool (decide (x2 ≠ 0)))], [O3]⟩ ?_
 refine AW.cond rfl (fun hc => ?_) (fun hc => ?_)
 ·obtain ⟨hc, h⟩ := cT hc h
  refine AW.rgs rfl fun K hK => b_op rfl (o_build (cs := [hI 0, .v (.slice none 0 0), .v (.slice none 0 0), .v (.slice none 0 0)]) rfl (bl_of ty27 rfl rfl rfl rfl) ?_)
  refine b_op rfl (o_store (cs := [hI 0, .v (.slice none 0 0), .v (.slice none 0 0), .v (.slice none 0 0)]) (zs := [hI 0, .v (.slice none 0 0), .v (.slice none 0 0), .v (.slice none 0 0)]) rfl rfl rfl ty27 rfl rfl rfl rfl rfl ?_)
  refine mv rfl rfl ?_
  refine bf hK ⟨[(2, .ptr 13002 v1 0), (3, hI 1)], [O3]⟩ ?_
  refine AW.to (to_cells 13002 v1 (ds := [hI 0, slE eStr ([] : List (List UInt8)), slE (eSl eInt) ([] : List (List (Int))), slE (eSl eInt) ([] : List (List (Int)))]) rfl (.cons (.refl _) <| .cons (.nil _) <| .cons (.nil _) <| .cons (.nil _) <| .nil) ?_)
  obtain rfl := oi h
  exact AW.ret (ret_pure (.inr rfl) (resP ty27 rfl rfl (l_litA rfl (lb rfl) rfl) (resT rfl rfl)) rfl ⟨⟨trivial, (clean_slE fun _ _ => ⟨trivial, trivial⟩), (clean_slE fun _ _ => ⟨(clean_slE fun _ _ => ⟨trivial, trivial⟩), trivial⟩), (clean_slE fun _ _ => ⟨(clean_slE fun _ _ => ⟨trivial, trivial⟩), trivial⟩), trivial⟩, trivial, trivial⟩)
 obtain ⟨hc, h⟩ := cF hc h
 refine AW.skip ?_
 refine AW.seq ?_
 refine AW.rgs rfl fun K hK => bv rfl (v_loadF ty24 rfl (l_litA rfl (lb rfl) rfl)) ?_
 obtain ⟨x4, h5, h⟩ := bS h
 refine b_op rfl (o_call rfl rfl rfl rfl (ACallD.pure0 (w_parser_prefix h5)) ?_)
 refine bv rfl (v_not rfl) ?_
 refine bf hK ⟨[E1, (2, .ptr 13002 v1 0), (10, .bool (!x4))], [O3]⟩ ?_
 refine AW.cond rfl (fun hc => ?_) (fun hc => ?_)
 ·have h := ifT hc h
  refine AW.rgs rfl fun K hK => b_op rfl (o_build (cs := [hI 0, .v (.slice none 0 0), .v (.slice none 0 0), .v (.slice none 0 0)]) rfl (bl_of ty27 rfl rfl rfl rfl) ?_)
  refine b_op rfl (o_store (cs := [hI 0, .v (.slice none 0 0), .v (.slice none 0 0), .v (.slice none 0 0)]) (zs := [hI 0, .v (.slice none 0 0), .v (.slice none 0 0), .v (.slice none 0 0)]) rfl rfl rfl ty27 rfl rfl rfl rfl rfl ?_)
  refine mv rfl rfl ?_
  refine bf hK ⟨[(2, .ptr 13002 v1 0), (3, hI 8)], [O3]⟩ ?_
  refine AW.to (to_cells 13002 v1 (ds := [hI 0, slE eStr ([] : List (List UInt8)), slE (eSl eInt) ([] : List (List (Int))), slE (eSl eInt) ([] : List (List (Int)))]) rfl (.cons (.refl _) <| .cons (.nil _) <| .cons (.nil _) <| .cons (.nil _) <| .nil) ?_)
  obtain rfl := oi h
  exact AW.ret (ret_pure (.inr rfl) (resP ty27 rfl rfl (l_litA rfl (lb rfl) rfl) (resT rfl rfl)) rfl ⟨⟨trivial, (clean_slE fun _ _ => ⟨trivial, trivial⟩), (clean_slE fun _ _ => ⟨(clean_slE fun _ _ => ⟨trivial, trivial⟩), trivial⟩), (clean_slE fun _ _ => ⟨(clean_slE fun _ _ => ⟨trivial, trivial⟩), trivial⟩), trivial⟩, trivial, trivial⟩)
 have h := ifF (bF' hc) h
 refine AW.skip ?_
 refine AW.rgs rfl fun K hK => bv rfl (v_loadF ty24 rfl (l_litA rfl (lb rfl) rfl)) ?_
 obtain ⟨x6, h7, h⟩ := bS h
 refine b_op rfl (o_call rfl rfl rfl rfl (ACallD.pure0 (w_parser_build h7)) ?_)
 refine b_op rfl (o_store (cs := [hI x6.1, slE eStr x6.2.1, slE (eSl eInt) x6.2.2.1, slE (eSl eInt) x6.2.2.2]) (zs := [hI x6.1, slE eStr x6.2.1, slE (eSl eInt) x6.2.2.1, slE (eSl eInt) x6.2.2.2]) rfl rfl rfl ty27 rfl rfl rfl rfl rfl ?_)
 refine mv rfl rfl ?_
 refine bf hK ⟨[(2, .ptr 13002 v1 0), (3, hI 0)], [(13002, v1, .arr 4 27 [hI x6.1, slE eStr x6.2.1, slE (eSl eInt) x6.2.2.1, slE (eSl eInt) x6.2.2.2])]⟩ ?_
 obtain rfl := oi h
 exact AW.ret (ret_pure (.inr rfl) (resP ty27 rfl rfl (l_litA rfl (lb rfl) rfl) (resT rfl rfl)) rfl ⟨⟨trivial, (clean_slE fun _ _ => ⟨trivial, trivial⟩), (clean_slE fun _ _ => ⟨(clean_slE fun _ _ => ⟨trivial, trivial⟩), trivial⟩), (clean_slE fun _ _ => ⟨(clean_slE fun _ _ => ⟨trivial, trivial⟩), trivial⟩), trivial⟩, trivial, trivial⟩)
theorem w_slices_Index_Lint_int {p0 : List (Int)} {p1 : Int} {r : Int} (h : m_slices_Index_Lint_int p0 p1 = some r) : Pure Tryd.prog 42 [slE eInt p0, hI p1] (· = hI r) := by
 unfold m_slices_Index_Lint_int at h
 refine Pure.of_body Tryd.func42 rfl rfl (lb rfl) fun hf => ?_
 unfold Tryd.f42
 dsimp only [enumS, Nat.reduceAdd]
 refine AW.rgs rfl fun K hK => mv rfl rfl ?_
 let P1 : ASf := fun t H => ⟨(0, slE eInt p0) :: (1, hI p1) :: t, H⟩
 refine bf hK (P1 [] []) ?_
 refine AW.seq ?_
 refine AW.rgs rfl fun K hK => mv rfl rfl (bv rfl (v_lenF rfl rfl ty39 rfl) (mv rfl rfl ?_))
 let E4 : Nat × HV := (7, hI ((p0).length : Int))
 refine bf hK (P1 [E4, (8, hI 0)] []) ?_
 refine AW.lpR h (by first | exact up_then | exact up_to) (S := Int) (V := Unit) (fun a v => (P1 [E4, (8, hI a)] [])) ?_ (X := Unit) (W := Unit) (fun a v => ⟨[], []⟩) (fun a7 w8 h => ?_) (fun a1 w2 st3 h hr4=> ?_)
 ·exact to_L ⟨(), rfl⟩
 ·refine AW.rgs rfl fun K hK => mv rfl rfl ?_
  refine bf hK ⟨[(4, hI (-1))], []⟩ ?_
  obtain rfl := oi h
  exact AW.ret (ret_pure (.inr rfl) (resT rfl rfl) rfl trivial)
 refine AW.rgs rfl fun K hK => bv rfl (v_bin rfl rfl b_lss) ?_
 refine bf hK (P1 [E4, (8, hI a1), (9, .bool (decide (a1 < ((p0).length : Int))))] []) ?_
 refine AW.cseq rfl (fun hc => ?_) (fun hc => ?_)
 ·obtain ⟨hc, h⟩ := cT hc h
  refine AW.skip ?_
  refine AW.seq (AW.block ?_)
  refine AW.rgs rfl fun K hK => mv rfl rfl (mv rfl rfl ?_)
  refine bf hK (P1 [(5, hI a1), E4, (8, hI a1)] []) ?_
  refine AW.rgs rfl fun K hK => mv rfl rfl (mv rfl rfl (mv rfl rfl ?_))
  obtain ⟨x5, h6, h⟩ := bS h
  refine bv rfl (v_idxF ty39 es39 rfl rfl (idx_lt h6)) (bv rfl (v_loadF ty3 rfl (l_cell eInt h6 (o := 0) rfl rfl)) (bv rfl (v_bin rfl rfl b_eql) ?_))
  refine bf hK (P1 [(5, hI a1), E4, (8, hI a1), (16, .bool (decide (p1 = x5)))] []) ?_
  refine AW.cond rfl (fun hc => ?_) (fun hc => ?_)
  ·obtain ⟨hc, h⟩ := cT hc h
   refine AW.rgs rfl fun K hK => mv rfl rfl (mv rfl rfl ?_)
   refine bf hK ⟨[(4, hI a1)], []⟩ ?_
   have h := hr4 _ h
   obtain rfl := oi h
   exact AW.ret (ret_pure (.inr rfl) (resT rfl rfl) rfl trivial)
  obtain ⟨hc, h⟩ := cF hc h
  refine AW.skip ?_
  refine AW.rg rfl fun K hK => bv rfl (v_bin rfl rfl b_add) (mv rfl rfl ?_)
  refine b_nil (hK _ ?_)
  exact to_L ⟨IntKind.wrap .i64 (a1 + 1), (), h, rfl⟩
 obtain ⟨hc, h⟩ := cF hc h
 refine AW.exit ?_
 exact to_L ⟨(), (), h, rfl⟩
theorem w_slices_Contains_Lint_int {p0 : List (Int)} {p1 : Int} {r : Bool} (h : m_slices_Contains_Lint_int p0 p1 = some r) : Pure Tryd.prog 27 [slE eInt p0, hI p1] (· = HV.bool r) := by
 unfold m_slices_Contains_Lint_int at h
 refine Pure.of_body Tryd.func27 rfl rfl (lb rfl) fun hf => ?_
 unfold Tryd.f27
 dsimp only [enumS, Nat.reduceAdd]
 refine AW.rgs rfl fun K hK => mv rfl rfl ?_
 refine bf hK ⟨[(0, slE eInt p0), (1, hI p1)], []⟩ ?_
 refine AW.rgs rfl fun K hK => mv rfl rfl (mv rfl rfl ?_)
 obtain ⟨x1, h2, h⟩ := bS h
 refine b_op rfl (o_call rfl rfl rfl rfl (ACallD.pure0 (w_slices_Index_Lint_int h2)) ?_)
 refine bv rfl (v_bin rfl rfl b_geq) (mv rfl rfl ?_)
 refine bf hK ⟨[(4, .bool (decide (0 ≤ x1)))], []⟩ ?_
 obtain rfl := oi h
 exact AW.ret (ret_pure (.inr rfl) (resT rfl rfl) rfl trivial)
theorem w_parser_Automaton_1 {p0 : List (Int)} {r : Bool} (h : m_parser_Automaton_1 p0 = some r) : Pure Tryd.prog 26 [slE eInt p0] (· = HV.bool r) := by
 unfold m_parser_Automaton_1 at h
 refine Pure.of_body Tryd.func26 rfl rfl (lb rfl) fun hf => ?_
 unfold Tryd.f26
 dsimp only [enumS, Nat.reduceAdd]
 refine AW.rgs rfl fun K hK => mv rfl rfl ?_
 refine bf hK ⟨[(0, slE eInt p0)], []⟩ ?_
 refine AW.rgs rfl fun K hK => mv rfl rfl ?_
 obtain ⟨x1, h2, h⟩ := bS h
 refine b_op rfl (o_call rfl rfl rfl rfl (ACallD.pure0 (w_slices_Contains_Lint_int h2)) ?_)
 refine mv rfl rfl ?_
 refine bf hK ⟨[(2, .bool x1)], []⟩ ?_
 obtain rfl := oi h
 exact AW.ret (ret_pure (.inr rfl) (resT rfl rfl) rfl trivial)
theorem w_slices_IndexFunc_LLint_Lint {p0 : List (List (Int))} {p1 : (List (Int)) → Option (Bool)} {g1 : FuncId} {z1 : List HV} {r : Int} (h : m_slices_IndexFunc_LLint_Lint p0 p1 = some r) (hf1 : ∀ a0 b, p1 a0 = some b → Pure Tryd.prog g1 ([slE eInt a0] ++ z1) (· = HV.bool b)) : Pure Tryd.prog 41 [slE (eSl eInt) p0, .fn (.func g1) [] z1] (· = hI r) := by
 unfold m_slices_IndexFunc_LLint_Lint at h
 refine Pure.of_body Tryd.func41 rfl rfl (lb rfl) fun hf => ?_
 unfold Tryd.f41
 dsimp only [enumS, Nat.reduceAdd]
 refine AW.rgs rfl fun K hK => mv rfl rfl ?_
 let E7 : Nat × HV := (1, .fn (.func g1) [] z1)
 let P2 : ASf := fun t H => ⟨(0, slE (eSl eInt) p0) :: E7 :: t, H⟩
 refine bf hK (P2 [] []) ?_
 refine AW.seq ?_
 refine AW.rgs rfl fun K hK => mv rfl rfl (bv rfl (v_lenF rfl rfl ty25 rfl) (mv rfl rfl ?_))
 let E5 : Nat × HV := (7, hI ((p0).length : Int))
 refine bf hK (P2 [E5, (8, hI 0)] []) ?_
 refine AW.lpR h (by first | exact up_then | exact up_to) (S := Int) (V := Unit) (fun a v => (P2 [E5, (8, hI a)] [])) ?_ (X := Unit) (W := Unit) (fun a v => ⟨[], []⟩) (fun a9 w10 h => ?_) (fun a1 w2 st3 h hr4=> ?_)
 ·exact to_L ⟨(), rfl⟩
 ·refine AW.rgs rfl fun K hK => mv rfl rfl ?_
  refine bf hK ⟨[(4, hI (-1))], []⟩ ?_
  obtain rfl := oi h
  exact AW.ret (ret_pure (.inr rfl) (resT rfl rfl) rfl trivial)
 refine AW.rgs rfl fun K hK => bv rfl (v_bin rfl rfl b_lss) ?_
 refine bf hK (P2 [E5, (8, hI a1), (9, .bool (decide (a1 < ((p0).length : Int))))] []) ?_
 refine AW.cseq rfl (fun hc => ?_) (fun hc => ?_)
 ·obtain ⟨hc, h⟩ := cT hc h
  refine AW.skip ?_
  refine AW.seq (AW.block ?_)
  refine AW.rgs rfl fun K hK => mv rfl rfl (mv rfl rfl ?_)
  refine bf hK (P2 [(5, hI a1), E5, (8, hI a1)] []) ?_
  refine AW.rgs rfl fun K hK => mv rfl rfl (mv rfl rfl (mv rfl rfl ?_))
  obtain ⟨x5, h6, h⟩ := bS h
  refine bv rfl (v_idxF ty25 es25 rfl rfl (idx_lt h6)) (bv rfl (v_loadF ty39 rfl (l_cell (eSl eInt) h6 (o := 0) rfl rfl)) ?_)
  obtain ⟨x7, h8, h⟩ := bS h
  refine b_op rfl (o_call rfl rfl rfl rfl (ACallD.pure0 (hf1 _ _ h8)) ?_)
  refine bf hK (P2 [(5, hI a1), E5, (8, hI a1), (16, .bool x7)] []) ?_
  refine AW.cond rfl (fun hc => ?_) (fun hc => ?_)
  ·have h := ifT hc h
   refine AW.rgs rfl fun K hK => mv rfl rfl (mv rfl rfl ?_)
   refine bf hK ⟨[(4, hI a1)], []⟩ ?_
   have h := hr4 _ h
   obtain rfl := oi h
   exact AW.ret (ret_pure (.inr rfl) (resT rfl rfl) rfl trivial)
  have h := ifF (bF' hc) h
  refine AW.skip ?_
  refine AW.rg rfl fun K hK => bv rfl (v_bin rfl rfl b_add) (mv rfl rfl ?_)
  refine b_nil (hK _ ?_)
  exact to_L ⟨IntKind.wrap .i64 (a1 + 1), (), h, rfl⟩
 obtain ⟨hc, h⟩ := cF hc h
 refine AW.exit ?_
 exact to_L ⟨(), (), h, rfl⟩
theorem w_slices_ContainsFunc_LLint_Lint {p0 : List (List (Int))} {r : Bool} (h : m_slices_ContainsFunc_LLint_Lint p0 = some r) : Pure Tryd.prog 25 [slE (eSl eInt) p0, .fn (.func 26) [] []] (· = HV.bool r) := by
 unfold m_slices_ContainsFunc_LLint_Lint at h
 refine Pure.of_body Tryd.func25 rfl rfl (lb rfl) fun hf => ?_
 unfold Tryd.f25
 dsimp only [enumS, Nat.reduceAdd]
 refine AW.rgs rfl fun K hK => mv rfl rfl ?_
 refine bf hK ⟨[(0, slE (eSl eInt) p0), (1, .fn (.func 26) [] [])], []⟩ ?_
 refine AW.rgs rfl fun K hK => mv rfl rfl (mv rfl rfl ?_)
 obtain ⟨x1, h2, h⟩ := bS h
 refine b_op rfl (o_call rfl rfl rfl rfl (ACallD.pure0 (w_slices_IndexFunc_LLint_Lint h2 (fun _ _ h => w_parser_Automaton_1 h))) ?_)
 refine bv rfl (v_bin rfl rfl b_geq) (mv rfl rfl ?_)
 refine bf hK ⟨[(4, .bool (decide (0 ≤ x1)))], []⟩ ?_
 obtain rfl := oi h
 exact AW.ret (ret_pure (.inr rfl) (resT rfl rfl) rfl trivial)
theorem w_parser_Automaton {p0 : TLettersWords} {r : TLettersNext × Int} (h : m_parser_Automaton p0 = some r) : Pure Tryd.prog 12 [.agg [hI p0.1, slE eStr p0.2]] (· = HV.tup [.agg [hI r.1.1, slE (eSl eInt) r.1.2], hI r.2]) := by
 unfold m_parser_Automaton at h
 refine Pure.of_body Tryd.func12 rfl rfl (lb rfl) fun hf => ?_
 unfold Tryd.f12
 dsimp only [enumS, Nat.reduceAdd]
 refine AW.rgs rfl fun K hK => b_op rfl (o_box rfl rfl rfl ?_)
 refine b_op rfl (o_alloc (fid := 12) (zs := [hI 0, .v (.slice none 0 0)]) 12002 rfl rfl ty29 rfl (fun v1 => ?_))
 refine mv rfl rfl ?_
 let O9 : Nat × Nat × AObj := (12002, v1, .arr 2 29 [hI 0, .v (.slice none 0 0)])
 refine bf hK ⟨[(1, .fptr [hI p0.1, slE eStr p0.2] 0), (2, .ptr 12002 v1 0)], [O9]⟩ ?_
 refine AW.rgs rfl fun K hK => bv rfl (v_loadF ty24 rfl (l_litA rfl (lb rfl) rfl)) ?_
 obtain ⟨x2, h3, h⟩ := bS h
 refine b_op rfl (o_call rfl rfl rfl rfl (ACallD.pure0 (w_parser_Build h3)) ?_)
 refine mv rfl rfl (bv rfl (v_extract rfl rfl) (bv rfl (v_extract rfl rfl) ?_))
 refine b_op rfl (o_alloc (fid := 12) (zs := [hI 0, .v (.slice none 0 0), .v (.slice none 0 0), .v (.slice none 0 0)]) 12004 rfl rfl ty27 rfl (fun v4 => ?_))
 refine b_op rfl (o_store (cs := [hI x2.1.1, slE eStr x2.1.2.1, slE (eSl eInt) x2.1.2.2.1, slE (eSl eInt) x2.1.2.2.2]) (zs := [hI x2.1.1, slE eStr x2.1.2.1, slE (eSl eInt) x2.1.2.2.1, slE (eSl eInt) x2.1.2.2.2]) rfl rfl rfl ty27 rfl rfl rfl rfl rfl ?_)
 refine mv rfl rfl ?_
 let O10 : Nat × Nat × AObj := (12004, v4, .arr 4 27 [hI x2.1.1, slE eStr x2.1.2.1, slE (eSl eInt) x2.1.2.2.1, slE (eSl eInt) x2.1.2.2.2])
 let P3 : ASf := fun t H => ⟨(2, .ptr 12002 v1 0) :: (4, .ptr 12004 v4 0) :: t, O9 :: O10 :: H⟩
 refine bf hK (P3 [(5, hI x2.2)] []) ?_
 refine AW.seq ?_
 refine AW.rgs rfl fun K hK => mv rfl rfl (bv rfl (v_bin rfl rfl b_neq) ?_)
 refine bf hK (P3 [(5, hI x2.2), (12, .bool (decide (x2.2 ≠ 0)))] []) ?_
 refine AW.cond rfl (fun hc => ?_) (fun hc => ?_)
 ·obtain ⟨hc, h⟩ := cT hc h
  refine AW.rgs rfl fun K hK => b_op rfl (o_build (cs := [hI 0, .v (.slice none 0 0)]) rfl (bl_of ty29 rfl rfl rfl rfl) ?_)
  refine mv rfl rfl ?_
  refine b_op rfl (o_store (cs := [hI 0, .v (.slice none 0 0)]) (zs := [hI 0, .v (.slice none 0 0)]) rfl rfl rfl ty29 rfl rfl rfl rfl rfl ?_)
  refine mv rfl rfl ?_
  refine bf hK ⟨[(2, .ptr 12002 v1 0), (3, hI x2.2)], [O9]⟩ ?_
  refine AW.to (to_cells 12002 v1 (ds := [hI 0, slE (eSl eInt) ([] : List (List (Int)))]) rfl (.cons (.refl _) <| .cons (.nil _) <| .nil) ?_)
  obtain rfl := oi h
  exact AW.ret (ret_pure (.inr rfl) (resP ty29 rfl rfl (l_litA rfl (lb rfl) rfl) (resT rfl rfl)) rfl ⟨⟨trivial, (clean_slE fun _ _ => ⟨(clean_slE fun _ _ => ⟨trivial, trivial⟩), trivial⟩), trivial⟩, trivial, trivial⟩)
 obtain ⟨hc, h⟩ := cF hc h
 refine AW.skip ?_
 refine AW.seq ?_
 refine AW.rgs rfl fun K hK => bv rfl (v_fieldAddrP fo27_2 rfl rfl) (bv rfl (v_loadP ty25 rfl rfl (l_lit rfl rfl)) ?_)
 obtain ⟨x5, h6, h⟩ := bS h
 refine b_op rfl (o_call rfl rfl rfl rfl (ACallD.pure0 (w_slices_ContainsFunc_LLint_Lint h6)) ?_)
 refine bf hK (P3 [(17, .bool x5)] []) ?_
 refine AW.cond rfl (fun hc => ?_) (fun hc => ?_)
 ·have h := ifT hc h
  refine AW.rgs rfl fun K hK => b_op rfl (o_build (cs := [hI 0, .v (.slice none 0 0)]) rfl (bl_of ty29 rfl rfl rfl rfl) ?_)
  refine b_op rfl (o_store (cs := [hI 0, .v (.slice none 0 0)]) (zs := [hI 0, .v (.slice none 0 0)]) rfl rfl rfl ty29 rfl rfl rfl rfl rfl ?_)
  refine mv rfl rfl ?_
  refine bf hK ⟨[(2, .ptr 12002 v1 0), (3, hI 8)], [O9]⟩ ?_
  refine AW.to (to_cells 12002 v1 (ds := [hI 0, slE (eSl eInt) ([] : List (List (Int)))]) rfl (.cons (.refl _) <| .cons (.nil _) <| .nil) ?_)
  obtain rfl := oi h
  exact AW.ret (ret_pure (.inr rfl) (resP ty29 rfl rfl (l_litA rfl (lb rfl) rfl) (resT rfl rfl)) rfl ⟨⟨trivial, (clean_slE fun _ _ => ⟨(clean_slE fun _ _ => ⟨trivial, trivial⟩), trivial⟩), trivial⟩, trivial, trivial⟩)
 have h := ifF (bF' hc) h
 refine AW.skip ?_
 refine AW.rgs rfl fun K hK => bv rfl (v_fieldAddrP fo27_0 rfl rfl) (bv rfl (v_loadP ty3 rfl rfl (l_lit rfl rfl)) (bv rfl (v_fieldAddrP fo27_2 rfl rfl) (bv rfl (v_loadP ty25 rfl rfl (l_lit rfl rfl)) ?_)))
 refine b_op rfl (o_build (cs := [hI x2.1.1, slE (eSl eInt) x2.1.2.2.1]) rfl (bl_of ty29 rfl rfl rfl rfl) ?_)
 refine b_op rfl (o_store (cs := [hI x2.1.1, slE (eSl eInt) x2.1.2.2.1]) (zs := [hI x2.1.1, slE (eSl eInt) x2.1.2.2.1]) rfl rfl rfl ty29 rfl rfl rfl rfl rfl ?_)
 refine mv rfl rfl ?_
 refine bf hK ⟨[(2, .ptr 12002 v1 0), (3, hI 0)], [(12002, v1, .arr 2 29 [hI x2.1.1, slE (eSl eInt) x2.1.2.2.1])]⟩ ?_
 obtain rfl := oi h
 exact AW.ret (ret_pure (.inr rfl) (resP ty29 rfl rfl (l_litA rfl (lb rfl) rfl) (resT rfl rfl)) rfl ⟨⟨trivial, (clean_slE fun _ _ => ⟨(clean_slE fun _ _ => ⟨trivial, trivial⟩), trivial⟩), trivial⟩, trivial, trivial⟩)
theorem w_top_top45Machine {p0 : TLettersWords} {r : TLettersPrefixesNextEmit × TLettersNext × Bool} (h : m_top_top45Machine p0 = some r) : Pure Tryd.prog 4 [.agg [hI p0.1, slE eStr p0.2]] (· = HV.tup [.agg [hI r.1.1, slE eStr r.1.2.1, slE (eSl eInt) r.1.2.2.1, slE (eSl eInt) r.1.2.2.2], .agg [hI r.2.1.1, slE (eSl eInt) r.2.1.2], .bool r.2.2]) := by
 unfold m_top_top45Machine at h
 refine Pure.of_body Tryd.func4 rfl rfl (lb rfl) fun hf => ?_
 unfold Tryd.f4
 dsimp only [enumS, Nat.reduceAdd]
 refine AW.rgs rfl fun K hK => b_op rfl (o_box rfl rfl rfl ?_)
 refine b_op rfl (o_alloc (fid := 4) (zs := [hI 0, .v (.slice none 0 0), .v (.slice none 0 0), .v (.slice none 0 0)]) 4002 rfl rfl ty27 rfl (fun v1 => ?_))
 refine b_op rfl (o_alloc (fid := 4) (zs := [hI 0, .v (.slice none 0 0)]) 4003 rfl rfl ty29 rfl (fun v2 => ?_))
 refine mv rfl rfl ?_
 let E2 : Nat × HV := (1, .fptr [hI p0.1, slE eStr p0.2] 0)
 let O11 : Nat × Nat × AObj := (4002, v1, .arr 4 27 [hI 0, .v (.slice none 0 0), .v (.slice none 0 0), .v (.slice none 0 0)])
 let O12 : Nat × Nat × AObj := (4003, v2, .arr 2 29 [hI 0, .v (.slice none 0 0)])
 let P4 : ASf := fun t H => ⟨E2 :: (2, .ptr 4002 v1 0) :: (3, .ptr 4003 v2 0) :: t, O11 :: O12 :: H⟩
 refine bf hK (P4 [] []) ?_
 refine AW.seq ?_
 refine AW.seqJ h (S := Bool) (V := Unit) (fun a v => (P4 [(14, .bool a)] [])) (fun a3 w4 h => ?_) (fun k5 h => ?_)
 ·refine AW.cond rfl (fun hc => ?_) (fun hc => ?_)
  ·have h := ifT hc h
   refine AW.rgs rfl fun K hK => b_op rfl (o_build (cs := [hI 0, .v (.slice none 0 0), .v (.slice none 0 0), .v (.slice none 0 0)]) rfl (bl_of ty27 rfl rfl rfl rfl) ?_)
   refine b_op rfl (o_build (cs := [hI 0, .v (.slice none 0 0)]) rfl (bl_of ty29 rfl rfl rfl rfl) ?_)
   refine b_op rfl (o_store (cs := [hI 0, .v (.slice none 0 0), .v (.slice none 0 0), .v (.slice none 0 0)]) (zs := [hI 0, .v (.slice none 0 0), .v (.slice none 0 0), .v (.slice none 0 0)]) rfl rfl rfl ty27 rfl rfl rfl rfl rfl ?_)
   refine b_op rfl (o_store (cs := [hI 0, .v (.slice none 0 0)]) (zs := [hI 0, .v (.slice none 0 0)]) rfl rfl rfl ty29 rfl rfl rfl rfl rfl ?_)
   refine mv rfl rfl ?_
   refine bf hK ⟨[(2, .ptr 4002 v1 0), (3, .ptr 4003 v2 0), (4, .bool false)], [O11, O12]⟩ ?_
   refine AW.to (to_cells 4002 v1 (ds := [hI 0, slE eStr ([] : List (List UInt8)), slE (eSl eInt) ([] : List (List (Int))), slE (eSl eInt) ([] : List (List (Int)))]) rfl (.cons (.refl _) <| .cons (.nil _) <| .cons (.nil _) <| .cons (.nil _) <| .nil) ?_)
   refine AW.to (to_cells 4003 v2 (ds := [hI 0, slE (eSl eInt) ([] : List (List (Int)))]) rfl (.cons (.refl _) <| .cons (.nil _) <| .nil) ?_)
   obtain rfl := oi h
   exact AW.ret (ret_pure (.inr rfl) (resP ty27 rfl rfl (l_litA rfl (lb rfl) rfl) (resP ty29 rfl rfl (l_litA rfl (lb rfl) rfl) (resT rfl rfl))) rfl ⟨⟨trivial, (clean_slE fun _ _ => ⟨trivial, trivial⟩), (clean_slE fun _ _ => ⟨(clean_slE fun _ _ => ⟨trivial, trivial⟩), trivial⟩), (clean_slE fun _ _ => ⟨(clean_slE fun _ _ => ⟨trivial, trivial⟩), trivial⟩), trivial⟩, ⟨trivial, (clean_slE fun _ _ => ⟨(clean_slE fun _ _ => ⟨trivial, trivial⟩), trivial⟩), trivial⟩, trivial, trivial⟩)
  have h := ifF (bF' hc) h
  refine AW.skip ?_
  refine AW.rgs rfl fun K hK => bv rfl (v_loadF ty24 rfl (l_litA rfl (lb rfl) rfl)) ?_
  obtain ⟨x6, h7, h⟩ := bS h
  refine b_op rfl (o_call rfl rfl rfl rfl (ACallD.pure0 (w_parser_Automaton h7)) ?_)
  refine mv rfl rfl (bv rfl (v_extract rfl rfl) (bv rfl (v_extract rfl rfl) ?_))
  refine b_op rfl (o_alloc (fid := 4) (zs := [hI 0, .v (.slice none 0 0)]) 4005 rfl rfl ty29 rfl (fun v8 => ?_))
  refine b_op rfl (o_store (cs := [hI x6.1.1, slE (eSl eInt) x6.1.2]) (zs := [hI x6.1.1, slE (eSl eInt) x6.1.2]) rfl rfl rfl ty29 rfl rfl rfl rfl rfl ?_)
  refine mv rfl rfl ?_
  let O13 : Nat × Nat × AObj := (4005, v8, .arr 2 29 [hI x6.1.1, slE (eSl eInt) x6.1.2])
  refine bf hK (P4 [(5, .ptr 4005 v8 0), (6, hI x6.2)] [O13]) ?_
  refine AW.seq ?_
  refine AW.seqJ h (S := Bool) (V := Unit) (fun a v => (P4 [(5, .ptr 4005 v8 0), (29, .bool a)] [O13])) (fun a9 w10 h => ?_) (fun k11 h => ?_)
  ·refine AW.cond rfl (fun hc => ?_) (fun hc => ?_)
   ·have h := ifT hc h
    refine AW.rgs rfl fun K hK => b_op rfl (o_build (cs := [hI 0, .v (.slice none 0 0), .v (.slice none 0 0), .v (.slice none 0 0)]) rfl (bl_of ty27 rfl rfl rfl rfl) ?_)
    refine b_op rfl (o_build (cs := [hI 0, .v (.slice none 0 0)]) rfl (bl_of ty29 rfl rfl rfl rfl) ?_)
    refine b_op rfl (o_store (cs := [hI 0, .v (.slice none 0 0), .v (.slice none 0 0), .v (.slice none 0 0)]) (zs := [hI 0, .v (.slice none 0 0), .v (.slice none 0 0), .v (.slice none 0 0)]) rfl rfl rfl ty27 rfl rfl rfl rfl rfl ?_)
    refine b_op rfl (o_store (cs := [hI 0, .v (.slice none 0 0)]) (zs := [hI 0, .v (.slice none 0 0)]) rfl rfl rfl ty29 rfl rfl rfl rfl rfl ?_)
    refine mv rfl rfl ?_
    refine bf hK ⟨[(2, .ptr 4002 v1 0), (3, .ptr 4003 v2 0), (4, .bool false)], [O11, O12]⟩ ?_
    refine AW.to (to_cells 4002 v1 (ds := [hI 0, slE eStr ([] : List (List UInt8)), slE (eSl eInt) ([] : List (List (Int))), slE (eSl eInt) ([] : List (List (Int)))]) rfl (.cons (.refl _) <| .cons (.nil _) <| .cons (.nil _) <| .cons (.nil _) <| .nil) ?_)
    refine AW.to (to_cells 4003 v2 (ds := [hI 0, slE (eSl eInt) ([] : List (List (Int)))]) rfl (.cons (.refl _) <| .cons (.nil _) <| .nil) ?_)
    obtain rfl := oi h
    exact AW.ret (ret_pure (.inr rfl) (resP ty27 rfl rfl (l_litA rfl (lb rfl) rfl) (resP ty29 rfl rfl (l_litA rfl (lb rfl) rfl) (resT rfl rfl))) rfl ⟨⟨trivial, (clean_slE fun _ _ => ⟨trivial, trivial⟩), (clean_slE fun _ _ => ⟨(clean_slE fun _ _ => ⟨trivial, trivial⟩), trivial⟩), (clean_slE fun _ _ => ⟨(clean_slE fun _ _ => ⟨trivial, trivial⟩), trivial⟩), trivial⟩, ⟨trivial, (clean_slE fun _ _ => ⟨(clean_slE fun _ _ => ⟨trivial, trivial⟩), trivial⟩), trivial⟩, trivial, trivial⟩)
   have h := ifF (bF' hc) h
   refine AW.skip ?_
   refine AW.rgs rfl fun K hK => bv rfl (v_loadF ty24 rfl (l_litA rfl (lb rfl) rfl)) ?_
   obtain ⟨x12, h13, h⟩ := bS h
   refine b_op rfl (o_call rfl rfl rfl rfl (ACallD.pure0 (w_parser_Build h13)) ?_)
   refine mv rfl rfl (bv rfl (v_extract rfl rfl) (bv rfl (v_extract rfl rfl) ?_))
   refine b_op rfl (o_alloc (fid := 4) (zs := [hI 0, .v (.slice none 0 0), .v (.slice none 0 0), .v (.slice none 0 0)]) 4007 rfl rfl ty27 rfl (fun v14 => ?_))
   refine b_op rfl (o_store (cs := [hI x12.1.1, slE eStr x12.1.2.1, slE (eSl eInt) x12.1.2.2.1, slE (eSl eInt) x12.1.2.2.2]) (zs := [hI x12.1.1, slE eStr x12.1.2.1, slE (eSl eInt) x12.1.2.2.1, slE (eSl eInt) x12.1.2.2.2]) rfl rfl rfl ty27 rfl rfl rfl rfl rfl ?_)
   refine mv rfl rfl ?_
   let O14 : Nat × Nat × AObj := (4007, v14, .arr 4 27 [hI x12.1.1, slE eStr x12.1.2.1, slE (eSl eInt) x12.1.2.2.1, slE (eSl eInt) x12.1.2.2.2])
   let P5 : ASf := fun t H => ⟨(2, .ptr 4002 v1 0) :: (3, .ptr 4003 v2 0) :: t, H⟩
   refine bf hK (P5 [(5, .ptr 4005 v8 0), (6, hI x12.2), (7, .ptr 4007 v14 0)] [O11, O12, O13, O14]) ?_
   refine AW.dls follows fun K hK F hF => ?_
   refine l_go (L' := []) hF rfl (s' := (P5 [(5, .ptr 4005 v8 0), (6, hI x12.2), (7, .ptr 4007 v14 0)] [O11, O12, O13, O14])) ?_ (le_q rfl rfl)
   let P : ASf := fun t H => ⟨(2, .ptr 4002 v1 0) :: (3, .ptr 4003 v2 0) :: t, (4002, v1, .arr 4 27 [hI 0, .v (.slice none 0 0), .v (.slice none 0 0), .v (.slice none 0 0)]) :: (4003, v2, .arr 2 29 [hI 0, .v (.slice none 0 0)]) :: (4005, v8, .arr 2 29 [hI x6.1.1, slE (eSl eInt) x6.1.2]) :: (4007, v14, .arr 4 27 [hI x12.1.1, slE eStr x12.1.2.1, slE (eSl eInt) x12.1.2.2.1, slE (eSl eInt) x12.1.2.2.2]) :: H⟩
   let O15 : Nat × Nat × AObj := (4002, v1, .arr 4 27 [hI x12.1.1, slE eStr x12.1.2.1, slE (eSl eInt) x12.1.2.2.1, slE (eSl eInt) x12.1.2.2.2])
   let O16 : Nat × Nat × AObj := (4003, v2, .arr 2 29 [hI x6.1.1, slE (eSl eInt) x6.1.2])
   have g15_8 : F [0, 1, 2, 3, 4, 5, 6] (P5 [(4, .bool (decide (x12.2 = 0)))] [O15, O16, O13, O14]) := by
    refine l_done hF rfl rfl (hK _ (AW.to (to_le (s' := (P5 [(4, .bool (decide (x12.2 = 0)))] [O15, O16])) (le_q rfl rfl) ?_)))
    obtain rfl := oi h
    exact AW.ret (ret_pure (.inr rfl) (resP ty27 rfl rfl (l_litA rfl (lb rfl) rfl) (resP ty29 rfl rfl (l_litA rfl (lb rfl) rfl) (resT rfl rfl))) rfl ⟨⟨trivial, (clean_slE fun _ _ => ⟨trivial, trivial⟩), (clean_slE fun _ _ => ⟨(clean_slE fun _ _ => ⟨trivial, trivial⟩), trivial⟩), (clean_slE fun _ _ => ⟨(clean_slE fun _ _ => ⟨trivial, trivial⟩), trivial⟩), trivial⟩, ⟨trivial, (clean_slE fun _ _ => ⟨(clean_slE fun _ _ => ⟨trivial, trivial⟩), trivial⟩), trivial⟩, trivial, trivial⟩)
   have g15_7 : F [0, 1, 2, 3, 4, 5] (P5 [(40, .bool (decide (x12.2 = 0)))] [O15, O16, O13, O14]) := by
    refine l_step hF rfl [6] rfl rfl ⟨?_, trivial⟩
    exact l_ov rfl rfl rfl rfl (mv_val rfl rfl).2 (lg hF (g15_8))
   have g15_6 : F [0, 1, 2, 3, 4] (P5 [(38, .agg [hI x6.1.1, slE (eSl eInt) x6.1.2]), (40, .bool (decide (x12.2 = 0)))] [O15, O12, O13, O14]) := by
    refine l_step hF rfl [5] rfl rfl ⟨?_, trivial⟩
    refine l_op rfl rfl rfl (o_store (cs := [hI x6.1.1, slE (eSl eInt) x6.1.2]) (zs := [hI x6.1.1, slE (eSl eInt) x6.1.2]) rfl rfl rfl ty29 rfl rfl rfl rfl rfl ?_)
    exact b_nil (lg hF (g15_7))
   have g15_5 : F [0, 1, 2, 3] (P [(37, .agg [hI x12.1.1, slE eStr x12.1.2.1, slE (eSl eInt) x12.1.2.2.1, slE (eSl eInt) x12.1.2.2.2]), (38, .agg [hI x6.1.1, slE (eSl eInt) x6.1.2]), (40, .bool (decide (x12.2 = 0)))] []) := by
    refine l_step hF rfl [4] rfl rfl ⟨?_, trivial⟩
    refine l_op rfl rfl rfl (o_store (cs := [hI x12.1.1, slE eStr x12.1.2.1, slE (eSl eInt) x12.1.2.2.1, slE (eSl eInt) x12.1.2.2.2]) (zs := [hI x12.1.1, slE eStr x12.1.2.1, slE (eSl eInt) x12.1.2.2.1, slE (eSl eInt) x12.1.2.2.2]) rfl rfl rfl ty27 rfl rfl rfl rfl rfl ?_)
    exact b_nil (lg hF (g15_6))
   have g15_9 : F [0, 2, 3, 4] (P5 [(5, .ptr 4005 v8 0), (40, .bool (decide (x12.2 = 0)))] [O15, O12, O13, O14]) := by
    refine l_step hF rfl [1] rfl rfl ⟨?_, trivial⟩
    exact l_ov rfl rfl rfl rfl (v_loadP ty29 rfl rfl (l_litA rfl (lb rfl) rfl)) (lg hF (g15_6))
   have g15_3 : F [0, 2, 3] (P [(5, .ptr 4005 v8 0), (37, .agg [hI x12.1.1, slE eStr x12.1.2.1, slE (eSl eInt) x12.1.2.2.1, slE (eSl eInt) x12.1.2.2.2]), (40, .bool (decide (x12.2 = 0)))] []) := by
    refine l_step hF rfl [1, 4] rfl rfl ⟨?_, ?_, trivial⟩
    ·exact l_ov rfl rfl rfl rfl (v_loadP ty29 rfl rfl (l_litA rfl (lb rfl) rfl)) (lg hF (g15_5))
    refine l_op rfl rfl rfl (o_store (cs := [hI x12.1.1, slE eStr x12.1.2.1, slE (eSl eInt) x12.1.2.2.1, slE (eSl eInt) x12.1.2.2.2]) (zs := [hI x12.1.1, slE eStr x12.1.2.1, slE (eSl eInt) x12.1.2.2.1, slE (eSl eInt) x12.1.2.2.2]) rfl rfl rfl ty27 rfl rfl rfl rfl rfl ?_)
    exact b_nil (lg hF (g15_9))
   have g15_4 : F [1, 2, 3] (P [(7, .ptr 4007 v14 0), (38, .agg [hI x6.1.1, slE (eSl eInt) x6.1.2]), (40, .bool (decide (x12.2 = 0)))] []) := by
    refine l_step hF rfl [0] rfl rfl ⟨?_, trivial⟩
    exact l_ov rfl rfl rfl rfl (v_loadP ty27 rfl rfl (l_litA rfl (lb rfl) rfl)) (lg hF (g15_5))
   have g15_2 : F [2, 3] (P [(5, .ptr 4005 v8 0), (7, .ptr 4007 v14 0), (40, .bool (decide (x12.2 = 0)))] []) := by
    refine l_step hF rfl [0, 1] rfl rfl ⟨?_, ?_, trivial⟩
    ·exact l_ov rfl rfl rfl rfl (v_loadP ty27 rfl rfl (l_litA rfl (lb rfl) rfl)) (lg hF (g15_3))
    exact l_ov rfl rfl rfl rfl (v_loadP ty29 rfl rfl (l_litA rfl (lb rfl) rfl)) (lg hF (g15_4))
   have g15_1 : F [2] (P [(5, .ptr 4005 v8 0), (7, .ptr 4007 v14 0), (39, hI x12.2)] []) := by
    refine l_takeW (i := 3) hF rfl rfl rfl (f_bin rfl rfl rfl b_eql rfl) ?_
    exact lg hF (g15_2)
   have g15_0 : F [] (P [(5, .ptr 4005 v8 0), (6, hI x12.2), (7, .ptr 4007 v14 0)] []) := by
    refine l_take (i := 2) hF rfl rfl rfl (mv_val rfl rfl).2 ?_
    exact lg hF (g15_1)
   exact g15_0
  refine AW.rg rfl fun K hK => mv rfl rfl (bv rfl (v_bin rfl rfl b_neq) (mv rfl rfl ?_))
  by_cases hg16 : x6.2 ≠ 0
  ·have h := ifT hg16 h
   refine b_F rfl rfl rfl rfl rfl (decide_eq_true hg16) ?_
   iterate 3 refine b_F rfl rfl rfl rfl rfl rfl ?_
   refine bv rfl (v_pickT rfl rfl rfl) ?_
   refine b_nil (hK _ ?_)
   exact to_L ⟨true, (), h, rfl⟩
  have h := ifF hg16 h
  refine b_T rfl rfl rfl rfl (decide_eq_false hg16) (o_val rfl (v_fieldAddrP fo29_1 rfl rfl) ?_)
  refine b_T rfl rfl rfl rfl rfl (o_val rfl (v_loadP ty25 rfl rfl (l_lit rfl rfl)) ?_)
  refine b_T rfl rfl rfl rfl rfl (o_val rfl (v_lenF rfl rfl ty25 rfl) ?_)
  refine b_T rfl rfl rfl rfl rfl (o_val rfl (v_bin rfl rfl b_gtr) ?_)
  refine bv rfl (v_pickF rfl rfl rfl) ?_
  refine b_nil (hK _ ?_)
  exact to_L ⟨decide (12 < ((x6.1.2).length : Int)), (), h, rfl⟩
 refine AW.rg rfl fun K hK => bv rfl (v_loadF ty24 rfl (l_litA rfl (lb rfl) rfl)) ?_
 obtain ⟨x17, h18, h⟩ := bS h
 refine b_op rfl (o_call rfl rfl rfl rfl (ACallD.pure0 (w_ref33_Great h18)) ?_)
 refine mv rfl rfl ?_
 by_cases hg19 : x17 = true
 ·have h := ifT hg19 h
  refine b_F rfl rfl rfl rfl rfl hg19 ?_
  iterate 2 refine b_F rfl rfl rfl rfl rfl rfl ?_
  refine bv rfl (v_pickT rfl rfl rfl) ?_
  refine b_nil (hK _ ?_)
  exact to_L ⟨true, (), h, rfl⟩
 have h := ifF hg19 h
 refine b_T rfl rfl rfl rfl (bF hg19) (o_val rfl (v_fieldAddrF fo24_0 rfl) ?_)
 refine b_T rfl rfl rfl rfl rfl (o_val rfl (v_loadF ty3 rfl (l_lit rfl rfl)) ?_)
 refine b_T rfl rfl rfl rfl rfl (o_val rfl (v_bin rfl rfl b_gtr) ?_)
 refine bv rfl (v_pickF rfl rfl rfl) ?_
 refine b_nil (hK _ ?_)
 exact to_L ⟨decide (8 < p0.1), (), h, rfl⟩
theorem w_slices_IndexFunc_Lint_int {p0 : List (Int)} {p1 : Int → Option (Bool)} {g1 : FuncId} {z1 : List HV} {r : Int} (h : m_slices_IndexFunc_Lint_int p0 p1 = some r) (hf1 : ∀ a0 b, p1 a0 = some b → Pure Tryd.prog g1 ([hI a0] ++ z1) (· = HV.bool b)) : Pure Tryd.prog 52 [slE eInt p0, .fn (.func g1) [] z1] (· = hI r) := by
 unfold m_slices_IndexFunc_Lint_int at h
 refine Pure.of_body Tryd.func52 rfl rfl (lb rfl) fun hf => ?_
 unfold Tryd.f52
 dsimp only [enumS, Nat.reduceAdd]
 refine AW.rgs rfl fun K hK => mv rfl rfl ?_
 let E8 : Nat × HV := (1, .fn (.func g1) [] z1)
 let P6 : ASf := fun t H => ⟨(0, slE eInt p0) :: E8 :: t, H⟩
 refine bf hK (P6 [] []) ?_
 refine AW.seq ?_
 refine AW.rgs rfl fun K hK => mv rfl rfl (bv rfl (v_lenF rfl rfl ty39 rfl) (mv rfl rfl ?_))
 let E6 : Nat × HV := (7, hI ((p0).length : Int))
 refine bf hK (P6 [E6, (8, hI 0)] []) ?_
 refine AW.lpR h (by first | exact up_then | exact up_to) (S := Int) (V := Unit) (fun a v => (P6 [E6, (8, hI a)] [])) ?_ (X := Unit) (W := Unit) (fun a v => ⟨[], []⟩) (fun a9 w10 h => ?_) (fun a1 w2 st3 h hr4=> ?_)
 ·exact to_L ⟨(), rfl⟩
 ·refine AW.rgs rfl fun K hK => mv rfl rfl ?_
  refine bf hK ⟨[(4, hI (-1))], []⟩ ?_
  obtain rfl := oi h
  exact AW.ret (ret_pure (.inr rfl) (resT rfl rfl) rfl trivial)
 refine AW.rgs rfl fun K hK => bv rfl (v_bin rfl rfl b_lss) ?_
 refine bf hK (P6 [E6, (8, hI a1), (9, .bool (decide (a1 < ((p0).length : Int))))] []) ?_
 refine AW.cseq rfl (fun hc => ?_) (fun hc => ?_)
 ·obtain ⟨hc, h⟩ := cT hc h
  refine AW.skip ?_
  refine AW.seq (AW.block ?_)
  refine AW.rgs rfl fun K hK => mv rfl rfl (mv rfl rfl ?_)
  refine bf hK (P6 [(5, hI a1), E6, (8, hI a1)] []) ?_
  refine AW.rgs rfl fun K hK => mv rfl rfl (mv rfl rfl (mv rfl rfl ?_))
  obtain ⟨x5, h6, h⟩ := bS h
  refine bv rfl (v_idxF ty39 es39 rfl rfl (idx_lt h6)) (bv rfl (v_loadF ty3 rfl (l_cell eInt h6 (o := 0) rfl rfl)) ?_)
  obtain ⟨x7, h8, h⟩ := bS h
  refine b_op rfl (o_call rfl rfl rfl rfl (ACallD.pure0 (hf1 _ _ h8)) ?_)
  refine bf hK (P6 [(5, hI a1), E6, (8, hI a1), (16, .bool x7)] []) ?_
  refine AW.cond rfl (fun hc => ?_) (fun hc => ?_)
  ·have h := ifT hc h
   refine AW.rgs rfl fun K hK => mv rfl rfl (mv rfl rfl ?_)
   refine bf hK ⟨[(4, hI a1)], []⟩ ?_
   have h := hr4 _ h
   obtain rfl := oi h
   exact AW.ret (ret_pure (.inr rfl) (resT rfl rfl) rfl trivial)
  have h := ifF (bF' hc) h
  refine AW.skip ?_
  refine AW.rg rfl fun K hK => bv rfl (v_bin rfl rfl b_add) (mv rfl rfl ?_)
  refine b_nil (hK _ ?_)
  exact to_L ⟨IntKind.wrap .i64 (a1 + 1), (), h, rfl⟩
 obtain ⟨hc, h⟩ := cF hc h
 refine AW.exit ?_
 exact to_L ⟨(), (), h, rfl⟩
theorem w_slices_ContainsFunc_Lint_int {p0 : List (Int)} {p1 : Int → Option (Bool)} {g1 : FuncId} {z1 : List HV} {r : Bool} (h : m_slices_ContainsFunc_Lint_int p0 p1 = some r) (hf1 : ∀ a0 b, p1 a0 = some b → Pure Tryd.prog g1 ([hI a0] ++ z1) (· = HV.bool b)) : Pure Tryd.prog 32 [slE eInt p0, .fn (.func g1) [] z1] (· = HV.bool r) := by
 unfold m_slices_ContainsFunc_Lint_int at h
 refine Pure.of_body Tryd.func32 rfl rfl (lb rfl) fun hf => ?_
 unfold Tryd.f32
 dsimp only [enumS, Nat.reduceAdd]
 refine AW.rgs rfl fun K hK => mv rfl rfl ?_
 refine bf hK ⟨[(0, slE eInt p0), (1, .fn (.func g1) [] z1)], []⟩ ?_
 refine AW.rgs rfl fun K hK => mv rfl rfl (mv rfl rfl ?_)
 obtain ⟨x1, h2, h⟩ := bS h
 refine b_op rfl (o_call rfl rfl rfl rfl (ACallD.pure0 (w_slices_IndexFunc_Lint_int h2 hf1)) ?_)
 refine bv rfl (v_bin rfl rfl b_geq) (mv rfl rfl ?_)
 refine bf hK ⟨[(4, .bool (decide (0 ≤ x1)))], []⟩ ?_
 obtain rfl := oi h
 exact AW.ret (ret_pure (.inr rfl) (resT rfl rfl) rfl trivial)
theorem w_reset_Check_1 {p0 : Int} {c0 : TLettersNext} {r : Bool} (h : m_reset_Check_1 p0 c0 = some r) : Pure Tryd.prog 33 [hI p0, .fptr [hI c0.1, slE (eSl eInt) c0.2] 0] (· = HV.bool r) := by
 unfold m_reset_Check_1 at h
 refine Pure.of_body Tryd.func33 rfl rfl (lb rfl) fun hf => ?_
 unfold Tryd.f33
 dsimp only [enumS, Nat.reduceAdd]
 refine AW.rgs rfl fun K hK => mv rfl rfl ?_
 refine bf hK ⟨[(0, hI p0), (1, .fptr [hI c0.1, slE (eSl eInt) c0.2] 0)], []⟩ ?_
 refine AW.seqJ h (S := Bool) (V := Unit) (fun a v => ⟨[(3, .bool a)], []⟩) (fun a1 w2 h => ?_) (fun k3 h => ?_)
 ·obtain rfl := oi h
  exact AW.ret (ret_pure (.inr rfl) (resT rfl rfl) rfl trivial)
 refine AW.rg rfl fun K hK => mv rfl rfl (bv rfl (v_bin rfl rfl b_lss) (mv rfl rfl ?_))
 by_cases hg4 : p0 < 0
 ·have h := ifT hg4 h
  refine b_F rfl rfl rfl rfl rfl (decide_eq_true hg4) ?_
  iterate 4 refine b_F rfl rfl rfl rfl rfl rfl ?_
  refine bv rfl (v_pickT rfl rfl rfl) (mv rfl rfl ?_)
  refine b_nil (hK _ ?_)
  exact to_L ⟨true, (), h, rfl⟩
 have h := ifF hg4 h
 refine b_T rfl rfl rfl rfl (decide_eq_false hg4) (o_val rfl (mv_val rfl rfl).2 ?_)
 refine b_T rfl rfl rfl rfl rfl (o_val rfl (v_fieldAddrF fo29_1 rfl) ?_)
 refine b_T rfl rfl rfl rfl rfl (o_val rfl (v_loadF ty25 rfl (l_lit rfl rfl)) ?_)
 refine b_T rfl rfl rfl rfl rfl (o_val rfl (v_lenF rfl rfl ty25 rfl) ?_)
 refine b_T rfl rfl rfl rfl rfl (o_val rfl (v_bin rfl rfl b_geq) ?_)
 refine bv rfl (v_pickF rfl rfl rfl) (mv rfl rfl ?_)
 refine b_nil (hK _ ?_)
 exact to_L ⟨decide (((c0.2).length : Int) ≤ p0), (), h, rfl⟩
theorem w_reset_Check {p0 : TLettersNext} {r : Int} (h : m_reset_Check p0 = some r) : Pure Tryd.prog 16 [.agg [hI p0.1, slE (eSl eInt) p0.2]] (· = hI r) := by
 unfold m_reset_Check at h
 refine Pure.of_body Tryd.func16 rfl rfl (lb rfl) fun hf => ?_
 unfold Tryd.f16
 dsimp only [enumS, Nat.reduceAdd]
 refine AW.rgs rfl fun K hK => b_op rfl (o_box rfl rfl rfl ?_)
 refine mv rfl rfl ?_
 let E1 : Nat × HV := (1, .fptr [hI p0.1, slE (eSl eInt) p0.2] 0)
 refine bf hK ⟨[E1], []⟩ ?_
 refine AW.seq (AW.block ?_)
 refine AW.seqJ h (S := Bool) (V := Unit) (fun a v => ⟨[E1, (5, .bool a)], []⟩) (fun a1 w2 h => ?_) (fun k3 h => ?_)
 ·refine AW.cond rfl (fun hc => ?_) (fun hc => ?_)
  ·have h := ifT hc h
   refine AW.rgs rfl fun K hK => mv rfl rfl ?_
   refine bf hK ⟨[(2, hI 12)], []⟩ ?_
   obtain rfl := oi h
   exact AW.ret (ret_pure (.inr rfl) (resT rfl rfl) rfl trivial)
  have h := ifF (bF' hc) h
  refine AW.rgs rfl fun K hK => bv rfl (v_fieldAddrF fo29_1 rfl) (bv rfl (v_loadF ty25 rfl (l_lit rfl rfl)) (bv rfl (v_lenF rfl rfl ty25 rfl) (bv rfl (v_bin rfl rfl b_eql) (mv rfl rfl ?_))))
  refine bf hK ⟨[E1, (14, .bool (decide (((p0.2).length : Int) = 0)))], []⟩ ?_
  refine AW.cond rfl (fun hc => ?_) (fun hc => ?_)
  ·obtain ⟨hc, h⟩ := cT hc h
   refine AW.rgs rfl fun K hK => mv rfl rfl ?_
   refine bf hK ⟨[(2, hI 5)], []⟩ ?_
   obtain rfl := oi h
   exact AW.ret (ret_pure (.inr rfl) (resT rfl rfl) rfl trivial)
  obtain ⟨hc, h⟩ := cF hc h
  refine AW.rgs rfl fun K hK => bv rfl (v_fieldAddrF fo29_1 rfl) (bv rfl (v_loadF ty25 rfl (l_lit rfl rfl)) (bv rfl (v_lenF rfl rfl ty25 rfl) (bv rfl (v_bin rfl rfl b_gtr) (mv rfl rfl ?_))))
  refine bf hK ⟨[E1, (19, .bool (decide (16 < ((p0.2).length : Int))))], []⟩ ?_
  refine AW.cond rfl (fun hc => ?_) (fun hc => ?_)
  ·obtain ⟨hc, h⟩ := cT hc h
   refine AW.rgs rfl fun K hK => mv rfl rfl ?_
   refine bf hK ⟨[(2, hI 4)], []⟩ ?_
   obtain rfl := oi h
   exact AW.ret (ret_pure (.inr rfl) (resT rfl rfl) rfl trivial)
  obtain ⟨hc, h⟩ := cF hc h
  refine AW.skip ?_
  refine AW.seq ?_
  refine AW.rgs rfl fun K hK => bv rfl (v_fieldAddrF fo29_1 rfl) (bv rfl (v_loadF ty25 rfl (l_lit rfl rfl)) (bv rfl (v_lenF rfl rfl ty25 rfl) (mv rfl rfl ?_)))
  let E2 : Nat × HV := (25, slE (eSl eInt) p0.2)
  let E3 : Nat × HV := (26, hI ((p0.2).length : Int))
  refine bf hK ⟨[E1, E2, E3, (27, hI 0)], []⟩ ?_
  refine AW.lpR h (by first | exact up_then | exact up_to) (S := Int) (V := Unit) (fun a v => ⟨[E1, E2, E3, (27, hI a)], []⟩) ?_ (X := Unit) (W := Unit) (fun a v => ⟨[], []⟩) (fun a12 w13 h => ?_) (fun a4 w5 st6 h hr7=> ?_)
  ·exact to_L ⟨(), rfl⟩
  ·refine AW.rgs rfl fun K hK => mv rfl rfl ?_
   refine bf hK ⟨[(2, hI 0)], []⟩ ?_
   obtain rfl := oi h
   exact AW.ret (ret_pure (.inr rfl) (resT rfl rfl) rfl trivial)
  refine AW.rgs rfl fun K hK => bv rfl (v_bin rfl rfl b_lss) ?_
  refine bf hK ⟨[E1, E2, E3, (27, hI a4), (28, .bool (decide (a4 < ((p0.2).length : Int))))], []⟩ ?_
  refine AW.cseq rfl (fun hc => ?_) (fun hc => ?_)
  ·obtain ⟨hc, h⟩ := cT hc h
   refine AW.skip ?_
   refine AW.seq (AW.block ?_)
   refine AW.rgs rfl fun K hK => ?_
   obtain ⟨x8, h9, h⟩ := bS h
   refine bv rfl (v_idxF ty25 es25 rfl rfl (idx_lt h9)) (bv rfl (v_loadF ty39 rfl (l_cell (eSl eInt) h9 (o := 0) rfl rfl)) (mv rfl rfl ?_))
   refine bf hK ⟨[E1, (4, slE eInt x8), E2, E3, (27, hI a4)], []⟩ ?_
   refine AW.seq ?_
   refine AW.rgs rfl fun K hK => mv rfl rfl (bv rfl (v_lenF rfl rfl ty39 rfl) (bv rfl (v_fieldAddrF fo29_0 rfl) (bv rfl (v_loadF ty3 rfl (l_lit rfl rfl)) (bv rfl (v_bin rfl rfl b_neq) ?_))))
   refine bf hK ⟨[E1, (4, slE eInt x8), E2, E3, (27, hI a4), (35, .bool (decide (((x8).length : Int) ≠ p0.1)))], []⟩ ?_
   refine AW.cond rfl (fun hc => ?_) (fun hc => ?_)
   ·obtain ⟨hc, h⟩ := cT hc h
    refine AW.rgs rfl fun K hK => mv rfl rfl ?_
    refine bf hK ⟨[(2, hI 11)], []⟩ ?_
    have h := hr7 _ h
    obtain rfl := oi h
    exact AW.ret (ret_pure (.inr rfl) (resT rfl rfl) rfl trivial)
   obtain ⟨hc, h⟩ := cF hc h
   refine AW.skip ?_
   refine AW.rgs rfl fun K hK => mv rfl rfl (bv rfl (v_func rfl rfl) ?_)
   obtain ⟨x10, h11, h⟩ := bS h
   refine b_op rfl (o_call rfl rfl rfl rfl (ACallD.pure0 (w_slices_ContainsFunc_Lint_int h11 (fun _ _ h => w_reset_Check_1 h))) ?_)
   refine bf hK ⟨[E1, E2, E3, (27, hI a4), (38, .bool x10)], []⟩ ?_
   refine AW.cond rfl (fun hc => ?_) (fun hc => ?_)
   ·have h := ifT hc h
    refine AW.rgs rfl fun K hK => mv rfl rfl ?_
    refine bf hK ⟨[(2, hI 25)], []⟩ ?_
    have h := hr7 _ h
    obtain rfl := oi h
    exact AW.ret (ret_pure (.inr rfl) (resT rfl rfl) rfl trivial)
   have h := ifF (bF' hc) h
   refine AW.skip ?_
   refine AW.rg rfl fun K hK => bv rfl (v_bin rfl rfl b_add) (mv rfl rfl ?_)
   refine b_nil (hK _ ?_)
   exact to_L ⟨IntKind.wrap .i64 (a4 + 1), (), h, rfl⟩
  obtain ⟨hc, h⟩ := cF hc h
  refine AW.exit ?_
  exact to_L ⟨(), (), h, rfl⟩
 refine AW.rg rfl fun K hK => bv rfl (v_fieldAddrF fo29_0 rfl) (bv rfl (v_loadF ty3 rfl (l_lit rfl rfl)) (bv rfl (v_bin rfl rfl b_lss) (mv rfl rfl ?_)))
 by_cases hg14 : p0.1 < 1
 ·have h := ifT hg14 h
  refine b_F rfl rfl rfl rfl rfl (decide_eq_true hg14) ?_
  iterate 2 refine b_F rfl rfl rfl rfl rfl rfl ?_
  refine bv rfl (v_pickT rfl rfl rfl) (mv rfl rfl ?_)
  refine b_nil (hK _ ?_)
  exact to_L ⟨true, (), h, rfl⟩
 have h := ifF hg14 h
 refine b_T rfl rfl rfl rfl (decide_eq_false hg14) (o_val rfl (v_fieldAddrF fo29_0 rfl) ?_)
 refine b_T rfl rfl rfl rfl rfl (o_val rfl (v_loadF ty3 rfl (l_lit rfl rfl)) ?_)
 refine b_T rfl rfl rfl rfl rfl (o_val rfl (v_bin rfl rfl b_gtr) ?_)
 refine bv rfl (v_pickF rfl rfl rfl) (mv rfl rfl ?_)
 refine b_nil (hK _ ?_)
 exact to_L ⟨decide (8 < p0.1), (), h, rfl⟩
theorem w_math_bits_OnesCount {p0 : Int} {r : Int} (h : m_math_bits_OnesCount p0 = some r) : Pure Tryd.prog 36 [.int .u64 p0] (· = hI r) := by
 unfold m_math_bits_OnesCount at h
 refine Pure.of_body Tryd.func36 rfl rfl (lb rfl) fun hf => ?_
 unfold Tryd.f36
 dsimp only [enumS, Nat.reduceAdd]
 refine AW.rgs rfl fun K hK => mv rfl rfl ?_
 refine bf hK ⟨[(0, .int .u64 p0)], []⟩ ?_
 refine AW.cseq rfl (fun hc => by cases hc) (fun _ => ?_)
 refine AW.skip ?_
 refine AW.rgs rfl fun K hK => mv rfl rfl ?_
 obtain ⟨x1, h2, h⟩ := bS h
 refine b_op rfl (o_call rfl rfl rfl rfl (ACallD.pure0 (w_math_bits_OnesCount64 h2)) ?_)
 refine mv rfl rfl ?_
 refine bf hK ⟨[(2, hI x1)], []⟩ ?_
 obtain rfl := oi h
 exact AW.ret (ret_pure (.inr rfl) (resT rfl rfl) rfl trivial)
theorem w_reset_single {p0 : Int} {r : Bool} (h : m_reset_single p0 = some r) : Pure Tryd.prog 21 [hI p0] (· = HV.bool r) := by
 unfold m_reset_single at h
 refine Pure.of_body Tryd.func21 rfl rfl (lb rfl) fun hf => ?_
 unfold Tryd.f21
 dsimp only [enumS, Nat.reduceAdd]
 refine AW.rgs rfl fun K hK => mv rfl rfl ?_
 refine bf hK ⟨[(0, hI p0)], []⟩ ?_
 refine AW.rgs rfl fun K hK => mv rfl rfl (bv rfl (v_convI ty3 ty77 rfl) ?_)
 obtain ⟨x1, h2, h⟩ := bS h
 refine b_op rfl (o_call rfl rfl rfl rfl (ACallD.pure0 (w_math_bits_OnesCount h2)) ?_)
 refine bv rfl (v_bin rfl rfl b_eql) (mv rfl rfl ?_)
 refine bf hK ⟨[(2, .bool (decide (x1 = 1)))], []⟩ ?_
 obtain rfl := oi h
 exact AW.ret (ret_pure (.inr rfl) (resT rfl rfl) rfl trivial)
theorem w_math_bits_TrailingZeros {p0 : Int} {r : Int} (h : m_math_bits_TrailingZeros p0 = some r) : Pure Tryd.prog 55 [.int .u64 p0] (· = hI r) := by
 unfold m_math_bits_TrailingZeros at h
 refine Pure.of_body Tryd.func55 rfl rfl (lb rfl) fun hf => ?_
 unfold Tryd.f55
 dsimp only [enumS, Nat.reduceAdd]
 refine AW.rgs rfl fun K hK => mv rfl rfl ?_
 refine bf hK ⟨[(0, .int .u64 p0)], []⟩ ?_
 refine AW.cseq rfl (fun hc => by cases hc) (fun _ => ?_)
 refine AW.skip ?_
 refine AW.rgs rfl fun K hK => mv rfl rfl ?_
 obtain ⟨x1, h2, h⟩ := bS h
 refine b_op rfl (o_call rfl rfl rfl rfl (ACallD.pure0 (w_math_bits_TrailingZeros64 h2)) ?_)
 refine mv rfl rfl ?_
 refine bf hK ⟨[(2, hI x1)], []⟩ ?_
 obtain rfl := oi h
 exact AW.ret (ret_pure (.inr rfl) (resT rfl rfl) rfl trivial)
theorem w_reset_step {p0 : TLettersNext} {p1 : Int} {p2 : Int} {r : Int} (h : m_reset_step p0 p1 p2 = some r) : Pure Tryd.prog 37 [.agg [hI p0.1, slE (eSl eInt) p0.2], hI p1, hI p2] (· = hI r) := by
 unfold m_reset_step at h
 refine Pure.of_body Tryd.func37 rfl rfl (lb rfl) fun hf => ?_
 unfold Tryd.f37
 dsimp only [enumS, Nat.reduceAdd]
 refine AW.rgs rfl fun K hK => b_op rfl (o_box rfl rfl rfl ?_)
 refine mv rfl rfl ?_
 let E4 : Nat × HV := (3, .fptr [hI p0.1, slE (eSl eInt) p0.2] 0)
 refine bf hK ⟨[(1, hI p1), (2, hI p2), E4], []⟩ ?_
 refine AW.rgs rfl fun K hK => mv rfl rfl ?_
 refine bf hK ⟨[(1, hI p1), (2, hI p2), E4, (7, hI 0)], []⟩ ?_
 refine AW.seq ?_
 refine AW.rgs rfl fun K hK => mv rfl rfl (bv rfl (v_convI ty3 ty77 rfl) (mv rfl rfl ?_))
 refine bf hK ⟨[(2, hI p2), E4, (7, hI 0), (8, .int .u64 (IntKind.wrap .u64 p1))], []⟩ ?_
 refine AW.lpX h (by first | exact up_then | exact up_to) (S := Int × Int) (V := Unit) (fun a v => ⟨[(2, hI p2), E4, (7, hI a.1), (8, .int .u64 a.2)], []⟩) ?_ (X := Int) (W := Unit) (fun a v => ⟨[(7, hI a)], []⟩) (fun a12 w13 h => ?_) (fun a1 w2 st3 h => ?_)
 ·exact to_L ⟨(), rfl⟩
 ·refine AW.rgs rfl fun K hK => mv rfl rfl (mv rfl rfl ?_)
  refine bf hK ⟨[(6, hI a12)], []⟩ ?_
  obtain rfl := oi h
  exact AW.ret (ret_pure (.inr rfl) (resT rfl rfl) rfl trivial)
 refine AW.seq ?_
 refine AW.rgs rfl fun K hK => mv rfl rfl (bv rfl (v_bin rfl rfl b_gtr) ?_)
 refine bf hK ⟨[(2, hI p2), E4, (7, hI a1.1), (8, .int .u64 a1.2), (12, .bool (decide (0 < a1.2)))], []⟩ ?_
 refine AW.cond rfl (fun hc => ?_) (fun hc => ?_)
 ·obtain ⟨hc, h⟩ := cT hc h
  refine AW.skip ?_
  refine AW.seq (AW.block ?_)
  refine AW.dg 13 follows rfl rfl fun K hK => ?_
  refine sm rfl rfl ?_
  refine sv rfl (v_fieldAddrF fo29_1 rfl) ?_
  refine sv rfl (v_loadF ty25 rfl (l_lit rfl rfl)) ?_
  refine sm rfl rfl ?_
  obtain ⟨x5, h6, h⟩ := bS h
  refine s_op rfl rfl (ops_call rfl rfl rfl rfl (ACallD.pure0 (w_math_bits_TrailingZeros h6)) ?_)
  obtain ⟨x7, h8, h⟩ := bS h
  refine sv rfl (v_idxF ty25 es25 rfl rfl (idx_lt h8)) ?_
  refine sv rfl (v_loadF ty39 rfl (l_cell (eSl eInt) h8 (o := 0) rfl rfl)) ?_
  refine sm rfl rfl ?_
  obtain ⟨x9, h10, h⟩ := bS h
  refine sv rfl (v_idxF ty39 es39 rfl rfl (idx_lt h10)) ?_
  refine sv rfl (v_loadF ty3 rfl (l_cell eInt h10 (o := 0) rfl rfl)) ?_
  obtain ⟨h11, h⟩ := ifN h
  refine sv rfl (v_bin rfl rfl (b_shl h11)) ?_
  refine sv rfl (v_bin rfl rfl b_or) ?_
  refine sm rfl rfl ?_
  refine s_nil ?_
  refine bf hK ⟨[(2, hI p2), E4, (7, hI (IntKind.wrap .i64 (BitVec.ofInt (IntKind.bits .i64) a1.1 ||| BitVec.ofInt (IntKind.bits .i64) (IntKind.wrap .i64 (1 * 2 ^ (min (x9).toNat (IntKind.bits .i64))))).toNat)), (8, .int .u64 a1.2)], []⟩ ?_
  refine AW.rg rfl fun K hK => mv rfl rfl (mv rfl rfl (bv rfl (v_bin rfl rfl b_sub) (bv rfl (v_bin rfl rfl b_and) (mv rfl rfl ?_))))
  refine b_nil (hK _ ?_)
  exact to_L ⟨(IntKind.wrap .i64 (BitVec.ofInt (IntKind.bits .i64) a1.1 ||| BitVec.ofInt (IntKind.bits .i64) (IntKind.wrap .i64 (1 * 2 ^ (min (x9).toNat (IntKind.bits .i64))))).toNat, IntKind.wrap .u64 (BitVec.ofInt (IntKind.bits .u64) a1.2 &&& BitVec.ofInt (IntKind.bits .u64) (IntKind.wrap .u64 (a1.2 - 1))).toNat), (), h, rfl⟩
 obtain ⟨hc, h⟩ := cF hc h
 refine AW.exit ?_
 exact to_L ⟨a1.1, (), h, rfl⟩
theorem w_reset_search {p0 : TLettersNext} {p1 : Int} {r : (List UInt8) × Bool} (h : m_reset_search p0 p1 = some r) : Pure Tryd.prog 17 [.agg [hI p0.1, slE (eSl eInt) p0.2], hI p1] (· = HV.tup [.str r.1, .bool r.2]) := by
 unfold m_reset_search at h
 refine Pure.of_body Tryd.func17 rfl rfl (lb rfl) fun hf => ?_
 unfold Tryd.f17
 dsimp only [enumS, Nat.reduceAdd]
 refine AW.rgs rfl fun K hK => b_op rfl (o_box rfl rfl rfl ?_)
 refine mv rfl rfl (mv rfl rfl ?_)
 let E5 : Nat × HV := (2, .fptr [hI p0.1, slE (eSl eInt) p0.2] 0)
 refine bf hK ⟨[(1, hI p1), E5], []⟩ ?_
 refine AW.rgs rfl fun K hK => mv rfl rfl ?_
 refine b_op rfl (o_build (cs := [hI p1, .str nS]) rfl (bl_of ty71 rfl rfl rfl rfl) ?_)
 refine b_op rfl (o_bslM (fid := 17) 17011 rfl rfl rfl (as_of (cs := [hI p1, .str nS]) ty72 ty71 rfl rfl rfl rfl rfl) (fun v1 => ?_))
 refine b_op rfl (o_makeMap (fid := 17) (fun _ : Unit => HV.v (.slice none 0 0)) 17012 rfl rfl (fun v2 => ?_))
 refine b_to (to_kmapE (K := Int) (id := 17012) (ver := v2) kfInt Value.bool rfl fun v3 => ?_)
 refine mv rfl rfl ?_
 obtain ⟨x4, h5, h⟩ := bS h
 refine b_kset kTInt Value.bool HV.bool bool_rep (k := p1) (v := true) (e := ([] : List (Int × Bool))) (es := v3) (.inr rfl) ty73 rfl rfl rfl rfl h5 (by repeat first | exact noIt_nil | refine noIt_arr ?_ | refine noIt_km ?_ | refine noIt_cons (fun _ _ _ e => by cases e) ?_) fun v6 => ?_
 refine mv rfl rfl ?_
 refine b_op rfl (o_alloc (fid := 17) (zs := [.v (.slice none 0 0)]) 17006 rfl rfl ty72 rfl (fun v7 => ?_))
 refine b_op rfl (o_store (cs := [.ar 17011 v1 eSetWord.k 0 (([(p1, nS)]).length)]) (zs := [.ar 17011 v1 eSetWord.k 0 (([(p1, nS)]).length)]) rfl rfl rfl ty72 rfl rfl rfl rfl rfl ?_)
 refine mv rfl rfl ?_
 let P1 : ASf := fun t H => ⟨E5 :: (6, .ptr 17006 v7 0) :: (7, .mp 17012 v2) :: t, H⟩
 refine bf hK (P1 [] [(17011, v1, .arr eSetWord.k 71 (eSetWord.E [(p1, nS)])), (17012, v2, .kmap (kE kfInt Value.bool x4 v6)), (17006, v7, .arr 1 72 [.ar 17011 v1 eSetWord.k 0 (([(p1, nS)]).length)])]) ?_
 refine AW.seq (AW.lpR h up_then (S := (List TSetWord) × (List (Int × Bool))) (V := Nat × List TSetWord × List (Value × Value)) (fun a v => (P1 [] [(17006, v7, .arr 1 72 [.ar 17011 v.1 eSetWord.k ((v.2.1).length * eSetWord.k) ((a.1).length)]), (17011, v.1, .arr eSetWord.k 71 (eSetWord.E (v.2.1 ++ a.1))), (17012, v2, .kmap (kE kfInt Value.bool a.2 v.2.2))])) ?_ (X := Unit) (W := Unit) (fun a v => ⟨[], []⟩) (fun a49 w50 h => ?_) (fun a8 w9 st10 h hr11=> ?_))
 ·exact to_L ⟨(v1, ([] : List TSetWord), v6), rfl⟩
 ·refine AW.rgs rfl fun K hK => mv rfl rfl (mv rfl rfl ?_)
  refine bf hK ⟨[(4, .str nS), (5, .bool false)], []⟩ ?_
  obtain rfl := oi h
  exact AW.ret (ret_pure (.inr rfl) (resT rfl (resT rfl rfl)) rfl ⟨trivial, trivial, trivial⟩)
 refine AW.seq ?_
 refine AW.rgs rfl fun K hK => bv rfl (v_loadP ty72 rfl rfl (l_lit rfl rfl)) (bv rfl (v_lenA rfl rfl ty72 rfl rfl) (bv rfl (v_bin rfl rfl b_gtr) ?_))
 let O6 : Nat × Nat × AObj := (17006, v7, .arr 1 72 [.ar 17011 w9.1 eSetWord.k ((w9.2.1).length * eSetWord.k) ((a8.1).length)])
 let O7 : Nat × Nat × AObj := (17011, w9.1, .arr eSetWord.k 71 (eSetWord.E (w9.2.1 ++ a8.1)))
 let O8 : Nat × Nat × AObj := (17012, v2, .kmap (kE kfInt Value.bool a8.2 w9.2.2))
 refine bf hK (P1 [(17, .bool (decide (0 < (((a8.1).length : Nat) : Int))))] [O6, O7, O8]) ?_
 refine AW.cond rfl (fun hc => ?_) (fun hc => ?_)
 ·obtain ⟨hc, h⟩ := cT hc h
  refine AW.skip ?_
  refine AW.block ?_
  refine AW.rgs rfl fun K hK => bv rfl (v_loadP ty72 rfl rfl (l_lit rfl rfl)) ?_
  obtain ⟨x12, h13, h⟩ := bS h
  refine bv rfl (v_idxAQ ty72 es72 rfl rfl (idx_lt h13) rfl) ?_
  obtain ⟨x14, h15, h⟩ := bS h
  refine bv rfl (v_loadP ty71 rfl rfl (l_aggQ eSetWord (pre := w9.2.1) h15 rfl rfl)) ?_
  refine b_op rfl (o_alloc (fid := 17) (zs := [hI 0, .str nS]) 17008 rfl rfl ty71 rfl (fun v16 => ?_))
  refine b_op rfl (o_store (cs := [hI x14.1, .str x14.2]) (zs := [hI x14.1, .str x14.2]) rfl rfl rfl ty71 rfl rfl rfl rfl rfl ?_)
  let O9 : Nat × Nat × AObj := (17008, v16, .arr 2 71 [hI x14.1, .str x14.2])
  refine bf hK (P1 [(8, .ptr 17008 v16 0)] [O6, O7, O8, O9]) ?_
  refine AW.rgs rfl fun K hK => bv rfl (v_loadP ty72 rfl rfl (l_lit rfl rfl)) ?_
  obtain ⟨h19, h⟩ := ifN h
  refine b_sliceQ eSetWord (pre := w9.2.1) (l := a8.1) rfl rfl ty72 es72 rfl rfl rfl h19 fun v17 v18 => ?_
  refine b_op rfl (o_store (cs := [.ar 17011 v17 eSetWord.k ((v18).length * eSetWord.k) (((a8.1).drop 1).length)]) (zs := [.ar 17011 v17 eSetWord.k ((v18).length * eSetWord.k) (((a8.1).drop 1).length)]) rfl rfl rfl ty72 rfl rfl rfl rfl rfl ?_)
  let O10 : Nat × Nat × AObj := (17006, v7, .arr 1 72 [.ar 17011 v17 eSetWord.k ((v18).length * eSetWord.k) (((a8.1).drop 1).length)])
  let O11 : Nat × Nat × AObj := (17011, v17, .arr eSetWord.k 71 (eSetWord.E (v18 ++ ((a8.1).drop 1))))
  refine bf hK (P1 [(8, .ptr 17008 v16 0)] [O10, O11, O8, O9]) ?_
  refine AW.seq ?_
  refine AW.rgs rfl fun K hK => bv rfl (v_fieldAddrP fo71_0 rfl rfl) (bv rfl (v_loadP ty3 rfl rfl (l_lit rfl rfl)) ?_)
  obtain ⟨x20, h21, h⟩ := bS h
  refine b_op rfl (o_call rfl rfl rfl rfl (ACallD.pure0 (w_reset_single h21)) ?_)
  refine bf hK (P1 [(8, .ptr 17008 v16 0), (25, .bool x20)] [O10, O11, O8, O9]) ?_
  refine AW.cond rfl (fun hc => ?_) (fun hc => ?_)
  ·have h := ifT hc h
   refine AW.rgs rfl fun K hK => bv rfl (v_fieldAddrP fo71_1 rfl rfl) (bv rfl (v_loadP ty9 rfl rfl (l_lit rfl rfl)) (mv rfl rfl (mv rfl rfl ?_)))
   refine bf hK ⟨[(4, .str x14.2), (5, .bool true)], []⟩ ?_
   have h := hr11 _ h
   obtain rfl := oi h
   exact AW.ret (ret_pure (.inr rfl) (resT rfl (resT rfl rfl)) rfl ⟨trivial, trivial, trivial⟩)
  have h := ifF (bF' hc) h
  refine AW.skip ?_
  refine AW.rg rfl fun K hK => bv rfl (v_loadF ty29 rfl (l_litA rfl (lb rfl) rfl)) (bv rfl (v_fieldAddrP fo71_0 rfl rfl) (bv rfl (v_loadP ty3 rfl rfl (l_lit rfl rfl)) (mv rfl rfl (bv rfl (v_func rfl rfl) ?_))))
  refine b_op rfl (o_callJ h (S := (List TSetWord) × (List (Int × Bool))) (V := Nat × List TSetWord × List (Value × Value)) (fun a v => (P1 [(33, .tup [])] [(17006, v7, .arr 1 72 [.ar 17011 v.1 eSetWord.k ((v.2.1).length * eSetWord.k) ((a.1).length)]), (17011, v.1, .arr eSetWord.k 71 (eSetWord.E (v.2.1 ++ a.1))), (17012, v2, .kmap (kE kfInt Value.bool a.2 v.2.2))])) rfl rfl rfl rfl (fun a22 w23 h => ?_) (fun k24 h => ?_) )
  ·refine b_nil (hK _ ?_)
   exact to_L ⟨(a22.1, a22.2), (w23.1, w23.2.1, w23.2.2), h, rfl⟩
  refine ACall.of_body Tryd.func34 rfl rfl (lb rfl) ?_
  unfold Tryd.f34
  dsimp only [enumS, Nat.reduceAdd]
  refine AW.fin ?_
  refine AW.rgs rfl fun K hK => b_op rfl (o_box rfl rfl rfl ?_)
  let E12 : Nat × HV := (3, .fn (.func 35) [] [.ptr 17006 v7 0, .ptr 17008 v16 0])
  let E13 : Nat × HV := (4, .fptr [hI p0.1, slE (eSl eInt) p0.2] 0)
  let P2 : ASf := fun t H => ⟨(1, hI x14.1) :: (2, .mp 17012 v2) :: E12 :: E13 :: t, H⟩
  refine bf hK (P2 [] [O10, O11, O8, O9]) ?_
  refine AW.rgs rfl fun K hK => bv rfl (v_fieldAddrF fo29_0 rfl) (bv rfl (v_loadF ty3 rfl (l_lit rfl rfl)) (mv rfl rfl ?_))
  refine bf hK (P2 [(11, hI p0.1), (12, hI 0)] [O10, O11, O8, O9]) ?_
  refine AW.lpX h (by first | exact up_then | exact up_to) (S := Int × (List TSetWord) × (List (Int × Bool))) (V := Nat × List TSetWord × List (Value × Value)) (fun a v => (P2 [(11, hI p0.1), (12, hI a.1)] [(17006, v7, .arr 1 72 [.ar 17011 v.1 eSetWord.k ((v.2.1).length * eSetWord.k) ((a.2.1).length)]), O9, (17011, v.1, .arr eSetWord.k 71 (eSetWord.E (v.2.1 ++ a.2.1))), (17012, v2, .kmap (kE kfInt Value.bool a.2.2 v.2.2))])) ?_ (X := (List TSetWord) × (List (Int × Bool))) (W := Nat × List TSetWord × List (Value × Value)) (fun a v => ⟨[], [(17006, v7, .arr 1 72 [.ar 17011 v.1 eSetWord.k ((v.2.1).length * eSetWord.k) ((a.1).length)]), (17008, v16, .arr 2 71 [hI x14.1, .str x14.2]), (17011, v.1, .arr eSetWord.k 71 (eSetWord.E (v.2.1 ++ a.1))), (17012, v2, .kmap (kE kfInt Value.bool a.2 v.2.2))]⟩) (fun a47 w48 h => ?_) (fun a25 w26 st27 h => ?_)
  ·exact to_L ⟨(v17, v18, w9.2.2), rfl⟩
  ·refine to_refl ?_
   refine ret_to (hs := []) (q := HV.tup []) (.inl rfl) rfl rfl ?_
   exact to_L ⟨(a47.1, a47.2), (w48.1, w48.2.1, w48.2.2), h, rfl⟩
  refine AW.rgs rfl fun K hK => bv rfl (v_bin rfl rfl b_lss) ?_
  let O14 : Nat × Nat × AObj := (17006, v7, .arr 1 72 [.ar 17011 w26.1 eSetWord.k ((w26.2.1).length * eSetWord.k) ((a25.2.1).length)])
  let O15 : Nat × Nat × AObj := (17011, w26.1, .arr eSetWord.k 71 (eSetWord.E (w26.2.1 ++ a25.2.1)))
  let O16 : Nat × Nat × AObj := (17012, v2, .kmap (kE kfInt Value.bool a25.2.2 w26.2.2))
  refine bf hK (P2 [(11, hI p0.1), (12, hI a25.1), (13, .bool (decide (a25.1 < p0.1)))] [O14, O9, O15, O16]) ?_
  refine AW.cseq rfl (fun hc => ?_) (fun hc => ?_)
  ·obtain ⟨hc, h⟩ := cT hc h
   refine AW.skip ?_
   refine AW.seqJ h (S := (List TSetWord) × (List (Int × Bool))) (V := Nat × List TSetWord × List (Value × Value)) (fun a v => (P2 [(11, hI p0.1), (12, hI a25.1)] [(17006, v7, .arr 1 72 [.ar 17011 v.1 eSetWord.k ((v.2.1).length * eSetWord.k) ((a.1).length)]), O9, (17011, v.1, .arr eSetWord.k 71 (eSetWord.E (v.2.1 ++ a.1))), (17012, v2, .kmap (kE kfInt Value.bool a.2 v.2.2))])) (fun a29 w30 h => ?_) (fun k31 h => ?_)
   ·refine AW.rg rfl fun K hK => bv rfl (v_bin rfl rfl b_add) (mv rfl rfl ?_)
    refine b_nil (hK _ ?_)
    exact to_L ⟨(IntKind.wrap .i64 (a25.1 + 1), a29.1, a29.2), (w30.1, w30.2.1, w30.2.2), h, rfl⟩
   refine AW.block ?_
   refine AW.rgs rfl fun K hK => mv rfl rfl (mv rfl rfl ?_)
   refine bf hK (P2 [(8, hI a25.1), (11, hI p0.1), (12, hI a25.1)] [O14, O9, O15, O16]) ?_
   refine AW.rgs rfl fun K hK => bv rfl (v_loadF ty29 rfl (l_litA rfl (lb rfl) rfl)) (mv rfl rfl (mv rfl rfl ?_))
   obtain ⟨x32, h33, h⟩ := bS h
   refine b_op rfl (o_call rfl rfl rfl rfl (ACallD.pure0 (w_reset_step h33)) ?_)
   refine mv rfl rfl ?_
   refine bf hK (P2 [(8, hI a25.1), (9, hI x32), (11, hI p0.1), (12, hI a25.1)] [O14, O9, O15, O16]) ?_
   refine AW.rgs rfl fun K hK => mv rfl rfl (mv rfl rfl ?_)
   obtain ⟨x34, h35, h⟩ := bS h
   refine b_klook kTInt Value.bool HV.bool bool_const (k := x32) (v := x34) (z := false) (e := a25.2.2) (es := w26.2.2) rfl rfl ty73 ty4 rfl rfl rfl rfl h35 ?_
   refine bv rfl (v_not rfl) ?_
   refine bf hK (P2 [(8, hI a25.1), (9, hI x32), (11, hI p0.1), (12, hI a25.1), (22, .bool (!x34))] [O14, O9, O15, O16]) ?_
   refine AW.cond rfl (fun hc => ?_) (fun hc => ?_)
   ·have h := ifT hc h
    refine AW.rgs rfl fun K hK => mv rfl rfl (mv rfl rfl ?_)
    obtain ⟨x36, h37, h⟩ := bS h
    refine b_kset kTInt Value.bool HV.bool bool_rep (k := x32) (v := true) (e := a25.2.2) (es := w26.2.2) (.inl rfl) ty73 rfl rfl rfl rfl h37 (by repeat first | exact noIt_nil | refine noIt_arr ?_ | refine noIt_km ?_ | refine noIt_cons (fun _ _ _ e => by cases e) ?_) fun v38 => ?_
    refine bf hK (P2 [(8, hI a25.1), (9, hI x32), (11, hI p0.1), (12, hI a25.1)] [O14, O9, O15, (17012, v2, .kmap (kE kfInt Value.bool x36 v38))]) ?_
    refine AW.rg rfl fun K hK => mv rfl rfl (mv rfl rfl (mv rfl rfl ?_))
    refine b_op rfl (o_callJ h (S := Unit) (V := Nat × List TSetWord) (fun a v => (P2 [(11, hI p0.1), (12, hI a25.1), (28, .tup [])] [(17006, v7, .arr 1 72 [.ar 17011 v.1 eSetWord.k ((v.2).length * eSetWord.k) ((a25.2.1 ++ [(x32, x14.2 ++ ((([48, 49, 50, 51, 52, 53, 54, 55, 56, 57, 97, 98, 99, 100, 101, 102] : List UInt8).take (IntKind.wrap .i64 (a25.1 + 1)).toNat).drop (a25.1).toNat))]).length)]), O9, (17011, v.1, .arr eSetWord.k 71 (eSetWord.E (v.2 ++ (a25.2.1 ++ [(x32, x14.2 ++ ((([48, 49, 50, 51, 52, 53, 54, 55, 56, 57, 97, 98, 99, 100, 101, 102] : List UInt8).take (IntKind.wrap .i64 (a25.1 + 1)).toNat).drop (a25.1).toNat))])))), (17012, v2, .kmap (kE kfInt Value.bool x36 v38))])) rfl rfl rfl rfl (fun a39 w40 h => ?_) (fun k41 h => ?_) )
    ·refine b_nil (hK _ ?_)
     exact to_L ⟨(a25.2.1 ++ [(x32, x14.2 ++ ((([48, 49, 50, 51, 52, 53, 54, 55, 56, 57, 97, 98, 99, 100, 101, 102] : List UInt8).take (IntKind.wrap .i64 (a25.1 + 1)).toNat).drop (a25.1).toNat))], x36), (w40.1, w40.2, v38), h, rfl⟩
    refine ACall.of_body Tryd.func35 rfl rfl (lb rfl) ?_
    unfold Tryd.f35
    dsimp only [enumS, Nat.reduceAdd]
    refine AW.fin ?_
    refine AW.dg 11 follows rfl rfl fun K hK => ?_
    refine sv rfl (v_loadP ty72 rfl rfl (l_lit rfl rfl)) ?_
    refine sm rfl rfl ?_
    refine sv rfl (v_fieldAddrP fo71_1 rfl rfl) ?_
    refine sv rfl (v_loadP ty9 rfl rfl (l_lit rfl rfl)) ?_
    iterate 2 refine sm rfl rfl ?_
    refine sv rfl (v_bin rfl rfl b_add) ?_
    obtain ⟨h42, h⟩ := ifN h
    refine sv rfl (v_sliceS ty9 rfl rfl rfl h42) ?_
    obtain ⟨h43, h⟩ := ifN h
    refine sv rfl (v_bin rfl rfl (b_sadd h43)) ?_
    refine s_op rfl rfl (ops_build (cs := [hI x32, .str (x14.2 ++ ((([48, 49, 50, 51, 52, 53, 54, 55, 56, 57, 97, 98, 99, 100, 101, 102] : List UInt8).take (IntKind.wrap .i64 (a25.1 + 1)).toNat).drop (a25.1).toNat))]) rfl (bl_of ty71 rfl rfl rfl rfl) ?_)
    refine s_op rfl rfl (ops_bsl rfl rfl (as_of (cs := [hI x32, .str (x14.2 ++ ((([48, 49, 50, 51, 52, 53, 54, 55, 56, 57, 97, 98, 99, 100, 101, 102] : List UInt8).take (IntKind.wrap .i64 (a25.1 + 1)).toNat).drop (a25.1).toNat))]) ty72 ty71 rfl rfl rfl rfl rfl) ?_)
    refine s_nil ?_
    obtain ⟨h45, h⟩ := ifN h
    refine b_appQ eSetWord (pre := w26.2.1) (l := a25.2.1) (m := [(x32, x14.2 ++ ((([48, 49, 50, 51, 52, 53, 54, 55, 56, 57, 97, 98, 99, 100, 101, 102] : List UInt8).take (IntKind.wrap .i64 (a25.1 + 1)).toNat).drop (a25.1).toNat))]) rfl rfl rfl ty72 ty72 ty71 rfl rfl rfl rfl rfl h45 fun v44 v46 => ?_
    refine b_op rfl (o_store (cs := [.ar 17011 v44 eSetWord.k ((v46).length * eSetWord.k) ((a25.2.1 ++ [(x32, x14.2 ++ ((([48, 49, 50, 51, 52, 53, 54, 55, 56, 57, 97, 98, 99, 100, 101, 102] : List UInt8).take (IntKind.wrap .i64 (a25.1 + 1)).toNat).drop (a25.1).toNat))]).length)]) (zs := [.ar 17011 v44 eSetWord.k ((v46).length * eSetWord.k) ((a25.2.1 ++ [(x32, x14.2 ++ ((([48, 49, 50, 51, 52, 53, 54, 55, 56, 57, 97, 98, 99, 100, 101, 102] : List UInt8).take (IntKind.wrap .i64 (a25.1 + 1)).toNat).drop (a25.1).toNat))]).length)]) rfl rfl rfl ty72 rfl rfl rfl rfl rfl ?_)
    refine b_nil (hK _ ?_)
    refine to_refl ?_
    refine ret_to (hs := []) (q := HV.tup []) (.inl rfl) rfl rfl ?_
    exact to_L ⟨(), (v44, v46), h, rfl⟩
   have h := ifF (bF' hc) h
   refine AW.skip ?_
   exact to_L ⟨(a25.2.1, a25.2.2), (w26.1, w26.2.1, w26.2.2), h, rfl⟩
  obtain ⟨hc, h⟩ := cF hc h
  refine AW.exit ?_
  exact to_L ⟨(a25.2.1, a25.2.2), (w26.1, w26.2.1, w26.2.2), h, rfl⟩
 obtain ⟨hc, h⟩ := cF hc h
 refine AW.exit ?_
 exact to_L ⟨(), (), h, rfl⟩
theorem w_reset_all {p0 : TLettersNext} {r : Int} (h : m_reset_all p0 = some r) : Pure Tryd.prog 18 [.agg [hI p0.1, slE (eSl eInt) p0.2]] (· = hI r) := by
 unfold m_reset_all at h
 refine Pure.of_body Tryd.func18 rfl rfl (lb rfl) fun hf => ?_
 unfold Tryd.f18
 dsimp only [enumS, Nat.reduceAdd]
 refine AW.rgs rfl fun K hK => b_op rfl (o_box rfl rfl rfl ?_)
 refine mv rfl rfl ?_
 refine bf hK ⟨[(1, .fptr [hI p0.1, slE (eSl eInt) p0.2] 0)], []⟩ ?_
 refine AW.rgs rfl fun K hK => bv rfl (v_fieldAddrF fo29_1 rfl) (bv rfl (v_loadF ty25 rfl (l_lit rfl rfl)) (bv rfl (v_lenF rfl rfl ty25 rfl) ?_))
 obtain ⟨h1, h⟩ := ifN h
 refine bv rfl (v_bin rfl rfl (b_shl h1)) (bv rfl (v_bin rfl rfl b_sub) (mv rfl rfl ?_))
 refine bf hK ⟨[(2, hI (IntKind.wrap .i64 ((IntKind.wrap .i64 (1 * 2 ^ (min (((p0.2).length : Int)).toNat (IntKind.bits .i64)))) - 1)))], []⟩ ?_
 obtain rfl := oi h
 exact AW.ret (ret_pure (.inr rfl) (resT rfl rfl) rfl trivial)
theorem w_reset_Shortest {p0 : TLettersNext} {r : (List UInt8) × Bool × Int} (h : m_reset_Shortest p0 = some r) : Pure Tryd.prog 7 [.agg [hI p0.1, slE (eSl eInt) p0.2]] (· = HV.tup [.str r.1, .bool r.2.1, hI r.2.2]) := by
 unfold m_reset_Shortest at h
 refine Pure.of_body Tryd.func7 rfl rfl (lb rfl) fun hf => ?_
 unfold Tryd.f7
 dsimp only [enumS, Nat.reduceAdd]
 refine AW.rgs rfl fun K hK => b_op rfl (o_box rfl rfl rfl ?_)
 refine mv rfl rfl (mv rfl rfl (mv rfl rfl ?_))
 refine bf hK ⟨[(1, .fptr [hI p0.1, slE (eSl eInt) p0.2] 0)], []⟩ ?_
 refine AW.seq ?_
 refine AW.rgs rfl fun K hK => bv rfl (v_loadF ty29 rfl (l_litA rfl (lb rfl) rfl)) ?_
 obtain ⟨x1, h2, h⟩ := bS h
 refine b_op rfl (o_call rfl rfl rfl rfl (ACallD.pure0 (w_reset_Check h2)) ?_)
 refine bv rfl (v_bin rfl rfl b_neq) ?_
 refine bf hK ⟨[(1, .fptr [hI p0.1, slE (eSl eInt) p0.2] 0), (9, .bool (decide (x1 ≠ 0)))], []⟩ ?_
 refine AW.cond rfl (fun hc => ?_) (fun hc => ?_)
 ·obtain ⟨hc, h⟩ := cT hc h
  refine AW.rgs rfl fun K hK => mv rfl rfl (mv rfl rfl (mv rfl rfl ?_))
  refine bf hK ⟨[(2, .str nS), (3, .bool false), (4, hI 1)], []⟩ ?_
  obtain rfl := oi h
  exact AW.ret (ret_pure (.inr rfl) (resT rfl (resT rfl (resT rfl rfl))) rfl ⟨trivial, trivial, trivial, trivial⟩)
 obtain ⟨hc, h⟩ := cF hc h
 refine AW.skip ?_
 refine AW.dgs 9 follows rfl rfl fun K hK => ?_
 refine sv rfl (v_loadF ty29 rfl (l_litA rfl (lb rfl) rfl)) ?_
 refine sv rfl (v_loadF ty29 rfl (l_litA rfl (lb rfl) rfl)) ?_
 obtain ⟨x3, h4, h⟩ := bS h
 refine s_op rfl rfl (ops_call rfl rfl rfl rfl (ACallD.pure0 (w_reset_all h4)) ?_)
 obtain ⟨x5, h6, h⟩ := bS h
 refine s_op rfl rfl (ops_call rfl rfl rfl rfl (ACallD.pure0 (w_reset_search h6)) ?_)
 refine sm rfl rfl ?_
 refine sv rfl (v_extract rfl rfl) ?_
 refine sv rfl (v_extract rfl rfl) ?_
 iterate 2 refine sm rfl rfl ?_
 refine s_nil ?_
 refine bf hK ⟨[(5, .str x5.1), (6, .bool x5.2)], []⟩ ?_
 refine AW.rgs rfl fun K hK => mv rfl rfl (mv rfl rfl (mv rfl rfl (mv rfl rfl (mv rfl rfl ?_))))
 refine bf hK ⟨[(2, .str x5.1), (3, .bool x5.2), (4, hI 0)], []⟩ ?_
 obtain rfl := oi h
 exact AW.ret (ret_pure (.inr rfl) (resT rfl (resT rfl (resT rfl rfl))) rfl ⟨trivial, trivial, trivial, trivial⟩)
theorem w_top_top45Awake  {r : Bool} (h : m_top_top45Awake  = some r) : Pure Tryd.prog 6 [] (· = HV.bool r) := by
 unfold m_top_top45Awake at h
 refine Pure.of_body Tryd.func6 rfl rfl (lb rfl) fun hf => ?_
 unfold Tryd.f6
 dsimp only [enumS, Nat.reduceAdd]
 refine AW.rgs rfl fun K hK => mv rfl rfl ?_
 refine bf hK ⟨[], []⟩ ?_
 refine AW.rgs rfl fun K hK => b_op rfl (o_bsl rfl rfl (as_of (cs := [.str [48], .str [49, 48], .str [49, 49]]) ty22 ty9 rfl rfl rfl rfl rfl) ?_)
 refine b_op rfl (o_build (cs := [hI 2, slE eStr [[48], [49, 48], [49, 49]]]) rfl (bl_of ty24 rfl rfl rfl rfl) ?_)
 obtain ⟨x1, h2, h⟩ := bS h
 refine b_op rfl (o_call rfl rfl rfl rfl (ACallD.pure0 (w_parser_Automaton h2)) ?_)
 refine mv rfl rfl (bv rfl (v_extract rfl rfl) (bv rfl (v_extract rfl rfl) ?_))
 refine b_op rfl (o_alloc (fid := 6) (zs := [hI 0, .v (.slice none 0 0)]) 6001 rfl rfl ty29 rfl (fun v3 => ?_))
 refine b_op rfl (o_store (cs := [hI x1.1.1, slE (eSl eInt) x1.1.2]) (zs := [hI x1.1.1, slE (eSl eInt) x1.1.2]) rfl rfl rfl ty29 rfl rfl rfl rfl rfl ?_)
 refine mv rfl rfl ?_
 refine bf hK ⟨[(1, .ptr 6001 v3 0), (2, hI x1.2)], [(6001, v3, .arr 2 29 [hI x1.1.1, slE (eSl eInt) x1.1.2])]⟩ ?_
 refine AW.rgs rfl fun K hK => bv rfl (v_loadP ty29 rfl rfl (l_litA rfl (lb rfl) rfl)) ?_
 obtain ⟨x4, h5, h⟩ := bS h
 refine b_op rfl (o_call rfl rfl rfl rfl (ACallD.pure0 (w_reset_Shortest h5)) ?_)
 refine mv rfl rfl (bv rfl (v_extract rfl rfl) (bv rfl (v_extract rfl rfl) (bv rfl (v_extract rfl rfl) (mv rfl rfl (mv rfl rfl ?_)))))
 refine mv rfl rfl ?_
 refine bf hK ⟨[(2, hI x1.2), (3, .str x4.1), (4, .bool x4.2.1), (5, hI x4.2.2)], []⟩ ?_
 refine AW.seqJ h (S := Bool) (V := Unit) (fun a v => ⟨[(0, .bool a)], []⟩) (fun a6 w7 h => ?_) (fun k8 h => ?_)
 ·obtain rfl := oi h
  exact AW.ret (ret_pure (.inr rfl) (resT rfl rfl) rfl trivial)
 refine AW.rg rfl fun K hK => mv rfl rfl (bv rfl (v_bin rfl rfl b_eql) (mv rfl rfl ?_))
 by_cases hg11 : x1.2 = 0
 ·have h := ifT hg11 h
  refine b_T rfl rfl rfl rfl (decide_eq_true hg11) (o_val rfl (mv_val rfl rfl).2 ?_)
  refine b_T rfl rfl rfl rfl rfl (o_val rfl (v_bin rfl rfl b_eql) ?_)
  refine bv rfl (v_pickT rfl rfl rfl) (mv rfl rfl ?_)
  by_cases hg10 : x4.2.2 = 0
  ·have h := ifT hg10 h
   refine b_T rfl rfl rfl rfl (decide_eq_true hg10) (o_val rfl (mv_val rfl rfl).2 ?_)
   refine bv rfl (v_pickT rfl rfl rfl) (mv rfl rfl ?_)
   by_cases hg9 : x4.2.1 = true
   ·have h := ifT hg9 h
    refine b_T rfl rfl rfl rfl hg9 (o_val rfl (mv_val rfl rfl).2 ?_)
    refine b_T rfl rfl rfl rfl rfl (o_val rfl (v_bin rfl rfl b_seql) ?_)
    refine bv rfl (v_pickT rfl rfl rfl) (mv rfl rfl ?_)
    refine b_nil (hK _ ?_)
    exact to_L ⟨decide (x4.1 = [48]), (), h, rfl⟩
   have h := ifF hg9 h
   refine b_F rfl rfl rfl rfl rfl (bF hg9) ?_
   refine b_F rfl rfl rfl rfl rfl rfl ?_
   refine bv rfl (v_pickF rfl rfl rfl) (mv rfl rfl ?_)
   refine b_nil (hK _ ?_)
   exact to_L ⟨false, (), h, rfl⟩
  have h := ifF hg10 h
  refine b_F rfl rfl rfl rfl rfl (decide_eq_false hg10) ?_
  refine bv rfl (v_pickF rfl rfl rfl) (mv rfl rfl ?_)
  iterate 2 refine b_F rfl rfl rfl rfl rfl rfl ?_
  refine bv rfl (v_pickF rfl rfl rfl) (mv rfl rfl ?_)
  refine b_nil (hK _ ?_)
  exact to_L ⟨false, (), h, rfl⟩
 have h := ifF hg11 h
 refine b_F rfl rfl rfl rfl rfl (decide_eq_false hg11) ?_
 refine b_F rfl rfl rfl rfl rfl rfl ?_
 refine bv rfl (v_pickF rfl rfl rfl) (mv rfl rfl ?_)
 refine b_F rfl rfl rfl rfl rfl rfl ?_
 refine bv rfl (v_pickF rfl rfl rfl) (mv rfl rfl ?_)
 iterate 2 refine b_F rfl rfl rfl rfl rfl rfl ?_
 refine bv rfl (v_pickF rfl rfl rfl) (mv rfl rfl ?_)
 refine b_nil (hK _ ?_)
 exact to_L ⟨false, (), h, rfl⟩
theorem w_resync_build {p0 : TLettersWords} {p1 : List (List UInt8)} {r : TLettersPrefixesNextEmit × Int} (h : m_resync_build p0 p1 = some r) : Pure Tryd.prog 19 [.agg [hI p0.1, slE eStr p0.2], slE eStr p1] (· = HV.tup [.agg [hI r.1.1, slE eStr r.1.2.1, slE (eSl eInt) r.1.2.2.1, slE (eSl eInt) r.1.2.2.2], hI r.2]) := by
 unfold m_resync_build at h
 refine Pure.of_body Tryd.func19 rfl rfl (lb rfl) fun hf => ?_
 unfold Tryd.f19
 dsimp only [enumS, Nat.reduceAdd]
 refine AW.rgs rfl fun K hK => b_op rfl (o_box rfl rfl rfl ?_)
 refine b_op rfl (o_alloc (fid := 19) (zs := [hI 0, .v (.slice none 0 0), .v (.slice none 0 0), .v (.slice none 0 0)]) 19004 rfl rfl ty27 rfl (fun v1 => ?_))
 refine mv rfl rfl ?_
 let E1 : Nat × HV := (2, .fptr [hI p0.1, slE eStr p0.2] 0)
 let O2 : Nat × Nat × AObj := (19004, v1, .arr 4 27 [hI 0, .v (.slice none 0 0), .v (.slice none 0 0), .v (.slice none 0 0)])
 let P1 : ASf := fun t H => ⟨(1, slE eStr p1) :: E1 :: (4, .ptr 19004 v1 0) :: t, O2 :: H⟩
 refine bf hK (P1 [] []) ?_
 refine AW.seq ?_
 refine AW.rgs rfl fun K hK => bv rfl (v_loadF ty24 rfl (l_litA rfl (lb rfl) rfl)) ?_
 obtain ⟨x2, h3, h⟩ := bS h
 refine b_op rfl (o_call rfl rfl rfl rfl (ACallD.pure0 (w_parser_Automaton h3)) ?_)
 refine mv rfl rfl (bv rfl (v_extract rfl rfl) (bv rfl (v_extract rfl rfl) ?_))
 refine b_op rfl (o_alloc (fid := 19) (zs := [hI 0, .v (.slice none 0 0)]) 19006 rfl rfl ty29 rfl (fun v4 => ?_))
 refine b_op rfl (o_store (cs := [hI x2.1.1, slE (eSl eInt) x2.1.2]) (zs := [hI x2.1.1, slE (eSl eInt) x2.1.2]) rfl rfl rfl ty29 rfl rfl rfl rfl rfl ?_)
 refine mv rfl rfl ?_
 refine bf hK (P1 [(7, hI x2.2)] []) ?_
 refine AW.rgs rfl fun K hK => mv rfl rfl (bv rfl (v_bin rfl rfl b_neq) ?_)
 refine bf hK (P1 [(7, hI x2.2), (19, .bool (decide (x2.2 ≠ 0)))] []) ?_
 refine AW.cond rfl (fun hc => ?_) (fun hc => ?_)
 ·obtain ⟨hc, h⟩ := cT hc h
  refine AW.rgs rfl fun K hK => b_op rfl (o_build (cs := [hI 0, .v (.slice none 0 0), .v (.slice none 0 0), .v (.slice none 0 0)]) rfl (bl_of ty27 rfl rfl rfl rfl) ?_)
  refine mv rfl rfl ?_
  refine b_op rfl (o_store (cs := [hI 0, .v (.slice none 0 0), .v (.slice none 0 0), .v (.slice none 0 0)]) (zs := [hI 0, .v (.slice none 0 0), .v (.slice none 0 0), .v (.slice none 0 0)]) rfl rfl rfl ty27 rfl rfl rfl rfl rfl ?_)
  refine mv rfl rfl ?_
  refine bf hK ⟨[(4, .ptr 19004 v1 0), (5, hI x2.2)], [O2]⟩ ?_
  refine AW.to (to_cells 19004 v1 (ds := [hI 0, slE eStr ([] : List (List UInt8)), slE (eSl eInt) ([] : List (List (Int))), slE (eSl eInt) ([] : List (List (Int)))]) rfl (.cons (.refl _) <| .cons (.nil _) <| .cons (.nil _) <| .cons (.nil _) <| .nil) ?_)
  obtain rfl := oi h
  exact AW.ret (ret_pure (.inr rfl) (resP ty27 rfl rfl (l_litA rfl (lb rfl) rfl) (resT rfl rfl)) rfl ⟨⟨trivial, (clean_slE fun _ _ => ⟨trivial, trivial⟩), (clean_slE fun _ _ => ⟨(clean_slE fun _ _ => ⟨trivial, trivial⟩), trivial⟩), (clean_slE fun _ _ => ⟨(clean_slE fun _ _ => ⟨trivial, trivial⟩), trivial⟩), trivial⟩, trivial, trivial⟩)
 obtain ⟨hc, h⟩ := cF hc h
 refine AW.skip ?_
 refine AW.rgs rfl fun K hK => bv rfl (v_loadF ty24 rfl (l_litA rfl (lb rfl) rfl)) ?_
 obtain ⟨x5, h6, h⟩ := bS h
 refine b_op rfl (o_call rfl rfl rfl rfl (ACallD.pure0 (w_parser_Build h6)) ?_)
 refine mv rfl rfl (bv rfl (v_extract rfl rfl) (bv rfl (v_extract rfl rfl) ?_))
 refine b_op rfl (o_alloc (fid := 19) (zs := [hI 0, .v (.slice none 0 0), .v (.slice none 0 0), .v (.slice none 0 0)]) 19008 rfl rfl ty27 rfl (fun v7 => ?_))
 refine b_op rfl (o_store (cs := [hI x5.1.1, slE eStr x5.1.2.1, slE (eSl eInt) x5.1.2.2.1, slE (eSl eInt) x5.1.2.2.2]) (zs := [hI x5.1.1, slE eStr x5.1.2.1, slE (eSl eInt) x5.1.2.2.1, slE (eSl eInt) x5.1.2.2.2]) rfl rfl rfl ty27 rfl rfl rfl rfl rfl ?_)
 refine mv rfl rfl ?_
 let O3 : Nat × Nat × AObj := (19008, v7, .arr 4 27 [hI x5.1.1, slE eStr x5.1.2.1, slE (eSl eInt) x5.1.2.2.1, slE (eSl eInt) x5.1.2.2.2])
 refine bf hK (P1 [(8, .ptr 19008 v7 0), (9, hI x5.2)] [O3]) ?_
 refine AW.seq (AW.block ?_)
 refine AW.rgs rfl fun K hK => mv rfl rfl (bv rfl (v_bin rfl rfl b_neq) (mv rfl rfl ?_))
 refine bf hK (P1 [(8, .ptr 19008 v7 0), (9, hI x5.2), (27, .bool (decide (x5.2 ≠ 0)))] [O3]) ?_
 refine AW.cond rfl (fun hc => ?_) (fun hc => ?_)
 ·obtain ⟨hc, h⟩ := cT hc h
  refine AW.rgs rfl fun K hK => b_op rfl (o_build (cs := [hI 0, .v (.slice none 0 0), .v (.slice none 0 0), .v (.slice none 0 0)]) rfl (bl_of ty27 rfl rfl rfl rfl) ?_)
  refine mv rfl rfl ?_
  refine b_op rfl (o_store (cs := [hI 0, .v (.slice none 0 0), .v (.slice none 0 0), .v (.slice none 0 0)]) (zs := [hI 0, .v (.slice none 0 0), .v (.slice none 0 0), .v (.slice none 0 0)]) rfl rfl rfl ty27 rfl rfl rfl rfl rfl ?_)
  refine mv rfl rfl ?_
  refine bf hK ⟨[(4, .ptr 19004 v1 0), (5, hI x5.2)], [O2]⟩ ?_
  refine AW.to (to_cells 19004 v1 (ds := [hI 0, slE eStr ([] : List (List UInt8)), slE (eSl eInt) ([] : List (List (Int))), slE (eSl eInt) ([] : List (List (Int)))]) rfl (.cons (.refl _) <| .cons (.nil _) <| .cons (.nil _) <| .cons (.nil _) <| .nil) ?_)
  obtain rfl := oi h
  exact AW.ret (ret_pure (.inr rfl) (resP ty27 rfl rfl (l_litA rfl (lb rfl) rfl) (resT rfl rfl)) rfl ⟨⟨trivial, (clean_slE fun _ _ => ⟨trivial, trivial⟩), (clean_slE fun _ _ => ⟨(clean_slE fun _ _ => ⟨trivial, trivial⟩), trivial⟩), (clean_slE fun _ _ => ⟨(clean_slE fun _ _ => ⟨trivial, trivial⟩), trivial⟩), trivial⟩, trivial, trivial⟩)
 obtain ⟨hc, h⟩ := cF hc h
 refine AW.rgs rfl fun K hK => bv rfl (v_fieldAddrP fo27_1 rfl rfl) (bv rfl (v_loadP ty22 rfl rfl (l_lit rfl rfl)) (bv rfl (v_lenF rfl rfl ty22 rfl) (bv rfl (v_bin rfl rfl b_gtr) (mv rfl rfl ?_))))
 refine bf hK (P1 [(8, .ptr 19008 v7 0), (32, .bool (decide (64 < ((x5.1.2.1).length : Int))))] [O3]) ?_
 refine AW.cond rfl (fun hc => ?_) (fun hc => ?_)
 ·obtain ⟨hc, h⟩ := cT hc h
  refine AW.rgs rfl fun K hK => b_op rfl (o_build (cs := [hI 0, .v (.slice none 0 0), .v (.slice none 0 0), .v (.slice none 0 0)]) rfl (bl_of ty27 rfl rfl rfl rfl) ?_)
  refine b_op rfl (o_store (cs := [hI 0, .v (.slice none 0 0), .v (.slice none 0 0), .v (.slice none 0 0)]) (zs := [hI 0, .v (.slice none 0 0), .v (.slice none 0 0), .v (.slice none 0 0)]) rfl rfl rfl ty27 rfl rfl rfl rfl rfl ?_)
  refine mv rfl rfl ?_
  refine bf hK ⟨[(4, .ptr 19004 v1 0), (5, hI 4)], [O2]⟩ ?_
  refine AW.to (to_cells 19004 v1 (ds := [hI 0, slE eStr ([] : List (List UInt8)), slE (eSl eInt) ([] : List (List (Int))), slE (eSl eInt) ([] : List (List (Int)))]) rfl (.cons (.refl _) <| .cons (.nil _) <| .cons (.nil _) <| .cons (.nil _) <| .nil) ?_)
  obtain rfl := oi h
  exact AW.ret (ret_pure (.inr rfl) (resP ty27 rfl rfl (l_litA rfl (lb rfl) rfl) (resT rfl rfl)) rfl ⟨⟨trivial, (clean_slE fun _ _ => ⟨trivial, trivial⟩), (clean_slE fun _ _ => ⟨(clean_slE fun _ _ => ⟨trivial, trivial⟩), trivial⟩), (clean_slE fun _ _ => ⟨(clean_slE fun _ _ => ⟨trivial, trivial⟩), trivial⟩), trivial⟩, trivial, trivial⟩)
 obtain ⟨hc, h⟩ := cF hc h
 refine AW.skip ?_
 refine AW.seq ?_
 refine AW.rgs rfl fun K hK => mv rfl rfl (bv rfl (v_lenF rfl rfl ty22 rfl) (mv rfl rfl ?_))
 let E4 : Nat × HV := (39, hI ((p1).length : Int))
 let P2 : ASf := fun t H => ⟨E1 :: (4, .ptr 19004 v1 0) :: (8, .ptr 19008 v7 0) :: t, O2 :: O3 :: H⟩
 refine bf hK (P2 [(38, slE eStr p1), E4, (40, hI 0)] []) ?_
 refine AW.lpR h (by first | exact up_then | exact up_to) (S := Int) (V := Unit) (fun a v => (P2 [(38, slE eStr p1), E4, (40, hI a)] [])) ?_ (X := Unit) (W := Unit) (fun a v => ⟨[(4, .ptr 19004 v1 0), (8, .ptr 19008 v7 0)], [O2, O3]⟩) (fun a16 w17 h => ?_) (fun a8 w9 st10 h hr11=> ?_)
 ·exact to_L ⟨(), rfl⟩
 ·refine AW.rgs rfl fun K hK => bv rfl (v_loadP ty27 rfl rfl (l_litA rfl (lb rfl) rfl)) ?_
  refine b_op rfl (o_store (cs := [hI x5.1.1, slE eStr x5.1.2.1, slE (eSl eInt) x5.1.2.2.1, slE (eSl eInt) x5.1.2.2.2]) (zs := [hI x5.1.1, slE eStr x5.1.2.1, slE (eSl eInt) x5.1.2.2.1, slE (eSl eInt) x5.1.2.2.2]) rfl rfl rfl ty27 rfl rfl rfl rfl rfl ?_)
  refine mv rfl rfl ?_
  refine bf hK ⟨[(4, .ptr 19004 v1 0), (5, hI 0)], [(19004, v1, .arr 4 27 [hI x5.1.1, slE eStr x5.1.2.1, slE (eSl eInt) x5.1.2.2.1, slE (eSl eInt) x5.1.2.2.2])]⟩ ?_
  obtain rfl := oi h
  exact AW.ret (ret_pure (.inr rfl) (resP ty27 rfl rfl (l_litA rfl (lb rfl) rfl) (resT rfl rfl)) rfl ⟨⟨trivial, (clean_slE fun _ _ => ⟨trivial, trivial⟩), (clean_slE fun _ _ => ⟨(clean_slE fun _ _ => ⟨trivial, trivial⟩), trivial⟩), (clean_slE fun _ _ => ⟨(clean_slE fun _ _ => ⟨trivial, trivial⟩), trivial⟩), trivial⟩, trivial, trivial⟩)
 refine AW.rgs rfl fun K hK => bv rfl (v_bin rfl rfl b_lss) ?_
 refine bf hK (P2 [(38, slE eStr p1), E4, (40, hI a8), (41, .bool (decide (a8 < ((p1).length : Int))))] []) ?_
 refine AW.cseq rfl (fun hc => ?_) (fun hc => ?_)
 ·obtain ⟨hc, h⟩ := cT hc h
  refine AW.skip ?_
  refine AW.seq (AW.block ?_)
  refine AW.rgs rfl fun K hK => ?_
  obtain ⟨x12, h13, h⟩ := bS h
  refine bv rfl (v_idxF ty22 es22 rfl rfl (idx_lt h13)) (bv rfl (v_loadF ty9 rfl (l_cell eStr h13 (o := 0) rfl rfl)) (mv rfl rfl ?_))
  refine bf hK (P2 [(11, .str x12), (38, slE eStr p1), E4, (40, hI a8)] []) ?_
  refine AW.rgs rfl fun K hK => bv rfl (v_fieldAddrF fo24_0 rfl) (bv rfl (v_loadF ty3 rfl (l_lit rfl rfl)) (mv rfl rfl ?_))
  obtain ⟨x14, h15, h⟩ := bS h
  refine b_op rfl (o_call rfl rfl rfl rfl (ACallD.pure0 (w_word_Check h15)) ?_)
  refine mv rfl rfl ?_
  refine bf hK (P2 [(12, hI x14), (38, slE eStr p1), E4, (40, hI a8)] []) ?_
  refine AW.rgs rfl fun K hK => mv rfl rfl (bv rfl (v_bin rfl rfl b_neq) ?_)
  refine bf hK (P2 [(12, hI x14), (38, slE eStr p1), E4, (40, hI a8), (49, .bool (decide (x14 ≠ 0)))] []) ?_
  refine AW.cond rfl (fun hc => ?_) (fun hc => ?_)
  ·obtain ⟨hc, h⟩ := cT hc h
   refine AW.rgs rfl fun K hK => b_op rfl (o_build (cs := [hI 0, .v (.slice none 0 0), .v (.slice none 0 0), .v (.slice none 0 0)]) rfl (bl_of ty27 rfl rfl rfl rfl) ?_)
   refine mv rfl rfl ?_
   refine b_op rfl (o_store (cs := [hI 0, .v (.slice none 0 0), .v (.slice none 0 0), .v (.slice none 0 0)]) (zs := [hI 0, .v (.slice none 0 0), .v (.slice none 0 0), .v (.slice none 0 0)]) rfl rfl rfl ty27 rfl rfl rfl rfl rfl ?_)
   refine mv rfl rfl ?_
   refine bf hK ⟨[(4, .ptr 19004 v1 0), (5, hI x14)], [O2]⟩ ?_
   have h := hr11 _ h
   refine AW.to (to_cells 19004 v1 (ds := [hI 0, slE eStr ([] : List (List UInt8)), slE (eSl eInt) ([] : List (List (Int))), slE (eSl eInt) ([] : List (List (Int)))]) rfl (.cons (.refl _) <| .cons (.nil _) <| .cons (.nil _) <| .cons (.nil _) <| .nil) ?_)
   obtain rfl := oi h
   exact AW.ret (ret_pure (.inr rfl) (resP ty27 rfl rfl (l_litA rfl (lb rfl) rfl) (resT rfl rfl)) rfl ⟨⟨trivial, (clean_slE fun _ _ => ⟨trivial, trivial⟩), (clean_slE fun _ _ => ⟨(clean_slE fun _ _ => ⟨trivial, trivial⟩), trivial⟩), (clean_slE fun _ _ => ⟨(clean_slE fun _ _ => ⟨trivial, trivial⟩), trivial⟩), trivial⟩, trivial, trivial⟩)
  obtain ⟨hc, h⟩ := cF hc h
  refine AW.skip ?_
  refine AW.rg rfl fun K hK => bv rfl (v_bin rfl rfl b_add) (mv rfl rfl ?_)
  refine b_nil (hK _ ?_)
  exact to_L ⟨IntKind.wrap .i64 (a8 + 1), (), h, rfl⟩
 obtain ⟨hc, h⟩ := cF hc h
 refine AW.exit ?_
 exact to_L ⟨(), (), h, rfl⟩
theorem w_resync_Synchronizing {p0 : TLettersWords} {r : (List UInt8) × Bool × Int} (h : m_resync_Synchronizing p0 = some r) : Pure Tryd.prog 8 [.agg [hI p0.1, slE eStr p0.2]] (· = HV.tup [.str r.1, .bool r.2.1, hI r.2.2]) := by
 unfold m_resync_Synchronizing at h
 refine Pure.of_body Tryd.func8 rfl rfl (lb rfl) fun hf => ?_
 unfold Tryd.f8
 dsimp only [enumS, Nat.reduceAdd]
 refine AW.rgs rfl fun K hK => b_op rfl (o_box rfl rfl rfl ?_)
 refine mv rfl rfl (mv rfl rfl (mv rfl rfl ?_))
 refine bf hK ⟨[(1, .fptr [hI p0.1, slE eStr p0.2] 0)], []⟩ ?_
 refine AW.rgs rfl fun K hK => bv rfl (v_loadF ty24 rfl (l_litA rfl (lb rfl) rfl)) ?_
 obtain ⟨x1, h2, h⟩ := bS h
 refine b_op rfl (o_call rfl rfl rfl rfl (ACallD.weakA (.cons (.refl _) (.cons (.nil _) .nil)) (ACallD.pure0 (w_resync_build h2))) ?_)
 refine mv rfl rfl (bv rfl (v_extract rfl rfl) (bv rfl (v_extract rfl rfl) ?_))
 refine b_op rfl (o_alloc (fid := 8) (zs := [hI 0, .v (.slice none 0 0), .v (.slice none 0 0), .v (.slice none 0 0)]) 8005 rfl rfl ty27 rfl (fun v3 => ?_))
 refine b_op rfl (o_store (cs := [hI x1.1.1, slE eStr x1.1.2.1, slE (eSl eInt) x1.1.2.2.1, slE (eSl eInt) x1.1.2.2.2]) (zs := [hI x1.1.1, slE eStr x1.1.2.1, slE (eSl eInt) x1.1.2.2.1, slE (eSl eInt) x1.1.2.2.2]) rfl rfl rfl ty27 rfl rfl rfl rfl rfl ?_)
 refine mv rfl rfl ?_
 let O1 : Nat × Nat × AObj := (8005, v3, .arr 4 27 [hI x1.1.1, slE eStr x1.1.2.1, slE (eSl eInt) x1.1.2.2.1, slE (eSl eInt) x1.1.2.2.2])
 let P1 : ASf := fun t H => ⟨(5, .ptr 8005 v3 0) :: t, O1 :: H⟩
 refine bf hK (P1 [(6, hI x1.2)] []) ?_
 refine AW.seq ?_
 refine AW.rgs rfl fun K hK => mv rfl rfl (bv rfl (v_bin rfl rfl b_neq) ?_)
 refine bf hK (P1 [(6, hI x1.2), (22, .bool (decide (x1.2 ≠ 0)))] []) ?_
 refine AW.cond rfl (fun hc => ?_) (fun hc => ?_)
 ·obtain ⟨hc, h⟩ := cT hc h
  refine AW.rgs rfl fun K hK => mv rfl rfl (mv rfl rfl (mv rfl rfl (mv rfl rfl ?_)))
  refine bf hK ⟨[(2, .str nS), (3, .bool false), (4, hI x1.2)], []⟩ ?_
  obtain rfl := oi h
  exact AW.ret (ret_pure (.inr rfl) (resT rfl (resT rfl (resT rfl rfl))) rfl ⟨trivial, trivial, trivial, trivial⟩)
 obtain ⟨hc, h⟩ := cF hc h
 refine AW.skip ?_
 refine AW.rgs rfl fun K hK => bv rfl (v_fieldAddrP fo27_1 rfl rfl) (bv rfl (v_loadP ty22 rfl rfl (l_lit rfl rfl)) (bv rfl (v_lenF rfl rfl ty22 rfl) (mv rfl rfl ?_)))
 let E2 : Nat × HV := (7, hI ((x1.1.2.1).length : Int))
 refine bf hK (P1 [E2] []) ?_
 refine AW.seq ?_
 refine AW.rgs rfl fun K hK => mv rfl rfl (bv rfl (v_bin rfl rfl b_gtr) ?_)
 refine bf hK (P1 [E2, (28, .bool (decide (16 < ((x1.1.2.1).length : Int))))] []) ?_
 refine AW.cond rfl (fun hc => ?_) (fun hc => ?_)
 ·obtain ⟨hc, h⟩ := cT hc h
  refine AW.rgs rfl fun K hK => mv rfl rfl (mv rfl rfl (mv rfl rfl ?_))
  refine bf hK ⟨[(2, .str nS), (3, .bool false), (4, hI 4)], []⟩ ?_
  obtain rfl := oi h
  exact AW.ret (ret_pure (.inr rfl) (resT rfl (resT rfl (resT rfl rfl))) rfl ⟨trivial, trivial, trivial, trivial⟩)
 obtain ⟨hc, h⟩ := cF hc h
 refine AW.skip ?_
 refine AW.rgs rfl fun K hK => mv rfl rfl ?_
 obtain ⟨h4, h⟩ := ifN h
 refine bv rfl (v_bin rfl rfl (b_shl h4)) (bv rfl (v_bin rfl rfl b_sub) ?_)
 refine b_op rfl (o_build (cs := [hI (IntKind.wrap .i64 ((IntKind.wrap .i64 (1 * 2 ^ (min (((x1.1.2.1).length : Int)).toNat (IntKind.bits .i64)))) - 1)), hI (-1), hI (-1)]) rfl (bl_of ty56 rfl rfl rfl rfl) ?_)
 refine b_op rfl (o_bslM (fid := 8) 8033 rfl rfl rfl (as_of (cs := [hI (IntKind.wrap .i64 ((IntKind.wrap .i64 (1 * 2 ^ (min (((x1.1.2.1).length : Int)).toNat (IntKind.bits .i64)))) - 1)), hI (-1), hI (-1)]) ty57 ty56 rfl rfl rfl rfl rfl) (fun v5 => ?_))
 refine mv rfl rfl ?_
 let E3 : Nat × HV := (8, .ar 8033 v5 eSetBeforeLetter.k 0 (([(IntKind.wrap .i64 ((IntKind.wrap .i64 (1 * 2 ^ (min (((x1.1.2.1).length : Int)).toNat (IntKind.bits .i64)))) - 1), (-1), (-1))]).length))
 let O4 : Nat × Nat × AObj := (8033, v5, .arr eSetBeforeLetter.k 56 (eSetBeforeLetter.E [(IntKind.wrap .i64 ((IntKind.wrap .i64 (1 * 2 ^ (min (((x1.1.2.1).length : Int)).toNat (IntKind.bits .i64)))) - 1), (-1), (-1))]))
 refine bf hK (P1 [E2, E3] [O4]) ?_
 refine AW.rgs rfl fun K hK => mv rfl rfl ?_
 obtain ⟨h6, h⟩ := ifN h
 refine bv rfl (v_bin rfl rfl (b_shl h6)) ?_
 obtain ⟨h8, h⟩ := ifN h
 refine b_op rfl (o_makeE (fid := 8) eBool (false : Bool) 8036 rfl rfl ty58 rfl rfl ty4 rfl rfl h8 (fun v7 => ?_))
 refine mv rfl rfl ?_
 refine bf hK (P1 [E2, E3, (9, .ar 8036 v7 eBool.k 0 ((List.replicate (IntKind.wrap .i64 (1 * 2 ^ (min (((x1.1.2.1).length : Int)).toNat (IntKind.bits .i64)))).toNat (false : Bool)).length))] [O4, (8036, v7, .arr eBool.k 4 (eBool.E (List.replicate (IntKind.wrap .i64 (1 * 2 ^ (min (((x1.1.2.1).length : Int)).toNat (IntKind.bits .i64)))).toNat (false : Bool))))]) ?_
 refine AW.rgs rfl fun K hK => mv rfl rfl (mv rfl rfl ?_)
 obtain ⟨h9, h⟩ := ifN h
 refine bv rfl (v_bin rfl rfl (b_shl h9)) (bv rfl (v_bin rfl rfl b_sub) ?_)
 obtain ⟨x10, h11, h⟩ := bS h
 refine bv rfl (v_idxA ty58 es58 rfl rfl (idx_lt h11) rfl) ?_
 refine b_op rfl (o_storeE eBool (l := (List.replicate (IntKind.wrap .i64 (1 * 2 ^ (min (((x1.1.2.1).length : Int)).toNat (IntKind.bits .i64)))).toNat (false : Bool))) (j := (IntKind.wrap .i64 ((IntKind.wrap .i64 (1 * 2 ^ (min (((x1.1.2.1).length : Int)).toNat (IntKind.bits .i64)))) - 1))) (v := true) rfl rfl rfl ty4 rfl rfl rfl (idx_lt h11) ?_)
 let E5 : Nat × HV := (9, .ar 8036 v7 eBool.k 0 (((List.replicate (IntKind.wrap .i64 (1 * 2 ^ (min (((x1.1.2.1).length : Int)).toNat (IntKind.bits .i64)))).toNat (false : Bool)).set (IntKind.wrap .i64 ((IntKind.wrap .i64 (1 * 2 ^ (min (((x1.1.2.1).length : Int)).toNat (IntKind.bits .i64)))) - 1)).toNat true).length))
 let O6 : Nat × Nat × AObj := (8036, v7, .arr eBool.k 4 (eBool.E ((List.replicate (IntKind.wrap .i64 (1 * 2 ^ (min (((x1.1.2.1).length : Int)).toNat (IntKind.bits .i64)))).toNat (false : Bool)).set (IntKind.wrap .i64 ((IntKind.wrap .i64 (1 * 2 ^ (min (((x1.1.2.1).length : Int)).toNat (IntKind.bits .i64)))) - 1)).toNat true)))
 refine b_fin hK (s' := (P1 [E2, E3, E5] [O4, O6])) (AS.le_of ⟨rfl, rfl, rfl, arl (by first | rfl | simp only [List.length_set, sortI_len, sortS_len, sortW_len, List.length_reverse]), trivial⟩ ⟨rfl, rfl, rfl, trivial⟩) ?_
 refine AW.seq ?_
 refine AW.rgs rfl fun K hK => mv rfl rfl ?_
 refine bf hK (P1 [E2, E3, E5, (10, hI 0)] [O4, O6]) ?_
 refine AW.lpR h (by first | exact up_then | exact up_to) (S := Int × (List TSetBeforeLetter) × (List Bool)) (V := Nat) (fun a v => (P1 [E2, (8, .ar 8033 v eSetBeforeLetter.k 0 ((a.2.1).length)), (9, .ar 8036 v7 eBool.k 0 ((a.2.2).length)), (10, hI a.1)] [(8033, v, .arr eSetBeforeLetter.k 56 (eSetBeforeLetter.E a.2.1)), (8036, v7, .arr eBool.k 4 (eBool.E a.2.2))])) ?_ (X := Unit) (W := Unit) (fun a v => ⟨[], []⟩) (fun a80 w81 h => ?_) (fun a12 w13 st14 h hr15=> ?_)
 ·exact to_L ⟨v5, rfl⟩
 ·refine AW.rgs rfl fun K hK => mv rfl rfl (mv rfl rfl (mv rfl rfl ?_))
  refine bf hK ⟨[(2, .str nS), (3, .bool false), (4, hI 0)], []⟩ ?_
  obtain rfl := oi h
  exact AW.ret (ret_pure (.inr rfl) (resT rfl (resT rfl (resT rfl rfl))) rfl ⟨trivial, trivial, trivial, trivial⟩)
 refine AW.seq ?_
 refine AW.rgs rfl fun K hK => mv rfl rfl (mv rfl rfl (bv rfl (v_lenA rfl rfl ty57 rfl rfl) (bv rfl (v_bin rfl rfl b_lss) ?_)))
 let E7 : Nat × HV := (8, .ar 8033 w13 eSetBeforeLetter.k 0 ((a12.2.1).length))
 let E8 : Nat × HV := (9, .ar 8036 v7 eBool.k 0 ((a12.2.2).length))
 let O9 : Nat × Nat × AObj := (8033, w13, .arr eSetBeforeLetter.k 56 (eSetBeforeLetter.E a12.2.1))
 let O10 : Nat × Nat × AObj := (8036, v7, .arr eBool.k 4 (eBool.E a12.2.2))
 refine bf hK (P1 [E2, E7, E8, (10, hI a12.1), (45, .bool (decide (a12.1 < (((a12.2.1).length : Nat) : Int))))] [O9, O10]) ?_
 refine AW.cond rfl (fun hc => ?_) (fun hc => ?_)
 ·obtain ⟨hc, h⟩ := cT hc h
  refine AW.skip ?_
  refine AW.seq (AW.block ?_)
  refine AW.seq ?_
  refine AW.rgs rfl fun K hK => mv rfl rfl (mv rfl rfl ?_)
  obtain ⟨x16, h17, h⟩ := bS h
  refine bv rfl (v_idxA ty57 es57 rfl rfl (idx_lt h17) rfl) (bv rfl (v_fieldAddrP fo56_0 rfl rfl) ?_)
  obtain ⟨x18, h19, h⟩ := bS h
  refine bv rfl (v_loadP ty3 rfl rfl (l_cell eSetBeforeLetter h19 (o := 0) rfl rfl)) (bv rfl (v_bin rfl rfl b_eql) ?_)
  refine bf hK (P1 [E2, E7, E8, (10, hI a12.1), (53, .bool (decide (x18.1 = 1)))] [O9, O10]) ?_
  refine AW.cond rfl (fun hc => ?_) (fun hc => ?_)
  ·obtain ⟨hc, h⟩ := cT hc h
   refine AW.rgs rfl fun K hK => mv rfl rfl ?_
   refine bf hK ⟨[E7, (10, hI a12.1), (11, .str nS)], [O9]⟩ ?_
   refine AW.seq ?_
   refine AW.rgs rfl fun K hK => mv rfl rfl (mv rfl rfl ?_)
   refine bf hK ⟨[E7, (11, .str nS), (12, hI a12.1)], [O9]⟩ ?_
   refine AW.lpX h (by first | exact up_then | exact up_to) (S := (List UInt8) × Int) (V := Unit) (fun a v => ⟨[E7, (11, .str a.1), (12, hI a.2)], [O9]⟩) ?_ (X := (List UInt8)) (W := Unit) (fun a v => ⟨[(11, .str a)], []⟩) (fun a42 w43 h => ?_) (fun a20 w21 st22 h => ?_)
   ·exact to_L ⟨(), rfl⟩
   ·refine AW.rgs rfl fun K hK => mv rfl rfl (mv rfl rfl (mv rfl rfl (mv rfl rfl ?_)))
    refine bf hK ⟨[(2, .str a42), (3, .bool true), (4, hI 0)], []⟩ ?_
    have h := hr15 _ h
    obtain rfl := oi h
    exact AW.ret (ret_pure (.inr rfl) (resT rfl (resT rfl (resT rfl rfl))) rfl ⟨trivial, trivial, trivial, trivial⟩)
   refine AW.seq ?_
   refine AW.rgs rfl fun K hK => mv rfl rfl (mv rfl rfl ?_)
   obtain ⟨x24, h25, h⟩ := bS h
   refine bv rfl (v_idxA ty57 es57 rfl rfl (idx_lt h25) rfl) (bv rfl (v_fieldAddrP fo56_1 rfl rfl) ?_)
   obtain ⟨x26, h27, h⟩ := bS h
   refine bv rfl (v_loadP ty3 rfl rfl (l_cell eSetBeforeLetter h27 (o := 1) rfl rfl)) (bv rfl (v_bin rfl rfl b_neq) ?_)
   refine bf hK ⟨[E7, (11, .str a20.1), (12, hI a20.2), (60, .bool (decide (x26.2.1 ≠ (-1))))], [O9]⟩ ?_
   refine AW.cond rfl (fun hc => ?_) (fun hc => ?_)
   ·obtain ⟨hc, h⟩ := cT hc h
    refine AW.skip ?_
    refine AW.seq (AW.block ?_)
    refine AW.dg 15 follows rfl rfl fun K hK => ?_
    iterate 2 refine sm rfl rfl ?_
    obtain ⟨x28, h29, h⟩ := bS h
    refine sv rfl (v_idxA ty57 es57 rfl rfl (idx_lt h29) rfl) ?_
    refine sv rfl (v_fieldAddrP fo56_2 rfl rfl) ?_
    obtain ⟨x30, h31, h⟩ := bS h
    refine sv rfl (v_loadP ty3 rfl rfl (l_cell eSetBeforeLetter h31 (o := 2) rfl rfl)) ?_
    iterate 2 refine sm rfl rfl ?_
    obtain ⟨x32, h33, h⟩ := bS h
    refine sv rfl (v_idxA ty57 es57 rfl rfl (idx_lt h33) rfl) ?_
    refine sv rfl (v_fieldAddrP fo56_2 rfl rfl) ?_
    obtain ⟨x34, h35, h⟩ := bS h
    refine sv rfl (v_loadP ty3 rfl rfl (l_cell eSetBeforeLetter h35 (o := 2) rfl rfl)) ?_
    refine sv rfl (v_bin rfl rfl b_add) ?_
    obtain ⟨h36, h⟩ := ifN h
    refine sv rfl (v_sliceS ty9 rfl rfl rfl h36) ?_
    refine sm rfl rfl ?_
    obtain ⟨h37, h⟩ := ifN h
    refine sv rfl (v_bin rfl rfl (b_sadd h37)) ?_
    refine sm rfl rfl ?_
    refine s_nil ?_
    refine bf hK ⟨[E7, (11, .str (((([48, 49, 50, 51, 52, 53, 54, 55, 56, 57, 97, 98, 99, 100, 101, 102] : List UInt8).take (IntKind.wrap .i64 (x34.2.2 + 1)).toNat).drop (x30.2.2).toNat) ++ a20.1)), (12, hI a20.2)], [O9]⟩ ?_
    refine AW.rg rfl fun K hK => mv rfl rfl (mv rfl rfl ?_)
    obtain ⟨x38, h39, h⟩ := bS h
    refine bv rfl (v_idxA ty57 es57 rfl rfl (idx_lt h39) rfl) (bv rfl (v_fieldAddrP fo56_1 rfl rfl) ?_)
    obtain ⟨x40, h41, h⟩ := bS h
    refine bv rfl (v_loadP ty3 rfl rfl (l_cell eSetBeforeLetter h41 (o := 1) rfl rfl)) (mv rfl rfl ?_)
    refine b_nil (hK _ ?_)
    exact to_L ⟨(((([48, 49, 50, 51, 52, 53, 54, 55, 56, 57, 97, 98, 99, 100, 101, 102] : List UInt8).take (IntKind.wrap .i64 (x34.2.2 + 1)).toNat).drop (x30.2.2).toNat) ++ a20.1, x40.2.1), (), h, rfl⟩
   obtain ⟨hc, h⟩ := cF hc h
   refine AW.exit ?_
   exact to_L ⟨a20.1, (), h, rfl⟩
  obtain ⟨hc, h⟩ := cF hc h
  refine AW.skip ?_
  refine AW.rgs rfl fun K hK => bv rfl (v_fieldAddrP fo27_0 rfl rfl) (bv rfl (v_loadP ty3 rfl rfl (l_lit rfl rfl)) (mv rfl rfl ?_))
  refine bf hK (P1 [E2, E7, E8, (10, hI a12.1), (82, hI x1.1.1), (83, hI 0)] [O9, O10]) ?_
  refine AW.lpX h (by first | exact up_then | exact up_to) (S := Int × (List TSetBeforeLetter) × (List Bool)) (V := Nat) (fun a v => (P1 [E2, (8, .ar 8033 v eSetBeforeLetter.k 0 ((a.2.1).length)), (9, .ar 8036 v7 eBool.k 0 ((a.2.2).length)), (10, hI a12.1), (82, hI x1.1.1), (83, hI a.1)] [(8033, v, .arr eSetBeforeLetter.k 56 (eSetBeforeLetter.E a.2.1)), (8036, v7, .arr eBool.k 4 (eBool.E a.2.2))])) ?_ (X := (List TSetBeforeLetter) × (List Bool)) (W := Nat) (fun a v => (P1 [E2, (8, .ar 8033 v eSetBeforeLetter.k 0 ((a.1).length)), (9, .ar 8036 v7 eBool.k 0 ((a.2).length)), (10, hI a12.1)] [(8033, v, .arr eSetBeforeLetter.k 56 (eSetBeforeLetter.E a.1)), (8036, v7, .arr eBool.k 4 (eBool.E a.2))])) (fun a78 w79 h => ?_) (fun a44 w45 st46 h => ?_)
  ·exact to_L ⟨w13, rfl⟩
  ·refine AW.rg rfl fun K hK => mv rfl rfl (bv rfl (v_bin rfl rfl b_add) (mv rfl rfl ?_))
   refine b_nil (hK _ ?_)
   exact to_L ⟨(IntKind.wrap .i64 (a12.1 + 1), a78.1, a78.2), w79, h, rfl⟩
  refine AW.rgs rfl fun K hK => bv rfl (v_bin rfl rfl b_lss) ?_
  let E11 : Nat × HV := (8, .ar 8033 w45 eSetBeforeLetter.k 0 ((a44.2.1).length))
  let E12 : Nat × HV := (9, .ar 8036 v7 eBool.k 0 ((a44.2.2).length))
  let O13 : Nat × Nat × AObj := (8033, w45, .arr eSetBeforeLetter.k 56 (eSetBeforeLetter.E a44.2.1))
  let O14 : Nat × Nat × AObj := (8036, v7, .arr eBool.k 4 (eBool.E a44.2.2))
  refine bf hK (P1 [E2, E11, E12, (10, hI a12.1), (82, hI x1.1.1), (83, hI a44.1), (84, .bool (decide (a44.1 < x1.1.1)))] [O13, O14]) ?_
  refine AW.cseq rfl (fun hc => ?_) (fun hc => ?_)
  ·obtain ⟨hc, h⟩ := cT hc h
   refine AW.skip ?_
   refine AW.seqJ h (S := (List TSetBeforeLetter) × (List Bool)) (V := Nat) (fun a v => (P1 [E2, (8, .ar 8033 v eSetBeforeLetter.k 0 ((a.1).length)), (9, .ar 8036 v7 eBool.k 0 ((a.2).length)), (10, hI a12.1), (82, hI x1.1.1), (83, hI a44.1)] [(8033, v, .arr eSetBeforeLetter.k 56 (eSetBeforeLetter.E a.1)), (8036, v7, .arr eBool.k 4 (eBool.E a.2))])) (fun a48 w49 h => ?_) (fun k50 h => ?_)
   ·refine AW.rg rfl fun K hK => bv rfl (v_bin rfl rfl b_add) (mv rfl rfl ?_)
    refine b_nil (hK _ ?_)
    exact to_L ⟨(IntKind.wrap .i64 (a44.1 + 1), a48.1, a48.2), w49, h, rfl⟩
   refine AW.block ?_
   refine AW.rgs rfl fun K hK => mv rfl rfl (mv rfl rfl ?_)
   refine bf hK (P1 [E2, E11, E12, (10, hI a12.1), (13, hI a44.1), (82, hI x1.1.1), (83, hI a44.1)] [O13, O14]) ?_
   refine AW.rgs rfl fun K hK => mv rfl rfl ?_
   refine bf hK (P1 [E2, E11, E12, (10, hI a12.1), (13, hI a44.1), (14, hI 0), (82, hI x1.1.1), (83, hI a44.1)] [O13, O14]) ?_
   refine AW.seq ?_
   refine AW.rgs rfl fun K hK => mv rfl rfl (mv rfl rfl ?_)
   let E15 : Nat × HV := (86, hI ((x1.1.2.1).length : Int))
   refine bf hK (P1 [E2, E11, E12, (10, hI a12.1), (13, hI a44.1), (14, hI 0), (82, hI x1.1.1), (83, hI a44.1), E15, (87, hI 0)] [O13, O14]) ?_
   refine AW.lpX h (by first | exact up_then | exact up_to) (S := Int × Int) (V := Unit) (fun a v => (P1 [E2, E11, E12, (10, hI a12.1), (13, hI a44.1), (14, hI a.1), (82, hI x1.1.1), (83, hI a44.1), E15, (87, hI a.2)] [O13, O14])) ?_ (X := Int) (W := Unit) (fun a v => (P1 [E2, E11, E12, (10, hI a12.1), (13, hI a44.1), (14, hI a), (82, hI x1.1.1), (83, hI a44.1)] [O13, O14])) (fun a68 w69 h => ?_) (fun a51 w52 st53 h => ?_)
   ·exact to_L ⟨(), rfl⟩
   ·refine AW.rgs rfl fun K hK => mv rfl rfl (mv rfl rfl ?_)
    obtain ⟨x70, h71, h⟩ := bS h
    refine bv rfl (v_idxA ty58 es58 rfl rfl (idx_lt h71) rfl) ?_
    obtain ⟨x72, h73, h⟩ := bS h
    refine bv rfl (v_loadP ty4 rfl rfl (l_cell eBool h73 (o := 0) rfl rfl)) (bv rfl (v_not rfl) ?_)
    refine bf hK (P1 [E2, E11, E12, (10, hI a12.1), (13, hI a44.1), (14, hI a68), (82, hI x1.1.1), (83, hI a44.1), (115, .bool (!x72))] [O13, O14]) ?_
    refine AW.cond rfl (fun hc => ?_) (fun hc => ?_)
    ·have h := ifT hc h
     refine AW.rgs rfl fun K hK => mv rfl rfl (mv rfl rfl ?_)
     obtain ⟨x74, h75, h⟩ := bS h
     refine bv rfl (v_idxA ty58 es58 rfl rfl (idx_lt h75) rfl) ?_
     refine b_op rfl (o_storeE eBool (l := a44.2.2) (j := a68) (v := true) rfl rfl rfl ty4 rfl rfl rfl (idx_lt h75) ?_)
     refine b_fin hK (s' := (P1 [E2, E11, (9, .ar 8036 v7 eBool.k 0 (((a44.2.2).set (a68).toNat true).length)), (10, hI a12.1), (13, hI a44.1), (14, hI a68), (82, hI x1.1.1), (83, hI a44.1)] [O13, (8036, v7, .arr eBool.k 4 (eBool.E ((a44.2.2).set (a68).toNat true)))])) (AS.le_of ⟨rfl, rfl, rfl, arl (by first | rfl | simp only [List.length_set, sortI_len, sortS_len, sortW_len, List.length_reverse]), rfl, rfl, rfl, rfl, rfl, trivial⟩ ⟨rfl, rfl, rfl, trivial⟩) ?_
     refine AW.rg rfl fun K hK => mv rfl rfl (mv rfl rfl (mv rfl rfl (mv rfl rfl ?_)))
     refine b_op rfl (o_build (cs := [hI a68, hI a12.1, hI a44.1]) rfl (bl_of ty56 rfl rfl rfl rfl) ?_)
     refine b_op rfl (o_bsl rfl rfl (as_of (cs := [hI a68, hI a12.1, hI a44.1]) ty57 ty56 rfl rfl rfl rfl rfl) ?_)
     obtain ⟨h77, h⟩ := ifN h
     refine b_op rfl (o_appE eSetBeforeLetter (l := a44.2.1) (m := [(a68, a12.1, a44.1)]) rfl rfl ty57 ty57 ty56 rfl rfl rfl rfl rfl h77 (fun v76 => ?_))
     refine mv rfl rfl ?_
     refine b_nil (hK _ ?_)
     exact to_L ⟨(a44.2.1 ++ [(a68, a12.1, a44.1)], (a44.2.2).set (a68).toNat true), v76, h, rfl⟩
    have h := ifF (bF' hc) h
    refine AW.skip ?_
    exact to_L ⟨(a44.2.1, a44.2.2), w45, h, rfl⟩
   refine AW.rgs rfl fun K hK => bv rfl (v_bin rfl rfl b_lss) ?_
   refine bf hK (P1 [E2, E11, E12, (10, hI a12.1), (13, hI a44.1), (14, hI a51.1), (82, hI x1.1.1), (83, hI a44.1), E15, (87, hI a51.2), (88, .bool (decide (a51.2 < ((x1.1.2.1).length : Int))))] [O13, O14]) ?_
   refine AW.cseq rfl (fun hc => ?_) (fun hc => ?_)
   ·obtain ⟨hc, h⟩ := cT hc h
    refine AW.skip ?_
    refine AW.seqJ h (S := Int) (V := Unit) (fun a v => (P1 [E2, E11, E12, (10, hI a12.1), (13, hI a44.1), (14, hI a), (82, hI x1.1.1), (83, hI a44.1), E15, (87, hI a51.2)] [O13, O14])) (fun a55 w56 h => ?_) (fun k57 h => ?_)
    ·refine AW.rg rfl fun K hK => bv rfl (v_bin rfl rfl b_add) (mv rfl rfl ?_)
     refine b_nil (hK _ ?_)
     exact to_L ⟨(a55, IntKind.wrap .i64 (a51.2 + 1)), (), h, rfl⟩
    refine AW.block ?_
    refine AW.rgs rfl fun K hK => mv rfl rfl (mv rfl rfl ?_)
    refine bf hK (P1 [E2, E11, E12, (10, hI a12.1), (13, hI a44.1), (14, hI a51.1), (15, hI a51.2), (82, hI x1.1.1), (83, hI a44.1), E15, (87, hI a51.2)] [O13, O14]) ?_
    refine AW.rgs rfl fun K hK => mv rfl rfl (mv rfl rfl ?_)
    obtain ⟨x58, h59, h⟩ := bS h
    refine bv rfl (v_idxA ty57 es57 rfl rfl (idx_lt h59) rfl) (bv rfl (v_fieldAddrP fo56_0 rfl rfl) ?_)
    obtain ⟨x60, h61, h⟩ := bS h
    refine bv rfl (v_loadP ty3 rfl rfl (l_cell eSetBeforeLetter h61 (o := 0) rfl rfl)) (mv rfl rfl ?_)
    obtain ⟨h62, h⟩ := ifN h
    refine bv rfl (v_bin rfl rfl (b_shr h62)) (bv rfl (v_bin rfl rfl b_and) (bv rfl (v_bin rfl rfl b_eql) ?_))
    refine bf hK (P1 [E2, E11, E12, (10, hI a12.1), (13, hI a44.1), (14, hI a51.1), (15, hI a51.2), (82, hI x1.1.1), (83, hI a44.1), E15, (87, hI a51.2), (98, .bool (decide ((IntKind.wrap .i64 (BitVec.ofInt (IntKind.bits .i64) (Int.fdiv x60.1 (2 ^ (min (a51.2).toNat (IntKind.bits .i64)))) &&& BitVec.ofInt (IntKind.bits .i64) 1).toNat) = 1)))] [O13, O14]) ?_
    refine AW.cond rfl (fun hc => ?_) (fun hc => ?_)
    ·obtain ⟨hc, h⟩ := cT hc h
     refine AW.rg rfl fun K hK => mv rfl rfl (bv rfl (v_fieldAddrP fo27_2 rfl rfl) (bv rfl (v_loadP ty25 rfl rfl (l_lit rfl rfl)) (mv rfl rfl ?_)))
     obtain ⟨x63, h64, h⟩ := bS h
     refine bv rfl (v_idxF ty25 es25 rfl rfl (idx_lt h64)) (bv rfl (v_loadF ty39 rfl (l_cell (eSl eInt) h64 (o := 0) rfl rfl)) (mv rfl rfl ?_))
     obtain ⟨x65, h66, h⟩ := bS h
     refine bv rfl (v_idxF ty39 es39 rfl rfl (idx_lt h66)) (bv rfl (v_loadF ty3 rfl (l_cell eInt h66 (o := 0) rfl rfl)) ?_)
     obtain ⟨h67, h⟩ := ifN h
     refine bv rfl (v_bin rfl rfl (b_shl h67)) (bv rfl (v_bin rfl rfl b_or) (mv rfl rfl ?_))
     refine b_nil (hK _ ?_)
     exact to_L ⟨IntKind.wrap .i64 (BitVec.ofInt (IntKind.bits .i64) a51.1 ||| BitVec.ofInt (IntKind.bits .i64) (IntKind.wrap .i64 (1 * 2 ^ (min (x65).toNat (IntKind.bits .i64))))).toNat, (), h, rfl⟩
    obtain ⟨hc, h⟩ := cF hc h
    refine AW.skip ?_
    exact to_L ⟨a51.1, (), h, rfl⟩
   obtain ⟨hc, h⟩ := cF hc h
   refine AW.exit ?_
   exact to_L ⟨a51.1, (), h, rfl⟩
  obtain ⟨hc, h⟩ := cF hc h
  refine AW.exit ?_
  exact to_L ⟨(a44.2.1, a44.2.2), w45, h, rfl⟩
 obtain ⟨hc, h⟩ := cF hc h
 refine AW.exit ?_
 exact to_L ⟨(), (), h, rfl⟩
theorem w_reset_check {p0 : TLettersNext} {p1 : List UInt8} {r : Int} (h : m_reset_check p0 p1 = some r) : Pure Tryd.prog 20 [.agg [hI p0.1, slE (eSl eInt) p0.2], .str p1] (· = hI r) := by
 unfold m_reset_check at h
 refine Pure.of_body Tryd.func20 rfl rfl (lb rfl) fun hf => ?_
 unfold Tryd.f20
 dsimp only [enumS, Nat.reduceAdd]
 refine AW.rgs rfl fun K hK => b_op rfl (o_box rfl rfl rfl ?_)
 refine mv rfl rfl ?_
 refine bf hK ⟨[(1, .str p1), (2, .fptr [hI p0.1, slE (eSl eInt) p0.2] 0)], []⟩ ?_
 refine AW.seq ?_
 refine AW.rgs rfl fun K hK => bv rfl (v_loadF ty29 rfl (l_litA rfl (lb rfl) rfl)) ?_
 obtain ⟨x1, h2, h⟩ := bS h
 refine b_op rfl (o_call rfl rfl rfl rfl (ACallD.pure0 (w_reset_Check h2)) ?_)
 refine bv rfl (v_bin rfl rfl b_neq) ?_
 refine bf hK ⟨[(1, .str p1), (2, .fptr [hI p0.1, slE (eSl eInt) p0.2] 0), (7, .bool (decide (x1 ≠ 0)))], []⟩ ?_
 refine AW.cond rfl (fun hc => ?_) (fun hc => ?_)
 ·obtain ⟨hc, h⟩ := cT hc h
  refine AW.rgs rfl fun K hK => mv rfl rfl ?_
  refine bf hK ⟨[(4, hI 1)], []⟩ ?_
  obtain rfl := oi h
  exact AW.ret (ret_pure (.inr rfl) (resT rfl rfl) rfl trivial)
 obtain ⟨hc, h⟩ := cF hc h
 refine AW.skip ?_
 refine AW.rgs rfl fun K hK => bv rfl (v_fieldAddrF fo29_0 rfl) (bv rfl (v_loadF ty3 rfl (l_lit rfl rfl)) (mv rfl rfl ?_))
 obtain ⟨x3, h4, h⟩ := bS h
 refine b_op rfl (o_call rfl rfl rfl rfl (ACallD.pure0 (w_word_Check h4)) ?_)
 refine mv rfl rfl ?_
 refine bf hK ⟨[(4, hI x3)], []⟩ ?_
 obtain rfl := oi h
 exact AW.ret (ret_pure (.inr rfl) (resT rfl rfl) rfl trivial)
theorem w_reset_lead {p0 : TLettersNext} {p1 : Int} {p2 : List UInt8} {r : Int} (h : m_reset_lead p0 p1 p2 = some r) : Pure Tryd.prog 22 [.agg [hI p0.1, slE (eSl eInt) p0.2], hI p1, .str p2] (· = hI r) := by
 unfold m_reset_lead at h
 refine Pure.of_body Tryd.func22 rfl rfl (lb rfl) fun hf => ?_
 unfold Tryd.f22
 dsimp only [enumS, Nat.reduceAdd]
 refine AW.rgs rfl fun K hK => b_op rfl (o_box rfl rfl rfl ?_)
 refine mv rfl rfl ?_
 let E17 : Nat × HV := (3, .fptr [hI p0.1, slE (eSl eInt) p0.2] 0)
 refine bf hK ⟨[(1, hI p1), (2, .str p2), E17], []⟩ ?_
 refine AW.seq ?_
 refine AW.rgs rfl fun K hK => mv rfl rfl (bv rfl (v_lenS rfl rfl ty9 rfl) (mv rfl rfl ?_))
 let E18 : Nat × HV := (9, hI ((p2).length : Int))
 refine bf hK ⟨[(1, hI p1), (2, .str p2), E17, E18, (10, hI 0)], []⟩ ?_
 refine AW.lpX h (by first | exact up_then | exact up_to) (S := Int × Int) (V := Unit) (fun a v => ⟨[(1, hI a.1), (2, .str p2), E17, E18, (10, hI a.2)], []⟩) ?_ (X := Int) (W := Unit) (fun a v => ⟨[(1, hI a)], []⟩) (fun a11 w12 h => ?_) (fun a1 w2 st3 h => ?_)
 ·exact to_L ⟨(), rfl⟩
 ·refine AW.rgs rfl fun K hK => mv rfl rfl (mv rfl rfl ?_)
  refine bf hK ⟨[(6, hI a11)], []⟩ ?_
  obtain rfl := oi h
  exact AW.ret (ret_pure (.inr rfl) (resT rfl rfl) rfl trivial)
 refine AW.rgs rfl fun K hK => bv rfl (v_bin rfl rfl b_lss) ?_
 refine bf hK ⟨[(1, hI a1.1), (2, .str p2), E17, E18, (10, hI a1.2), (11, .bool (decide (a1.2 < ((p2).length : Int))))], []⟩ ?_
 refine AW.cseq rfl (fun hc => ?_) (fun hc => ?_)
 ·obtain ⟨hc, h⟩ := cT hc h
  refine AW.skip ?_
  refine AW.seq (AW.block ?_)
  refine AW.rgs rfl fun K hK => mv rfl rfl (mv rfl rfl ?_)
  refine bf hK ⟨[(1, hI a1.1), (2, .str p2), E17, (7, hI a1.2), E18, (10, hI a1.2)], []⟩ ?_
  refine AW.dg 8 follows rfl rfl fun K hK => ?_
  refine sv rfl (v_loadF ty29 rfl (l_litA rfl (lb rfl) rfl)) ?_
  iterate 3 refine sm rfl rfl ?_
  obtain ⟨x5, h6, h⟩ := bS h
  refine sv rfl (v_idxS ty9 rfl rfl h6) ?_
  obtain ⟨x7, h8, h⟩ := bS h
  refine s_op rfl rfl (ops_call rfl rfl rfl rfl (ACallD.pure0 (w_strings_IndexByte h8)) ?_)
  obtain ⟨x9, h10, h⟩ := bS h
  refine s_op rfl rfl (ops_call rfl rfl rfl rfl (ACallD.pure0 (w_reset_step h10)) ?_)
  refine sm rfl rfl ?_
  refine s_nil ?_
  refine bf hK ⟨[(1, hI x9), (2, .str p2), E17, E18, (10, hI a1.2)], []⟩ ?_
  refine AW.rg rfl fun K hK => bv rfl (v_bin rfl rfl b_add) (mv rfl rfl ?_)
  refine b_nil (hK _ ?_)
  exact to_L ⟨(x9, IntKind.wrap .i64 (a1.2 + 1)), (), h, rfl⟩
 obtain ⟨hc, h⟩ := cF hc h
 refine AW.exit ?_
 exact to_L ⟨a1.1, (), h, rfl⟩
theorem w_reset_Verify {p0 : TLettersNext} {p1 : List UInt8} {r : Int} (h : m_reset_Verify p0 p1 = some r) : Pure Tryd.prog 9 [.agg [hI p0.1, slE (eSl eInt) p0.2], .str p1] (· = hI r) := by
 unfold m_reset_Verify at h
 refine Pure.of_body Tryd.func9 rfl rfl (lb rfl) fun hf => ?_
 unfold Tryd.f9
 dsimp only [enumS, Nat.reduceAdd]
 refine AW.rgs rfl fun K hK => b_op rfl (o_box rfl rfl rfl ?_)
 refine mv rfl rfl ?_
 let E16 : Nat × HV := (2, .fptr [hI p0.1, slE (eSl eInt) p0.2] 0)
 refine bf hK ⟨[(1, .str p1), E16], []⟩ ?_
 refine AW.seq ?_
 refine AW.rgs rfl fun K hK => bv rfl (v_loadF ty29 rfl (l_litA rfl (lb rfl) rfl)) (mv rfl rfl ?_)
 obtain ⟨x1, h2, h⟩ := bS h
 refine b_op rfl (o_call rfl rfl rfl rfl (ACallD.pure0 (w_reset_check h2)) ?_)
 refine mv rfl rfl ?_
 refine bf hK ⟨[(1, .str p1), E16, (5, hI x1)], []⟩ ?_
 refine AW.rgs rfl fun K hK => mv rfl rfl (bv rfl (v_bin rfl rfl b_neq) ?_)
 refine bf hK ⟨[(1, .str p1), E16, (5, hI x1), (10, .bool (decide (x1 ≠ 0)))], []⟩ ?_
 refine AW.cond rfl (fun hc => ?_) (fun hc => ?_)
 ·obtain ⟨hc, h⟩ := cT hc h
  refine AW.rgs rfl fun K hK => mv rfl rfl (mv rfl rfl ?_)
  refine bf hK ⟨[(4, hI x1)], []⟩ ?_
  obtain rfl := oi h
  exact AW.ret (ret_pure (.inr rfl) (resT rfl rfl) rfl trivial)
 obtain ⟨hc, h⟩ := cF hc h
 refine AW.skip ?_
 refine AW.seq ?_
 refine AW.dgs 7 follows rfl rfl fun K hK => ?_
 refine sv rfl (v_loadF ty29 rfl (l_litA rfl (lb rfl) rfl)) ?_
 refine sv rfl (v_loadF ty29 rfl (l_litA rfl (lb rfl) rfl)) ?_
 obtain ⟨x3, h4, h⟩ := bS h
 refine s_op rfl rfl (ops_call rfl rfl rfl rfl (ACallD.pure0 (w_reset_all h4)) ?_)
 refine sm rfl rfl ?_
 obtain ⟨x5, h6, h⟩ := bS h
 refine s_op rfl rfl (ops_call rfl rfl rfl rfl (ACallD.pure0 (w_reset_lead h6)) ?_)
 obtain ⟨x7, h8, h⟩ := bS h
 refine s_op rfl rfl (ops_call rfl rfl rfl rfl (ACallD.pure0 (w_reset_single h8)) ?_)
 refine sv rfl (v_not rfl) ?_
 refine s_nil ?_
 refine bf hK ⟨[(18, .bool (!x7))], []⟩ ?_
 refine AW.cond rfl (fun hc => ?_) (fun hc => ?_)
 ·have h := ifT hc h
  refine AW.rgs rfl fun K hK => mv rfl rfl ?_
  refine bf hK ⟨[(4, hI 20)], []⟩ ?_
  obtain rfl := oi h
  exact AW.ret (ret_pure (.inr rfl) (resT rfl rfl) rfl trivial)
 have h := ifF (bF' hc) h
 refine AW.skip ?_
 refine AW.rgs rfl fun K hK => mv rfl rfl ?_
 refine bf hK ⟨[(4, hI 0)], []⟩ ?_
 obtain rfl := oi h
 exact AW.ret (ret_pure (.inr rfl) (resT rfl rfl) rfl trivial)
theorem w_code_sorted_string {p0 : List (List UInt8)} {r : (List (List UInt8))} (h : m_code_sorted_string p0 = some r) : Pure Tryd.prog 67 [slE eStr p0, .fn (.func 43) [] []] (· = slE eStr r) := by
 unfold m_code_sorted_string at h
 refine Pure.of_body Tryd.func67 rfl rfl (lb rfl) fun hf => ?_
 unfold Tryd.f67
 dsimp only [enumS, Nat.reduceAdd]
 refine AW.rgs rfl fun K hK => mv rfl rfl ?_
 refine bf hK ⟨[(0, slE eStr p0), (1, .fn (.func 43) [] [])], []⟩ ?_
 refine AW.rgs rfl fun K hK => mv rfl rfl ?_
 obtain ⟨x1, h2, h⟩ := bS h
 refine b_op rfl (o_callA rfl rfl rfl rfl (c_cloneSO 67007 h2 fun v3 => ?_) )
 refine mv rfl rfl ?_
 refine bf hK ⟨[(1, .fn (.func 43) [] []), (5, .ar 67007 v3 eStr.k 0 ((x1).length))], [(67007, v3, .arr eStr.k 9 (eStr.E x1))]⟩ ?_
 refine AW.rgs rfl fun K hK => mv rfl rfl (mv rfl rfl ?_)
 obtain ⟨h4, h⟩ := ifN h
 refine b_op rfl (o_sortW c_sortWb (l := x1) rfl rfl rfl rfl h4 ?_)
 refine b_fin hK (s' := ⟨[(5, .ar 67007 v3 eStr.k 0 ((sortW x1).length))], [(67007, v3, .arr eStr.k 9 (eStr.E (sortW x1)))]⟩) (AS.le_of ⟨arl (by first | rfl | simp only [List.length_set, sortI_len, sortS_len, sortW_len, List.length_reverse]), trivial⟩ ⟨rfl, trivial⟩) ?_
 refine AW.rgs rfl fun K hK => mv rfl rfl ?_
 refine b_op rfl (o_callK (q := slE eStr (compactS_ (sortW x1))) [] rfl rfl rfl rfl (fun K hK => c_compactS (H' := []) (l := sortW x1) rfl rfl (leH_get trivial) rfl hK) ?_)
 refine mv rfl rfl ?_
 refine bf hK ⟨[(4, slE eStr (compactS_ (sortW x1)))], []⟩ ?_
 obtain rfl := oi h
 exact AW.ret (ret_pure (.inr rfl) (resT rfl rfl) rfl (clean_slE fun _ _ => ⟨trivial, trivial⟩))
theorem w_code_Make {p0 : Int} {p1 : List (List UInt8)} {r : TLettersWords × Int} (h : m_code_Make p0 p1 = some r) : Pure Tryd.prog 56 [hI p0, slE eStr p1] (· = HV.tup [.agg [hI r.1.1, slE eStr r.1.2], hI r.2]) := by
 unfold m_code_Make at h
 refine Pure.of_body Tryd.func56 rfl rfl (lb rfl) fun hf => ?_
 unfold Tryd.f56
 dsimp only [enumS, Nat.reduceAdd]
 refine AW.rgs rfl fun K hK => b_op rfl (o_alloc (fid := 56) (zs := [hI 0, .v (.slice none 0 0)]) 56004 rfl rfl ty24 rfl (fun v1 => ?_))
 refine mv rfl rfl ?_
 let O19 : Nat × Nat × AObj := (56004, v1, .arr 2 24 [hI 0, .v (.slice none 0 0)])
 refine bf hK ⟨[(0, hI p0), (1, slE eStr p1), (4, .ptr 56004 v1 0)], [O19]⟩ ?_
 refine AW.rgs rfl fun K hK => mv rfl rfl (mv rfl rfl ?_)
 obtain ⟨x2, h3, h⟩ := bS h
 refine b_op rfl (o_call rfl rfl rfl rfl (ACallD.pure0 (w_code_sorted_string h3)) ?_)
 refine b_op rfl (o_build (cs := [hI p0, slE eStr x2]) rfl (bl_of ty24 rfl rfl rfl rfl) ?_)
 refine b_op rfl (o_alloc (fid := 56) (zs := [hI 0, .v (.slice none 0 0)]) 56006 rfl rfl ty24 rfl (fun v4 => ?_))
 refine b_op rfl (o_store (cs := [hI p0, slE eStr x2]) (zs := [hI p0, slE eStr x2]) rfl rfl rfl ty24 rfl rfl rfl rfl rfl ?_)
 let O20 : Nat × Nat × AObj := (56006, v4, .arr 2 24 [hI p0, slE eStr x2])
 let P2 : ASf := fun t H => ⟨(4, .ptr 56004 v1 0) :: (6, .ptr 56006 v4 0) :: t, O19 :: O20 :: H⟩
 refine bf hK (P2 [] []) ?_
 refine AW.seq ?_
 refine AW.rgs rfl fun K hK => bv rfl (v_loadP ty24 rfl rfl (l_litA rfl (lb rfl) rfl)) ?_
 obtain ⟨x5, h6, h⟩ := bS h
 refine b_op rfl (o_call rfl rfl rfl rfl (ACallD.pure0 (w_code_Check h6)) ?_)
 refine mv rfl rfl ?_
 refine bf hK (P2 [(7, hI x5)] []) ?_
 refine AW.rgs rfl fun K hK => mv rfl rfl (bv rfl (v_bin rfl rfl b_neq) ?_)
 refine bf hK (P2 [(7, hI x5), (15, .bool (decide (x5 ≠ 0)))] []) ?_
 refine AW.cond rfl (fun hc => ?_) (fun hc => ?_)
 ·obtain ⟨hc, h⟩ := cT hc h
  refine AW.rgs rfl fun K hK => b_op rfl (o_build (cs := [hI 0, .v (.slice none 0 0)]) rfl (bl_of ty24 rfl rfl rfl rfl) ?_)
  refine mv rfl rfl ?_
  refine b_op rfl (o_store (cs := [hI 0, .v (.slice none 0 0)]) (zs := [hI 0, .v (.slice none 0 0)]) rfl rfl rfl ty24 rfl rfl rfl rfl rfl ?_)
  refine mv rfl rfl ?_
  refine bf hK ⟨[(4, .ptr 56004 v1 0), (5, hI x5)], [O19]⟩ ?_
  refine AW.to (to_cells 56004 v1 (ds := [hI 0, slE eStr ([] : List (List UInt8))]) rfl (.cons (.refl _) <| .cons (.nil _) <| .nil) ?_)
  obtain rfl := oi h
  exact AW.ret (ret_pure (.inr rfl) (resP ty24 rfl rfl (l_litA rfl (lb rfl) rfl) (resT rfl rfl)) rfl ⟨⟨trivial, (clean_slE fun _ _ => ⟨trivial, trivial⟩), trivial⟩, trivial, trivial⟩)
 obtain ⟨hc, h⟩ := cF hc h
 refine AW.skip ?_
 refine AW.rgs rfl fun K hK => bv rfl (v_loadP ty24 rfl rfl (l_litA rfl (lb rfl) rfl)) ?_
 refine b_op rfl (o_store (cs := [hI p0, slE eStr x2]) (zs := [hI p0, slE eStr x2]) rfl rfl rfl ty24 rfl rfl rfl rfl rfl ?_)
 refine mv rfl rfl ?_
 refine bf hK ⟨[(4, .ptr 56004 v1 0), (5, hI 0)], [(56004, v1, .arr 2 24 [hI p0, slE eStr x2])]⟩ ?_
 obtain rfl := oi h
 exact AW.ret (ret_pure (.inr rfl) (resP ty24 rfl rfl (l_litA rfl (lb rfl) rfl) (resT rfl rfl)) rfl ⟨⟨trivial, (clean_slE fun _ _ => ⟨trivial, trivial⟩), trivial⟩, trivial, trivial⟩)
theorem w_slices_Equal_Lstring_string {p0 : List (List UInt8)} {p1 : List (List UInt8)} {r : Bool} (h : m_slices_Equal_Lstring_string p0 p1 = some r) : Pure Tryd.prog 68 [slE eStr p0, slE eStr p1] (· = HV.bool r) := by
 unfold m_slices_Equal_Lstring_string at h
 refine Pure.of_body Tryd.func68 rfl rfl (lb rfl) fun hf => ?_
 unfold Tryd.f68
 dsimp only [enumS, Nat.reduceAdd]
 refine AW.rgs rfl fun K hK => mv rfl rfl ?_
 let P1 : ASf := fun t H => ⟨(0, slE eStr p0) :: (1, slE eStr p1) :: t, H⟩
 refine bf hK (P1 [] []) ?_
 refine AW.seq ?_
 refine AW.rgs rfl fun K hK => mv rfl rfl (bv rfl (v_lenF rfl rfl ty22 rfl) (mv rfl rfl (bv rfl (v_lenF rfl rfl ty22 rfl) (bv rfl (v_bin rfl rfl b_neq) ?_))))
 refine bf hK (P1 [(10, .bool (decide (((p0).length : Int) ≠ ((p1).length : Int))))] []) ?_
 refine AW.cond rfl (fun hc => ?_) (fun hc => ?_)
 ·obtain ⟨hc, h⟩ := cT hc h
  refine AW.rgs rfl fun K hK => mv rfl rfl ?_
  refine bf hK ⟨[(4, .bool false)], []⟩ ?_
  obtain rfl := oi h
  exact AW.ret (ret_pure (.inr rfl) (resT rfl rfl) rfl trivial)
 obtain ⟨hc, h⟩ := cF hc h
 refine AW.skip ?_
 refine AW.seq ?_
 refine AW.rgs rfl fun K hK => mv rfl rfl (bv rfl (v_lenF rfl rfl ty22 rfl) (mv rfl rfl ?_))
 let E1 : Nat × HV := (12, hI ((p0).length : Int))
 refine bf hK (P1 [E1, (13, hI 0)] []) ?_
 refine AW.lpR h (by first | exact up_then | exact up_to) (S := Int) (V := Unit) (fun a v => (P1 [E1, (13, hI a)] [])) ?_ (X := Unit) (W := Unit) (fun a v => ⟨[], []⟩) (fun a9 w10 h => ?_) (fun a1 w2 st3 h hr4=> ?_)
 ·exact to_L ⟨(), rfl⟩
 ·refine AW.rgs rfl fun K hK => mv rfl rfl ?_
  refine bf hK ⟨[(4, .bool true)], []⟩ ?_
  obtain rfl := oi h
  exact AW.ret (ret_pure (.inr rfl) (resT rfl rfl) rfl trivial)
 refine AW.rgs rfl fun K hK => bv rfl (v_bin rfl rfl b_lss) ?_
 refine bf hK (P1 [E1, (13, hI a1), (14, .bool (decide (a1 < ((p0).length : Int))))] []) ?_
 refine AW.cseq rfl (fun hc => ?_) (fun hc => ?_)
 ·obtain ⟨hc, h⟩ := cT hc h
  refine AW.skip ?_
  refine AW.seq (AW.block ?_)
  refine AW.rgs rfl fun K hK => mv rfl rfl (mv rfl rfl ?_)
  refine bf hK (P1 [(5, hI a1), E1, (13, hI a1)] []) ?_
  refine AW.dgs 9 follows rfl rfl fun K hK => ?_
  iterate 2 refine sm rfl rfl ?_
  obtain ⟨x5, h6, h⟩ := bS h
  refine sv rfl (v_idxF ty22 es22 rfl rfl (idx_lt h6)) ?_
  refine sv rfl (v_loadF ty9 rfl (l_cell eStr h6 (o := 0) rfl rfl)) ?_
  iterate 2 refine sm rfl rfl ?_
  obtain ⟨x7, h8, h⟩ := bS h
  refine sv rfl (v_idxF ty22 es22 rfl rfl (idx_lt h8)) ?_
  refine sv rfl (v_loadF ty9 rfl (l_cell eStr h8 (o := 0) rfl rfl)) ?_
  refine sv rfl (v_bin rfl rfl b_sneq) ?_
  refine s_nil ?_
  refine bf hK (P1 [E1, (13, hI a1), (24, .bool (decide (x5 ≠ x7)))] []) ?_
  refine AW.cond rfl (fun hc => ?_) (fun hc => ?_)
  ·obtain ⟨hc, h⟩ := cT hc h
   refine AW.rgs rfl fun K hK => mv rfl rfl ?_
   refine bf hK ⟨[(4, .bool false)], []⟩ ?_
   have h := hr4 _ h
   obtain rfl := oi h
   exact AW.ret (ret_pure (.inr rfl) (resT rfl rfl) rfl trivial)
  obtain ⟨hc, h⟩ := cF hc h
  refine AW.skip ?_
  refine AW.rg rfl fun K hK => bv rfl (v_bin rfl rfl b_add) (mv rfl rfl ?_)
  refine b_nil (hK _ ?_)
  exact to_L ⟨IntKind.wrap .i64 (a1 + 1), (), h, rfl⟩
 obtain ⟨hc, h⟩ := cF hc h
 refine AW.exit ?_
 exact to_L ⟨(), (), h, rfl⟩
theorem w_slices_Equal_Lint_int {p0 : List (Int)} {p1 : List (Int)} {r : Bool} (h : m_slices_Equal_Lint_int p0 p1 = some r) : Pure Tryd.prog 70 [slE eInt p0, slE eInt p1] (· = HV.bool r) := by
 unfold m_slices_Equal_Lint_int at h
 refine Pure.of_body Tryd.func70 rfl rfl (lb rfl) fun hf => ?_
 unfold Tryd.f70
 dsimp only [enumS, Nat.reduceAdd]
 refine AW.rgs rfl fun K hK => mv rfl rfl ?_
 let P2 : ASf := fun t H => ⟨(0, slE eInt p0) :: (1, slE eInt p1) :: t, H⟩
 refine bf hK (P2 [] []) ?_
 refine AW.seq ?_
 refine AW.rgs rfl fun K hK => mv rfl rfl (bv rfl (v_lenF rfl rfl ty39 rfl) (mv rfl rfl (bv rfl (v_lenF rfl rfl ty39 rfl) (bv rfl (v_bin rfl rfl b_neq) ?_))))
 refine bf hK (P2 [(10, .bool (decide (((p0).length : Int) ≠ ((p1).length : Int))))] []) ?_
 refine AW.cond rfl (fun hc => ?_) (fun hc => ?_)
 ·obtain ⟨hc, h⟩ := cT hc h
  refine AW.rgs rfl fun K hK => mv rfl rfl ?_
  refine bf hK ⟨[(4, .bool false)], []⟩ ?_
  obtain rfl := oi h
  exact AW.ret (ret_pure (.inr rfl) (resT rfl rfl) rfl trivial)
 obtain ⟨hc, h⟩ := cF hc h
 refine AW.skip ?_
 refine AW.seq ?_
 refine AW.rgs rfl fun K hK => mv rfl rfl (bv rfl (v_lenF rfl rfl ty39 rfl) (mv rfl rfl ?_))
 let E2 : Nat × HV := (12, hI ((p0).length : Int))
 refine bf hK (P2 [E2, (13, hI 0)] []) ?_
 refine AW.lpR h (by first | exact up_then | exact up_to) (S := Int) (V := Unit) (fun a v => (P2 [E2, (13, hI a)] [])) ?_ (X := Unit) (W := Unit) (fun a v => ⟨[], []⟩) (fun a9 w10 h => ?_) (fun a1 w2 st3 h hr4=> ?_)
 ·exact to_L ⟨(), rfl⟩
 ·refine AW.rgs rfl fun K hK => mv rfl rfl ?_
  refine bf hK ⟨[(4, .bool true)], []⟩ ?_
  obtain rfl := oi h
  exact AW.ret (ret_pure (.inr rfl) (resT rfl rfl) rfl trivial)
 refine AW.rgs rfl fun K hK => bv rfl (v_bin rfl rfl b_lss) ?_
 refine bf hK (P2 [E2, (13, hI a1), (14, .bool (decide (a1 < ((p0).length : Int))))] []) ?_
 refine AW.cseq rfl (fun hc => ?_) (fun hc => ?_)
 ·obtain ⟨hc, h⟩ := cT hc h
  refine AW.skip ?_
  refine AW.seq (AW.block ?_)
  refine AW.rgs rfl fun K hK => mv rfl rfl (mv rfl rfl ?_)
  refine bf hK (P2 [(5, hI a1), E2, (13, hI a1)] []) ?_
  refine AW.dgs 9 follows rfl rfl fun K hK => ?_
  iterate 2 refine sm rfl rfl ?_
  obtain ⟨x5, h6, h⟩ := bS h
  refine sv rfl (v_idxF ty39 es39 rfl rfl (idx_lt h6)) ?_
  refine sv rfl (v_loadF ty3 rfl (l_cell eInt h6 (o := 0) rfl rfl)) ?_
  iterate 2 refine sm rfl rfl ?_
  obtain ⟨x7, h8, h⟩ := bS h
  refine sv rfl (v_idxF ty39 es39 rfl rfl (idx_lt h8)) ?_
  refine sv rfl (v_loadF ty3 rfl (l_cell eInt h8 (o := 0) rfl rfl)) ?_
  refine sv rfl (v_bin rfl rfl b_neq) ?_
  refine s_nil ?_
  refine bf hK (P2 [E2, (13, hI a1), (24, .bool (decide (x5 ≠ x7)))] []) ?_
  refine AW.cond rfl (fun hc => ?_) (fun hc => ?_)
  ·obtain ⟨hc, h⟩ := cT hc h
   refine AW.rgs rfl fun K hK => mv rfl rfl ?_
   refine bf hK ⟨[(4, .bool false)], []⟩ ?_
   have h := hr4 _ h
   obtain rfl := oi h
   exact AW.ret (ret_pure (.inr rfl) (resT rfl rfl) rfl trivial)
  obtain ⟨hc, h⟩ := cF hc h
  refine AW.skip ?_
  refine AW.rg rfl fun K hK => bv rfl (v_bin rfl rfl b_add) (mv rfl rfl ?_)
  refine b_nil (hK _ ?_)
  exact to_L ⟨IntKind.wrap .i64 (a1 + 1), (), h, rfl⟩
 obtain ⟨hc, h⟩ := cF hc h
 refine AW.exit ?_
 exact to_L ⟨(), (), h, rfl⟩
theorem w_slices_EqualFunc_LLint_LLint_Lint_Lint {p0 : List (List (Int))} {p1 : List (List (Int))} {r : Bool} (h : m_slices_EqualFunc_LLint_LLint_Lint_Lint p0 p1 = some r) : Pure Tryd.prog 69 [slE (eSl eInt) p0, slE (eSl eInt) p1, .fn (.func 70) [] []] (· = HV.bool r) := by
 unfold m_slices_EqualFunc_LLint_LLint_Lint_Lint at h
 refine Pure.of_body Tryd.func69 rfl rfl (lb rfl) fun hf => ?_
 unfold Tryd.f69
 dsimp only [enumS, Nat.reduceAdd]
 refine AW.rgs rfl fun K hK => mv rfl rfl ?_
 let E3 : Nat × HV := (2, .fn (.func 70) [] [])
 refine bf hK ⟨[(0, slE (eSl eInt) p0), (1, slE (eSl eInt) p1), E3], []⟩ ?_
 refine AW.seq ?_
 refine AW.rgs rfl fun K hK => mv rfl rfl (bv rfl (v_lenF rfl rfl ty25 rfl) (mv rfl rfl (bv rfl (v_lenF rfl rfl ty25 rfl) (bv rfl (v_bin rfl rfl b_neq) ?_))))
 refine bf hK ⟨[(0, slE (eSl eInt) p0), (1, slE (eSl eInt) p1), E3, (14, .bool (decide (((p0).length : Int) ≠ ((p1).length : Int))))], []⟩ ?_
 refine AW.cond rfl (fun hc => ?_) (fun hc => ?_)
 ·obtain ⟨hc, h⟩ := cT hc h
  refine AW.rgs rfl fun K hK => mv rfl rfl ?_
  refine bf hK ⟨[(6, .bool false)], []⟩ ?_
  obtain rfl := oi h
  exact AW.ret (ret_pure (.inr rfl) (resT rfl rfl) rfl trivial)
 obtain ⟨hc, h⟩ := cF hc h
 refine AW.skip ?_
 refine AW.seq ?_
 refine AW.rgs rfl fun K hK => mv rfl rfl (bv rfl (v_lenF rfl rfl ty25 rfl) (mv rfl rfl ?_))
 let E4 : Nat × HV := (16, hI ((p0).length : Int))
 let P3 : ASf := fun t H => ⟨(1, slE (eSl eInt) p1) :: E3 :: (15, slE (eSl eInt) p0) :: E4 :: t, H⟩
 refine bf hK (P3 [(17, hI 0)] []) ?_
 refine AW.lpR h (by first | exact up_then | exact up_to) (S := Int) (V := Unit) (fun a v => (P3 [(17, hI a)] [])) ?_ (X := Unit) (W := Unit) (fun a v => ⟨[], []⟩) (fun a11 w12 h => ?_) (fun a1 w2 st3 h hr4=> ?_)
 ·exact to_L ⟨(), rfl⟩
 ·refine AW.rgs rfl fun K hK => mv rfl rfl ?_
  refine bf hK ⟨[(6, .bool true)], []⟩ ?_
  obtain rfl := oi h
  exact AW.ret (ret_pure (.inr rfl) (resT rfl rfl) rfl trivial)
 refine AW.rgs rfl fun K hK => bv rfl (v_bin rfl rfl b_lss) ?_
 refine bf hK (P3 [(17, hI a1), (18, .bool (decide (a1 < ((p0).length : Int))))] []) ?_
 refine AW.cseq rfl (fun hc => ?_) (fun hc => ?_)
 ·obtain ⟨hc, h⟩ := cT hc h
  refine AW.skip ?_
  refine AW.seq (AW.block ?_)
  refine AW.rgs rfl fun K hK => mv rfl rfl ?_
  obtain ⟨x5, h6, h⟩ := bS h
  refine bv rfl (v_idxF ty25 es25 rfl rfl (idx_lt h6)) (bv rfl (v_loadF ty39 rfl (l_cell (eSl eInt) h6 (o := 0) rfl rfl)) (mv rfl rfl (mv rfl rfl ?_)))
  refine bf hK ⟨[(1, slE (eSl eInt) p1), E3, (7, hI a1), (8, slE eInt x5), (15, slE (eSl eInt) p0), E4, (17, hI a1)], []⟩ ?_
  refine AW.rgs rfl fun K hK => mv rfl rfl (mv rfl rfl ?_)
  obtain ⟨x7, h8, h⟩ := bS h
  refine bv rfl (v_idxF ty25 es25 rfl rfl (idx_lt h8)) (bv rfl (v_loadF ty39 rfl (l_cell (eSl eInt) h8 (o := 0) rfl rfl)) (mv rfl rfl ?_))
  refine bf hK ⟨[(1, slE (eSl eInt) p1), E3, (8, slE eInt x5), (9, slE eInt x7), (15, slE (eSl eInt) p0), E4, (17, hI a1)], []⟩ ?_
  refine AW.rgs rfl fun K hK => mv rfl rfl (mv rfl rfl (mv rfl rfl ?_))
  obtain ⟨x9, h10, h⟩ := bS h
  refine b_op rfl (o_call rfl rfl rfl rfl (ACallD.pure0 (w_slices_Equal_Lint_int h10)) ?_)
  refine bv rfl (v_not rfl) ?_
  refine bf hK (P3 [(17, hI a1), (30, .bool (!x9))] []) ?_
  refine AW.cond rfl (fun hc => ?_) (fun hc => ?_)
  ·have h := ifT hc h
   refine AW.rgs rfl fun K hK => mv rfl rfl ?_
   refine bf hK ⟨[(6, .bool false)], []⟩ ?_
   have h := hr4 _ h
   obtain rfl := oi h
   exact AW.ret (ret_pure (.inr rfl) (resT rfl rfl) rfl trivial)
  have h := ifF (bF' hc) h
  refine AW.skip ?_
  refine AW.rg rfl fun K hK => bv rfl (v_bin rfl rfl b_add) (mv rfl rfl ?_)
  refine b_nil (hK _ ?_)
  exact to_L ⟨IntKind.wrap .i64 (a1 + 1), (), h, rfl⟩
 obtain ⟨hc, h⟩ := cF hc h
 refine AW.exit ?_
 exact to_L ⟨(), (), h, rfl⟩
theorem w_parser_same {p0 : TLettersPrefixesNextEmit} {p1 : TLettersPrefixesNextEmit} {r : Bool} (h : m_parser_same p0 p1 = some r) : Pure Tryd.prog 57 [.agg [hI p0.1, slE eStr p0.2.1, slE (eSl eInt) p0.2.2.1, slE (eSl eInt) p0.2.2.2], .agg [hI p1.1, slE eStr p1.2.1, slE (eSl eInt) p1.2.2.1, slE (eSl eInt) p1.2.2.2]] (· = HV.bool r) := by
 unfold m_parser_same at h
 refine Pure.of_body Tryd.func57 rfl rfl (lb rfl) fun hf => ?_
 unfold Tryd.f57
 dsimp only [enumS, Nat.reduceAdd]
 refine AW.rgs rfl fun K hK => b_op rfl (o_box rfl rfl rfl ?_)
 refine b_op rfl (o_box rfl rfl rfl ?_)
 refine mv rfl rfl ?_
 refine bf hK ⟨[(2, .fptr [hI p0.1, slE eStr p0.2.1, slE (eSl eInt) p0.2.2.1, slE (eSl eInt) p0.2.2.2] 0), (3, .fptr [hI p1.1, slE eStr p1.2.1, slE (eSl eInt) p1.2.2.1, slE (eSl eInt) p1.2.2.2] 0)], []⟩ ?_
 refine AW.seqJ h (S := Bool) (V := Unit) (fun a v => ⟨[(4, .bool a)], []⟩) (fun a1 w2 h => ?_) (fun k3 h => ?_)
 ·obtain rfl := oi h
  exact AW.ret (ret_pure (.inr rfl) (resT rfl rfl) rfl trivial)
 refine AW.rg rfl fun K hK => bv rfl (v_fieldAddrF fo27_0 rfl) (bv rfl (v_loadF ty3 rfl (l_lit rfl rfl)) (bv rfl (v_fieldAddrF fo27_0 rfl) (bv rfl (v_loadF ty3 rfl (l_lit rfl rfl)) (bv rfl (v_bin rfl rfl b_eql) (mv rfl rfl ?_)))))
 by_cases hg12 : p0.1 = p1.1
 ·have h := ifT hg12 h
  refine b_T rfl rfl rfl rfl (decide_eq_true hg12) (o_val rfl (v_fieldAddrF fo27_1 rfl) ?_)
  refine b_T rfl rfl rfl rfl rfl (o_val rfl (v_loadF ty22 rfl (l_lit rfl rfl)) ?_)
  refine b_T rfl rfl rfl rfl rfl (o_val rfl (v_fieldAddrF fo27_1 rfl) ?_)
  refine b_T rfl rfl rfl rfl rfl (o_val rfl (v_loadF ty22 rfl (l_lit rfl rfl)) ?_)
  obtain ⟨x4, h5, h⟩ := bS h
  refine b_T rfl rfl rfl rfl rfl (o_call rfl rfl rfl rfl (ACallD.pure0 (w_slices_Equal_Lstring_string h5)) ?_)
  refine bv rfl (v_pickT rfl rfl rfl) (mv rfl rfl ?_)
  by_cases hg11 : x4 = true
  ·have h := ifT hg11 h
   refine b_T rfl rfl rfl rfl hg11 (o_val rfl (v_fieldAddrF fo27_2 rfl) ?_)
   refine b_T rfl rfl rfl rfl rfl (o_val rfl (v_loadF ty25 rfl (l_lit rfl rfl)) ?_)
   refine b_T rfl rfl rfl rfl rfl (o_val rfl (v_fieldAddrF fo27_2 rfl) ?_)
   refine b_T rfl rfl rfl rfl rfl (o_val rfl (v_loadF ty25 rfl (l_lit rfl rfl)) ?_)
   obtain ⟨x6, h7, h⟩ := bS h
   refine b_T rfl rfl rfl rfl rfl (o_call rfl rfl rfl rfl (ACallD.pure0 (w_slices_EqualFunc_LLint_LLint_Lint_Lint h7)) ?_)
   refine bv rfl (v_pickT rfl rfl rfl) (mv rfl rfl ?_)
   by_cases hg10 : x6 = true
   ·have h := ifT hg10 h
    refine b_T rfl rfl rfl rfl hg10 (o_val rfl (v_fieldAddrF fo27_3 rfl) ?_)
    refine b_T rfl rfl rfl rfl rfl (o_val rfl (v_loadF ty25 rfl (l_lit rfl rfl)) ?_)
    refine b_T rfl rfl rfl rfl rfl (o_val rfl (v_fieldAddrF fo27_3 rfl) ?_)
    refine b_T rfl rfl rfl rfl rfl (o_val rfl (v_loadF ty25 rfl (l_lit rfl rfl)) ?_)
    obtain ⟨x8, h9, h⟩ := bS h
    refine b_T rfl rfl rfl rfl rfl (o_call rfl rfl rfl rfl (ACallD.pure0 (w_slices_EqualFunc_LLint_LLint_Lint_Lint h9)) ?_)
    refine bv rfl (v_pickT rfl rfl rfl) (mv rfl rfl ?_)
    refine b_nil (hK _ ?_)
    exact to_L ⟨x8, (), h, rfl⟩
   have h := ifF hg10 h
   refine b_F rfl rfl rfl rfl rfl (bF hg10) ?_
   iterate 4 refine b_F rfl rfl rfl rfl rfl rfl ?_
   refine bv rfl (v_pickF rfl rfl rfl) (mv rfl rfl ?_)
   refine b_nil (hK _ ?_)
   exact to_L ⟨false, (), h, rfl⟩
  have h := ifF hg11 h
  refine b_F rfl rfl rfl rfl rfl (bF hg11) ?_
  iterate 4 refine b_F rfl rfl rfl rfl rfl rfl ?_
  refine bv rfl (v_pickF rfl rfl rfl) (mv rfl rfl ?_)
  iterate 5 refine b_F rfl rfl rfl rfl rfl rfl ?_
  refine bv rfl (v_pickF rfl rfl rfl) (mv rfl rfl ?_)
  refine b_nil (hK _ ?_)
  exact to_L ⟨false, (), h, rfl⟩
 have h := ifF hg12 h
 refine b_F rfl rfl rfl rfl rfl (decide_eq_false hg12) ?_
 iterate 4 refine b_F rfl rfl rfl rfl rfl rfl ?_
 refine bv rfl (v_pickF rfl rfl rfl) (mv rfl rfl ?_)
 iterate 5 refine b_F rfl rfl rfl rfl rfl rfl ?_
 refine bv rfl (v_pickF rfl rfl rfl) (mv rfl rfl ?_)
 iterate 5 refine b_F rfl rfl rfl rfl rfl rfl ?_
 refine bv rfl (v_pickF rfl rfl rfl) (mv rfl rfl ?_)
 refine b_nil (hK _ ?_)
 exact to_L ⟨false, (), h, rfl⟩
theorem w_parser_Check {p0 : TLettersPrefixesNextEmit} {r : Int} (h : m_parser_Check p0 = some r) : Pure Tryd.prog 38 [.agg [hI p0.1, slE eStr p0.2.1, slE (eSl eInt) p0.2.2.1, slE (eSl eInt) p0.2.2.2]] (· = hI r) := by
 unfold m_parser_Check at h
 refine Pure.of_body Tryd.func38 rfl rfl (lb rfl) fun hf => ?_
 unfold Tryd.f38
 dsimp only [enumS, Nat.reduceAdd]
 refine AW.rgs rfl fun K hK => b_op rfl (o_box rfl rfl rfl ?_)
 refine mv rfl rfl ?_
 let E6 : Nat × HV := (1, .fptr [hI p0.1, slE eStr p0.2.1, slE (eSl eInt) p0.2.2.1, slE (eSl eInt) p0.2.2.2] 0)
 refine bf hK ⟨[E6], []⟩ ?_
 refine AW.seq ?_
 refine AW.seqJ h (S := Bool) (V := Unit) (fun a v => ⟨[E6, (34, .bool a)], []⟩) (fun a1 w2 h => ?_) (fun k3 h => ?_)
 ·refine AW.cond rfl (fun hc => ?_) (fun hc => ?_)
  ·have h := ifT hc h
   refine AW.rgs rfl fun K hK => mv rfl rfl ?_
   refine bf hK ⟨[(2, hI 1)], []⟩ ?_
   obtain rfl := oi h
   exact AW.ret (ret_pure (.inr rfl) (resT rfl rfl) rfl trivial)
  have h := ifF (bF' hc) h
  refine AW.skip ?_
  refine AW.rgs rfl fun K hK => bv rfl (v_fieldAddrF fo27_0 rfl) (bv rfl (v_loadF ty3 rfl (l_lit rfl rfl)) ?_)
  refine b_op rfl (o_build (cs := [hI p0.1, .v (.slice none 0 0)]) rfl (bl_of ty24 rfl rfl rfl rfl) ?_)
  refine b_op rfl (o_alloc (fid := 38) (zs := [hI 0, .v (.slice none 0 0)]) 38003 rfl rfl ty24 rfl (fun v4 => ?_))
  refine b_op rfl (o_store (cs := [hI p0.1, .v (.slice none 0 0)]) (zs := [hI p0.1, .v (.slice none 0 0)]) rfl rfl rfl ty24 rfl rfl rfl rfl rfl ?_)
  let P4 : ASf := fun t H => ⟨E6 :: (3, .ptr 38003 v4 0) :: t, H⟩
  refine bf hK (P4 [] [(38003, v4, .arr 2 24 [hI p0.1, .v (.slice none 0 0)])]) ?_
  refine AW.seq ?_
  refine AW.rgs rfl fun K hK => bv rfl (v_fieldAddrF fo27_1 rfl) (bv rfl (v_loadF ty22 rfl (l_lit rfl rfl)) (bv rfl (v_lenF rfl rfl ty22 rfl) (mv rfl rfl ?_)))
  let E7 : Nat × HV := (40, hI ((p0.2.1).length : Int))
  refine bf hK (P4 [(39, slE eStr p0.2.1), E7, (41, hI 0)] [(38003, v4, .arr 2 24 [hI p0.1, .v (.slice none 0 0)])]) ?_
  refine AW.lpR h (by first | exact up_then | exact up_to) (S := Int × (List (List UInt8))) (V := Nat) (fun a v => (P4 [(39, slE eStr p0.2.1), E7, (41, hI a.1)] [(38003, v4, .arr 2 24 [hI p0.1, .ar 38099 v eStr.k 0 ((a.2).length)]), (38099, v, .arr eStr.k 9 (eStr.E a.2))])) ?_ (X := (List (List UInt8))) (W := Nat) (fun a v => (P4 [] [(38003, v4, .arr 2 24 [hI p0.1, .ar 38099 v eStr.k 0 ((a).length)]), (38099, v, .arr eStr.k 9 (eStr.E a))])) (fun a39 w40 h => ?_) (fun a5 w6 st7 h hr8=> ?_)
  ·refine to_bind (to_ownC 38099 38003 v4 2 1 eStr.k 9 24 rfl rfl (by decide) fun v38 => ?_)
   exact to_le (s' := (P4 [(39, slE eStr p0.2.1), E7, (41, hI 0)] [(38003, v4, .arr 2 24 [hI p0.1, .ar 38099 v38 eStr.k 0 ((([] : List (List UInt8))).length)]), (38099, v38, .arr eStr.k 9 (eStr.E ([] : List (List UInt8))))])) (AS.le_of ⟨rfl, rfl, rfl, rfl, rfl, trivial⟩ ⟨hle rfl (by first | rfl | simp only [List.length_set, sortI_len, sortS_len, sortW_len, List.length_reverse]), rfl, trivial⟩) ⟨v38, rfl⟩
  ·refine AW.to (to_fill 2 [(38099, w40, .arr eStr.k 9 (eStr.E a39))] (P4 [] [(38003, v4, .arr 2 24 [hI p0.1, slE eStr a39])]) ⟨⟨_, rfl, rfl⟩, ⟨_, rfl, rfl⟩, trivial⟩ ⟨.inr ⟨_, _, _, rfl, congrArg (AObj.arr 2 24) (congrArg (fun z : HV => [hI p0.1, z]) (frz_slE eStr (D := [(38099, w40, .arr eStr.k 9 (eStr.E a39))]) (l := a39) rfl fun _ _ => rfl).symm)⟩, trivial⟩ ⟨rfl, trivial⟩ ⟨rfl, trivial⟩ ?_)
   refine AW.rgs rfl fun K hK => bv rfl (v_fieldAddrF fo27_0 rfl) (bv rfl (v_loadF ty3 rfl (l_lit rfl rfl)) (bv rfl (v_fieldAddrP fo24_1 rfl rfl) (bv rfl (v_loadP ty22 rfl rfl (l_lit rfl rfl)) ?_)))
   obtain ⟨x41, h42, h⟩ := bS h
   refine b_op rfl (o_call rfl rfl rfl rfl (ACallD.pure0 (w_code_Make h42)) ?_)
   refine mv rfl rfl (bv rfl (v_extract rfl rfl) (bv rfl (v_extract rfl rfl) ?_))
   refine b_op rfl (o_store (cs := [hI x41.1.1, slE eStr x41.1.2]) (zs := [hI x41.1.1, slE eStr x41.1.2]) rfl rfl rfl ty24 rfl rfl rfl rfl rfl ?_)
   refine mv rfl rfl ?_
   refine bf hK (P4 [(8, hI x41.2)] [(38003, v4, .arr 2 24 [hI x41.1.1, slE eStr x41.1.2])]) ?_
   refine AW.seq ?_
   refine AW.seqJ h (S := Bool) (V := Unit) (fun a v => ⟨[(124, .bool a)], []⟩) (fun a43 w44 h => ?_) (fun k45 h => ?_)
   ·refine AW.cond rfl (fun hc => ?_) (fun hc => ?_)
    ·have h := ifT hc h
     refine AW.rgs rfl fun K hK => mv rfl rfl ?_
     refine bf hK ⟨[(2, hI 1)], []⟩ ?_
     obtain rfl := oi h
     exact AW.ret (ret_pure (.inr rfl) (resT rfl rfl) rfl trivial)
    have h := ifF (bF' hc) h
    refine AW.skip ?_
    refine AW.rgs rfl fun K hK => mv rfl rfl ?_
    refine bf hK ⟨[(2, hI 0)], []⟩ ?_
    obtain rfl := oi h
    exact AW.ret (ret_pure (.inr rfl) (resT rfl rfl) rfl trivial)
   refine AW.dg 14 follows rfl rfl fun K hK => ?_
   refine sm rfl rfl ?_
   refine sv rfl (v_bin rfl rfl b_neq) ?_
   refine sm rfl rfl ?_
   by_cases hg53 : x41.2 ≠ 0
   ·have h := ifT hg53 h
    refine s_F rfl rfl rfl rfl rfl (decide_eq_true hg53) ?_
    iterate 2 refine s_F rfl rfl rfl rfl rfl rfl ?_
    refine sv rfl (v_pickT rfl rfl rfl) ?_
    refine sm rfl rfl ?_
    iterate 5 refine s_F rfl rfl rfl rfl rfl rfl ?_
    refine sv rfl (v_pickT rfl rfl rfl) ?_
    refine s_nil ?_
    refine b_nil (hK _ ?_)
    exact to_L ⟨true, (), h, rfl⟩
   have h := ifF hg53 h
   refine s_T rfl rfl rfl rfl rfl (decide_eq_false hg53) (ops_val rfl (v_loadP ty24 rfl rfl (l_litA rfl (lb rfl) rfl)) ?_)
   obtain ⟨x46, h47, h⟩ := bS h
   refine s_T rfl rfl rfl rfl rfl rfl (ops_call rfl rfl rfl rfl (ACallD.pure0 (w_parser_prefix h47)) ?_)
   refine s_T rfl rfl rfl rfl rfl rfl (ops_val rfl (v_not rfl) ?_)
   refine sv rfl (v_pickF rfl rfl rfl) ?_
   refine sm rfl rfl ?_
   by_cases hg52 : (!x46) = true
   ·have h := ifT hg52 h
    refine s_F rfl rfl rfl rfl rfl hg52 ?_
    iterate 4 refine s_F rfl rfl rfl rfl rfl rfl ?_
    refine sv rfl (v_pickT rfl rfl rfl) ?_
    refine s_nil ?_
    refine b_nil (hK _ ?_)
    exact to_L ⟨true, (), h, rfl⟩
   have h := ifF hg52 h
   refine s_T rfl rfl rfl rfl rfl (bF hg52) (ops_val rfl (v_loadP ty24 rfl rfl (l_litA rfl (lb rfl) rfl)) ?_)
   obtain ⟨x48, h49, h⟩ := bS h
   refine s_T rfl rfl rfl rfl rfl rfl (ops_call rfl rfl rfl rfl (ACallD.pure0 (w_parser_build h49)) ?_)
   refine s_T rfl rfl rfl rfl rfl rfl (ops_val rfl (v_loadF ty27 rfl (l_litA rfl (lb rfl) rfl)) ?_)
   obtain ⟨x50, h51, h⟩ := bS h
   refine s_T rfl rfl rfl rfl rfl rfl (ops_call rfl rfl rfl rfl (ACallD.pure0 (w_parser_same h51)) ?_)
   refine s_T rfl rfl rfl rfl rfl rfl (ops_val rfl (v_not rfl) ?_)
   refine sv rfl (v_pickF rfl rfl rfl) ?_
   refine s_nil ?_
   refine b_nil (hK _ ?_)
   exact to_L ⟨!x50, (), h, rfl⟩
  refine AW.rgs rfl fun K hK => bv rfl (v_bin rfl rfl b_lss) ?_
  let O8 : Nat × Nat × AObj := (38003, v4, .arr 2 24 [hI p0.1, .ar 38099 w6 eStr.k 0 ((a5.2).length)])
  let O9 : Nat × Nat × AObj := (38099, w6, .arr eStr.k 9 (eStr.E a5.2))
  refine bf hK (P4 [(39, slE eStr p0.2.1), E7, (41, hI a5.1), (42, .bool (decide (a5.1 < ((p0.2.1).length : Int))))] [O8, O9]) ?_
  refine AW.cseq rfl (fun hc => ?_) (fun hc => ?_)
  ·obtain ⟨hc, h⟩ := cT hc h
   refine AW.skip ?_
   refine AW.seq (AW.block ?_)
   refine AW.rgs rfl fun K hK => mv rfl rfl ?_
   obtain ⟨x9, h10, h⟩ := bS h
   refine bv rfl (v_idxF ty22 es22 rfl rfl (idx_lt h10)) (bv rfl (v_loadF ty9 rfl (l_cell eStr h10 (o := 0) rfl rfl)) (mv rfl rfl (mv rfl rfl ?_)))
   refine bf hK (P4 [(4, hI a5.1), (5, .str x9), (39, slE eStr p0.2.1), E7, (41, hI a5.1)] [O8, O9]) ?_
   refine AW.seq ?_
   refine AW.seqJ h (S := Bool) (V := Unit) (fun a v => (P4 [(4, hI a5.1), (5, .str x9), (39, slE eStr p0.2.1), E7, (41, hI a5.1), (76, .bool a)] [O8, O9])) (fun a11 w12 h => ?_) (fun k13 h => ?_)
   ·refine AW.cond rfl (fun hc => ?_) (fun hc => ?_)
    ·have h := ifT hc h
     refine AW.rgs rfl fun K hK => mv rfl rfl ?_
     refine bf hK ⟨[(2, hI 1)], []⟩ ?_
     have h := hr8 _ h
     obtain rfl := oi h
     exact AW.ret (ret_pure (.inr rfl) (resT rfl rfl) rfl trivial)
    have h := ifF (bF' hc) h
    refine AW.skip ?_
    refine AW.rgs rfl fun K hK => bv rfl (v_fieldAddrF fo27_3 rfl) (bv rfl (v_loadF ty25 rfl (l_lit rfl rfl)) (mv rfl rfl ?_))
    obtain ⟨x14, h15, h⟩ := bS h
    refine bv rfl (v_idxF ty25 es25 rfl rfl (idx_lt h15)) (bv rfl (v_loadF ty39 rfl (l_cell (eSl eInt) h15 (o := 0) rfl rfl)) (bv rfl (v_lenF rfl rfl ty39 rfl) (mv rfl rfl ?_)))
    let E10 : Nat × HV := (82, hI ((x14).length : Int))
    refine bf hK (P4 [(5, .str x9), (39, slE eStr p0.2.1), E7, (41, hI a5.1), (81, slE eInt x14), E10, (83, hI 0)] [O8, O9]) ?_
    refine AW.lpX h (by first | exact up_then | exact up_to) (S := Int × (List (List UInt8))) (V := Nat) (fun a v => (P4 [(5, .str x9), (39, slE eStr p0.2.1), E7, (41, hI a5.1), (81, slE eInt x14), E10, (83, hI a.1)] [(38003, v4, .arr 2 24 [hI p0.1, .ar 38099 v eStr.k 0 ((a.2).length)]), (38099, v, .arr eStr.k 9 (eStr.E a.2))])) ?_ (X := (List (List UInt8))) (W := Nat) (fun a v => (P4 [(39, slE eStr p0.2.1), E7, (41, hI a5.1)] [(38003, v4, .arr 2 24 [hI p0.1, .ar 38099 v eStr.k 0 ((a).length)]), (38099, v, .arr eStr.k 9 (eStr.E a))])) (fun a29 w30 h => ?_) (fun a16 w17 st18 h => ?_)
    ·exact to_L ⟨w6, rfl⟩
    ·refine AW.rg rfl fun K hK => bv rfl (v_bin rfl rfl b_add) (mv rfl rfl ?_)
     refine b_nil (hK _ ?_)
     exact to_L ⟨(IntKind.wrap .i64 (a5.1 + 1), a29), w30, h, rfl⟩
    refine AW.rgs rfl fun K hK => bv rfl (v_bin rfl rfl b_lss) ?_
    let O11 : Nat × Nat × AObj := (38003, v4, .arr 2 24 [hI p0.1, .ar 38099 w17 eStr.k 0 ((a16.2).length)])
    let O12 : Nat × Nat × AObj := (38099, w17, .arr eStr.k 9 (eStr.E a16.2))
    refine bf hK (P4 [(5, .str x9), (39, slE eStr p0.2.1), E7, (41, hI a5.1), (81, slE eInt x14), E10, (83, hI a16.1), (84, .bool (decide (a16.1 < ((x14).length : Int))))] [O11, O12]) ?_
    refine AW.cseq rfl (fun hc => ?_) (fun hc => ?_)
    ·obtain ⟨hc, h⟩ := cT hc h
     refine AW.skip ?_
     refine AW.seqJ h (S := (List (List UInt8))) (V := Nat) (fun a v => (P4 [(5, .str x9), (39, slE eStr p0.2.1), E7, (41, hI a5.1), (81, slE eInt x14), E10, (83, hI a16.1)] [(38003, v4, .arr 2 24 [hI p0.1, .ar 38099 v eStr.k 0 ((a).length)]), (38099, v, .arr eStr.k 9 (eStr.E a))])) (fun a20 w21 h => ?_) (fun k22 h => ?_)
     ·refine AW.rg rfl fun K hK => bv rfl (v_bin rfl rfl b_add) (mv rfl rfl ?_)
      refine b_nil (hK _ ?_)
      exact to_L ⟨(IntKind.wrap .i64 (a16.1 + 1), a20), w21, h, rfl⟩
     refine AW.block ?_
     refine AW.rgs rfl fun K hK => mv rfl rfl ?_
     obtain ⟨x23, h24, h⟩ := bS h
     refine bv rfl (v_idxF ty39 es39 rfl rfl (idx_lt h24)) (bv rfl (v_loadF ty3 rfl (l_cell eInt h24 (o := 0) rfl rfl)) (mv rfl rfl (mv rfl rfl ?_)))
     refine bf hK (P4 [(5, .str x9), (6, hI a16.1), (7, hI x23), (39, slE eStr p0.2.1), E7, (41, hI a5.1), (81, slE eInt x14), E10, (83, hI a16.1)] [O11, O12]) ?_
     refine AW.rgs rfl fun K hK => mv rfl rfl (bv rfl (v_bin rfl rfl b_geq) ?_)
     refine bf hK (P4 [(5, .str x9), (6, hI a16.1), (39, slE eStr p0.2.1), E7, (41, hI a5.1), (81, slE eInt x14), E10, (83, hI a16.1), (89, .bool (decide (0 ≤ x23)))] [O11, O12]) ?_
     refine AW.cond rfl (fun hc => ?_) (fun hc => ?_)
     ·obtain ⟨hc, h⟩ := cT hc h
      refine AW.dg 9 follows rfl rfl fun K hK => ?_
      refine sv rfl (v_fieldAddrP fo24_1 rfl rfl) ?_
      refine sv rfl (v_loadP ty22 rfl rfl (l_lit rfl rfl)) ?_
      iterate 3 refine sm rfl rfl ?_
      refine sv rfl (v_bin rfl rfl b_add) ?_
      obtain ⟨h25, h⟩ := ifN h
      refine sv rfl (v_sliceS ty9 rfl rfl rfl h25) ?_
      obtain ⟨h26, h⟩ := ifN h
      refine sv rfl (v_bin rfl rfl (b_sadd h26)) ?_
      refine s_op rfl rfl (ops_bsl rfl rfl (as_of (cs := [.str (x9 ++ ((([48, 49, 50, 51, 52, 53, 54, 55, 56, 57, 97, 98, 99, 100, 101, 102] : List UInt8).take (IntKind.wrap .i64 (a16.1 + 1)).toNat).drop (a16.1).toNat))]) ty22 ty9 rfl rfl rfl rfl rfl) ?_)
      refine s_nil ?_
      obtain ⟨h28, h⟩ := ifN h
      refine b_op rfl (o_appE eStr (l := a16.2) (m := [x9 ++ ((([48, 49, 50, 51, 52, 53, 54, 55, 56, 57, 97, 98, 99, 100, 101, 102] : List UInt8).take (IntKind.wrap .i64 (a16.1 + 1)).toNat).drop (a16.1).toNat)]) rfl rfl ty22 ty22 ty9 rfl rfl rfl rfl rfl h28 (fun v27 => ?_))
      refine bv rfl (v_fieldAddrP fo24_1 rfl rfl) ?_
      refine b_op rfl (o_store (cs := [.ar 38099 v27 eStr.k 0 ((a16.2 ++ [x9 ++ ((([48, 49, 50, 51, 52, 53, 54, 55, 56, 57, 97, 98, 99, 100, 101, 102] : List UInt8).take (IntKind.wrap .i64 (a16.1 + 1)).toNat).drop (a16.1).toNat)]).length)]) (zs := [hI p0.1, .ar 38099 v27 eStr.k 0 ((a16.2 ++ [x9 ++ ((([48, 49, 50, 51, 52, 53, 54, 55, 56, 57, 97, 98, 99, 100, 101, 102] : List UInt8).take (IntKind.wrap .i64 (a16.1 + 1)).toNat).drop (a16.1).toNat)]).length)]) rfl rfl rfl ty22 rfl rfl rfl rfl rfl ?_)
      refine b_nil (hK _ ?_)
      exact to_L ⟨a16.2 ++ [x9 ++ ((([48, 49, 50, 51, 52, 53, 54, 55, 56, 57, 97, 98, 99, 100, 101, 102] : List UInt8).take (IntKind.wrap .i64 (a16.1 + 1)).toNat).drop (a16.1).toNat)], v27, h, rfl⟩
     obtain ⟨hc, h⟩ := cF hc h
     refine AW.skip ?_
     exact to_L ⟨a16.2, w17, h, rfl⟩
    obtain ⟨hc, h⟩ := cF hc h
    refine AW.exit ?_
    exact to_L ⟨a16.2, w17, h, rfl⟩
   refine AW.dg 31 follows rfl rfl fun K hK => ?_
   refine sv rfl (v_fieldAddrF fo27_2 rfl) ?_
   refine sv rfl (v_loadF ty25 rfl (l_lit rfl rfl)) ?_
   refine sm rfl rfl ?_
   obtain ⟨x31, h32, h⟩ := bS h
   refine sv rfl (v_idxF ty25 es25 rfl rfl (idx_lt h32)) ?_
   refine sv rfl (v_loadF ty39 rfl (l_cell (eSl eInt) h32 (o := 0) rfl rfl)) ?_
   refine sv rfl (v_lenF rfl rfl ty39 rfl) ?_
   refine sv rfl (v_fieldAddrF fo27_0 rfl) ?_
   refine sv rfl (v_loadF ty3 rfl (l_lit rfl rfl)) ?_
   refine sv rfl (v_bin rfl rfl b_neq) ?_
   refine sm rfl rfl ?_
   by_cases hg37 : ((x31).length : Int) ≠ p0.1
   ·have h := ifT hg37 h
    refine s_F rfl rfl rfl rfl rfl (decide_eq_true hg37) ?_
    iterate 8 refine s_F rfl rfl rfl rfl rfl rfl ?_
    refine sv rfl (v_pickT rfl rfl rfl) ?_
    refine sm rfl rfl ?_
    iterate 3 refine s_F rfl rfl rfl rfl rfl rfl ?_
    refine sv rfl (v_pickT rfl rfl rfl) ?_
    refine sm rfl rfl ?_
    iterate 4 refine s_F rfl rfl rfl rfl rfl rfl ?_
    refine sv rfl (v_pickT rfl rfl rfl) ?_
    refine s_nil ?_
    refine b_nil (hK _ ?_)
    exact to_L ⟨true, (), h, rfl⟩
   have h := ifF hg37 h
   refine s_T rfl rfl rfl rfl rfl (decide_eq_false hg37) (ops_val rfl (v_fieldAddrF fo27_3 rfl) ?_)
   refine s_T rfl rfl rfl rfl rfl rfl (ops_val rfl (v_loadF ty25 rfl (l_lit rfl rfl)) ?_)
   refine s_T rfl rfl rfl rfl rfl rfl (ops_val rfl (mv_val rfl rfl).2 ?_)
   obtain ⟨x33, h34, h⟩ := bS h
   refine s_T rfl rfl rfl rfl rfl rfl (ops_val rfl (v_idxF ty25 es25 rfl rfl (idx_lt h34)) ?_)
   refine s_T rfl rfl rfl rfl rfl rfl (ops_val rfl (v_loadF ty39 rfl (l_cell (eSl eInt) h34 (o := 0) rfl rfl)) ?_)
   refine s_T rfl rfl rfl rfl rfl rfl (ops_val rfl (v_lenF rfl rfl ty39 rfl) ?_)
   refine s_T rfl rfl rfl rfl rfl rfl (ops_val rfl (v_fieldAddrF fo27_0 rfl) ?_)
   refine s_T rfl rfl rfl rfl rfl rfl (ops_val rfl (v_loadF ty3 rfl (l_lit rfl rfl)) ?_)
   refine s_T rfl rfl rfl rfl rfl rfl (ops_val rfl (v_bin rfl rfl b_neq) ?_)
   refine sv rfl (v_pickF rfl rfl rfl) ?_
   refine sm rfl rfl ?_
   by_cases hg36 : ((x33).length : Int) ≠ p0.1
   ·have h := ifT hg36 h
    refine s_F rfl rfl rfl rfl rfl (decide_eq_true hg36) ?_
    iterate 2 refine s_F rfl rfl rfl rfl rfl rfl ?_
    refine sv rfl (v_pickT rfl rfl rfl) ?_
    refine sm rfl rfl ?_
    iterate 4 refine s_F rfl rfl rfl rfl rfl rfl ?_
    refine sv rfl (v_pickT rfl rfl rfl) ?_
    refine s_nil ?_
    refine b_nil (hK _ ?_)
    exact to_L ⟨true, (), h, rfl⟩
   have h := ifF hg36 h
   refine s_T rfl rfl rfl rfl rfl (decide_eq_false hg36) (ops_val rfl (mv_val rfl rfl).2 ?_)
   refine s_T rfl rfl rfl rfl rfl rfl (ops_val rfl (v_lenS rfl rfl ty9 rfl) ?_)
   refine s_T rfl rfl rfl rfl rfl rfl (ops_val rfl (v_bin rfl rfl b_geq) ?_)
   refine sv rfl (v_pickF rfl rfl rfl) ?_
   refine sm rfl rfl ?_
   by_cases hg35 : 32 ≤ ((x9).length : Int)
   ·have h := ifT hg35 h
    refine s_F rfl rfl rfl rfl rfl (decide_eq_true hg35) ?_
    iterate 3 refine s_F rfl rfl rfl rfl rfl rfl ?_
    refine sv rfl (v_pickT rfl rfl rfl) ?_
    refine s_nil ?_
    refine b_nil (hK _ ?_)
    exact to_L ⟨true, (), h, rfl⟩
   have h := ifF hg35 h
   refine s_T rfl rfl rfl rfl rfl (decide_eq_false hg35) (ops_val rfl (v_fieldAddrP fo24_1 rfl rfl) ?_)
   refine s_T rfl rfl rfl rfl rfl rfl (ops_val rfl (v_loadP ty22 rfl rfl (l_lit rfl rfl)) ?_)
   refine s_T rfl rfl rfl rfl rfl rfl (ops_val rfl (v_lenA rfl rfl ty22 rfl rfl) ?_)
   refine s_T rfl rfl rfl rfl rfl rfl (ops_val rfl (v_bin rfl rfl b_gtr) ?_)
   refine sv rfl (v_pickF rfl rfl rfl) ?_
   refine s_nil ?_
   refine b_nil (hK _ ?_)
   exact to_L ⟨decide (64 < (((a5.2).length : Nat) : Int)), (), h, rfl⟩
  obtain ⟨hc, h⟩ := cF hc h
  refine AW.exit ?_
  exact to_L ⟨a5.2, w6, h, rfl⟩
 refine AW.rg rfl fun K hK => bv rfl (v_fieldAddrF fo27_1 rfl) (bv rfl (v_loadF ty22 rfl (l_lit rfl rfl)) (bv rfl (v_lenF rfl rfl ty22 rfl) (bv rfl (v_fieldAddrF fo27_2 rfl) (bv rfl (v_loadF ty25 rfl (l_lit rfl rfl)) (bv rfl (v_lenF rfl rfl ty25 rfl) ?_)))))
 refine bv rfl (v_bin rfl rfl b_neq) (mv rfl rfl ?_)
 by_cases hg56 : ((p0.2.1).length : Int) ≠ ((p0.2.2.1).length : Int)
 ·have h := ifT hg56 h
  refine b_F rfl rfl rfl rfl rfl (decide_eq_true hg56) ?_
  iterate 6 refine b_F rfl rfl rfl rfl rfl rfl ?_
  refine bv rfl (v_pickT rfl rfl rfl) (mv rfl rfl ?_)
  iterate 3 refine b_F rfl rfl rfl rfl rfl rfl ?_
  refine bv rfl (v_pickT rfl rfl rfl) (mv rfl rfl ?_)
  iterate 3 refine b_F rfl rfl rfl rfl rfl rfl ?_
  refine bv rfl (v_pickT rfl rfl rfl) ?_
  refine b_nil (hK _ ?_)
  exact to_L ⟨true, (), h, rfl⟩
 have h := ifF hg56 h
 refine b_T rfl rfl rfl rfl (decide_eq_false hg56) (o_val rfl (v_fieldAddrF fo27_1 rfl) ?_)
 refine b_T rfl rfl rfl rfl rfl (o_val rfl (v_loadF ty22 rfl (l_lit rfl rfl)) ?_)
 refine b_T rfl rfl rfl rfl rfl (o_val rfl (v_lenF rfl rfl ty22 rfl) ?_)
 refine b_T rfl rfl rfl rfl rfl (o_val rfl (v_fieldAddrF fo27_3 rfl) ?_)
 refine b_T rfl rfl rfl rfl rfl (o_val rfl (v_loadF ty25 rfl (l_lit rfl rfl)) ?_)
 refine b_T rfl rfl rfl rfl rfl (o_val rfl (v_lenF rfl rfl ty25 rfl) ?_)
 refine b_T rfl rfl rfl rfl rfl (o_val rfl (v_bin rfl rfl b_neq) ?_)
 refine bv rfl (v_pickF rfl rfl rfl) (mv rfl rfl ?_)
 by_cases hg55 : ((p0.2.1).length : Int) ≠ ((p0.2.2.2).length : Int)
 ·have h := ifT hg55 h
  refine b_F rfl rfl rfl rfl rfl (decide_eq_true hg55) ?_
  iterate 2 refine b_F rfl rfl rfl rfl rfl rfl ?_
  refine bv rfl (v_pickT rfl rfl rfl) (mv rfl rfl ?_)
  iterate 3 refine b_F rfl rfl rfl rfl rfl rfl ?_
  refine bv rfl (v_pickT rfl rfl rfl) ?_
  refine b_nil (hK _ ?_)
  exact to_L ⟨true, (), h, rfl⟩
 have h := ifF hg55 h
 refine b_T rfl rfl rfl rfl (decide_eq_false hg55) (o_val rfl (v_fieldAddrF fo27_0 rfl) ?_)
 refine b_T rfl rfl rfl rfl rfl (o_val rfl (v_loadF ty3 rfl (l_lit rfl rfl)) ?_)
 refine b_T rfl rfl rfl rfl rfl (o_val rfl (v_bin rfl rfl b_lss) ?_)
 refine bv rfl (v_pickF rfl rfl rfl) (mv rfl rfl ?_)
 by_cases hg54 : p0.1 < 2
 ·have h := ifT hg54 h
  refine b_F rfl rfl rfl rfl rfl (decide_eq_true hg54) ?_
  iterate 2 refine b_F rfl rfl rfl rfl rfl rfl ?_
  refine bv rfl (v_pickT rfl rfl rfl) ?_
  refine b_nil (hK _ ?_)
  exact to_L ⟨true, (), h, rfl⟩
 have h := ifF hg54 h
 refine b_T rfl rfl rfl rfl (decide_eq_false hg54) (o_val rfl (v_fieldAddrF fo27_0 rfl) ?_)
 refine b_T rfl rfl rfl rfl rfl (o_val rfl (v_loadF ty3 rfl (l_lit rfl rfl)) ?_)
 refine b_T rfl rfl rfl rfl rfl (o_val rfl (v_bin rfl rfl b_gtr) ?_)
 refine bv rfl (v_pickF rfl rfl rfl) ?_
 refine b_nil (hK _ ?_)
 exact to_L ⟨decide (16 < p0.1), (), h, rfl⟩
theorem w_parser_reads {p0 : TLettersPrefixesNextEmit} {p1 : List UInt8} {r : Int} (h : m_parser_reads p0 p1 = some r) : Pure Tryd.prog 23 [.agg [hI p0.1, slE eStr p0.2.1, slE (eSl eInt) p0.2.2.1, slE (eSl eInt) p0.2.2.2], .str p1] (· = hI r) := by
 unfold m_parser_reads at h
 refine Pure.of_body Tryd.func23 rfl rfl (lb rfl) fun hf => ?_
 unfold Tryd.f23
 dsimp only [enumS, Nat.reduceAdd]
 refine AW.rgs rfl fun K hK => b_op rfl (o_box rfl rfl rfl ?_)
 refine mv rfl rfl ?_
 let E5 : Nat × HV := (2, .fptr [hI p0.1, slE eStr p0.2.1, slE (eSl eInt) p0.2.2.1, slE (eSl eInt) p0.2.2.2] 0)
 refine bf hK ⟨[(1, .str p1), E5], []⟩ ?_
 refine AW.seq ?_
 refine AW.rgs rfl fun K hK => bv rfl (v_loadF ty27 rfl (l_litA rfl (lb rfl) rfl)) ?_
 obtain ⟨x1, h2, h⟩ := bS h
 refine b_op rfl (o_call rfl rfl rfl rfl (ACallD.pure0 (w_parser_Check h2)) ?_)
 refine bv rfl (v_bin rfl rfl b_neq) ?_
 refine bf hK ⟨[(1, .str p1), E5, (7, .bool (decide (x1 ≠ 0)))], []⟩ ?_
 refine AW.cond rfl (fun hc => ?_) (fun hc => ?_)
 ·obtain ⟨hc, h⟩ := cT hc h
  refine AW.rgs rfl fun K hK => mv rfl rfl ?_
  refine bf hK ⟨[(4, hI 1)], []⟩ ?_
  obtain rfl := oi h
  exact AW.ret (ret_pure (.inr rfl) (resT rfl rfl) rfl trivial)
 obtain ⟨hc, h⟩ := cF hc h
 refine AW.skip ?_
 refine AW.rgs rfl fun K hK => bv rfl (v_fieldAddrF fo27_0 rfl) (bv rfl (v_loadF ty3 rfl (l_lit rfl rfl)) (mv rfl rfl ?_))
 obtain ⟨x3, h4, h⟩ := bS h
 refine b_op rfl (o_call rfl rfl rfl rfl (ACallD.pure0 (w_word_Check h4)) ?_)
 refine mv rfl rfl ?_
 refine bf hK ⟨[(4, hI x3)], []⟩ ?_
 obtain rfl := oi h
 exact AW.ret (ret_pure (.inr rfl) (resT rfl rfl) rfl trivial)
end Go.AW

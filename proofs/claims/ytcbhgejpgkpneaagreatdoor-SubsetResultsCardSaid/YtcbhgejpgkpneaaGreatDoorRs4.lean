import Derived.Test.YtcbhgejpgkpneaaGreatDoorRs3
namespace Go.AW
open Go
def setR (R : List (List Int)) (e : TFromLabelTo) : List (List Int) := R.set e.1.toNat ((R.getD e.1.toNat []).set e.2.1.toNat e.2.2)
def rowsK (g : TLabelsStatesEdges) (k : Nat) : List (List Int) := (g.2.2.take k).foldl setR (List.replicate g.2.1.toNat (List.replicate g.1.toNat g.2.1))
def cplOk (g : TLabelsStatesEdges) : Prop := (0 ≤ g.1 ∧ g.1 ≤ 1000) ∧ (0 ≤ g.2.1 ∧ g.2.1 ≤ 1000) ∧ g.2.2.length ≤ 100000 ∧ ∀ e ∈ g.2.2, (0 ≤ e.1 ∧ e.1 < g.2.1) ∧ (0 ≤ e.2.1 ∧ e.2.1 < g.1)
open Classical in
noncomputable def m_subset_Complete (g : TLabelsStatesEdges) : Option ((Int × List (List Int)) × List Int × Int) :=
 (m_graph_Deterministic g).bind fun x =>
 if x.2 ≠ 0 then some ((0, []), [], x.2)
 else if (!x.1) = true then some ((0, []), [], 8)
 else if cplOk g then (if (g.2.2.length : Int) = g.2.1 * g.1 then some ((g.1, rowsK g g.2.2.length), [], 0) else some ((g.1, rowsK g g.2.2.length ++ [List.replicate g.1.toNat g.2.1]), [g.2.1], 0))
 else none
end Go.AW
namespace Go.AW
open Go
set_option linter.unusedVariables false
abbrev TLettersNext := Int × (List (List (Int)))
noncomputable def m_ref12_Focus (p0 : TLabelsStatesEdges) : Option ((List (Int)) × Int × Bool × Int) :=
 (m_ref12_Build p0).bind fun x1 =>
 jp (fun (a4 : Bool) =>
   if a4 = true then
    some ([], 0, false, x1.2.2)
   else
    if 0 ≤ (x1.1.2.1 : Int) ∧ (x1.1.2.1 : Int) ≤ x1.1.2.1 ∧ (x1.1.2.1 : Int) * 24 ≤ 281474976710656 then
     if 0 ≤ (x1.1.2.1 : Int) ∧ (x1.1.2.1 : Int) ≤ x1.1.2.1 ∧ (x1.1.2.1 : Int) * 1 ≤ 281474976710656 then
      (idx (List.replicate (x1.1.2.1).toNat (false : Bool)) 0).bind fun x11 =>
      (loopW (S := Int × (List (List (Int))) × (List Bool)) (X := (List (List (Int)))) (fun a13 =>
          if a13.1 < ((x1.1.2.2).length : Int) then
           jp (fun (a17 : (List (List (Int))) × (List Bool)) =>
             some (Stp.next (IntKind.wrap .i64 (a13.1 + 1), a17.1, a17.2)))
             fun k19 =>
            (idx x1.1.2.2 a13.1).bind fun x20 =>
            (idx a13.2.2 x20.2.2).bind fun x23 =>
            (idx a13.2.2 x20.2.2).bind fun x25 =>
            if (!x25) = true then
             (idx a13.2.2 x20.2.2).bind fun x27 =>
             (idx a13.2.1 x20.1).bind fun x290701 =>
             (idx a13.2.1 x20.1).bind fun x290801 =>
             if fits 8 (([] : List Int).length + (x290801).length) then
              if fits 8 ((([] : List Int) ++ x290801 : List Int).length + ([x20.2.1]).length) then
               (idx a13.2.1 x20.2.2).bind fun x291401 =>
               k19 ((a13.2.1).set (x20.2.2).toNat ((([] : List Int) ++ x290801) ++ [x20.2.1]), (a13.2.2).set (x20.2.2).toNat true)
              else none
             else none
            else
             k19 (a13.2.1, a13.2.2)
          else
           some (Stp.exit a13.2.1)) (0, List.replicate (x1.1.2.1).toNat ([] : List (Int)), (List.replicate (x1.1.2.1).toNat (false : Bool)).set (0 : Int).toNat true)).bind fun a30 =>
      lpO (loopW (S := Int) (X := Ou (Unit) ((List (Int)) × Int × Bool × Int)) (fun a32 =>
          if a32 < ((x1.2.1).length : Int) then
           (idx x1.2.1 a32).bind fun x36 =>
           if ((x36).length : Int) = 1 then
            (idx a30 a32).bind fun x38 =>
            (idx a30 a32).bind fun x40 =>
            (idx x1.2.1 a32).bind fun x42 =>
            (idx x42 0).bind fun x44 =>
            some (Stp.exit (Ou.ret (x40, x44, true, 0)))
           else
            some (Stp.next (IntKind.wrap .i64 (a32 + 1)))
          else
           some (Stp.exit (Ou.go ()))) 0) (fun a46 =>
          some ([], 0, false, 0)) some
     else none
    else none)
   fun k6 =>
  if x1.2.2 ≠ 0 then
   k6 true
  else
   k6 (decide (x1.1.2.1 = 0))
noncomputable def m_ref01_trim (p0 : List UInt8) : Option ((List UInt8)) :=
 (loopW (S := (List UInt8)) (X := (List UInt8)) (fun a1 =>
     jp (fun (a5 : Bool) =>
       if a5 = true then
        if 0 ≤ (1 : Int) ∧ (1 : Int) ≤ ((a1).length : Int) ∧ ((a1).length : Int) ≤ (a1.length : Int) then
         some (Stp.next ((a1.take (((a1).length : Int)).toNat).drop (1 : Int).toNat))
        else none
       else
        some (Stp.exit a1))
       fun k7 =>
      if 0 < ((a1).length : Int) then
       (idx a1 0).bind fun x9 =>
       k7 (decide ((x9.toNat : Int) = 0))
      else
       k7 false) p0).bind fun a12 =>
 some a12
noncomputable def m_ref01_Canonical (p0 : TNegMag) : Option (TNegMag) :=
 jp (fun (a2 : Bool) =>
   if a2 = true then
    some p0
   else
    (m_ref01_trim p0.2).bind fun x5 =>
    jp (fun (a7 : Bool) =>
      some (a7, x5))
      fun k9 =>
     if p0.1 = true then
      k9 (decide (x5 ≠ ([] : List UInt8)))
     else
      k9 false)
   fun k4 =>
  if 0 < ((p0.2).length : Int) then
   (idx p0.2 0).bind fun x11 =>
   k4 (decide ((x11.toNat : Int) ≠ 0))
  else
   k4 false
noncomputable def m_ref01_small (p0 : List UInt8) : Option (Int) :=
 (loopW (S := Int × Int) (X := Int) (fun a1 =>
     if a1.2 < ((p0).length : Int) then
      (idx p0 a1.2).bind fun x5 =>
      some (Stp.next (IntKind.wrap .i64 (BitVec.ofInt (IntKind.bits .i64) (IntKind.wrap .i64 (a1.1 * 2 ^ (min (8 : Int).toNat (IntKind.bits .i64)))) ||| BitVec.ofInt (IntKind.bits .i64) (IntKind.wrap .i64 (x5.toNat : Int))).toNat, IntKind.wrap .i64 (a1.2 + 1)))
     else
      some (Stp.exit a1.1)) (0, 0)).bind fun a7 =>
 some a7
noncomputable def m_ref01_value (p0 : TNegMag) : Option (Int) :=
 if p0.1 = true then
  (m_ref01_small p0.2).bind fun x1 =>
  some (IntKind.wrap .i64 (0 - x1))
 else
  (m_ref01_small p0.2).bind fun x3 =>
  some x3
noncomputable def m_ref01_addMag (p0 : List UInt8) (p1 : List UInt8) : Option ((List UInt8)) :=
 if 0 ≤ (IntKind.wrap .i64 ((max ((p0).length : Int) ((p1).length : Int)) + 1) : Int) ∧ (IntKind.wrap .i64 ((max ((p0).length : Int) ((p1).length : Int)) + 1) : Int) ≤ IntKind.wrap .i64 ((max ((p0).length : Int) ((p1).length : Int)) + 1) ∧ (IntKind.wrap .i64 ((max ((p0).length : Int) ((p1).length : Int)) + 1) : Int) * 1 ≤ 281474976710656 then
  (loopW (S := Int × Int × (List Int)) (X := (List Int)) (fun a3 =>
      if a3.2.1 ≤ (IntKind.wrap .i64 ((max ((p0).length : Int) ((p1).length : Int)) + 1)) then
       jp (fun (a7 : Int) =>
         jp (fun (a10 : Int) =>
           (idx a3.2.2 (IntKind.wrap .i64 ((IntKind.wrap .i64 ((max ((p0).length : Int) ((p1).length : Int)) + 1)) - a3.2.1))).bind fun x13 =>
           some (Stp.next (Int.fdiv a10 (2 ^ (min (8 : Int).toNat (IntKind.bits .i64))), IntKind.wrap .i64 (a3.2.1 + 1), (a3.2.2).set (IntKind.wrap .i64 ((IntKind.wrap .i64 ((max ((p0).length : Int) ((p1).length : Int)) + 1)) - a3.2.1)).toNat (IntKind.wrap .u8 a10))))
           fun k12 =>
          if a3.2.1 ≤ ((p1).length : Int) then
           (idx p1 (IntKind.wrap .i64 (((p1).length : Int) - a3.2.1))).bind fun x15 =>
           k12 (IntKind.wrap .i64 (a7 + (IntKind.wrap .i64 (x15.toNat : Int))))
          else
           k12 a7)
         fun k9 =>
        if a3.2.1 ≤ ((p0).length : Int) then
         (idx p0 (IntKind.wrap .i64 (((p0).length : Int) - a3.2.1))).bind fun x17 =>
         k9 (IntKind.wrap .i64 (a3.1 + (IntKind.wrap .i64 (x17.toNat : Int))))
        else
         k9 a3.1
      else
       some (Stp.exit a3.2.2)) (0, 1, List.replicate (IntKind.wrap .i64 ((max ((p0).length : Int) ((p1).length : Int)) + 1)).toNat (0 : Int))).bind fun a19 =>
  (m_ref01_trim (a19.map fun (n : Int) => UInt8.ofNat n.toNat)).bind fun x21 =>
  some x21
 else none
noncomputable def m_ref01_Add (p0 : TNegMag) (p1 : TNegMag) : Option (TNegMag) :=
 (m_ref01_Canonical p0).bind fun x4 =>
 (m_ref01_Canonical p1).bind fun x6 =>
 jp (fun (a8 : Bool) =>
   if a8 = true then
    (m_ref01_value x4).bind fun x11 =>
    (m_ref01_value x6).bind fun x13 =>
    (m_ref01_Of (IntKind.wrap .i64 (x11 + x13))).bind fun x15 =>
    some x15
   else
    if (x4.1 == x6.1) = true then
     (m_ref01_addMag x4.2 x6.2).bind fun x17 =>
     some (x4.1, x17)
    else
     (m_ref01_compareMagN x4.2 x6.2).bind fun x19 =>
     if x19 = 0 then
      some (false, ([] : List UInt8))
     else
      if 0 < x19 then
       (m_ref01_subMagN x4.2 x6.2).bind fun x21 =>
       some (x4.1, x21)
      else
       (m_ref01_subMagN x6.2 x4.2).bind fun x23 =>
       some (x6.1, x23))
   fun k10 =>
  if ((x4.2).length : Int) < 8 then
   k10 (decide (((x6.2).length : Int) < 8))
  else
   k10 false
noncomputable def m_ref12_Count (p0 : TLabelsStatesEdges) (p1 : Int) : Option (TNegMag × Int) :=
 (m_ref09_Check p0).bind fun x2 =>
 if x2 ≠ 0 then
  some ((false, ([] : List UInt8)), 1)
 else
  jp (fun (a4 : Bool) =>
    if a4 = true then
     some ((false, ([] : List UInt8)), 2)
    else
     (m_ref12_Build p0).bind fun x7 =>
     jp (fun (a10 : Bool) =>
       if a10 = true then
        some ((false, ([] : List UInt8)), x7.2.2)
       else
        if 0 ≤ (x7.1.2.1 : Int) ∧ (x7.1.2.1 : Int) ≤ x7.1.2.1 ∧ (x7.1.2.1 : Int) * 24 ≤ 281474976710656 then
         (m_ref01_Of 1).bind fun x15 =>
         (idx (List.replicate (x7.1.2.1).toNat ((false, ([] : List UInt8)) : TNegMag)) 0).bind fun x17 =>
         (loopW (S := (List TNegMag) × Int) (X := (List TNegMag)) (fun a19 =>
             if a19.2 < p1 then
              if 0 ≤ (x7.1.2.1 : Int) ∧ (x7.1.2.1 : Int) ≤ x7.1.2.1 ∧ (x7.1.2.1 : Int) * 24 ≤ 281474976710656 then
               (loopW (S := Int × (List TNegMag)) (X := (List TNegMag)) (fun a25 =>
                   if a25.1 < ((x7.1.2.2).length : Int) then
                    (idx x7.1.2.2 a25.1).bind fun x29 =>
                    (idx a25.2 x29.2.2).bind fun x32 =>
                    (idx a25.2 x29.2.2).bind fun x34 =>
                    (idx a19.1 x29.1).bind fun x36 =>
                    (m_ref01_Add x34 x36).bind fun x38 =>
                    (idx a25.2 x29.2.2).bind fun x40 =>
                    some (Stp.next (IntKind.wrap .i64 (a25.1 + 1), (a25.2).set (x29.2.2).toNat x38))
                   else
                    some (Stp.exit a25.2)) (0, List.replicate (x7.1.2.1).toNat ((false, ([] : List UInt8)) : TNegMag))).bind fun a42 =>
               some (Stp.next (a42, IntKind.wrap .i64 (a19.2 + 1)))
              else none
             else
              some (Stp.exit a19.1)) ((List.replicate (x7.1.2.1).toNat ((false, ([] : List UInt8)) : TNegMag)).set (0 : Int).toNat x15, 0)).bind fun a44 =>
         (loopW (S := Int × Bool × (List UInt8)) (X := Bool × (List UInt8)) (fun a47 =>
             if a47.1 < ((a44).length : Int) then
              (idx a44 a47.1).bind fun x51 =>
              (m_ref01_Add (a47.2.1, a47.2.2) x51).bind fun x53 =>
              some (Stp.next (IntKind.wrap .i64 (a47.1 + 1), x53.1, x53.2))
             else
              some (Stp.exit (a47.2.1, a47.2.2))) (0, false, ([] : List UInt8))).bind fun a55 =>
         some ((a55.1, a55.2), 0)
        else none)
       fun k12 =>
      if x7.2.2 ≠ 0 then
       k12 true
      else
       k12 (decide (x7.1.2.1 = 0)))
    fun k6 =>
   if p1 < 0 then
    k6 true
   else
    k6 (decide (4096 < p1))
noncomputable def m_ref09_Deterministic (p0 : TLabelsStatesEdges) : Option (Bool × Int) :=
 (m_ref09_Check p0).bind fun x1 =>
 if x1 ≠ 0 then
  some (false, 1)
 else
  lpO (loopW (S := Int) (X := Ou (Unit) (Bool × Int)) (fun a3 =>
      if a3 < ((p0.2.2).length : Int) then
       jp (fun (a7 : Bool) =>
         if a7 = true then
          some (Stp.exit (Ou.ret (false, 0)))
         else
          some (Stp.next (IntKind.wrap .i64 (a3 + 1))))
         fun k9 =>
        (idx p0.2.2 a3).bind fun x10 =>
        (idx p0.2.2 (IntKind.wrap .i64 (a3 - 1))).bind fun x12 =>
        if x10.1 = x12.1 then
         (idx p0.2.2 a3).bind fun x14 =>
         (idx p0.2.2 (IntKind.wrap .i64 (a3 - 1))).bind fun x16 =>
         k9 (decide (x14.2.1 = x16.2.1))
        else
         k9 false
      else
       some (Stp.exit (Ou.go ()))) 1) (fun a19 =>
      some (true, 0)) some
noncomputable def m_ref12_Complete (p0 : TLabelsStatesEdges) : Option (TLettersNext × (List (Int)) × Int) :=
 (m_ref09_Check p0).bind fun x2 =>
 if x2 ≠ 0 then
  some ((0, []), [], 1)
 else
  (m_ref09_Deterministic p0).bind fun x4 =>
  if (!x4.1) = true then
   some ((0, []), [], 8)
  else
   (loopW (S := Int × (List (List (Int)))) (X := (List (List (Int)))) (fun a7 =>
       if a7.1 < p0.2.1 then
        if 0 ≤ (p0.1 : Int) ∧ (p0.1 : Int) ≤ p0.1 ∧ (p0.1 : Int) * 8 ≤ 281474976710656 then
         (loopW (S := Int × (List Int)) (X := (List Int)) (fun a13 =>
             if a13.1 < p0.1 then
              (idx a13.2 a13.1).bind fun x17 =>
              some (Stp.next (IntKind.wrap .i64 (a13.1 + 1), (a13.2).set (a13.1).toNat p0.2.1))
             else
              some (Stp.exit a13.2)) (0, List.replicate (p0.1).toNat (0 : Int))).bind fun a19 =>
         (loopW (S := Int × (List Int)) (X := (List Int)) (fun a21 =>
             if a21.1 < ((p0.2.2).length : Int) then
              jp (fun (a25 : (List Int)) =>
                some (Stp.next (IntKind.wrap .i64 (a21.1 + 1), a25)))
                fun k27 =>
               (idx p0.2.2 a21.1).bind fun x28 =>
               if x28.1 = a7.1 then
                (idx p0.2.2 a21.1).bind fun x30 =>
                (idx p0.2.2 a21.1).bind fun x32 =>
                (idx a21.2 x30.2.1).bind fun x34 =>
                k27 ((a21.2).set (x30.2.1).toNat x32.2.2)
               else
                k27 a21.2
             else
              some (Stp.exit a21.2)) (0, a19)).bind fun a36 =>
         if fits 24 ((a7.2 : List (List (Int))).length + ([a36]).length) then
          some (Stp.next (IntKind.wrap .i64 (a7.1 + 1), a7.2 ++ [a36]))
         else none
        else none
       else
        some (Stp.exit a7.2)) (0, ([] : List (List (Int))))).bind fun a41 =>
   if ((p0.2.2).length : Int) = (IntKind.wrap .i64 (p0.2.1 * p0.1)) then
    some ((p0.1, a41), [], 0)
   else
    if 0 ≤ (p0.1 : Int) ∧ (p0.1 : Int) ≤ p0.1 ∧ (p0.1 : Int) * 8 ≤ 281474976710656 then
     (loopW (S := Int × (List Int)) (X := (List Int)) (fun a45 =>
         if a45.1 < p0.1 then
          (idx a45.2 a45.1).bind fun x49 =>
          some (Stp.next (IntKind.wrap .i64 (a45.1 + 1), (a45.2).set (a45.1).toNat p0.2.1))
         else
          some (Stp.exit a45.2)) (0, List.replicate (p0.1).toNat (0 : Int))).bind fun a51 =>
     if fits 24 ((a41 : List (List (Int))).length + ([a51]).length) then
      some ((p0.1, a41 ++ [a51]), [p0.2.1], 0)
     else none
    else none
noncomputable def m_ref12_SameAutomaton (p0 : TLettersNext) (p1 : TLettersNext) : Option (Bool) :=
 jp (fun (a1 : Bool) =>
   some a1)
   fun k3 =>
  if p0.1 = p1.1 then
   (m_ref12_SameSets p0.2 p1.2).bind fun x4 =>
   k3 x4
  else
   k3 false
noncomputable def m_law12_SubsetResults (p0 : TLabelsStatesEdges) (p1 : Int) : Option (Bool) :=
 jp (fun (a1 : Bool) =>
   if a1 = true then
    (m_law12_awake).bind fun x4 =>
    some x4
   else
    (m_subset_Focus p0).bind fun x6 =>
    (m_ref12_Focus p0).bind fun x8 =>
    (m_subset_Count p0 p1).bind fun x10 =>
    (m_ref12_Count p0 p1).bind fun x13 =>
    (m_subset_Complete p0).bind fun x16 =>
    (m_ref12_Complete p0).bind fun x19 =>
    jp (fun (a22 : Bool) =>
      some a22)
      fun k24 =>
     (m_ref12_Same x6.1 x8.1).bind fun x25 =>
     if x25 = true then
      if x6.2.1 = x8.2.1 then
       if (x6.2.2.1 == x8.2.2.1) = true then
        if x6.2.2.2 = x8.2.2.2 then
         if x10.1 = x13.1 then
          if x10.2 = x13.2 then
           (m_ref12_SameAutomaton x16.1 x19.1).bind fun x27 =>
           if x27 = true then
            (m_ref12_Same x16.2.1 x19.2.1).bind fun x29 =>
            if x29 = true then
             if x16.2.2 = x19.2.2 then
              (m_law12_awake).bind fun x31 =>
              k24 x31
             else
              k24 false
            else
             k24 false
           else
            k24 false
          else
           k24 false
         else
          k24 false
        else
         k24 false
       else
        k24 false
      else
       k24 false
     else
      k24 false)
   fun k3 =>
  (m_law12_great p0).bind fun x42 =>
  if x42 = true then
   k3 true
  else
   if 40 < p1 then
    k3 (decide (p1 ≤ 4096))
   else
    k3 false
end Go.AW
namespace Go.AW
open Go Go.Proofs
set_option maxHeartbeats 1600000
set_option maxRecDepth 100000
set_option linter.unusedVariables false
theorem w_graph_list {p0 : TFromLabelTo} {r : (List (Int))} (h : m_graph_list p0 = some r) : Pure Tryz.prog 34 [.agg [hI p0.1, hI p0.2.1, hI p0.2.2]] (· = slE eInt r) := by
 unfold m_graph_list at h
 refine Pure.of_body Tryz.func34 rfl rfl (lb rfl) fun hf => ?_
 unfold Tryz.f34
 dsimp only [enumS, Nat.reduceAdd]
 refine AW.rgs rfl fun K hK => b_op rfl (o_box rfl rfl rfl ?_)
 refine mv rfl rfl ?_
 refine bf hK ⟨[(1, .fptr [hI p0.1, hI p0.2.1, hI p0.2.2] 0)], []⟩ ?_
 refine AW.rgs rfl fun K hK => bv rfl (v_fieldAddrF fo49_0 rfl) (bv rfl (v_loadF ty3 rfl (l_lit rfl rfl)) (bv rfl (v_fieldAddrF fo49_1 rfl) (bv rfl (v_loadF ty3 rfl (l_lit rfl rfl)) (bv rfl (v_fieldAddrF fo49_2 rfl) (bv rfl (v_loadF ty3 rfl (l_lit rfl rfl)) ?_)))))
 refine b_op rfl (o_bsl rfl rfl (as_of (cs := [hI p0.1, hI p0.2.1, hI p0.2.2]) ty27 ty3 rfl rfl rfl rfl rfl) ?_)
 refine mv rfl rfl ?_
 refine bf hK ⟨[(2, slE eInt [p0.1, p0.2.1, p0.2.2])], []⟩ ?_
 refine AW.ret ?_
 have h := Option.some.inj h
 subst h
 exact ret_pure (hs := [slE eInt [p0.1, p0.2.1, p0.2.2]]) (.inr rfl) (resT rfl rfl) rfl (clean_slE fun _ _ => ⟨trivial, trivial⟩)
theorem w_cmp_isNaN_int {p0 : Int} {r : Bool} (h : m_cmp_isNaN_int p0 = some r) : Pure Tryz.prog 73 [hI p0] (· = HV.bool r) := by
 unfold m_cmp_isNaN_int at h
 refine Pure.of_body Tryz.func73 rfl rfl (lb rfl) fun hf => ?_
 unfold Tryz.f73
 dsimp only [enumS, Nat.reduceAdd]
 refine AW.rgs rfl fun K hK => mv rfl rfl ?_
 refine bf hK ⟨[(0, hI p0)], []⟩ ?_
 refine AW.rgs rfl fun K hK => mv rfl rfl (mv rfl rfl (bv rfl (v_bin rfl rfl b_neq) (mv rfl rfl ?_)))
 refine bf hK ⟨[(2, .bool (decide (p0 ≠ p0)))], []⟩ ?_
 refine AW.ret ?_
 have h := Option.some.inj h
 subst h
 exact ret_pure (hs := [.bool (decide (p0 ≠ p0))]) (.inr rfl) (resT rfl rfl) rfl trivial
theorem w_cmp_Compare_int {p0 : Int} {p1 : Int} {r : Int} (h : m_cmp_Compare_int p0 p1 = some r) : Pure Tryz.prog 64 [hI p0, hI p1] (· = hI r) := by
 unfold m_cmp_Compare_int at h
 refine Pure.of_body Tryz.func64 rfl rfl (lb rfl) fun hf => ?_
 unfold Tryz.f64
 dsimp only [enumS, Nat.reduceAdd]
 refine AW.rgs rfl fun K hK => mv rfl rfl ?_
 let P1 : ASf := fun t H => ⟨(0, hI p0) :: (1, hI p1) :: t, H⟩
 refine bf hK (P1 [] []) ?_
 refine AW.rgs rfl fun K hK => mv rfl rfl ?_
 obtain ⟨x1, h2, h⟩ := bS h
 refine b_op rfl (o_call rfl rfl rfl rfl (ACallD.pure0 (w_cmp_isNaN_int h2)) ?_)
 refine mv rfl rfl ?_
 refine bf hK (P1 [(5, .bool x1)] []) ?_
 refine AW.rgs rfl fun K hK => mv rfl rfl ?_
 obtain ⟨x3, h4, h⟩ := bS h
 refine b_op rfl (o_call rfl rfl rfl rfl (ACallD.pure0 (w_cmp_isNaN_int h4)) ?_)
 refine mv rfl rfl ?_
 refine bf hK (P1 [(5, .bool x1), (6, .bool x3)] []) ?_
 refine AW.seq ?_
 refine AW.rgs rfl fun K hK => mv rfl rfl ?_
 refine bf hK (P1 [(6, .bool x3), (11, .bool x1)] []) ?_
 refine AW.cond rfl (fun hc => ?_) (fun hc => ?_)
 ·have h := ifT hc h
  refine AW.seq ?_
  refine AW.rgs rfl fun K hK => mv rfl rfl ?_
  refine bf hK ⟨[(12, .bool x3)], []⟩ ?_
  refine AW.cond rfl (fun hc => ?_) (fun hc => ?_)
  ·have h := ifT hc h
   refine AW.rgs rfl fun K hK => mv rfl rfl ?_
   refine bf hK ⟨[(4, hI 0)], []⟩ ?_
   refine AW.ret ?_
   have h := Option.some.inj h
   subst h
   exact ret_pure (hs := [hI 0]) (.inr rfl) (resT rfl rfl) rfl trivial
  have h := ifF (bF' hc) h
  refine AW.skip ?_
  refine AW.rgs rfl fun K hK => mv rfl rfl ?_
  refine bf hK ⟨[(4, hI (-1))], []⟩ ?_
  refine AW.ret ?_
  have h := Option.some.inj h
  subst h
  exact ret_pure (hs := [hI (-1)]) (.inr rfl) (resT rfl rfl) rfl trivial
 have h := ifF (bF' hc) h
 refine AW.skip ?_
 refine AW.seq ?_
 refine AW.rgs rfl fun K hK => mv rfl rfl ?_
 refine bf hK (P1 [(13, .bool x3)] []) ?_
 refine AW.cond rfl (fun hc => ?_) (fun hc => ?_)
 ·have h := ifT hc h
  refine AW.rgs rfl fun K hK => mv rfl rfl ?_
  refine bf hK ⟨[(4, hI 1)], []⟩ ?_
  refine AW.ret ?_
  have h := Option.some.inj h
  subst h
  exact ret_pure (hs := [hI 1]) (.inr rfl) (resT rfl rfl) rfl trivial
 have h := ifF (bF' hc) h
 refine AW.skip ?_
 refine AW.seq ?_
 refine AW.rgs rfl fun K hK => mv rfl rfl (mv rfl rfl (bv rfl (v_bin rfl rfl b_lss) ?_))
 refine bf hK (P1 [(16, .bool (decide (p0 < p1)))] []) ?_
 refine AW.cond rfl (fun hc => ?_) (fun hc => ?_)
 ·obtain ⟨hc, h⟩ := cT hc h
  refine AW.rgs rfl fun K hK => mv rfl rfl ?_
  refine bf hK ⟨[(4, hI (-1))], []⟩ ?_
  refine AW.ret ?_
  have h := Option.some.inj h
  subst h
  exact ret_pure (hs := [hI (-1)]) (.inr rfl) (resT rfl rfl) rfl trivial
 obtain ⟨hc, h⟩ := cF hc h
 refine AW.skip ?_
 refine AW.seq ?_
 refine AW.rgs rfl fun K hK => mv rfl rfl (mv rfl rfl (bv rfl (v_bin rfl rfl b_gtr) ?_))
 refine bf hK ⟨[(19, .bool (decide (p1 < p0)))], []⟩ ?_
 refine AW.cond rfl (fun hc => ?_) (fun hc => ?_)
 ·obtain ⟨hc, h⟩ := cT hc h
  refine AW.rgs rfl fun K hK => mv rfl rfl ?_
  refine bf hK ⟨[(4, hI 1)], []⟩ ?_
  refine AW.ret ?_
  have h := Option.some.inj h
  subst h
  exact ret_pure (hs := [hI 1]) (.inr rfl) (resT rfl rfl) rfl trivial
 obtain ⟨hc, h⟩ := cF hc h
 refine AW.skip ?_
 refine AW.rgs rfl fun K hK => mv rfl rfl ?_
 refine bf hK ⟨[(4, hI 0)], []⟩ ?_
 refine AW.ret ?_
 have h := Option.some.inj h
 subst h
 exact ret_pure (hs := [hI 0]) (.inr rfl) (resT rfl rfl) rfl trivial
theorem w_slices_Compare_Lint_int {p0 : List (Int)} {p1 : List (Int)} {r : Int} (h : m_slices_Compare_Lint_int p0 p1 = some r) : Pure Tryz.prog 52 [slE eInt p0, slE eInt p1] (· = hI r) := by
 unfold m_slices_Compare_Lint_int at h
 refine Pure.of_body Tryz.func52 rfl rfl (lb rfl) fun hf => ?_
 unfold Tryz.f52
 dsimp only [enumS, Nat.reduceAdd]
 refine AW.rgs rfl fun K hK => mv rfl rfl ?_
 let P2 : ASf := fun t H => ⟨(0, slE eInt p0) :: (1, slE eInt p1) :: t, H⟩
 refine bf hK (P2 [] []) ?_
 refine AW.seq ?_
 refine AW.rgs rfl fun K hK => mv rfl rfl (bv rfl (v_lenF rfl rfl ty27 rfl) (mv rfl rfl ?_))
 let E1 : Nat × HV := (10, hI ((p0).length : Int))
 refine bf hK (P2 [(9, slE eInt p0), E1, (11, hI 0)] []) ?_
 refine AW.lpR h (by first | exact up_then | exact up_to) (S := Int) (V := Unit) (fun a v => (P2 [(9, slE eInt p0), E1, (11, hI a)] [])) ?_ (X := Unit) (W := Unit) (fun a v => (P2 [] [])) (fun a11 w12 h => ?_) (fun a1 w2 st3 h hr4=> ?_)
 ·exact to_L ⟨(), rfl⟩
 ·refine AW.seq ?_
  refine AW.rgs rfl fun K hK => mv rfl rfl (bv rfl (v_lenF rfl rfl ty27 rfl) (mv rfl rfl (bv rfl (v_lenF rfl rfl ty27 rfl) (bv rfl (v_bin rfl rfl b_lss) ?_))))
  refine bf hK ⟨[(35, .bool (decide (((p0).length : Int) < ((p1).length : Int))))], []⟩ ?_
  refine AW.cond rfl (fun hc => ?_) (fun hc => ?_)
  ·obtain ⟨hc, h⟩ := cT hc h
   refine AW.rgs rfl fun K hK => mv rfl rfl ?_
   refine bf hK ⟨[(4, hI (-1))], []⟩ ?_
   refine AW.ret ?_
   have h := Option.some.inj h
   subst h
   exact ret_pure (hs := [hI (-1)]) (.inr rfl) (resT rfl rfl) rfl trivial
  obtain ⟨hc, h⟩ := cF hc h
  refine AW.skip ?_
  refine AW.rgs rfl fun K hK => mv rfl rfl ?_
  refine bf hK ⟨[(4, hI 0)], []⟩ ?_
  refine AW.ret ?_
  have h := Option.some.inj h
  subst h
  exact ret_pure (hs := [hI 0]) (.inr rfl) (resT rfl rfl) rfl trivial
 refine AW.rgs rfl fun K hK => bv rfl (v_bin rfl rfl b_lss) ?_
 refine bf hK (P2 [(9, slE eInt p0), E1, (11, hI a1), (12, .bool (decide (a1 < ((p0).length : Int))))] []) ?_
 refine AW.cseq rfl (fun hc => ?_) (fun hc => ?_)
 ·obtain ⟨hc, h⟩ := cT hc h
  refine AW.skip ?_
  refine AW.seq (AW.block ?_)
  refine AW.rgs rfl fun K hK => mv rfl rfl ?_
  obtain ⟨x5, h6, h⟩ := bS h
  refine bv rfl (v_idxF ty27 es27 rfl rfl (idx_lt h6)) (bv rfl (v_loadF ty3 rfl (l_cell eInt h6 (o := 0) rfl rfl)) (mv rfl rfl (mv rfl rfl ?_)))
  refine bf hK (P2 [(5, hI a1), (6, hI x5), (9, slE eInt p0), E1, (11, hI a1)] []) ?_
  refine AW.seq ?_
  refine AW.rgs rfl fun K hK => mv rfl rfl (mv rfl rfl (bv rfl (v_lenF rfl rfl ty27 rfl) (bv rfl (v_bin rfl rfl b_geq) ?_)))
  refine bf hK (P2 [(5, hI a1), (6, hI x5), (9, slE eInt p0), E1, (11, hI a1), (19, .bool (decide (((p1).length : Int) ≤ a1)))] []) ?_
  refine AW.cond rfl (fun hc => ?_) (fun hc => ?_)
  ·obtain ⟨hc, h⟩ := cT hc h
   refine AW.rgs rfl fun K hK => mv rfl rfl ?_
   refine bf hK ⟨[(4, hI 1)], []⟩ ?_
   have h := hr4 _ h
   refine AW.ret ?_
   have h := Option.some.inj h
   subst h
   exact ret_pure (hs := [hI 1]) (.inr rfl) (resT rfl rfl) rfl trivial
  obtain ⟨hc, h⟩ := cF hc h
  refine AW.skip ?_
  refine AW.rgs rfl fun K hK => mv rfl rfl (mv rfl rfl ?_)
  obtain ⟨x7, h8, h⟩ := bS h
  refine bv rfl (v_idxF ty27 es27 rfl rfl (idx_lt h8)) (bv rfl (v_loadF ty3 rfl (l_cell eInt h8 (o := 0) rfl rfl)) (mv rfl rfl ?_))
  refine bf hK (P2 [(6, hI x5), (7, hI x7), (9, slE eInt p0), E1, (11, hI a1)] []) ?_
  refine AW.rgs rfl fun K hK => mv rfl rfl (mv rfl rfl ?_)
  obtain ⟨x9, h10, h⟩ := bS h
  refine b_op rfl (o_call rfl rfl rfl rfl (ACallD.pure0 (w_cmp_Compare_int h10)) ?_)
  refine mv rfl rfl ?_
  refine bf hK (P2 [(8, hI x9), (9, slE eInt p0), E1, (11, hI a1)] []) ?_
  refine AW.rgs rfl fun K hK => mv rfl rfl (bv rfl (v_bin rfl rfl b_neq) ?_)
  refine bf hK (P2 [(8, hI x9), (9, slE eInt p0), E1, (11, hI a1), (28, .bool (decide (x9 ≠ 0)))] []) ?_
  refine AW.cond rfl (fun hc => ?_) (fun hc => ?_)
  ·obtain ⟨hc, h⟩ := cT hc h
   refine AW.rgs rfl fun K hK => mv rfl rfl (mv rfl rfl ?_)
   refine bf hK ⟨[(4, hI x9)], []⟩ ?_
   have h := hr4 _ h
   refine AW.ret ?_
   have h := Option.some.inj h
   subst h
   exact ret_pure (hs := [hI x9]) (.inr rfl) (resT rfl rfl) rfl trivial
  obtain ⟨hc, h⟩ := cF hc h
  refine AW.skip ?_
  refine AW.rg rfl fun K hK => bv rfl (v_bin rfl rfl b_add) (mv rfl rfl ?_)
  refine b_nil (hK _ ?_)
  exact to_L ⟨IntKind.wrap .i64 (a1 + 1), (), h, rfl⟩
 obtain ⟨hc, h⟩ := cF hc h
 refine AW.exit ?_
 exact to_L ⟨(), (), h, rfl⟩
theorem w_graph_by_api_Edge_1 {p0 : TFromLabelTo} {p1 : TFromLabelTo} {r : Int} (h : m_graph_by_api_Edge_1 p0 p1 = some r) : Pure Tryz.prog 51 [.agg [hI p0.1, hI p0.2.1, hI p0.2.2], .agg [hI p1.1, hI p1.2.1, hI p1.2.2], .fptr [.fn (.func 34) [] []] 0] (· = hI r) := by
 unfold m_graph_by_api_Edge_1 at h
 refine Pure.of_body Tryz.func51 rfl rfl (lb rfl) fun hf => ?_
 unfold Tryz.f51
 dsimp only [enumS, Nat.reduceAdd]
 refine AW.rgs rfl fun K hK => b_op rfl (o_box rfl rfl rfl ?_)
 refine b_op rfl (o_box rfl rfl rfl ?_)
 refine mv rfl rfl ?_
 refine bf hK ⟨[(2, .fptr [.fn (.func 34) [] []] 0), (3, .fptr [hI p0.1, hI p0.2.1, hI p0.2.2] 0), (4, .fptr [hI p1.1, hI p1.2.1, hI p1.2.2] 0)], []⟩ ?_
 refine AW.dgs 8 follows rfl rfl fun K hK => ?_
 refine sv rfl (v_loadF ty63 rfl (l_lit rfl rfl)) ?_
 refine sv rfl (v_loadF ty49 rfl (l_litA rfl (lb rfl) rfl)) ?_
 obtain ⟨x1, h2, h⟩ := bS h
 refine s_op rfl rfl (ops_call rfl rfl rfl rfl (ACallD.pure0 (w_graph_list h2)) ?_)
 refine sv rfl (v_loadF ty63 rfl (l_lit rfl rfl)) ?_
 refine sv rfl (v_loadF ty49 rfl (l_litA rfl (lb rfl) rfl)) ?_
 obtain ⟨x3, h4, h⟩ := bS h
 refine s_op rfl rfl (ops_call rfl rfl rfl rfl (ACallD.pure0 (w_graph_list h4)) ?_)
 obtain ⟨x5, h6, h⟩ := bS h
 refine s_op rfl rfl (ops_call rfl rfl rfl rfl (ACallD.pure0 (w_slices_Compare_Lint_int h6)) ?_)
 refine sm rfl rfl ?_
 refine s_nil ?_
 refine bf hK ⟨[(5, hI x5)], []⟩ ?_
 refine AW.ret ?_
 have h := Option.some.inj h
 subst h
 exact ret_pure (hs := [hI x5]) (.inr rfl) (resT rfl rfl) rfl trivial
theorem w_graph_by_api_Edge  : Pure Tryz.prog 33 [.fn (.func 34) [] []] (· = HV.fn (.func 51) [] [.fptr [.fn (.func 34) [] []] 0]) := by
 refine Pure.of_body Tryz.func33 rfl rfl (lb rfl) fun hf => ?_
 unfold Tryz.f33
 dsimp only [enumS, Nat.reduceAdd]
 refine AW.rgs rfl fun K hK => b_op rfl (o_box rfl rfl rfl ?_)
 refine mv rfl rfl ?_
 refine bf hK ⟨[(1, .fptr [.fn (.func 34) [] []] 0)], []⟩ ?_
 refine AW.rgs rfl fun K hK => bv rfl (v_func rfl rfl) (mv rfl rfl ?_)
 refine bf hK ⟨[(2, .fn (.func 51) [] [.fptr [.fn (.func 34) [] []] 0])], []⟩ ?_
 refine AW.ret ?_
 exact ret_pure (hs := [.fn (.func 51) [] [.fptr [.fn (.func 34) [] []] 0]]) (.inr rfl) (resT rfl rfl) rfl ⟨trivial, ⟨⟨⟨trivial, trivial⟩, trivial⟩, trivial⟩⟩
theorem w_graph_Check {p0 : TLabelsStatesEdges} {r : Int} (h : m_graph_Check p0 = some r) : Pure Tryz.prog 21 [gA p0] (· = hI r) := by
 unfold m_graph_Check at h
 refine Pure.of_body Tryz.func21 rfl rfl (lb rfl) fun hf => ?_
 unfold Tryz.f21
 dsimp only [enumS, Nat.reduceAdd]
 refine AW.rgs rfl fun K hK => b_op rfl (o_box rfl rfl rfl ?_)
 refine mv rfl rfl ?_
 let P3 : ASf := fun t H => ⟨(1, gF p0) :: t, H⟩
 refine bf hK (P3 [] []) ?_
 refine AW.seq (AW.block ?_)
 refine AW.seqJ h (S := Bool) (V := Unit) (fun a v => (P3 [(6, .bool a)] [])) (fun a1 w2 h => ?_) (fun k3 h => ?_)
 ·refine AW.cond rfl (fun hc => ?_) (fun hc => ?_)
  ·have h := ifT hc h
   refine AW.rgs rfl fun K hK => mv rfl rfl ?_
   refine bf hK ⟨[(2, hI 12)], []⟩ ?_
   refine AW.ret ?_
   have h := Option.some.inj h
   subst h
   exact ret_pure (hs := [hI 12]) (.inr rfl) (resT rfl rfl) rfl trivial
  have h := ifF (bF' hc) h
  refine AW.rgs rfl fun K hK => bv rfl (v_fieldAddrF fo24_1 rfl) (bv rfl (v_loadF ty3 rfl (l_lit rfl rfl)) (bv rfl (v_bin rfl rfl b_lss) (mv rfl rfl ?_)))
  refine bf hK (P3 [(15, .bool (decide (p0.2.1 < 0)))] []) ?_
  refine AW.cond rfl (fun hc => ?_) (fun hc => ?_)
  ·obtain ⟨hc, h⟩ := cT hc h
   refine AW.rgs rfl fun K hK => mv rfl rfl ?_
   refine bf hK ⟨[(2, hI 2)], []⟩ ?_
   refine AW.ret ?_
   have h := Option.some.inj h
   subst h
   exact ret_pure (hs := [hI 2]) (.inr rfl) (resT rfl rfl) rfl trivial
  obtain ⟨hc, h⟩ := cF hc h
  refine AW.seqJ h (S := Bool) (V := Unit) (fun a v => (P3 [(19, .bool a)] [])) (fun a4 w5 h => ?_) (fun k6 h => ?_)
  ·refine AW.cond rfl (fun hc => ?_) (fun hc => ?_)
   ·have h := ifT hc h
    refine AW.rgs rfl fun K hK => mv rfl rfl ?_
    refine bf hK ⟨[(2, hI 4)], []⟩ ?_
    refine AW.ret ?_
    have h := Option.some.inj h
    subst h
    exact ret_pure (hs := [hI 4]) (.inr rfl) (resT rfl rfl) rfl trivial
   have h := ifF (bF' hc) h
   refine AW.skip ?_
   refine AW.rgs rfl fun K hK => b_op rfl (o_call rfl rfl rfl rfl (ACallD.pure0 (w_graph_by_api_Edge )) ?_)
   refine mv rfl rfl ?_
   let E2 : Nat × HV := (3, .fn (.func 51) [] [.fptr [.fn (.func 34) [] []] 0])
   refine bf hK (P3 [E2] []) ?_
   refine AW.seq ?_
   refine AW.rgs rfl fun K hK => bv rfl (v_fieldAddrF fo24_2 rfl) (bv rfl (v_loadF ty22 rfl (l_lit rfl rfl)) (bv rfl (v_lenF rfl rfl ty22 rfl) (mv rfl rfl ?_)))
   let E3 : Nat × HV := (31, slE eFromLabelTo p0.2.2)
   let E4 : Nat × HV := (32, hI ((p0.2.2).length : Int))
   refine bf hK (P3 [E2, E3, E4, (33, hI 0)] []) ?_
   refine AW.lpR h (by first | exact up_then | exact up_to) (S := Int) (V := Unit) (fun a v => (P3 [E2, E3, E4, (33, hI a)] [])) ?_ (X := Unit) (W := Unit) (fun a v => ⟨[], []⟩) (fun a27 w28 h => ?_) (fun a7 w8 st9 h hr10=> ?_)
   ·exact to_L ⟨(), rfl⟩
   ·refine AW.rgs rfl fun K hK => mv rfl rfl ?_
    refine bf hK ⟨[(2, hI 0)], []⟩ ?_
    refine AW.ret ?_
    have h := Option.some.inj h
    subst h
    exact ret_pure (hs := [hI 0]) (.inr rfl) (resT rfl rfl) rfl trivial
   refine AW.rgs rfl fun K hK => bv rfl (v_bin rfl rfl b_lss) ?_
   refine bf hK (P3 [E2, E3, E4, (33, hI a7), (34, .bool (decide (a7 < ((p0.2.2).length : Int))))] []) ?_
   refine AW.cseq rfl (fun hc => ?_) (fun hc => ?_)
   ·obtain ⟨hc, h⟩ := cT hc h
    refine AW.skip ?_
    refine AW.seq (AW.block ?_)
    refine AW.rgs rfl fun K hK => mv rfl rfl ?_
    obtain ⟨x11, h12, h⟩ := bS h
    refine bv rfl (v_idxF ty22 es22 rfl rfl (idx_lt h12)) (bv rfl (v_loadF ty49 rfl (l_agg eFromLabelTo h12 rfl rfl)) ?_)
    refine b_op rfl (o_alloc (fid := 21) (zs := [hI 0, hI 0, hI 0]) 21005 rfl rfl ty49 rfl (fun v13 => ?_))
    refine mv rfl rfl ?_
    refine b_op rfl (o_store (cs := [hI x11.1, hI x11.2.1, hI x11.2.2]) (zs := [hI x11.1, hI x11.2.1, hI x11.2.2]) rfl rfl rfl ty49 rfl rfl rfl rfl rfl ?_)
    refine bf hK (P3 [E2, (4, hI a7), (5, .ptr 21005 v13 0), E3, E4, (33, hI a7)] [(21005, v13, .arr 3 49 [hI x11.1, hI x11.2.1, hI x11.2.2])]) ?_
    refine AW.seq ?_
    refine AW.seqJ h (S := Bool) (V := Unit) (fun a v => (P3 [E2, (4, hI a7), (5, .ptr 21005 v13 0), E3, E4, (33, hI a7), (62, .bool a)] [(21005, v13, .arr 3 49 [hI x11.1, hI x11.2.1, hI x11.2.2])])) (fun a14 w15 h => ?_) (fun k16 h => ?_)
    ·refine AW.cond rfl (fun hc => ?_) (fun hc => ?_)
     ·have h := ifT hc h
      refine AW.rgs rfl fun K hK => mv rfl rfl ?_
      refine bf hK ⟨[(2, hI 2)], []⟩ ?_
      have h := hr10 _ h
      refine AW.ret ?_
      have h := Option.some.inj h
      subst h
      exact ret_pure (hs := [hI 2]) (.inr rfl) (resT rfl rfl) rfl trivial
     have h := ifF (bF' hc) h
     refine AW.skip ?_
     refine AW.seqJ h (S := Bool) (V := Unit) (fun a v => (P3 [E2, E3, E4, (33, hI a7), (76, .bool a)] [])) (fun a17 w18 h => ?_) (fun k19 h => ?_)
     ·refine AW.cond rfl (fun hc => ?_) (fun hc => ?_)
      ·have h := ifT hc h
       refine AW.rgs rfl fun K hK => mv rfl rfl ?_
       refine bf hK ⟨[(2, hI 10)], []⟩ ?_
       have h := hr10 _ h
       refine AW.ret ?_
       have h := Option.some.inj h
       subst h
       exact ret_pure (hs := [hI 10]) (.inr rfl) (resT rfl rfl) rfl trivial
      have h := ifF (bF' hc) h
      refine AW.skip ?_
      refine AW.rg rfl fun K hK => bv rfl (v_bin rfl rfl b_add) (mv rfl rfl ?_)
      refine b_nil (hK _ ?_)
      exact to_L ⟨IntKind.wrap .i64 (a7 + 1), (), h, rfl⟩
     refine AW.dg 14 follows rfl rfl fun K hK => ?_
     refine sm rfl rfl ?_
     refine sv rfl (v_bin rfl rfl b_gtr) ?_
     refine sm rfl rfl ?_
     by_cases hg24 : 0 < a7
     ·have h := ifT hg24 h
      refine s_T rfl rfl rfl rfl rfl (decide_eq_true hg24) (ops_val rfl (mv_val rfl rfl).2 ?_)
      refine s_T rfl rfl rfl rfl rfl rfl (ops_val rfl (v_fieldAddrF fo24_2 rfl) ?_)
      refine s_T rfl rfl rfl rfl rfl rfl (ops_val rfl (v_loadF ty22 rfl (l_lit rfl rfl)) ?_)
      refine s_T rfl rfl rfl rfl rfl rfl (ops_val rfl (mv_val rfl rfl).2 ?_)
      refine s_T rfl rfl rfl rfl rfl rfl (ops_val rfl (v_bin rfl rfl b_sub) ?_)
      obtain ⟨x20, h21, h⟩ := bS h
      refine s_T rfl rfl rfl rfl rfl rfl (ops_val rfl (v_idxF ty22 es22 rfl rfl (idx_lt h21)) ?_)
      refine s_T rfl rfl rfl rfl rfl rfl (ops_val rfl (v_loadF ty49 rfl (l_agg eFromLabelTo h21 rfl rfl)) ?_)
      refine s_T rfl rfl rfl rfl rfl rfl (ops_val rfl (v_loadP ty49 rfl rfl (l_litA rfl (lb rfl) rfl)) ?_)
      obtain ⟨x22, h23, h⟩ := bS h
      refine s_T rfl rfl rfl rfl rfl rfl (ops_call rfl rfl rfl rfl (ACallD.pure0 (w_graph_by_api_Edge_1 h23)) ?_)
      refine s_T rfl rfl rfl rfl rfl rfl (ops_val rfl (v_bin rfl rfl b_geq) ?_)
      refine sv rfl (v_pickT rfl rfl rfl) ?_
      refine s_nil ?_
      refine b_nil (hK _ ?_)
      exact to_L ⟨decide (0 ≤ x22), (), h, rfl⟩
     have h := ifF hg24 h
     refine s_F rfl rfl rfl rfl rfl (decide_eq_false hg24) ?_
     refine s_F rfl rfl rfl rfl rfl rfl ?_
     refine s_F rfl rfl rfl rfl rfl rfl ?_
     refine s_F rfl rfl rfl rfl rfl rfl ?_
     refine s_F rfl rfl rfl rfl rfl rfl ?_
     refine s_F rfl rfl rfl rfl rfl rfl ?_
     refine s_F rfl rfl rfl rfl rfl rfl ?_
     refine s_F rfl rfl rfl rfl rfl rfl ?_
     refine s_F rfl rfl rfl rfl rfl rfl ?_
     refine s_F rfl rfl rfl rfl rfl rfl ?_
     refine sv rfl (v_pickF rfl rfl rfl) ?_
     refine s_nil ?_
     refine b_nil (hK _ ?_)
     exact to_L ⟨false, (), h, rfl⟩
    refine AW.rg rfl fun K hK => bv rfl (v_fieldAddrP fo49_0 rfl rfl) (bv rfl (v_loadP ty3 rfl rfl (l_lit rfl rfl)) (bv rfl (v_fieldAddrP fo49_1 rfl rfl) (bv rfl (v_loadP ty3 rfl rfl (l_lit rfl rfl)) (bv rfl (v_fieldAddrP fo49_2 rfl rfl) (bv rfl (v_loadP ty3 rfl rfl (l_lit rfl rfl)) ?_)))))
    refine bv rfl (v_min3 rfl rfl rfl rfl) (bv rfl (v_bin rfl rfl b_lss) (mv rfl rfl ?_))
    by_cases hg26 : (min (min x11.1 x11.2.1) x11.2.2) < 0
    ·have h := ifT hg26 h
     refine b_F rfl rfl rfl rfl rfl (decide_eq_true hg26) ?_
     refine b_F rfl rfl rfl rfl rfl rfl ?_
     refine b_F rfl rfl rfl rfl rfl rfl ?_
     refine b_F rfl rfl rfl rfl rfl rfl ?_
     refine b_F rfl rfl rfl rfl rfl rfl ?_
     refine b_F rfl rfl rfl rfl rfl rfl ?_
     refine b_F rfl rfl rfl rfl rfl rfl ?_
     refine b_F rfl rfl rfl rfl rfl rfl ?_
     refine bv rfl (v_pickT rfl rfl rfl) (mv rfl rfl ?_)
     refine b_F rfl rfl rfl rfl rfl rfl ?_
     refine b_F rfl rfl rfl rfl rfl rfl ?_
     refine b_F rfl rfl rfl rfl rfl rfl ?_
     refine b_F rfl rfl rfl rfl rfl rfl ?_
     refine b_F rfl rfl rfl rfl rfl rfl ?_
     refine bv rfl (v_pickT rfl rfl rfl) ?_
     refine b_nil (hK _ ?_)
     exact to_L ⟨true, (), h, rfl⟩
    have h := ifF hg26 h
    refine b_T rfl rfl rfl rfl (decide_eq_false hg26) (o_val rfl (v_fieldAddrP fo49_0 rfl rfl) ?_)
    refine b_T rfl rfl rfl rfl rfl (o_val rfl (v_loadP ty3 rfl rfl (l_lit rfl rfl)) ?_)
    refine b_T rfl rfl rfl rfl rfl (o_val rfl (v_fieldAddrP fo49_2 rfl rfl) ?_)
    refine b_T rfl rfl rfl rfl rfl (o_val rfl (v_loadP ty3 rfl rfl (l_lit rfl rfl)) ?_)
    refine b_T rfl rfl rfl rfl rfl (o_val rfl (v_max rfl rfl rfl) ?_)
    refine b_T rfl rfl rfl rfl rfl (o_val rfl (v_fieldAddrF fo24_1 rfl) ?_)
    refine b_T rfl rfl rfl rfl rfl (o_val rfl (v_loadF ty3 rfl (l_lit rfl rfl)) ?_)
    refine b_T rfl rfl rfl rfl rfl (o_val rfl (v_bin rfl rfl b_geq) ?_)
    refine bv rfl (v_pickF rfl rfl rfl) (mv rfl rfl ?_)
    by_cases hg25 : p0.2.1 ≤ (max x11.1 x11.2.2)
    ·have h := ifT hg25 h
     refine b_F rfl rfl rfl rfl rfl (decide_eq_true hg25) ?_
     refine b_F rfl rfl rfl rfl rfl rfl ?_
     refine b_F rfl rfl rfl rfl rfl rfl ?_
     refine b_F rfl rfl rfl rfl rfl rfl ?_
     refine b_F rfl rfl rfl rfl rfl rfl ?_
     refine bv rfl (v_pickT rfl rfl rfl) ?_
     refine b_nil (hK _ ?_)
     exact to_L ⟨true, (), h, rfl⟩
    have h := ifF hg25 h
    refine b_T rfl rfl rfl rfl (decide_eq_false hg25) (o_val rfl (v_fieldAddrP fo49_1 rfl rfl) ?_)
    refine b_T rfl rfl rfl rfl rfl (o_val rfl (v_loadP ty3 rfl rfl (l_lit rfl rfl)) ?_)
    refine b_T rfl rfl rfl rfl rfl (o_val rfl (v_fieldAddrF fo24_0 rfl) ?_)
    refine b_T rfl rfl rfl rfl rfl (o_val rfl (v_loadF ty3 rfl (l_lit rfl rfl)) ?_)
    refine b_T rfl rfl rfl rfl rfl (o_val rfl (v_bin rfl rfl b_geq) ?_)
    refine bv rfl (v_pickF rfl rfl rfl) ?_
    refine b_nil (hK _ ?_)
    exact to_L ⟨decide (p0.1 ≤ x11.2.1), (), h, rfl⟩
   obtain ⟨hc, h⟩ := cF hc h
   refine AW.exit ?_
   exact to_L ⟨(), (), h, rfl⟩
  refine AW.rg rfl fun K hK => bv rfl (v_fieldAddrF fo24_1 rfl) (bv rfl (v_loadF ty3 rfl (l_lit rfl rfl)) (bv rfl (v_bin rfl rfl b_gtr) (mv rfl rfl ?_)))
  by_cases hg29 : 64 < p0.2.1
  ·have h := ifT hg29 h
   refine b_F rfl rfl rfl rfl rfl (decide_eq_true hg29) ?_
   refine b_F rfl rfl rfl rfl rfl rfl ?_
   refine b_F rfl rfl rfl rfl rfl rfl ?_
   refine b_F rfl rfl rfl rfl rfl rfl ?_
   refine bv rfl (v_pickT rfl rfl rfl) (mv rfl rfl ?_)
   refine b_nil (hK _ ?_)
   exact to_L ⟨true, (), h, rfl⟩
  have h := ifF hg29 h
  refine b_T rfl rfl rfl rfl (decide_eq_false hg29) (o_val rfl (v_fieldAddrF fo24_2 rfl) ?_)
  refine b_T rfl rfl rfl rfl rfl (o_val rfl (v_loadF ty22 rfl (l_lit rfl rfl)) ?_)
  refine b_T rfl rfl rfl rfl rfl (o_val rfl (v_lenF rfl rfl ty22 rfl) ?_)
  refine b_T rfl rfl rfl rfl rfl (o_val rfl (v_bin rfl rfl b_gtr) ?_)
  refine bv rfl (v_pickF rfl rfl rfl) (mv rfl rfl ?_)
  refine b_nil (hK _ ?_)
  exact to_L ⟨decide (1024 < ((p0.2.2).length : Int)), (), h, rfl⟩
 refine AW.rg rfl fun K hK => bv rfl (v_fieldAddrF fo24_0 rfl) (bv rfl (v_loadF ty3 rfl (l_lit rfl rfl)) (bv rfl (v_bin rfl rfl b_lss) (mv rfl rfl ?_)))
 by_cases hg30 : p0.1 < 1
 ·have h := ifT hg30 h
  refine b_F rfl rfl rfl rfl rfl (decide_eq_true hg30) ?_
  refine b_F rfl rfl rfl rfl rfl rfl ?_
  refine b_F rfl rfl rfl rfl rfl rfl ?_
  refine bv rfl (v_pickT rfl rfl rfl) (mv rfl rfl ?_)
  refine b_nil (hK _ ?_)
  exact to_L ⟨true, (), h, rfl⟩
 have h := ifF hg30 h
 refine b_T rfl rfl rfl rfl (decide_eq_false hg30) (o_val rfl (v_fieldAddrF fo24_0 rfl) ?_)
 refine b_T rfl rfl rfl rfl rfl (o_val rfl (v_loadF ty3 rfl (l_lit rfl rfl)) ?_)
 refine b_T rfl rfl rfl rfl rfl (o_val rfl (v_bin rfl rfl b_gtr) ?_)
 refine bv rfl (v_pickF rfl rfl rfl) (mv rfl rfl ?_)
 refine b_nil (hK _ ?_)
 exact to_L ⟨decide (256 < p0.1), (), h, rfl⟩
theorem w_subset_key {p0 : List (Int)} {r : (List UInt8)} (h : m_subset_key p0 = some r) : Pure Tryz.prog 47 [slE eInt p0] (· = HV.str r) := by
 unfold m_subset_key at h
 refine Pure.of_body Tryz.func47 rfl rfl (lb rfl) fun hf => ?_
 unfold Tryz.f47
 dsimp only [enumS, Nat.reduceAdd]
 refine AW.rgs rfl fun K hK => mv rfl rfl ?_
 refine bf hK ⟨[(0, slE eInt p0)], []⟩ ?_
 refine AW.rgs rfl fun K hK => b_op rfl (o_alloc (fid := 47) (zs := [.v (.pointer none), .v (.slice none 0 0)]) 47003 rfl rfl ty98 rfl (fun v1 => ?_))
 refine b_to (to_ownC 47503 47003 v1 2 1 1 5 98 rfl rfl (by decide) fun v2 => ?_)
 let P4 : ASf := fun t H => ⟨t, (47003, v1, bldO 47003 v1 47503 v2 false nS) :: (47503, v2, bytO nS) :: H⟩
 refine bf hK (P4 [(0, slE eInt p0), (3, .ptr 47003 v1 0)] []) ?_
 refine AW.seq ?_
 refine AW.rgs rfl fun K hK => mv rfl rfl (bv rfl (v_lenF rfl rfl ty27 rfl) (mv rfl rfl ?_))
 let E5 : Nat × HV := (7, hI ((p0).length : Int))
 refine bf hK (P4 [(3, .ptr 47003 v1 0), (6, slE eInt p0), E5, (8, hI 0)] []) ?_
 let P5 : ASf := fun t H => ⟨(3, .ptr 47003 v1 0) :: (6, slE eInt p0) :: E5 :: t, H⟩
 refine AW.lpX h (by first | exact up_then | exact up_to) (S := Int × (List UInt8)) (V := Bool × Nat) (fun a v => (P5 [(8, hI a.1)] [(47003, v1, bldO 47003 v1 47503 v.2 v.1 a.2), (47503, v.2, bytO a.2)])) ?_ (X := (List UInt8)) (W := Bool × Nat) (fun a v => ⟨[(3, .ptr 47003 v1 0)], [(47003, v1, bldO 47003 v1 47503 v.2 v.1 a), (47503, v.2, bytO a)]⟩) (fun a14 w15 h => ?_) (fun a3 w4 st5 h => ?_)
 ·exact to_L ⟨(false, v2), rfl⟩
 ·refine AW.rgs rfl fun K hK => b_op rfl (o_callA rfl rfl rfl rfl (c_String (id := 47003) (ver := v1) (aid := 47503) (aver := w15.2) (u := w15.1) (l := a14) rfl rfl fun v16 => ?_) )
  refine mv rfl rfl ?_
  refine bf hK ⟨[(2, .str a14)], []⟩ ?_
  refine AW.ret ?_
  have h := Option.some.inj h
  subst h
  exact ret_pure (hs := [.str a14]) (.inr rfl) (resT rfl rfl) rfl trivial
 refine AW.rgs rfl fun K hK => bv rfl (v_bin rfl rfl b_lss) ?_
 refine bf hK (P5 [(8, hI a3.1), (9, .bool (decide (a3.1 < ((p0).length : Int))))] [(47003, v1, bldO 47003 v1 47503 w4.2 w4.1 a3.2), (47503, w4.2, bytO a3.2)]) ?_
 refine AW.cseq rfl (fun hc => ?_) (fun hc => ?_)
 ·obtain ⟨hc, h⟩ := cT hc h
  refine AW.skip ?_
  refine AW.seq (AW.block ?_)
  refine AW.rgs rfl fun K hK => ?_
  obtain ⟨x7, h8, h⟩ := bS h
  refine bv rfl (v_idxF ty27 es27 rfl rfl (idx_lt h8)) (bv rfl (v_loadF ty3 rfl (l_cell eInt h8 (o := 0) rfl rfl)) (mv rfl rfl ?_))
  refine bf hK ⟨[(3, .ptr 47003 v1 0), (5, hI x7), (6, slE eInt p0), E5, (8, hI a3.1)], [(47003, v1, bldO 47003 v1 47503 w4.2 w4.1 a3.2), (47503, w4.2, bytO a3.2)]⟩ ?_
  refine AW.rg rfl fun K hK => mv rfl rfl ?_
  obtain ⟨x9, h10, h⟩ := bS h
  refine b_op rfl (o_call rfl rfl rfl rfl (ACallD.pure0 (w_strconv_Itoa h10)) ?_)
  obtain ⟨h11, h⟩ := ifN h
  refine bv rfl (v_bin rfl rfl (b_sadd h11)) ?_
  obtain ⟨h13, h⟩ := ifN h
  refine b_op rfl (o_callA rfl rfl rfl rfl (c_WriteString (id := 47003) (ver := v1) (aid := 47503) (aver := w4.2) (u := w4.1) (l := a3.2) (m := (x9 ++ [32])) (by decide) rfl rfl h13 fun v12 => ?_) )
  refine bf hK (P5 [(8, hI a3.1)] [(47003, v1, bldO 47003 v1 47503 v12 true (a3.2 ++ (x9 ++ [32]))), (47503, v12, bytO (a3.2 ++ (x9 ++ [32])))]) ?_
  refine AW.rg rfl fun K hK => bv rfl (v_bin rfl rfl b_add) (mv rfl rfl ?_)
  refine b_nil (hK _ ?_)
  exact to_L ⟨(IntKind.wrap .i64 (a3.1 + 1), a3.2 ++ (x9 ++ [32])), (true, v12), h, rfl⟩
 obtain ⟨hc, h⟩ := cF hc h
 refine AW.exit ?_
 exact to_L ⟨a3.2, (w4.1, w4.2), h, rfl⟩
theorem w_graph_checkSet {p0 : TLabelsStatesEdges} {p1 : List (Int)} {r : Int} (h : m_graph_checkSet p0 p1 = some r) : Pure Tryz.prog 67 [gA p0, slE eInt p1] (· = hI r) := by
 unfold m_graph_checkSet at h
 refine Pure.of_body Tryz.func67 rfl rfl (lb rfl) fun hf => ?_
 unfold Tryz.f67
 dsimp only [enumS, Nat.reduceAdd]
 refine AW.rgs rfl fun K hK => b_op rfl (o_box rfl rfl rfl ?_)
 refine mv rfl rfl ?_
 let P6 : ASf := fun t H => ⟨(1, slE eInt p1) :: (2, gF p0) :: t, H⟩
 refine bf hK (P6 [] []) ?_
 refine AW.seq ?_
 refine AW.rgs rfl fun K hK => mv rfl rfl (bv rfl (v_lenF rfl rfl ty27 rfl) (mv rfl rfl ?_))
 let E6 : Nat × HV := (8, hI ((p1).length : Int))
 refine bf hK (P6 [(7, slE eInt p1), E6, (9, hI 0)] []) ?_
 refine AW.lpR h (by first | exact up_then | exact up_to) (S := Int) (V := Unit) (fun a v => (P6 [(7, slE eInt p1), E6, (9, hI a)] [])) ?_ (X := Unit) (W := Unit) (fun a v => ⟨[], []⟩) (fun a17 w18 h => ?_) (fun a1 w2 st3 h hr4=> ?_)
 ·exact to_L ⟨(), rfl⟩
 ·refine AW.rgs rfl fun K hK => mv rfl rfl ?_
  refine bf hK ⟨[(4, hI 0)], []⟩ ?_
  refine AW.ret ?_
  have h := Option.some.inj h
  subst h
  exact ret_pure (hs := [hI 0]) (.inr rfl) (resT rfl rfl) rfl trivial
 refine AW.rgs rfl fun K hK => bv rfl (v_bin rfl rfl b_lss) ?_
 refine bf hK (P6 [(7, slE eInt p1), E6, (9, hI a1), (10, .bool (decide (a1 < ((p1).length : Int))))] []) ?_
 refine AW.cseq rfl (fun hc => ?_) (fun hc => ?_)
 ·obtain ⟨hc, h⟩ := cT hc h
  refine AW.skip ?_
  refine AW.seq (AW.block ?_)
  refine AW.rgs rfl fun K hK => mv rfl rfl ?_
  obtain ⟨x5, h6, h⟩ := bS h
  refine bv rfl (v_idxF ty27 es27 rfl rfl (idx_lt h6)) (bv rfl (v_loadF ty3 rfl (l_cell eInt h6 (o := 0) rfl rfl)) (mv rfl rfl (mv rfl rfl ?_)))
  refine bf hK (P6 [(5, hI a1), (6, hI x5), (7, slE eInt p1), E6, (9, hI a1)] []) ?_
  refine AW.seq ?_
  refine AW.seqJ h (S := Bool) (V := Unit) (fun a v => (P6 [(5, hI a1), (6, hI x5), (7, slE eInt p1), E6, (9, hI a1), (21, .bool a)] [])) (fun a7 w8 h => ?_) (fun k9 h => ?_)
  ·refine AW.cond rfl (fun hc => ?_) (fun hc => ?_)
   ·have h := ifT hc h
    refine AW.rgs rfl fun K hK => mv rfl rfl ?_
    refine bf hK ⟨[(4, hI 25)], []⟩ ?_
    have h := hr4 _ h
    refine AW.ret ?_
    have h := Option.some.inj h
    subst h
    exact ret_pure (hs := [hI 25]) (.inr rfl) (resT rfl rfl) rfl trivial
   have h := ifF (bF' hc) h
   refine AW.skip ?_
   refine AW.seqJ h (S := Bool) (V := Unit) (fun a v => (P6 [(7, slE eInt p1), E6, (9, hI a1), (32, .bool a)] [])) (fun a10 w11 h => ?_) (fun k12 h => ?_)
   ·refine AW.cond rfl (fun hc => ?_) (fun hc => ?_)
    ·have h := ifT hc h
     refine AW.rgs rfl fun K hK => mv rfl rfl ?_
     refine bf hK ⟨[(4, hI 10)], []⟩ ?_
     have h := hr4 _ h
     refine AW.ret ?_
     have h := Option.some.inj h
     subst h
     exact ret_pure (hs := [hI 10]) (.inr rfl) (resT rfl rfl) rfl trivial
    have h := ifF (bF' hc) h
    refine AW.skip ?_
    refine AW.rg rfl fun K hK => bv rfl (v_bin rfl rfl b_add) (mv rfl rfl ?_)
    refine b_nil (hK _ ?_)
    exact to_L ⟨IntKind.wrap .i64 (a1 + 1), (), h, rfl⟩
   refine AW.rg rfl fun K hK => mv rfl rfl (bv rfl (v_bin rfl rfl b_gtr) (mv rfl rfl ?_))
   by_cases hg15 : 0 < a1
   ·have h := ifT hg15 h
    refine b_T rfl rfl rfl rfl (decide_eq_true hg15) (o_val rfl (mv_val rfl rfl).2 ?_)
    refine b_T rfl rfl rfl rfl rfl (o_val rfl (mv_val rfl rfl).2 ?_)
    refine b_T rfl rfl rfl rfl rfl (o_val rfl (mv_val rfl rfl).2 ?_)
    refine b_T rfl rfl rfl rfl rfl (o_val rfl (v_bin rfl rfl b_sub) ?_)
    obtain ⟨x13, h14, h⟩ := bS h
    refine b_T rfl rfl rfl rfl rfl (o_val rfl (v_idxF ty27 es27 rfl rfl (idx_lt h14)) ?_)
    refine b_T rfl rfl rfl rfl rfl (o_val rfl (v_loadF ty3 rfl (l_cell eInt h14 (o := 0) rfl rfl)) ?_)
    refine b_T rfl rfl rfl rfl rfl (o_val rfl (v_bin rfl rfl b_leq) ?_)
    refine bv rfl (v_pickT rfl rfl rfl) ?_
    refine b_nil (hK _ ?_)
    exact to_L ⟨decide (x5 ≤ x13), (), h, rfl⟩
   have h := ifF hg15 h
   refine b_F rfl rfl rfl rfl rfl (decide_eq_false hg15) ?_
   refine b_F rfl rfl rfl rfl rfl rfl ?_
   refine b_F rfl rfl rfl rfl rfl rfl ?_
   refine b_F rfl rfl rfl rfl rfl rfl ?_
   refine b_F rfl rfl rfl rfl rfl rfl ?_
   refine b_F rfl rfl rfl rfl rfl rfl ?_
   refine b_F rfl rfl rfl rfl rfl rfl ?_
   refine bv rfl (v_pickF rfl rfl rfl) ?_
   refine b_nil (hK _ ?_)
   exact to_L ⟨false, (), h, rfl⟩
  refine AW.rg rfl fun K hK => mv rfl rfl (bv rfl (v_bin rfl rfl b_lss) (mv rfl rfl ?_))
  by_cases hg16 : x5 < 0
  ·have h := ifT hg16 h
   refine b_F rfl rfl rfl rfl rfl (decide_eq_true hg16) ?_
   refine b_F rfl rfl rfl rfl rfl rfl ?_
   refine b_F rfl rfl rfl rfl rfl rfl ?_
   refine b_F rfl rfl rfl rfl rfl rfl ?_
   refine bv rfl (v_pickT rfl rfl rfl) ?_
   refine b_nil (hK _ ?_)
   exact to_L ⟨true, (), h, rfl⟩
  have h := ifF hg16 h
  refine b_T rfl rfl rfl rfl (decide_eq_false hg16) (o_val rfl (mv_val rfl rfl).2 ?_)
  refine b_T rfl rfl rfl rfl rfl (o_val rfl (v_fieldAddrF fo24_1 rfl) ?_)
  refine b_T rfl rfl rfl rfl rfl (o_val rfl (v_loadF ty3 rfl (l_lit rfl rfl)) ?_)
  refine b_T rfl rfl rfl rfl rfl (o_val rfl (v_bin rfl rfl b_geq) ?_)
  refine bv rfl (v_pickF rfl rfl rfl) ?_
  refine b_nil (hK _ ?_)
  exact to_L ⟨decide (p0.2.1 ≤ x5), (), h, rfl⟩
 obtain ⟨hc, h⟩ := cF hc h
 refine AW.exit ?_
 exact to_L ⟨(), (), h, rfl⟩
theorem w_graph_leaving (p0 : TLabelsStatesEdges) (p1 : Int) : Pure Tryz.prog 68 [gA p0, hI p1] (· = HV.fn (.func 76) [] [gF p0, .fptr [hI p1] 0]) := by
 refine Pure.of_body Tryz.func68 rfl rfl (lb rfl) fun hf => ?_
 unfold Tryz.f68
 dsimp only [enumS, Nat.reduceAdd]
 refine AW.rgs rfl fun K hK => b_op rfl (o_box rfl rfl rfl ?_)
 refine b_op rfl (o_box rfl rfl rfl ?_)
 refine mv rfl rfl ?_
 refine bf hK ⟨[(2, gF p0), (3, .fptr [hI p1] 0)], []⟩ ?_
 refine AW.rgs rfl fun K hK => bv rfl (v_func rfl rfl) (mv rfl rfl ?_)
 refine bf hK ⟨[(4, .fn (.func 76) [] [gF p0, .fptr [hI p1] 0])], []⟩ ?_
 refine AW.ret ?_
 exact ret_pure (hs := [.fn (.func 76) [] [gF p0, .fptr [hI p1] 0]]) (.inr rfl) (resT rfl rfl) rfl ⟨trivial, ⟨⟨trivial, trivial, (clean_slE fun _ _ => ⟨trivial, trivial, trivial, trivial⟩), trivial⟩, ⟨trivial, trivial⟩, trivial⟩⟩
theorem w_graph_Step {p0 : TLabelsStatesEdges} {p1 : List (Int)} {p2 : Int} {r : (List (Int)) × Int} (h : m_graph_Step p0 p1 p2 = some r) : Pure Tryz.prog 61 [gA p0, slE eInt p1, hI p2] (· = HV.tup [slE eInt r.1, hI r.2]) := by
 unfold m_graph_Step at h
 refine Pure.of_body Tryz.func61 rfl rfl (lb rfl) fun hf => ?_
 unfold Tryz.f61
 dsimp only [enumS, Nat.reduceAdd]
 refine AW.rgs rfl fun K hK => b_op rfl (o_box rfl rfl rfl ?_)
 refine b_op rfl (o_box rfl rfl rfl ?_)
 refine mv rfl rfl (mv rfl rfl ?_)
 let P1 : ASf := fun t H => ⟨(1, slE eInt p1) :: (3, gF p0) :: (5, .fptr [hI p2] 0) :: t, H⟩
 refine bf hK (P1 [] []) ?_
 refine AW.seq ?_
 refine AW.rgs rfl fun K hK => bv rfl (v_loadF ty24 rfl (l_litA rfl (lb rfl) rfl)) ?_
 obtain ⟨x1, h2, h⟩ := bS h
 refine b_op rfl (o_call rfl rfl rfl rfl (ACallD.pure0 (w_graph_Check h2)) ?_)
 refine bv rfl (v_bin rfl rfl b_neq) ?_
 refine bf hK (P1 [(16, .bool (decide (x1 ≠ 0)))] []) ?_
 refine AW.cond rfl (fun hc => ?_) (fun hc => ?_)
 ·obtain ⟨hc, h⟩ := cT hc h
  refine AW.rgs rfl fun K hK => mv rfl rfl (mv rfl rfl ?_)
  refine bf hK ⟨[(6, .v (.slice none 0 0)), (7, hI 1)], []⟩ ?_
  refine AW.to (to_weak ⟨[(6, slE eInt ([] : List Int)), (7, hI 1)], []⟩ ⟨⟨_, rfl, .nil _⟩, ⟨_, rfl, .refl _⟩, trivial⟩ trivial ?_)
  refine AW.ret ?_
  have h := Option.some.inj h
  subst h
  exact ret_pure (hs := [slE eInt ([] : List Int), hI 1]) (.inr rfl) (resT rfl (resT rfl rfl)) rfl ⟨(clean_slE fun _ _ => ⟨trivial, trivial⟩), trivial, trivial⟩
 obtain ⟨hc, h⟩ := cF hc h
 refine AW.skip ?_
 refine AW.seq ?_
 refine AW.rgs rfl fun K hK => bv rfl (v_loadF ty24 rfl (l_litA rfl (lb rfl) rfl)) (mv rfl rfl ?_)
 obtain ⟨x3, h4, h⟩ := bS h
 refine b_op rfl (o_call rfl rfl rfl rfl (ACallD.pure0 (w_graph_checkSet h4)) ?_)
 refine mv rfl rfl ?_
 refine bf hK (P1 [(8, hI x3)] []) ?_
 refine AW.rgs rfl fun K hK => mv rfl rfl (bv rfl (v_bin rfl rfl b_neq) ?_)
 refine bf hK (P1 [(8, hI x3), (21, .bool (decide (x3 ≠ 0)))] []) ?_
 refine AW.cond rfl (fun hc => ?_) (fun hc => ?_)
 ·obtain ⟨hc, h⟩ := cT hc h
  refine AW.rgs rfl fun K hK => mv rfl rfl (mv rfl rfl (mv rfl rfl ?_))
  refine bf hK ⟨[(6, .v (.slice none 0 0)), (7, hI x3)], []⟩ ?_
  refine AW.to (to_weak ⟨[(6, slE eInt ([] : List Int)), (7, hI x3)], []⟩ ⟨⟨_, rfl, .nil _⟩, ⟨_, rfl, .refl _⟩, trivial⟩ trivial ?_)
  refine AW.ret ?_
  have h := Option.some.inj h
  subst h
  exact ret_pure (hs := [slE eInt ([] : List Int), hI x3]) (.inr rfl) (resT rfl (resT rfl rfl)) rfl ⟨(clean_slE fun _ _ => ⟨trivial, trivial⟩), trivial, trivial⟩
 obtain ⟨hc, h⟩ := cF hc h
 refine AW.skip ?_
 refine AW.seq ?_
 refine AW.seqJ h (S := Bool) (V := Unit) (fun a v => (P1 [(30, .bool a)] [])) (fun a5 w6 h => ?_) (fun k7 h => ?_)
 ·refine AW.cond rfl (fun hc => ?_) (fun hc => ?_)
  ·have h := ifT hc h
   refine AW.rgs rfl fun K hK => mv rfl rfl (mv rfl rfl ?_)
   refine bf hK ⟨[(6, .v (.slice none 0 0)), (7, hI 2)], []⟩ ?_
   refine AW.to (to_weak ⟨[(6, slE eInt ([] : List Int)), (7, hI 2)], []⟩ ⟨⟨_, rfl, .nil _⟩, ⟨_, rfl, .refl _⟩, trivial⟩ trivial ?_)
   refine AW.ret ?_
   have h := Option.some.inj h
   subst h
   exact ret_pure (hs := [slE eInt ([] : List Int), hI 2]) (.inr rfl) (resT rfl (resT rfl rfl)) rfl ⟨(clean_slE fun _ _ => ⟨trivial, trivial⟩), trivial, trivial⟩
  have h := ifF (bF' hc) h
  refine AW.skip ?_
  refine AW.rgs rfl fun K hK => b_op rfl (o_alloc (fid := 61) (zs := [.v (.slice none 0 0)]) 61009 rfl rfl ty27 rfl (fun v8 => ?_))
  refine bf hK (P1 [(9, .ptr 61009 v8 0)] [(61009, v8, .arr 1 27 [.v (.slice none 0 0)])]) ?_
  refine AW.seq ?_
  refine AW.rgs rfl fun K hK => mv rfl rfl (bv rfl (v_lenF rfl rfl ty27 rfl) (mv rfl rfl ?_))
  let E1 : Nat × HV := (32, hI ((p1).length : Int))
  let P2 : ASf := fun t H => ⟨(3, gF p0) :: (5, .fptr [hI p2] 0) :: (9, .ptr 61009 v8 0) :: (31, slE eInt p1) :: E1 :: t, H⟩
  refine bf hK (P2 [(33, hI 0)] [(61009, v8, .arr 1 27 [.v (.slice none 0 0)])]) ?_
  refine AW.lpX h (by first | exact up_then | exact up_to) (S := Int × (List Int)) (V := Nat) (fun a v => (P2 [(33, hI a.1)] [(61009, v8, .arr 1 27 [.ar 61050 v eInt.k 0 ((a.2).length)]), (61050, v, .arr eInt.k 3 (eInt.E a.2))])) ?_ (X := (List Int)) (W := Nat) (fun a v => ⟨[(9, .ptr 61009 v8 0)], [(61009, v8, .arr 1 27 [.ar 61050 v eInt.k 0 ((a).length)]), (61050, v, .arr eInt.k 3 (eInt.E a))]⟩) (fun a31 w32 h => ?_) (fun a9 w10 st11 h => ?_)
  ·refine to_bind (to_ownC 61050 61009 v8 1 0 eInt.k 3 27 rfl rfl (by decide) fun v30 => ?_)
   exact to_le (s' := (P2 [(33, hI 0)] [(61009, v8, .arr 1 27 [.ar 61050 v30 eInt.k 0 ((([] : List Int)).length)]), (61050, v30, .arr eInt.k 3 (eInt.E ([] : List Int)))])) (AS.le_of ⟨rfl, rfl, rfl, rfl, rfl, rfl, trivial⟩ ⟨hle rfl (by first | rfl | simp only [List.length_set, sortI_len, sortS_len]), rfl, trivial⟩) ⟨v30, rfl⟩
  ·refine AW.rgs rfl fun K hK => bv rfl (v_loadP ty27 rfl rfl (l_lit rfl rfl)) ?_
   obtain ⟨h33, h⟩ := ifN h
   refine b_op rfl (o_sortI c_sortI (l := a31) rfl rfl rfl rfl h33 ?_)
   refine b_fin hK (s' := ⟨[(9, .ptr 61009 v8 0)], [(61009, v8, .arr 1 27 [.ar 61050 w32 eInt.k 0 ((sortI a31).length)]), (61050, w32, .arr eInt.k 3 (eInt.E (sortI a31)))]⟩) (AS.le_of ⟨rfl, trivial⟩ ⟨hle rfl (by first | rfl | simp only [List.length_set, sortI_len, sortS_len]), rfl, trivial⟩) ?_
   refine AW.rgs rfl fun K hK => bv rfl (v_loadP ty27 rfl rfl (l_lit rfl rfl)) ?_
   refine b_op rfl (o_callK (q := slE eInt (compact_ (sortI a31))) [(61009, v8, .arr 1 27 [.ar 61050 w32 eInt.k 0 ((sortI a31).length)])] rfl rfl rfl rfl (fun K hK => c_compactI (H' := [(61009, v8, .arr 1 27 [.ar 61050 w32 eInt.k 0 ((sortI a31).length)])]) (l := sortI a31) rfl rfl (leH_get ⟨rfl, trivial⟩) rfl hK) ?_)
   refine mv rfl rfl (mv rfl rfl ?_)
   refine bf hK ⟨[(6, slE eInt (compact_ (sortI a31))), (7, hI 0)], []⟩ ?_
   refine AW.ret ?_
   have h := Option.some.inj h
   subst h
   exact ret_pure (hs := [slE eInt (compact_ (sortI a31)), hI 0]) (.inr rfl) (resT rfl (resT rfl rfl)) rfl ⟨(clean_slE fun _ _ => ⟨trivial, trivial⟩), trivial, trivial⟩
  refine AW.rgs rfl fun K hK => bv rfl (v_bin rfl rfl b_lss) ?_
  let O2 : Nat × Nat × AObj := (61009, v8, .arr 1 27 [.ar 61050 w10 eInt.k 0 ((a9.2).length)])
  let O3 : Nat × Nat × AObj := (61050, w10, .arr eInt.k 3 (eInt.E a9.2))
  refine bf hK (P2 [(33, hI a9.1), (34, .bool (decide (a9.1 < ((p1).length : Int))))] [O2, O3]) ?_
  refine AW.cseq rfl (fun hc => ?_) (fun hc => ?_)
  ·obtain ⟨hc, h⟩ := cT hc h
   refine AW.skip ?_
   refine AW.seq (AW.block ?_)
   refine AW.rgs rfl fun K hK => ?_
   obtain ⟨x13, h14, h⟩ := bS h
   refine bv rfl (v_idxF ty27 es27 rfl rfl (idx_lt h14)) (bv rfl (v_loadF ty3 rfl (l_cell eInt h14 (o := 0) rfl rfl)) (mv rfl rfl ?_))
   refine bf hK ⟨[(3, gF p0), (5, .fptr [hI p2] 0), (9, .ptr 61009 v8 0), (11, hI x13), (31, slE eInt p1), E1, (33, hI a9.1)], [O2, O3]⟩ ?_
   refine AW.rgs rfl fun K hK => bv rfl (v_loadF ty24 rfl (l_litA rfl (lb rfl) rfl)) (mv rfl rfl ?_)
   refine b_op rfl (o_call rfl rfl rfl rfl (ACallD.pure0 (w_graph_leaving p0 x13)) ?_)
   refine bf hK (P2 [(33, hI a9.1), (39, .fn (.func 76) [] [gF p0, .fptr [hI x13] 0])] [O2, O3]) ?_
   refine AW.block ?_
   refine AW.to (to_le (s' := (P2 [(33, hI a9.1), (39, .fn (.func 76) [] [gF p0, .fptr [hI x13] 0])] [O2, O3])) (le_q rfl rfl) ?_)
   obtain ⟨L15, h16, h⟩ := bS h
   refine AW.rangeY (c := .ret) 61900 (fun x => [hI x.1, .agg [hI x.2.1, hI x.2.2.1, hI x.2.2.2]]) h (by first | exact up_then | exact up_to) rfl (iy_graph_leaving h16) (S := (List Int)) (V := Nat) (fun a v => [(61009, v8, .arr 1 27 [.ar 61050 v eInt.k 0 ((a).length)]), (61050, v, .arr eInt.k 3 (eInt.E a))]) w10 (X := Unit) (W := Unit) (fun _ _ => []) (fun _ _ => rfl) (fun _ _ => rfl) rfl (fun _ => rfl) (fun a26 w27 h => ?_) (fun a28 w29 h => ?_) (fun Lo l22 v20 a17 x19 w18 st21 h => ?_)
   ·refine AW.rg rfl fun K hK => bv rfl (v_bin rfl rfl b_add) (mv rfl rfl ?_)
    refine b_nil (hK _ ?_)
    exact to_L ⟨(IntKind.wrap .i64 (a9.1 + 1), a26), w27, h, rfl⟩
   ·cases h
   refine AW.rg rfl fun K hK => b_op rfl (o_alloc (fid := 61) (zs := [hI 0, hI 0, hI 0]) 61013 rfl rfl ty49 rfl (fun v23 => ?_))
   refine b_op rfl (o_store (cs := [hI x19.2.1, hI x19.2.2.1, hI x19.2.2.2]) (zs := [hI x19.2.1, hI x19.2.2.1, hI x19.2.2.2]) rfl rfl rfl ty49 rfl rfl rfl rfl rfl ?_)
   refine b_nil (hK _ ?_)
   refine ⟨rfl, rfl, ?_⟩
   refine AW.block ?_
   refine AW.rgs rfl fun K hK => bv rfl (v_fieldAddrP fo49_1 rfl rfl) (bv rfl (v_loadP ty3 rfl rfl (l_lit rfl rfl)) (bv rfl (v_loadF ty3 rfl (l_lit rfl rfl)) (bv rfl (v_bin rfl rfl b_eql) ?_)))
   refine bf hK ⟨[(3, gF p0), (5, .fptr [hI p2] 0), (9, .ptr 61009 v8 0), (13, .ptr 61013 v23 0), (31, slE eInt p1), E1, (33, hI a9.1), (41, .agg [hI x19.2.1, hI x19.2.2.1, hI x19.2.2.2]), (45, .bool (decide (x19.2.2.1 = p2)))], [(61900, v20, Lo .busy none), (61009, v8, .arr 1 27 [.ar 61050 w18 eInt.k 0 ((a17).length)]), (61050, w18, .arr eInt.k 3 (eInt.E a17)), (61013, v23, .arr 3 49 [hI x19.2.1, hI x19.2.2.1, hI x19.2.2.2])]⟩ ?_
   refine AW.cond rfl (fun hc => ?_) (fun hc => ?_)
   ·obtain ⟨hc, h⟩ := cT hc h
    refine AW.rg rfl fun K hK => bv rfl (v_loadP ty27 rfl rfl (l_lit rfl rfl)) (bv rfl (v_fieldAddrP fo49_2 rfl rfl) (bv rfl (v_loadP ty3 rfl rfl (l_lit rfl rfl)) ?_))
    refine b_op rfl (o_bsl rfl rfl (as_of (cs := [hI x19.2.2.2]) ty27 ty3 rfl rfl rfl rfl rfl) ?_)
    obtain ⟨h25, h⟩ := ifN h
    refine b_op rfl (o_appE eInt (l := a17) (m := [x19.2.2.2]) rfl rfl ty27 ty27 ty3 rfl rfl rfl rfl rfl h25 (fun v24 => ?_))
    refine b_op rfl (o_store (cs := [.ar 61050 v24 eInt.k 0 ((a17 ++ [x19.2.2.2]).length)]) (zs := [.ar 61050 v24 eInt.k 0 ((a17 ++ [x19.2.2.2]).length)]) rfl rfl rfl ty27 rfl rfl rfl rfl rfl ?_)
    refine b_nil (hK _ ?_)
    exact ⟨a17 ++ [x19.2.2.2], v24, h, (AS.le_of trivial ⟨rfl, rfl, rfl, trivial⟩)⟩
   obtain ⟨hc, h⟩ := cF hc h
   refine AW.skip ?_
   exact ⟨a17, w18, h, (AS.le_of trivial ⟨rfl, rfl, rfl, trivial⟩)⟩
  obtain ⟨hc, h⟩ := cF hc h
  refine AW.exit ?_
  exact to_L ⟨a9.2, w10, h, rfl⟩
 refine AW.rg rfl fun K hK => bv rfl (v_loadF ty3 rfl (l_lit rfl rfl)) (bv rfl (v_bin rfl rfl b_lss) (mv rfl rfl ?_))
 by_cases hg34 : p2 < 0
 ·have h := ifT hg34 h
  refine b_F rfl rfl rfl rfl rfl (decide_eq_true hg34) ?_
  refine b_F rfl rfl rfl rfl rfl rfl ?_
  refine b_F rfl rfl rfl rfl rfl rfl ?_
  refine b_F rfl rfl rfl rfl rfl rfl ?_
  refine bv rfl (v_pickT rfl rfl rfl) ?_
  refine b_nil (hK _ ?_)
  exact to_L ⟨true, (), h, rfl⟩
 have h := ifF hg34 h
 refine b_T rfl rfl rfl rfl (decide_eq_false hg34) (o_val rfl (v_loadF ty3 rfl (l_lit rfl rfl)) ?_)
 refine b_T rfl rfl rfl rfl rfl (o_val rfl (v_fieldAddrF fo24_0 rfl) ?_)
 refine b_T rfl rfl rfl rfl rfl (o_val rfl (v_loadF ty3 rfl (l_lit rfl rfl)) ?_)
 refine b_T rfl rfl rfl rfl rfl (o_val rfl (v_bin rfl rfl b_geq) ?_)
 refine bv rfl (v_pickF rfl rfl rfl) ?_
 refine b_nil (hK _ ?_)
 exact to_L ⟨decide (p0.1 ≤ p2), (), h, rfl⟩
theorem w_subset_build {p0 : TLabelsStatesEdges} {p1 : List (Int)} {r : TLabelsStatesEdges × (List (List (Int))) × Int} (h : m_subset_build p0 p1 = some r) : Pure Tryz.prog 29 [gA p0, slE eInt p1] (· = HV.tup [.agg [hI r.1.1, hI r.1.2.1, slE eFromLabelTo r.1.2.2], slE (eSl eInt) r.2.1, hI r.2.2]) := by
 unfold m_subset_build at h
 refine Pure.of_body Tryz.func29 rfl rfl (lb rfl) fun hf => ?_
 unfold Tryz.f29
 dsimp only [enumS, Nat.reduceAdd]
 refine AW.rgs rfl fun K hK => b_op rfl (o_box rfl rfl rfl ?_)
 refine b_op rfl (o_alloc (fid := 29) (zs := [hI 0, hI 0, .v (.slice none 0 0)]) 29004 rfl rfl ty24 rfl (fun v1 => ?_))
 refine mv rfl rfl (mv rfl rfl ?_)
 let O1 : Nat × Nat × AObj := (29004, v1, .arr 3 24 [hI 0, hI 0, .v (.slice none 0 0)])
 refine bf hK ⟨[(1, slE eInt p1), (2, gF p0), (4, .ptr 29004 v1 0)], [O1]⟩ ?_
 refine AW.rgs rfl fun K hK => b_op rfl (o_makeMap (fid := 29) (HV.int .i64) 29011 rfl rfl (fun v2 => ?_))
 refine mv rfl rfl ?_
 obtain ⟨x3, h4, h⟩ := bS h
 refine b_op rfl (o_call rfl rfl rfl rfl (ACallD.pure0 (w_subset_key h4)) ?_)
 refine b_op rfl (o_mapSet (HV.int .i64) (es := ([] : List (List UInt8 × Int))) (k := x3) (v := 0) (.inr rfl) ty80 ty9 rfl rfl rfl rfl trivial ?_)
 refine mv rfl rfl ?_
 refine b_op rfl (o_alloc (fid := 29) (zs := [.v (.map none)]) 29007 rfl rfl ty80 rfl (fun v5 => ?_))
 refine b_op rfl (o_store (cs := [.mp 29011 v2]) (zs := [.mp 29011 v2]) rfl rfl rfl ty80 rfl rfl rfl rfl rfl ?_)
 let O2 : Nat × Nat × AObj := (29011, v2, .map (entE (HV.int .i64) (mputN x3 0 ([] : List (List UInt8 × Int)))))
 let O3 : Nat × Nat × AObj := (29007, v5, .arr 1 80 [.mp 29011 v2])
 refine bf hK ⟨[(1, slE eInt p1), (2, gF p0), (4, .ptr 29004 v1 0), (7, .ptr 29007 v5 0)], [O1, O2, O3]⟩ ?_
 refine AW.rgs rfl fun K hK => mv rfl rfl ?_
 obtain ⟨x6, h7, h⟩ := bS h
 refine b_op rfl (o_call rfl rfl rfl rfl (ACallD.pure0 (w_slices_Clone_Lint_int h7)) ?_)
 refine b_op rfl (o_bslM (fid := 29) 29017 rfl rfl rfl (as_of (cs := [slE eInt x6]) ty35 ty27 rfl rfl rfl rfl rfl) (fun v8 => ?_))
 refine b_op rfl (o_alloc (fid := 29) (zs := [.v (.slice none 0 0)]) 29008 rfl rfl ty35 rfl (fun v9 => ?_))
 refine b_op rfl (o_store (cs := [.ar 29017 v8 (eSl eInt).k 0 (([x6]).length)]) (zs := [.ar 29017 v8 (eSl eInt).k 0 (([x6]).length)]) rfl rfl rfl ty35 rfl rfl rfl rfl rfl ?_)
 let O4 : Nat × Nat × AObj := (29017, v8, .arr (eSl eInt).k 27 ((eSl eInt).E [x6]))
 let O5 : Nat × Nat × AObj := (29008, v9, .arr 1 35 [.ar 29017 v8 (eSl eInt).k 0 (([x6]).length)])
 let P1 : ASf := fun t H => ⟨(2, gF p0) :: (4, .ptr 29004 v1 0) :: (7, .ptr 29007 v5 0) :: (8, .ptr 29008 v9 0) :: t, O1 :: H⟩
 refine bf hK (P1 [] [O2, O3, O4, O5]) ?_
 refine AW.rgs rfl fun K hK => bv rfl (v_fieldAddrF fo24_0 rfl) (bv rfl (v_loadF ty3 rfl (l_lit rfl rfl)) ?_)
 refine b_op rfl (o_build (cs := [hI p0.1, hI 0, .v (.slice none 0 0)]) rfl (bl_of ty24 rfl rfl rfl rfl) ?_)
 refine b_op rfl (o_alloc (fid := 29) (zs := [hI 0, hI 0, .v (.slice none 0 0)]) 29009 rfl rfl ty24 rfl (fun v10 => ?_))
 refine b_op rfl (o_store (cs := [hI p0.1, hI 0, .v (.slice none 0 0)]) (zs := [hI p0.1, hI 0, .v (.slice none 0 0)]) rfl rfl rfl ty24 rfl rfl rfl rfl rfl ?_)
 refine bf hK (P1 [(9, .ptr 29009 v10 0)] [O2, O3, O4, O5, (29009, v10, .arr 3 24 [hI p0.1, hI 0, .v (.slice none 0 0)])]) ?_
 refine AW.seq ?_
 refine AW.rgs rfl fun K hK => b_op rfl (o_alloc (fid := 29) (zs := [hI 0]) 29010 rfl rfl ty3 rfl (fun v11 => ?_))
 refine b_op rfl (o_store (cs := [hI 0]) (zs := [hI 0]) rfl rfl rfl ty3 rfl rfl rfl rfl rfl ?_)
 refine bf hK (P1 [(9, .ptr 29009 v10 0), (10, .ptr 29010 v11 0)] [O2, O3, O4, O5, (29009, v10, .arr 3 24 [hI p0.1, hI 0, .v (.slice none 0 0)]), (29010, v11, .arr 1 3 [hI 0])]) ?_
 let P2 : ASf := fun t H => ⟨(4, .ptr 29004 v1 0) :: (8, .ptr 29008 v9 0) :: (9, .ptr 29009 v10 0) :: t, O1 :: H⟩
 refine AW.lpR h (by first | exact up_then | exact up_to) (S := (List TFromLabelTo) × Int × (List (List UInt8 × Int)) × (List (List (Int)))) (V := Nat × Nat × Nat) (fun a v => (P1 [(9, .ptr 29009 v10 0), (10, .ptr 29010 v.2.1 0)] [O3, (29008, v9, .arr 1 35 [.ar 29017 v.2.2 (eSl eInt).k 0 ((a.2.2.2).length)]), (29009, v10, .arr 3 24 [hI p0.1, hI 0, .ar 20002036 v.1 eFromLabelTo.k 0 ((a.1).length)]), (20002036, v.1, .arr eFromLabelTo.k 49 (eFromLabelTo.E a.1)), (29010, v.2.1, .arr 1 3 [hI a.2.1]), (29011, v2, .map (entE (HV.int .i64) a.2.2.1)), (29017, v.2.2, .arr (eSl eInt).k 27 ((eSl eInt).E a.2.2.2))])) ?_ (X := (List TFromLabelTo) × (List (List (Int)))) (W := Nat × Nat) (fun a v => (P2 [] [(29008, v9, .arr 1 35 [.ar 29017 v.2 (eSl eInt).k 0 ((a.2).length)]), (29009, v10, .arr 3 24 [hI p0.1, hI 0, .ar 20002036 v.1 eFromLabelTo.k 0 ((a.1).length)]), (20002036, v.1, .arr eFromLabelTo.k 49 (eFromLabelTo.E a.1)), (29017, v.2, .arr (eSl eInt).k 27 ((eSl eInt).E a.2))])) (fun a54 w55 h => ?_) (fun a12 w13 st14 h hr15=> ?_)
 ·refine to_bind (to_ownC 20002036 29009 v10 3 2 eFromLabelTo.k 49 24 rfl rfl (by decide) fun v53 => ?_)
  exact to_le (s' := (P1 [(9, .ptr 29009 v10 0), (10, .ptr 29010 v11 0)] [O3, O5, (29009, v10, .arr 3 24 [hI p0.1, hI 0, .ar 20002036 v53 eFromLabelTo.k 0 ((([] : List TFromLabelTo)).length)]), (20002036, v53, .arr eFromLabelTo.k 49 (eFromLabelTo.E ([] : List TFromLabelTo))), (29010, v11, .arr 1 3 [hI 0]), O2, O4])) (AS.le_of ⟨rfl, rfl, rfl, rfl, rfl, rfl, trivial⟩ ⟨rfl, rfl, rfl, hle rfl (by first | rfl | simp only [List.length_set, sortI_len, sortS_len]), rfl, rfl, rfl, rfl, trivial⟩) ⟨(v53, v11, v8), rfl⟩
 ·refine AW.rgs rfl fun K hK => bv rfl (v_loadP ty35 rfl rfl (l_lit rfl rfl)) (bv rfl (v_lenA rfl rfl ty35 rfl rfl) (bv rfl (v_fieldAddrP fo24_1 rfl rfl) ?_))
  refine b_op rfl (o_store (cs := [hI (((a54.2).length : Nat) : Int)]) (zs := [hI p0.1, hI (((a54.2).length : Nat) : Int), .ar 20002036 w55.1 eFromLabelTo.k 0 ((a54.1).length)]) rfl rfl rfl ty3 rfl rfl rfl rfl rfl ?_)
  let O6 : Nat × Nat × AObj := (29008, v9, .arr 1 35 [.ar 29017 w55.2 (eSl eInt).k 0 ((a54.2).length)])
  let O7 : Nat × Nat × AObj := (29009, v10, .arr 3 24 [hI p0.1, hI (((a54.2).length : Nat) : Int), .ar 20002036 w55.1 eFromLabelTo.k 0 ((a54.1).length)])
  let O8 : Nat × Nat × AObj := (20002036, w55.1, .arr eFromLabelTo.k 49 (eFromLabelTo.E a54.1))
  let O9 : Nat × Nat × AObj := (29017, w55.2, .arr (eSl eInt).k 27 ((eSl eInt).E a54.2))
  refine bf hK (P2 [] [O6, O7, O8, O9]) ?_
  refine AW.dls follows fun K hK F hF => ?_
  refine l_go (L' := []) hF rfl (s' := (P2 [] [O6, O7, O8, O9])) ?_ (le_q rfl rfl)
  let P : ASf := fun t H => ⟨(4, .ptr 29004 v1 0) :: t, (29004, v1, .arr 3 24 [hI p0.1, hI (((a54.2).length : Nat) : Int), .ar 20002036 w55.1 eFromLabelTo.k 0 ((a54.1).length)]) :: (29008, v9, .arr 1 35 [.ar 29017 w55.2 (eSl eInt).k 0 ((a54.2).length)]) :: (29009, v10, .arr 3 24 [hI p0.1, hI (((a54.2).length : Nat) : Int), .ar 20002036 w55.1 eFromLabelTo.k 0 ((a54.1).length)]) :: (20002036, w55.1, .arr eFromLabelTo.k 49 (eFromLabelTo.E a54.1)) :: (29017, w55.2, .arr (eSl eInt).k 27 ((eSl eInt).E a54.2)) :: H⟩
  have g56_6 : F [0, 1, 2, 3, 4] (P [(5, .ar 29017 w55.2 (eSl eInt).k 0 ((a54.2).length)), (6, hI 0)] []) := by
   let O10 : Nat × Nat × AObj := (29004, v1, .arr 3 24 [hI p0.1, hI (((a54.2).length : Nat) : Int), .ar 20002036 w55.1 eFromLabelTo.k 0 ((a54.1).length)])
   refine l_done hF rfl rfl (hK _ (AW.to (to_le (s' := ⟨[(4, .ptr 29004 v1 0), (5, .ar 29017 w55.2 (eSl eInt).k 0 ((a54.2).length)), (6, hI 0)], [O10, O8, O9]⟩) (le_q rfl rfl) ?_)))
   refine AW.to (to_frz 2 [(29017, w55.2, .arr (eSl eInt).k 27 ((eSl eInt).E a54.2))] ⟨[(4, .ptr 29004 v1 0), (5, slE (eSl eInt) a54.2), (6, hI 0)], [O10, O8]⟩ ⟨⟨_, rfl, rfl⟩, ⟨_, rfl, frz_slE (eSl eInt) (l := a54.2) rfl fun _ _ => rfl⟩, ⟨_, rfl, rfl⟩, trivial⟩ ⟨rfl, rfl, trivial⟩ ⟨rfl, trivial⟩ ⟨rfl, trivial⟩ ?_)
   refine AW.to (to_fill 2 [(20002036, w55.1, .arr eFromLabelTo.k 49 (eFromLabelTo.E a54.1))] ⟨[(4, .ptr 29004 v1 0), (5, slE (eSl eInt) a54.2), (6, hI 0)], [(29004, v1, .arr 3 24 [hI p0.1, hI (((a54.2).length : Nat) : Int), slE eFromLabelTo a54.1])]⟩ ⟨⟨_, rfl, rfl⟩, ⟨_, rfl, rfl⟩, ⟨_, rfl, rfl⟩, trivial⟩ ⟨.inr ⟨_, _, _, rfl, congrArg (AObj.arr 3 24) (congrArg (fun z : HV => [hI p0.1, hI (((a54.2).length : Nat) : Int), z]) (frz_slE eFromLabelTo (D := [(20002036, w55.1, .arr eFromLabelTo.k 49 (eFromLabelTo.E a54.1))]) (l := a54.1) rfl fun _ _ => rfl).symm)⟩, trivial⟩ ⟨rfl, trivial⟩ ⟨rfl, trivial⟩ ?_)
   refine AW.ret ?_
   have h := Option.some.inj h
   subst h
   exact ret_pure (hs := [.agg [hI p0.1, hI (((a54.2).length : Nat) : Int), slE eFromLabelTo a54.1], slE (eSl eInt) a54.2, hI 0]) (.inr rfl) (resP ty24 rfl rfl (l_litA rfl (lb rfl) rfl) (resT rfl (resT rfl rfl))) rfl ⟨⟨trivial, trivial, (clean_slE fun _ _ => ⟨trivial, trivial, trivial, trivial⟩), trivial⟩, (clean_slE fun _ _ => ⟨(clean_slE fun _ _ => ⟨trivial, trivial⟩), trivial⟩), trivial, trivial⟩
  have g56_5 : F [0, 1, 2, 3] (P [(5, .ar 29017 w55.2 (eSl eInt).k 0 ((a54.2).length))] []) := by
   refine l_step hF rfl [4] rfl rfl ⟨?_, trivial⟩
   ·exact l_ov rfl rfl rfl rfl (mv_val rfl rfl).2 (lg hF (g56_6))
  have g56_4 : F [0, 1, 2] (P [(49, .ar 29017 w55.2 (eSl eInt).k 0 ((a54.2).length))] []) := by
   refine l_step hF rfl [3] rfl rfl ⟨?_, trivial⟩
   ·exact l_ov rfl rfl rfl rfl (mv_val rfl rfl).2 (lg hF (g56_5))
  let E11 : Nat × HV := (48, .agg [hI p0.1, hI (((a54.2).length : Nat) : Int), .ar 20002036 w55.1 eFromLabelTo.k 0 ((a54.1).length)])
  let P3 : ASf := fun t H => ⟨(4, .ptr 29004 v1 0) :: t, O1 :: O6 :: O7 :: O8 :: O9 :: H⟩
  have g56_3 : F [0, 1] (P3 [E11, (49, .ar 29017 w55.2 (eSl eInt).k 0 ((a54.2).length))] []) := by
   refine l_step hF rfl [2] rfl rfl ⟨?_, trivial⟩
   ·refine l_op rfl rfl rfl (o_store (cs := [hI p0.1, hI (((a54.2).length : Nat) : Int), .ar 20002036 w55.1 eFromLabelTo.k 0 ((a54.1).length)]) (zs := [hI p0.1, hI (((a54.2).length : Nat) : Int), .ar 20002036 w55.1 eFromLabelTo.k 0 ((a54.1).length)]) rfl rfl rfl ty24 rfl rfl rfl rfl rfl ?_)
    exact b_nil (lg hF (g56_4))
  have g56_7 : F [0, 2] (P [(8, .ptr 29008 v9 0)] []) := by
   refine l_step hF rfl [1] rfl rfl ⟨?_, trivial⟩
   ·exact l_ov rfl rfl rfl rfl (v_loadP ty35 rfl rfl (l_lit rfl rfl)) (lg hF (g56_4))
  have g56_1 : F [0] (P3 [(8, .ptr 29008 v9 0), E11] []) := by
   refine l_step hF rfl [1, 2] rfl rfl ⟨?_, ?_, trivial⟩
   ·exact l_ov rfl rfl rfl rfl (v_loadP ty35 rfl rfl (l_lit rfl rfl)) (lg hF (g56_3))
   ·refine l_op rfl rfl rfl (o_store (cs := [hI p0.1, hI (((a54.2).length : Nat) : Int), .ar 20002036 w55.1 eFromLabelTo.k 0 ((a54.1).length)]) (zs := [hI p0.1, hI (((a54.2).length : Nat) : Int), .ar 20002036 w55.1 eFromLabelTo.k 0 ((a54.1).length)]) rfl rfl rfl ty24 rfl rfl rfl rfl rfl ?_)
    exact b_nil (lg hF (g56_7))
  have g56_2 : F [1] (P3 [(9, .ptr 29009 v10 0), (49, .ar 29017 w55.2 (eSl eInt).k 0 ((a54.2).length))] []) := by
   refine l_step hF rfl [0] rfl rfl ⟨?_, trivial⟩
   ·exact l_ov rfl rfl rfl rfl (v_loadP ty24 rfl rfl (l_litA rfl (lb rfl) rfl)) (lg hF (g56_3))
  have g56_0 : F [] (P2 [] [O6, O7, O8, O9]) := by
   refine l_step hF rfl [0, 1] rfl rfl ⟨?_, ?_, trivial⟩
   ·exact l_ov rfl rfl rfl rfl (v_loadP ty24 rfl rfl (l_litA rfl (lb rfl) rfl)) (lg hF (g56_1))
   ·exact l_ov rfl rfl rfl rfl (v_loadP ty35 rfl rfl (l_lit rfl rfl)) (lg hF (g56_2))
  exact g56_0
 refine AW.seq ?_
 refine AW.rgs rfl fun K hK => bv rfl (v_loadP ty3 rfl rfl (l_lit rfl rfl)) (bv rfl (v_loadP ty35 rfl rfl (l_lit rfl rfl)) (bv rfl (v_lenA rfl rfl ty35 rfl rfl) (bv rfl (v_bin rfl rfl b_lss) ?_)))
 let E12 : Nat × HV := (10, .ptr 29010 w13.2.1 0)
 let O13 : Nat × Nat × AObj := (29008, v9, .arr 1 35 [.ar 29017 w13.2.2 (eSl eInt).k 0 ((a12.2.2.2).length)])
 let O14 : Nat × Nat × AObj := (29009, v10, .arr 3 24 [hI p0.1, hI 0, .ar 20002036 w13.1 eFromLabelTo.k 0 ((a12.1).length)])
 let O15 : Nat × Nat × AObj := (20002036, w13.1, .arr eFromLabelTo.k 49 (eFromLabelTo.E a12.1))
 let O16 : Nat × Nat × AObj := (29010, w13.2.1, .arr 1 3 [hI a12.2.1])
 let O17 : Nat × Nat × AObj := (29011, v2, .map (entE (HV.int .i64) a12.2.2.1))
 let O18 : Nat × Nat × AObj := (29017, w13.2.2, .arr (eSl eInt).k 27 ((eSl eInt).E a12.2.2.2))
 refine bf hK (P1 [(9, .ptr 29009 v10 0), E12, (24, .bool (decide (a12.2.1 < (((a12.2.2.2).length : Nat) : Int))))] [O3, O13, O14, O15, O16, O17, O18]) ?_
 refine AW.cond rfl (fun hc => ?_) (fun hc => ?_)
 ·obtain ⟨hc, h⟩ := cT hc h
  refine AW.skip ?_
  refine AW.seq (AW.block ?_)
  refine AW.dgs 6 follows rfl rfl fun K hK => ?_
  refine sv rfl (v_loadF ty24 rfl (l_litA rfl (lb rfl) rfl)) ?_
  refine sv rfl (v_loadP ty35 rfl rfl (l_lit rfl rfl)) ?_
  refine sv rfl (v_loadP ty3 rfl rfl (l_lit rfl rfl)) ?_
  obtain ⟨x16, h17, h⟩ := bS h
  refine sv rfl (v_idxA ty35 es35 rfl rfl (idx_lt h17) rfl) ?_
  obtain ⟨x18, h19, h⟩ := bS h
  refine sv rfl (v_loadP ty27 rfl rfl (l_cell (eSl eInt) h19 (o := 0) rfl rfl)) ?_
  refine sv rfl (v_func rfl rfl) ?_
  refine s_nil ?_
  refine b_op rfl (o_callJ h (S := (List TFromLabelTo) × (List (List UInt8 × Int)) × (List (List (Int)))) (V := Nat × Nat) (fun a v => (P1 [(9, .ptr 29009 v10 0), E12, (33, .tup [])] [O3, (29008, v9, .arr 1 35 [.ar 29017 v.2 (eSl eInt).k 0 ((a.2.2).length)]), (29009, v10, .arr 3 24 [hI p0.1, hI 0, .ar 20002036 v.1 eFromLabelTo.k 0 ((a.1).length)]), (20002036, v.1, .arr eFromLabelTo.k 49 (eFromLabelTo.E a.1)), O16, (29011, v2, .map (entE (HV.int .i64) a.2.1)), (29017, v.2, .arr (eSl eInt).k 27 ((eSl eInt).E a.2.2))])) rfl rfl rfl rfl (fun a20 w21 h => ?_) (fun k22 h => ?_) )
  ·let O19 : Nat × Nat × AObj := (29008, v9, .arr 1 35 [.ar 29017 w21.2 (eSl eInt).k 0 ((a20.2.2).length)])
   let O20 : Nat × Nat × AObj := (29009, v10, .arr 3 24 [hI p0.1, hI 0, .ar 20002036 w21.1 eFromLabelTo.k 0 ((a20.1).length)])
   let O21 : Nat × Nat × AObj := (20002036, w21.1, .arr eFromLabelTo.k 49 (eFromLabelTo.E a20.1))
   let O22 : Nat × Nat × AObj := (29011, v2, .map (entE (HV.int .i64) a20.2.1))
   let O23 : Nat × Nat × AObj := (29017, w21.2, .arr (eSl eInt).k 27 ((eSl eInt).E a20.2.2))
   refine bf hK (P1 [(9, .ptr 29009 v10 0), E12] [O3, O19, O20, O21, O16, O22, O23]) ?_
   refine AW.seqJ h (S := Bool) (V := Unit) (fun a v => (P1 [(9, .ptr 29009 v10 0), E12, (42, .bool a)] [O3, O19, O20, O21, O16, O22, O23])) (fun a23 w24 h => ?_) (fun k25 h => ?_)
   ·refine AW.cond rfl (fun hc => ?_) (fun hc => ?_)
    ·have h := ifT hc h
     refine AW.rgs rfl fun K hK => b_op rfl (o_build (cs := [hI 0, hI 0, .v (.slice none 0 0)]) rfl (bl_of ty24 rfl rfl rfl rfl) ?_)
     refine b_op rfl (o_store (cs := [hI 0, hI 0, .v (.slice none 0 0)]) (zs := [hI 0, hI 0, .v (.slice none 0 0)]) rfl rfl rfl ty24 rfl rfl rfl rfl rfl ?_)
     refine mv rfl rfl (mv rfl rfl ?_)
     refine bf hK ⟨[(4, .ptr 29004 v1 0), (5, .v (.slice none 0 0)), (6, hI 4)], [O1]⟩ ?_
     have h := hr15 _ h
     refine AW.to (to_weak ⟨[(4, .ptr 29004 v1 0), (5, slE (eSl eInt) ([] : List (List (Int)))), (6, hI 4)], [O1]⟩ ⟨⟨_, rfl, .refl _⟩, ⟨_, rfl, .nil _⟩, ⟨_, rfl, .refl _⟩, trivial⟩ ⟨rfl, trivial⟩ ?_)
     refine AW.to (to_cells 29004 v1 (ds := [hI 0, hI 0, slE eFromLabelTo ([] : List TFromLabelTo)]) rfl (.cons (.refl _) <| .cons (.refl _) <| .cons (.nil _) <| .nil) ?_)
     refine AW.ret ?_
     have h := Option.some.inj h
     subst h
     exact ret_pure (hs := [.agg [hI 0, hI 0, slE eFromLabelTo ([] : List TFromLabelTo)], slE (eSl eInt) ([] : List (List (Int))), hI 4]) (.inr rfl) (resP ty24 rfl rfl (l_litA rfl (lb rfl) rfl) (resT rfl (resT rfl rfl))) rfl ⟨⟨trivial, trivial, (clean_slE fun _ _ => ⟨trivial, trivial, trivial, trivial⟩), trivial⟩, (clean_slE fun _ _ => ⟨(clean_slE fun _ _ => ⟨trivial, trivial⟩), trivial⟩), trivial, trivial⟩
    have h := ifF (bF' hc) h
    refine AW.skip ?_
    refine AW.seq ?_
    refine AW.rgs rfl fun K hK => bv rfl (v_loadP ty3 rfl rfl (l_lit rfl rfl)) ?_
    refine bf hK (P1 [(9, .ptr 29009 v10 0), (44, hI a12.2.1)] [O3, O19, O20, O21, O22, O23]) ?_
    refine AW.rg rfl fun K hK => b_op rfl (o_alloc (fid := 29) (zs := [hI 0]) 29010 rfl rfl ty3 rfl (fun v26 => ?_))
    refine b_op rfl (o_store (cs := [hI a12.2.1]) (zs := [hI a12.2.1]) rfl rfl rfl ty3 rfl rfl rfl rfl rfl ?_)
    refine bf hK (P1 [(9, .ptr 29009 v10 0), (10, .ptr 29010 v26 0)] [O3, O19, O20, O21, O22, O23, (29010, v26, .arr 1 3 [hI a12.2.1])]) ?_
    refine AW.rg rfl fun K hK => bv rfl (v_loadP ty3 rfl rfl (l_lit rfl rfl)) (bv rfl (v_bin rfl rfl b_add) ?_)
    refine b_op rfl (o_store (cs := [hI (IntKind.wrap .i64 (a12.2.1 + 1))]) (zs := [hI (IntKind.wrap .i64 (a12.2.1 + 1))]) rfl rfl rfl ty3 rfl rfl rfl rfl rfl ?_)
    refine b_nil (hK _ ?_)
    exact to_L ⟨(a20.1, IntKind.wrap .i64 (a12.2.1 + 1), a20.2.1, a20.2.2), (w21.1, v26, w21.2), h, rfl⟩
   refine AW.rg rfl fun K hK => bv rfl (v_loadP ty35 rfl rfl (l_lit rfl rfl)) (bv rfl (v_lenA rfl rfl ty35 rfl rfl) (bv rfl (v_bin rfl rfl b_gtr) (mv rfl rfl ?_)))
   by_cases hg27 : 64 < (((a20.2.2).length : Nat) : Int)
   ·have h := ifT hg27 h
    refine b_F rfl rfl rfl rfl rfl (decide_eq_true hg27) ?_
    refine b_F rfl rfl rfl rfl rfl rfl ?_
    refine b_F rfl rfl rfl rfl rfl rfl ?_
    refine b_F rfl rfl rfl rfl rfl rfl ?_
    refine bv rfl (v_pickT rfl rfl rfl) ?_
    refine b_nil (hK _ ?_)
    exact to_L ⟨true, (), h, rfl⟩
   have h := ifF hg27 h
   refine b_T rfl rfl rfl rfl (decide_eq_false hg27) (o_val rfl (v_fieldAddrP fo24_2 rfl rfl) ?_)
   refine b_T rfl rfl rfl rfl rfl (o_val rfl (v_loadP ty22 rfl rfl (l_lit rfl rfl)) ?_)
   refine b_T rfl rfl rfl rfl rfl (o_val rfl (v_lenA rfl rfl ty22 rfl rfl) ?_)
   refine b_T rfl rfl rfl rfl rfl (o_val rfl (v_bin rfl rfl b_gtr) ?_)
   refine bv rfl (v_pickF rfl rfl rfl) ?_
   refine b_nil (hK _ ?_)
   exact to_L ⟨decide (1024 < (((a20.1).length : Nat) : Int)), (), h, rfl⟩
  refine ACall.of_body Tryz.func48 rfl rfl (lb rfl) ?_
  unfold Tryz.f48
  dsimp only [enumS, Nat.reduceAdd]
  refine AW.fin ?_
  refine AW.rgs rfl fun K hK => b_op rfl (o_box rfl rfl rfl ?_)
  let E24 : Nat × HV := (2, .fn (.func 49) [] [.ptr 29007 v5 0, .ptr 29008 v9 0, .ptr 29009 v10 0, .ptr 29010 w13.2.1 0])
  let P4 : ASf := fun t H => ⟨(1, slE eInt x18) :: E24 :: (3, gF p0) :: t, H⟩
  refine bf hK (P4 [] [O1, O3, O13, O14, O15, O16, O17, O18]) ?_
  refine AW.rgs rfl fun K hK => bv rfl (v_fieldAddrF fo24_0 rfl) (bv rfl (v_loadF ty3 rfl (l_lit rfl rfl)) (mv rfl rfl ?_))
  refine bf hK (P4 [(10, hI p0.1), (11, hI 0)] [O1, O3, O13, O14, O15, O16, O17, O18]) ?_
  refine AW.lpX h (by first | exact up_then | exact up_to) (S := Int × (List TFromLabelTo) × (List (List UInt8 × Int)) × (List (List (Int)))) (V := Nat × Nat) (fun a v => (P4 [(10, hI p0.1), (11, hI a.1)] [(20002036, v.1, .arr eFromLabelTo.k 49 (eFromLabelTo.E a.2.1)), O1, O3, (29008, v9, .arr 1 35 [.ar 29017 v.2 (eSl eInt).k 0 ((a.2.2.2).length)]), (29009, v10, .arr 3 24 [hI p0.1, hI 0, .ar 20002036 v.1 eFromLabelTo.k 0 ((a.2.1).length)]), O16, (29011, v2, .map (entE (HV.int .i64) a.2.2.1)), (29017, v.2, .arr (eSl eInt).k 27 ((eSl eInt).E a.2.2.2))])) ?_ (X := (List TFromLabelTo) × (List (List UInt8 × Int)) × (List (List (Int)))) (W := Nat × Nat) (fun a v => ⟨[], [(20002036, v.1, .arr eFromLabelTo.k 49 (eFromLabelTo.E a.1)), (29004, v1, .arr 3 24 [hI 0, hI 0, .v (.slice none 0 0)]), (29007, v5, .arr 1 80 [.mp 29011 v2]), (29008, v9, .arr 1 35 [.ar 29017 v.2 (eSl eInt).k 0 ((a.2.2).length)]), (29009, v10, .arr 3 24 [hI p0.1, hI 0, .ar 20002036 v.1 eFromLabelTo.k 0 ((a.1).length)]), (29010, w13.2.1, .arr 1 3 [hI a12.2.1]), (29011, v2, .map (entE (HV.int .i64) a.2.1)), (29017, v.2, .arr (eSl eInt).k 27 ((eSl eInt).E a.2.2))]⟩) (fun a51 w52 h => ?_) (fun a28 w29 st30 h => ?_)
  ·exact to_L ⟨(w13.1, w13.2.2), rfl⟩
  ·refine to_refl ?_
   refine ret_to (hs := []) (q := HV.tup []) (.inl rfl) rfl rfl ?_
   exact to_L ⟨(a51.1, a51.2.1, a51.2.2), (w52.1, w52.2), h, rfl⟩
  refine AW.rgs rfl fun K hK => bv rfl (v_bin rfl rfl b_lss) ?_
  let O25 : Nat × Nat × AObj := (20002036, w29.1, .arr eFromLabelTo.k 49 (eFromLabelTo.E a28.2.1))
  let O26 : Nat × Nat × AObj := (29008, v9, .arr 1 35 [.ar 29017 w29.2 (eSl eInt).k 0 ((a28.2.2.2).length)])
  let O27 : Nat × Nat × AObj := (29009, v10, .arr 3 24 [hI p0.1, hI 0, .ar 20002036 w29.1 eFromLabelTo.k 0 ((a28.2.1).length)])
  let O28 : Nat × Nat × AObj := (29011, v2, .map (entE (HV.int .i64) a28.2.2.1))
  let O29 : Nat × Nat × AObj := (29017, w29.2, .arr (eSl eInt).k 27 ((eSl eInt).E a28.2.2.2))
  refine bf hK (P4 [(10, hI p0.1), (11, hI a28.1), (12, .bool (decide (a28.1 < p0.1)))] [O25, O1, O3, O26, O27, O16, O28, O29]) ?_
  refine AW.cseq rfl (fun hc => ?_) (fun hc => ?_)
  ·obtain ⟨hc, h⟩ := cT hc h
   refine AW.skip ?_
   refine AW.seqJ h (S := (List TFromLabelTo) × (List (List UInt8 × Int)) × (List (List (Int)))) (V := Nat × Nat) (fun a v => (P4 [(10, hI p0.1), (11, hI a28.1)] [(20002036, v.1, .arr eFromLabelTo.k 49 (eFromLabelTo.E a.1)), O1, O3, (29008, v9, .arr 1 35 [.ar 29017 v.2 (eSl eInt).k 0 ((a.2.2).length)]), (29009, v10, .arr 3 24 [hI p0.1, hI 0, .ar 20002036 v.1 eFromLabelTo.k 0 ((a.1).length)]), O16, (29011, v2, .map (entE (HV.int .i64) a.2.1)), (29017, v.2, .arr (eSl eInt).k 27 ((eSl eInt).E a.2.2))])) (fun a32 w33 h => ?_) (fun k34 h => ?_)
   ·refine AW.rg rfl fun K hK => bv rfl (v_bin rfl rfl b_add) (mv rfl rfl ?_)
    refine b_nil (hK _ ?_)
    exact to_L ⟨(IntKind.wrap .i64 (a28.1 + 1), a32.1, a32.2.1, a32.2.2), (w33.1, w33.2), h, rfl⟩
   refine AW.block ?_
   refine AW.rgs rfl fun K hK => mv rfl rfl (mv rfl rfl ?_)
   refine bf hK (P4 [(6, hI a28.1), (10, hI p0.1), (11, hI a28.1)] [O25, O1, O3, O26, O27, O16, O28, O29]) ?_
   refine AW.rgs rfl fun K hK => bv rfl (v_loadF ty24 rfl (l_litA rfl (lb rfl) rfl)) (mv rfl rfl (mv rfl rfl ?_))
   obtain ⟨x35, h36, h⟩ := bS h
   refine b_op rfl (o_call rfl rfl rfl rfl (ACallD.pure0 (w_graph_Step h36)) ?_)
   refine mv rfl rfl (bv rfl (v_extract rfl rfl) (bv rfl (v_extract rfl rfl) (mv rfl rfl (mv rfl rfl ?_))))
   refine bf hK (P4 [(6, hI a28.1), (7, slE eInt x35.1), (10, hI p0.1), (11, hI a28.1)] [O25, O1, O3, O26, O27, O16, O28, O29]) ?_
   refine AW.rgs rfl fun K hK => mv rfl rfl (bv rfl (v_lenF rfl rfl ty27 rfl) (bv rfl (v_bin rfl rfl b_gtr) ?_))
   refine bf hK (P4 [(6, hI a28.1), (7, slE eInt x35.1), (10, hI p0.1), (11, hI a28.1), (23, .bool (decide (0 < ((x35.1).length : Int))))] [O25, O1, O3, O26, O27, O16, O28, O29]) ?_
   refine AW.cond rfl (fun hc => ?_) (fun hc => ?_)
   ·obtain ⟨hc, h⟩ := cT hc h
    refine AW.rg rfl fun K hK => mv rfl rfl (mv rfl rfl (mv rfl rfl ?_))
    refine b_op rfl (o_callJ h (S := (List TFromLabelTo) × (List (List UInt8 × Int)) × (List (List (Int)))) (V := Nat × Nat) (fun a v => (P4 [(10, hI p0.1), (11, hI a28.1), (27, .tup [])] [(20002036, v.1, .arr eFromLabelTo.k 49 (eFromLabelTo.E a.1)), O1, O3, (29008, v9, .arr 1 35 [.ar 29017 v.2 (eSl eInt).k 0 ((a.2.2).length)]), (29009, v10, .arr 3 24 [hI p0.1, hI 0, .ar 20002036 v.1 eFromLabelTo.k 0 ((a.1).length)]), O16, (29011, v2, .map (entE (HV.int .i64) a.2.1)), (29017, v.2, .arr (eSl eInt).k 27 ((eSl eInt).E a.2.2))])) rfl rfl rfl rfl (fun a37 w38 h => ?_) (fun k39 h => ?_) )
    ·refine b_nil (hK _ ?_)
     exact to_L ⟨(a37.1, a37.2.1, a37.2.2), (w38.1, w38.2), h, rfl⟩
    refine ACall.of_body Tryz.func49 rfl rfl (lb rfl) ?_
    unfold Tryz.f49
    dsimp only [enumS, Nat.reduceAdd]
    refine AW.fin ?_
    refine AW.dys follows fun K hK => ?_
    refine y_st 3 rfl rfl ?_
    refine sv rfl (v_loadP ty80 rfl rfl (l_lit rfl rfl)) ?_
    refine sm rfl rfl ?_
    obtain ⟨x40, h41, h⟩ := bS h
    refine s_op rfl rfl (ops_call rfl rfl rfl rfl (ACallD.pure0 (w_subset_key h41)) ?_)
    refine s_nil ?_
    refine y_opX rfl rfl rfl rfl (fun hN => o_lookOk hN (HV.int .i64) (es := a28.2.2.1) (k := x40) (v := (mlook x40 a28.2.2.1).getD 0) rfl ty80 ty9 ty3 rfl rfl rfl rfl (look_dflt rfl) ?_)
    refine b_nil ?_
    refine y_st 9 rfl rfl ?_
    refine sm rfl rfl ?_
    refine sv rfl (v_extract rfl rfl) ?_
    refine sv rfl (v_extract rfl rfl) ?_
    refine sm rfl rfl ?_
    refine sm rfl rfl ?_
    refine s_nil ?_
    let E30 : Nat × HV := (5, .ptr 29010 w13.2.1 0)
    let P5 : ASf := fun t H => ⟨(0, hI a28.1) :: (1, slE eInt x35.1) :: (2, .ptr 29007 v5 0) :: (3, .ptr 29008 v9 0) :: (4, .ptr 29009 v10 0) :: E30 :: t, O25 :: O1 :: O3 :: O26 :: O27 :: O16 :: O28 :: O29 :: H⟩
    refine y_nil rfl (hK _ (AW.to (to_le (s' := (P5 [(8, hI ((mlook x40 a28.2.2.1).getD 0)), (9, .bool ((mlook x40 a28.2.2.1).isSome))] [])) (le_q rfl rfl) ?_)))
    refine AW.seq ?_
    refine AW.rgs rfl fun K hK => mv rfl rfl (bv rfl (v_not rfl) ?_)
    refine bf hK (P5 [(8, hI ((mlook x40 a28.2.2.1).getD 0)), (18, .bool (!((mlook x40 a28.2.2.1).isSome)))] []) ?_
    refine AW.lastJ h (by first | exact up_then | exact up_to) (S := Int × (List (List UInt8 × Int)) × (List (List (Int)))) (V := Nat) (fun a v => ⟨[(0, hI a28.1), (4, .ptr 29009 v10 0), E30, (8, hI a.1)], [O25, O1, O3, (29008, v9, .arr 1 35 [.ar 29017 v (eSl eInt).k 0 ((a.2.2).length)]), O27, O16, (29011, v2, .map (entE (HV.int .i64) a.2.1)), (29017, v, .arr (eSl eInt).k 27 ((eSl eInt).E a.2.2))]⟩) (fun a42 w43 h => ?_) (fun k44 h => ?_)
    ·refine AW.rg rfl fun K hK => bv rfl (v_fieldAddrP fo24_2 rfl rfl) (bv rfl (v_loadP ty22 rfl rfl (l_lit rfl rfl)) (bv rfl (v_loadP ty3 rfl rfl (l_lit rfl rfl)) (mv rfl rfl (mv rfl rfl ?_))))
     refine b_op rfl (o_build (cs := [hI a12.2.1, hI a28.1, hI a42.1]) rfl (bl_of ty49 rfl rfl rfl rfl) ?_)
     refine b_op rfl (o_bsl rfl rfl (as_of (cs := [hI a12.2.1, hI a28.1, hI a42.1]) ty22 ty49 rfl rfl rfl rfl rfl) ?_)
     obtain ⟨h46, h⟩ := ifN h
     refine b_op rfl (o_appE eFromLabelTo (l := a28.2.1) (m := [(a12.2.1, a28.1, a42.1)]) rfl rfl ty22 ty22 ty49 rfl rfl rfl rfl rfl h46 (fun v45 => ?_))
     refine bv rfl (v_fieldAddrP fo24_2 rfl rfl) ?_
     refine b_op rfl (o_store (cs := [.ar 20002036 v45 eFromLabelTo.k 0 ((a28.2.1 ++ [(a12.2.1, a28.1, a42.1)]).length)]) (zs := [hI p0.1, hI 0, .ar 20002036 v45 eFromLabelTo.k 0 ((a28.2.1 ++ [(a12.2.1, a28.1, a42.1)]).length)]) rfl rfl rfl ty22 rfl rfl rfl rfl rfl ?_)
     refine b_nil (hK _ ?_)
     refine to_refl ?_
     refine ret_to (hs := []) (q := HV.tup []) (.inl rfl) rfl rfl ?_
     exact to_L ⟨(a28.2.1 ++ [(a12.2.1, a28.1, a42.1)], a42.2.1, a42.2.2), (v45, w43), h, rfl⟩
    refine AW.cond rfl (fun hc => ?_) (fun hc => ?_)
    ·have h := ifT hc h
     refine AW.rgs rfl fun K hK => bv rfl (v_loadP ty35 rfl rfl (l_lit rfl rfl)) (bv rfl (v_lenA rfl rfl ty35 rfl rfl) (mv rfl rfl ?_))
     refine bf hK (P5 [(8, hI (((a28.2.2.2).length : Nat) : Int))] []) ?_
     refine AW.dgs 4 follows rfl rfl fun K hK => ?_
     refine sv rfl (v_loadP ty80 rfl rfl (l_lit rfl rfl)) ?_
     refine sm rfl rfl ?_
     obtain ⟨x47, h48, h⟩ := bS h
     refine s_op rfl rfl (ops_call rfl rfl rfl rfl (ACallD.pure0 (w_subset_key h48)) ?_)
     refine sm rfl rfl ?_
     refine s_nil ?_
     refine b_op rfl (o_mapSet (HV.int .i64) (es := a28.2.2.1) (k := x47) (v := (((a28.2.2.2).length : Nat) : Int)) (.inl rfl) ty80 ty9 rfl rfl rfl rfl trivial ?_)
     refine bf hK ⟨[(0, hI a28.1), (1, slE eInt x35.1), (3, .ptr 29008 v9 0), (4, .ptr 29009 v10 0), E30, (8, hI (((a28.2.2.2).length : Nat) : Int))], [O25, O1, O3, O26, O27, O16, (29011, v2, .map (entE (HV.int .i64) (mputN x47 (((a28.2.2.2).length : Nat) : Int) a28.2.2.1))), O29]⟩ ?_
     refine AW.rg rfl fun K hK => bv rfl (v_loadP ty35 rfl rfl (l_lit rfl rfl)) (mv rfl rfl ?_)
     refine b_op rfl (o_bsl rfl rfl (as_of (cs := [slE eInt x35.1]) ty35 ty27 rfl rfl rfl rfl rfl) ?_)
     obtain ⟨h50, h⟩ := ifN h
     refine b_op rfl (o_appE (eSl eInt) (l := a28.2.2.2) (m := [x35.1]) rfl rfl ty35 ty35 ty27 rfl rfl rfl rfl rfl h50 (fun v49 => ?_))
     refine b_op rfl (o_store (cs := [.ar 29017 v49 (eSl eInt).k 0 ((a28.2.2.2 ++ [x35.1]).length)]) (zs := [.ar 29017 v49 (eSl eInt).k 0 ((a28.2.2.2 ++ [x35.1]).length)]) rfl rfl rfl ty35 rfl rfl rfl rfl rfl ?_)
     refine b_nil (hK _ ?_)
     exact to_L ⟨((((a28.2.2.2).length : Nat) : Int), mputN x47 (((a28.2.2.2).length : Nat) : Int) a28.2.2.1, a28.2.2.2 ++ [x35.1]), v49, h, rfl⟩
    have h := ifF (bF' hc) h
    refine AW.skip ?_
    exact to_L ⟨((mlook x40 a28.2.2.1).getD 0, a28.2.2.1, a28.2.2.2), w29.2, h, rfl⟩
   obtain ⟨hc, h⟩ := cF hc h
   refine AW.skip ?_
   exact to_L ⟨(a28.2.1, a28.2.2.1, a28.2.2.2), (w29.1, w29.2), h, rfl⟩
  obtain ⟨hc, h⟩ := cF hc h
  refine AW.exit ?_
  exact to_L ⟨(a28.2.1, a28.2.2.1, a28.2.2.2), (w29.1, w29.2), h, rfl⟩
 obtain ⟨hc, h⟩ := cF hc h
 refine AW.exit ?_
 exact to_L ⟨(a12.1, a12.2.2.2), (w13.1, w13.2.2), h, rfl⟩
theorem w_subset_Build {p0 : TLabelsStatesEdges} {r : TLabelsStatesEdges × (List (List (Int))) × Int} (h : m_subset_Build p0 = some r) : Pure Tryz.prog 15 [gA p0] (· = HV.tup [.agg [hI r.1.1, hI r.1.2.1, slE eFromLabelTo r.1.2.2], slE (eSl eInt) r.2.1, hI r.2.2]) := by
 unfold m_subset_Build at h
 refine Pure.of_body Tryz.func15 rfl rfl (lb rfl) fun hf => ?_
 unfold Tryz.f15
 dsimp only [enumS, Nat.reduceAdd]
 refine AW.rgs rfl fun K hK => b_op rfl (o_box rfl rfl rfl ?_)
 refine b_op rfl (o_alloc (fid := 15) (zs := [hI 0, hI 0, .v (.slice none 0 0)]) 15002 rfl rfl ty24 rfl (fun v1 => ?_))
 refine mv rfl rfl (mv rfl rfl ?_)
 let O1 : Nat × Nat × AObj := (15002, v1, .arr 3 24 [hI 0, hI 0, .v (.slice none 0 0)])
 let P1 : ASf := fun t H => ⟨(1, gF p0) :: (2, .ptr 15002 v1 0) :: t, O1 :: H⟩
 refine bf hK (P1 [] []) ?_
 refine AW.seq ?_
 refine AW.rgs rfl fun K hK => bv rfl (v_loadF ty24 rfl (l_litA rfl (lb rfl) rfl)) ?_
 obtain ⟨x2, h3, h⟩ := bS h
 refine b_op rfl (o_call rfl rfl rfl rfl (ACallD.pure0 (w_graph_Check h3)) ?_)
 refine bv rfl (v_bin rfl rfl b_neq) ?_
 refine bf hK (P1 [(9, .bool (decide (x2 ≠ 0)))] []) ?_
 refine AW.cond rfl (fun hc => ?_) (fun hc => ?_)
 ·obtain ⟨hc, h⟩ := cT hc h
  refine AW.rgs rfl fun K hK => b_op rfl (o_build (cs := [hI 0, hI 0, .v (.slice none 0 0)]) rfl (bl_of ty24 rfl rfl rfl rfl) ?_)
  refine b_op rfl (o_store (cs := [hI 0, hI 0, .v (.slice none 0 0)]) (zs := [hI 0, hI 0, .v (.slice none 0 0)]) rfl rfl rfl ty24 rfl rfl rfl rfl rfl ?_)
  refine mv rfl rfl (mv rfl rfl ?_)
  refine bf hK ⟨[(2, .ptr 15002 v1 0), (3, .v (.slice none 0 0)), (4, hI 1)], [O1]⟩ ?_
  refine AW.to (to_weak ⟨[(2, .ptr 15002 v1 0), (3, slE (eSl eInt) ([] : List (List (Int)))), (4, hI 1)], [O1]⟩ ⟨⟨_, rfl, .refl _⟩, ⟨_, rfl, .nil _⟩, ⟨_, rfl, .refl _⟩, trivial⟩ ⟨rfl, trivial⟩ ?_)
  refine AW.to (to_cells 15002 v1 (ds := [hI 0, hI 0, slE eFromLabelTo ([] : List TFromLabelTo)]) rfl (.cons (.refl _) <| .cons (.refl _) <| .cons (.nil _) <| .nil) ?_)
  refine AW.ret ?_
  have h := Option.some.inj h
  subst h
  exact ret_pure (hs := [.agg [hI 0, hI 0, slE eFromLabelTo ([] : List TFromLabelTo)], slE (eSl eInt) ([] : List (List (Int))), hI 1]) (.inr rfl) (resP ty24 rfl rfl (l_litA rfl (lb rfl) rfl) (resT rfl (resT rfl rfl))) rfl ⟨⟨trivial, trivial, (clean_slE fun _ _ => ⟨trivial, trivial, trivial, trivial⟩), trivial⟩, (clean_slE fun _ _ => ⟨(clean_slE fun _ _ => ⟨trivial, trivial⟩), trivial⟩), trivial, trivial⟩
 obtain ⟨hc, h⟩ := cF hc h
 refine AW.skip ?_
 refine AW.seq ?_
 refine AW.rgs rfl fun K hK => bv rfl (v_fieldAddrF fo24_1 rfl) (bv rfl (v_loadF ty3 rfl (l_lit rfl rfl)) (bv rfl (v_bin rfl rfl b_eql) ?_))
 refine bf hK (P1 [(13, .bool (decide (p0.2.1 = 0)))] []) ?_
 refine AW.cond rfl (fun hc => ?_) (fun hc => ?_)
 ·obtain ⟨hc, h⟩ := cT hc h
  refine AW.rgs rfl fun K hK => bv rfl (v_fieldAddrF fo24_0 rfl) (bv rfl (v_loadF ty3 rfl (l_lit rfl rfl)) ?_)
  refine b_op rfl (o_build (cs := [hI p0.1, hI 0, .v (.slice none 0 0)]) rfl (bl_of ty24 rfl rfl rfl rfl) ?_)
  refine b_op rfl (o_store (cs := [hI p0.1, hI 0, .v (.slice none 0 0)]) (zs := [hI p0.1, hI 0, .v (.slice none 0 0)]) rfl rfl rfl ty24 rfl rfl rfl rfl rfl ?_)
  refine mv rfl rfl (mv rfl rfl ?_)
  let P2 : ASf := fun t H => ⟨(2, .ptr 15002 v1 0) :: t, (15002, v1, .arr 3 24 [hI p0.1, hI 0, .v (.slice none 0 0)]) :: H⟩
  refine bf hK (P2 [(3, .v (.slice none 0 0)), (4, hI 0)] []) ?_
  refine AW.to (to_weak (P2 [(3, slE (eSl eInt) ([] : List (List (Int)))), (4, hI 0)] []) ⟨⟨_, rfl, .refl _⟩, ⟨_, rfl, .nil _⟩, ⟨_, rfl, .refl _⟩, trivial⟩ ⟨rfl, trivial⟩ ?_)
  refine AW.to (to_cells 15002 v1 (ds := [hI p0.1, hI 0, slE eFromLabelTo ([] : List TFromLabelTo)]) rfl (.cons (.refl _) <| .cons (.refl _) <| .cons (.nil _) <| .nil) ?_)
  refine AW.ret ?_
  have h := Option.some.inj h
  subst h
  exact ret_pure (hs := [.agg [hI p0.1, hI 0, slE eFromLabelTo ([] : List TFromLabelTo)], slE (eSl eInt) ([] : List (List (Int))), hI 0]) (.inr rfl) (resP ty24 rfl rfl (l_litA rfl (lb rfl) rfl) (resT rfl (resT rfl rfl))) rfl ⟨⟨trivial, trivial, (clean_slE fun _ _ => ⟨trivial, trivial, trivial, trivial⟩), trivial⟩, (clean_slE fun _ _ => ⟨(clean_slE fun _ _ => ⟨trivial, trivial⟩), trivial⟩), trivial, trivial⟩
 obtain ⟨hc, h⟩ := cF hc h
 refine AW.skip ?_
 refine AW.rgs rfl fun K hK => bv rfl (v_fieldAddrF fo24_1 rfl) (bv rfl (v_loadF ty3 rfl (l_lit rfl rfl)) ?_)
 obtain ⟨h5, h⟩ := ifN h
 refine b_op rfl (o_makeE (fid := 15) eInt (0 : Int) 15019 rfl rfl ty27 rfl rfl ty3 rfl rfl h5 (fun v4 => ?_))
 refine mv rfl rfl ?_
 let E2 : Nat × HV := (5, .ar 15019 v4 eInt.k 0 ((List.replicate (p0.2.1).toNat (0 : Int)).length))
 let O3 : Nat × Nat × AObj := (15019, v4, .arr eInt.k 3 (eInt.E (List.replicate (p0.2.1).toNat (0 : Int))))
 refine bf hK (P1 [E2] [O3]) ?_
 refine AW.seq ?_
 refine AW.rgs rfl fun K hK => mv rfl rfl (bv rfl (v_lenA rfl rfl ty27 rfl rfl) (mv rfl rfl ?_))
 let E4 : Nat × HV := (21, hI (((List.replicate (p0.2.1).toNat (0 : Int)).length : Nat) : Int))
 refine bf hK (P1 [E2, E4, (22, hI 0)] [O3]) ?_
 refine AW.lpX h (by first | exact up_then | exact up_to) (S := Int × (List Int)) (V := Unit) (fun a v => (P1 [(5, .ar 15019 v4 eInt.k 0 ((a.2).length)), E4, (22, hI a.1)] [(15019, v4, .arr eInt.k 3 (eInt.E a.2))])) ?_ (X := (List Int)) (W := Unit) (fun a v => (P1 [(5, .ar 15019 v4 eInt.k 0 ((a).length))] [(15019, v4, .arr eInt.k 3 (eInt.E a))])) (fun a12 w13 h => ?_) (fun a6 w7 st8 h => ?_)
 ·exact to_L ⟨(), rfl⟩
 ·refine AW.to (to_frz 2 [(15019, v4, .arr eInt.k 3 (eInt.E a12))] (P1 [(5, slE eInt a12)] []) ⟨⟨_, rfl, rfl⟩, ⟨_, rfl, rfl⟩, ⟨_, rfl, frz_slE eInt (l := a12) rfl fun _ _ => rfl⟩, trivial⟩ ⟨rfl, trivial⟩ ⟨rfl, trivial⟩ ⟨rfl, trivial⟩ ?_)
  refine AW.rgs rfl fun K hK => bv rfl (v_loadF ty24 rfl (l_litA rfl (lb rfl) rfl)) (mv rfl rfl ?_)
  obtain ⟨x14, h15, h⟩ := bS h
  refine b_op rfl (o_call rfl rfl rfl rfl (ACallD.pure0 (w_subset_build h15)) ?_)
  refine bv rfl (v_extract rfl rfl) (bv rfl (v_extract rfl rfl) (bv rfl (v_extract rfl rfl) ?_))
  refine b_op rfl (o_store (cs := [hI x14.1.1, hI x14.1.2.1, slE eFromLabelTo x14.1.2.2]) (zs := [hI x14.1.1, hI x14.1.2.1, slE eFromLabelTo x14.1.2.2]) rfl rfl rfl ty24 rfl rfl rfl rfl rfl ?_)
  refine mv rfl rfl (mv rfl rfl ?_)
  refine bf hK ⟨[(2, .ptr 15002 v1 0), (3, slE (eSl eInt) x14.2.1), (4, hI x14.2.2)], [(15002, v1, .arr 3 24 [hI x14.1.1, hI x14.1.2.1, slE eFromLabelTo x14.1.2.2])]⟩ ?_
  refine AW.ret ?_
  have h := Option.some.inj h
  subst h
  exact ret_pure (hs := [.agg [hI x14.1.1, hI x14.1.2.1, slE eFromLabelTo x14.1.2.2], slE (eSl eInt) x14.2.1, hI x14.2.2]) (.inr rfl) (resP ty24 rfl rfl (l_litA rfl (lb rfl) rfl) (resT rfl (resT rfl rfl))) rfl ⟨⟨trivial, trivial, (clean_slE fun _ _ => ⟨trivial, trivial, trivial, trivial⟩), trivial⟩, (clean_slE fun _ _ => ⟨(clean_slE fun _ _ => ⟨trivial, trivial⟩), trivial⟩), trivial, trivial⟩
 refine AW.rgs rfl fun K hK => bv rfl (v_bin rfl rfl b_lss) ?_
 refine bf hK (P1 [(5, .ar 15019 v4 eInt.k 0 ((a6.2).length)), E4, (22, hI a6.1), (23, .bool (decide (a6.1 < (((List.replicate (p0.2.1).toNat (0 : Int)).length : Nat) : Int))))] [(15019, v4, .arr eInt.k 3 (eInt.E a6.2))]) ?_
 refine AW.cseq rfl (fun hc => ?_) (fun hc => ?_)
 ·obtain ⟨hc, h⟩ := cT hc h
  refine AW.skip ?_
  refine AW.seq (AW.block ?_)
  refine AW.rgs rfl fun K hK => mv rfl rfl (mv rfl rfl ?_)
  refine bf hK (P1 [(5, .ar 15019 v4 eInt.k 0 ((a6.2).length)), (6, hI a6.1), E4, (22, hI a6.1)] [(15019, v4, .arr eInt.k 3 (eInt.E a6.2))]) ?_
  refine AW.rg rfl fun K hK => mv rfl rfl (mv rfl rfl (mv rfl rfl ?_))
  obtain ⟨x10, h11, h⟩ := bS h
  refine bv rfl (v_idxA ty27 es27 rfl rfl (idx_lt h11) rfl) ?_
  refine b_op rfl (o_storeE eInt (l := a6.2) (j := a6.1) (v := a6.1) rfl rfl rfl ty3 rfl rfl rfl (idx_lt h11) ?_)
  refine b_fin hK (s' := (P1 [(5, .ar 15019 v4 eInt.k 0 (((a6.2).set (a6.1).toNat a6.1).length)), E4, (22, hI a6.1)] [(15019, v4, .arr eInt.k 3 (eInt.E ((a6.2).set (a6.1).toNat a6.1)))])) (AS.le_of ⟨rfl, rfl, arl (by first | rfl | simp only [List.length_set, sortI_len, sortS_len]), rfl, rfl, trivial⟩ ⟨rfl, rfl, trivial⟩) ?_
  refine AW.rg rfl fun K hK => bv rfl (v_bin rfl rfl b_add) (mv rfl rfl ?_)
  refine b_nil (hK _ ?_)
  exact to_L ⟨(IntKind.wrap .i64 (a6.1 + 1), (a6.2).set (a6.1).toNat a6.1), (), h, rfl⟩
 obtain ⟨hc, h⟩ := cF hc h
 refine AW.exit ?_
 exact to_L ⟨a6.2, (), h, rfl⟩
theorem w_subset_Focus {p0 : TLabelsStatesEdges} {r : (List (Int)) × Int × Bool × Int} (h : m_subset_Focus p0 = some r) : Pure Tryz.prog 6 [gA p0] (· = HV.tup [slE eInt r.1, hI r.2.1, .bool r.2.2.1, hI r.2.2.2]) := by
 unfold m_subset_Focus at h
 refine Pure.of_body Tryz.func6 rfl rfl (lb rfl) fun hf => ?_
 unfold Tryz.f6
 dsimp only [enumS, Nat.reduceAdd]
 refine AW.rgs rfl fun K hK => b_op rfl (o_box rfl rfl rfl ?_)
 refine mv rfl rfl (mv rfl rfl (mv rfl rfl (mv rfl rfl ?_)))
 refine bf hK ⟨[(1, gF p0)], []⟩ ?_
 refine AW.rgs rfl fun K hK => bv rfl (v_loadF ty24 rfl (l_litA rfl (lb rfl) rfl)) ?_
 obtain ⟨x1, h2, h⟩ := bS h
 refine b_op rfl (o_call rfl rfl rfl rfl (ACallD.pure0 (w_subset_Build h2)) ?_)
 refine mv rfl rfl (bv rfl (v_extract rfl rfl) (bv rfl (v_extract rfl rfl) (bv rfl (v_extract rfl rfl) ?_)))
 refine b_op rfl (o_alloc (fid := 6) (zs := [hI 0, hI 0, .v (.slice none 0 0)]) 6006 rfl rfl ty24 rfl (fun v3 => ?_))
 refine b_op rfl (o_store (cs := [hI x1.1.1, hI x1.1.2.1, slE eFromLabelTo x1.1.2.2]) (zs := [hI x1.1.1, hI x1.1.2.1, slE eFromLabelTo x1.1.2.2]) rfl rfl rfl ty24 rfl rfl rfl rfl rfl ?_)
 refine mv rfl rfl (mv rfl rfl ?_)
 let E5 : Nat × HV := (7, slE (eSl eInt) x1.2.1)
 let O6 : Nat × Nat × AObj := (6006, v3, .arr 3 24 [hI x1.1.1, hI x1.1.2.1, slE eFromLabelTo x1.1.2.2])
 let P3 : ASf := fun t H => ⟨(6, .ptr 6006 v3 0) :: E5 :: t, O6 :: H⟩
 refine bf hK (P3 [(8, hI x1.2.2)] []) ?_
 refine AW.seq ?_
 refine AW.seqJ h (S := Bool) (V := Unit) (fun a v => (P3 [(8, hI x1.2.2), (26, .bool a)] [])) (fun a4 w5 h => ?_) (fun k6 h => ?_)
 ·refine AW.cond rfl (fun hc => ?_) (fun hc => ?_)
  ·have h := ifT hc h
   refine AW.rgs rfl fun K hK => mv rfl rfl (mv rfl rfl (mv rfl rfl (mv rfl rfl (mv rfl rfl ?_))))
   refine bf hK ⟨[(2, .v (.slice none 0 0)), (3, hI 0), (4, .bool false), (5, hI x1.2.2)], []⟩ ?_
   refine AW.to (to_weak ⟨[(2, slE eInt ([] : List Int)), (3, hI 0), (4, .bool false), (5, hI x1.2.2)], []⟩ ⟨⟨_, rfl, .nil _⟩, ⟨_, rfl, .refl _⟩, ⟨_, rfl, .refl _⟩, ⟨_, rfl, .refl _⟩, trivial⟩ trivial ?_)
   refine AW.ret ?_
   have h := Option.some.inj h
   subst h
   exact ret_pure (hs := [slE eInt ([] : List Int), hI 0, .bool false, hI x1.2.2]) (.inr rfl) (resT rfl (resT rfl (resT rfl (resT rfl rfl)))) rfl ⟨(clean_slE fun _ _ => ⟨trivial, trivial⟩), trivial, trivial, trivial, trivial⟩
  have h := ifF (bF' hc) h
  refine AW.skip ?_
  refine AW.rgs rfl fun K hK => bv rfl (v_fieldAddrP fo24_1 rfl rfl) (bv rfl (v_loadP ty3 rfl rfl (l_lit rfl rfl)) ?_)
  obtain ⟨h8, h⟩ := ifN h
  refine b_op rfl (o_makeN (fid := 6) eInt 6030 rfl rfl ty35 rfl rfl ty27 rfl rfl h8 (fun v7 => ?_))
  refine mv rfl rfl ?_
  let E7 : Nat × HV := (9, .ar 6030 v7 (eSl eInt).k 0 ((List.replicate (x1.1.2.1).toNat ([] : List (Int))).length))
  let O8 : Nat × Nat × AObj := (6030, v7, .arr (eSl eInt).k 27 ((eSl eInt).E (List.replicate (x1.1.2.1).toNat ([] : List (Int)))))
  refine bf hK (P3 [E7] [O8]) ?_
  refine AW.seq ?_
  refine AW.rgs rfl fun K hK => mv rfl rfl (mv rfl rfl ?_)
  refine bf hK (P3 [E7, (10, hI 0), (11, hI 1)] [O8]) ?_
  refine AW.lpR h (by first | exact up_then | exact up_to) (S := Int × Int × (List (List (Int)))) (V := Unit) (fun a v => (P3 [(9, .ar 6030 v7 (eSl eInt).k 0 ((a.2.2).length)), (10, hI a.1), (11, hI a.2.1)] [(6030, v7, .arr (eSl eInt).k 27 ((eSl eInt).E a.2.2))])) ?_ (X := Unit) (W := Unit) (fun a v => ⟨[], []⟩) (fun a40 w41 h => ?_) (fun a9 w10 st11 h hr12=> ?_)
  ·exact to_L ⟨(), rfl⟩
  ·refine AW.rgs rfl fun K hK => mv rfl rfl (mv rfl rfl (mv rfl rfl (mv rfl rfl ?_)))
   refine bf hK ⟨[(2, .v (.slice none 0 0)), (3, hI 0), (4, .bool false), (5, hI 0)], []⟩ ?_
   refine AW.to (to_weak ⟨[(2, slE eInt ([] : List Int)), (3, hI 0), (4, .bool false), (5, hI 0)], []⟩ ⟨⟨_, rfl, .nil _⟩, ⟨_, rfl, .refl _⟩, ⟨_, rfl, .refl _⟩, ⟨_, rfl, .refl _⟩, trivial⟩ trivial ?_)
   refine AW.ret ?_
   have h := Option.some.inj h
   subst h
   exact ret_pure (hs := [slE eInt ([] : List Int), hI 0, .bool false, hI 0]) (.inr rfl) (resT rfl (resT rfl (resT rfl (resT rfl rfl)))) rfl ⟨(clean_slE fun _ _ => ⟨trivial, trivial⟩), trivial, trivial, trivial, trivial⟩
  refine AW.seq ?_
  refine AW.rgs rfl fun K hK => mv rfl rfl (bv rfl (v_fieldAddrP fo24_1 rfl rfl) (bv rfl (v_loadP ty3 rfl rfl (l_lit rfl rfl)) (bv rfl (v_bin rfl rfl b_lss) ?_)))
  let E9 : Nat × HV := (9, .ar 6030 v7 (eSl eInt).k 0 ((a9.2.2).length))
  let O10 : Nat × Nat × AObj := (6030, v7, .arr (eSl eInt).k 27 ((eSl eInt).E a9.2.2))
  refine bf hK (P3 [E9, (10, hI a9.1), (11, hI a9.2.1), (34, .bool (decide (a9.1 < x1.1.2.1)))] [O10]) ?_
  refine AW.cond rfl (fun hc => ?_) (fun hc => ?_)
  ·obtain ⟨hc, h⟩ := cT hc h
   refine AW.skip ?_
   refine AW.seq (AW.block ?_)
   refine AW.seq ?_
   refine AW.rgs rfl fun K hK => mv rfl rfl (mv rfl rfl ?_)
   obtain ⟨x13, h14, h⟩ := bS h
   refine bv rfl (v_idxF ty35 es35 rfl rfl (idx_lt h14)) (bv rfl (v_loadF ty27 rfl (l_cell (eSl eInt) h14 (o := 0) rfl rfl)) (bv rfl (v_lenF rfl rfl ty27 rfl) (bv rfl (v_bin rfl rfl b_eql) ?_)))
   refine bf hK (P3 [E9, (10, hI a9.1), (11, hI a9.2.1), (42, .bool (decide (((x13).length : Int) = 1)))] [O10]) ?_
   refine AW.cond rfl (fun hc => ?_) (fun hc => ?_)
   ·obtain ⟨hc, h⟩ := cT hc h
    refine AW.dgs 14 follows rfl rfl fun K hK => ?_
    refine sm rfl rfl ?_
    refine sm rfl rfl ?_
    obtain ⟨x15, h16, h⟩ := bS h
    refine sv rfl (v_idxA ty35 es35 rfl rfl (idx_lt h16) rfl) ?_
    obtain ⟨x17, h18, h⟩ := bS h
    refine sv rfl (v_loadP ty27 rfl rfl (l_cell (eSl eInt) h18 (o := 0) rfl rfl)) ?_
    refine sm rfl rfl ?_
    refine sm rfl rfl ?_
    obtain ⟨x19, h20, h⟩ := bS h
    refine sv rfl (v_idxF ty35 es35 rfl rfl (idx_lt h20)) ?_
    refine sv rfl (v_loadF ty27 rfl (l_cell (eSl eInt) h20 (o := 0) rfl rfl)) ?_
    obtain ⟨x21, h22, h⟩ := bS h
    refine sv rfl (v_idxF ty27 es27 rfl rfl (idx_lt h22)) ?_
    refine sv rfl (v_loadF ty3 rfl (l_cell eInt h22 (o := 0) rfl rfl)) ?_
    refine sm rfl rfl ?_
    refine sm rfl rfl ?_
    refine sm rfl rfl ?_
    refine sm rfl rfl ?_
    refine s_nil ?_
    refine bf hK ⟨[(2, slE eInt x17), (3, hI x21), (4, .bool true), (5, hI 0)], []⟩ ?_
    have h := hr12 _ h
    refine AW.ret ?_
    have h := Option.some.inj h
    subst h
    exact ret_pure (hs := [slE eInt x17, hI x21, .bool true, hI 0]) (.inr rfl) (resT rfl (resT rfl (resT rfl (resT rfl rfl)))) rfl ⟨(clean_slE fun _ _ => ⟨trivial, trivial⟩), trivial, trivial, trivial, trivial⟩
   obtain ⟨hc, h⟩ := cF hc h
   refine AW.skip ?_
   refine AW.rgs rfl fun K hK => bv rfl (v_fieldAddrP fo24_2 rfl rfl) (bv rfl (v_loadP ty22 rfl rfl (l_lit rfl rfl)) (bv rfl (v_lenF rfl rfl ty22 rfl) (mv rfl rfl ?_)))
   let E11 : Nat × HV := (54, slE eFromLabelTo x1.1.2.2)
   let E12 : Nat × HV := (55, hI ((x1.1.2.2).length : Int))
   refine bf hK (P3 [E9, (10, hI a9.1), (11, hI a9.2.1), E11, E12, (56, hI 0)] [O10]) ?_
   refine AW.lpX h (by first | exact up_then | exact up_to) (S := Int × Int × (List (List (Int)))) (V := Unit) (fun a v => (P3 [(9, .ar 6030 v7 (eSl eInt).k 0 ((a.2.2).length)), (10, hI a9.1), (11, hI a.1), E11, E12, (56, hI a.2.1)] [(6030, v7, .arr (eSl eInt).k 27 ((eSl eInt).E a.2.2))])) ?_ (X := (List (List (Int))) × Int) (W := Unit) (fun a v => (P3 [(9, .ar 6030 v7 (eSl eInt).k 0 ((a.1).length)), (10, hI a9.1), (11, hI a.2)] [(6030, v7, .arr (eSl eInt).k 27 ((eSl eInt).E a.1))])) (fun a38 w39 h => ?_) (fun a23 w24 st25 h => ?_)
   ·exact to_L ⟨(), rfl⟩
   ·refine AW.rg rfl fun K hK => mv rfl rfl (bv rfl (v_bin rfl rfl b_add) (mv rfl rfl ?_))
    refine b_nil (hK _ ?_)
    exact to_L ⟨(IntKind.wrap .i64 (a9.1 + 1), a38.2, a38.1), (), h, rfl⟩
   refine AW.rgs rfl fun K hK => bv rfl (v_bin rfl rfl b_lss) ?_
   let E13 : Nat × HV := (9, .ar 6030 v7 (eSl eInt).k 0 ((a23.2.2).length))
   let O14 : Nat × Nat × AObj := (6030, v7, .arr (eSl eInt).k 27 ((eSl eInt).E a23.2.2))
   refine bf hK (P3 [E13, (10, hI a9.1), (11, hI a23.1), E11, E12, (56, hI a23.2.1), (57, .bool (decide (a23.2.1 < ((x1.1.2.2).length : Int))))] [O14]) ?_
   refine AW.cseq rfl (fun hc => ?_) (fun hc => ?_)
   ·obtain ⟨hc, h⟩ := cT hc h
    refine AW.skip ?_
    refine AW.seqJ h (S := Int × (List (List (Int)))) (V := Unit) (fun a v => (P3 [(9, .ar 6030 v7 (eSl eInt).k 0 ((a.2).length)), (10, hI a9.1), (11, hI a.1), E11, E12, (56, hI a23.2.1)] [(6030, v7, .arr (eSl eInt).k 27 ((eSl eInt).E a.2))])) (fun a27 w28 h => ?_) (fun k29 h => ?_)
    ·refine AW.rg rfl fun K hK => bv rfl (v_bin rfl rfl b_add) (mv rfl rfl ?_)
     refine b_nil (hK _ ?_)
     exact to_L ⟨(a27.1, IntKind.wrap .i64 (a23.2.1 + 1), a27.2), (), h, rfl⟩
    refine AW.block ?_
    refine AW.rgs rfl fun K hK => ?_
    obtain ⟨x30, h31, h⟩ := bS h
    refine bv rfl (v_idxF ty22 es22 rfl rfl (idx_lt h31)) (bv rfl (v_loadF ty49 rfl (l_agg eFromLabelTo h31 rfl rfl)) ?_)
    refine b_op rfl (o_alloc (fid := 6) (zs := [hI 0, hI 0, hI 0]) 6013 rfl rfl ty49 rfl (fun v32 => ?_))
    refine b_op rfl (o_store (cs := [hI x30.1, hI x30.2.1, hI x30.2.2]) (zs := [hI x30.1, hI x30.2.1, hI x30.2.2]) rfl rfl rfl ty49 rfl rfl rfl rfl rfl ?_)
    let O15 : Nat × Nat × AObj := (6013, v32, .arr 3 49 [hI x30.1, hI x30.2.1, hI x30.2.2])
    refine bf hK (P3 [E13, (10, hI a9.1), (11, hI a23.1), (13, .ptr 6013 v32 0), E11, E12, (56, hI a23.2.1)] [O14, O15]) ?_
    refine AW.seqJ h (S := Bool) (V := Unit) (fun a v => (P3 [E13, (10, hI a9.1), (11, hI a23.1), (13, .ptr 6013 v32 0), E11, E12, (56, hI a23.2.1), (69, .bool a)] [O15, O14])) (fun a33 w34 h => ?_) (fun k35 h => ?_)
    ·refine AW.cond rfl (fun hc => ?_) (fun hc => ?_)
     ·have h := ifT hc h
      refine AW.dls follows fun K hK F hF => ?_
      obtain ⟨x360401, h360402, h⟩ := bS h
      obtain ⟨x360501, h360502, h⟩ := bS h
      obtain ⟨x360601, h360602, h⟩ := bS h
      obtain ⟨h361002, h⟩ := ifN h
      obtain ⟨x361101, h361102, h⟩ := bS h
      refine l_go (L' := []) hF rfl (s' := (P3 [E13, (10, hI a9.1), (11, hI a23.1), (13, .ptr 6013 v32 0), E11, E12, (56, hI a23.2.1)] [O15, O14])) ?_ (le_q rfl rfl)
      have g36_15 : ∀ (v361001 : Nat), F [0, 1, 2, 3, 4, 5, 6, 7, 8, 9, 10, 11, 12] (P3 [E13, (10, hI a9.1), (11, hI a23.1), E11, E12, (56, hI a23.2.1)] [O15, (6030, v7, .arr (eSl eInt).k 27 (((eSl eInt).E a23.2.2).set (a23.1).toNat (HV.ar 6076 v361001 eInt.k 0 ((x360601 ++ [x30.2.1]).length)))), (6076, v361001, .arr eInt.k 3 (eInt.E (x360601 ++ [x30.2.1])))]) := by
       intro v361001
       refine l_done hF rfl rfl (hK _ (AW.to (to_le (s' := (P3 [E13, (10, hI a9.1), (11, hI a23.1), E11, E12, (56, hI a23.2.1)] [(6030, v7, .arr (eSl eInt).k 27 (((eSl eInt).E a23.2.2).set (a23.1).toNat (HV.ar 6076 v361001 eInt.k 0 ((x360601 ++ [x30.2.1]).length)))), (6076, v361001, .arr eInt.k 3 (eInt.E (x360601 ++ [x30.2.1])))])) (le_q rfl rfl) ?_)))
       refine AW.rg rfl fun K hK => mv rfl rfl (bv rfl (v_bin rfl rfl b_add) (mv rfl rfl ?_))
       refine b_nil (hK _ ?_)
       let O16 : Nat × Nat × AObj := (6030, v7, .arr (eSl eInt).k 27 ((eSl eInt).E ((a23.2.2).set (a23.1).toNat (x360601 ++ [x30.2.1]))))
       refine to_bind (to_fill 2 [(6076, v361001, .arr eInt.k 3 (eInt.E (x360601 ++ [x30.2.1])))] (P3 [E13, (10, hI a9.1), (11, hI (IntKind.wrap .i64 (a23.1 + 1))), E11, E12, (56, hI a23.2.1)] [O16]) ⟨⟨_, rfl, rfl⟩, ⟨_, rfl, rfl⟩, ⟨_, rfl, rfl⟩, ⟨_, rfl, rfl⟩, ⟨_, rfl, rfl⟩, ⟨_, rfl, rfl⟩, ⟨_, rfl, rfl⟩, ⟨_, rfl, rfl⟩, trivial⟩ ⟨.inl rfl, .inr ⟨_, _, _, rfl, fill_obj (c := eInt) rfl rfl fun _ => rfl⟩, trivial⟩ ⟨rfl, trivial⟩ ⟨rfl, trivial⟩ ?_)
       exact to_le (s' := (P3 [(9, .ar 6030 v7 (eSl eInt).k 0 (((a23.2.2).set (a23.1).toNat (x360601 ++ [x30.2.1])).length)), (10, hI a9.1), (11, hI (IntKind.wrap .i64 (a23.1 + 1))), E11, E12, (56, hI a23.2.1)] [O16])) (AS.le_of ⟨rfl, rfl, arl (by first | rfl | simp only [List.length_set, sortI_len, sortS_len]), rfl, rfl, rfl, rfl, rfl, trivial⟩ ⟨rfl, rfl, trivial⟩) ⟨(IntKind.wrap .i64 (a23.1 + 1), (a23.2.2).set (a23.1).toNat (x360601 ++ [x30.2.1])), (), h, rfl⟩
      let P : ASf := fun t H => ⟨(6, .ptr 6006 v3 0) :: (7, slE (eSl eInt) x1.2.1) :: (9, .ar 6030 v7 (eSl eInt).k 0 ((a23.2.2).length)) :: (10, hI a9.1) :: (11, hI a23.1) :: (54, slE eFromLabelTo x1.1.2.2) :: (55, hI ((x1.1.2.2).length : Int)) :: (56, hI a23.2.1) :: (70, .ar 6030 v7 (eSl eInt).k 0 ((a23.2.2).length)) :: (71, hI a23.1) :: t, (6006, v3, .arr 3 24 [hI x1.1.1, hI x1.1.2.1, slE eFromLabelTo x1.1.2.2]) :: (6013, v32, .arr 3 49 [hI x30.1, hI x30.2.1, hI x30.2.2]) :: (6030, v7, .arr (eSl eInt).k 27 ((eSl eInt).E a23.2.2)) :: H⟩
      have g36_14 : ∀ (v361001 : Nat), F [0, 1, 2, 3, 4, 5, 6, 7, 8, 9, 10, 11] (P3 [E13, (10, hI a9.1), (11, hI a23.1), E11, E12, (56, hI a23.2.1), (80, .ar 6076 v361001 eInt.k 0 ((x360601 ++ [x30.2.1]).length)), (81, .ptr 6030 v7 ((a23.1).toNat * (eSl eInt).k))] [O15, O14, (6076, v361001, .arr eInt.k 3 (eInt.E (x360601 ++ [x30.2.1])))]) := by
       intro v361001
       refine l_step hF rfl [12] rfl rfl ⟨?_, trivial⟩
       ·refine l_op rfl rfl rfl (o_storeH eInt (L := a23.2.2) (j := a23.1) rfl rfl rfl ty27 rfl rfl rfl (idx_lt h361102) ?_)
        exact b_nil (lg hF (g36_15 v361001))
      have g36_13 : ∀ (v361001 : Nat), F [0, 1, 2, 3, 4, 5, 6, 7, 8, 9, 10] (P [(80, .ar 6076 v361001 eInt.k 0 ((x360601 ++ [x30.2.1]).length))] [(6076, v361001, .arr eInt.k 3 (eInt.E (x360601 ++ [x30.2.1])))]) := by
       intro v361001
       refine l_take (i := 11) hF rfl rfl rfl (v_idxA ty35 es35 rfl rfl (idx_lt h361102) rfl) ?_
       exact lg hF (g36_14 v361001)
      have g36_12 : ∀ (v360603 : Nat), F [0, 1, 2, 3, 4, 5, 6, 7, 8, 9] (P [(76, .ar 6076 v360603 eInt.k 0 ((x360601).length)), (79, slE eInt [x30.2.1])] [(6076, v360603, .arr eInt.k 3 (eInt.E x360601))]) := by
       intro v360603
       refine l_step hF rfl [10] rfl rfl ⟨?_, trivial⟩
       ·refine l_op rfl rfl rfl (o_appE eInt (l := x360601) (m := [x30.2.1]) rfl rfl ty27 ty27 ty3 rfl rfl rfl rfl rfl h361002 (fun v361001 => ?_))
        exact b_nil (lg hF (g36_13 v361001))
      have g36_11 : F [0, 1, 2, 3, 4, 5, 7, 8, 9] (P [(75, slE eInt x360501), (79, slE eInt [x30.2.1])] []) := by
       refine l_step hF rfl [6] rfl rfl ⟨?_, trivial⟩
       ·refine l_op rfl rfl rfl (o_callA rfl rfl rfl rfl (c_cloneO 6076 h360602 fun v360603 => ?_) )
        exact b_nil (lg hF (g36_12 v360603))
      have g36_16 : ∀ (v360603 : Nat), F [0, 1, 2, 3, 4, 5, 6, 7, 8] (P [(76, .ar 6076 v360603 eInt.k 0 ((x360601).length)), (78, hI x30.2.1)] [(6076, v360603, .arr eInt.k 3 (eInt.E x360601))]) := by
       intro v360603
       refine l_step hF rfl [9] rfl rfl ⟨?_, trivial⟩
       ·refine l_op rfl rfl rfl (o_bsl rfl rfl (as_of (cs := [hI x30.2.1]) ty27 ty3 rfl rfl rfl rfl rfl) ?_)
        exact b_nil (lg hF (g36_12 v360603))
      have g36_9 : F [0, 1, 2, 3, 4, 5, 7, 8] (P [(75, slE eInt x360501), (78, hI x30.2.1)] []) := by
       refine l_step hF rfl [6, 9] rfl rfl ⟨?_, ?_, trivial⟩
       ·refine l_op rfl rfl rfl (o_callA rfl rfl rfl rfl (c_cloneO 6076 h360602 fun v360603 => ?_) )
        exact b_nil (lg hF (g36_16 v360603))
       ·refine l_op rfl rfl rfl (o_bsl rfl rfl (as_of (cs := [hI x30.2.1]) ty27 ty3 rfl rfl rfl rfl rfl) ?_)
        exact b_nil (lg hF (g36_11))
      have g36_10 : F [0, 1, 2, 3, 4, 7, 8, 9] (P [(74, .ptr 6030 v7 ((a9.1).toNat * (eSl eInt).k)), (79, slE eInt [x30.2.1])] []) := by
       refine l_step hF rfl [5] rfl rfl ⟨?_, trivial⟩
       ·exact l_ov rfl rfl rfl rfl (v_loadP ty27 rfl rfl (l_cell (eSl eInt) h360502 (o := 0) rfl rfl)) (lg hF (g36_11))
      have g36_17 : ∀ (v360603 : Nat), F [0, 1, 2, 3, 4, 5, 6, 7] (P [(76, .ar 6076 v360603 eInt.k 0 ((x360601).length)), (77, .ptr 6013 v32 1)] [(6076, v360603, .arr eInt.k 3 (eInt.E x360601))]) := by
       intro v360603
       refine l_step hF rfl [8] rfl rfl ⟨?_, trivial⟩
       ·exact l_ov rfl rfl rfl rfl (v_loadP ty3 rfl rfl (l_lit rfl rfl)) (lg hF (g36_16 v360603))
      have g36_7 : F [0, 1, 2, 3, 4, 5, 7] (P [(75, slE eInt x360501), (77, .ptr 6013 v32 1)] []) := by
       refine l_step hF rfl [6, 8] rfl rfl ⟨?_, ?_, trivial⟩
       ·refine l_op rfl rfl rfl (o_callA rfl rfl rfl rfl (c_cloneO 6076 h360602 fun v360603 => ?_) )
        exact b_nil (lg hF (g36_17 v360603))
       ·exact l_ov rfl rfl rfl rfl (v_loadP ty3 rfl rfl (l_lit rfl rfl)) (lg hF (g36_9))
      have g36_8 : F [0, 1, 2, 3, 4, 7, 8] (P [(74, .ptr 6030 v7 ((a9.1).toNat * (eSl eInt).k)), (78, hI x30.2.1)] []) := by
       refine l_step hF rfl [5, 9] rfl rfl ⟨?_, ?_, trivial⟩
       ·exact l_ov rfl rfl rfl rfl (v_loadP ty27 rfl rfl (l_cell (eSl eInt) h360502 (o := 0) rfl rfl)) (lg hF (g36_9))
       ·refine l_op rfl rfl rfl (o_bsl rfl rfl (as_of (cs := [hI x30.2.1]) ty27 ty3 rfl rfl rfl rfl rfl) ?_)
        exact b_nil (lg hF (g36_10))
      have g36_6 : F [0, 1, 2, 3, 4, 7] (P [(74, .ptr 6030 v7 ((a9.1).toNat * (eSl eInt).k)), (77, .ptr 6013 v32 1)] []) := by
       refine l_step hF rfl [5, 8] rfl rfl ⟨?_, ?_, trivial⟩
       ·exact l_ov rfl rfl rfl rfl (v_loadP ty27 rfl rfl (l_cell (eSl eInt) h360502 (o := 0) rfl rfl)) (lg hF (g36_7))
       ·exact l_ov rfl rfl rfl rfl (v_loadP ty3 rfl rfl (l_lit rfl rfl)) (lg hF (g36_8))
      let E17 : Nat × HV := (70, .ar 6030 v7 (eSl eInt).k 0 ((a23.2.2).length))
      have g36_5 : F [0, 1, 2, 3, 4] (P3 [E13, (10, hI a9.1), (11, hI a23.1), (13, .ptr 6013 v32 0), E11, E12, (56, hI a23.2.1), E17, (71, hI a23.1), (74, .ptr 6030 v7 ((a9.1).toNat * (eSl eInt).k))] [O15, O14]) := by
       refine l_take (i := 7) hF rfl rfl rfl (v_fieldAddrP fo49_1 rfl rfl) ?_
       exact lg hF (g36_6)
      have g36_4 : F [0, 1, 2, 3] (P3 [E13, (10, hI a9.1), (11, hI a23.1), (13, .ptr 6013 v32 0), E11, E12, (56, hI a23.2.1), E17, (71, hI a23.1), (72, .ar 6030 v7 (eSl eInt).k 0 ((a23.2.2).length)), (73, hI a9.1)] [O15, O14]) := by
       refine l_take (i := 4) hF rfl rfl rfl (v_idxA ty35 es35 rfl rfl (idx_lt h360402) rfl) ?_
       exact lg hF (g36_5)
      have g36_3 : F [0, 1, 2] (P3 [E13, (10, hI a9.1), (11, hI a23.1), (13, .ptr 6013 v32 0), E11, E12, (56, hI a23.2.1), E17, (71, hI a23.1), (72, .ar 6030 v7 (eSl eInt).k 0 ((a23.2.2).length))] [O15, O14]) := by
       refine l_take (i := 3) hF rfl rfl rfl (mv_val rfl rfl).2 ?_
       exact lg hF (g36_4)
      have g36_2 : F [0, 1] (P3 [E13, (10, hI a9.1), (11, hI a23.1), (13, .ptr 6013 v32 0), E11, E12, (56, hI a23.2.1), E17, (71, hI a23.1)] [O15, O14]) := by
       refine l_take (i := 2) hF rfl rfl rfl (mv_val rfl rfl).2 ?_
       exact lg hF (g36_3)
      have g36_1 : F [0] (P3 [E13, (10, hI a9.1), (11, hI a23.1), (13, .ptr 6013 v32 0), E11, E12, (56, hI a23.2.1), E17] [O15, O14]) := by
       refine l_take (i := 1) hF rfl rfl rfl (mv_val rfl rfl).2 ?_
       exact lg hF (g36_2)
      have g36_0 : F [] (P3 [E13, (10, hI a9.1), (11, hI a23.1), (13, .ptr 6013 v32 0), E11, E12, (56, hI a23.2.1)] [O15, O14]) := by
       refine l_take (i := 0) hF rfl rfl rfl (mv_val rfl rfl).2 ?_
       exact lg hF (g36_1)
      exact g36_0
     have h := ifF (bF' hc) h
     refine AW.skip ?_
     exact to_L ⟨(a23.1, a23.2.2), (), h, rfl⟩
    refine AW.rg rfl fun K hK => bv rfl (v_fieldAddrP fo49_0 rfl rfl) (bv rfl (v_loadP ty3 rfl rfl (l_lit rfl rfl)) (mv rfl rfl (bv rfl (v_bin rfl rfl b_eql) (mv rfl rfl ?_))))
    by_cases hg37 : x30.1 = a9.1
    ·have h := ifT hg37 h
     refine b_T rfl rfl rfl rfl (decide_eq_true hg37) (o_val rfl (v_fieldAddrP fo49_2 rfl rfl) ?_)
     refine b_T rfl rfl rfl rfl rfl (o_val rfl (v_loadP ty3 rfl rfl (l_lit rfl rfl)) ?_)
     refine b_T rfl rfl rfl rfl rfl (o_val rfl (mv_val rfl rfl).2 ?_)
     refine b_T rfl rfl rfl rfl rfl (o_val rfl (v_bin rfl rfl b_eql) ?_)
     refine bv rfl (v_pickT rfl rfl rfl) ?_
     refine b_nil (hK _ ?_)
     exact to_L ⟨decide (x30.2.2 = a23.1), (), h, rfl⟩
    have h := ifF hg37 h
    refine b_F rfl rfl rfl rfl rfl (decide_eq_false hg37) ?_
    refine b_F rfl rfl rfl rfl rfl rfl ?_
    refine b_F rfl rfl rfl rfl rfl rfl ?_
    refine b_F rfl rfl rfl rfl rfl rfl ?_
    refine bv rfl (v_pickF rfl rfl rfl) ?_
    refine b_nil (hK _ ?_)
    exact to_L ⟨false, (), h, rfl⟩
   obtain ⟨hc, h⟩ := cF hc h
   refine AW.exit ?_
   exact to_L ⟨(a23.2.2, a23.1), (), h, rfl⟩
  obtain ⟨hc, h⟩ := cF hc h
  refine AW.exit ?_
  exact to_L ⟨(), (), h, rfl⟩
 refine AW.rg rfl fun K hK => mv rfl rfl (bv rfl (v_bin rfl rfl b_neq) (mv rfl rfl ?_))
 by_cases hg42 : x1.2.2 ≠ 0
 ·have h := ifT hg42 h
  refine b_F rfl rfl rfl rfl rfl (decide_eq_true hg42) ?_
  refine b_F rfl rfl rfl rfl rfl rfl ?_
  refine b_F rfl rfl rfl rfl rfl rfl ?_
  refine bv rfl (v_pickT rfl rfl rfl) ?_
  refine b_nil (hK _ ?_)
  exact to_L ⟨true, (), h, rfl⟩
 have h := ifF hg42 h
 refine b_T rfl rfl rfl rfl (decide_eq_false hg42) (o_val rfl (v_fieldAddrP fo24_1 rfl rfl) ?_)
 refine b_T rfl rfl rfl rfl rfl (o_val rfl (v_loadP ty3 rfl rfl (l_lit rfl rfl)) ?_)
 refine b_T rfl rfl rfl rfl rfl (o_val rfl (v_bin rfl rfl b_eql) ?_)
 refine bv rfl (v_pickF rfl rfl rfl) ?_
 refine b_nil (hK _ ?_)
 exact to_L ⟨decide (x1.1.2.1 = 0), (), h, rfl⟩
theorem w_integer_trim {p0 : List (Int)} {r : (List (Int))} (h : m_integer_trim p0 = some r) : Pure Tryz.prog 53 [slE (encM (HV.int .u32)) p0] (· = slE (encM (HV.int .u32)) r) := by
 unfold m_integer_trim at h
 refine Pure.of_body Tryz.func53 rfl rfl (lb rfl) fun hf => ?_
 unfold Tryz.f53
 dsimp only [enumS, Nat.reduceAdd]
 refine AW.rgs rfl fun K hK => mv rfl rfl ?_
 refine bf hK ⟨[(0, slE (encM (HV.int .u32)) p0)], []⟩ ?_
 refine AW.seq (AW.lpX h up_then (S := (List Int)) (V := Unit) (fun a v => ⟨[(0, slE (encM (HV.int .u32)) a)], []⟩) ?_ (X := (List Int)) (W := Unit) (fun a v => ⟨[(0, slE (encM (HV.int .u32)) a)], []⟩) (fun a12 w13 h => ?_) (fun a1 w2 st3 h => ?_))
 ·exact to_L ⟨(), rfl⟩
 ·refine AW.rgs rfl fun K hK => mv rfl rfl (mv rfl rfl ?_)
  refine bf hK ⟨[(2, slE (encM (HV.int .u32)) a12)], []⟩ ?_
  refine AW.ret ?_
  have h := Option.some.inj h
  subst h
  exact ret_pure (hs := [slE (encM (HV.int .u32)) a12]) (.inr rfl) (resT rfl rfl) rfl (clean_slE fun _ _ => ⟨trivial, trivial⟩)
 refine AW.seq ?_
 refine AW.seqJ h (S := Bool) (V := Unit) (fun a v => ⟨[(0, slE (encM (HV.int .u32)) a1), (14, .bool a)], []⟩) (fun a5 w6 h => ?_) (fun k7 h => ?_)
 ·refine AW.cond rfl (fun hc => ?_) (fun hc => ?_)
  ·have h := ifT hc h
   refine AW.skip ?_
   refine AW.block ?_
   refine AW.rg rfl fun K hK => mv rfl rfl (mv rfl rfl (bv rfl (v_lenF rfl rfl ty69 rfl) (bv rfl (v_bin rfl rfl b_sub) ?_)))
   obtain ⟨h8, h⟩ := ifN h
   refine bv rfl (v_sliceF (encM (HV.int .u32)) ty69 es69 rfl rfl rfl h8) (mv rfl rfl ?_)
   refine b_nil (hK _ ?_)
   exact to_L ⟨(a1.take (IntKind.wrap .i64 (((a1).length : Int) - 1)).toNat).drop (0 : Int).toNat, (), h, rfl⟩
  have h := ifF (bF' hc) h
  refine AW.exit ?_
  exact to_L ⟨a1, (), h, rfl⟩
 refine AW.rg rfl fun K hK => mv rfl rfl (bv rfl (v_lenF rfl rfl ty69 rfl) (bv rfl (v_bin rfl rfl b_gtr) (mv rfl rfl ?_)))
 by_cases hg11 : 0 < ((a1).length : Int)
 ·have h := ifT hg11 h
  refine b_T rfl rfl rfl rfl (decide_eq_true hg11) (o_val rfl (mv_val rfl rfl).2 ?_)
  refine b_T rfl rfl rfl rfl rfl (o_val rfl (mv_val rfl rfl).2 ?_)
  refine b_T rfl rfl rfl rfl rfl (o_val rfl (v_lenF rfl rfl ty69 rfl) ?_)
  refine b_T rfl rfl rfl rfl rfl (o_val rfl (v_bin rfl rfl b_sub) ?_)
  obtain ⟨x9, h10, h⟩ := bS h
  refine b_T rfl rfl rfl rfl rfl (o_val rfl (v_idxF ty69 es69 rfl rfl (idx_lt h10)) ?_)
  refine b_T rfl rfl rfl rfl rfl (o_val rfl (v_loadF ty66 rfl (l_cell (encM (HV.int .u32)) h10 (o := 0) rfl rfl)) ?_)
  refine b_T rfl rfl rfl rfl rfl (o_val rfl (v_bin rfl rfl b_eql) ?_)
  refine bv rfl (v_pickT rfl rfl rfl) ?_
  refine b_nil (hK _ ?_)
  exact to_L ⟨decide (x9 = 0), (), h, rfl⟩
 have h := ifF hg11 h
 refine b_F rfl rfl rfl rfl rfl (decide_eq_false hg11) ?_
 refine b_F rfl rfl rfl rfl rfl rfl ?_
 refine b_F rfl rfl rfl rfl rfl rfl ?_
 refine b_F rfl rfl rfl rfl rfl rfl ?_
 refine b_F rfl rfl rfl rfl rfl rfl ?_
 refine b_F rfl rfl rfl rfl rfl rfl ?_
 refine b_F rfl rfl rfl rfl rfl rfl ?_
 refine bv rfl (v_pickF rfl rfl rfl) ?_
 refine b_nil (hK _ ?_)
 exact to_L ⟨false, (), h, rfl⟩
theorem w_integer_number {p0 : Bool} {p1 : List (Int)} {r : TNegMag} (h : m_integer_number p0 p1 = some r) : Pure Tryz.prog 35 [.bool p0, slE (encM (HV.int .u32)) p1] (· = HV.agg [.bool r.1, .str r.2]) := by
 unfold m_integer_number at h
 refine Pure.of_body Tryz.func35 rfl rfl (lb rfl) fun hf => ?_
 unfold Tryz.f35
 dsimp only [enumS, Nat.reduceAdd]
 refine AW.rgs rfl fun K hK => b_op rfl (o_alloc (fid := 35) (zs := [.bool false, .str nS]) 35004 rfl rfl ty32 rfl (fun v1 => ?_))
 let O2 : Nat × Nat × AObj := (35004, v1, .arr 2 32 [.bool false, .str nS])
 let P1 : ASf := fun t H => ⟨(0, .bool p0) :: t, O2 :: H⟩
 refine bf hK (P1 [(1, slE (encM (HV.int .u32)) p1), (4, .ptr 35004 v1 0)] []) ?_
 refine AW.rgs rfl fun K hK => mv rfl rfl ?_
 obtain ⟨x2, h3, h⟩ := bS h
 refine b_op rfl (o_call rfl rfl rfl rfl (ACallD.pure0 (w_integer_trim h3)) ?_)
 refine mv rfl rfl ?_
 let E3 : Nat × HV := (1, slE (encM (HV.int .u32)) x2)
 refine bf hK (P1 [E3, (4, .ptr 35004 v1 0)] []) ?_
 refine AW.seq ?_
 refine AW.rgs rfl fun K hK => mv rfl rfl (bv rfl (v_lenF rfl rfl ty69 rfl) (bv rfl (v_bin rfl rfl b_eql) ?_))
 refine bf hK (P1 [E3, (4, .ptr 35004 v1 0), (13, .bool (decide (((x2).length : Int) = 0)))] []) ?_
 refine AW.cond rfl (fun hc => ?_) (fun hc => ?_)
 ·obtain ⟨hc, h⟩ := cT hc h
  refine AW.rgs rfl fun K hK => b_op rfl (o_build (cs := [.bool false, .str nS]) rfl (bl_of ty32 rfl rfl rfl rfl) ?_)
  refine b_op rfl (o_store (cs := [.bool false, .str nS]) (zs := [.bool false, .str nS]) rfl rfl rfl ty32 rfl rfl rfl rfl rfl ?_)
  refine bf hK ⟨[(4, .ptr 35004 v1 0)], [O2]⟩ ?_
  refine AW.ret ?_
  have h := Option.some.inj h
  subst h
  exact ret_pure (hs := [.agg [.bool false, .str nS]]) (.inr rfl) (resP ty32 rfl rfl (l_litA rfl (lb rfl) rfl) rfl) rfl ⟨trivial, trivial, trivial⟩
 obtain ⟨hc, h⟩ := cF hc h
 refine AW.skip ?_
 refine AW.rgs rfl fun K hK => mv rfl rfl (bv rfl (v_lenF rfl rfl ty69 rfl) (bv rfl (v_bin rfl rfl b_mul) ?_))
 obtain ⟨h5, h⟩ := ifN h
 refine b_op rfl (o_makeE (fid := 35) eU8 (0 : Int) 35018 rfl rfl ty84 rfl rfl ty5 rfl rfl h5 (fun v4 => ?_))
 refine mv rfl rfl ?_
 let E4 : Nat × HV := (5, .ar 35018 v4 eU8.k 0 ((List.replicate (0 : Int).toNat (0 : Int)).length))
 let O5 : Nat × Nat × AObj := (35018, v4, .arr eU8.k 5 (eU8.E (List.replicate (0 : Int).toNat (0 : Int))))
 refine bf hK (P1 [E3, (4, .ptr 35004 v1 0), E4] [O5]) ?_
 refine AW.seq ?_
 refine AW.rgs rfl fun K hK => mv rfl rfl (bv rfl (v_lenF rfl rfl ty69 rfl) (bv rfl (v_bin rfl rfl b_sub) (mv rfl rfl ?_)))
 refine bf hK (P1 [E3, (4, .ptr 35004 v1 0), E4, (6, hI (IntKind.wrap .i64 (((x2).length : Int) - 1)))] [O5]) ?_
 refine AW.lpX h (by first | exact up_then | exact up_to) (S := Int × (List Int)) (V := Nat) (fun a v => (P1 [E3, (4, .ptr 35004 v1 0), (5, .ar 35018 v eU8.k 0 ((a.2).length)), (6, hI a.1)] [(35018, v, .arr eU8.k 5 (eU8.E a.2))])) ?_ (X := (List Int)) (W := Nat) (fun a v => (P1 [(4, .ptr 35004 v1 0), (5, .ar 35018 v eU8.k 0 ((a).length))] [(35018, v, .arr eU8.k 5 (eU8.E a))])) (fun a28 w29 h => ?_) (fun a6 w7 st8 h => ?_)
 ·exact to_L ⟨v4, rfl⟩
 ·refine AW.to (to_frz 2 [(35018, w29, .arr eU8.k 5 (eU8.E a28))] (P1 [(4, .ptr 35004 v1 0), (5, slE eU8 a28)] []) ⟨⟨_, rfl, rfl⟩, ⟨_, rfl, rfl⟩, ⟨_, rfl, frz_slE eU8 (l := a28) rfl fun _ _ => rfl⟩, trivial⟩ ⟨rfl, trivial⟩ ⟨rfl, trivial⟩ ⟨rfl, trivial⟩ ?_)
  refine AW.rgs rfl fun K hK => mv rfl rfl (mv rfl rfl (bv rfl (v_convB (l := a28) ty84 ty5 ty9 rfl) ?_))
  refine b_op rfl (o_build (cs := [.bool p0, .str (a28.map fun (n : Int) => UInt8.ofNat n.toNat)]) rfl (bl_of ty32 rfl rfl rfl rfl) ?_)
  refine b_op rfl (o_store (cs := [.bool p0, .str (a28.map fun (n : Int) => UInt8.ofNat n.toNat)]) (zs := [.bool p0, .str (a28.map fun (n : Int) => UInt8.ofNat n.toNat)]) rfl rfl rfl ty32 rfl rfl rfl rfl rfl ?_)
  refine bf hK ⟨[(4, .ptr 35004 v1 0)], [(35004, v1, .arr 2 32 [.bool p0, .str (a28.map fun (n : Int) => UInt8.ofNat n.toNat)])]⟩ ?_
  refine AW.ret ?_
  have h := Option.some.inj h
  subst h
  exact ret_pure (hs := [.agg [.bool p0, .str (a28.map fun (n : Int) => UInt8.ofNat n.toNat)]]) (.inr rfl) (resP ty32 rfl rfl (l_litA rfl (lb rfl) rfl) rfl) rfl ⟨trivial, trivial, trivial⟩
 refine AW.seq ?_
 refine AW.rgs rfl fun K hK => mv rfl rfl (bv rfl (v_bin rfl rfl b_geq) ?_)
 refine bf hK (P1 [E3, (4, .ptr 35004 v1 0), (5, .ar 35018 w7 eU8.k 0 ((a6.2).length)), (6, hI a6.1), (23, .bool (decide (0 ≤ a6.1)))] [(35018, w7, .arr eU8.k 5 (eU8.E a6.2))]) ?_
 refine AW.cond rfl (fun hc => ?_) (fun hc => ?_)
 ·obtain ⟨hc, h⟩ := cT hc h
  refine AW.skip ?_
  refine AW.seq (AW.block ?_)
  refine AW.rgs rfl fun K hK => mv rfl rfl ?_
  refine bf hK (P1 [E3, (4, .ptr 35004 v1 0), (5, .ar 35018 w7 eU8.k 0 ((a6.2).length)), (6, hI a6.1), (7, hI 3)] [(35018, w7, .arr eU8.k 5 (eU8.E a6.2))]) ?_
  refine AW.lpX h (by first | exact up_then | exact up_to) (S := Int × (List Int)) (V := Nat) (fun a v => (P1 [E3, (4, .ptr 35004 v1 0), (5, .ar 35018 v eU8.k 0 ((a.2).length)), (6, hI a6.1), (7, hI a.1)] [(35018, v, .arr eU8.k 5 (eU8.E a.2))])) ?_ (X := (List Int)) (W := Nat) (fun a v => (P1 [E3, (4, .ptr 35004 v1 0), (5, .ar 35018 v eU8.k 0 ((a).length)), (6, hI a6.1)] [(35018, v, .arr eU8.k 5 (eU8.E a))])) (fun a26 w27 h => ?_) (fun a10 w11 st12 h => ?_)
  ·exact to_L ⟨w7, rfl⟩
  ·refine AW.rg rfl fun K hK => mv rfl rfl (bv rfl (v_bin rfl rfl b_sub) (mv rfl rfl ?_))
   refine b_nil (hK _ ?_)
   exact to_L ⟨(IntKind.wrap .i64 (a6.1 - 1), a26), w27, h, rfl⟩
  refine AW.seq ?_
  refine AW.rgs rfl fun K hK => mv rfl rfl (bv rfl (v_bin rfl rfl b_geq) ?_)
  let E6 : Nat × HV := (5, .ar 35018 w11 eU8.k 0 ((a10.2).length))
  let O7 : Nat × Nat × AObj := (35018, w11, .arr eU8.k 5 (eU8.E a10.2))
  refine bf hK (P1 [E3, (4, .ptr 35004 v1 0), E6, (6, hI a6.1), (7, hI a10.1), (27, .bool (decide (0 ≤ a10.1)))] [O7]) ?_
  refine AW.cond rfl (fun hc => ?_) (fun hc => ?_)
  ·obtain ⟨hc, h⟩ := cT hc h
   refine AW.skip ?_
   refine AW.seqJ h (S := (List Int)) (V := Nat) (fun a v => (P1 [E3, (4, .ptr 35004 v1 0), (5, .ar 35018 v eU8.k 0 ((a).length)), (6, hI a6.1), (7, hI a10.1)] [(35018, v, .arr eU8.k 5 (eU8.E a))])) (fun a14 w15 h => ?_) (fun k16 h => ?_)
   ·refine AW.rg rfl fun K hK => mv rfl rfl (bv rfl (v_bin rfl rfl b_sub) (mv rfl rfl ?_))
    refine b_nil (hK _ ?_)
    exact to_L ⟨(IntKind.wrap .i64 (a10.1 - 1), a14), w15, h, rfl⟩
   refine AW.block ?_
   refine AW.rgs rfl fun K hK => mv rfl rfl (mv rfl rfl ?_)
   obtain ⟨x17, h18, h⟩ := bS h
   refine bv rfl (v_idxF ty69 es69 rfl rfl (idx_lt h18)) (bv rfl (v_loadF ty66 rfl (l_cell (encM (HV.int .u32)) h18 (o := 0) rfl rfl)) (mv rfl rfl (bv rfl (v_bin rfl rfl b_mul) ?_)))
   obtain ⟨h19, h⟩ := ifN h
   refine bv rfl (v_bin rfl rfl (b_shr h19)) (bv rfl (v_convI ty66 ty5 rfl) (mv rfl rfl ?_))
   let E8 : Nat × HV := (8, .int .u8 (IntKind.wrap .u8 (Int.fdiv x17 (2 ^ (min ((IntKind.wrap .i64 (8 * a10.1))).toNat (IntKind.bits .u32))))))
   refine bf hK (P1 [E3, (4, .ptr 35004 v1 0), E6, (6, hI a6.1), (7, hI a10.1), E8] [O7]) ?_
   refine AW.seqJ h (S := Bool) (V := Unit) (fun a v => (P1 [E3, (4, .ptr 35004 v1 0), E6, (6, hI a6.1), (7, hI a10.1), E8, (44, .bool a)] [O7])) (fun a20 w21 h => ?_) (fun k22 h => ?_)
   ·refine AW.cond rfl (fun hc => ?_) (fun hc => ?_)
    ·have h := ifT hc h
     refine AW.rg rfl fun K hK => mv rfl rfl (mv rfl rfl ?_)
     refine b_op rfl (o_bsl rfl rfl (as_of (cs := [.int .u8 (IntKind.wrap .u8 (Int.fdiv x17 (2 ^ (min ((IntKind.wrap .i64 (8 * a10.1))).toNat (IntKind.bits .u32)))))]) ty84 ty5 rfl rfl rfl rfl rfl) ?_)
     obtain ⟨h24, h⟩ := ifN h
     refine b_op rfl (o_appE eU8 (l := a10.2) (m := [IntKind.wrap .u8 (Int.fdiv x17 (2 ^ (min ((IntKind.wrap .i64 (8 * a10.1))).toNat (IntKind.bits .u32))))]) rfl rfl ty84 ty84 ty5 rfl rfl rfl rfl rfl h24 (fun v23 => ?_))
     refine mv rfl rfl ?_
     refine b_nil (hK _ ?_)
     exact to_L ⟨a10.2 ++ [IntKind.wrap .u8 (Int.fdiv x17 (2 ^ (min ((IntKind.wrap .i64 (8 * a10.1))).toNat (IntKind.bits .u32))))], v23, h, rfl⟩
    have h := ifF (bF' hc) h
    refine AW.skip ?_
    exact to_L ⟨a10.2, w11, h, rfl⟩
   refine AW.rg rfl fun K hK => mv rfl rfl (bv rfl (v_bin rfl rfl b_neq) (mv rfl rfl ?_))
   by_cases hg25 : (IntKind.wrap .u8 (Int.fdiv x17 (2 ^ (min ((IntKind.wrap .i64 (8 * a10.1))).toNat (IntKind.bits .u32))))) ≠ 0
   ·have h := ifT hg25 h
    refine b_F rfl rfl rfl rfl rfl (decide_eq_true hg25) ?_
    refine b_F rfl rfl rfl rfl rfl rfl ?_
    refine b_F rfl rfl rfl rfl rfl rfl ?_
    refine bv rfl (v_pickT rfl rfl rfl) ?_
    refine b_nil (hK _ ?_)
    exact to_L ⟨true, (), h, rfl⟩
   have h := ifF hg25 h
   refine b_T rfl rfl rfl rfl (decide_eq_false hg25) (o_val rfl (mv_val rfl rfl).2 ?_)
   refine b_T rfl rfl rfl rfl rfl (o_val rfl (v_lenA rfl rfl ty84 rfl rfl) ?_)
   refine b_T rfl rfl rfl rfl rfl (o_val rfl (v_bin rfl rfl b_gtr) ?_)
   refine bv rfl (v_pickF rfl rfl rfl) ?_
   refine b_nil (hK _ ?_)
   exact to_L ⟨decide (0 < (((a10.2).length : Nat) : Int)), (), h, rfl⟩
  obtain ⟨hc, h⟩ := cF hc h
  refine AW.exit ?_
  exact to_L ⟨a10.2, w11, h, rfl⟩
 obtain ⟨hc, h⟩ := cF hc h
 refine AW.exit ?_
 exact to_L ⟨a6.2, w7, h, rfl⟩
theorem w_integer_Of {p0 : Int} {r : TNegMag} (h : m_integer_Of p0 = some r) : Pure Tryz.prog 22 [hI p0] (· = HV.agg [.bool r.1, .str r.2]) := by
 unfold m_integer_Of at h
 refine Pure.of_body Tryz.func22 rfl rfl (lb rfl) fun hf => ?_
 unfold Tryz.f22
 dsimp only [enumS, Nat.reduceAdd]
 refine AW.rgs rfl fun K hK => b_op rfl (o_alloc (fid := 22) (zs := [.bool false, .str nS]) 22002 rfl rfl ty32 rfl (fun v1 => ?_))
 let O9 : Nat × Nat × AObj := (22002, v1, .arr 2 32 [.bool false, .str nS])
 let P2 : ASf := fun t H => ⟨(0, hI p0) :: (2, .ptr 22002 v1 0) :: t, O9 :: H⟩
 refine bf hK (P2 [] []) ?_
 refine AW.rgs rfl fun K hK => mv rfl rfl (bv rfl (v_convI ty3 ty64 rfl) (mv rfl rfl ?_))
 refine bf hK (P2 [(3, .int .u64 (IntKind.wrap .u64 p0))] []) ?_
 refine AW.seq ?_
 refine AW.rgs rfl fun K hK => mv rfl rfl (bv rfl (v_bin rfl rfl b_lss) ?_)
 refine bf hK (P2 [(3, .int .u64 (IntKind.wrap .u64 p0)), (7, .bool (decide (p0 < 0)))] []) ?_
 refine AW.lastJ h (by first | exact up_then | exact up_to) (S := Int) (V := Unit) (fun a v => (P2 [(3, .int .u64 a)] [])) (fun a2 w3 h => ?_) (fun k4 h => ?_)
 ·refine AW.rgs rfl fun K hK => mv rfl rfl (bv rfl (v_bin rfl rfl b_lss) (mv rfl rfl (bv rfl (v_convI ty64 ty66 rfl) (mv rfl rfl (bv rfl (v_bin rfl rfl (b_shr (by decide))) ?_)))))
  refine bv rfl (v_convI ty64 ty66 rfl) ?_
  refine b_op rfl (o_bsl rfl rfl (as_of (cs := [.int .u32 (IntKind.wrap .u32 a2), .int .u32 (IntKind.wrap .u32 (Int.fdiv a2 (2 ^ (min (32 : Int).toNat (IntKind.bits .u64)))))]) ty69 ty66 rfl rfl rfl rfl rfl) ?_)
  obtain ⟨x5, h6, h⟩ := bS h
  refine b_op rfl (o_call rfl rfl rfl rfl (ACallD.pure0 (w_integer_number h6)) ?_)
  refine b_op rfl (o_store (cs := [.bool x5.1, .str x5.2]) (zs := [.bool x5.1, .str x5.2]) rfl rfl rfl ty32 rfl rfl rfl rfl rfl ?_)
  refine bf hK ⟨[(2, .ptr 22002 v1 0)], [(22002, v1, .arr 2 32 [.bool x5.1, .str x5.2])]⟩ ?_
  refine AW.ret ?_
  have h := Option.some.inj h
  subst h
  exact ret_pure (hs := [.agg [.bool x5.1, .str x5.2]]) (.inr rfl) (resP ty32 rfl rfl (l_litA rfl (lb rfl) rfl) rfl) rfl ⟨trivial, trivial, trivial⟩
 refine AW.cond rfl (fun hc => ?_) (fun hc => ?_)
 ·obtain ⟨hc, h⟩ := cT hc h
  refine AW.rg rfl fun K hK => mv rfl rfl (bv rfl (v_neg rfl) (mv rfl rfl ?_))
  refine b_nil (hK _ ?_)
  exact to_L ⟨IntKind.wrap .u64 (0 - (IntKind.wrap .u64 p0)), (), h, rfl⟩
 obtain ⟨hc, h⟩ := cF hc h
 refine AW.skip ?_
 exact to_L ⟨IntKind.wrap .u64 p0, (), h, rfl⟩
theorem w_integer_digits {p0 : TNegMag} {r : (List (Int))} (h : m_integer_digits p0 = some r) : Pure Tryz.prog 36 [.agg [.bool p0.1, .str p0.2]] (· = slE (encM (HV.int .u32)) r) := by
 unfold m_integer_digits at h
 refine Pure.of_body Tryz.func36 rfl rfl (lb rfl) fun hf => ?_
 unfold Tryz.f36
 dsimp only [enumS, Nat.reduceAdd]
 refine AW.rgs rfl fun K hK => b_op rfl (o_box rfl rfl rfl ?_)
 refine mv rfl rfl ?_
 let E10 : Nat × HV := (1, .fptr [.bool p0.1, .str p0.2] 0)
 refine bf hK ⟨[E10], []⟩ ?_
 refine AW.rgs rfl fun K hK => bv rfl (v_fieldAddrF fo32_1 rfl) (bv rfl (v_loadF ty9 rfl (l_lit rfl rfl)) (bv rfl (v_lenS rfl rfl ty9 rfl) (bv rfl (v_bin rfl rfl b_add) (bv rfl (v_bin rfl rfl (b_quo (by decide))) ?_))))
 obtain ⟨h2, h⟩ := ifN h
 refine b_op rfl (o_makeE (fid := 36) (encM (HV.int .u32)) (0 : Int) 36011 rfl rfl ty69 rfl rfl ty66 rfl rfl h2 (fun v1 => ?_))
 refine mv rfl rfl ?_
 let E11 : Nat × HV := (3, .ar 36011 v1 (encM (HV.int .u32)).k 0 ((List.replicate (IntKind.wrap .i64 (Int.tdiv (IntKind.wrap .i64 (((p0.2).length : Int) + 3)) 4)).toNat (0 : Int)).length))
 let O12 : Nat × Nat × AObj := (36011, v1, .arr (encM (HV.int .u32)).k 66 ((encM (HV.int .u32)).E (List.replicate (IntKind.wrap .i64 (Int.tdiv (IntKind.wrap .i64 (((p0.2).length : Int) + 3)) 4)).toNat (0 : Int))))
 refine bf hK ⟨[E10, E11], [O12]⟩ ?_
 refine AW.seq ?_
 refine AW.rgs rfl fun K hK => bv rfl (v_fieldAddrF fo32_1 rfl) (bv rfl (v_loadF ty9 rfl (l_lit rfl rfl)) (bv rfl (v_lenS rfl rfl ty9 rfl) (mv rfl rfl ?_)))
 let E13 : Nat × HV := (14, hI ((p0.2).length : Int))
 refine bf hK ⟨[E10, E11, E13, (15, hI 0)], [O12]⟩ ?_
 refine AW.lpX h (by first | exact up_then | exact up_to) (S := Int × (List Int)) (V := Unit) (fun a v => ⟨[E10, (3, .ar 36011 v1 (encM (HV.int .u32)).k 0 ((a.2).length)), E13, (15, hI a.1)], [(36011, v1, .arr (encM (HV.int .u32)).k 66 ((encM (HV.int .u32)).E a.2))]⟩) ?_ (X := (List Int)) (W := Unit) (fun a v => ⟨[(3, .ar 36011 v1 (encM (HV.int .u32)).k 0 ((a).length))], [(36011, v1, .arr (encM (HV.int .u32)).k 66 ((encM (HV.int .u32)).E a))]⟩) (fun a16 w17 h => ?_) (fun a3 w4 st5 h => ?_)
 ·exact to_L ⟨(), rfl⟩
 ·refine AW.to (to_frz 2 [(36011, v1, .arr (encM (HV.int .u32)).k 66 ((encM (HV.int .u32)).E a16))] ⟨[(3, slE (encM (HV.int .u32)) a16)], []⟩ ⟨⟨_, rfl, frz_slE (encM (HV.int .u32)) (l := a16) rfl fun _ _ => rfl⟩, trivial⟩ trivial ⟨rfl, trivial⟩ ⟨rfl, trivial⟩ ?_)
  refine AW.rgs rfl fun K hK => mv rfl rfl ?_
  obtain ⟨x18, h19, h⟩ := bS h
  refine b_op rfl (o_call rfl rfl rfl rfl (ACallD.pure0 (w_integer_trim h19)) ?_)
  refine mv rfl rfl ?_
  refine bf hK ⟨[(2, slE (encM (HV.int .u32)) x18)], []⟩ ?_
  refine AW.ret ?_
  have h := Option.some.inj h
  subst h
  exact ret_pure (hs := [slE (encM (HV.int .u32)) x18]) (.inr rfl) (resT rfl rfl) rfl (clean_slE fun _ _ => ⟨trivial, trivial⟩)
 refine AW.rgs rfl fun K hK => bv rfl (v_bin rfl rfl b_lss) ?_
 let E14 : Nat × HV := (3, .ar 36011 v1 (encM (HV.int .u32)).k 0 ((a3.2).length))
 let O15 : Nat × Nat × AObj := (36011, v1, .arr (encM (HV.int .u32)).k 66 ((encM (HV.int .u32)).E a3.2))
 refine bf hK ⟨[E10, E14, E13, (15, hI a3.1), (16, .bool (decide (a3.1 < ((p0.2).length : Int))))], [O15]⟩ ?_
 refine AW.cseq rfl (fun hc => ?_) (fun hc => ?_)
 ·obtain ⟨hc, h⟩ := cT hc h
  refine AW.skip ?_
  refine AW.seq (AW.block ?_)
  refine AW.rgs rfl fun K hK => mv rfl rfl (mv rfl rfl ?_)
  refine bf hK ⟨[E10, E14, (4, hI a3.1), E13, (15, hI a3.1)], [O15]⟩ ?_
  refine AW.rgs rfl fun K hK => bv rfl (v_fieldAddrF fo32_1 rfl) (bv rfl (v_loadF ty9 rfl (l_lit rfl rfl)) (bv rfl (v_fieldAddrF fo32_1 rfl) (bv rfl (v_loadF ty9 rfl (l_lit rfl rfl)) (bv rfl (v_lenS rfl rfl ty9 rfl) (bv rfl (v_bin rfl rfl b_sub) ?_)))))
  refine mv rfl rfl (bv rfl (v_bin rfl rfl b_sub) ?_)
  obtain ⟨x7, h8, h⟩ := bS h
  refine bv rfl (v_idxS ty9 rfl rfl h8) (mv rfl rfl ?_)
  refine bf hK ⟨[E10, E14, (4, hI a3.1), (5, .int .u8 (x7.toNat : Int)), E13, (15, hI a3.1)], [O15]⟩ ?_
  refine AW.dg 13 follows rfl rfl fun K hK => ?_
  refine sm rfl rfl ?_
  refine sm rfl rfl ?_
  refine sv rfl (v_bin rfl rfl (b_quo (by decide))) ?_
  obtain ⟨x9, h10, h⟩ := bS h
  refine sv rfl (v_idxA ty69 es69 rfl rfl (idx_lt h10) rfl) ?_
  obtain ⟨x11, h12, h⟩ := bS h
  refine sv rfl (v_loadP ty66 rfl rfl (l_cell (encM (HV.int .u32)) h12 (o := 0) rfl rfl)) ?_
  refine sm rfl rfl ?_
  refine sv rfl (v_convI ty5 ty66 rfl) ?_
  refine sm rfl rfl ?_
  refine sv rfl (v_bin rfl rfl (b_rem (by decide))) ?_
  refine sv rfl (v_bin rfl rfl b_mul) ?_
  obtain ⟨h13, h⟩ := ifN h
  refine sv rfl (v_bin rfl rfl (b_shl h13)) ?_
  refine sv rfl (v_bin rfl rfl b_or) ?_
  obtain ⟨x14, h15, h⟩ := bS h
  refine sv rfl (v_idxA ty69 es69 rfl rfl (idx_lt h15) rfl) ?_
  refine s_nil ?_
  refine b_op rfl (o_storeE (encM (HV.int .u32)) (l := a3.2) (j := (IntKind.wrap .i64 (Int.tdiv a3.1 4))) (v := IntKind.wrap .u32 (BitVec.ofInt (IntKind.bits .u32) x11 ||| BitVec.ofInt (IntKind.bits .u32) (IntKind.wrap .u32 ((IntKind.wrap .u32 (x7.toNat : Int)) * 2 ^ (min ((IntKind.wrap .i64 (8 * (Int.tmod a3.1 4)))).toNat (IntKind.bits .u32))))).toNat) rfl rfl rfl ty66 rfl rfl rfl (idx_lt h15) ?_)
  refine b_fin hK (s' := ⟨[E10, (3, .ar 36011 v1 (encM (HV.int .u32)).k 0 (((a3.2).set (IntKind.wrap .i64 (Int.tdiv a3.1 4)).toNat (IntKind.wrap .u32 (BitVec.ofInt (IntKind.bits .u32) x11 ||| BitVec.ofInt (IntKind.bits .u32) (IntKind.wrap .u32 ((IntKind.wrap .u32 (x7.toNat : Int)) * 2 ^ (min ((IntKind.wrap .i64 (8 * (Int.tmod a3.1 4)))).toNat (IntKind.bits .u32))))).toNat)).length)), E13, (15, hI a3.1)], [(36011, v1, .arr (encM (HV.int .u32)).k 66 ((encM (HV.int .u32)).E ((a3.2).set (IntKind.wrap .i64 (Int.tdiv a3.1 4)).toNat (IntKind.wrap .u32 (BitVec.ofInt (IntKind.bits .u32) x11 ||| BitVec.ofInt (IntKind.bits .u32) (IntKind.wrap .u32 ((IntKind.wrap .u32 (x7.toNat : Int)) * 2 ^ (min ((IntKind.wrap .i64 (8 * (Int.tmod a3.1 4)))).toNat (IntKind.bits .u32))))).toNat))))]⟩) (AS.le_of ⟨rfl, arl (by first | rfl | simp only [List.length_set, sortI_len, sortS_len]), rfl, rfl, trivial⟩ ⟨rfl, trivial⟩) ?_
  refine AW.rg rfl fun K hK => bv rfl (v_bin rfl rfl b_add) (mv rfl rfl ?_)
  refine b_nil (hK _ ?_)
  exact to_L ⟨(IntKind.wrap .i64 (a3.1 + 1), (a3.2).set (IntKind.wrap .i64 (Int.tdiv a3.1 4)).toNat (IntKind.wrap .u32 (BitVec.ofInt (IntKind.bits .u32) x11 ||| BitVec.ofInt (IntKind.bits .u32) (IntKind.wrap .u32 ((IntKind.wrap .u32 (x7.toNat : Int)) * 2 ^ (min ((IntKind.wrap .i64 (8 * (Int.tmod a3.1 4)))).toNat (IntKind.bits .u32))))).toNat)), (), h, rfl⟩
 obtain ⟨hc, h⟩ := cF hc h
 refine AW.exit ?_
 exact to_L ⟨a3.2, (), h, rfl⟩
theorem w_integer_add {p0 : List (Int)} {p1 : List (Int)} {r : (List (Int))} (h : m_integer_add p0 p1 = some r) : Pure Tryz.prog 37 [slE (encM (HV.int .u32)) p0, slE (encM (HV.int .u32)) p1] (· = slE (encM (HV.int .u32)) r) := by
 unfold m_integer_add at h
 refine Pure.of_body Tryz.func37 rfl rfl (lb rfl) fun hf => ?_
 unfold Tryz.f37
 dsimp only [enumS, Nat.reduceAdd]
 refine AW.rgs rfl fun K hK => mv rfl rfl ?_
 let P3 : ASf := fun t H => ⟨(0, slE (encM (HV.int .u32)) p0) :: (1, slE (encM (HV.int .u32)) p1) :: t, H⟩
 refine bf hK (P3 [] []) ?_
 refine AW.seq ?_
 refine AW.rgs rfl fun K hK => mv rfl rfl (bv rfl (v_lenF rfl rfl ty69 rfl) (mv rfl rfl (bv rfl (v_lenF rfl rfl ty69 rfl) (bv rfl (v_bin rfl rfl b_lss) ?_))))
 refine bf hK (P3 [(13, .bool (decide (((p0).length : Int) < ((p1).length : Int))))] []) ?_
 refine AW.lastJ h (by first | exact up_then | exact up_to) (S := (List Int) × (List Int)) (V := Unit) (fun a v => ⟨[(0, slE (encM (HV.int .u32)) a.1), (1, slE (encM (HV.int .u32)) a.2)], []⟩) (fun a1 w2 h => ?_) (fun k3 h => ?_)
 ·refine AW.rgs rfl fun K hK => mv rfl rfl (bv rfl (v_lenF rfl rfl ty69 rfl) (bv rfl (v_bin rfl rfl b_add) ?_))
  obtain ⟨h5, h⟩ := ifN h
  refine b_op rfl (o_makeE (fid := 37) (encM (HV.int .u32)) (0 : Int) 37019 rfl rfl ty69 rfl rfl ty66 rfl rfl h5 (fun v4 => ?_))
  refine mv rfl rfl ?_
  let E17 : Nat × HV := (0, slE (encM (HV.int .u32)) a1.1)
  let E18 : Nat × HV := (1, slE (encM (HV.int .u32)) a1.2)
  let E19 : Nat × HV := (5, .ar 37019 v4 (encM (HV.int .u32)).k 0 ((List.replicate (IntKind.wrap .i64 (((a1.1).length : Int) + 1)).toNat (0 : Int)).length))
  let O20 : Nat × Nat × AObj := (37019, v4, .arr (encM (HV.int .u32)).k 66 ((encM (HV.int .u32)).E (List.replicate (IntKind.wrap .i64 (((a1.1).length : Int) + 1)).toNat (0 : Int))))
  refine bf hK ⟨[E17, E18, E19], [O20]⟩ ?_
  refine AW.rgs rfl fun K hK => mv rfl rfl ?_
  refine bf hK ⟨[E17, E18, E19, (6, .int .u64 0)], [O20]⟩ ?_
  refine AW.seq ?_
  refine AW.rgs rfl fun K hK => mv rfl rfl (bv rfl (v_lenF rfl rfl ty69 rfl) (mv rfl rfl ?_))
  let E21 : Nat × HV := (21, hI ((a1.1).length : Int))
  refine bf hK ⟨[E17, E18, E19, (6, .int .u64 0), E21, (22, hI 0)], [O20]⟩ ?_
  refine AW.lpX h (by first | exact up_then | exact up_to) (S := Int × Int × (List Int)) (V := Unit) (fun a v => ⟨[E17, E18, (5, .ar 37019 v4 (encM (HV.int .u32)).k 0 ((a.2.2).length)), (6, .int .u64 a.1), E21, (22, hI a.2.1)], [(37019, v4, .arr (encM (HV.int .u32)).k 66 ((encM (HV.int .u32)).E a.2.2))]⟩) ?_ (X := (List Int) × Int) (W := Unit) (fun a v => ⟨[E17, (5, .ar 37019 v4 (encM (HV.int .u32)).k 0 ((a.1).length)), (6, .int .u64 a.2)], [(37019, v4, .arr (encM (HV.int .u32)).k 66 ((encM (HV.int .u32)).E a.1))]⟩) (fun a19 w20 h => ?_) (fun a6 w7 st8 h => ?_)
  ·exact to_L ⟨(), rfl⟩
  ·refine AW.rgs rfl fun K hK => mv rfl rfl (mv rfl rfl (bv rfl (v_lenF rfl rfl ty69 rfl) (mv rfl rfl (bv rfl (v_convI ty64 ty66 rfl) ?_))))
   obtain ⟨x21, h22, h⟩ := bS h
   refine bv rfl (v_idxA ty69 es69 rfl rfl (idx_lt h22) rfl) ?_
   refine b_op rfl (o_storeE (encM (HV.int .u32)) (l := a19.1) (j := ((a1.1).length : Int)) (v := IntKind.wrap .u32 a19.2) rfl rfl rfl ty66 rfl rfl rfl (idx_lt h22) ?_)
   refine b_fin hK (s' := ⟨[(5, .ar 37019 v4 (encM (HV.int .u32)).k 0 (((a19.1).set (((a1.1).length : Int)).toNat (IntKind.wrap .u32 a19.2)).length))], [(37019, v4, .arr (encM (HV.int .u32)).k 66 ((encM (HV.int .u32)).E ((a19.1).set (((a1.1).length : Int)).toNat (IntKind.wrap .u32 a19.2))))]⟩) (AS.le_of ⟨arl (by first | rfl | simp only [List.length_set, sortI_len, sortS_len]), trivial⟩ ⟨rfl, trivial⟩) ?_
   refine AW.to (to_frz 2 [(37019, v4, .arr (encM (HV.int .u32)).k 66 ((encM (HV.int .u32)).E ((a19.1).set (((a1.1).length : Int)).toNat (IntKind.wrap .u32 a19.2))))] ⟨[(5, slE (encM (HV.int .u32)) ((a19.1).set (((a1.1).length : Int)).toNat (IntKind.wrap .u32 a19.2)))], []⟩ ⟨⟨_, rfl, frz_slE (encM (HV.int .u32)) (l := (a19.1).set (((a1.1).length : Int)).toNat (IntKind.wrap .u32 a19.2)) rfl fun _ _ => rfl⟩, trivial⟩ trivial ⟨rfl, trivial⟩ ⟨rfl, trivial⟩ ?_)
   refine AW.rgs rfl fun K hK => mv rfl rfl ?_
   obtain ⟨x23, h24, h⟩ := bS h
   refine b_op rfl (o_call rfl rfl rfl rfl (ACallD.pure0 (w_integer_trim h24)) ?_)
   refine mv rfl rfl ?_
   refine bf hK ⟨[(4, slE (encM (HV.int .u32)) x23)], []⟩ ?_
   refine AW.ret ?_
   have h := Option.some.inj h
   subst h
   exact ret_pure (hs := [slE (encM (HV.int .u32)) x23]) (.inr rfl) (resT rfl rfl) rfl (clean_slE fun _ _ => ⟨trivial, trivial⟩)
  refine AW.rgs rfl fun K hK => bv rfl (v_bin rfl rfl b_lss) ?_
  let E22 : Nat × HV := (5, .ar 37019 v4 (encM (HV.int .u32)).k 0 ((a6.2.2).length))
  let O23 : Nat × Nat × AObj := (37019, v4, .arr (encM (HV.int .u32)).k 66 ((encM (HV.int .u32)).E a6.2.2))
  let P4 : ASf := fun t H => ⟨E17 :: E18 :: E22 :: t, O23 :: H⟩
  refine bf hK (P4 [(6, .int .u64 a6.1), E21, (22, hI a6.2.1), (23, .bool (decide (a6.2.1 < ((a1.1).length : Int))))] []) ?_
  refine AW.cseq rfl (fun hc => ?_) (fun hc => ?_)
  ·obtain ⟨hc, h⟩ := cT hc h
   refine AW.skip ?_
   refine AW.seq (AW.block ?_)
   refine AW.rgs rfl fun K hK => mv rfl rfl (mv rfl rfl ?_)
   refine bf hK (P4 [(6, .int .u64 a6.1), (7, hI a6.2.1), E21, (22, hI a6.2.1)] []) ?_
   refine AW.rgs rfl fun K hK => mv rfl rfl (mv rfl rfl ?_)
   obtain ⟨x10, h11, h⟩ := bS h
   refine bv rfl (v_idxF ty69 es69 rfl rfl (idx_lt h11)) (bv rfl (v_loadF ty66 rfl (l_cell (encM (HV.int .u32)) h11 (o := 0) rfl rfl)) (bv rfl (v_convI ty66 ty64 rfl) (mv rfl rfl (bv rfl (v_bin rfl rfl b_add) (mv rfl rfl ?_)))))
   let E24 : Nat × HV := (8, .int .u64 (IntKind.wrap .u64 ((IntKind.wrap .u64 x10) + a6.1)))
   refine bf hK (P4 [(7, hI a6.2.1), E24, E21, (22, hI a6.2.1)] []) ?_
   refine AW.seq ?_
   refine AW.rgs rfl fun K hK => mv rfl rfl (mv rfl rfl (bv rfl (v_lenF rfl rfl ty69 rfl) (bv rfl (v_bin rfl rfl b_lss) ?_)))
   refine bf hK (P4 [(7, hI a6.2.1), E24, E21, (22, hI a6.2.1), (35, .bool (decide (a6.2.1 < ((a1.2).length : Int))))] []) ?_
   refine AW.lastJ h (by first | exact up_then | exact up_to) (S := Int) (V := Unit) (fun a v => (P4 [(7, hI a6.2.1), (8, .int .u64 a), E21, (22, hI a6.2.1)] [])) (fun a12 w13 h => ?_) (fun k14 h => ?_)
   ·refine AW.rg rfl fun K hK => mv rfl rfl (mv rfl rfl (mv rfl rfl (bv rfl (v_convI ty64 ty66 rfl) (mv rfl rfl (bv rfl (v_bin rfl rfl (b_shr (by decide))) ?_)))))
    obtain ⟨x15, h16, h⟩ := bS h
    refine bv rfl (v_idxA ty69 es69 rfl rfl (idx_lt h16) rfl) ?_
    refine b_op rfl (o_storeE (encM (HV.int .u32)) (l := a6.2.2) (j := a6.2.1) (v := IntKind.wrap .u32 a12) rfl rfl rfl ty66 rfl rfl rfl (idx_lt h16) ?_)
    refine mv rfl rfl ?_
    refine b_fin hK (s' := ⟨[E17, E18, (5, .ar 37019 v4 (encM (HV.int .u32)).k 0 (((a6.2.2).set (a6.2.1).toNat (IntKind.wrap .u32 a12)).length)), (6, .int .u64 (Int.fdiv a12 (2 ^ (min (32 : Int).toNat (IntKind.bits .u64))))), E21, (22, hI a6.2.1)], [(37019, v4, .arr (encM (HV.int .u32)).k 66 ((encM (HV.int .u32)).E ((a6.2.2).set (a6.2.1).toNat (IntKind.wrap .u32 a12))))]⟩) (AS.le_of ⟨rfl, rfl, arl (by first | rfl | simp only [List.length_set, sortI_len, sortS_len]), rfl, rfl, rfl, trivial⟩ ⟨rfl, trivial⟩) ?_
    refine AW.rg rfl fun K hK => bv rfl (v_bin rfl rfl b_add) (mv rfl rfl ?_)
    refine b_nil (hK _ ?_)
    exact to_L ⟨(Int.fdiv a12 (2 ^ (min (32 : Int).toNat (IntKind.bits .u64))), IntKind.wrap .i64 (a6.2.1 + 1), (a6.2.2).set (a6.2.1).toNat (IntKind.wrap .u32 a12)), (), h, rfl⟩
   refine AW.cond rfl (fun hc => ?_) (fun hc => ?_)
   ·obtain ⟨hc, h⟩ := cT hc h
    refine AW.rg rfl fun K hK => mv rfl rfl (mv rfl rfl (mv rfl rfl ?_))
    obtain ⟨x17, h18, h⟩ := bS h
    refine bv rfl (v_idxF ty69 es69 rfl rfl (idx_lt h18)) (bv rfl (v_loadF ty66 rfl (l_cell (encM (HV.int .u32)) h18 (o := 0) rfl rfl)) (bv rfl (v_convI ty66 ty64 rfl) (bv rfl (v_bin rfl rfl b_add) (mv rfl rfl ?_))))
    refine b_nil (hK _ ?_)
    exact to_L ⟨IntKind.wrap .u64 ((IntKind.wrap .u64 ((IntKind.wrap .u64 x10) + a6.1)) + (IntKind.wrap .u64 x17)), (), h, rfl⟩
   obtain ⟨hc, h⟩ := cF hc h
   refine AW.skip ?_
   exact to_L ⟨IntKind.wrap .u64 ((IntKind.wrap .u64 x10) + a6.1), (), h, rfl⟩
  obtain ⟨hc, h⟩ := cF hc h
  refine AW.exit ?_
  exact to_L ⟨(a6.2.2, a6.1), (), h, rfl⟩
 refine AW.cond rfl (fun hc => ?_) (fun hc => ?_)
 ·obtain ⟨hc, h⟩ := cT hc h
  refine AW.rg rfl fun K hK => mv rfl rfl (mv rfl rfl (mv rfl rfl (mv rfl rfl ?_)))
  refine b_nil (hK _ ?_)
  exact to_L ⟨(p1, p0), (), h, rfl⟩
 obtain ⟨hc, h⟩ := cF hc h
 refine AW.skip ?_
 exact to_L ⟨(p0, p1), (), h, rfl⟩
theorem w_integer_compare {p0 : List (Int)} {p1 : List (Int)} {r : Int} (h : m_integer_compare p0 p1 = some r) : Pure Tryz.prog 38 [slE (encM (HV.int .u32)) p0, slE (encM (HV.int .u32)) p1] (· = hI r) := by
 unfold m_integer_compare at h
 refine Pure.of_body Tryz.func38 rfl rfl (lb rfl) fun hf => ?_
 unfold Tryz.f38
 dsimp only [enumS, Nat.reduceAdd]
 refine AW.rgs rfl fun K hK => mv rfl rfl ?_
 let E1 : Nat × HV := (1, slE (encM (HV.int .u32)) p1)
 let E16 : Nat × HV := (0, slE (encM (HV.int .u32)) p0)
 refine bf hK ⟨[E16, E1], []⟩ ?_
 refine AW.seq ?_
 refine AW.rgs rfl fun K hK => mv rfl rfl (bv rfl (v_lenF rfl rfl ty69 rfl) (mv rfl rfl (bv rfl (v_lenF rfl rfl ty69 rfl) (bv rfl (v_bin rfl rfl b_neq) ?_))))
 refine bf hK ⟨[E16, E1, (10, .bool (decide (((p0).length : Int) ≠ ((p1).length : Int))))], []⟩ ?_
 refine AW.cond rfl (fun hc => ?_) (fun hc => ?_)
 ·obtain ⟨hc, h⟩ := cT hc h
  refine AW.seq ?_
  refine AW.rgs rfl fun K hK => mv rfl rfl (bv rfl (v_lenF rfl rfl ty69 rfl) (mv rfl rfl (bv rfl (v_lenF rfl rfl ty69 rfl) (bv rfl (v_bin rfl rfl b_lss) ?_))))
  refine bf hK ⟨[(15, .bool (decide (((p0).length : Int) < ((p1).length : Int))))], []⟩ ?_
  refine AW.cond rfl (fun hc => ?_) (fun hc => ?_)
  ·obtain ⟨hc, h⟩ := cT hc h
   refine AW.rgs rfl fun K hK => mv rfl rfl ?_
   refine bf hK ⟨[(4, hI (-1))], []⟩ ?_
   refine AW.ret ?_
   have h := Option.some.inj h
   subst h
   exact ret_pure (hs := [hI (-1)]) (.inr rfl) (resT rfl rfl) rfl trivial
  obtain ⟨hc, h⟩ := cF hc h
  refine AW.skip ?_
  refine AW.rgs rfl fun K hK => mv rfl rfl ?_
  refine bf hK ⟨[(4, hI 1)], []⟩ ?_
  refine AW.ret ?_
  have h := Option.some.inj h
  subst h
  exact ret_pure (hs := [hI 1]) (.inr rfl) (resT rfl rfl) rfl trivial
 obtain ⟨hc, h⟩ := cF hc h
 refine AW.skip ?_
 refine AW.seq ?_
 refine AW.rgs rfl fun K hK => mv rfl rfl (bv rfl (v_lenF rfl rfl ty69 rfl) (bv rfl (v_bin rfl rfl b_sub) (mv rfl rfl ?_)))
 refine bf hK ⟨[E16, E1, (5, hI (IntKind.wrap .i64 (((p0).length : Int) - 1)))], []⟩ ?_
 refine AW.lpR h (by first | exact up_then | exact up_to) (S := Int) (V := Unit) (fun a v => ⟨[E16, E1, (5, hI a)], []⟩) ?_ (X := Unit) (W := Unit) (fun a v => ⟨[], []⟩) (fun a13 w14 h => ?_) (fun a1 w2 st3 h hr4=> ?_)
 ·exact to_L ⟨(), rfl⟩
 ·refine AW.rgs rfl fun K hK => mv rfl rfl ?_
  refine bf hK ⟨[(4, hI 0)], []⟩ ?_
  refine AW.ret ?_
  have h := Option.some.inj h
  subst h
  exact ret_pure (hs := [hI 0]) (.inr rfl) (resT rfl rfl) rfl trivial
 refine AW.seq ?_
 refine AW.rgs rfl fun K hK => mv rfl rfl (bv rfl (v_bin rfl rfl b_geq) ?_)
 refine bf hK ⟨[E16, E1, (5, hI a1), (20, .bool (decide (0 ≤ a1)))], []⟩ ?_
 refine AW.cond rfl (fun hc => ?_) (fun hc => ?_)
 ·obtain ⟨hc, h⟩ := cT hc h
  refine AW.skip ?_
  refine AW.seq (AW.block ?_)
  refine AW.dgs 9 follows rfl rfl fun K hK => ?_
  refine sm rfl rfl ?_
  refine sm rfl rfl ?_
  obtain ⟨x5, h6, h⟩ := bS h
  refine sv rfl (v_idxF ty69 es69 rfl rfl (idx_lt h6)) ?_
  refine sv rfl (v_loadF ty66 rfl (l_cell (encM (HV.int .u32)) h6 (o := 0) rfl rfl)) ?_
  refine sm rfl rfl ?_
  refine sm rfl rfl ?_
  obtain ⟨x7, h8, h⟩ := bS h
  refine sv rfl (v_idxF ty69 es69 rfl rfl (idx_lt h8)) ?_
  refine sv rfl (v_loadF ty66 rfl (l_cell (encM (HV.int .u32)) h8 (o := 0) rfl rfl)) ?_
  refine sv rfl (v_bin rfl rfl b_neq) ?_
  refine s_nil ?_
  refine bf hK ⟨[E16, E1, (5, hI a1), (31, .bool (decide (x5 ≠ x7)))], []⟩ ?_
  refine AW.cond rfl (fun hc => ?_) (fun hc => ?_)
  ·obtain ⟨hc, h⟩ := cT hc h
   refine AW.seq ?_
   refine AW.dgs 9 follows rfl rfl fun K hK => ?_
   refine sm rfl rfl ?_
   refine sm rfl rfl ?_
   obtain ⟨x9, h10, h⟩ := bS h
   refine sv rfl (v_idxF ty69 es69 rfl rfl (idx_lt h10)) ?_
   refine sv rfl (v_loadF ty66 rfl (l_cell (encM (HV.int .u32)) h10 (o := 0) rfl rfl)) ?_
   refine sm rfl rfl ?_
   refine sm rfl rfl ?_
   obtain ⟨x11, h12, h⟩ := bS h
   refine sv rfl (v_idxF ty69 es69 rfl rfl (idx_lt h12)) ?_
   refine sv rfl (v_loadF ty66 rfl (l_cell (encM (HV.int .u32)) h12 (o := 0) rfl rfl)) ?_
   refine sv rfl (v_bin rfl rfl b_lss) ?_
   refine s_nil ?_
   refine bf hK ⟨[(40, .bool (decide (x9 < x11)))], []⟩ ?_
   refine AW.cond rfl (fun hc => ?_) (fun hc => ?_)
   ·obtain ⟨hc, h⟩ := cT hc h
    refine AW.rgs rfl fun K hK => mv rfl rfl ?_
    refine bf hK ⟨[(4, hI (-1))], []⟩ ?_
    have h := hr4 _ h
    refine AW.ret ?_
    have h := Option.some.inj h
    subst h
    exact ret_pure (hs := [hI (-1)]) (.inr rfl) (resT rfl rfl) rfl trivial
   obtain ⟨hc, h⟩ := cF hc h
   refine AW.skip ?_
   refine AW.rgs rfl fun K hK => mv rfl rfl ?_
   refine bf hK ⟨[(4, hI 1)], []⟩ ?_
   have h := hr4 _ h
   refine AW.ret ?_
   have h := Option.some.inj h
   subst h
   exact ret_pure (hs := [hI 1]) (.inr rfl) (resT rfl rfl) rfl trivial
  obtain ⟨hc, h⟩ := cF hc h
  refine AW.skip ?_
  refine AW.rg rfl fun K hK => mv rfl rfl (bv rfl (v_bin rfl rfl b_sub) (mv rfl rfl ?_))
  refine b_nil (hK _ ?_)
  exact to_L ⟨IntKind.wrap .i64 (a1 - 1), (), h, rfl⟩
 obtain ⟨hc, h⟩ := cF hc h
 refine AW.exit ?_
 exact to_L ⟨(), (), h, rfl⟩
theorem w_integer_subtract {p0 : List (Int)} {p1 : List (Int)} {r : (List (Int))} (h : m_integer_subtract p0 p1 = some r) : Pure Tryz.prog 39 [slE (encM (HV.int .u32)) p0, slE (encM (HV.int .u32)) p1] (· = slE (encM (HV.int .u32)) r) := by
 unfold m_integer_subtract at h
 refine Pure.of_body Tryz.func39 rfl rfl (lb rfl) fun hf => ?_
 unfold Tryz.f39
 dsimp only [enumS, Nat.reduceAdd]
 refine AW.rgs rfl fun K hK => mv rfl rfl ?_
 let E1 : Nat × HV := (0, slE (encM (HV.int .u32)) p0)
 let E2 : Nat × HV := (1, slE (encM (HV.int .u32)) p1)
 refine bf hK ⟨[E1, E2], []⟩ ?_
 refine AW.rgs rfl fun K hK => mv rfl rfl (bv rfl (v_lenF rfl rfl ty69 rfl) ?_)
 obtain ⟨h2, h⟩ := ifN h
 refine b_op rfl (o_makeE (fid := 39) (encM (HV.int .u32)) (0 : Int) 39011 rfl rfl ty69 rfl rfl ty66 rfl rfl h2 (fun v1 => ?_))
 refine mv rfl rfl ?_
 let E3 : Nat × HV := (5, .ar 39011 v1 (encM (HV.int .u32)).k 0 ((List.replicate (((p0).length : Int)).toNat (0 : Int)).length))
 let O4 : Nat × Nat × AObj := (39011, v1, .arr (encM (HV.int .u32)).k 66 ((encM (HV.int .u32)).E (List.replicate (((p0).length : Int)).toNat (0 : Int))))
 refine bf hK ⟨[E1, E2, E3], [O4]⟩ ?_
 refine AW.rgs rfl fun K hK => mv rfl rfl ?_
 refine bf hK ⟨[E1, E2, E3, (6, hI 0)], [O4]⟩ ?_
 refine AW.seq ?_
 refine AW.rgs rfl fun K hK => mv rfl rfl (bv rfl (v_lenF rfl rfl ty69 rfl) (mv rfl rfl ?_))
 let E5 : Nat × HV := (13, hI ((p0).length : Int))
 refine bf hK ⟨[E1, E2, E3, (6, hI 0), E5, (14, hI 0)], [O4]⟩ ?_
 refine AW.lpX h (by first | exact up_then | exact up_to) (S := Int × Int × (List Int)) (V := Unit) (fun a v => ⟨[E1, E2, (5, .ar 39011 v1 (encM (HV.int .u32)).k 0 ((a.2.2).length)), (6, hI a.1), E5, (14, hI a.2.1)], [(39011, v1, .arr (encM (HV.int .u32)).k 66 ((encM (HV.int .u32)).E a.2.2))]⟩) ?_ (X := (List Int)) (W := Unit) (fun a v => ⟨[(5, .ar 39011 v1 (encM (HV.int .u32)).k 0 ((a).length))], [(39011, v1, .arr (encM (HV.int .u32)).k 66 ((encM (HV.int .u32)).E a))]⟩) (fun a19 w20 h => ?_) (fun a3 w4 st5 h => ?_)
 ·exact to_L ⟨(), rfl⟩
 ·refine AW.to (to_frz 2 [(39011, v1, .arr (encM (HV.int .u32)).k 66 ((encM (HV.int .u32)).E a19))] ⟨[(5, slE (encM (HV.int .u32)) a19)], []⟩ ⟨⟨_, rfl, frz_slE (encM (HV.int .u32)) (l := a19) rfl fun _ _ => rfl⟩, trivial⟩ trivial ⟨rfl, trivial⟩ ⟨rfl, trivial⟩ ?_)
  refine AW.rgs rfl fun K hK => mv rfl rfl ?_
  obtain ⟨x21, h22, h⟩ := bS h
  refine b_op rfl (o_call rfl rfl rfl rfl (ACallD.pure0 (w_integer_trim h22)) ?_)
  refine mv rfl rfl ?_
  refine bf hK ⟨[(4, slE (encM (HV.int .u32)) x21)], []⟩ ?_
  refine AW.ret ?_
  have h := Option.some.inj h
  subst h
  exact ret_pure (hs := [slE (encM (HV.int .u32)) x21]) (.inr rfl) (resT rfl rfl) rfl (clean_slE fun _ _ => ⟨trivial, trivial⟩)
 refine AW.rgs rfl fun K hK => bv rfl (v_bin rfl rfl b_lss) ?_
 let E6 : Nat × HV := (5, .ar 39011 v1 (encM (HV.int .u32)).k 0 ((a3.2.2).length))
 let O7 : Nat × Nat × AObj := (39011, v1, .arr (encM (HV.int .u32)).k 66 ((encM (HV.int .u32)).E a3.2.2))
 let P1 : ASf := fun t H => ⟨E1 :: E2 :: E6 :: t, O7 :: H⟩
 refine bf hK (P1 [(6, hI a3.1), E5, (14, hI a3.2.1), (15, .bool (decide (a3.2.1 < ((p0).length : Int))))] []) ?_
 refine AW.cseq rfl (fun hc => ?_) (fun hc => ?_)
 ·obtain ⟨hc, h⟩ := cT hc h
  refine AW.skip ?_
  refine AW.seq (AW.block ?_)
  refine AW.rgs rfl fun K hK => mv rfl rfl (mv rfl rfl ?_)
  refine bf hK (P1 [(6, hI a3.1), (7, hI a3.2.1), E5, (14, hI a3.2.1)] []) ?_
  refine AW.rgs rfl fun K hK => mv rfl rfl (mv rfl rfl ?_)
  obtain ⟨x7, h8, h⟩ := bS h
  refine bv rfl (v_idxF ty69 es69 rfl rfl (idx_lt h8)) (bv rfl (v_loadF ty66 rfl (l_cell (encM (HV.int .u32)) h8 (o := 0) rfl rfl)) (bv rfl (v_convI ty66 ty2 rfl) (mv rfl rfl (bv rfl (v_bin rfl rfl b_sub) (mv rfl rfl ?_)))))
  refine bf hK (P1 [(7, hI a3.2.1), (8, hI (IntKind.wrap .i64 ((IntKind.wrap .i64 x7) - a3.1))), E5, (14, hI a3.2.1)] []) ?_
  refine AW.seq ?_
  refine AW.rgs rfl fun K hK => mv rfl rfl (mv rfl rfl (bv rfl (v_lenF rfl rfl ty69 rfl) (bv rfl (v_bin rfl rfl b_lss) ?_)))
  refine bf hK (P1 [(7, hI a3.2.1), (8, hI (IntKind.wrap .i64 ((IntKind.wrap .i64 x7) - a3.1))), E5, (14, hI a3.2.1), (27, .bool (decide (a3.2.1 < ((p1).length : Int))))] []) ?_
  refine AW.lastJ h (by first | exact up_then | exact up_to) (S := Int) (V := Unit) (fun a v => (P1 [(7, hI a3.2.1), (8, hI a), E5, (14, hI a3.2.1)] [])) (fun a9 w10 h => ?_) (fun k11 h => ?_)
  ·refine AW.rgs rfl fun K hK => mv rfl rfl ?_
   refine bf hK (P1 [(6, hI 0), (7, hI a3.2.1), (8, hI a9), E5, (14, hI a3.2.1)] []) ?_
   refine AW.seq ?_
   refine AW.rgs rfl fun K hK => mv rfl rfl (bv rfl (v_bin rfl rfl b_lss) ?_)
   refine bf hK (P1 [(6, hI 0), (7, hI a3.2.1), (8, hI a9), E5, (14, hI a3.2.1), (36, .bool (decide (a9 < 0)))] []) ?_
   refine AW.lastJ h (by first | exact up_then | exact up_to) (S := Int × Int) (V := Unit) (fun a v => (P1 [(6, hI a.1), (7, hI a3.2.1), (8, hI a.2), E5, (14, hI a3.2.1)] [])) (fun a12 w13 h => ?_) (fun k14 h => ?_)
   ·refine AW.rg rfl fun K hK => mv rfl rfl (mv rfl rfl (mv rfl rfl (bv rfl (v_convI ty2 ty66 rfl) ?_)))
    obtain ⟨x15, h16, h⟩ := bS h
    refine bv rfl (v_idxA ty69 es69 rfl rfl (idx_lt h16) rfl) ?_
    refine b_op rfl (o_storeE (encM (HV.int .u32)) (l := a3.2.2) (j := a3.2.1) (v := IntKind.wrap .u32 a12.2) rfl rfl rfl ty66 rfl rfl rfl (idx_lt h16) ?_)
    refine b_fin hK (s' := ⟨[E1, E2, (5, .ar 39011 v1 (encM (HV.int .u32)).k 0 (((a3.2.2).set (a3.2.1).toNat (IntKind.wrap .u32 a12.2)).length)), (6, hI a12.1), E5, (14, hI a3.2.1)], [(39011, v1, .arr (encM (HV.int .u32)).k 66 ((encM (HV.int .u32)).E ((a3.2.2).set (a3.2.1).toNat (IntKind.wrap .u32 a12.2))))]⟩) (AS.le_of ⟨rfl, rfl, arl (by first | rfl | simp only [List.length_set, sortI_len, sortS_len]), rfl, rfl, rfl, trivial⟩ ⟨rfl, trivial⟩) ?_
    refine AW.rg rfl fun K hK => bv rfl (v_bin rfl rfl b_add) (mv rfl rfl ?_)
    refine b_nil (hK _ ?_)
    exact to_L ⟨(a12.1, IntKind.wrap .i64 (a3.2.1 + 1), (a3.2.2).set (a3.2.1).toNat (IntKind.wrap .u32 a12.2)), (), h, rfl⟩
   refine AW.cond rfl (fun hc => ?_) (fun hc => ?_)
   ·obtain ⟨hc, h⟩ := cT hc h
    refine AW.rgs rfl fun K hK => mv rfl rfl (bv rfl (v_bin rfl rfl b_add) (mv rfl rfl ?_))
    refine bf hK (P1 [(7, hI a3.2.1), (8, hI (IntKind.wrap .i64 (a9 + 4294967296))), E5, (14, hI a3.2.1)] []) ?_
    refine AW.rg rfl fun K hK => mv rfl rfl ?_
    refine b_nil (hK _ ?_)
    exact to_L ⟨(1, IntKind.wrap .i64 (a9 + 4294967296)), (), h, rfl⟩
   obtain ⟨hc, h⟩ := cF hc h
   refine AW.skip ?_
   exact to_L ⟨(0, a9), (), h, rfl⟩
  refine AW.cond rfl (fun hc => ?_) (fun hc => ?_)
  ·obtain ⟨hc, h⟩ := cT hc h
   refine AW.rg rfl fun K hK => mv rfl rfl (mv rfl rfl (mv rfl rfl ?_))
   obtain ⟨x17, h18, h⟩ := bS h
   refine bv rfl (v_idxF ty69 es69 rfl rfl (idx_lt h18)) (bv rfl (v_loadF ty66 rfl (l_cell (encM (HV.int .u32)) h18 (o := 0) rfl rfl)) (bv rfl (v_convI ty66 ty2 rfl) (bv rfl (v_bin rfl rfl b_sub) (mv rfl rfl ?_))))
   refine b_nil (hK _ ?_)
   exact to_L ⟨IntKind.wrap .i64 ((IntKind.wrap .i64 ((IntKind.wrap .i64 x7) - a3.1)) - (IntKind.wrap .i64 x17)), (), h, rfl⟩
  obtain ⟨hc, h⟩ := cF hc h
  refine AW.skip ?_
  exact to_L ⟨IntKind.wrap .i64 ((IntKind.wrap .i64 x7) - a3.1), (), h, rfl⟩
 obtain ⟨hc, h⟩ := cF hc h
 refine AW.exit ?_
 exact to_L ⟨a3.2.2, (), h, rfl⟩
theorem w_integer_Add {p0 : TNegMag} {p1 : TNegMag} {r : TNegMag} (h : m_integer_Add p0 p1 = some r) : Pure Tryz.prog 23 [.agg [.bool p0.1, .str p0.2], .agg [.bool p1.1, .str p1.2]] (· = HV.agg [.bool r.1, .str r.2]) := by
 unfold m_integer_Add at h
 refine Pure.of_body Tryz.func23 rfl rfl (lb rfl) fun hf => ?_
 unfold Tryz.f23
 dsimp only [enumS, Nat.reduceAdd]
 refine AW.rgs rfl fun K hK => b_op rfl (o_box rfl rfl rfl ?_)
 refine b_op rfl (o_box rfl rfl rfl ?_)
 refine b_op rfl (o_alloc (fid := 23) (zs := [.bool false, .str nS]) 23004 rfl rfl ty32 rfl (fun v1 => ?_))
 let E8 : Nat × HV := (2, .fptr [.bool p0.1, .str p0.2] 0)
 let E9 : Nat × HV := (3, .fptr [.bool p1.1, .str p1.2] 0)
 let O10 : Nat × Nat × AObj := (23004, v1, .arr 2 32 [.bool false, .str nS])
 let P2 : ASf := fun t H => ⟨E8 :: E9 :: (4, .ptr 23004 v1 0) :: t, O10 :: H⟩
 refine bf hK (P2 [] []) ?_
 refine AW.dgs 6 follows rfl rfl fun K hK => ?_
 refine sv rfl (v_loadF ty32 rfl (l_litA rfl (lb rfl) rfl)) ?_
 obtain ⟨x2, h3, h⟩ := bS h
 refine s_op rfl rfl (ops_call rfl rfl rfl rfl (ACallD.pure0 (w_integer_digits h3)) ?_)
 refine sv rfl (v_loadF ty32 rfl (l_litA rfl (lb rfl) rfl)) ?_
 obtain ⟨x4, h5, h⟩ := bS h
 refine s_op rfl rfl (ops_call rfl rfl rfl rfl (ACallD.pure0 (w_integer_digits h5)) ?_)
 refine sm rfl rfl ?_
 refine sm rfl rfl ?_
 refine s_nil ?_
 refine bf hK (P2 [(5, slE (encM (HV.int .u32)) x2), (6, slE (encM (HV.int .u32)) x4)] []) ?_
 refine AW.seq ?_
 refine AW.rgs rfl fun K hK => bv rfl (v_fieldAddrF fo32_0 rfl) (bv rfl (v_loadF ty4 rfl (l_lit rfl rfl)) (bv rfl (v_fieldAddrF fo32_0 rfl) (bv rfl (v_loadF ty4 rfl (l_lit rfl rfl)) (bv rfl (v_bin rfl rfl (b_eqB ty4)) ?_))))
 refine bf hK (P2 [(5, slE (encM (HV.int .u32)) x2), (6, slE (encM (HV.int .u32)) x4), (15, .bool (p0.1 == p1.1))] []) ?_
 refine AW.cond rfl (fun hc => ?_) (fun hc => ?_)
 ·have h := ifT hc h
  refine AW.dgs 6 follows rfl rfl fun K hK => ?_
  refine sv rfl (v_fieldAddrF fo32_0 rfl) ?_
  refine sv rfl (v_loadF ty4 rfl (l_lit rfl rfl)) ?_
  refine sm rfl rfl ?_
  refine sm rfl rfl ?_
  obtain ⟨x6, h7, h⟩ := bS h
  refine s_op rfl rfl (ops_call rfl rfl rfl rfl (ACallD.pure0 (w_integer_add h7)) ?_)
  obtain ⟨x8, h9, h⟩ := bS h
  refine s_op rfl rfl (ops_call rfl rfl rfl rfl (ACallD.pure0 (w_integer_number h9)) ?_)
  refine s_nil ?_
  refine b_op rfl (o_store (cs := [.bool x8.1, .str x8.2]) (zs := [.bool x8.1, .str x8.2]) rfl rfl rfl ty32 rfl rfl rfl rfl rfl ?_)
  refine bf hK ⟨[(4, .ptr 23004 v1 0)], [(23004, v1, .arr 2 32 [.bool x8.1, .str x8.2])]⟩ ?_
  refine AW.ret ?_
  have h := Option.some.inj h
  subst h
  exact ret_pure (hs := [.agg [.bool x8.1, .str x8.2]]) (.inr rfl) (resP ty32 rfl rfl (l_litA rfl (lb rfl) rfl) rfl) rfl ⟨trivial, trivial, trivial⟩
 have h := ifF (bF' hc) h
 refine AW.skip ?_
 refine AW.seq ?_
 refine AW.rgs rfl fun K hK => mv rfl rfl (mv rfl rfl ?_)
 obtain ⟨x10, h11, h⟩ := bS h
 refine b_op rfl (o_call rfl rfl rfl rfl (ACallD.pure0 (w_integer_compare h11)) ?_)
 refine bv rfl (v_bin rfl rfl b_lss) ?_
 refine bf hK (P2 [(5, slE (encM (HV.int .u32)) x2), (6, slE (encM (HV.int .u32)) x4), (25, .bool (decide (x10 < 0)))] []) ?_
 refine AW.cond rfl (fun hc => ?_) (fun hc => ?_)
 ·obtain ⟨hc, h⟩ := cT hc h
  refine AW.dgs 6 follows rfl rfl fun K hK => ?_
  refine sv rfl (v_fieldAddrF fo32_0 rfl) ?_
  refine sv rfl (v_loadF ty4 rfl (l_lit rfl rfl)) ?_
  refine sm rfl rfl ?_
  refine sm rfl rfl ?_
  obtain ⟨x12, h13, h⟩ := bS h
  refine s_op rfl rfl (ops_call rfl rfl rfl rfl (ACallD.pure0 (w_integer_subtract h13)) ?_)
  obtain ⟨x14, h15, h⟩ := bS h
  refine s_op rfl rfl (ops_call rfl rfl rfl rfl (ACallD.pure0 (w_integer_number h15)) ?_)
  refine s_nil ?_
  refine b_op rfl (o_store (cs := [.bool x14.1, .str x14.2]) (zs := [.bool x14.1, .str x14.2]) rfl rfl rfl ty32 rfl rfl rfl rfl rfl ?_)
  refine bf hK ⟨[(4, .ptr 23004 v1 0)], [(23004, v1, .arr 2 32 [.bool x14.1, .str x14.2])]⟩ ?_
  refine AW.ret ?_
  have h := Option.some.inj h
  subst h
  exact ret_pure (hs := [.agg [.bool x14.1, .str x14.2]]) (.inr rfl) (resP ty32 rfl rfl (l_litA rfl (lb rfl) rfl) rfl) rfl ⟨trivial, trivial, trivial⟩
 obtain ⟨hc, h⟩ := cF hc h
 refine AW.skip ?_
 refine AW.dgs 6 follows rfl rfl fun K hK => ?_
 refine sv rfl (v_fieldAddrF fo32_0 rfl) ?_
 refine sv rfl (v_loadF ty4 rfl (l_lit rfl rfl)) ?_
 refine sm rfl rfl ?_
 refine sm rfl rfl ?_
 obtain ⟨x16, h17, h⟩ := bS h
 refine s_op rfl rfl (ops_call rfl rfl rfl rfl (ACallD.pure0 (w_integer_subtract h17)) ?_)
 obtain ⟨x18, h19, h⟩ := bS h
 refine s_op rfl rfl (ops_call rfl rfl rfl rfl (ACallD.pure0 (w_integer_number h19)) ?_)
 refine s_nil ?_
 refine b_op rfl (o_store (cs := [.bool x18.1, .str x18.2]) (zs := [.bool x18.1, .str x18.2]) rfl rfl rfl ty32 rfl rfl rfl rfl rfl ?_)
 refine bf hK ⟨[(4, .ptr 23004 v1 0)], [(23004, v1, .arr 2 32 [.bool x18.1, .str x18.2])]⟩ ?_
 refine AW.ret ?_
 have h := Option.some.inj h
 subst h
 exact ret_pure (hs := [.agg [.bool x18.1, .str x18.2]]) (.inr rfl) (resP ty32 rfl rfl (l_litA rfl (lb rfl) rfl) rfl) rfl ⟨trivial, trivial, trivial⟩
theorem w_subset_Count {p0 : TLabelsStatesEdges} {p1 : Int} {r : TNegMag × Int} (h : m_subset_Count p0 p1 = some r) : Pure Tryz.prog 8 [gA p0, hI p1] (· = HV.tup [.agg [.bool r.1.1, .str r.1.2], hI r.2]) := by
 unfold m_subset_Count at h
 refine Pure.of_body Tryz.func8 rfl rfl (lb rfl) fun hf => ?_
 unfold Tryz.f8
 dsimp only [enumS, Nat.reduceAdd]
 refine AW.rgs rfl fun K hK => b_op rfl (o_box rfl rfl rfl ?_)
 refine b_op rfl (o_alloc (fid := 8) (zs := [.bool false, .str nS]) 8004 rfl rfl ty32 rfl (fun v1 => ?_))
 refine mv rfl rfl ?_
 let O11 : Nat × Nat × AObj := (8004, v1, .arr 2 32 [.bool false, .str nS])
 let P3 : ASf := fun t H => ⟨(1, hI p1) :: (2, gF p0) :: (4, .ptr 8004 v1 0) :: t, O11 :: H⟩
 refine bf hK (P3 [] []) ?_
 refine AW.seq (AW.block ?_)
 refine AW.rgs rfl fun K hK => bv rfl (v_loadF ty24 rfl (l_litA rfl (lb rfl) rfl)) ?_
 obtain ⟨x2, h3, h⟩ := bS h
 refine b_op rfl (o_call rfl rfl rfl rfl (ACallD.pure0 (w_graph_Check h3)) ?_)
 refine bv rfl (v_bin rfl rfl b_neq) (mv rfl rfl ?_)
 refine bf hK (P3 [(16, .bool (decide (x2 ≠ 0)))] []) ?_
 refine AW.cond rfl (fun hc => ?_) (fun hc => ?_)
 ·obtain ⟨hc, h⟩ := cT hc h
  refine AW.rgs rfl fun K hK => b_op rfl (o_build (cs := [.bool false, .str nS]) rfl (bl_of ty32 rfl rfl rfl rfl) ?_)
  refine b_op rfl (o_store (cs := [.bool false, .str nS]) (zs := [.bool false, .str nS]) rfl rfl rfl ty32 rfl rfl rfl rfl rfl ?_)
  refine mv rfl rfl ?_
  refine bf hK ⟨[(4, .ptr 8004 v1 0), (5, hI 1)], [O11]⟩ ?_
  refine AW.ret ?_
  have h := Option.some.inj h
  subst h
  exact ret_pure (hs := [.agg [.bool false, .str nS], hI 1]) (.inr rfl) (resP ty32 rfl rfl (l_litA rfl (lb rfl) rfl) (resT rfl rfl)) rfl ⟨⟨trivial, trivial, trivial⟩, trivial, trivial⟩
 obtain ⟨hc, h⟩ := cF hc h
 refine AW.seqJ h (S := Bool) (V := Unit) (fun a v => (P3 [(21, .bool a)] [])) (fun a4 w5 h => ?_) (fun k6 h => ?_)
 ·refine AW.cond rfl (fun hc => ?_) (fun hc => ?_)
  ·have h := ifT hc h
   refine AW.rgs rfl fun K hK => b_op rfl (o_build (cs := [.bool false, .str nS]) rfl (bl_of ty32 rfl rfl rfl rfl) ?_)
   refine b_op rfl (o_store (cs := [.bool false, .str nS]) (zs := [.bool false, .str nS]) rfl rfl rfl ty32 rfl rfl rfl rfl rfl ?_)
   refine mv rfl rfl ?_
   refine bf hK ⟨[(4, .ptr 8004 v1 0), (5, hI 2)], [O11]⟩ ?_
   refine AW.ret ?_
   have h := Option.some.inj h
   subst h
   exact ret_pure (hs := [.agg [.bool false, .str nS], hI 2]) (.inr rfl) (resP ty32 rfl rfl (l_litA rfl (lb rfl) rfl) (resT rfl rfl)) rfl ⟨⟨trivial, trivial, trivial⟩, trivial, trivial⟩
  have h := ifF (bF' hc) h
  refine AW.skip ?_
  refine AW.rgs rfl fun K hK => bv rfl (v_loadF ty24 rfl (l_litA rfl (lb rfl) rfl)) ?_
  obtain ⟨x7, h8, h⟩ := bS h
  refine b_op rfl (o_call rfl rfl rfl rfl (ACallD.pure0 (w_subset_Build h8)) ?_)
  refine mv rfl rfl (bv rfl (v_extract rfl rfl) (bv rfl (v_extract rfl rfl) (bv rfl (v_extract rfl rfl) ?_)))
  refine b_op rfl (o_alloc (fid := 8) (zs := [hI 0, hI 0, .v (.slice none 0 0)]) 8006 rfl rfl ty24 rfl (fun v9 => ?_))
  refine b_op rfl (o_store (cs := [hI x7.1.1, hI x7.1.2.1, slE eFromLabelTo x7.1.2.2]) (zs := [hI x7.1.1, hI x7.1.2.1, slE eFromLabelTo x7.1.2.2]) rfl rfl rfl ty24 rfl rfl rfl rfl rfl ?_)
  refine mv rfl rfl (mv rfl rfl ?_)
  let O12 : Nat × Nat × AObj := (8006, v9, .arr 3 24 [hI x7.1.1, hI x7.1.2.1, slE eFromLabelTo x7.1.2.2])
  let P4 : ASf := fun t H => ⟨(1, hI p1) :: (4, .ptr 8004 v1 0) :: (6, .ptr 8006 v9 0) :: t, O11 :: O12 :: H⟩
  refine bf hK (P4 [(8, hI x7.2.2)] []) ?_
  refine AW.seq ?_
  refine AW.seqJ h (S := Bool) (V := Unit) (fun a v => (P4 [(8, hI x7.2.2), (41, .bool a)] [])) (fun a10 w11 h => ?_) (fun k12 h => ?_)
  ·refine AW.cond rfl (fun hc => ?_) (fun hc => ?_)
   ·have h := ifT hc h
    refine AW.rgs rfl fun K hK => b_op rfl (o_build (cs := [.bool false, .str nS]) rfl (bl_of ty32 rfl rfl rfl rfl) ?_)
    refine mv rfl rfl ?_
    refine b_op rfl (o_store (cs := [.bool false, .str nS]) (zs := [.bool false, .str nS]) rfl rfl rfl ty32 rfl rfl rfl rfl rfl ?_)
    refine mv rfl rfl ?_
    refine bf hK ⟨[(4, .ptr 8004 v1 0), (5, hI x7.2.2)], [O11]⟩ ?_
    refine AW.ret ?_
    have h := Option.some.inj h
    subst h
    exact ret_pure (hs := [.agg [.bool false, .str nS], hI x7.2.2]) (.inr rfl) (resP ty32 rfl rfl (l_litA rfl (lb rfl) rfl) (resT rfl rfl)) rfl ⟨⟨trivial, trivial, trivial⟩, trivial, trivial⟩
   have h := ifF (bF' hc) h
   refine AW.skip ?_
   refine AW.rgs rfl fun K hK => bv rfl (v_fieldAddrP fo24_1 rfl rfl) (bv rfl (v_loadP ty3 rfl rfl (l_lit rfl rfl)) ?_)
   obtain ⟨h14, h⟩ := ifN h
   refine b_op rfl (o_makeE (fid := 8) eNegMag ((false, nS) : TNegMag) 8046 rfl rfl ty53 rfl rfl ty32 rfl rfl h14 (fun v13 => ?_))
   refine mv rfl rfl ?_
   refine bf hK (P4 [(9, .ar 8046 v13 eNegMag.k 0 ((List.replicate (x7.1.2.1).toNat ((false, nS) : TNegMag)).length))] [(8046, v13, .arr eNegMag.k 32 (eNegMag.E (List.replicate (x7.1.2.1).toNat ((false, nS) : TNegMag))))]) ?_
   refine AW.rgs rfl fun K hK => mv rfl rfl ?_
   obtain ⟨x15, h16, h⟩ := bS h
   refine b_op rfl (o_call rfl rfl rfl rfl (ACallD.pure0 (w_integer_Of h16)) ?_)
   obtain ⟨x17, h18, h⟩ := bS h
   refine bv rfl (v_idxA ty53 es53 rfl rfl (idx_lt h18) rfl) ?_
   refine b_op rfl (o_storeE eNegMag (l := (List.replicate (x7.1.2.1).toNat ((false, nS) : TNegMag))) (j := (0 : Int)) (v := x15) rfl rfl rfl ty32 rfl rfl rfl (idx_lt h18) ?_)
   let E13 : Nat × HV := (9, .ar 8046 v13 eNegMag.k 0 (((List.replicate (x7.1.2.1).toNat ((false, nS) : TNegMag)).set (0 : Int).toNat x15).length))
   let O14 : Nat × Nat × AObj := (8046, v13, .arr eNegMag.k 32 (eNegMag.E ((List.replicate (x7.1.2.1).toNat ((false, nS) : TNegMag)).set (0 : Int).toNat x15)))
   refine b_fin hK (s' := (P4 [E13] [O14])) (AS.le_of ⟨rfl, rfl, rfl, arl (by first | rfl | simp only [List.length_set, sortI_len, sortS_len]), trivial⟩ ⟨rfl, rfl, rfl, trivial⟩) ?_
   refine AW.seq ?_
   refine AW.rgs rfl fun K hK => mv rfl rfl (mv rfl rfl ?_)
   let P5 : ASf := fun t H => ⟨(4, .ptr 8004 v1 0) :: (6, .ptr 8006 v9 0) :: t, O11 :: O12 :: H⟩
   refine bf hK (P5 [E13, (50, hI p1), (51, hI 0)] [O14]) ?_
   let P6 : ASf := fun t H => ⟨(4, .ptr 8004 v1 0) :: t, O11 :: H⟩
   refine AW.lpX h (by first | exact up_then | exact up_to) (S := (List TNegMag) × Int) (V := Unit) (fun a v => (P5 [(9, slE eNegMag a.1), (50, hI p1), (51, hI a.2)] [])) ?_ (X := (List TNegMag)) (W := Unit) (fun a v => (P6 [(9, slE eNegMag a)] [])) (fun a44 w45 h => ?_) (fun a19 w20 st21 h => ?_)
   ·refine to_bind (to_frz 2 [(8046, v13, .arr eNegMag.k 32 (eNegMag.E ((List.replicate (x7.1.2.1).toNat ((false, nS) : TNegMag)).set (0 : Int).toNat x15)))] (P5 [(9, slE eNegMag ((List.replicate (x7.1.2.1).toNat ((false, nS) : TNegMag)).set (0 : Int).toNat x15)), (50, hI p1), (51, hI 0)] []) ⟨⟨_, rfl, rfl⟩, ⟨_, rfl, rfl⟩, ⟨_, rfl, frz_slE eNegMag (l := (List.replicate (x7.1.2.1).toNat ((false, nS) : TNegMag)).set (0 : Int).toNat x15) rfl fun _ _ => rfl⟩, ⟨_, rfl, rfl⟩, ⟨_, rfl, rfl⟩, trivial⟩ ⟨rfl, rfl, trivial⟩ ⟨rfl, trivial⟩ ⟨rfl, trivial⟩ ?_)
    exact to_L ⟨(), rfl⟩
   ·refine AW.rgs rfl fun K hK => b_op rfl (o_alloc (fid := 8) (zs := [.bool false, .str nS]) 8013 rfl rfl ty32 rfl (fun v46 => ?_))
    refine bf hK (P6 [(9, slE eNegMag a44), (13, .ptr 8013 v46 0)] [(8013, v46, .arr 2 32 [.bool false, .str nS])]) ?_
    refine AW.seq ?_
    refine AW.rgs rfl fun K hK => mv rfl rfl (bv rfl (v_lenF rfl rfl ty53 rfl) (mv rfl rfl ?_))
    let E15 : Nat × HV := (82, hI ((a44).length : Int))
    refine bf hK (P6 [(13, .ptr 8013 v46 0), (81, slE eNegMag a44), E15, (83, hI 0)] [(8013, v46, .arr 2 32 [.bool false, .str nS])]) ?_
    refine AW.lpX h (by first | exact up_then | exact up_to) (S := Int × Bool × (List UInt8)) (V := Unit) (fun a v => (P6 [(13, .ptr 8013 v46 0), (81, slE eNegMag a44), E15, (83, hI a.1)] [(8013, v46, .arr 2 32 [.bool a.2.1, .str a.2.2])])) ?_ (X := Bool × (List UInt8)) (W := Unit) (fun a v => (P6 [(13, .ptr 8013 v46 0)] [(8013, v46, .arr 2 32 [.bool a.1, .str a.2])])) (fun a56 w57 h => ?_) (fun a47 w48 st49 h => ?_)
    ·exact to_L ⟨(), rfl⟩
    ·refine AW.rgs rfl fun K hK => bv rfl (v_loadP ty32 rfl rfl (l_litA rfl (lb rfl) rfl)) ?_
     refine b_op rfl (o_store (cs := [.bool a56.1, .str a56.2]) (zs := [.bool a56.1, .str a56.2]) rfl rfl rfl ty32 rfl rfl rfl rfl rfl ?_)
     refine mv rfl rfl ?_
     refine bf hK ⟨[(4, .ptr 8004 v1 0), (5, hI 0)], [(8004, v1, .arr 2 32 [.bool a56.1, .str a56.2])]⟩ ?_
     refine AW.ret ?_
     have h := Option.some.inj h
     subst h
     exact ret_pure (hs := [.agg [.bool a56.1, .str a56.2], hI 0]) (.inr rfl) (resP ty32 rfl rfl (l_litA rfl (lb rfl) rfl) (resT rfl rfl)) rfl ⟨⟨trivial, trivial, trivial⟩, trivial, trivial⟩
    refine AW.rgs rfl fun K hK => bv rfl (v_bin rfl rfl b_lss) ?_
    refine bf hK (P6 [(13, .ptr 8013 v46 0), (81, slE eNegMag a44), E15, (83, hI a47.1), (84, .bool (decide (a47.1 < ((a44).length : Int))))] [(8013, v46, .arr 2 32 [.bool a47.2.1, .str a47.2.2])]) ?_
    refine AW.cseq rfl (fun hc => ?_) (fun hc => ?_)
    ·obtain ⟨hc, h⟩ := cT hc h
     refine AW.skip ?_
     refine AW.seq (AW.block ?_)
     refine AW.rgs rfl fun K hK => ?_
     obtain ⟨x51, h52, h⟩ := bS h
     refine bv rfl (v_idxF ty53 es53 rfl rfl (idx_lt h52)) (bv rfl (v_loadF ty32 rfl (l_agg eNegMag h52 rfl rfl)) ?_)
     refine b_op rfl (o_alloc (fid := 8) (zs := [.bool false, .str nS]) 8015 rfl rfl ty32 rfl (fun v53 => ?_))
     refine b_op rfl (o_store (cs := [.bool x51.1, .str x51.2]) (zs := [.bool x51.1, .str x51.2]) rfl rfl rfl ty32 rfl rfl rfl rfl rfl ?_)
     refine bf hK (P6 [(13, .ptr 8013 v46 0), (15, .ptr 8015 v53 0), (81, slE eNegMag a44), E15, (83, hI a47.1)] [(8013, v46, .arr 2 32 [.bool a47.2.1, .str a47.2.2]), (8015, v53, .arr 2 32 [.bool x51.1, .str x51.2])]) ?_
     refine AW.rg rfl fun K hK => bv rfl (v_loadP ty32 rfl rfl (l_litA rfl (lb rfl) rfl)) (bv rfl (v_loadP ty32 rfl rfl (l_litA rfl (lb rfl) rfl)) ?_)
     obtain ⟨x54, h55, h⟩ := bS h
     refine b_op rfl (o_call rfl rfl rfl rfl (ACallD.pure0 (w_integer_Add h55)) ?_)
     refine b_op rfl (o_store (cs := [.bool x54.1, .str x54.2]) (zs := [.bool x54.1, .str x54.2]) rfl rfl rfl ty32 rfl rfl rfl rfl rfl ?_)
     refine bf hK (P6 [(13, .ptr 8013 v46 0), (81, slE eNegMag a44), E15, (83, hI a47.1)] [(8013, v46, .arr 2 32 [.bool x54.1, .str x54.2])]) ?_
     refine AW.rg rfl fun K hK => bv rfl (v_bin rfl rfl b_add) (mv rfl rfl ?_)
     refine b_nil (hK _ ?_)
     exact to_L ⟨(IntKind.wrap .i64 (a47.1 + 1), x54.1, x54.2), (), h, rfl⟩
    obtain ⟨hc, h⟩ := cF hc h
    refine AW.exit ?_
    exact to_L ⟨(a47.2.1, a47.2.2), (), h, rfl⟩
   refine AW.rgs rfl fun K hK => bv rfl (v_bin rfl rfl b_lss) ?_
   refine bf hK (P5 [(9, slE eNegMag a19.1), (50, hI p1), (51, hI a19.2), (52, .bool (decide (a19.2 < p1)))] []) ?_
   refine AW.cseq rfl (fun hc => ?_) (fun hc => ?_)
   ·obtain ⟨hc, h⟩ := cT hc h
    refine AW.skip ?_
    refine AW.seq (AW.block ?_)
    refine AW.rgs rfl fun K hK => bv rfl (v_fieldAddrP fo24_1 rfl rfl) (bv rfl (v_loadP ty3 rfl rfl (l_lit rfl rfl)) ?_)
    obtain ⟨h24, h⟩ := ifN h
    refine b_op rfl (o_makeE (fid := 8) eNegMag ((false, nS) : TNegMag) 8055 rfl rfl ty53 rfl rfl ty32 rfl rfl h24 (fun v23 => ?_))
    refine mv rfl rfl ?_
    let E16 : Nat × HV := (10, .ar 8055 v23 eNegMag.k 0 ((List.replicate (x7.1.2.1).toNat ((false, nS) : TNegMag)).length))
    let O17 : Nat × Nat × AObj := (8055, v23, .arr eNegMag.k 32 (eNegMag.E (List.replicate (x7.1.2.1).toNat ((false, nS) : TNegMag))))
    refine bf hK (P5 [(9, slE eNegMag a19.1), E16, (50, hI p1), (51, hI a19.2)] [O17]) ?_
    refine AW.seq ?_
    refine AW.rgs rfl fun K hK => bv rfl (v_fieldAddrP fo24_2 rfl rfl) (bv rfl (v_loadP ty22 rfl rfl (l_lit rfl rfl)) (bv rfl (v_lenF rfl rfl ty22 rfl) (mv rfl rfl ?_)))
    let E18 : Nat × HV := (57, slE eFromLabelTo x7.1.2.2)
    let E19 : Nat × HV := (58, hI ((x7.1.2.2).length : Int))
    refine bf hK (P5 [(9, slE eNegMag a19.1), E16, (50, hI p1), (51, hI a19.2), E18, E19, (59, hI 0)] [O17]) ?_
    refine AW.lpX h (by first | exact up_then | exact up_to) (S := Int × (List TNegMag)) (V := Unit) (fun a v => (P5 [(9, slE eNegMag a19.1), (10, .ar 8055 v23 eNegMag.k 0 ((a.2).length)), (50, hI p1), (51, hI a19.2), E18, E19, (59, hI a.1)] [(8055, v23, .arr eNegMag.k 32 (eNegMag.E a.2))])) ?_ (X := (List TNegMag)) (W := Unit) (fun a v => (P5 [(10, .ar 8055 v23 eNegMag.k 0 ((a).length)), (50, hI p1), (51, hI a19.2)] [(8055, v23, .arr eNegMag.k 32 (eNegMag.E a))])) (fun a42 w43 h => ?_) (fun a25 w26 st27 h => ?_)
    ·exact to_L ⟨(), rfl⟩
    ·refine AW.rg rfl fun K hK => mv rfl rfl (mv rfl rfl ?_)
     refine bf hK (P5 [(9, .ar 8055 v23 eNegMag.k 0 ((a42).length)), (50, hI p1), (51, hI a19.2)] [(8055, v23, .arr eNegMag.k 32 (eNegMag.E a42))]) ?_
     refine AW.rg rfl fun K hK => bv rfl (v_bin rfl rfl b_add) (mv rfl rfl ?_)
     refine b_nil (hK _ ?_)
     refine to_bind (to_frz 2 [(8055, v23, .arr eNegMag.k 32 (eNegMag.E a42))] (P5 [(9, slE eNegMag a42), (50, hI p1), (51, hI (IntKind.wrap .i64 (a19.2 + 1)))] []) ⟨⟨_, rfl, rfl⟩, ⟨_, rfl, rfl⟩, ⟨_, rfl, frz_slE eNegMag (l := a42) rfl fun _ _ => rfl⟩, ⟨_, rfl, rfl⟩, ⟨_, rfl, rfl⟩, trivial⟩ ⟨rfl, rfl, trivial⟩ ⟨rfl, trivial⟩ ⟨rfl, trivial⟩ ?_)
     exact to_L ⟨(a42, IntKind.wrap .i64 (a19.2 + 1)), (), h, rfl⟩
    refine AW.rgs rfl fun K hK => bv rfl (v_bin rfl rfl b_lss) ?_
    refine bf hK (P5 [(9, slE eNegMag a19.1), (10, .ar 8055 v23 eNegMag.k 0 ((a25.2).length)), (50, hI p1), (51, hI a19.2), E18, E19, (59, hI a25.1), (60, .bool (decide (a25.1 < ((x7.1.2.2).length : Int))))] [(8055, v23, .arr eNegMag.k 32 (eNegMag.E a25.2))]) ?_
    refine AW.cseq rfl (fun hc => ?_) (fun hc => ?_)
    ·obtain ⟨hc, h⟩ := cT hc h
     refine AW.skip ?_
     refine AW.seq (AW.block ?_)
     refine AW.rgs rfl fun K hK => ?_
     obtain ⟨x29, h30, h⟩ := bS h
     refine bv rfl (v_idxF ty22 es22 rfl rfl (idx_lt h30)) (bv rfl (v_loadF ty49 rfl (l_agg eFromLabelTo h30 rfl rfl)) ?_)
     refine b_op rfl (o_alloc (fid := 8) (zs := [hI 0, hI 0, hI 0]) 8012 rfl rfl ty49 rfl (fun v31 => ?_))
     refine b_op rfl (o_store (cs := [hI x29.1, hI x29.2.1, hI x29.2.2]) (zs := [hI x29.1, hI x29.2.1, hI x29.2.2]) rfl rfl rfl ty49 rfl rfl rfl rfl rfl ?_)
     refine bf hK (P5 [(9, slE eNegMag a19.1), (10, .ar 8055 v23 eNegMag.k 0 ((a25.2).length)), (12, .ptr 8012 v31 0), (50, hI p1), (51, hI a19.2), E18, E19, (59, hI a25.1)] [(8055, v23, .arr eNegMag.k 32 (eNegMag.E a25.2)), (8012, v31, .arr 3 49 [hI x29.1, hI x29.2.1, hI x29.2.2])]) ?_
     refine AW.dg 15 follows rfl rfl fun K hK => ?_
     refine sm rfl rfl ?_
     refine sv rfl (v_fieldAddrP fo49_2 rfl rfl) ?_
     refine sv rfl (v_loadP ty3 rfl rfl (l_lit rfl rfl)) ?_
     refine sm rfl rfl ?_
     refine sv rfl (v_fieldAddrP fo49_2 rfl rfl) ?_
     refine sv rfl (v_loadP ty3 rfl rfl (l_lit rfl rfl)) ?_
     obtain ⟨x32, h33, h⟩ := bS h
     refine sv rfl (v_idxA ty53 es53 rfl rfl (idx_lt h33) rfl) ?_
     obtain ⟨x34, h35, h⟩ := bS h
     refine sv rfl (v_loadP ty32 rfl rfl (l_agg eNegMag h35 rfl rfl)) ?_
     refine sm rfl rfl ?_
     refine sv rfl (v_fieldAddrP fo49_0 rfl rfl) ?_
     refine sv rfl (v_loadP ty3 rfl rfl (l_lit rfl rfl)) ?_
     obtain ⟨x36, h37, h⟩ := bS h
     refine sv rfl (v_idxF ty53 es53 rfl rfl (idx_lt h37)) ?_
     refine sv rfl (v_loadF ty32 rfl (l_agg eNegMag h37 rfl rfl)) ?_
     obtain ⟨x38, h39, h⟩ := bS h
     refine s_op rfl rfl (ops_call rfl rfl rfl rfl (ACallD.pure0 (w_integer_Add h39)) ?_)
     obtain ⟨x40, h41, h⟩ := bS h
     refine sv rfl (v_idxA ty53 es53 rfl rfl (idx_lt h41) rfl) ?_
     refine s_nil ?_
     refine b_op rfl (o_storeE eNegMag (l := a25.2) (j := x29.2.2) (v := x38) rfl rfl rfl ty32 rfl rfl rfl (idx_lt h41) ?_)
     refine b_fin hK (s' := (P5 [(9, slE eNegMag a19.1), (10, .ar 8055 v23 eNegMag.k 0 (((a25.2).set (x29.2.2).toNat x38).length)), (50, hI p1), (51, hI a19.2), E18, E19, (59, hI a25.1)] [(8055, v23, .arr eNegMag.k 32 (eNegMag.E ((a25.2).set (x29.2.2).toNat x38)))])) (AS.le_of ⟨rfl, rfl, rfl, arl (by first | rfl | simp only [List.length_set, sortI_len, sortS_len]), rfl, rfl, rfl, rfl, rfl, trivial⟩ ⟨rfl, rfl, rfl, trivial⟩) ?_
     refine AW.rg rfl fun K hK => bv rfl (v_bin rfl rfl b_add) (mv rfl rfl ?_)
     refine b_nil (hK _ ?_)
     exact to_L ⟨(IntKind.wrap .i64 (a25.1 + 1), (a25.2).set (x29.2.2).toNat x38), (), h, rfl⟩
    obtain ⟨hc, h⟩ := cF hc h
    refine AW.exit ?_
    exact to_L ⟨a25.2, (), h, rfl⟩
   obtain ⟨hc, h⟩ := cF hc h
   refine AW.exit ?_
   exact to_L ⟨a19.1, (), h, rfl⟩
  refine AW.rg rfl fun K hK => mv rfl rfl (bv rfl (v_bin rfl rfl b_neq) (mv rfl rfl ?_))
  by_cases hg58 : x7.2.2 ≠ 0
  ·have h := ifT hg58 h
   refine b_F rfl rfl rfl rfl rfl (decide_eq_true hg58) ?_
   refine b_F rfl rfl rfl rfl rfl rfl ?_
   refine b_F rfl rfl rfl rfl rfl rfl ?_
   refine bv rfl (v_pickT rfl rfl rfl) ?_
   refine b_nil (hK _ ?_)
   exact to_L ⟨true, (), h, rfl⟩
  have h := ifF hg58 h
  refine b_T rfl rfl rfl rfl (decide_eq_false hg58) (o_val rfl (v_fieldAddrP fo24_1 rfl rfl) ?_)
  refine b_T rfl rfl rfl rfl rfl (o_val rfl (v_loadP ty3 rfl rfl (l_lit rfl rfl)) ?_)
  refine b_T rfl rfl rfl rfl rfl (o_val rfl (v_bin rfl rfl b_eql) ?_)
  refine bv rfl (v_pickF rfl rfl rfl) ?_
  refine b_nil (hK _ ?_)
  exact to_L ⟨decide (x7.1.2.1 = 0), (), h, rfl⟩
 refine AW.rg rfl fun K hK => mv rfl rfl (bv rfl (v_bin rfl rfl b_lss) (mv rfl rfl ?_))
 by_cases hg59 : p1 < 0
 ·have h := ifT hg59 h
  refine b_F rfl rfl rfl rfl rfl (decide_eq_true hg59) ?_
  refine b_F rfl rfl rfl rfl rfl rfl ?_
  refine bv rfl (v_pickT rfl rfl rfl) (mv rfl rfl ?_)
  refine b_nil (hK _ ?_)
  exact to_L ⟨true, (), h, rfl⟩
 have h := ifF hg59 h
 refine b_T rfl rfl rfl rfl (decide_eq_false hg59) (o_val rfl (mv_val rfl rfl).2 ?_)
 refine b_T rfl rfl rfl rfl rfl (o_val rfl (v_bin rfl rfl b_gtr) ?_)
 refine bv rfl (v_pickF rfl rfl rfl) (mv rfl rfl ?_)
 refine b_nil (hK _ ?_)
 exact to_L ⟨decide (4096 < p1), (), h, rfl⟩
theorem w_ref12_Same {p0 : List (Int)} {p1 : List (Int)} {r : Bool} (h : m_ref12_Same p0 p1 = some r) : Pure Tryz.prog 12 [slE eInt p0, slE eInt p1] (· = HV.bool r) := by
 unfold m_ref12_Same at h
 refine Pure.of_body Tryz.func12 rfl rfl (lb rfl) fun hf => ?_
 unfold Tryz.f12
 dsimp only [enumS, Nat.reduceAdd]
 refine AW.rgs rfl fun K hK => mv rfl rfl ?_
 let P7 : ASf := fun t H => ⟨(0, slE eInt p0) :: (1, slE eInt p1) :: t, H⟩
 refine bf hK (P7 [] []) ?_
 refine AW.seq ?_
 refine AW.rgs rfl fun K hK => mv rfl rfl (bv rfl (v_lenF rfl rfl ty27 rfl) (mv rfl rfl (bv rfl (v_lenF rfl rfl ty27 rfl) (bv rfl (v_bin rfl rfl b_neq) ?_))))
 refine bf hK (P7 [(10, .bool (decide (((p0).length : Int) ≠ ((p1).length : Int))))] []) ?_
 refine AW.cond rfl (fun hc => ?_) (fun hc => ?_)
 ·obtain ⟨hc, h⟩ := cT hc h
  refine AW.rgs rfl fun K hK => mv rfl rfl ?_
  refine bf hK ⟨[(4, .bool false)], []⟩ ?_
  refine AW.ret ?_
  have h := Option.some.inj h
  subst h
  exact ret_pure (hs := [.bool false]) (.inr rfl) (resT rfl rfl) rfl trivial
 obtain ⟨hc, h⟩ := cF hc h
 refine AW.skip ?_
 refine AW.seq ?_
 refine AW.rgs rfl fun K hK => mv rfl rfl ?_
 refine bf hK (P7 [(5, hI 0)] []) ?_
 refine AW.lpR h (by first | exact up_then | exact up_to) (S := Int) (V := Unit) (fun a v => (P7 [(5, hI a)] [])) ?_ (X := Unit) (W := Unit) (fun a v => ⟨[], []⟩) (fun a9 w10 h => ?_) (fun a1 w2 st3 h hr4=> ?_)
 ·exact to_L ⟨(), rfl⟩
 ·refine AW.rgs rfl fun K hK => mv rfl rfl ?_
  refine bf hK ⟨[(4, .bool true)], []⟩ ?_
  refine AW.ret ?_
  have h := Option.some.inj h
  subst h
  exact ret_pure (hs := [.bool true]) (.inr rfl) (resT rfl rfl) rfl trivial
 refine AW.seq ?_
 refine AW.rgs rfl fun K hK => mv rfl rfl (mv rfl rfl (bv rfl (v_lenF rfl rfl ty27 rfl) (bv rfl (v_bin rfl rfl b_lss) ?_)))
 refine bf hK (P7 [(5, hI a1), (14, .bool (decide (a1 < ((p0).length : Int))))] []) ?_
 refine AW.cond rfl (fun hc => ?_) (fun hc => ?_)
 ·obtain ⟨hc, h⟩ := cT hc h
  refine AW.skip ?_
  refine AW.seq (AW.block ?_)
  refine AW.dgs 9 follows rfl rfl fun K hK => ?_
  refine sm rfl rfl ?_
  refine sm rfl rfl ?_
  obtain ⟨x5, h6, h⟩ := bS h
  refine sv rfl (v_idxF ty27 es27 rfl rfl (idx_lt h6)) ?_
  refine sv rfl (v_loadF ty3 rfl (l_cell eInt h6 (o := 0) rfl rfl)) ?_
  refine sm rfl rfl ?_
  refine sm rfl rfl ?_
  obtain ⟨x7, h8, h⟩ := bS h
  refine sv rfl (v_idxF ty27 es27 rfl rfl (idx_lt h8)) ?_
  refine sv rfl (v_loadF ty3 rfl (l_cell eInt h8 (o := 0) rfl rfl)) ?_
  refine sv rfl (v_bin rfl rfl b_neq) ?_
  refine s_nil ?_
  refine bf hK (P7 [(5, hI a1), (25, .bool (decide (x5 ≠ x7)))] []) ?_
  refine AW.cond rfl (fun hc => ?_) (fun hc => ?_)
  ·obtain ⟨hc, h⟩ := cT hc h
   refine AW.rgs rfl fun K hK => mv rfl rfl ?_
   refine bf hK ⟨[(4, .bool false)], []⟩ ?_
   have h := hr4 _ h
   refine AW.ret ?_
   have h := Option.some.inj h
   subst h
   exact ret_pure (hs := [.bool false]) (.inr rfl) (resT rfl rfl) rfl trivial
  obtain ⟨hc, h⟩ := cF hc h
  refine AW.skip ?_
  refine AW.rg rfl fun K hK => mv rfl rfl (bv rfl (v_bin rfl rfl b_add) (mv rfl rfl ?_))
  refine b_nil (hK _ ?_)
  exact to_L ⟨IntKind.wrap .i64 (a1 + 1), (), h, rfl⟩
 obtain ⟨hc, h⟩ := cF hc h
 refine AW.exit ?_
 exact to_L ⟨(), (), h, rfl⟩
theorem w_law12_even  {r : TLabelsStatesEdges} (h : m_law12_even  = some r) : Pure Tryz.prog 16 [] (· = gA r) := by
 unfold m_law12_even at h
 refine Pure.of_body Tryz.func16 rfl rfl (lb rfl) fun hf => ?_
 unfold Tryz.f16
 dsimp only [enumS, Nat.reduceAdd]
 refine AW.rgs rfl fun K hK => b_op rfl (o_alloc (fid := 16) (zs := [hI 0, hI 0, .v (.slice none 0 0)]) 16000 rfl rfl ty24 rfl (fun v1 => ?_))
 refine bf hK ⟨[(0, .ptr 16000 v1 0)], [(16000, v1, .arr 3 24 [hI 0, hI 0, .v (.slice none 0 0)])]⟩ ?_
 refine AW.rgs rfl fun K hK => b_op rfl (o_build (cs := [hI 0, hI 0, hI 1]) rfl (bl_of ty49 rfl rfl rfl rfl) ?_)
 refine b_op rfl (o_build (cs := [hI 0, hI 1, hI 0]) rfl (bl_of ty49 rfl rfl rfl rfl) ?_)
 refine b_op rfl (o_build (cs := [hI 1, hI 0, hI 0]) rfl (bl_of ty49 rfl rfl rfl rfl) ?_)
 refine b_op rfl (o_bsl rfl rfl (as_of (cs := [hI 0, hI 0, hI 1, hI 0, hI 1, hI 0, hI 1, hI 0, hI 0]) ty22 ty49 rfl rfl rfl rfl rfl) ?_)
 refine b_op rfl (o_build (cs := [hI 2, hI 2, slE eFromLabelTo [(0, 0, 1), (0, 1, 0), (1, 0, 0)]]) rfl (bl_of ty24 rfl rfl rfl rfl) ?_)
 refine b_op rfl (o_store (cs := [hI 2, hI 2, slE eFromLabelTo [(0, 0, 1), (0, 1, 0), (1, 0, 0)]]) (zs := [hI 2, hI 2, slE eFromLabelTo [(0, 0, 1), (0, 1, 0), (1, 0, 0)]]) rfl rfl rfl ty24 rfl rfl rfl rfl rfl ?_)
 refine bf hK ⟨[(0, .ptr 16000 v1 0)], [(16000, v1, .arr 3 24 [hI 2, hI 2, slE eFromLabelTo [(0, 0, 1), (0, 1, 0), (1, 0, 0)]])]⟩ ?_
 refine AW.ret ?_
 have h := Option.some.inj h
 subst h
 exact ret_pure (hs := [.agg [hI 2, hI 2, slE eFromLabelTo [(0, 0, 1), (0, 1, 0), (1, 0, 0)]]]) (.inr rfl) (resP ty24 rfl rfl (l_litA rfl (lb rfl) rfl) rfl) rfl ⟨trivial, trivial, (clean_slE fun _ _ => ⟨trivial, trivial, trivial, trivial⟩), trivial⟩
theorem w_ref01_Of {p0 : Int} {r : TNegMag} (h : m_ref01_Of p0 = some r) : Pure Tryz.prog 17 [hI p0] (· = HV.agg [.bool r.1, .str r.2]) := by
 unfold m_ref01_Of at h
 refine Pure.of_body Tryz.func17 rfl rfl (lb rfl) fun hf => ?_
 unfold Tryz.f17
 dsimp only [enumS, Nat.reduceAdd]
 refine AW.rgs rfl fun K hK => b_op rfl (o_alloc (fid := 17) (zs := [.bool false, .str nS]) 17002 rfl rfl ty32 rfl (fun v1 => ?_))
 let O1 : Nat × Nat × AObj := (17002, v1, .arr 2 32 [.bool false, .str nS])
 let P1 : ASf := fun t H => ⟨(0, hI p0) :: (2, .ptr 17002 v1 0) :: t, O1 :: H⟩
 refine bf hK (P1 [] []) ?_
 refine AW.seq ?_
 refine AW.rgs rfl fun K hK => mv rfl rfl (bv rfl (v_bin rfl rfl b_geq) ?_)
 refine bf hK (P1 [(4, .bool (decide (0 ≤ p0)))] []) ?_
 refine AW.cond rfl (fun hc => ?_) (fun hc => ?_)
 ·obtain ⟨hc, h⟩ := cT hc h
  refine AW.rgs rfl fun K hK => mv rfl rfl ?_
  obtain ⟨x2, h3, h⟩ := bS h
  refine b_op rfl (o_call rfl rfl rfl rfl (ACallD.pure0 (w_ref01_magB h3)) ?_)
  refine b_op rfl (o_build (cs := [.bool false, .str x2]) rfl (bl_of ty32 rfl rfl rfl rfl) ?_)
  refine b_op rfl (o_store (cs := [.bool false, .str x2]) (zs := [.bool false, .str x2]) rfl rfl rfl ty32 rfl rfl rfl rfl rfl ?_)
  refine bf hK ⟨[(2, .ptr 17002 v1 0)], [(17002, v1, .arr 2 32 [.bool false, .str x2])]⟩ ?_
  refine AW.ret ?_
  have h := Option.some.inj h
  subst h
  exact ret_pure (hs := [.agg [.bool false, .str x2]]) (.inr rfl) (resP ty32 rfl rfl (l_litA rfl (lb rfl) rfl) rfl) rfl ⟨trivial, trivial, trivial⟩
 obtain ⟨hc, h⟩ := cF hc h
 refine AW.skip ?_
 refine AW.seq ?_
 refine AW.rgs rfl fun K hK => mv rfl rfl (mv rfl rfl (bv rfl (v_neg rfl) (bv rfl (v_bin rfl rfl b_eql) ?_)))
 refine bf hK (P1 [(11, .bool (decide (p0 = (IntKind.wrap .i64 (0 - p0)))))] []) ?_
 refine AW.cond rfl (fun hc => ?_) (fun hc => ?_)
 ·obtain ⟨hc, h⟩ := cT hc h
  refine AW.rgs rfl fun K hK => b_op rfl (o_build (cs := [.bool true, .str [128, 0, 0, 0, 0, 0, 0, 0]]) rfl (bl_of ty32 rfl rfl rfl rfl) ?_)
  refine b_op rfl (o_store (cs := [.bool true, .str [128, 0, 0, 0, 0, 0, 0, 0]]) (zs := [.bool true, .str [128, 0, 0, 0, 0, 0, 0, 0]]) rfl rfl rfl ty32 rfl rfl rfl rfl rfl ?_)
  refine bf hK ⟨[(2, .ptr 17002 v1 0)], [(17002, v1, .arr 2 32 [.bool true, .str [128, 0, 0, 0, 0, 0, 0, 0]])]⟩ ?_
  refine AW.ret ?_
  have h := Option.some.inj h
  subst h
  exact ret_pure (hs := [.agg [.bool true, .str [128, 0, 0, 0, 0, 0, 0, 0]]]) (.inr rfl) (resP ty32 rfl rfl (l_litA rfl (lb rfl) rfl) rfl) rfl ⟨trivial, trivial, trivial⟩
 obtain ⟨hc, h⟩ := cF hc h
 refine AW.skip ?_
 refine AW.rgs rfl fun K hK => mv rfl rfl (bv rfl (v_neg rfl) ?_)
 obtain ⟨x4, h5, h⟩ := bS h
 refine b_op rfl (o_call rfl rfl rfl rfl (ACallD.pure0 (w_ref01_magB h5)) ?_)
 refine b_op rfl (o_build (cs := [.bool true, .str x4]) rfl (bl_of ty32 rfl rfl rfl rfl) ?_)
 refine b_op rfl (o_store (cs := [.bool true, .str x4]) (zs := [.bool true, .str x4]) rfl rfl rfl ty32 rfl rfl rfl rfl rfl ?_)
 refine bf hK ⟨[(2, .ptr 17002 v1 0)], [(17002, v1, .arr 2 32 [.bool true, .str x4])]⟩ ?_
 refine AW.ret ?_
 have h := Option.some.inj h
 subst h
 exact ret_pure (hs := [.agg [.bool true, .str x4]]) (.inr rfl) (resP ty32 rfl rfl (l_litA rfl (lb rfl) rfl) rfl) rfl ⟨trivial, trivial, trivial⟩
theorem w_ref12_SameSets {p0 : List (List (Int))} {p1 : List (List (Int))} {r : Bool} (h : m_ref12_SameSets p0 p1 = some r) : Pure Tryz.prog 18 [slE (eSl eInt) p0, slE (eSl eInt) p1] (· = HV.bool r) := by
 unfold m_ref12_SameSets at h
 refine Pure.of_body Tryz.func18 rfl rfl (lb rfl) fun hf => ?_
 unfold Tryz.f18
 dsimp only [enumS, Nat.reduceAdd]
 refine AW.rgs rfl fun K hK => mv rfl rfl ?_
 let P2 : ASf := fun t H => ⟨(0, slE (eSl eInt) p0) :: (1, slE (eSl eInt) p1) :: t, H⟩
 refine bf hK (P2 [] []) ?_
 refine AW.seq ?_
 refine AW.rgs rfl fun K hK => mv rfl rfl (bv rfl (v_lenF rfl rfl ty35 rfl) (mv rfl rfl (bv rfl (v_lenF rfl rfl ty35 rfl) (bv rfl (v_bin rfl rfl b_neq) ?_))))
 refine bf hK (P2 [(10, .bool (decide (((p0).length : Int) ≠ ((p1).length : Int))))] []) ?_
 refine AW.cond rfl (fun hc => ?_) (fun hc => ?_)
 ·obtain ⟨hc, h⟩ := cT hc h
  refine AW.rgs rfl fun K hK => mv rfl rfl ?_
  refine bf hK ⟨[(4, .bool false)], []⟩ ?_
  refine AW.ret ?_
  have h := Option.some.inj h
  subst h
  exact ret_pure (hs := [.bool false]) (.inr rfl) (resT rfl rfl) rfl trivial
 obtain ⟨hc, h⟩ := cF hc h
 refine AW.skip ?_
 refine AW.seq ?_
 refine AW.rgs rfl fun K hK => mv rfl rfl ?_
 refine bf hK (P2 [(5, hI 0)] []) ?_
 refine AW.lpR h (by first | exact up_then | exact up_to) (S := Int) (V := Unit) (fun a v => (P2 [(5, hI a)] [])) ?_ (X := Unit) (W := Unit) (fun a v => ⟨[], []⟩) (fun a11 w12 h => ?_) (fun a1 w2 st3 h hr4=> ?_)
 ·exact to_L ⟨(), rfl⟩
 ·refine AW.rgs rfl fun K hK => mv rfl rfl ?_
  refine bf hK ⟨[(4, .bool true)], []⟩ ?_
  refine AW.ret ?_
  have h := Option.some.inj h
  subst h
  exact ret_pure (hs := [.bool true]) (.inr rfl) (resT rfl rfl) rfl trivial
 refine AW.seq ?_
 refine AW.rgs rfl fun K hK => mv rfl rfl (mv rfl rfl (bv rfl (v_lenF rfl rfl ty35 rfl) (bv rfl (v_bin rfl rfl b_lss) ?_)))
 refine bf hK (P2 [(5, hI a1), (14, .bool (decide (a1 < ((p0).length : Int))))] []) ?_
 refine AW.cond rfl (fun hc => ?_) (fun hc => ?_)
 ·obtain ⟨hc, h⟩ := cT hc h
  refine AW.skip ?_
  refine AW.seq (AW.block ?_)
  refine AW.dgs 10 follows rfl rfl fun K hK => ?_
  refine sm rfl rfl ?_
  refine sm rfl rfl ?_
  obtain ⟨x5, h6, h⟩ := bS h
  refine sv rfl (v_idxF ty35 es35 rfl rfl (idx_lt h6)) ?_
  refine sv rfl (v_loadF ty27 rfl (l_cell (eSl eInt) h6 (o := 0) rfl rfl)) ?_
  refine sm rfl rfl ?_
  refine sm rfl rfl ?_
  obtain ⟨x7, h8, h⟩ := bS h
  refine sv rfl (v_idxF ty35 es35 rfl rfl (idx_lt h8)) ?_
  refine sv rfl (v_loadF ty27 rfl (l_cell (eSl eInt) h8 (o := 0) rfl rfl)) ?_
  obtain ⟨x9, h10, h⟩ := bS h
  refine s_op rfl rfl (ops_call rfl rfl rfl rfl (ACallD.pure0 (w_ref12_Same h10)) ?_)
  refine sv rfl (v_not rfl) ?_
  refine s_nil ?_
  refine bf hK (P2 [(5, hI a1), (26, .bool (!x9))] []) ?_
  refine AW.cond rfl (fun hc => ?_) (fun hc => ?_)
  ·have h := ifT hc h
   refine AW.rgs rfl fun K hK => mv rfl rfl ?_
   refine bf hK ⟨[(4, .bool false)], []⟩ ?_
   have h := hr4 _ h
   refine AW.ret ?_
   have h := Option.some.inj h
   subst h
   exact ret_pure (hs := [.bool false]) (.inr rfl) (resT rfl rfl) rfl trivial
  have h := ifF (bF' hc) h
  refine AW.skip ?_
  refine AW.rg rfl fun K hK => mv rfl rfl (bv rfl (v_bin rfl rfl b_add) (mv rfl rfl ?_))
  refine b_nil (hK _ ?_)
  exact to_L ⟨IntKind.wrap .i64 (a1 + 1), (), h, rfl⟩
 obtain ⟨hc, h⟩ := cF hc h
 refine AW.exit ?_
 exact to_L ⟨(), (), h, rfl⟩
theorem w_law12_awakeG  {r : Bool} (h : m_law12_awakeG  = some r) : Pure Tryz.prog 5 [] (· = HV.bool r) := by
 unfold m_law12_awakeG at h
 refine Pure.of_body Tryz.func5 rfl rfl (lb rfl) fun hf => ?_
 unfold Tryz.f5
 dsimp only [enumS, Nat.reduceAdd]
 refine AW.rgs rfl fun K hK => mv rfl rfl ?_
 refine bf hK ⟨[], []⟩ ?_
 refine AW.rgs rfl fun K hK => ?_
 obtain ⟨x1, h2, h⟩ := bS h
 refine b_op rfl (o_call rfl rfl rfl rfl (ACallD.pure0 (w_law12_even h2)) ?_)
 obtain ⟨x3, h4, h⟩ := bS h
 refine b_op rfl (o_call rfl rfl rfl rfl (ACallD.pure0 (w_subset_Build h4)) ?_)
 refine mv rfl rfl (bv rfl (v_extract rfl rfl) (bv rfl (v_extract rfl rfl) (bv rfl (v_extract rfl rfl) ?_)))
 refine b_op rfl (o_alloc (fid := 5) (zs := [hI 0, hI 0, .v (.slice none 0 0)]) 5001 rfl rfl ty24 rfl (fun v5 => ?_))
 refine b_op rfl (o_store (cs := [hI x3.1.1, hI x3.1.2.1, slE eFromLabelTo x3.1.2.2]) (zs := [hI x3.1.1, hI x3.1.2.1, slE eFromLabelTo x3.1.2.2]) rfl rfl rfl ty24 rfl rfl rfl rfl rfl ?_)
 refine mv rfl rfl (mv rfl rfl ?_)
 let E2 : Nat × HV := (2, slE (eSl eInt) x3.2.1)
 let O3 : Nat × Nat × AObj := (5001, v5, .arr 3 24 [hI x3.1.1, hI x3.1.2.1, slE eFromLabelTo x3.1.2.2])
 let P3 : ASf := fun t H => ⟨(1, .ptr 5001 v5 0) :: E2 :: (3, hI x3.2.2) :: t, O3 :: H⟩
 refine bf hK (P3 [] []) ?_
 refine AW.rgs rfl fun K hK => ?_
 obtain ⟨x6, h7, h⟩ := bS h
 refine b_op rfl (o_call rfl rfl rfl rfl (ACallD.pure0 (w_law12_even h7)) ?_)
 obtain ⟨x8, h9, h⟩ := bS h
 refine b_op rfl (o_call rfl rfl rfl rfl (ACallD.pure0 (w_subset_Focus h9)) ?_)
 refine mv rfl rfl (bv rfl (v_extract rfl rfl) (bv rfl (v_extract rfl rfl) (bv rfl (v_extract rfl rfl) (bv rfl (v_extract rfl rfl) (mv rfl rfl ?_)))))
 refine mv rfl rfl (mv rfl rfl (mv rfl rfl ?_))
 refine bf hK (P3 [(4, slE eInt x8.1), (5, hI x8.2.1), (6, .bool x8.2.2.1), (7, hI x8.2.2.2)] []) ?_
 refine AW.rgs rfl fun K hK => ?_
 obtain ⟨x10, h11, h⟩ := bS h
 refine b_op rfl (o_call rfl rfl rfl rfl (ACallD.pure0 (w_law12_even h11)) ?_)
 obtain ⟨x12, h13, h⟩ := bS h
 refine b_op rfl (o_call rfl rfl rfl rfl (ACallD.pure0 (w_subset_Count h13)) ?_)
 refine mv rfl rfl (bv rfl (v_extract rfl rfl) (bv rfl (v_extract rfl rfl) ?_))
 refine b_op rfl (o_alloc (fid := 5) (zs := [.bool false, .str nS]) 5008 rfl rfl ty32 rfl (fun v14 => ?_))
 refine b_op rfl (o_store (cs := [.bool x12.1.1, .str x12.1.2]) (zs := [.bool x12.1.1, .str x12.1.2]) rfl rfl rfl ty32 rfl rfl rfl rfl rfl ?_)
 refine mv rfl rfl ?_
 refine bf hK (P3 [(4, slE eInt x8.1), (5, hI x8.2.1), (6, .bool x8.2.2.1), (7, hI x8.2.2.2), (8, .ptr 5008 v14 0), (9, hI x12.2)] [(5008, v14, .arr 2 32 [.bool x12.1.1, .str x12.1.2])]) ?_
 refine AW.seqJ h (S := Bool) (V := Unit) (fun a v => ⟨[(1, .ptr 5001 v5 0), E2, (10, .bool a)], [O3]⟩) (fun a15 w16 h => ?_) (fun k17 h => ?_)
 ·refine AW.seqJ h (S := Bool) (V := Unit) (fun a v => ⟨[(0, .bool a)], []⟩) (fun a18 w19 h => ?_) (fun k20 h => ?_)
  ·refine AW.ret ?_
   have h := Option.some.inj h
   subst h
   exact ret_pure (hs := [.bool a18]) (.inr rfl) (resT rfl rfl) rfl trivial
  refine AW.rg rfl fun K hK => mv rfl rfl (mv rfl rfl ?_)
  by_cases hg25 : a15 = true
  ·have h := ifT hg25 h
   refine b_T rfl rfl rfl rfl hg25 (o_val rfl (v_fieldAddrP fo24_1 rfl rfl) ?_)
   refine b_T rfl rfl rfl rfl rfl (o_val rfl (v_loadP ty3 rfl rfl (l_lit rfl rfl)) ?_)
   refine b_T rfl rfl rfl rfl rfl (o_val rfl (v_bin rfl rfl b_eql) ?_)
   refine bv rfl (v_pickT rfl rfl rfl) (mv rfl rfl ?_)
   by_cases hg24 : x3.1.2.1 = 3
   ·have h := ifT hg24 h
    refine b_T rfl rfl rfl rfl (decide_eq_true hg24) (o_val rfl (v_fieldAddrP fo24_2 rfl rfl) ?_)
    refine b_T rfl rfl rfl rfl rfl (o_val rfl (v_loadP ty22 rfl rfl (l_lit rfl rfl)) ?_)
    refine b_T rfl rfl rfl rfl rfl (o_val rfl (v_lenF rfl rfl ty22 rfl) ?_)
    refine b_T rfl rfl rfl rfl rfl (o_val rfl (v_bin rfl rfl b_eql) ?_)
    refine bv rfl (v_pickT rfl rfl rfl) (mv rfl rfl ?_)
    by_cases hg23 : ((x3.1.2.2).length : Int) = 5
    ·have h := ifT hg23 h
     refine b_T rfl rfl rfl rfl (decide_eq_true hg23) (o_val rfl (mv_val rfl rfl).2 ?_)
     refine b_T rfl rfl rfl rfl rfl (o_bsl rfl rfl (as_of (cs := [hI 0, hI 1]) ty27 ty3 rfl rfl rfl rfl rfl) ?_)
     refine b_T rfl rfl rfl rfl rfl (o_bsl rfl rfl (as_of (cs := [hI 0]) ty27 ty3 rfl rfl rfl rfl rfl) ?_)
     refine b_T rfl rfl rfl rfl rfl (o_bsl rfl rfl (as_of (cs := [hI 1]) ty27 ty3 rfl rfl rfl rfl rfl) ?_)
     refine b_T rfl rfl rfl rfl rfl (o_bsl rfl rfl (as_of (cs := [slE eInt [0, 1], slE eInt [0], slE eInt [1]]) ty35 ty27 rfl rfl rfl rfl rfl) ?_)
     obtain ⟨x21, h22, h⟩ := bS h
     refine b_T rfl rfl rfl rfl rfl (o_call rfl rfl rfl rfl (ACallD.pure0 (w_ref12_SameSets h22)) ?_)
     refine bv rfl (v_pickT rfl rfl rfl) (mv rfl rfl ?_)
     refine b_nil (hK _ ?_)
     exact to_L ⟨x21, (), h, rfl⟩
    have h := ifF hg23 h
    refine b_F rfl rfl rfl rfl rfl (decide_eq_false hg23) ?_
    refine b_F rfl rfl rfl rfl rfl rfl ?_
    refine b_F rfl rfl rfl rfl rfl rfl ?_
    refine b_F rfl rfl rfl rfl rfl rfl ?_
    refine b_F rfl rfl rfl rfl rfl rfl ?_
    refine b_F rfl rfl rfl rfl rfl rfl ?_
    refine bv rfl (v_pickF rfl rfl rfl) (mv rfl rfl ?_)
    refine b_nil (hK _ ?_)
    exact to_L ⟨false, (), h, rfl⟩
   have h := ifF hg24 h
   refine b_F rfl rfl rfl rfl rfl (decide_eq_false hg24) ?_
   refine b_F rfl rfl rfl rfl rfl rfl ?_
   refine b_F rfl rfl rfl rfl rfl rfl ?_
   refine b_F rfl rfl rfl rfl rfl rfl ?_
   refine bv rfl (v_pickF rfl rfl rfl) (mv rfl rfl ?_)
   refine b_F rfl rfl rfl rfl rfl rfl ?_
   refine b_F rfl rfl rfl rfl rfl rfl ?_
   refine b_F rfl rfl rfl rfl rfl rfl ?_
   refine b_F rfl rfl rfl rfl rfl rfl ?_
   refine b_F rfl rfl rfl rfl rfl rfl ?_
   refine b_F rfl rfl rfl rfl rfl rfl ?_
   refine bv rfl (v_pickF rfl rfl rfl) (mv rfl rfl ?_)
   refine b_nil (hK _ ?_)
   exact to_L ⟨false, (), h, rfl⟩
  have h := ifF hg25 h
  refine b_F rfl rfl rfl rfl rfl (bF hg25) ?_
  refine b_F rfl rfl rfl rfl rfl rfl ?_
  refine b_F rfl rfl rfl rfl rfl rfl ?_
  refine bv rfl (v_pickF rfl rfl rfl) (mv rfl rfl ?_)
  refine b_F rfl rfl rfl rfl rfl rfl ?_
  refine b_F rfl rfl rfl rfl rfl rfl ?_
  refine b_F rfl rfl rfl rfl rfl rfl ?_
  refine b_F rfl rfl rfl rfl rfl rfl ?_
  refine bv rfl (v_pickF rfl rfl rfl) (mv rfl rfl ?_)
  refine b_F rfl rfl rfl rfl rfl rfl ?_
  refine b_F rfl rfl rfl rfl rfl rfl ?_
  refine b_F rfl rfl rfl rfl rfl rfl ?_
  refine b_F rfl rfl rfl rfl rfl rfl ?_
  refine b_F rfl rfl rfl rfl rfl rfl ?_
  refine b_F rfl rfl rfl rfl rfl rfl ?_
  refine bv rfl (v_pickF rfl rfl rfl) (mv rfl rfl ?_)
  refine b_nil (hK _ ?_)
  exact to_L ⟨false, (), h, rfl⟩
 refine AW.dg 23 follows rfl rfl fun K hK => ?_
 refine sm rfl rfl ?_
 refine sm rfl rfl ?_
 refine sm rfl rfl ?_
 refine sv rfl (v_max3 rfl rfl rfl rfl) ?_
 refine sv rfl (v_bin rfl rfl b_eql) ?_
 refine sm rfl rfl ?_
 by_cases hg33 : (max (max x3.2.2 x8.2.2.2) x12.2) = 0
 ·have h := ifT hg33 h
  refine s_T rfl rfl rfl rfl rfl (decide_eq_true hg33) (ops_val rfl (mv_val rfl rfl).2 ?_)
  refine sv rfl (v_pickT rfl rfl rfl) ?_
  refine sm rfl rfl ?_
  by_cases hg32 : x8.2.2.1 = true
  ·have h := ifT hg32 h
   refine s_T rfl rfl rfl rfl rfl hg32 (ops_val rfl (mv_val rfl rfl).2 ?_)
   refine s_T rfl rfl rfl rfl rfl rfl (ops_val rfl (v_bin rfl rfl b_eql) ?_)
   refine sv rfl (v_pickT rfl rfl rfl) ?_
   refine sm rfl rfl ?_
   by_cases hg31 : x8.2.1 = 0
   ·have h := ifT hg31 h
    refine s_T rfl rfl rfl rfl rfl (decide_eq_true hg31) (ops_val rfl (mv_val rfl rfl).2 ?_)
    refine s_T rfl rfl rfl rfl rfl rfl (ops_bsl rfl rfl (as_of (cs := [hI 1]) ty27 ty3 rfl rfl rfl rfl rfl) ?_)
    obtain ⟨x26, h27, h⟩ := bS h
    refine s_T rfl rfl rfl rfl rfl rfl (ops_call rfl rfl rfl rfl (ACallD.pure0 (w_ref12_Same h27)) ?_)
    refine sv rfl (v_pickT rfl rfl rfl) ?_
    refine sm rfl rfl ?_
    by_cases hg30 : x26 = true
    ·have h := ifT hg30 h
     refine s_T rfl rfl rfl rfl rfl hg30 (ops_val rfl (v_loadP ty32 rfl rfl (l_litA rfl (lb rfl) rfl)) ?_)
     obtain ⟨x28, h29, h⟩ := bS h
     refine s_T rfl rfl rfl rfl rfl rfl (ops_call rfl rfl rfl rfl (ACallD.pure0 (w_ref01_Of h29)) ?_)
     refine s_T rfl rfl rfl rfl rfl rfl (ops_val rfl (v_bin rfl rfl (b_aeql (hk32 _ _) (hk32 _ _) hc32 (hq32 x12.1 x28))) ?_)
     refine sv rfl (v_pickT rfl rfl rfl) ?_
     refine sm rfl rfl ?_
     refine s_nil ?_
     refine b_nil (hK _ ?_)
     exact to_L ⟨decide (x12.1 = x28), (), h, rfl⟩
    have h := ifF hg30 h
    refine s_F rfl rfl rfl rfl rfl (bF hg30) ?_
    refine s_F rfl rfl rfl rfl rfl rfl ?_
    refine s_F rfl rfl rfl rfl rfl rfl ?_
    refine sv rfl (v_pickF rfl rfl rfl) ?_
    refine sm rfl rfl ?_
    refine s_nil ?_
    refine b_nil (hK _ ?_)
    exact to_L ⟨false, (), h, rfl⟩
   have h := ifF hg31 h
   refine s_F rfl rfl rfl rfl rfl (decide_eq_false hg31) ?_
   refine s_F rfl rfl rfl rfl rfl rfl ?_
   refine s_F rfl rfl rfl rfl rfl rfl ?_
   refine sv rfl (v_pickF rfl rfl rfl) ?_
   refine sm rfl rfl ?_
   refine s_F rfl rfl rfl rfl rfl rfl ?_
   refine s_F rfl rfl rfl rfl rfl rfl ?_
   refine s_F rfl rfl rfl rfl rfl rfl ?_
   refine sv rfl (v_pickF rfl rfl rfl) ?_
   refine sm rfl rfl ?_
   refine s_nil ?_
   refine b_nil (hK _ ?_)
   exact to_L ⟨false, (), h, rfl⟩
  have h := ifF hg32 h
  refine s_F rfl rfl rfl rfl rfl (bF hg32) ?_
  refine s_F rfl rfl rfl rfl rfl rfl ?_
  refine sv rfl (v_pickF rfl rfl rfl) ?_
  refine sm rfl rfl ?_
  refine s_F rfl rfl rfl rfl rfl rfl ?_
  refine s_F rfl rfl rfl rfl rfl rfl ?_
  refine s_F rfl rfl rfl rfl rfl rfl ?_
  refine sv rfl (v_pickF rfl rfl rfl) ?_
  refine sm rfl rfl ?_
  refine s_F rfl rfl rfl rfl rfl rfl ?_
  refine s_F rfl rfl rfl rfl rfl rfl ?_
  refine s_F rfl rfl rfl rfl rfl rfl ?_
  refine sv rfl (v_pickF rfl rfl rfl) ?_
  refine sm rfl rfl ?_
  refine s_nil ?_
  refine b_nil (hK _ ?_)
  exact to_L ⟨false, (), h, rfl⟩
 have h := ifF hg33 h
 refine s_F rfl rfl rfl rfl rfl (decide_eq_false hg33) ?_
 refine sv rfl (v_pickF rfl rfl rfl) ?_
 refine sm rfl rfl ?_
 refine s_F rfl rfl rfl rfl rfl rfl ?_
 refine s_F rfl rfl rfl rfl rfl rfl ?_
 refine sv rfl (v_pickF rfl rfl rfl) ?_
 refine sm rfl rfl ?_
 refine s_F rfl rfl rfl rfl rfl rfl ?_
 refine s_F rfl rfl rfl rfl rfl rfl ?_
 refine s_F rfl rfl rfl rfl rfl rfl ?_
 refine sv rfl (v_pickF rfl rfl rfl) ?_
 refine sm rfl rfl ?_
 refine s_F rfl rfl rfl rfl rfl rfl ?_
 refine s_F rfl rfl rfl rfl rfl rfl ?_
 refine s_F rfl rfl rfl rfl rfl rfl ?_
 refine sv rfl (v_pickF rfl rfl rfl) ?_
 refine sm rfl rfl ?_
 refine s_nil ?_
 refine b_nil (hK _ ?_)
 exact to_L ⟨false, (), h, rfl⟩
end Go.AW

namespace Go.AW
open Go
set_option linter.unusedSimpArgs false
set_option linter.unusedVariables false
theorem asc_uniq {l m : List Int} (hl : l.Pairwise (· < ·)) (hm : m.Pairwise (· < ·)) (h : ∀ x, x ∈ l ↔ x ∈ m) : l = m := by
 have nl : l.Nodup := hl.imp fun h => Int.ne_of_lt h
 have nm : m.Nodup := hm.imp fun h => Int.ne_of_lt h
 have hp : l.Perm m := (List.perm_ext_iff_of_nodup nl nm).2 h
 exact hp.eq_of_pairwise (fun a b _ _ h1 h2 => by omega) hl hm
theorem sortI_mem {l : List Int} {x : Int} : x ∈ sortI l ↔ x ∈ l := (List.mergeSort_perm l _).mem_iff
theorem sortI_asc (l : List Int) : (sortI l).Pairwise (· ≤ ·) := by
 have := List.pairwise_mergeSort (le := fun x y : Int => decide (x ≤ y)) (fun a b c h1 h2 => by simp at *; omega) (fun a b => by simp; omega) l
 exact this.imp fun h => by simpa using h
theorem keeps_iff (d : Array Int) (j : Nat) : Lib.keeps d j = true ↔ j = 0 ∨ d[j]! ≠ d[j - 1]! := by
 simp [Lib.keeps]
theorem compact_asc {l : List Int} (h : l.Pairwise (· ≤ ·)) : (compact_ l).Pairwise (· < ·) := by
 show (Lib.compactUpTo l.toArray l.length).Pairwise (· < ·)
 unfold Lib.compactUpTo
 rw [List.pairwise_map]
 refine List.Pairwise.imp_of_mem ?_ ((List.pairwise_lt_range (n := l.length)).filter _)
 intro i j hi hj hij
 have hi' := List.mem_range.1 (List.mem_filter.1 hi).1
 have hj' := List.mem_range.1 (List.mem_filter.1 hj).1
 have hk := (keeps_iff _ _).1 (List.mem_filter.1 hj).2
 have e1 : l.toArray[i]! = l[i] := by simp [hi']
 have e2 : l.toArray[j]! = l[j] := by simp [hj']
 have e3 : l.toArray[j - 1]! = l[j - 1]'(by omega) := by simp [show j - 1 < l.length by omega]
 rw [e2, e3] at hk
 rw [e1, e2]
 have hp := List.pairwise_iff_getElem.1 h
 have h1 : l[i] ≤ l[j - 1]'(by omega) := by
  by_cases hie : i = j - 1
  ·subst hie; exact Int.le_refl _
  ·exact hp i (j - 1) hi' (by omega) (by omega)
 have h2 : l[j - 1]'(by omega) ≤ l[j] := hp (j - 1) j (by omega) hj' (by omega)
 omega
theorem compact_has {l : List Int} {x : Int} (h : x ∈ l) : x ∈ compact_ l := by
 show x ∈ Lib.compactUpTo l.toArray l.length
 unfold Lib.compactUpTo
 obtain ⟨i, hi, rfl⟩ := List.getElem_of_mem h
 obtain ⟨j, ⟨hjl, hj⟩, hmin⟩ := least (fun j => ∃ h : j < l.length, l[j] = l[i]) ⟨i, hi, rfl⟩
 refine List.mem_map.2 ⟨j, List.mem_filter.2 ⟨List.mem_range.2 hjl, (keeps_iff _ _).2 ?_⟩, by simp [hjl, hj]⟩
 by_cases h0 : j = 0
 ·exact .inl h0
 ·right
  intro he
  have e2 : l.toArray[j]! = l[j] := by simp [hjl]
  have e3 : l.toArray[j - 1]! = l[j - 1]'(by omega) := by simp [show j - 1 < l.length by omega]
  rw [e2, e3] at he
  have := hmin (j - 1) ⟨by omega, by rw [← he, hj]⟩
  omega
theorem compact_sort_mem {l : List Int} {x : Int} : x ∈ compact_ (sortI l) ↔ x ∈ l := ⟨fun h => sortI_mem.1 (compact_mem h), fun h => compact_has (sortI_mem.2 h)⟩
def SetOk (g : Gr) (a : List Int) : Prop := a.Pairwise (· < ·) ∧ ∀ x ∈ a, 0 ≤ x ∧ x < g.2.1
def upto (n : Int) : List Int := (List.range n.toNat).map Int.ofNat
theorem mem_upto {n x : Int} : x ∈ upto n ↔ 0 ≤ x ∧ x < n := by
 simp only [upto, List.mem_map, List.mem_range]
 constructor
 ·rintro ⟨i, hi, rfl⟩; simp only [Int.ofNat_eq_natCast]; omega
 ·rintro ⟨h0, h1⟩; exact ⟨x.toNat, by omega, by simp only [Int.ofNat_eq_natCast]; omega⟩
theorem upto_asc (n : Int) : (upto n).Pairwise (· < ·) := by
 rw [upto, List.pairwise_map]
 exact (List.pairwise_lt_range (n := n.toNat)).imp fun h => by simp only [Int.ofNat_eq_natCast]; omega
theorem upto_len (n : Int) : (upto n).length = n.toNat := by simp [upto]
def stepL (g : Gr) (a : List Int) (c : Int) : List Int := (upto g.2.1).filter fun t => g.2.2.any fun e => decide (e.2.2 = t ∧ e.2.1 = c ∧ e.1 ∈ a)
theorem mem_stepL {g : Gr} (hv : VG g) {a : List Int} {c t : Int} : t ∈ stepL g a c ↔ ∃ e ∈ g.2.2, e.2.2 = t ∧ e.2.1 = c ∧ e.1 ∈ a := by
 simp only [stepL, List.mem_filter, List.any_eq_true, decide_eq_true_eq, mem_upto]
 constructor
 ·rintro ⟨_, h⟩; exact h
 ·rintro ⟨e, he, h1, h2, h3⟩
  have := hv.ed e he
  exact ⟨by omega, e, he, h1, h2, h3⟩
theorem stepL_ok (g : Gr) (a : List Int) (c : Int) : SetOk g (stepL g a c) :=
 ⟨(upto_asc _).filter _, fun x hx => mem_upto.1 (List.mem_filter.1 hx).1⟩
theorem upto_ok (g : Gr) : SetOk g (upto g.2.1) := ⟨upto_asc _, fun x hx => mem_upto.1 hx⟩
theorem setOk_len {g : Gr} {a : List Int} (hv : VG g) (h : SetOk g a) : a.length ≤ 64 := by
 have e : a = (upto g.2.1).filter fun x => decide (x ∈ a) := asc_uniq h.1 ((upto_asc _).filter _) fun x => by
  simp only [List.mem_filter, mem_upto, decide_eq_true_eq]
  exact ⟨fun hx => ⟨h.2 x hx, hx⟩, fun hx => hx.2⟩
 rw [e]
 refine Nat.le_trans (List.length_filter_le _ _) ?_
 rw [upto_len]
 have := hv.s1
 omega
theorem checkSet_ok {g : Gr} {a : List Int} (h : SetOk g a) (hm : a.length ≤ 9223372036854775807) : m_graph_checkSet g a = some 0 := by
 unfold m_graph_checkSet
 simp only [jp]
 refine lpL (loop_is (fun i => (i : Int)) a.length (Ou.go ()) (fun i hi => ?_) (by rw [if_neg (not_lt_int _)]) rfl) rfl
 obtain ⟨h0, h1⟩ := h.2 a[i] (List.getElem_mem hi)
 rw [if_pos (lt_int hi), ix hi]
 simp only [Option.bind_some]
 rw [if_neg (by omega)]
 have hd : decide (g.2.1 ≤ a[i]) = false := decide_eq_false (by omega)
 simp only [hd, Bool.false_eq_true, if_false]
 by_cases hz : 0 < i
 ·have hlt := List.pairwise_iff_getElem.1 h.1 (i - 1) i (by omega) hi (by omega)
  rw [if_pos (by omega), ix_pred hi hm hz]
  simp only [Option.bind_some]
  have hd2 : decide (a[i] ≤ a[i - 1]'(by omega)) = false := decide_eq_false (by omega)
  simp only [hd2, Bool.false_eq_true, if_false, nx hm hi]
 ·rw [if_neg (by omega)]
  simp only [Bool.false_eq_true, if_false, nx hm hi]
def outL (g : Gr) (s c : Int) : List Int := ((leaveL g.2.2 s).filter fun x => decide (x.2.2.1 = c)).map fun x => x.2.2.2
theorem mem_leaveL {es : List Ed} {s : Int} {x : Ed} : (∃ i, (i, x) ∈ leaveL es s) ↔ x ∈ es ∧ x.1 = s := by
 constructor
 ·rintro ⟨i, h⟩
  obtain ⟨p, hp, he⟩ := List.mem_map.1 h
  obtain ⟨hp1, hp2⟩ := List.mem_filter.1 hp
  cases he
  exact ⟨List.fst_mem_of_mem_zipIdx hp1, of_decide_eq_true hp2⟩
 ·rintro ⟨hm, hs⟩
  obtain ⟨k, hk, rfl⟩ := List.getElem_of_mem hm
  exact ⟨_, List.mem_map.2 ⟨(es[k], k), List.mem_filter.2 ⟨by rw [List.mem_zipIdx_iff_getElem?]; exact List.getElem?_eq_getElem hk, decide_eq_true hs⟩, rfl⟩⟩
theorem mem_outL {g : Gr} {s c t : Int} : t ∈ outL g s c ↔ ∃ e ∈ g.2.2, e.2.2 = t ∧ e.2.1 = c ∧ e.1 = s := by
 simp only [outL, List.mem_map, List.mem_filter, decide_eq_true_eq]
 constructor
 ·rintro ⟨⟨i, x⟩, ⟨hm, hc⟩, rfl⟩
  obtain ⟨h1, h2⟩ := mem_leaveL.1 ⟨i, hm⟩
  exact ⟨x, h1, rfl, hc, h2⟩
 ·rintro ⟨x, hx, rfl, hc, hs⟩
  obtain ⟨i, hi⟩ := mem_leaveL.2 ⟨hx, hs⟩
  exact ⟨(i, x), ⟨hi, hc⟩, rfl⟩
theorem outL_len (g : Gr) (s c : Int) : (outL g s c).length ≤ g.2.2.length := by
 simp only [outL, leaveL, List.length_map]
 refine Nat.le_trans (List.length_filter_le _ _) ?_
 rw [List.length_map]
 refine Nat.le_trans (List.length_filter_le _ _) ?_
 simp
theorem fold_out (c : Int) : ∀ (L : List (Int × Ed)) (acc : List Int), L.foldl (fun (a : List Int) (x : Int × Ed) => if x.2.2.1 = c then a ++ [x.2.2.2] else a) acc = acc ++ (L.filter fun x => decide (x.2.2.1 = c)).map fun x => x.2.2.2
 | [], acc => by simp
 | x :: L, acc => by
  rw [List.foldl_cons, fold_out c L]
  by_cases h : x.2.2.1 = c
  ·rw [if_pos h, List.filter_cons_of_pos (by simpa using h)]; simp
  ·rw [if_neg h, List.filter_cons_of_neg (by simpa using h)]
theorem forL_foldI {S α X : Type} {body : S → α → Option (Stp S X)} (f : S → α → S) (P : Nat → S → Prop) : ∀ (L : List α) (s : S) (k : Nat), (∀ i s x, i < L.length → x ∈ L → P (k + i) s → body s x = some (.next (f s x)) ∧ P (k + i + 1) (f s x)) → P k s → forL body L s = some (.go (L.foldl f s))
 | [], _, _, _, _ => rfl
 | x :: L, s, k, h, hs => by
  obtain ⟨h1, h2⟩ := h 0 s x (by simp) (List.mem_cons_self ..) hs
  simp only [forL, h1]
  exact forL_foldI f P L _ (k + 1) (fun i s y hi hy hP => by
   have e : k + 1 + i = k + (i + 1) := by omega
   rw [e] at hP ⊢
   exact h (i + 1) s y (by simp; omega) (List.mem_cons_of_mem _ hy) hP) h2
theorem fits_le {k n : Nat} (h : n * k ≤ 140737488355328) (h2 : n ≤ 1048576) : fits k n := ⟨h, by simp only [maxLen]; omega⟩
theorem Step_eq {g : Gr} (hv : VG g) {a : List Int} (ha : SetOk g a) {c : Int} (h0 : 0 ≤ c) (h1 : c < g.1) : m_graph_Step g a c = some (stepL g a c, 0) := by
 obtain ⟨e, he, hz⟩ := Check_tot g
 have he0 := hz.2 hv
 subst he0
 have hl := setOk_len hv ha
 have hel := hv.el
 unfold m_graph_Step
 rw [Check_ref, he, Option.bind_some, checkSet_ok ha (by omega)]
 simp only [ne_eq, not_true_eq_false, if_false, Option.bind_some, jp]
 rw [if_neg (by omega)]
 have hd : decide (g.1 ≤ c) = false := decide_eq_false (by omega)
 simp only [hd, Bool.false_eq_true, if_false]
 have hy : ∀ x, y_graph_leaving g x = some (leaveL g.2.2 x) := fun x => by unfold y_graph_leaving; rw [if_pos (by omega)]
 have hlen : ∀ i, i ≤ a.length → ((a.take i).flatMap fun s => outL g s c).length ≤ i * 1024 := by
  intro i
  induction i with
  | zero => intro _; simp
  | succ i ih =>
   intro hi
   have := ih (by omega)
   rw [List.take_add_one, List.getElem?_eq_getElem (by omega)]
   simp only [Option.toList_some, List.flatMap_append, List.flatMap_cons, List.flatMap_nil, List.append_nil, List.length_append]
   have h2 := outL_len g a[i] c
   omega
 refine bindL (loop_is (fun i => ((i : Int), (a.take i).flatMap fun s => outL g s c)) a.length (a.flatMap fun s => outL g s c) (fun i hi => ?_) ?_ (by simp)) ?_
 ·dsimp only
  rw [if_pos (lt_int hi), ix hi]
  simp only [Option.bind_some, hy]
  have hb := hlen i (by omega)
  have hll : (leaveL g.2.2 a[i]).length ≤ 1024 := by
   simp only [leaveL, List.length_map]
   refine Nat.le_trans (List.length_filter_le _ _) ?_
   simp; omega
  rw [forL_foldI (fun (acc : List Int) (x : Int × Ed) => if x.2.2.1 = c then acc ++ [x.2.2.2] else acc) (fun k s => s.length ≤ i * 1024 + k) _ _ 0 (fun k s x hk hx hP => ?_) (Nat.le_trans hb (Nat.le_add_right _ _))]
  ·simp only [lpO, nx (by omega : a.length ≤ _) hi, fold_out, Option.some.injEq, Stp.next.injEq, Prod.mk.injEq, true_and]
   rw [List.take_add_one, List.getElem?_eq_getElem hi]
   simp only [Option.toList_some, List.flatMap_append, List.flatMap_cons, List.flatMap_nil, List.append_nil]
   rfl
  ·by_cases hc : x.2.2.1 = c
   ·rw [if_pos hc, if_pos hc, if_pos (fits_le (by simp; omega) (by simp; omega))]
    exact ⟨rfl, by simp; omega⟩
   ·rw [if_neg hc, if_neg hc]
    exact ⟨rfl, by omega⟩
 ·dsimp only
  rw [if_neg (not_lt_int _), List.take_length]
 ·have hb := hlen a.length (Nat.le_refl _)
  rw [List.take_length] at hb
  rw [if_pos (by omega)]
  congr 2
  refine asc_uniq (compact_asc (sortI_asc _)) (stepL_ok g a c).1 fun x => ?_
  rw [compact_sort_mem, mem_stepL hv]
  simp only [List.mem_flatMap, mem_outL]
  constructor
  ·rintro ⟨s, hs, e, he, h1, h2, rfl⟩; exact ⟨e, he, h1, h2, hs⟩
  ·rintro ⟨e, he, h1, h2, hs⟩; exact ⟨_, hs, e, he, h1, h2, rfl⟩
theorem idx_letter {i : Nat} (h : i < letters.length) : Lib.indexByte letters letters[i] = (i : Int) := by
 have : ∀ j : Fin 16, Lib.indexByte letters (letters[j.1]'j.2) = (j.1 : Int) := by decide
 exact this ⟨i, h⟩
def lets (g : Gr) : List UInt8 := letters.take g.1.toNat
section
variable {g : Gr}
theorem mem_lets {c : UInt8} (h : c ∈ letters.take g.1.toNat) : ∃ (i : Nat) (hi : i < letters.length), (i : Int) < g.1 ∧ letters[i] = c := by
 obtain ⟨i, hi, rfl⟩ := List.mem_take_iff_getElem.1 h
 have h1 : i < g.1.toNat := by omega
 exact ⟨i, by omega, by omega, rfl⟩
end
end Go.AW
namespace Go.AW
open Go
set_option linter.unusedSimpArgs false
set_option linter.unusedVariables false
def lab (c : UInt8) : Int := Lib.indexByte letters c
def WOk (g : Gr) (w : List UInt8) : Prop := w.length ≤ 65536 ∧ ∀ c ∈ w, c ∈ lets g
section
variable {g : Gr}
theorem lab_mem {c : UInt8} (h : c ∈ lets g) : ∃ (i : Nat) (hi : i < letters.length), (i : Int) < g.1 ∧ letters[i] = c ∧ lab c = i := by
 obtain ⟨i, hi, hg, rfl⟩ := mem_lets h
 exact ⟨i, hi, hg, rfl, idx_letter hi⟩
end
theorem WOk.sub {g : Gr} {w u : List UInt8} (h : WOk g w) (hl : u.length ≤ w.length) (hs : ∀ c ∈ u, c ∈ w) : WOk g u := ⟨Nat.le_trans hl h.1, fun c hc => h.2 c (hs c hc)⟩
end Go.AW
namespace Go.AW
open Go
set_option linter.unusedSimpArgs false
set_option linter.unusedVariables false
section
variable {g : Gr}
def canB (g : Gr) : List UInt8 → List Bool
 | [] => List.replicate g.2.1.toNat true
 | c :: w => (upto g.2.1).map fun s => g.2.2.any fun x => decide (x.1 = s ∧ x.2.1 = lab c) && (canB g w).getD x.2.2.toNat false
def okE (g : Gr) (w : List UInt8) (c : UInt8) (prev : Option Int) (x : Ed) : Bool := decide (x.2.1 = lab c) && (canB g w).getD x.2.2.toNat false && (match prev with
 | none => true
 | some s => decide (x.1 = s))
def pick (g : Gr) (w : List UInt8) (c : UInt8) (prev : Option Int) : Nat := g.2.2.findIdx (okE g w c prev)
end
end Go.AW
namespace Go.AW
open Go
set_option linter.unusedSimpArgs false
set_option linter.unusedVariables false
section
variable {g : Gr}
end
end Go.AW
namespace Go.AW
open Go
set_option linter.unusedSimpArgs false
set_option linter.unusedVariables false
section
variable {g : Gr}
end
end Go.AW
namespace Go.AW
open Go
set_option linter.unusedSimpArgs false
set_option linter.unusedVariables false
section
variable {g : Gr}
end
end Go.AW
namespace Go.AW
open Go
set_option linter.unusedSimpArgs false
set_option linter.unusedVariables false
section
variable {β : Type}
theorem mlook_put (k q : List UInt8) (v : β) : ∀ l : List (List UInt8 × β), mlook q (mputN k v l) = if q = k then some v else mlook q l
 | [] => by simp only [mputN, mlook]
 | (p, x) :: l => by
  simp only [mputN]
  by_cases h : k = p
  ·rw [if_pos h]
   simp only [mlook]
   by_cases e : q = p
   ·rw [if_pos e, if_pos (e.trans h.symm)]
   ·rw [if_neg e, if_neg (fun e' => e (e'.trans h)), if_neg e]
  ·rw [if_neg h]
   simp only [mlook]
   by_cases e : q = p
   ·rw [if_pos e, if_neg (fun e' => h (e'.symm.trans e)), if_pos e]
   ·rw [if_neg e, mlook_put k q v l, if_neg e]
end
section
variable {g : Gr}
end
end Go.AW
namespace Go.AW
open Go
set_option linter.unusedSimpArgs false
set_option linter.unusedVariables false
section
variable {g : Gr}
def stpL (g : Gr) (a : List Int) (c : UInt8) : List Int := stepL g a (lab c)
end
end Go.AW
namespace Go.AW
open Go
set_option linter.unusedSimpArgs false
set_option linter.unusedVariables false
section
variable {g : Gr}
end
end Go.AW
namespace Go.AW
open Go
set_option linter.unusedSimpArgs false
set_option linter.unusedVariables false
section
variable {g : Gr}
end
end Go.AW
namespace Go.AW
open Go
set_option linter.unusedSimpArgs false
set_option linter.unusedVariables false
section
variable {g : Gr}
def bad1 (g : Gr) (a : List Int) (i : Nat) : Bool := decide (a.getD i 0 < 0 ∨ g.2.1 ≤ a.getD i 0)
def bad2 (a : List Int) (i : Nat) : Bool := decide (0 < i ∧ a.getD i 0 ≤ a.getD (i - 1) 0)
theorem setOk_of {a : List Int} (h1 : ¬ (List.range a.length).any (bad1 g a) = true) (h2 : ¬ (List.range a.length).any (bad2 a) = true) : SetOk g a := by
 have k1 : ∀ i (hi : i < a.length), 0 ≤ a[i] ∧ a[i] < g.2.1 := fun i hi => by
  apply Classical.byContradiction
  intro hn
  refine h1 (List.any_eq_true.2 ⟨i, List.mem_range.2 hi, ?_⟩)
  have e : a.getD i 0 = a[i] := by simp [List.getD, hi]
  unfold bad1
  rw [e]
  exact decide_eq_true (by omega)
 have k2 : ∀ i (hi : i + 1 < a.length), a[i] < a[i + 1] := fun i hi => by
  apply Classical.byContradiction
  intro hn
  refine h2 (List.any_eq_true.2 ⟨i + 1, List.mem_range.2 hi, ?_⟩)
  have e : a.getD (i + 1) 0 = a[i + 1] := by simp [List.getD, hi]
  have e2 : a.getD (i + 1 - 1) 0 = a[i] := by simp [List.getD, show i < a.length by omega]
  unfold bad2
  rw [e, e2]
  exact decide_eq_true (by omega)
 refine ⟨List.pairwise_iff_getElem.2 fun i j hi hj hij => ?_, fun x hx => ?_⟩
 ·obtain ⟨d, rfl⟩ : ∃ d, j = i + 1 + d := ⟨j - i - 1, by omega⟩
  induction d with
  | zero => exact k2 i hj
  | succ d ih => exact Int.lt_trans (ih (by omega) (by omega)) (k2 _ hj)
 ·obtain ⟨i, hi, rfl⟩ := List.getElem_of_mem hx
  exact k1 i hi
end
end Go.AW

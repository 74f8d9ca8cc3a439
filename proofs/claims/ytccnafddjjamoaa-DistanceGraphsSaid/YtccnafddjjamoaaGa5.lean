import Derived.Test.YtccnafddjjamoaaGa4
import Derived.Shelf.SlicesE.Clone
import Derived.Shelf.SlicesE.Delete
/- Models, printed by lk.py. -/
namespace Go.AW
open Go
set_option linter.unusedVariables false
/-- groove/grooveref10.Great -/
noncomputable def m_ref10_Great (p0 : TLabelsStatesEdges) : Option (Bool) :=
  jp (fun (a1 : Bool) =>
    some a1)
    fun k3 =>
    if 8 < p0.2.1 then
      if p0.2.1 ≤ 64 then
        k3 true
      else
        if 30 < ((p0.2.2).length : Int) then
          if ((p0.2.2).length : Int) ≤ 1024 then
            k3 true
          else
            k3 (decide (1027 < ((p0.2.2).length : Int)))
        else
          k3 (decide (1027 < ((p0.2.2).length : Int)))
    else
      if 30 < ((p0.2.2).length : Int) then
        if ((p0.2.2).length : Int) ≤ 1024 then
          k3 true
        else
          k3 (decide (1027 < ((p0.2.2).length : Int)))
      else
        k3 (decide (1027 < ((p0.2.2).length : Int)))

/-- groove/groovelaw46.small -/
noncomputable def m_law46_small (p0 : TLabelsStatesEdges) (p1 : Int) : Option (Bool) :=
  jp (fun (a1 : Bool) =>
    some a1)
    fun k3 =>
    (m_ref10_Great p0).bind fun x4 =>
    if (!x4) = true then
      if p0.1 ≤ 3 then
        if p1 ≤ 5 then
          k3 true
        else
          k3 (decide (65536 < p1))
      else
        if 16 < p0.1 then
          if p1 ≤ 5 then
            k3 true
          else
            k3 (decide (65536 < p1))
        else
          k3 false
    else
      k3 false

/-- groove/distance.words -/
noncomputable def m_distance_words (p0 : TLabelsStatesEdges) (p1 : Int) : Option ((List (List UInt8)) × Int) :=
  (m_language_Words p0 p1).bind fun x1 =>
  if x1.2 ≠ 0 then
    some ([], x1.2)
  else
    if 512 < ((x1.1).length : Int) then
      some ([], 4)
    else
      some (x1.1, 0)

/-- groove/distance.Of -/
noncomputable def m_distance_Of (p0 : TLabelsStatesEdges) (p1 : Int) : Option (Int × Int) :=
  (m_distance_words p0 p1).bind fun x1 =>
  if x1.2 ≠ 0 then
    some (0, x1.2)
  else
    (m_distance_Least x1.1).bind fun x3 =>
    some (x3.1, x3.2)

/-- groove/grooveref46.words -/
noncomputable def m_ref46_words (p0 : TLabelsStatesEdges) (p1 : Int) : Option ((List (List UInt8)) × Int) :=
  (m_ref11_Words p0 p1).bind fun x1 =>
  if x1.2 ≠ 0 then
    some ([], x1.2)
  else
    if 512 < ((x1.1).length : Int) then
      some ([], 4)
    else
      some (x1.1, 0)

/-- groove/grooveref46.Of -/
noncomputable def m_ref46_Of (p0 : TLabelsStatesEdges) (p1 : Int) : Option (Int × Int) :=
  (m_ref46_words p0 p1).bind fun x1 =>
  if x1.2 ≠ 0 then
    some (0, x1.2)
  else
    (m_ref46_Least x1.1).bind fun x3 =>
    some (x3.1, x3.2)

/-- groove/distance.Greedy -/
noncomputable def m_distance_Greedy (p0 : TLabelsStatesEdges) (p1 : Int) (p2 : Int) : Option ((List (List UInt8)) × Int) :=
  jp (fun (a1 : Bool) =>
    if a1 = true then
      some ([], 2)
    else
      (m_distance_words p0 p1).bind fun x4 =>
      if x4.2 ≠ 0 then
        some ([], x4.2)
      else
        (loopW (S := Int × (List (List UInt8))) (X := (List (List UInt8))) (fun a6 =>
            if a6.1 < ((x4.1).length : Int) then
              jp (fun (a10 : (List (List UInt8))) =>
                some (Stp.next (IntKind.wrap .i64 (a6.1 + 1), a10)))
                fun k12 =>
                (idx x4.1 a6.1).bind fun x13 =>
                (loopW (S := Bool × Int) (X := Bool) (fun a15 =>
                    if a15.2 < (((a6.2).length : Nat) : Int) then
                      jp (fun (a19 : Bool) =>
                        some (Stp.next (a19, IntKind.wrap .i64 (a15.2 + 1))))
                        fun k21 =>
                        (idx a6.2 a15.2).bind fun x22 =>
                        (idx a6.2 a15.2).bind fun x24 =>
                        if a15.1 = true then
                          (m_distance_hamming x24 x13).bind fun x26 =>
                          k21 (decide (p2 ≤ x26))
                        else
                          k21 false
                    else
                      some (Stp.exit a15.1)) (true, 0)).bind fun a29 =>
                if a29 = true then
                  if fits 16 ((a6.2 : List (List UInt8)).length + ([x13]).length) then
                    k12 (a6.2 ++ [x13])
                  else none
                else
                  k12 a6.2
            else
              some (Stp.exit a6.2)) (0, ([] : List (List UInt8)))).bind fun a34 =>
        some (a34, 0))
    fun k3 =>
    if p2 < 1 then
      k3 true
    else
      k3 (decide (65536 < p2))

/-- groove/grooveref46.Greedy -/
noncomputable def m_ref46_Greedy (p0 : TLabelsStatesEdges) (p1 : Int) (p2 : Int) : Option ((List (List UInt8)) × Int) :=
  jp (fun (a1 : Bool) =>
    if a1 = true then
      some ([], 2)
    else
      (m_ref46_words p0 p1).bind fun x5 =>
      if x5.2 ≠ 0 then
        some ([], x5.2)
      else
        (loopW (S := Int × (List (List UInt8))) (X := (List (List UInt8))) (fun a9 =>
            if a9.1 < ((x5.1).length : Int) then
              jp (fun (a13 : (List (List UInt8))) =>
                some (Stp.next (IntKind.wrap .i64 (a9.1 + 1), a13)))
                fun k15 =>
                (loopW (S := Bool × Int) (X := Bool) (fun a16 =>
                    if a16.2 < (((a9.2).length : Nat) : Int) then
                      jp (fun (a20 : Bool) =>
                        some (Stp.next (a20, IntKind.wrap .i64 (a16.2 + 1))))
                        fun k22 =>
                        if a16.1 = true then
                          (idx x5.1 a9.1).bind fun x23 =>
                          (idx a9.2 a16.2).bind fun x25 =>
                          (idx a9.2 a16.2).bind fun x27 =>
                          (m_ref46_hamming x23 x27).bind fun x29 =>
                          k22 (decide (p2 ≤ x29))
                        else
                          k22 false
                    else
                      some (Stp.exit a16.1)) (true, 0)).bind fun a32 =>
                if a32 = true then
                  (idx x5.1 a9.1).bind fun x34 =>
                  if fits 16 ((a9.2 : List (List UInt8)).length + ([x34]).length) then
                    k15 (a9.2 ++ [x34])
                  else none
                else
                  k15 a9.2
            else
              some (Stp.exit a9.2)) (0, [])).bind fun a38 =>
        some (a38, 0))
    fun k3 =>
    if p2 < 1 then
      k3 true
    else
      k3 (decide (65536 < p2))

/-- slices.Equal[[]string,string] -/
noncomputable def m_slices_Equal_Lstring_string (p0 : List (List UInt8)) (p1 : List (List UInt8)) : Option (Bool) :=
  if ((p0).length : Int) ≠ ((p1).length : Int) then
    some false
  else
    lpO (loopW (S := Int) (X := Ou (Unit) (Bool)) (fun a1 =>
        if a1 < ((p0).length : Int) then
          (idx p0 a1).bind fun x5 =>
          (idx p1 a1).bind fun x7 =>
          if x5 ≠ x7 then
            some (Stp.exit (Ou.ret false))
          else
            some (Stp.next (IntKind.wrap .i64 (a1 + 1)))
        else
          some (Stp.exit (Ou.go ()))) 0) (fun a9 =>
        some true) some

/-- groove/groovelaw46.DistanceGraphs -/
noncomputable def m_law46_DistanceGraphs (p0 : TLabelsStatesEdges) (p1 : Int) (p2 : Int) : Option (Bool) :=
  (m_law46_small p0 p1).bind fun x1 =>
  if (!x1) = true then
    (m_law46_awake).bind fun x3 =>
    some x3
  else
    (m_distance_Of p0 p1).bind fun x5 =>
    (m_ref46_Of p0 p1).bind fun x7 =>
    (m_distance_Greedy p0 p1 p2).bind fun x9 =>
    (m_ref46_Greedy p0 p1 p2).bind fun x11 =>
    jp (fun (a13 : Bool) =>
      some a13)
      fun k15 =>
      if x5.1 = x7.1 then
        if x5.2 = x7.2 then
          (m_slices_Equal_Lstring_string x9.1 x11.1).bind fun x16 =>
          if x16 = true then
            if x9.2 = x11.2 then
              (m_law46_awake).bind fun x18 =>
              k15 x18
            else
              k15 false
          else
            k15 false
        else
          k15 false
      else
        k15 false

/-- cmp.isNaN[string] -/
noncomputable def m_cmp_isNaN_string (p0 : List UInt8) : Option (Bool) :=
  some (decide (p0 ≠ p0))

/-- cmp.Less[string] -/
noncomputable def m_cmp_Less_string (p0 : List UInt8) (p1 : List UInt8) : Option (Bool) :=
  jp (fun (a1 : Bool) =>
    some a1)
    fun k3 =>
    (m_cmp_isNaN_string p0).bind fun x4 =>
    if x4 = true then
      (m_cmp_isNaN_string p1).bind fun x6 =>
      if (!x6) = true then
        k3 true
      else
        k3 (Op.bytesLess p0 p1)
    else
      k3 (Op.bytesLess p0 p1)

/-- slices.IsSorted[[]string,string] -/
noncomputable def m_slices_IsSorted_Lstring_string (p0 : List (List UInt8)) : Option (Bool) :=
  lpO (loopW (S := Int) (X := Ou (Unit) (Bool)) (fun a1 =>
      if 0 < a1 then
        (idx p0 a1).bind fun x5 =>
        (idx p0 (IntKind.wrap .i64 (a1 - 1))).bind fun x7 =>
        (m_cmp_Less_string x5 x7).bind fun x9 =>
        if x9 = true then
          some (Stp.exit (Ou.ret false))
        else
          some (Stp.next (IntKind.wrap .i64 (a1 - 1)))
      else
        some (Stp.exit (Ou.go ()))) (IntKind.wrap .i64 (((p0).length : Int) - 1))) (fun a11 =>
      some true) some

/-- slices.Index[[]string,string] -/
noncomputable def m_slices_Index_Lstring_string (p0 : List (List UInt8)) (p1 : List UInt8) : Option (Int) :=
  lpO (loopW (S := Int) (X := Ou (Unit) (Int)) (fun a1 =>
      if a1 < ((p0).length : Int) then
        (idx p0 a1).bind fun x5 =>
        if p1 = x5 then
          some (Stp.exit (Ou.ret a1))
        else
          some (Stp.next (IntKind.wrap .i64 (a1 + 1)))
      else
        some (Stp.exit (Ou.go ()))) 0) (fun a7 =>
      some (-1)) some

/-- slices.Contains[[]string,string] -/
noncomputable def m_slices_Contains_Lstring_string (p0 : List (List UInt8)) (p1 : List UInt8) : Option (Bool) :=
  (m_slices_Index_Lstring_string p0 p1).bind fun x1 =>
  some (decide (0 ≤ x1))

/-- groove/groovelaw46.DistanceGreedy -/
noncomputable def m_law46_DistanceGreedy (p0 : TLabelsStatesEdges) (p1 : Int) (p2 : Int) : Option (Bool) :=
  jp (fun (a1 : Bool) =>
    if a1 = true then
      (m_law46_awake).bind fun x4 =>
      some x4
    else
      (m_language_Words p0 (Int.tmod (IntKind.wrap .i64 p1) 6)).bind fun x6 =>
      (m_distance_Greedy p0 (Int.tmod (IntKind.wrap .i64 p1) 6) (IntKind.wrap .i64 (1 + (Int.tmod (IntKind.wrap .i64 p2) 5)))).bind fun x8 =>
      jp (fun (a10 : Bool) =>
        if a10 = true then
          some false
        else
          jp (fun (a13 : Bool) =>
            if a13 = true then
              some false
            else
              lpO (loopW (S := Int) (X := Ou (Unit) (Bool)) (fun a16 =>
                  if a16 < ((x8.1).length : Int) then
                    (idx x8.1 a16).bind fun x20 =>
                    (m_slices_Contains_Lstring_string x6.1 x20).bind fun x22 =>
                    if (!x22) = true then
                      some (Stp.exit (Ou.ret false))
                    else
                      some (Stp.next (IntKind.wrap .i64 (a16 + 1)))
                  else
                    some (Stp.exit (Ou.go ()))) 0) (fun a24 =>
                  lpO (loopW (S := Int) (X := Ou (Unit) (Bool)) (fun a26 =>
                      if a26 < ((x6.1).length : Int) then
                        jp (fun (a30 : Unit) =>
                          some (Stp.next (IntKind.wrap .i64 (a26 + 1))))
                          fun k32 =>
                          (idx x6.1 a26).bind fun x33 =>
                          (m_slices_Contains_Lstring_string x8.1 x33).bind fun x35 =>
                          if x35 = true then
                            k32 ()
                          else
                            (m_distance_Nearest x8.1 x33).bind fun x37 =>
                            jp (fun (a39 : Bool) =>
                              if a39 = true then
                                some (Stp.exit (Ou.ret false))
                              else
                                k32 ())
                              fun k41 =>
                              if x37.2.2 ≠ 0 then
                                k41 true
                              else
                                k41 (decide ((IntKind.wrap .i64 (1 + (Int.tmod (IntKind.wrap .i64 p2) 5))) ≤ x37.2.1))
                      else
                        some (Stp.exit (Ou.go ()))) 0) (fun a43 =>
                      (m_law46_awake).bind fun x45 =>
                      some x45) some) some)
            fun k15 =>
            (m_distance_Check x8.1 (IntKind.wrap .i64 (1 + (Int.tmod (IntKind.wrap .i64 p2) 5)))).bind fun x47 =>
            if x47 ≠ 0 then
              k15 true
            else
              (m_slices_IsSorted_Lstring_string x8.1).bind fun x49 =>
              k15 (!x49))
        fun k12 =>
        if x6.2 ≠ 0 then
          k12 true
        else
          k12 (decide (x8.2 ≠ 0)))
    fun k3 =>
    (m_law46_small p0 (Int.tmod (IntKind.wrap .i64 p1) 6)).bind fun x53 =>
    if (!x53) = true then
      k3 true
    else
      (m_ref09_Check p0).bind fun x55 =>
      if x55 ≠ 0 then
        k3 true
      else
        k3 (decide (3 < p0.1))

end Go.AW

namespace Go.AW
open Go Go.Proofs

def leastN (l : List (List UInt8)) : Int := (pairsL l).foldl min ((l.headD []).length : Int)

def leastE (l : List (List UInt8)) : Int × Int := if listedE l ≠ 0 then (0, listedE l) else if l.length < 2 then (0, 5) else (leastN l, 0)

theorem same_len {l : List (List UInt8)} (h : listedE l = 0) : ∀ u ∈ l, ∀ v ∈ l, u.length = v.length := by
  unfold listedE at h
  split at h
  · cases h
  · split at h
    · rename_i hw
      intro u hu v hv
      rw [hw u hu, hw v hv]
    · cases h
end Go.AW

namespace Go.AW
open Go Go.Proofs
set_option linter.unusedSimpArgs false

end Go.AW

namespace Go.AW
open Go

/-- a list without one element -/
def cutL (l : List (List UInt8)) (k : Nat) : List (List UInt8) := l.take k ++ l.drop (k + 1)

end Go.AW

/- What the functions of chapter 46 and its reference compute on lists of texts. -/
namespace Go.AW
open Go Go.Proofs
set_option linter.unusedSimpArgs false


theorem toNat_ne {a b : UInt8} : ((a.toNat : Int) ≠ (b.toNat : Int)) ↔ a ≠ b := by
  rw [ne_eq, ne_eq, Int.ofNat_inj, UInt8.toNat_inj]

theorem ref_hamming : m_ref46_hamming = m_distance_hamming := rfl
theorem ref_listed : m_ref46_checkList = m_distance_listed := rfl
theorem hamming_eq {u v : List UInt8} (hl : u.length ≤ v.length) (hm : u.length ≤ 9223372036854775807) : m_distance_hamming u v = some (ham u v : Int) := by
  unfold m_distance_hamming
  refine bindL (loop_is (fun i => ((ham (u.take i) (v.take i) : Int), (i : Int))) u.length (ham u v : Int) (fun i hi => ?_) ?_ (by simp [ham])) rfl
  · have hi2 : i < v.length := by omega
    dsimp only
    rw [if_pos (lt_int hi), ix hi, ix hi2]
    simp only [jp, Option.bind_some, nx hm hi, ham_take u v i hi hi2]
    have hle := ham_le (u.take i) (v.take i)
    rw [List.length_take] at hle
    by_cases he : u[i] = v[i]
    · rw [if_neg (by rw [toNat_ne]; exact fun h => h he), if_pos he]
      rfl
    · rw [if_pos (toNat_ne.2 he), if_neg he, w64 (by omega) (by omega)]
      rfl
  · dsimp only
    rw [if_neg (not_lt_int _), List.take_length, ham_take_left]

theorem listed_eq {l : List (List UInt8)} : m_distance_listed l = some (listedE l) := by
  unfold m_distance_listed listedE
  by_cases h4 : 4096 < l.length
  · rw [if_pos (by omega), if_pos h4]
  · rw [if_neg (by omega), if_neg h4]
    have hm : l.length ≤ 9223372036854775807 := by omega
    refine lpL (loop_any (fun i => (i : Int)) l.length (fun i => decide ((l.getD i []).length ≠ (l.headD []).length)) (Ou.ret 11) (Ou.go ()) (fun i hi => ?_) (by rw [if_neg (not_lt_int _)]) rfl) ?_
    · have h0 : 0 < l.length := by omega
      have hd : l.headD [] = l[0] := by cases l with
        | nil => simp at h0
        | cons x xs => rfl
      rw [if_pos (lt_int hi), ix hi, ix0 h0]
      simp only [Option.bind_some, nx hm hi, hd, getD_at hi, decide_eq_true_eq]
      by_cases he : l[i].length = l[0].length
      · rw [if_neg (by omega), if_neg (by omega)]
      · rw [if_pos (by omega), if_pos he]
    by_cases ha : ∀ w ∈ l, w.length = (l.headD []).length
    · rw [if_pos ha, if_neg]
      · rfl
      · intro hx
        obtain ⟨i, hi, hp⟩ := List.any_eq_true.1 hx
        have hi := List.mem_range.1 hi
        rw [getD_at hi] at hp
        exact (of_decide_eq_true hp) (ha _ (List.getElem_mem hi))
    · rw [if_neg ha, if_pos]
      · rfl
      · refine List.any_eq_true.2 ?_
        apply Classical.byContradiction
        intro hno
        refine ha fun w hw => ?_
        obtain ⟨i, hi, rfl⟩ := List.getElem_of_mem hw
        apply Classical.byContradiction
        intro hne
        exact hno ⟨i, List.mem_range.2 hi, by rw [getD_at hi]; exact decide_eq_true hne⟩

theorem uni_of {l : List (List UInt8)} (h : listedE l = 0) : uni l = true := by
  have := same_len h
  exact List.all_eq_true.2 fun u hu => List.all_eq_true.2 fun v hv => decide_eq_true (this u hu v hv)
theorem len_of {l : List (List UInt8)} (h : listedE l = 0) : l.length ≤ 4096 := by
  unfold listedE at h
  split at h
  · cases h
  · omega
theorem pairs_eq {l : List (List UInt8)} (h : listedE l = 0) : y_distance_pairs l = some (pairsL l) := by
  unfold y_distance_pairs
  have := len_of h
  rw [if_pos ⟨uni_of h, by omega⟩]

/-- a row of the pairs -/
theorem row_fold {A : Type} (l : List (List UInt8)) (f : A → Int → A) (i : Nat) (a : A) : (List.range i).foldl (fun a k => f a (ham (l.getD i []) (l.getD k []) : Int)) a = (prow l i).foldl f a := by
  rw [prow, List.foldl_map]
theorem pairs_fold {A : Type} (l : List (List UInt8)) (f : A → Int → A) (a : A) : (List.range l.length).foldl (fun a i => (prow l i).foldl f a) a = (pairsL l).foldl f a := by
  rw [pairsL, prows, List.foldl_flatMap]

theorem ham_eq {l : List (List UInt8)} (hl : ∀ u ∈ l, ∀ v ∈ l, u.length = v.length) (hb : ∀ u ∈ l, u.length ≤ 9223372036854775807) {i k : Nat} (hi : i < l.length) (hk : k < l.length) : m_distance_hamming l[i] l[k] = some (ham (l.getD i []) (l.getD k []) : Int) := by
  rw [hamming_eq (by rw [hl _ (List.getElem_mem hi) _ (List.getElem_mem hk)]; exact Nat.le_refl _) (hb _ (List.getElem_mem hi)), getD_at hi, getD_at hk]

theorem least_eq {l : List (List UInt8)} (hok : listedE l = 0) (h0 : 0 < l.length) : m_distance_least l = some (leastN l) := by
  unfold m_distance_least leastN
  have hd : l.headD [] = l[0] := by cases l with
    | nil => simp at h0
    | cons x xs => rfl
  rw [ix0 h0, pairs_eq hok, hd]
  simp only [Option.bind_some]
  rw [forL_fold (fun a x => min a x) (fun _ => True) _ _ (fun s x _ _ => ⟨rfl, trivial⟩) trivial]
  rfl

theorem Least_eq (l : List (List UInt8)) : m_distance_Least l = some (leastE l) := by
  unfold m_distance_Least leastE
  rw [listed_eq]
  simp only [Option.bind_some]
  by_cases h : listedE l = 0
  · have hn : ¬ (listedE l ≠ 0) := by omega
    rw [if_neg hn, if_neg hn]
    by_cases h2 : l.length < 2
    · have h3 : ((l.length : Int) < 2) := by omega
      rw [if_pos h3, if_pos h2]
    · have h3 : ¬ ((l.length : Int) < 2) := by omega
      rw [if_neg h3, if_neg h2, least_eq h (by omega)]
      rfl
  · rw [if_pos h, if_pos h]

theorem refLeast_eq (l : List (List UInt8)) (hb : ∀ u ∈ l, u.length ≤ 9223372036854775807) : m_ref46_Least l = some (leastE l) := by
  unfold m_ref46_Least leastE
  rw [ref_listed, listed_eq]
  simp only [Option.bind_some]
  by_cases h : listedE l = 0
  · have hn : ¬ (listedE l ≠ 0) := by omega
    rw [if_neg hn, if_neg hn]
    have hs := same_len h
    have hm := len_of h
    by_cases h2 : l.length < 2
    · have h3 : ((l.length : Int) < 2) := by omega
      rw [if_pos h3, if_pos h2]
    · have h3 : ¬ ((l.length : Int) < 2) := by omega
      rw [if_neg h3, if_neg h2]
      have h0 : 0 < l.length := by omega
      have hd : l.headD [] = l[0] := by cases l with
        | nil => simp at h0
        | cons x xs => rfl
      rw [ix0 h0]
      simp only [Option.bind_some]
      refine bindL (loop_fold (fun i (a : Int) => (a, (i : Int))) l.length (fun a i => (prow l i).foldl min a) id (fun _ => True) (fun _ _ _ _ => trivial) (fun i a hi _ => ?_) (fun a _ => ?_) ((l[0].length : Int)) trivial rfl) ?_
      · dsimp only
        rw [if_pos (lt_int hi)]
        refine bindL (loop_fold (fun k (a : Int) => (a, (k : Int))) i (fun a k => min a (ham (l.getD i []) (l.getD k []) : Int)) (fun a => (a, (i : Int))) (fun _ => True) (fun _ _ _ _ => trivial) (fun k a hk _ => ?_) (fun a _ => ?_) a trivial rfl) ?_
        · have hk' : k < l.length := by omega
          dsimp only
          rw [if_pos (lt_int hk), ix hi, ix hk']
          simp only [Option.bind_some, ref_hamming, ham_eq hs hb hi hk', nx (by omega : i ≤ _) hk]
        · dsimp only
          rw [if_neg (not_lt_int _)]
        · rw [row_fold l min i a]
          simp only [nx (by omega : l.length ≤ _) hi]
      · dsimp only
        rw [if_neg (not_lt_int _)]
        rfl
      · rw [pairs_fold l min, leastN, hd]
        rfl
  · rw [if_pos h, if_pos h]

/-- how often each distance occurs -/
def cntF (a : List Int) (d : Int) : List Int := a.set d.toNat (IntKind.wrap .i64 (a.getD d.toNat 0 + 1))
def specN (l : List (List UInt8)) : List Int := (pairsL l).foldl cntF (List.replicate ((l.headD []).length + 1) 0)
def specE (l : List (List UInt8)) : List Int × Int := if listedE l ≠ 0 then ([], listedE l) else if l.length = 0 then ([], 5) else (specN l, 0)

/-- the check of a distance -/
def checkE (l : List (List UInt8)) (d : Int) : Int := if listedE l ≠ 0 then listedE l else if (pairsL l).any (fun x => decide (x < d)) = true then 23 else 0

end Go.AW

namespace Go.AW
open Go Go.Proofs
set_option linter.unusedVariables false
/-- groove/groovelaw46.DistanceLists -/
noncomputable def m_law46_DistanceLists (p0 : List (List UInt8)) (p1 : List UInt8) (p2 : Int) : Option (Bool) :=
  jp (fun (a1 : Bool) =>
    if a1 = true then
      (m_law46_awake).bind fun x4 =>
      some x4
    else
      jp (fun (a6 : Unit) =>
        (m_distance_Least p0).bind fun x9 =>
        (m_ref46_Least p0).bind fun x11 =>
        (m_distance_Spectrum p0).bind fun x13 =>
        (m_ref46_Spectrum p0).bind fun x15 =>
        (m_distance_Nearest p0 p1).bind fun x17 =>
        (m_ref46_Nearest p0 p1).bind fun x19 =>
        jp (fun (a21 : Bool) =>
          some a21)
          fun k23 =>
          if x9.1 = x11.1 then
            if x9.2 = x11.2 then
              (m_slices_Equal_Lint_int x13.1 x15.1).bind fun x24 =>
              if x24 = true then
                if x13.2 = x15.2 then
                  if x17.1 = x19.1 then
                    if x17.2.1 = x19.2.1 then
                      if x17.2.2 = x19.2.2 then
                        (m_distance_Check p0 p2).bind fun x26 =>
                        (m_ref46_Check p0 p2).bind fun x28 =>
                        if x26 = x28 then
                          (m_law46_awake).bind fun x30 =>
                          k23 x30
                        else
                          k23 false
                      else
                        k23 false
                    else
                      k23 false
                  else
                    k23 false
                else
                  k23 false
              else
                k23 false
            else
              k23 false
          else
            k23 false)
        fun k8 =>
        if 0 < ((p0).length : Int) then
          (idx p0 0).bind fun x40 =>
          (m_distance_Hamming x40 p1).bind fun x42 =>
          (idx p0 0).bind fun x44 =>
          (m_ref46_Hamming x44 p1).bind fun x46 =>
          jp (fun (a48 : Bool) =>
            if a48 = true then
              some false
            else
              k8 ())
            fun k50 =>
            if x42.1 ≠ x46.1 then
              k50 true
            else
              k50 (decide (x42.2 ≠ x46.2))
        else
          k8 ())
    fun k3 =>
    (m_ref46_Great p0).bind fun x52 =>
    if x52 = true then
      k3 true
    else
      k3 (decide (20 < ((p1).length : Int)))

end Go.AW

/- The nearest text; the sizes; the law of lists. -/
namespace Go.AW
open Go Go.Proofs
set_option linter.unusedSimpArgs false

def nearF (l : List (List UInt8)) (w : List UInt8) (k i : Nat) : Nat := if ham (l.getD i []) w < ham (l.getD k []) w then i else k
def nearN (l : List (List UInt8)) (w : List UInt8) : Nat := (List.range l.length).foldl (nearF l w) 0
def nearE (l : List (List UInt8)) (w : List UInt8) : Int × Int × Int := if l.length = 0 then (0, 0, 5) else if (∃ u ∈ l, u.length ≠ w.length) then (0, 0, 11) else ((nearN l w : Int), (ham (l.getD (nearN l w) []) w : Int), 0)

def hamE (u v : List UInt8) : Int × Int := if u.length = v.length then ((ham u v : Int), 0) else (0, 11)
end Go.AW

/- The greedy codes; the laws of graphs of chapter 46. -/
namespace Go.AW
open Go Go.Proofs
set_option linter.unusedSimpArgs false
set_option linter.unusedVariables false

theorem ham_comm : ∀ (u v : List UInt8), ham u v = ham v u
  | [], [] => rfl
  | [], _ :: _ => rfl
  | _ :: _, [] => rfl
  | a :: u, b :: v => by
    simp only [ham, ham_comm u v]
    by_cases h : a = b
    · rw [if_pos h, if_pos h.symm]
    · rw [if_neg h, if_neg (fun e => h e.symm)]

/-- two lists of texts -/
theorem EqualS_eq {a b : List (List UInt8)} (hm : a.length ≤ 9223372036854775807) : m_slices_Equal_Lstring_string a b = some (decide (a = b)) := by
  unfold m_slices_Equal_Lstring_string
  by_cases hl : a.length = b.length
  · rw [if_neg (by omega)]
    refine lpL (loop_any (fun i => (i : Int)) a.length (fun i => decide (a.getD i [] ≠ b.getD i [])) (Ou.ret false) (Ou.go ()) (fun i hi => ?_) (by rw [if_neg (not_lt_int _)]) rfl) ?_
    · have hi' : i < b.length := by omega
      have e1 : a.getD i [] = a[i] := by simp [List.getD, hi]
      have e2 : b.getD i [] = b[i] := by simp [List.getD, hi']
      rw [if_pos (lt_int hi), ix hi, ix hi']
      simp only [Option.bind_some, nx hm hi, e1, e2, decide_eq_true_eq]
    · by_cases he : a = b
      · subst he
        rw [if_neg]
        · simp [lpO]
        · simp
      · rw [if_pos]
        · simp [lpO, he]
        · refine List.any_eq_true.2 ?_
          apply Classical.byContradiction
          intro hno
          refine he (List.ext_getElem hl fun i h1 h2 => ?_)
          apply Classical.byContradiction
          intro hne
          refine hno ⟨i, List.mem_range.2 h1, decide_eq_true ?_⟩
          rwa [show a.getD i [] = a[i] by simp [List.getD, h1], show b.getD i [] = b[i] by simp [List.getD, h2]]
  · rw [if_pos (by omega)]
    have : a ≠ b := fun e => hl (by rw [e])
    simp [this]

/-! ### the greedy list -/
def greedyF (d : Int) (acc : List (List UInt8)) (w : List UInt8) : List (List UInt8) := if acc.all (fun u => decide (d ≤ (ham u w : Int))) = true then acc ++ [w] else acc
def greedyN (d : Int) (l : List (List UInt8)) : List (List UInt8) := l.foldl (greedyF d) []

theorem greedy_sub (d : Int) : ∀ (l acc : List (List UInt8)), ∃ m, l.foldl (greedyF d) acc = acc ++ m ∧ m.Sublist l
  | [], acc => ⟨[], by simp, List.Sublist.refl _⟩
  | w :: l, acc => by
    obtain ⟨m, h1, h2⟩ := greedy_sub d l (greedyF d acc w)
    rw [List.foldl_cons, h1]
    unfold greedyF
    split
    · exact ⟨w :: m, by simp, h2.cons_cons w⟩
    · exact ⟨m, rfl, h2.cons w⟩
theorem greedyN_sub (d : Int) (l : List (List UInt8)) : (greedyN d l).Sublist l := by
  obtain ⟨m, h1, h2⟩ := greedy_sub d l []
  unfold greedyN
  rw [h1, List.nil_append]; exact h2
theorem greedy_take (d : Int) {l : List (List UInt8)} {i : Nat} (h : i < l.length) : greedyN d (l.take (i + 1)) = greedyF d (greedyN d (l.take i)) l[i] := by
  unfold greedyN
  rw [List.take_add_one, List.getElem?_eq_getElem h, List.foldl_append]
  rfl
theorem take_all {α : Type} {l : List α} {p : α → Bool} {k : Nat} (h : k < l.length) : (l.take (k + 1)).all p = ((l.take k).all p && p l[k]) := by
  rw [List.take_add_one, List.getElem?_eq_getElem h, List.all_append]
  simp

theorem greedy_prog {l : List (List UInt8)} {d : Int} (hl : ∀ u ∈ l, ∀ v ∈ l, u.length = v.length) (hb : ∀ u ∈ l, u.length ≤ 9223372036854775807) (hm : l.length ≤ 4096) :
    loopW (S := Int × (List (List UInt8))) (X := (List (List UInt8))) (fun a6 =>
            if a6.1 < ((l).length : Int) then
              jp (fun (a10 : (List (List UInt8))) =>
                some (Stp.next (IntKind.wrap .i64 (a6.1 + 1), a10)))
                fun k12 =>
                (idx l a6.1).bind fun x13 =>
                (loopW (S := Bool × Int) (X := Bool) (fun a15 =>
                    if a15.2 < (((a6.2).length : Nat) : Int) then
                      jp (fun (a19 : Bool) =>
                        some (Stp.next (a19, IntKind.wrap .i64 (a15.2 + 1))))
                        fun k21 =>
                        (idx a6.2 a15.2).bind fun x22 =>
                        (idx a6.2 a15.2).bind fun x24 =>
                        if a15.1 = true then
                          (m_distance_hamming x24 x13).bind fun x26 =>
                          k21 (decide (d ≤ x26))
                        else
                          k21 false
                    else
                      some (Stp.exit a15.1)) (true, 0)).bind fun a29 =>
                if a29 = true then
                  if fits 16 ((a6.2 : List (List UInt8)).length + ([x13]).length) then
                    k12 (a6.2 ++ [x13])
                  else none
                else
                  k12 a6.2
            else
              some (Stp.exit a6.2)) (0, ([] : List (List UInt8))) = some (greedyN d l) := by
  refine loop_is (fun i => ((i : Int), greedyN d (l.take i))) l.length (greedyN d l) (fun i hi => ?_) ?_ (by simp [greedyN])
  · dsimp only
    have hsub := greedyN_sub d (l.take i)
    have hmem : ∀ u ∈ greedyN d (l.take i), u ∈ l := fun u hu => List.mem_of_mem_take (hsub.subset hu)
    have hlen := hsub.length_le
    have hlen2 : (l.take i).length ≤ i := by rw [List.length_take]; omega
    rw [if_pos (lt_int hi), ix hi]
    simp only [jp, Option.bind_some]
    refine bindL (loop_is (fun k => (((greedyN d (l.take i)).take k).all (fun u => decide (d ≤ (ham u l[i] : Int))), (k : Int))) (greedyN d (l.take i)).length ((greedyN d (l.take i)).all (fun u => decide (d ≤ (ham u l[i] : Int)))) (fun k hk => ?_) ?_ (by simp)) ?_
    · dsimp only
      have hum := hmem _ (List.getElem_mem hk)
      rw [if_pos (lt_int hk), ix hk]
      simp only [Option.bind_some, hamming_eq (u := (greedyN d (l.take i))[k]) (v := l[i]) (by rw [hl _ hum _ (List.getElem_mem hi)]; exact Nat.le_refl _) (hb _ hum), nx (by omega : (greedyN d (l.take i)).length ≤ _) hk, take_all hk]
      cases ((greedyN d (l.take i)).take k).all (fun u => decide (d ≤ (ham u l[i] : Int))) <;> rfl
    · dsimp only
      rw [if_neg (not_lt_int _), List.take_length]
    · rw [greedy_take d hi]
      unfold greedyF
      by_cases ha : (greedyN d (l.take i)).all (fun u => decide (d ≤ (ham u l[i] : Int))) = true
      · rw [if_pos ha, if_pos ha, if_pos (fits_le (by simp only [List.length_cons, List.length_nil]; omega) (by simp only [List.length_cons, List.length_nil]; omega)), nx (by omega : l.length ≤ _) hi]
      · rw [if_neg ha, if_neg ha, nx (by omega : l.length ≤ _) hi]
  · dsimp only
    rw [if_neg (not_lt_int _), List.take_length]

theorem greedy_ref {l : List (List UInt8)} {d : Int} (hl : ∀ u ∈ l, ∀ v ∈ l, u.length = v.length) (hb : ∀ u ∈ l, u.length ≤ 9223372036854775807) (hm : l.length ≤ 4096) :
    loopW (S := Int × (List (List UInt8))) (X := (List (List UInt8))) (fun a9 =>
            if a9.1 < ((l).length : Int) then
              jp (fun (a13 : (List (List UInt8))) =>
                some (Stp.next (IntKind.wrap .i64 (a9.1 + 1), a13)))
                fun k15 =>
                (loopW (S := Bool × Int) (X := Bool) (fun a16 =>
                    if a16.2 < (((a9.2).length : Nat) : Int) then
                      jp (fun (a20 : Bool) =>
                        some (Stp.next (a20, IntKind.wrap .i64 (a16.2 + 1))))
                        fun k22 =>
                        if a16.1 = true then
                          (idx l a9.1).bind fun x23 =>
                          (idx a9.2 a16.2).bind fun x25 =>
                          (idx a9.2 a16.2).bind fun x27 =>
                          (m_ref46_hamming x23 x27).bind fun x29 =>
                          k22 (decide (d ≤ x29))
                        else
                          k22 false
                    else
                      some (Stp.exit a16.1)) (true, 0)).bind fun a32 =>
                if a32 = true then
                  (idx l a9.1).bind fun x34 =>
                  if fits 16 ((a9.2 : List (List UInt8)).length + ([x34]).length) then
                    k15 (a9.2 ++ [x34])
                  else none
                else
                  k15 a9.2
            else
              some (Stp.exit a9.2)) (0, []) = some (greedyN d l) := by
  refine loop_is (fun i => ((i : Int), greedyN d (l.take i))) l.length (greedyN d l) (fun i hi => ?_) ?_ (by simp [greedyN])
  · dsimp only
    have hsub := greedyN_sub d (l.take i)
    have hmem : ∀ u ∈ greedyN d (l.take i), u ∈ l := fun u hu => List.mem_of_mem_take (hsub.subset hu)
    have hlen := hsub.length_le
    have hlen2 : (l.take i).length ≤ i := by rw [List.length_take]; omega
    rw [if_pos (lt_int hi), ix hi]
    simp only [jp, Option.bind_some]
    refine bindL (loop_is (fun k => (((greedyN d (l.take i)).take k).all (fun u => decide (d ≤ (ham u l[i] : Int))), (k : Int))) (greedyN d (l.take i)).length ((greedyN d (l.take i)).all (fun u => decide (d ≤ (ham u l[i] : Int)))) (fun k hk => ?_) ?_ (by simp)) ?_
    · dsimp only
      have hum := hmem _ (List.getElem_mem hk)
      rw [if_pos (lt_int hk), ix hk]
      simp only [Option.bind_some, ref_hamming, hamming_eq (u := l[i]) (v := (greedyN d (l.take i))[k]) (by rw [hl _ (List.getElem_mem hi) _ hum]; exact Nat.le_refl _) (hb _ (List.getElem_mem hi)), nx (by omega : (greedyN d (l.take i)).length ≤ _) hk, take_all hk, ham_comm l[i]]
      cases ((greedyN d (l.take i)).take k).all (fun u => decide (d ≤ (ham u l[i] : Int))) <;> rfl
    · dsimp only
      rw [if_neg (not_lt_int _), List.take_length]
    · rw [greedy_take d hi]
      unfold greedyF
      by_cases ha : (greedyN d (l.take i)).all (fun u => decide (d ≤ (ham u l[i] : Int))) = true
      · rw [if_pos ha, if_pos ha, if_pos (fits_le (by simp only [List.length_cons, List.length_nil]; omega) (by simp only [List.length_cons, List.length_nil]; omega)), nx (by omega : l.length ≤ _) hi]
      · rw [if_neg ha, if_neg ha, nx (by omega : l.length ≤ _) hi]
  · dsimp only
    rw [if_neg (not_lt_int _), List.take_length]

/-! ### the words of a graph, at most 512 -/
theorem wordsE_len {g : Gr} {n : Int} {u : List UInt8} (h : u ∈ wordsE g n) : u.length = n.toNat := by
  obtain ⟨x, hx, rfl⟩ := List.mem_map.1 h
  exact LV_len hx

theorem words_both (g : Gr) (n : Int) : ∃ r, m_distance_words g n = some r ∧ m_ref46_words g n = some r ∧ (r.2 = 0 → (VG g ∧ g.1 ≤ 16 ∧ 0 ≤ n ∧ n ≤ 4096) ∧ r.1 = wordsE g n ∧ (wordsE g n).length ≤ 512) ∧
    (VG g → g.1 ≤ 16 → 0 ≤ n → n ≤ 4096 → OKL g (upto g.2.1) n.toNat = true → (wordsE g n).length ≤ 512 → r.2 = 0) := by
  obtain ⟨r, h1, h2, h3, h4⟩ := Words_both g n
  unfold m_distance_words m_ref46_words
  rw [h1, h2]
  simp only [Option.bind_some]
  by_cases h0 : r.2 = 0
  · have hn : ¬ r.2 ≠ 0 := by omega
    simp only [if_neg hn]
    obtain ⟨⟨a1, a2, a3, a4, a5⟩, a6⟩ := h3 h0
    by_cases hl : 512 < r.1.length
    · have : 512 < (r.1.length : Int) := by omega
      simp only [if_pos this]
      refine ⟨_, rfl, rfl, fun h => (by cases h), fun _ _ _ _ _ h => ?_⟩
      rw [← a6] at h; omega
    · have : ¬ 512 < (r.1.length : Int) := by omega
      simp only [if_neg this]
      exact ⟨_, rfl, rfl, fun _ => ⟨⟨a1, a2, a3, a4⟩, a6, by rw [← a6]; omega⟩, fun _ _ _ _ _ _ => rfl⟩
  · simp only [if_pos h0]
    exact ⟨_, rfl, rfl, fun h => absurd h h0, fun b1 b2 b3 b4 b5 _ => absurd (h4 b1 b2 b3 b4 b5) h0⟩

theorem Of_both (g : Gr) (n : Int) : ∃ r, m_distance_Of g n = some r ∧ m_ref46_Of g n = some r := by
  obtain ⟨r, h1, h2, h3, h4⟩ := words_both g n
  unfold m_distance_Of m_ref46_Of
  rw [h1, h2]
  simp only [Option.bind_some]
  by_cases h0 : r.2 = 0
  · have hn : ¬ r.2 ≠ 0 := by omega
    simp only [if_neg hn]
    obtain ⟨⟨a1, a2, a3, a4⟩, a6, a7⟩ := h3 h0
    rw [a6, Least_eq, refLeast_eq _ (fun u hu => by rw [wordsE_len hu]; omega)]
    exact ⟨_, rfl, rfl⟩
  · simp only [if_pos h0]
    exact ⟨_, rfl, rfl⟩

theorem Greedy_both (g : Gr) (n d : Int) : ∃ r, m_distance_Greedy g n d = some r ∧ m_ref46_Greedy g n d = some r ∧ r.1.length ≤ 512 ∧
    (1 ≤ d → d ≤ 65536 → VG g → g.1 ≤ 16 → 0 ≤ n → n ≤ 4096 → OKL g (upto g.2.1) n.toNat = true → (wordsE g n).length ≤ 512 → r = (greedyN d (wordsE g n), 0)) := by
  obtain ⟨r, h1, h2, h3, h4⟩ := words_both g n
  unfold m_distance_Greedy m_ref46_Greedy
  rw [h1, h2]
  simp only [jp, Option.bind_some]
  by_cases d1 : d < 1
  · exact ⟨([], 2), by simp [d1], by simp [d1], by simp, fun h => by omega⟩
  by_cases d2 : 65536 < d
  · exact ⟨([], 2), by simp [d1, d2], by simp [d1, d2], by simp, fun _ h => by omega⟩
  simp only [d1, d2, if_false, decide_false, Bool.false_eq_true]
  by_cases h0 : r.2 = 0
  · have hn : ¬ r.2 ≠ 0 := by omega
    simp only [if_neg hn]
    obtain ⟨⟨a1, a2, a3, a4⟩, a6, a7⟩ := h3 h0
    rw [a6]
    have hl : ∀ u ∈ wordsE g n, ∀ v ∈ wordsE g n, u.length = v.length := fun u hu v hv => by rw [wordsE_len hu, wordsE_len hv]
    have hb : ∀ u ∈ wordsE g n, u.length ≤ 9223372036854775807 := fun u hu => by rw [wordsE_len hu]; omega
    have e1 := greedy_prog (d := d) hl hb (by omega)
    have e2 := greedy_ref (d := d) hl hb (by omega)
    simp only [jp] at e1 e2
    refine ⟨(greedyN d (wordsE g n), 0), bindL e1 rfl, bindL e2 rfl, Nat.le_trans (greedyN_sub d _).length_le a7, fun _ _ _ _ _ _ _ _ => rfl⟩
  · simp only [if_pos h0]
    exact ⟨_, rfl, rfl, by simp, fun _ _ b1 b2 b3 b4 b5 b6 => absurd (h4 b1 b2 b3 b4 b5 b6) h0⟩

theorem small_tot (g : Gr) (n : Int) : ∃ b, m_law46_small g n = some b := by
  unfold m_law46_small m_ref10_Great
  simp only [jp]
  repeat' split
  all_goals first | exact ⟨_, rfl⟩ | (simp only [Option.bind_some]; repeat' split) 
  all_goals first | exact ⟨_, rfl⟩

theorem law_graphs (g : Gr) (n d : Int) : m_law46_DistanceGraphs g n d = some true := by
  obtain ⟨b, hb⟩ := small_tot g n
  unfold m_law46_DistanceGraphs
  obtain ⟨r, h1, h2⟩ := Of_both g n
  obtain ⟨q, k1, k2, k3, _⟩ := Greedy_both g n d
  simp only [jp, hb, h1, h2, k1, k2, Option.bind_some, m_law46_awake, EqualS_eq (show q.1.length ≤ 9223372036854775807 by omega), decide_true, if_true]
  split <;> rfl
end Go.AW

namespace Go.Proofs
open Go

def Try.delS_ren : Go.Shelf.Ren := ⟨fun | 45 => 24 | n => n, fun | 22 => 30 | 23 => 9 | 3 => 3 | 4 => 4 | 0 => 0 | n => n, fun | n => n⟩
theorem Try.delS : Go.Proofs.SlLaysE.n45 Try.prog Try.delS_ren where
  mixed := by kernel_rfl
  f45 := ⟨"slices.Delete[[]string,string]", by decide, Try.func24.trans (congrArg some (by kernel_rfl))⟩
  t0 := Try.underlying0
  a0 := Try.isAgg0
  z0 := Try.sizeOf0
  v0 := Try.zeroValue0
  t3 := Try.underlying3
  a3 := Try.isAgg3
  z3 := Try.sizeOf3
  v3 := Try.zeroValue3
  t4 := Try.underlying4
  a4 := Try.isAgg4
  z4 := Try.sizeOf4
  v4 := Try.zeroValue4
  t22 := Try.underlying30
  a22 := Try.isAgg30
  z22 := Try.sizeOf30
  v22 := Try.zeroValue30
  a23 := Try.isAgg9
  z23 := Try.sizeOf9
def Try.cloneS_ren : Go.Shelf.Ren := ⟨fun | 41 => 25 | n => n, fun | 22 => 30 | 23 => 9 | 4 => 4 | n => n, fun | n => n⟩
end Go.Proofs

namespace Go.AW
open Go Go.Proofs Go.Sort Go.Lib

/-- a row of cells is written anew -/
theorem put_world {α : Type} [Inhabited α] {enc : α → Value} {f : α → HV} (hf1 : ∀ x, (f x).one = true) {w : World} {μ : Mu} {H : Heap} {id ver b k : Nat} {e : TypeId} {l d : List α} (hs : SR w μ H) (hg : hget H id = some (ver, .arr k e (l.map f)))
    (hl : μ.loc id = some (ver, some b)) (hrep : ∀ x ∈ d, Rep w μ (f x) (enc x)) (hor : OR w μ (.arr k e (l.map f)) (some b)) (hv : ∀ vs, RepL w μ (l.map f) vs → vs = l.map enc) (hlen : d.length = l.length) (n : Nat) :
    SR (putRow enc (Sort.ahead w n) b 0 d.toArray) μ (hset H id ver (.arr k e (d.map f))) ∧ Evo w μ (putRow enc (Sort.ahead w n) b 0 d.toArray) μ := by
  obtain ⟨h0, cur, vs, rest, hrow, hcl, hrl⟩ := hor
  have hvs := hv vs hrl
  subst hvs
  have hcsz : cur.size = l.length + rest.length := by rw [← Array.length_toList, hcl]; simp
  obtain ⟨lo, hi, hbk, hfr⟩ := hrow
  have hbk' : (putRow enc (Sort.ahead w n) b 0 d.toArray).heap[b]? = some (.cells (putCells enc 0 d.toArray cur) e (lo, hi)) := by
    show (w.heap.modify b _)[b]? = _
    rw [Array.getElem?_modify, if_pos rfl, hbk]
    rfl
  have hcur' : (putCells enc 0 d.toArray cur).toList = d.map enc ++ rest := by
    apply List.ext_getElem?
    intro i
    rw [Array.getElem?_toList]
    simp only [putCells, Array.getElem?_mapIdx]
    have hc : cur[i]? = (l.map enc ++ rest)[i]? := by rw [← hcl, Array.getElem?_toList]
    rw [hc]
    rcases Nat.lt_or_ge i d.length with hi | hi
    · rw [List.getElem?_append_left (by simp; omega), List.getElem?_append_left (by simpa using hi), List.getElem?_map, List.getElem?_map, List.getElem?_eq_getElem (by omega : i < l.length), List.getElem?_eq_getElem hi]
      simp only [Option.map_some]
      rw [if_pos ⟨Nat.zero_le _, by simpa using hi⟩]
      simp [hi]
    · rw [List.getElem?_append_right (by simp; omega), List.getElem?_append_right (by simpa using hi)]
      simp only [List.length_map, hlen]
      cases rest[i - l.length]? with
      | none => rfl
      | some x =>
        simp only [Option.map_some]
        rw [if_neg (by simp; omega)]
  have hsz1 : (putRow enc (Sort.ahead w n) b 0 d.toArray).heap.size = w.heap.size := by rw [size_putRow]; rfl
  have hrow1 : Row (putRow enc (Sort.ahead w n) b 0 d.toArray) b (putCells enc 0 d.toArray cur) e := ⟨lo, hi, hbk', by simpa [putCells] using hfr⟩
  have hold : ∀ b', b' ≠ b → (putRow enc (Sort.ahead w n) b 0 d.toArray).heap[b']? = w.heap[b']? := fun b' hne => by
    show (w.heap.modify b _)[b']? = _
    rw [Array.getElem?_modify, if_neg (fun e => hne e.symm)]
  exact hs.updArr (cs' := d.map f) (w' := putRow enc (Sort.ahead w n) b 0 d.toArray) hg hl ⟨rfl, rfl, rfl⟩ hsz1 hold ⟨lo, hi, hbk, hfr⟩ hrow1 (by simp [putCells]) fun E => by
    refine ⟨fun c hc => ?_, _, d.map enc, rest, hrow1, hcur', repL_map.2 fun x hx => Rep.evo E hs.ok _ _ (hrep x hx)⟩
    obtain ⟨x, _, rfl⟩ := List.mem_map.1 hc
    exact hf1 x

/-- slices.Delete of texts, in place -/
theorem w24 {H : Heap} {id ver i j : Nat} {e : TypeId} {l : List (List UInt8)} {K : HV → Heap → Prop} (hg : hget H id = some (ver, .arr 1 e (l.map .str))) (hij : i ≤ j) (hj : j ≤ l.length) (hl0 : l ≠ [])
    (hK : K (.ar id ver 1 0 (l.length - (j - i))) (hset H id ver (.arr 1 e ((l.take i ++ l.drop j ++ List.replicate (j - i) []).map .str)))) : ACall Try.prog 24 [.ar id ver 1 0 l.length, num i, num j] H K := by
  refine ⟨enters' Try.func24 rfl rfl, fun μ w vs hs hr => ?_⟩
  obtain ⟨x, xs, rfl, hr, y, ys, rfl, ⟨rfl, _⟩, z, zs, rfl, ⟨rfl, _⟩, hn⟩ := hr
  cases hn
  obtain ⟨lo, hl, hor⟩ := hs.has _ _ _ hg
  rcases hr with ⟨lo', hl', h⟩ | ⟨hd, _⟩
  · rw [hl] at hl'
    cases hl'
    rcases h with ⟨rfl, rfl, h0, _⟩ | ⟨b, cap, cur, e', rfl, rfl, hcap, hcm, hrow, hsz⟩
    · exact absurd (List.eq_nil_of_length_eq_zero h0) hl0
    · have hor' := hor
      obtain ⟨h0, cur', vs', rest, hrow', hcl, hrl⟩ := hor
      obtain ⟨hvs, hreps⟩ := repL_strs hrl
      subst hvs
      obtain ⟨_, i0, hi0, hz1, _⟩ := ty_spec ty9
      refine (AnyE.slices_Delete Try.delS encStr (fun _ => rfl) ([] : List UInt8) (fun w => Try.zeroValue9 w) i0 hi0 hz1 b 0 cap i j l.toArray w (holds_row hrow' hcl) (by simpa using hcap) hcm hij (by simpa using hj)).mono ?_
      · rintro e2 w' ⟨rfl, n, rfl⟩
        have hlen : (l.take i ++ l.drop j ++ List.replicate (j - i) ([] : List UInt8)).length = l.length := by simp; omega
        obtain ⟨h1, h2⟩ := put_world (f := HV.str) (fun _ => rfl) hs hg hl (d := l.take i ++ l.drop j ++ List.replicate (j - i) []) (fun x hx => by
          rcases List.mem_append.1 hx with hx | hx
          · rcases List.mem_append.1 hx with hx | hx
            · exact hreps x (List.mem_of_mem_take hx)
            · exact hreps x (List.mem_of_mem_drop hx)
          · rw [List.eq_of_mem_replicate hx]; exact ⟨rfl, Nat.zero_le _⟩) hor' (fun vs hv => (repL_strs hv).1) hlen n
        refine ⟨_, .ar id ver 1 0 (l.length - (j - i)), _, μ, rfl, hK, h1, .inl ⟨some b, hl, .inr ⟨b, cap, putCells encStr 0 (l.take i ++ l.drop j ++ List.replicate (j - i) []).toArray cur, e', rfl, by simp, by omega, hcm, ?_, ?_⟩⟩, h2⟩
        · obtain ⟨lo, hi, hbk, hfr⟩ := hrow
          refine ⟨lo, hi, ?_, by simpa [putCells] using hfr⟩
          show (w.heap.modify b _)[b]? = _
          rw [Array.getElem?_modify, if_pos rfl, hbk]
          rfl
        · simp only [putCells, Array.size_mapIdx]; exact hsz
  · exact absurd hl (hd.2 lo)

end Go.AW

namespace Go.Proofs
open Go
def Try.compI_ren : Go.Shelf.Ren := ⟨fun | 20 => 180 | n => n, fun | 22 => 42 | 3 => 3 | 4 => 4 | 0 => 0 | n => n, fun | n => n⟩
theorem Try.compI : Go.Proofs.Lays2.n20 Try.prog Try.compI_ren where
  mixed := by kernel_rfl
  f20 := Try.func180.trans (congrArg some (by kernel_rfl))
  t0 := Try.underlying0
  a0 := Try.isAgg0
  z0 := Try.sizeOf0
  v0 := Try.zeroValue0
  t3 := Try.underlying3
  a3 := Try.isAgg3
  z3 := Try.sizeOf3
  v3 := Try.zeroValue3
  t4 := Try.underlying4
  a4 := Try.isAgg4
  z4 := Try.sizeOf4
  v4 := Try.zeroValue4
  t22 := Try.underlying42
  a22 := Try.isAgg42
  z22 := Try.sizeOf42
  v22 := Try.zeroValue42
  i3 := by kernel_rfl
end Go.Proofs
namespace Go.AW
open Go Go.Proofs Go.Sort Go.Lib
set_option linter.unusedVariables false

theorem c_sortI : SortsI Try.prog 179 := sorts179
theorem w180 {H : Heap} {id ver : Nat} {e : TypeId} {l : List Int} {K : HV → Heap → Prop} (hg : hget H id = some (ver, .arr 1 e (l.map (.int .i64))))
    (hK : K (.ar id ver 1 0 (compact_ l).length) (hset H id ver (.arr 1 e ((compact_ l ++ List.replicate (l.length - (compact_ l).length) 0).map (.int .i64))))) : ACall Try.prog 180 [.ar id ver 1 0 l.length] H K := by
  refine ⟨enters' Try.func180 rfl rfl, fun μ w vs hs hr => ?_⟩
  obtain ⟨x, xs, rfl, hr, hn⟩ := hr
  cases hn
  obtain ⟨lo, hl, hor⟩ := hs.has _ _ _ hg
  rcases hr with ⟨lo', hl', h⟩ | ⟨hd, _⟩
  · rw [hl] at hl'
    cases hl'
    rcases h with ⟨rfl, rfl, h0, _⟩ | ⟨b, cap, cur, e', rfl, rfl, hcap, hcm, hrow, hsz⟩
    · have hl0 := List.eq_nil_of_length_eq_zero h0
      subst hl0
      refine (Any.slices_Compact_int_empty Try.compI none 0 w).mono ?_
      rintro e2 w' ⟨rfl, rfl⟩
      refine ⟨_, .ar id ver 1 0 0, _, μ, rfl, hK, hs.reobj hg fun l hl hor => hor, .inl ⟨none, hl, .inl ⟨rfl, rfl, rfl, rfl⟩⟩, Evo.refl _ _⟩
    · have hor' := hor
      obtain ⟨h0, cur', vs', rest, hrow', hcl, hrl⟩ := hor
      obtain ⟨hvs, hreps⟩ := repL_ints hrl
      subst hvs
      refine (Any.slices_Compact_int Try.compI b 0 cap l w (holds_row hrow' hcl) (by have := hcm; simp only [maxLen] at this; omega) hcap).mono ?_
      · rintro e2 w' ⟨rfl, n, rfl⟩
        have hle := compact_le l
        have hlen : (compact_ l ++ List.replicate (l.length - (compact_ l).length) (0 : Int)).length = l.length := by simp; omega
        obtain ⟨h1, h2⟩ := put_world (f := HV.int .i64) (fun _ => rfl) hs hg hl (d := compact_ l ++ List.replicate (l.length - (compact_ l).length) 0) (fun x hx => by
          rcases List.mem_append.1 hx with hx | hx
          · exact hreps x (compact_mem hx)
          · rw [List.eq_of_mem_replicate hx]; exact ⟨rfl, rfl⟩) hor' (fun vs hv => (repL_ints hv).1) hlen n
        refine ⟨_, .ar id ver 1 0 (compact_ l).length, _, μ, rfl, hK, h1, .inl ⟨some b, hl, .inr ⟨b, cap, putCells (Value.int .i64) 0 (compact_ l ++ List.replicate (l.length - (compact_ l).length) 0).toArray cur, e', rfl, by simp, by omega, hcm, ?_, ?_⟩⟩, h2⟩
        · obtain ⟨lo, hi, hbk, hfr⟩ := hrow
          refine ⟨lo, hi, ?_, by simpa [putCells] using hfr⟩
          show (w.heap.modify b _)[b]? = _
          rw [Array.getElem?_modify, if_pos rfl, hbk]
          rfl
        · simp only [putCells, Array.size_mapIdx]; exact hsz
  · exact absurd hl (hd.2 lo)

/-- compaction of a list that nobody else holds -/
theorem c_compactI {H H' : Heap} {id ver n : Nat} {e : TypeId} {l : List Int} {K : HV → Heap → Prop} (hn : n = l.length) (hg : hget H id = some (ver, .arr 1 e (l.map (.int .i64)))) (hle : ∀ j x, hget H' j = some x → hget H j = some x) (hno : hget H' id = none)
    (hK : K (slE eInt (compact_ l)) H') : ACall Try.prog 180 [.ar id ver 1 0 n] H K := by
  subst hn
  have hlen := compact_le l
  refine ACall.freeze 2 [(id, ver, .arr 1 e ((compact_ l ++ List.replicate (l.length - (compact_ l).length) 0).map (.int .i64)))] H' (w180 hg ⟨fun j x hx => ?_, fun j x hx => ?_, ?_⟩)
  · rw [hget_hset, if_neg (fun e => by rw [e, hno] at hx; cases hx)]
    exact hle j x hx
  · simp only [hget] at hx
    split at hx
    · rename_i e
      subst e
      cases hx
      exact ⟨by rw [hget_hset, if_pos rfl], hno⟩
    · cases hx
  · have : frz 2 [(id, ver, .arr 1 e ((compact_ l ++ List.replicate (l.length - (compact_ l).length) 0).map (.int .i64)))] (.ar id ver 1 0 (compact_ l).length) = slE eInt (compact_ l) := by
      have h0 : hget [(id, ver, AObj.arr 1 e ((compact_ l ++ List.replicate (l.length - (compact_ l).length) 0).map (.int .i64)))] id = some (ver, .arr 1 e ((compact_ l ++ List.replicate (l.length - (compact_ l).length) 0).map (.int .i64))) := by simp only [hget, if_true]
      rw [frz, h0]
      have h1 : ver = ver ∧ 0 + (compact_ l).length * 1 ≤ ((compact_ l ++ List.replicate (l.length - (compact_ l).length) (0 : Int)).map (HV.int .i64)).length := ⟨rfl, by simp⟩
      refine (if_pos h1).trans ?_
      rw [List.drop_zero, Nat.mul_one, List.map_append, List.take_left' (List.length_map _), List.map_map]
      rfl
    rw [this]
    exact hK

/-- strings.IndexByte -/
theorem w_strings_IndexByte {l : List UInt8} {c r : Int} (h : m_strings_IndexByte l c = some r) : Pure Try.prog 51 [HV.str l, HV.int .u8 c] (· = HV.int .i64 r) := by
  cases h
  exact w51 l c
end Go.AW

/- The iterators of graphs: leaving. -/
namespace Go.AW
open Go Go.Proofs
set_option linter.unusedVariables false
theorem le_slH {l l' : List (Nat × HV)} {H : Heap} (h : leS l l') : (⟨l, H⟩ : AS).le ⟨l', H⟩ := ⟨leS_get h, fun _ _ h => h⟩
set_option maxRecDepth 100000 in
theorem iy_graph_leaving {g : TLabelsStatesEdges} {s : Int} {L : List (Int × TFromLabelTo)} (h : y_graph_leaving g s = some L) : Yields Try.prog 186 [] [HV.fptr [HV.int .i64 g.1, HV.int .i64 g.2.1, slE eFromLabelTo g.2.2] 0, HV.fptr [HV.int .i64 s] 0] (L.map fun x => [HV.int .i64 x.1, HV.agg [HV.int .i64 x.2.1, HV.int .i64 x.2.2.1, HV.int .i64 x.2.2.2]]) := by
  unfold y_graph_leaving at h
  split at h
  · rename_i hm
    cases h
    obtain ⟨gl, gs, es⟩ := g
    dsimp only at hm ⊢
    intro id ver H J Stop K hmn h0 hstep hdone hstop
    refine ACall.of_body Try.func186 rfl rfl (Nat.le_of_ble_eq_true rfl) ?_
    unfold Try.f186
    dsimp only [enumS, Nat.reduceAdd]
    refine AW.rgs rfl fun K1 hK => ?_
    refine bv rfl (v_fieldAddrF fo24_2 rfl) ?_
    refine bv rfl (v_loadF ty22 rfl (l_lit rfl rfl)) ?_
    refine bv rfl (v_lenF rfl rfl ty22 rfl) ?_
    refine mv rfl rfl ?_
    refine b_nil (hK _ (AW.to (to_le (s' := ⟨[(0, .yl id ver), (2, HV.fptr [HV.int .i64 s] 0), (7, slE eFromLabelTo es), (8, .int .i64 (es.length : Int)), (9, .int .i64 ((0 : Nat) : Int))], H⟩) (le_slH ⟨rfl, rfl, rfl, rfl, rfl, trivial⟩) ?_)))
    clear hK K1
    refine AW.block ?_
    refine AW.loopS (fun p : Nat × Heap => ⟨[(0, .yl id ver), (2, HV.fptr [HV.int .i64 s] 0), (7, slE eFromLabelTo es), (8, .int .i64 (es.length : Int)), (9, .int .i64 (p.1 : Int))], p.2⟩)
      (fun p => p.1 ≤ es.length ∧ J (leaveL (es.take p.1) s).length p.2) (fun p => es.length - p.1) (0, H) (AS.le_refl _) ⟨Nat.zero_le _, h0⟩ ?_
    rintro ⟨i, H1⟩ ⟨hi, hj⟩
    dsimp only at hi hj ⊢
    refine AW.rgs rfl fun K1 hK => ?_
    refine bv rfl (v_bin rfl rfl b_lss) ?_
    refine b_nil (hK _ ?_)
    clear hK K1
    refine AW.cseq rfl (fun hc => ?_) (fun hc => ?_)
    · have hi' : i < es.length := by have := of_decide_eq_true hc; omega
      have hx : idx es (i : Int) = some es[i] := ix hi'
      obtain ⟨f, hf⟩ := fresh_id H1 5
      refine AW.skip ?_
      refine AW.seq (AW.block ?_)
      refine AW.rgs rfl fun K1 hK => ?_
      refine mv rfl rfl ?_
      refine bv rfl (v_idxF ty22 es22 rfl rfl (idx_lt hx)) ?_
      refine bv rfl (v_loadF ty66 rfl (l_agg eFromLabelTo hx rfl rfl)) ?_
      refine b_op rfl (o_alloc (fid := f) (zs := [HV.int .i64 0, HV.int .i64 0, HV.int .i64 0]) (f * 1000 + 5) rfl rfl ty66 rfl (fun ov => ?_))
      refine mv rfl rfl ?_
      refine b_op rfl (o_store (cs := cFromLabelTo es[i]) (zs := cFromLabelTo es[i]) rfl rfl rfl ty66 rfl hget_0 rfl rfl rfl ?_)
      refine b_nil (hK _ (AW.to (to_le (s' := ⟨[(0, .yl id ver), (2, HV.fptr [HV.int .i64 s] 0), (4, .int .i64 (i : Int)), (5, .ptr (f * 1000 + 5) ov 0), (7, slE eFromLabelTo es), (8, .int .i64 (es.length : Int)), (9, .int .i64 (i : Int))], (f * 1000 + 5, ov, .arr 3 66 (cFromLabelTo es[i])) :: H1⟩) ⟨leS_get ⟨rfl, rfl, rfl, rfl, rfl, rfl, rfl, trivial⟩, fun j x hx => ?_⟩ ?_)))
      · simp only [hget] at hx ⊢
        split <;> rename_i hij
        · rw [if_pos hij] at hx; exact hx
        · first | exact hx | (rw [if_neg hij] at hx; first | exact hx | (rw [if_neg hij]; exact hx)) | (rw [if_neg hij]; exact hx)
      clear hK K1
      have hJ1 := hmn _ _ _ hj (cons_le (ver := ov) (ob := .arr 3 66 (cFromLabelTo es[i])) hf)
      refine AW.rgs rfl fun K1 hK => ?_
      refine bv rfl (v_fieldAddrP fo66_0 rfl hget_0) ?_
      refine bv rfl (v_loadP ty3 rfl hget_0 (l_lit rfl rfl)) ?_
      refine bv rfl (v_loadF ty3 rfl (l_lit rfl rfl)) ?_
      refine bv rfl (v_bin rfl rfl b_eql) ?_
      refine mv rfl rfl ?_
      have htk := leaveL_take es s hi'
      by_cases hs : es[i].1 = s
      · rw [if_pos hs] at htk
        obtain ⟨rest, hr⟩ := leaveL_split es s (i + 1)
        rw [htk] at hr
        refine b_T rfl rfl rfl rfl (decide_eq_true hs) (o_val rfl (mv_val rfl rfl).2 ?_)
        refine b_T rfl rfl rfl rfl rfl (o_val rfl (mv_val rfl rfl).2 ?_)
        refine b_T rfl rfl rfl rfl rfl (o_val rfl (v_loadP ty66 rfl hget_0 (l_litA (ds := cFromLabelTo es[i]) rfl (Nat.le_of_ble_eq_true rfl) rfl)) ?_)
        refine b_T rfl rfl rfl rfl rfl (o_yield (hs := [HV.int .i64 (i : Int), HV.agg (cFromLabelTo es[i])]) rfl rfl rfl ?_)
        refine (hstep (leaveL (es.take i) s).length [HV.int .i64 (i : Int), HV.agg (cFromLabelTo es[i])] _ ?_ hJ1).mono ?_
        · rw [List.getElem?_map, hr, List.append_assoc, List.getElem?_append_right (Nat.le_refl _), Nat.sub_self]
          rfl
        rintro r H2 ⟨b, rfl, h3, h4⟩
        refine b_T rfl rfl rfl rfl rfl (o_val rfl (v_not rfl) ?_)
        refine bv rfl (v_pickT rfl rfl rfl) ?_
        refine b_nil (hK _ (AW.to (to_le (s' := ⟨[(0, .yl id ver), (2, HV.fptr [HV.int .i64 s] 0), (7, slE eFromLabelTo es), (8, .int .i64 (es.length : Int)), (9, .int .i64 (i : Int)), (24, .bool (!b))], H2⟩) (le_slH ⟨rfl, rfl, rfl, rfl, rfl, rfl, trivial⟩) ?_)))
        clear hK K1
        refine AW.cond rfl (fun hc => ?_) (fun hc => ?_)
        · have hb : b = false := by simpa using hc
          refine AW.ret ⟨.inr rfl, ?_⟩
          simp only [go_sem, reduceIte, Nat.reduceEqDiff]
          exact ⟨_, _, Conv.refl _ _, hstop _ (h4 hb)⟩
        · have hb : b = true := by simpa using hc
          refine AW.skip ?_
          refine AW.region (fid := f) (mt := []) [0, 2, 7, 8, 9] rfl fun K hK => ?_
          simp only [go_sem, reduceIte, Nat.reduceEqDiff, Int.reduceLE]
          refine hK _ ?_
          clear hK K
          refine ⟨(i + 1, H2), ⟨by dsimp only; omega, ?_⟩, by dsimp only; omega, ?_⟩
          · dsimp only
            rw [htk, List.length_append]
            exact h3 hb
          · dsimp only
            rw [cnt_next hm hi']
            exact AS.le_refl _
      · rw [if_neg hs, List.append_nil] at htk
        refine b_F rfl rfl rfl rfl rfl (decide_eq_false hs) ?_
        refine b_F rfl rfl rfl rfl rfl rfl ?_
        refine b_F rfl rfl rfl rfl rfl rfl ?_
        refine b_F rfl rfl rfl rfl rfl rfl ?_
        refine b_F rfl rfl rfl rfl rfl rfl ?_
        refine bv rfl (v_pickF rfl rfl rfl) ?_
        refine b_nil (hK _ (AW.to (to_le (s' := ⟨[(0, .yl id ver), (2, HV.fptr [HV.int .i64 s] 0), (7, slE eFromLabelTo es), (8, .int .i64 (es.length : Int)), (9, .int .i64 (i : Int)), (24, .bool false)], _⟩) (le_slH ⟨rfl, rfl, rfl, rfl, rfl, rfl, trivial⟩) ?_)))
        clear hK K1
        refine AW.cond rfl (fun hc => by cases hc) (fun _ => ?_)
        refine AW.skip ?_
        refine AW.region (fid := f) (mt := []) [0, 2, 7, 8, 9] rfl fun K hK => ?_
        simp only [go_sem, reduceIte, Nat.reduceEqDiff, Int.reduceLE]
        refine hK _ ?_
        clear hK K
        refine ⟨(i + 1, (f * 1000 + 5, ov, .arr 3 66 (cFromLabelTo es[i])) :: H1), ⟨by dsimp only; omega, ?_⟩, by dsimp only; omega, ?_⟩
        · dsimp only
          rw [htk]
          exact hJ1
        · dsimp only
          rw [cnt_next hm hi']
          exact AS.le_refl _
    · have hi2 : es.length ≤ i := by have := of_decide_eq_false hc; omega
      have hie : i = es.length := by omega
      subst hie
      rw [List.take_length] at hj
      refine AW.exit ?_
      refine ⟨.inl rfl, ?_⟩
      simp only [go_sem, reduceIte, Nat.reduceEqDiff]
      exact ⟨_, _, Conv.refl _ _, hdone _ (by rw [List.length_map]; exact hj)⟩
  · cases h
end Go.AW

namespace Go.AW
open Go Go.Proofs
set_option linter.unusedVariables false
set_option maxHeartbeats 1600000 in
set_option maxRecDepth 100000 in
theorem w_graph_list {p0 : TFromLabelTo} {r : (List (Int))} (h : m_graph_list p0 = some r) : Pure Try.prog 130 [HV.agg [HV.int .i64 p0.1, HV.int .i64 p0.2.1, HV.int .i64 p0.2.2]] (· = slE eInt r) := by
  unfold m_graph_list at h
  refine Pure.of_body Try.func130 rfl rfl (Nat.le_of_ble_eq_true rfl) fun hf => ?_
  unfold Try.f130
  dsimp only [enumS, Nat.reduceAdd]
  refine AW.rgs rfl fun K hK => ?_
  refine b_op rfl (o_box rfl rfl rfl ?_)
  refine mv rfl rfl ?_
  refine b_nil (hK _ (AW.to (to_le (s' := ⟨[(1, HV.fptr [HV.int .i64 p0.1, HV.int .i64 p0.2.1, HV.int .i64 p0.2.2] 0)], []⟩) (AS.le_of ⟨rfl, trivial⟩ trivial) ?_)))
  clear hK K
  refine AW.rgs rfl fun K hK => ?_
  refine bv rfl (v_fieldAddrF fo66_0 rfl) ?_
  refine bv rfl (v_loadF ty3 rfl (l_lit rfl rfl)) ?_
  refine bv rfl (v_fieldAddrF fo66_1 rfl) ?_
  refine bv rfl (v_loadF ty3 rfl (l_lit rfl rfl)) ?_
  refine bv rfl (v_fieldAddrF fo66_2 rfl) ?_
  refine bv rfl (v_loadF ty3 rfl (l_lit rfl rfl)) ?_
  refine b_op rfl (o_bsl rfl rfl (as_of (cs := [HV.int .i64 p0.1, HV.int .i64 p0.2.1, HV.int .i64 p0.2.2]) ty42 ty3 rfl rfl rfl rfl rfl) ?_)
  refine mv rfl rfl ?_
  refine b_nil (hK _ (AW.to (to_le (s' := ⟨[(2, slE eInt [p0.1, p0.2.1, p0.2.2])], []⟩) (AS.le_of ⟨rfl, trivial⟩ trivial) ?_)))
  clear hK K
  refine AW.ret ?_
  have h := Option.some.inj h
  subst h
  exact ret_pure (hs := [slE eInt [p0.1, p0.2.1, p0.2.2]]) (q := slE eInt [p0.1, p0.2.1, p0.2.2]) (.inr rfl) (resT rfl rfl) rfl (clean_slE fun _ _ => ⟨trivial, trivial⟩)

set_option maxHeartbeats 1600000 in
set_option maxRecDepth 100000 in
theorem w_cmp_isNaN_int {p0 : Int} {r : Bool} (h : m_cmp_isNaN_int p0 = some r) : Pure Try.prog 188 [HV.int .i64 p0] (· = HV.bool r) := by
  unfold m_cmp_isNaN_int at h
  refine Pure.of_body Try.func188 rfl rfl (Nat.le_of_ble_eq_true rfl) fun hf => ?_
  unfold Try.f188
  dsimp only [enumS, Nat.reduceAdd]
  refine AW.rgs rfl fun K hK => ?_
  refine mv rfl rfl ?_
  refine b_nil (hK _ (AW.to (to_le (s' := ⟨[(0, HV.int .i64 p0)], []⟩) (AS.le_of ⟨rfl, trivial⟩ trivial) ?_)))
  clear hK K
  refine AW.rgs rfl fun K hK => ?_
  refine mv rfl rfl ?_
  refine mv rfl rfl ?_
  refine bv rfl (v_bin rfl rfl b_neq) ?_
  refine mv rfl rfl ?_
  refine b_nil (hK _ (AW.to (to_le (s' := ⟨[(2, HV.bool (decide (p0 ≠ p0)))], []⟩) (AS.le_of ⟨rfl, trivial⟩ trivial) ?_)))
  clear hK K
  refine AW.ret ?_
  have h := Option.some.inj h
  subst h
  exact ret_pure (hs := [HV.bool (decide (p0 ≠ p0))]) (q := HV.bool (decide (p0 ≠ p0))) (.inr rfl) (resT rfl rfl) rfl trivial

set_option maxHeartbeats 1600000 in
set_option maxRecDepth 100000 in
theorem w_cmp_Compare_int {p0 : Int} {p1 : Int} {r : Int} (h : m_cmp_Compare_int p0 p1 = some r) : Pure Try.prog 181 [HV.int .i64 p0, HV.int .i64 p1] (· = HV.int .i64 r) := by
  unfold m_cmp_Compare_int at h
  refine Pure.of_body Try.func181 rfl rfl (Nat.le_of_ble_eq_true rfl) fun hf => ?_
  unfold Try.f181
  dsimp only [enumS, Nat.reduceAdd]
  refine AW.rgs rfl fun K hK => ?_
  refine mv rfl rfl ?_
  refine b_nil (hK _ (AW.to (to_le (s' := ⟨[(0, HV.int .i64 p0), (1, HV.int .i64 p1)], []⟩) (AS.le_of ⟨rfl, rfl, trivial⟩ trivial) ?_)))
  clear hK K
  refine AW.rgs rfl fun K hK => ?_
  refine mv rfl rfl ?_
  obtain ⟨x1, h2, h⟩ := bS h
  refine b_op rfl (o_call rfl rfl rfl rfl (ACallD.pure0 (w_cmp_isNaN_int h2)) ?_)
  refine mv rfl rfl ?_
  refine b_nil (hK _ (AW.to (to_le (s' := ⟨[(0, HV.int .i64 p0), (1, HV.int .i64 p1), (5, HV.bool x1)], []⟩) (AS.le_of ⟨rfl, rfl, rfl, trivial⟩ trivial) ?_)))
  clear hK K
  refine AW.rgs rfl fun K hK => ?_
  refine mv rfl rfl ?_
  obtain ⟨x3, h4, h⟩ := bS h
  refine b_op rfl (o_call rfl rfl rfl rfl (ACallD.pure0 (w_cmp_isNaN_int h4)) ?_)
  refine mv rfl rfl ?_
  refine b_nil (hK _ (AW.to (to_le (s' := ⟨[(0, HV.int .i64 p0), (1, HV.int .i64 p1), (5, HV.bool x1), (6, HV.bool x3)], []⟩) (AS.le_of ⟨rfl, rfl, rfl, rfl, trivial⟩ trivial) ?_)))
  clear hK K
  refine AW.seq ?_
  refine AW.rgs rfl fun K hK => ?_
  refine mv rfl rfl ?_
  refine b_nil (hK _ (AW.to (to_le (s' := ⟨[(0, HV.int .i64 p0), (1, HV.int .i64 p1), (6, HV.bool x3), (11, HV.bool x1)], []⟩) (AS.le_of ⟨rfl, rfl, rfl, rfl, trivial⟩ trivial) ?_)))
  clear hK K
  refine AW.cond rfl (fun hc => ?_) (fun hc => ?_)
  · have h := ifT hc h
    refine AW.seq ?_
    refine AW.rgs rfl fun K hK => ?_
    refine mv rfl rfl ?_
    refine b_nil (hK _ (AW.to (to_le (s' := ⟨[(12, HV.bool x3)], []⟩) (AS.le_of ⟨rfl, trivial⟩ trivial) ?_)))
    clear hK K
    refine AW.cond rfl (fun hc => ?_) (fun hc => ?_)
    · have h := ifT hc h
      refine AW.rgs rfl fun K hK => ?_
      refine mv rfl rfl ?_
      refine b_nil (hK _ (AW.to (to_le (s' := ⟨[(4, HV.int .i64 0)], []⟩) (AS.le_of ⟨rfl, trivial⟩ trivial) ?_)))
      clear hK K
      refine AW.ret ?_
      have h := Option.some.inj h
      subst h
      exact ret_pure (hs := [HV.int .i64 0]) (q := HV.int .i64 0) (.inr rfl) (resT rfl rfl) rfl trivial
    · have h := ifF (bF' hc) h
      refine AW.skip ?_
      refine AW.rgs rfl fun K hK => ?_
      refine mv rfl rfl ?_
      refine b_nil (hK _ (AW.to (to_le (s' := ⟨[(4, HV.int .i64 (-1))], []⟩) (AS.le_of ⟨rfl, trivial⟩ trivial) ?_)))
      clear hK K
      refine AW.ret ?_
      have h := Option.some.inj h
      subst h
      exact ret_pure (hs := [HV.int .i64 (-1)]) (q := HV.int .i64 (-1)) (.inr rfl) (resT rfl rfl) rfl trivial
  · have h := ifF (bF' hc) h
    refine AW.skip ?_
    refine AW.seq ?_
    refine AW.rgs rfl fun K hK => ?_
    refine mv rfl rfl ?_
    refine b_nil (hK _ (AW.to (to_le (s' := ⟨[(0, HV.int .i64 p0), (1, HV.int .i64 p1), (13, HV.bool x3)], []⟩) (AS.le_of ⟨rfl, rfl, rfl, trivial⟩ trivial) ?_)))
    clear hK K
    refine AW.cond rfl (fun hc => ?_) (fun hc => ?_)
    · have h := ifT hc h
      refine AW.rgs rfl fun K hK => ?_
      refine mv rfl rfl ?_
      refine b_nil (hK _ (AW.to (to_le (s' := ⟨[(4, HV.int .i64 1)], []⟩) (AS.le_of ⟨rfl, trivial⟩ trivial) ?_)))
      clear hK K
      refine AW.ret ?_
      have h := Option.some.inj h
      subst h
      exact ret_pure (hs := [HV.int .i64 1]) (q := HV.int .i64 1) (.inr rfl) (resT rfl rfl) rfl trivial
    · have h := ifF (bF' hc) h
      refine AW.skip ?_
      refine AW.seq ?_
      refine AW.rgs rfl fun K hK => ?_
      refine mv rfl rfl ?_
      refine mv rfl rfl ?_
      refine bv rfl (v_bin rfl rfl b_lss) ?_
      refine b_nil (hK _ (AW.to (to_le (s' := ⟨[(0, HV.int .i64 p0), (1, HV.int .i64 p1), (16, HV.bool (decide (p0 < p1)))], []⟩) (AS.le_of ⟨rfl, rfl, rfl, trivial⟩ trivial) ?_)))
      clear hK K
      refine AW.cond rfl (fun hc => ?_) (fun hc => ?_)
      · have hc := of_decide_eq_true hc
        have h := ifT hc h
        refine AW.rgs rfl fun K hK => ?_
        refine mv rfl rfl ?_
        refine b_nil (hK _ (AW.to (to_le (s' := ⟨[(4, HV.int .i64 (-1))], []⟩) (AS.le_of ⟨rfl, trivial⟩ trivial) ?_)))
        clear hK K
        refine AW.ret ?_
        have h := Option.some.inj h
        subst h
        exact ret_pure (hs := [HV.int .i64 (-1)]) (q := HV.int .i64 (-1)) (.inr rfl) (resT rfl rfl) rfl trivial
      · have hc := of_decide_eq_false hc
        have h := ifF hc h
        refine AW.skip ?_
        refine AW.seq ?_
        refine AW.rgs rfl fun K hK => ?_
        refine mv rfl rfl ?_
        refine mv rfl rfl ?_
        refine bv rfl (v_bin rfl rfl b_gtr) ?_
        refine b_nil (hK _ (AW.to (to_le (s' := ⟨[(19, HV.bool (decide (p1 < p0)))], []⟩) (AS.le_of ⟨rfl, trivial⟩ trivial) ?_)))
        clear hK K
        refine AW.cond rfl (fun hc => ?_) (fun hc => ?_)
        · have hc := of_decide_eq_true hc
          have h := ifT hc h
          refine AW.rgs rfl fun K hK => ?_
          refine mv rfl rfl ?_
          refine b_nil (hK _ (AW.to (to_le (s' := ⟨[(4, HV.int .i64 1)], []⟩) (AS.le_of ⟨rfl, trivial⟩ trivial) ?_)))
          clear hK K
          refine AW.ret ?_
          have h := Option.some.inj h
          subst h
          exact ret_pure (hs := [HV.int .i64 1]) (q := HV.int .i64 1) (.inr rfl) (resT rfl rfl) rfl trivial
        · have hc := of_decide_eq_false hc
          have h := ifF hc h
          refine AW.skip ?_
          refine AW.rgs rfl fun K hK => ?_
          refine mv rfl rfl ?_
          refine b_nil (hK _ (AW.to (to_le (s' := ⟨[(4, HV.int .i64 0)], []⟩) (AS.le_of ⟨rfl, trivial⟩ trivial) ?_)))
          clear hK K
          refine AW.ret ?_
          have h := Option.some.inj h
          subst h
          exact ret_pure (hs := [HV.int .i64 0]) (q := HV.int .i64 0) (.inr rfl) (resT rfl rfl) rfl trivial

set_option maxHeartbeats 1600000 in
set_option maxRecDepth 100000 in
theorem w_slices_Compare_Lint_int {p0 : List (Int)} {p1 : List (Int)} {r : Int} (h : m_slices_Compare_Lint_int p0 p1 = some r) : Pure Try.prog 162 [slE eInt p0, slE eInt p1] (· = HV.int .i64 r) := by
  unfold m_slices_Compare_Lint_int at h
  refine Pure.of_body Try.func162 rfl rfl (Nat.le_of_ble_eq_true rfl) fun hf => ?_
  unfold Try.f162
  dsimp only [enumS, Nat.reduceAdd]
  refine AW.rgs rfl fun K hK => ?_
  refine mv rfl rfl ?_
  refine b_nil (hK _ (AW.to (to_le (s' := ⟨[(0, slE eInt p0), (1, slE eInt p1)], []⟩) (AS.le_of ⟨rfl, rfl, trivial⟩ trivial) ?_)))
  clear hK K
  refine AW.seq ?_
  refine AW.rgs rfl fun K hK => ?_
  refine mv rfl rfl ?_
  refine bv rfl (v_lenF rfl rfl ty42 rfl) ?_
  refine mv rfl rfl ?_
  refine b_nil (hK _ (AW.to (to_le (s' := ⟨[(0, slE eInt p0), (1, slE eInt p1), (9, slE eInt p0), (10, HV.int .i64 ((p0).length : Int)), (11, HV.int .i64 0)], []⟩) (AS.le_of ⟨rfl, rfl, rfl, rfl, rfl, trivial⟩ trivial) ?_)))
  clear hK K
  refine AW.lpR h (by first | exact up_then | exact up_to) (S := Int) (V := Unit) (fun a v => ⟨[(0, slE eInt p0), (1, slE eInt p1), (9, slE eInt p0), (10, HV.int .i64 ((p0).length : Int)), (11, HV.int .i64 a)], []⟩) ?_ (X := Unit) (W := Unit) (fun a v => ⟨[(0, slE eInt p0), (1, slE eInt p1)], []⟩) (fun a11 w12 h => ?_) (fun a1 w2 st3 h hr4=> ?_)
  · exact to_le (s' := ⟨[(0, slE eInt p0), (1, slE eInt p1), (9, slE eInt p0), (10, HV.int .i64 ((p0).length : Int)), (11, HV.int .i64 0)], []⟩) (AS.le_of ⟨rfl, rfl, rfl, rfl, rfl, trivial⟩ trivial) ⟨(), rfl⟩
  · refine AW.seq ?_
    refine AW.rgs rfl fun K hK => ?_
    refine mv rfl rfl ?_
    refine bv rfl (v_lenF rfl rfl ty42 rfl) ?_
    refine mv rfl rfl ?_
    refine bv rfl (v_lenF rfl rfl ty42 rfl) ?_
    refine bv rfl (v_bin rfl rfl b_lss) ?_
    refine b_nil (hK _ (AW.to (to_le (s' := ⟨[(35, HV.bool (decide (((p0).length : Int) < ((p1).length : Int))))], []⟩) (AS.le_of ⟨rfl, trivial⟩ trivial) ?_)))
    clear hK K
    refine AW.cond rfl (fun hc => ?_) (fun hc => ?_)
    · have hc := of_decide_eq_true hc
      have h := ifT hc h
      refine AW.rgs rfl fun K hK => ?_
      refine mv rfl rfl ?_
      refine b_nil (hK _ (AW.to (to_le (s' := ⟨[(4, HV.int .i64 (-1))], []⟩) (AS.le_of ⟨rfl, trivial⟩ trivial) ?_)))
      clear hK K
      refine AW.ret ?_
      have h := Option.some.inj h
      subst h
      exact ret_pure (hs := [HV.int .i64 (-1)]) (q := HV.int .i64 (-1)) (.inr rfl) (resT rfl rfl) rfl trivial
    · have hc := of_decide_eq_false hc
      have h := ifF hc h
      refine AW.skip ?_
      refine AW.rgs rfl fun K hK => ?_
      refine mv rfl rfl ?_
      refine b_nil (hK _ (AW.to (to_le (s' := ⟨[(4, HV.int .i64 0)], []⟩) (AS.le_of ⟨rfl, trivial⟩ trivial) ?_)))
      clear hK K
      refine AW.ret ?_
      have h := Option.some.inj h
      subst h
      exact ret_pure (hs := [HV.int .i64 0]) (q := HV.int .i64 0) (.inr rfl) (resT rfl rfl) rfl trivial
  · refine AW.rgs rfl fun K hK => ?_
    refine bv rfl (v_bin rfl rfl b_lss) ?_
    refine b_nil (hK _ (AW.to (to_le (s' := ⟨[(0, slE eInt p0), (1, slE eInt p1), (9, slE eInt p0), (10, HV.int .i64 ((p0).length : Int)), (11, HV.int .i64 a1), (12, HV.bool (decide (a1 < ((p0).length : Int))))], []⟩) (AS.le_of ⟨rfl, rfl, rfl, rfl, rfl, rfl, trivial⟩ trivial) ?_)))
    clear hK K
    refine AW.cseq rfl (fun hc => ?_) (fun hc => ?_)
    · have hc := of_decide_eq_true hc
      have h := ifT hc h
      refine AW.skip ?_
      refine AW.seq (AW.block ?_)
      refine AW.rgs rfl fun K hK => ?_
      refine mv rfl rfl ?_
      obtain ⟨x5, h6, h⟩ := bS h
      refine bv rfl (v_idxF ty42 es42 rfl rfl (idx_lt h6)) ?_
      refine bv rfl (v_loadF ty3 rfl (l_cell eInt h6 (o := 0) rfl rfl)) ?_
      refine mv rfl rfl ?_
      refine mv rfl rfl ?_
      refine b_nil (hK _ (AW.to (to_le (s' := ⟨[(0, slE eInt p0), (1, slE eInt p1), (5, HV.int .i64 a1), (6, HV.int .i64 x5), (9, slE eInt p0), (10, HV.int .i64 ((p0).length : Int)), (11, HV.int .i64 a1)], []⟩) (AS.le_of ⟨rfl, rfl, rfl, rfl, rfl, rfl, rfl, trivial⟩ trivial) ?_)))
      clear hK K
      refine AW.seq ?_
      refine AW.rgs rfl fun K hK => ?_
      refine mv rfl rfl ?_
      refine mv rfl rfl ?_
      refine bv rfl (v_lenF rfl rfl ty42 rfl) ?_
      refine bv rfl (v_bin rfl rfl b_geq) ?_
      refine b_nil (hK _ (AW.to (to_le (s' := ⟨[(0, slE eInt p0), (1, slE eInt p1), (5, HV.int .i64 a1), (6, HV.int .i64 x5), (9, slE eInt p0), (10, HV.int .i64 ((p0).length : Int)), (11, HV.int .i64 a1), (19, HV.bool (decide (((p1).length : Int) ≤ a1)))], []⟩) (AS.le_of ⟨rfl, rfl, rfl, rfl, rfl, rfl, rfl, rfl, trivial⟩ trivial) ?_)))
      clear hK K
      refine AW.cond rfl (fun hc => ?_) (fun hc => ?_)
      · have hc := of_decide_eq_true hc
        have h := ifT hc h
        refine AW.rgs rfl fun K hK => ?_
        refine mv rfl rfl ?_
        refine b_nil (hK _ (AW.to (to_le (s' := ⟨[(4, HV.int .i64 1)], []⟩) (AS.le_of ⟨rfl, trivial⟩ trivial) ?_)))
        clear hK K
        have h := hr4 _ h
        refine AW.ret ?_
        have h := Option.some.inj h
        subst h
        exact ret_pure (hs := [HV.int .i64 1]) (q := HV.int .i64 1) (.inr rfl) (resT rfl rfl) rfl trivial
      · have hc := of_decide_eq_false hc
        have h := ifF hc h
        refine AW.skip ?_
        refine AW.rgs rfl fun K hK => ?_
        refine mv rfl rfl ?_
        refine mv rfl rfl ?_
        obtain ⟨x7, h8, h⟩ := bS h
        refine bv rfl (v_idxF ty42 es42 rfl rfl (idx_lt h8)) ?_
        refine bv rfl (v_loadF ty3 rfl (l_cell eInt h8 (o := 0) rfl rfl)) ?_
        refine mv rfl rfl ?_
        refine b_nil (hK _ (AW.to (to_le (s' := ⟨[(0, slE eInt p0), (1, slE eInt p1), (6, HV.int .i64 x5), (7, HV.int .i64 x7), (9, slE eInt p0), (10, HV.int .i64 ((p0).length : Int)), (11, HV.int .i64 a1)], []⟩) (AS.le_of ⟨rfl, rfl, rfl, rfl, rfl, rfl, rfl, trivial⟩ trivial) ?_)))
        clear hK K
        refine AW.rgs rfl fun K hK => ?_
        refine mv rfl rfl ?_
        refine mv rfl rfl ?_
        obtain ⟨x9, h10, h⟩ := bS h
        refine b_op rfl (o_call rfl rfl rfl rfl (ACallD.pure0 (w_cmp_Compare_int h10)) ?_)
        refine mv rfl rfl ?_
        refine b_nil (hK _ (AW.to (to_le (s' := ⟨[(0, slE eInt p0), (1, slE eInt p1), (8, HV.int .i64 x9), (9, slE eInt p0), (10, HV.int .i64 ((p0).length : Int)), (11, HV.int .i64 a1)], []⟩) (AS.le_of ⟨rfl, rfl, rfl, rfl, rfl, rfl, trivial⟩ trivial) ?_)))
        clear hK K
        refine AW.rgs rfl fun K hK => ?_
        refine mv rfl rfl ?_
        refine bv rfl (v_bin rfl rfl b_neq) ?_
        refine b_nil (hK _ (AW.to (to_le (s' := ⟨[(0, slE eInt p0), (1, slE eInt p1), (8, HV.int .i64 x9), (9, slE eInt p0), (10, HV.int .i64 ((p0).length : Int)), (11, HV.int .i64 a1), (28, HV.bool (decide (x9 ≠ 0)))], []⟩) (AS.le_of ⟨rfl, rfl, rfl, rfl, rfl, rfl, rfl, trivial⟩ trivial) ?_)))
        clear hK K
        refine AW.cond rfl (fun hc => ?_) (fun hc => ?_)
        · have hc := of_decide_eq_true hc
          have h := ifT hc h
          refine AW.rgs rfl fun K hK => ?_
          refine mv rfl rfl ?_
          refine mv rfl rfl ?_
          refine b_nil (hK _ (AW.to (to_le (s' := ⟨[(4, HV.int .i64 x9)], []⟩) (AS.le_of ⟨rfl, trivial⟩ trivial) ?_)))
          clear hK K
          have h := hr4 _ h
          refine AW.ret ?_
          have h := Option.some.inj h
          subst h
          exact ret_pure (hs := [HV.int .i64 x9]) (q := HV.int .i64 x9) (.inr rfl) (resT rfl rfl) rfl trivial
        · have hc := of_decide_eq_false hc
          have h := ifF hc h
          refine AW.skip ?_
          refine AW.rg rfl fun K hK => ?_
          refine bv rfl (v_bin rfl rfl b_add) ?_
          refine mv rfl rfl ?_
          refine b_nil (hK _ ?_)
          clear hK K
          exact to_le (s' := ⟨[(0, slE eInt p0), (1, slE eInt p1), (9, slE eInt p0), (10, HV.int .i64 ((p0).length : Int)), (11, HV.int .i64 (IntKind.wrap .i64 (a1 + 1)))], []⟩) (AS.le_of ⟨rfl, rfl, rfl, rfl, rfl, trivial⟩ trivial) ⟨IntKind.wrap .i64 (a1 + 1), (), h, rfl⟩
    · have hc := of_decide_eq_false hc
      have h := ifF hc h
      refine AW.exit ?_
      exact to_le (s' := ⟨[(0, slE eInt p0), (1, slE eInt p1)], []⟩) (AS.le_of ⟨rfl, rfl, trivial⟩ trivial) ⟨(), (), h, rfl⟩

set_option maxHeartbeats 1600000 in
set_option maxRecDepth 100000 in
theorem w_graph_by_api_Edge_1 {p0 : TFromLabelTo} {p1 : TFromLabelTo} {r : Int} (h : m_graph_by_api_Edge_1 p0 p1 = some r) : Pure Try.prog 161 [HV.agg [HV.int .i64 p0.1, HV.int .i64 p0.2.1, HV.int .i64 p0.2.2], HV.agg [HV.int .i64 p1.1, HV.int .i64 p1.2.1, HV.int .i64 p1.2.2], HV.fptr [HV.fn (.func 130) [] []] 0] (· = HV.int .i64 r) := by
  unfold m_graph_by_api_Edge_1 at h
  refine Pure.of_body Try.func161 rfl rfl (Nat.le_of_ble_eq_true rfl) fun hf => ?_
  unfold Try.f161
  dsimp only [enumS, Nat.reduceAdd]
  refine AW.rgs rfl fun K hK => ?_
  refine b_op rfl (o_box rfl rfl rfl ?_)
  refine b_op rfl (o_box rfl rfl rfl ?_)
  refine mv rfl rfl ?_
  refine b_nil (hK _ (AW.to (to_le (s' := ⟨[(2, HV.fptr [HV.fn (.func 130) [] []] 0), (3, HV.fptr [HV.int .i64 p0.1, HV.int .i64 p0.2.1, HV.int .i64 p0.2.2] 0), (4, HV.fptr [HV.int .i64 p1.1, HV.int .i64 p1.2.1, HV.int .i64 p1.2.2] 0)], []⟩) (AS.le_of ⟨rfl, rfl, rfl, trivial⟩ trivial) ?_)))
  clear hK K
  refine AW.dgs 8 follows rfl rfl fun K hK => ?_
  refine sv rfl (v_loadF ty166 rfl (l_lit rfl rfl)) ?_
  refine sv rfl (v_loadF ty66 rfl (l_litA rfl (Nat.le_of_ble_eq_true rfl) rfl)) ?_
  obtain ⟨x1, h2, h⟩ := bS h
  refine s_op rfl rfl (ops_call rfl rfl rfl rfl (ACallD.pure0 (w_graph_list h2)) ?_)
  refine sv rfl (v_loadF ty166 rfl (l_lit rfl rfl)) ?_
  refine sv rfl (v_loadF ty66 rfl (l_litA rfl (Nat.le_of_ble_eq_true rfl) rfl)) ?_
  obtain ⟨x3, h4, h⟩ := bS h
  refine s_op rfl rfl (ops_call rfl rfl rfl rfl (ACallD.pure0 (w_graph_list h4)) ?_)
  obtain ⟨x5, h6, h⟩ := bS h
  refine s_op rfl rfl (ops_call rfl rfl rfl rfl (ACallD.pure0 (w_slices_Compare_Lint_int h6)) ?_)
  refine sm rfl rfl ?_
  refine s_nil ?_
  refine b_nil (hK _ (AW.to (to_le (s' := ⟨[(5, HV.int .i64 x5)], []⟩) (AS.le_of ⟨rfl, trivial⟩ trivial) ?_)))
  clear hK K
  refine AW.ret ?_
  have h := Option.some.inj h
  subst h
  exact ret_pure (hs := [HV.int .i64 x5]) (q := HV.int .i64 x5) (.inr rfl) (resT rfl rfl) rfl trivial

set_option maxHeartbeats 1600000 in
set_option maxRecDepth 100000 in
theorem w_graph_by_api_Edge  : Pure Try.prog 129 [HV.fn (.func 130) [] []] (· = HV.fn (.func 161) [] [HV.fptr [HV.fn (.func 130) [] []] 0]) := by
  refine Pure.of_body Try.func129 rfl rfl (Nat.le_of_ble_eq_true rfl) fun hf => ?_
  unfold Try.f129
  dsimp only [enumS, Nat.reduceAdd]
  refine AW.rgs rfl fun K hK => ?_
  refine b_op rfl (o_box rfl rfl rfl ?_)
  refine mv rfl rfl ?_
  refine b_nil (hK _ (AW.to (to_le (s' := ⟨[(1, HV.fptr [HV.fn (.func 130) [] []] 0)], []⟩) (AS.le_of ⟨rfl, trivial⟩ trivial) ?_)))
  clear hK K
  refine AW.rgs rfl fun K hK => ?_
  refine bv rfl (v_func rfl rfl) ?_
  refine mv rfl rfl ?_
  refine b_nil (hK _ (AW.to (to_le (s' := ⟨[(2, HV.fn (.func 161) [] [HV.fptr [HV.fn (.func 130) [] []] 0])], []⟩) (AS.le_of ⟨rfl, trivial⟩ trivial) ?_)))
  clear hK K
  refine AW.ret ?_
  exact ret_pure (hs := [HV.fn (.func 161) [] [HV.fptr [HV.fn (.func 130) [] []] 0]]) (q := HV.fn (.func 161) [] [HV.fptr [HV.fn (.func 130) [] []] 0]) (.inr rfl) (resT rfl rfl) rfl ⟨trivial, ⟨⟨⟨trivial, trivial⟩, trivial⟩, trivial⟩⟩

set_option maxHeartbeats 1600000 in
set_option maxRecDepth 100000 in
theorem w_graph_Check {p0 : TLabelsStatesEdges} {r : Int} (h : m_graph_Check p0 = some r) : Pure Try.prog 86 [HV.agg [HV.int .i64 p0.1, HV.int .i64 p0.2.1, slE eFromLabelTo p0.2.2]] (· = HV.int .i64 r) := by
  unfold m_graph_Check at h
  refine Pure.of_body Try.func86 rfl rfl (Nat.le_of_ble_eq_true rfl) fun hf => ?_
  unfold Try.f86
  dsimp only [enumS, Nat.reduceAdd]
  refine AW.rgs rfl fun K hK => ?_
  refine b_op rfl (o_box rfl rfl rfl ?_)
  refine mv rfl rfl ?_
  refine b_nil (hK _ (AW.to (to_le (s' := ⟨[(1, HV.fptr [HV.int .i64 p0.1, HV.int .i64 p0.2.1, slE eFromLabelTo p0.2.2] 0)], []⟩) (AS.le_of ⟨rfl, trivial⟩ trivial) ?_)))
  clear hK K
  refine AW.seq (AW.block ?_)
  refine AW.seqJ h (S := Bool) (V := Unit) (fun a v => ⟨[(1, HV.fptr [HV.int .i64 p0.1, HV.int .i64 p0.2.1, slE eFromLabelTo p0.2.2] 0), (6, HV.bool a)], []⟩) (fun a1 w2 h => ?_) (fun k3 h => ?_)
  · refine AW.cond rfl (fun hc => ?_) (fun hc => ?_)
    · have h := ifT hc h
      refine AW.rgs rfl fun K hK => ?_
      refine mv rfl rfl ?_
      refine b_nil (hK _ (AW.to (to_le (s' := ⟨[(2, HV.int .i64 12)], []⟩) (AS.le_of ⟨rfl, trivial⟩ trivial) ?_)))
      clear hK K
      refine AW.ret ?_
      have h := Option.some.inj h
      subst h
      exact ret_pure (hs := [HV.int .i64 12]) (q := HV.int .i64 12) (.inr rfl) (resT rfl rfl) rfl trivial
    · have h := ifF (bF' hc) h
      refine AW.rgs rfl fun K hK => ?_
      refine bv rfl (v_fieldAddrF fo24_1 rfl) ?_
      refine bv rfl (v_loadF ty3 rfl (l_lit rfl rfl)) ?_
      refine bv rfl (v_bin rfl rfl b_lss) ?_
      refine mv rfl rfl ?_
      refine b_nil (hK _ (AW.to (to_le (s' := ⟨[(1, HV.fptr [HV.int .i64 p0.1, HV.int .i64 p0.2.1, slE eFromLabelTo p0.2.2] 0), (15, HV.bool (decide (p0.2.1 < 0)))], []⟩) (AS.le_of ⟨rfl, rfl, trivial⟩ trivial) ?_)))
      clear hK K
      refine AW.cond rfl (fun hc => ?_) (fun hc => ?_)
      · have hc := of_decide_eq_true hc
        have h := ifT hc h
        refine AW.rgs rfl fun K hK => ?_
        refine mv rfl rfl ?_
        refine b_nil (hK _ (AW.to (to_le (s' := ⟨[(2, HV.int .i64 2)], []⟩) (AS.le_of ⟨rfl, trivial⟩ trivial) ?_)))
        clear hK K
        refine AW.ret ?_
        have h := Option.some.inj h
        subst h
        exact ret_pure (hs := [HV.int .i64 2]) (q := HV.int .i64 2) (.inr rfl) (resT rfl rfl) rfl trivial
      · have hc := of_decide_eq_false hc
        have h := ifF hc h
        refine AW.seqJ h (S := Bool) (V := Unit) (fun a v => ⟨[(1, HV.fptr [HV.int .i64 p0.1, HV.int .i64 p0.2.1, slE eFromLabelTo p0.2.2] 0), (19, HV.bool a)], []⟩) (fun a4 w5 h => ?_) (fun k6 h => ?_)
        · refine AW.cond rfl (fun hc => ?_) (fun hc => ?_)
          · have h := ifT hc h
            refine AW.rgs rfl fun K hK => ?_
            refine mv rfl rfl ?_
            refine b_nil (hK _ (AW.to (to_le (s' := ⟨[(2, HV.int .i64 4)], []⟩) (AS.le_of ⟨rfl, trivial⟩ trivial) ?_)))
            clear hK K
            refine AW.ret ?_
            have h := Option.some.inj h
            subst h
            exact ret_pure (hs := [HV.int .i64 4]) (q := HV.int .i64 4) (.inr rfl) (resT rfl rfl) rfl trivial
          · have h := ifF (bF' hc) h
            refine AW.skip ?_
            refine AW.rgs rfl fun K hK => ?_
            refine b_op rfl (o_call rfl rfl rfl rfl (ACallD.pure0 (w_graph_by_api_Edge )) ?_)
            refine mv rfl rfl ?_
            refine b_nil (hK _ (AW.to (to_le (s' := ⟨[(1, HV.fptr [HV.int .i64 p0.1, HV.int .i64 p0.2.1, slE eFromLabelTo p0.2.2] 0), (3, HV.fn (.func 161) [] [HV.fptr [HV.fn (.func 130) [] []] 0])], []⟩) (AS.le_of ⟨rfl, rfl, trivial⟩ trivial) ?_)))
            clear hK K
            refine AW.seq ?_
            refine AW.rgs rfl fun K hK => ?_
            refine bv rfl (v_fieldAddrF fo24_2 rfl) ?_
            refine bv rfl (v_loadF ty22 rfl (l_lit rfl rfl)) ?_
            refine bv rfl (v_lenF rfl rfl ty22 rfl) ?_
            refine mv rfl rfl ?_
            refine b_nil (hK _ (AW.to (to_le (s' := ⟨[(1, HV.fptr [HV.int .i64 p0.1, HV.int .i64 p0.2.1, slE eFromLabelTo p0.2.2] 0), (3, HV.fn (.func 161) [] [HV.fptr [HV.fn (.func 130) [] []] 0]), (31, slE eFromLabelTo p0.2.2), (32, HV.int .i64 ((p0.2.2).length : Int)), (33, HV.int .i64 0)], []⟩) (AS.le_of ⟨rfl, rfl, rfl, rfl, rfl, trivial⟩ trivial) ?_)))
            clear hK K
            refine AW.lpR h (by first | exact up_then | exact up_to) (S := Int) (V := Unit) (fun a v => ⟨[(1, HV.fptr [HV.int .i64 p0.1, HV.int .i64 p0.2.1, slE eFromLabelTo p0.2.2] 0), (3, HV.fn (.func 161) [] [HV.fptr [HV.fn (.func 130) [] []] 0]), (31, slE eFromLabelTo p0.2.2), (32, HV.int .i64 ((p0.2.2).length : Int)), (33, HV.int .i64 a)], []⟩) ?_ (X := Unit) (W := Unit) (fun a v => ⟨[], []⟩) (fun a27 w28 h => ?_) (fun a7 w8 st9 h hr10=> ?_)
            · exact to_le (s' := ⟨[(1, HV.fptr [HV.int .i64 p0.1, HV.int .i64 p0.2.1, slE eFromLabelTo p0.2.2] 0), (3, HV.fn (.func 161) [] [HV.fptr [HV.fn (.func 130) [] []] 0]), (31, slE eFromLabelTo p0.2.2), (32, HV.int .i64 ((p0.2.2).length : Int)), (33, HV.int .i64 0)], []⟩) (AS.le_of ⟨rfl, rfl, rfl, rfl, rfl, trivial⟩ trivial) ⟨(), rfl⟩
            · refine AW.rgs rfl fun K hK => ?_
              refine mv rfl rfl ?_
              refine b_nil (hK _ (AW.to (to_le (s' := ⟨[(2, HV.int .i64 0)], []⟩) (AS.le_of ⟨rfl, trivial⟩ trivial) ?_)))
              clear hK K
              refine AW.ret ?_
              have h := Option.some.inj h
              subst h
              exact ret_pure (hs := [HV.int .i64 0]) (q := HV.int .i64 0) (.inr rfl) (resT rfl rfl) rfl trivial
            · refine AW.rgs rfl fun K hK => ?_
              refine bv rfl (v_bin rfl rfl b_lss) ?_
              refine b_nil (hK _ (AW.to (to_le (s' := ⟨[(1, HV.fptr [HV.int .i64 p0.1, HV.int .i64 p0.2.1, slE eFromLabelTo p0.2.2] 0), (3, HV.fn (.func 161) [] [HV.fptr [HV.fn (.func 130) [] []] 0]), (31, slE eFromLabelTo p0.2.2), (32, HV.int .i64 ((p0.2.2).length : Int)), (33, HV.int .i64 a7), (34, HV.bool (decide (a7 < ((p0.2.2).length : Int))))], []⟩) (AS.le_of ⟨rfl, rfl, rfl, rfl, rfl, rfl, trivial⟩ trivial) ?_)))
              clear hK K
              refine AW.cseq rfl (fun hc => ?_) (fun hc => ?_)
              · have hc := of_decide_eq_true hc
                have h := ifT hc h
                refine AW.skip ?_
                refine AW.seq (AW.block ?_)
                refine AW.rgs rfl fun K hK => ?_
                refine mv rfl rfl ?_
                obtain ⟨x11, h12, h⟩ := bS h
                refine bv rfl (v_idxF ty22 es22 rfl rfl (idx_lt h12)) ?_
                refine bv rfl (v_loadF ty66 rfl (l_agg eFromLabelTo h12 rfl rfl)) ?_
                refine b_op rfl (o_alloc (fid := 86) (zs := [HV.int .i64 0, HV.int .i64 0, HV.int .i64 0]) 86005 rfl rfl ty66 rfl (fun v13 => ?_))
                refine mv rfl rfl ?_
                refine b_op rfl (o_store (cs := [HV.int .i64 x11.1, HV.int .i64 x11.2.1, HV.int .i64 x11.2.2]) (zs := [HV.int .i64 x11.1, HV.int .i64 x11.2.1, HV.int .i64 x11.2.2]) rfl rfl rfl ty66 rfl rfl rfl rfl rfl ?_)
                refine b_nil (hK _ (AW.to (to_le (s' := ⟨[(1, HV.fptr [HV.int .i64 p0.1, HV.int .i64 p0.2.1, slE eFromLabelTo p0.2.2] 0), (3, HV.fn (.func 161) [] [HV.fptr [HV.fn (.func 130) [] []] 0]), (4, HV.int .i64 a7), (5, HV.ptr 86005 v13 0), (31, slE eFromLabelTo p0.2.2), (32, HV.int .i64 ((p0.2.2).length : Int)), (33, HV.int .i64 a7)], [(86005, v13, .arr 3 66 [HV.int .i64 x11.1, HV.int .i64 x11.2.1, HV.int .i64 x11.2.2])]⟩) (AS.le_of ⟨rfl, rfl, rfl, rfl, rfl, rfl, rfl, trivial⟩ ⟨rfl, trivial⟩) ?_)))
                clear hK K
                refine AW.seq ?_
                refine AW.seqJ h (S := Bool) (V := Unit) (fun a v => ⟨[(1, HV.fptr [HV.int .i64 p0.1, HV.int .i64 p0.2.1, slE eFromLabelTo p0.2.2] 0), (3, HV.fn (.func 161) [] [HV.fptr [HV.fn (.func 130) [] []] 0]), (4, HV.int .i64 a7), (5, HV.ptr 86005 v13 0), (31, slE eFromLabelTo p0.2.2), (32, HV.int .i64 ((p0.2.2).length : Int)), (33, HV.int .i64 a7), (62, HV.bool a)], [(86005, v13, .arr 3 66 [HV.int .i64 x11.1, HV.int .i64 x11.2.1, HV.int .i64 x11.2.2])]⟩) (fun a14 w15 h => ?_) (fun k16 h => ?_)
                · refine AW.cond rfl (fun hc => ?_) (fun hc => ?_)
                  · have h := ifT hc h
                    refine AW.rgs rfl fun K hK => ?_
                    refine mv rfl rfl ?_
                    refine b_nil (hK _ (AW.to (to_le (s' := ⟨[(2, HV.int .i64 2)], []⟩) (AS.le_of ⟨rfl, trivial⟩ trivial) ?_)))
                    clear hK K
                    have h := hr10 _ h
                    refine AW.ret ?_
                    have h := Option.some.inj h
                    subst h
                    exact ret_pure (hs := [HV.int .i64 2]) (q := HV.int .i64 2) (.inr rfl) (resT rfl rfl) rfl trivial
                  · have h := ifF (bF' hc) h
                    refine AW.skip ?_
                    refine AW.seqJ h (S := Bool) (V := Unit) (fun a v => ⟨[(1, HV.fptr [HV.int .i64 p0.1, HV.int .i64 p0.2.1, slE eFromLabelTo p0.2.2] 0), (3, HV.fn (.func 161) [] [HV.fptr [HV.fn (.func 130) [] []] 0]), (31, slE eFromLabelTo p0.2.2), (32, HV.int .i64 ((p0.2.2).length : Int)), (33, HV.int .i64 a7), (76, HV.bool a)], []⟩) (fun a17 w18 h => ?_) (fun k19 h => ?_)
                    · refine AW.cond rfl (fun hc => ?_) (fun hc => ?_)
                      · have h := ifT hc h
                        refine AW.rgs rfl fun K hK => ?_
                        refine mv rfl rfl ?_
                        refine b_nil (hK _ (AW.to (to_le (s' := ⟨[(2, HV.int .i64 10)], []⟩) (AS.le_of ⟨rfl, trivial⟩ trivial) ?_)))
                        clear hK K
                        have h := hr10 _ h
                        refine AW.ret ?_
                        have h := Option.some.inj h
                        subst h
                        exact ret_pure (hs := [HV.int .i64 10]) (q := HV.int .i64 10) (.inr rfl) (resT rfl rfl) rfl trivial
                      · have h := ifF (bF' hc) h
                        refine AW.skip ?_
                        refine AW.rg rfl fun K hK => ?_
                        refine bv rfl (v_bin rfl rfl b_add) ?_
                        refine mv rfl rfl ?_
                        refine b_nil (hK _ ?_)
                        clear hK K
                        exact to_le (s' := ⟨[(1, HV.fptr [HV.int .i64 p0.1, HV.int .i64 p0.2.1, slE eFromLabelTo p0.2.2] 0), (3, HV.fn (.func 161) [] [HV.fptr [HV.fn (.func 130) [] []] 0]), (31, slE eFromLabelTo p0.2.2), (32, HV.int .i64 ((p0.2.2).length : Int)), (33, HV.int .i64 (IntKind.wrap .i64 (a7 + 1)))], []⟩) (AS.le_of ⟨rfl, rfl, rfl, rfl, rfl, trivial⟩ trivial) ⟨IntKind.wrap .i64 (a7 + 1), (), h, rfl⟩
                    · refine AW.dg 14 follows rfl rfl fun K hK => ?_
                      refine sm rfl rfl ?_
                      refine sv rfl (v_bin rfl rfl b_gtr) ?_
                      refine sm rfl rfl ?_
                      by_cases hg24 : 0 < a7
                      · have h := ifT hg24 h
                        refine s_T rfl rfl rfl rfl rfl (decide_eq_true hg24) (ops_val rfl (mv_val rfl rfl).2 ?_)
                        refine s_T rfl rfl rfl rfl rfl rfl (ops_val rfl (v_fieldAddrF fo24_2 rfl) ?_)
                        refine s_T rfl rfl rfl rfl rfl rfl (ops_val rfl (v_loadF ty22 rfl (l_lit rfl rfl)) ?_)
                        refine s_T rfl rfl rfl rfl rfl rfl (ops_val rfl (mv_val rfl rfl).2 ?_)
                        refine s_T rfl rfl rfl rfl rfl rfl (ops_val rfl (v_bin rfl rfl b_sub) ?_)
                        obtain ⟨x20, h21, h⟩ := bS h
                        refine s_T rfl rfl rfl rfl rfl rfl (ops_val rfl (v_idxF ty22 es22 rfl rfl (idx_lt h21)) ?_)
                        refine s_T rfl rfl rfl rfl rfl rfl (ops_val rfl (v_loadF ty66 rfl (l_agg eFromLabelTo h21 rfl rfl)) ?_)
                        refine s_T rfl rfl rfl rfl rfl rfl (ops_val rfl (v_loadP ty66 rfl rfl (l_litA rfl (Nat.le_of_ble_eq_true rfl) rfl)) ?_)
                        obtain ⟨x22, h23, h⟩ := bS h
                        refine s_T rfl rfl rfl rfl rfl rfl (ops_call rfl rfl rfl rfl (ACallD.pure0 (w_graph_by_api_Edge_1 h23)) ?_)
                        refine s_T rfl rfl rfl rfl rfl rfl (ops_val rfl (v_bin rfl rfl b_geq) ?_)
                        refine sv rfl (v_pickT rfl rfl rfl) ?_
                        refine s_nil ?_
                        refine b_nil (hK _ ?_)
                        clear hK K
                        exact to_le (s' := ⟨[(1, HV.fptr [HV.int .i64 p0.1, HV.int .i64 p0.2.1, slE eFromLabelTo p0.2.2] 0), (3, HV.fn (.func 161) [] [HV.fptr [HV.fn (.func 130) [] []] 0]), (31, slE eFromLabelTo p0.2.2), (32, HV.int .i64 ((p0.2.2).length : Int)), (33, HV.int .i64 a7), (76, HV.bool (decide (0 ≤ x22)))], []⟩) (AS.le_of ⟨rfl, rfl, rfl, rfl, rfl, rfl, trivial⟩ trivial) ⟨decide (0 ≤ x22), (), h, rfl⟩
                      · have h := ifF hg24 h
                        refine s_F rfl rfl rfl rfl rfl (decide_eq_false hg24) ?_
                        refine s_F rfl rfl rfl rfl rfl rfl ?_
                        refine s_F rfl rfl rfl rfl rfl rfl ?_
                        refine s_F rfl rfl rfl rfl rfl rfl ?_
                        refine s_F rfl rfl rfl rfl rfl rfl ?_
                        refine s_F rfl rfl rfl rfl rfl rfl ?_
                        refine s_F rfl rfl rfl rfl rfl rfl ?_
                        refine s_F rfl rfl rfl rfl rfl rfl ?_
                        refine s_F rfl rfl rfl rfl rfl rfl ?_
                        refine s_F rfl rfl rfl rfl rfl rfl ?_
                        refine sv rfl (v_pickF rfl rfl rfl) ?_
                        refine s_nil ?_
                        refine b_nil (hK _ ?_)
                        clear hK K
                        exact to_le (s' := ⟨[(1, HV.fptr [HV.int .i64 p0.1, HV.int .i64 p0.2.1, slE eFromLabelTo p0.2.2] 0), (3, HV.fn (.func 161) [] [HV.fptr [HV.fn (.func 130) [] []] 0]), (31, slE eFromLabelTo p0.2.2), (32, HV.int .i64 ((p0.2.2).length : Int)), (33, HV.int .i64 a7), (76, HV.bool false)], []⟩) (AS.le_of ⟨rfl, rfl, rfl, rfl, rfl, rfl, trivial⟩ trivial) ⟨false, (), h, rfl⟩
                · refine AW.rg rfl fun K hK => ?_
                  refine bv rfl (v_fieldAddrP fo66_0 rfl rfl) ?_
                  refine bv rfl (v_loadP ty3 rfl rfl (l_lit rfl rfl)) ?_
                  refine bv rfl (v_fieldAddrP fo66_1 rfl rfl) ?_
                  refine bv rfl (v_loadP ty3 rfl rfl (l_lit rfl rfl)) ?_
                  refine bv rfl (v_fieldAddrP fo66_2 rfl rfl) ?_
                  refine bv rfl (v_loadP ty3 rfl rfl (l_lit rfl rfl)) ?_
                  refine bv rfl (v_min3 rfl rfl rfl rfl) ?_
                  refine bv rfl (v_bin rfl rfl b_lss) ?_
                  refine mv rfl rfl ?_
                  by_cases hg26 : (min (min x11.1 x11.2.1) x11.2.2) < 0
                  · have h := ifT hg26 h
                    refine b_F rfl rfl rfl rfl rfl (decide_eq_true hg26) ?_
                    refine b_F rfl rfl rfl rfl rfl rfl ?_
                    refine b_F rfl rfl rfl rfl rfl rfl ?_
                    refine b_F rfl rfl rfl rfl rfl rfl ?_
                    refine b_F rfl rfl rfl rfl rfl rfl ?_
                    refine b_F rfl rfl rfl rfl rfl rfl ?_
                    refine b_F rfl rfl rfl rfl rfl rfl ?_
                    refine b_F rfl rfl rfl rfl rfl rfl ?_
                    refine bv rfl (v_pickT rfl rfl rfl) ?_
                    refine mv rfl rfl ?_
                    refine b_F rfl rfl rfl rfl rfl rfl ?_
                    refine b_F rfl rfl rfl rfl rfl rfl ?_
                    refine b_F rfl rfl rfl rfl rfl rfl ?_
                    refine b_F rfl rfl rfl rfl rfl rfl ?_
                    refine b_F rfl rfl rfl rfl rfl rfl ?_
                    refine bv rfl (v_pickT rfl rfl rfl) ?_
                    refine b_nil (hK _ ?_)
                    clear hK K
                    exact to_le (s' := ⟨[(1, HV.fptr [HV.int .i64 p0.1, HV.int .i64 p0.2.1, slE eFromLabelTo p0.2.2] 0), (3, HV.fn (.func 161) [] [HV.fptr [HV.fn (.func 130) [] []] 0]), (4, HV.int .i64 a7), (5, HV.ptr 86005 v13 0), (31, slE eFromLabelTo p0.2.2), (32, HV.int .i64 ((p0.2.2).length : Int)), (33, HV.int .i64 a7), (62, HV.bool true)], [(86005, v13, .arr 3 66 [HV.int .i64 x11.1, HV.int .i64 x11.2.1, HV.int .i64 x11.2.2])]⟩) (AS.le_of ⟨rfl, rfl, rfl, rfl, rfl, rfl, rfl, rfl, trivial⟩ ⟨rfl, trivial⟩) ⟨true, (), h, rfl⟩
                  · have h := ifF hg26 h
                    refine b_T rfl rfl rfl rfl (decide_eq_false hg26) (o_val rfl (v_fieldAddrP fo66_0 rfl rfl) ?_)
                    refine b_T rfl rfl rfl rfl rfl (o_val rfl (v_loadP ty3 rfl rfl (l_lit rfl rfl)) ?_)
                    refine b_T rfl rfl rfl rfl rfl (o_val rfl (v_fieldAddrP fo66_2 rfl rfl) ?_)
                    refine b_T rfl rfl rfl rfl rfl (o_val rfl (v_loadP ty3 rfl rfl (l_lit rfl rfl)) ?_)
                    refine b_T rfl rfl rfl rfl rfl (o_val rfl (v_max rfl rfl rfl) ?_)
                    refine b_T rfl rfl rfl rfl rfl (o_val rfl (v_fieldAddrF fo24_1 rfl) ?_)
                    refine b_T rfl rfl rfl rfl rfl (o_val rfl (v_loadF ty3 rfl (l_lit rfl rfl)) ?_)
                    refine b_T rfl rfl rfl rfl rfl (o_val rfl (v_bin rfl rfl b_geq) ?_)
                    refine bv rfl (v_pickF rfl rfl rfl) ?_
                    refine mv rfl rfl ?_
                    by_cases hg25 : p0.2.1 ≤ (max x11.1 x11.2.2)
                    · have h := ifT hg25 h
                      refine b_F rfl rfl rfl rfl rfl (decide_eq_true hg25) ?_
                      refine b_F rfl rfl rfl rfl rfl rfl ?_
                      refine b_F rfl rfl rfl rfl rfl rfl ?_
                      refine b_F rfl rfl rfl rfl rfl rfl ?_
                      refine b_F rfl rfl rfl rfl rfl rfl ?_
                      refine bv rfl (v_pickT rfl rfl rfl) ?_
                      refine b_nil (hK _ ?_)
                      clear hK K
                      exact to_le (s' := ⟨[(1, HV.fptr [HV.int .i64 p0.1, HV.int .i64 p0.2.1, slE eFromLabelTo p0.2.2] 0), (3, HV.fn (.func 161) [] [HV.fptr [HV.fn (.func 130) [] []] 0]), (4, HV.int .i64 a7), (5, HV.ptr 86005 v13 0), (31, slE eFromLabelTo p0.2.2), (32, HV.int .i64 ((p0.2.2).length : Int)), (33, HV.int .i64 a7), (62, HV.bool true)], [(86005, v13, .arr 3 66 [HV.int .i64 x11.1, HV.int .i64 x11.2.1, HV.int .i64 x11.2.2])]⟩) (AS.le_of ⟨rfl, rfl, rfl, rfl, rfl, rfl, rfl, rfl, trivial⟩ ⟨rfl, trivial⟩) ⟨true, (), h, rfl⟩
                    · have h := ifF hg25 h
                      refine b_T rfl rfl rfl rfl (decide_eq_false hg25) (o_val rfl (v_fieldAddrP fo66_1 rfl rfl) ?_)
                      refine b_T rfl rfl rfl rfl rfl (o_val rfl (v_loadP ty3 rfl rfl (l_lit rfl rfl)) ?_)
                      refine b_T rfl rfl rfl rfl rfl (o_val rfl (v_fieldAddrF fo24_0 rfl) ?_)
                      refine b_T rfl rfl rfl rfl rfl (o_val rfl (v_loadF ty3 rfl (l_lit rfl rfl)) ?_)
                      refine b_T rfl rfl rfl rfl rfl (o_val rfl (v_bin rfl rfl b_geq) ?_)
                      refine bv rfl (v_pickF rfl rfl rfl) ?_
                      refine b_nil (hK _ ?_)
                      clear hK K
                      exact to_le (s' := ⟨[(1, HV.fptr [HV.int .i64 p0.1, HV.int .i64 p0.2.1, slE eFromLabelTo p0.2.2] 0), (3, HV.fn (.func 161) [] [HV.fptr [HV.fn (.func 130) [] []] 0]), (4, HV.int .i64 a7), (5, HV.ptr 86005 v13 0), (31, slE eFromLabelTo p0.2.2), (32, HV.int .i64 ((p0.2.2).length : Int)), (33, HV.int .i64 a7), (62, HV.bool (decide (p0.1 ≤ x11.2.1)))], [(86005, v13, .arr 3 66 [HV.int .i64 x11.1, HV.int .i64 x11.2.1, HV.int .i64 x11.2.2])]⟩) (AS.le_of ⟨rfl, rfl, rfl, rfl, rfl, rfl, rfl, rfl, trivial⟩ ⟨rfl, trivial⟩) ⟨decide (p0.1 ≤ x11.2.1), (), h, rfl⟩
              · have hc := of_decide_eq_false hc
                have h := ifF hc h
                refine AW.exit ?_
                exact to_le (s' := ⟨[], []⟩) (AS.le_of trivial trivial) ⟨(), (), h, rfl⟩
        · refine AW.rg rfl fun K hK => ?_
          refine bv rfl (v_fieldAddrF fo24_1 rfl) ?_
          refine bv rfl (v_loadF ty3 rfl (l_lit rfl rfl)) ?_
          refine bv rfl (v_bin rfl rfl b_gtr) ?_
          refine mv rfl rfl ?_
          by_cases hg29 : 64 < p0.2.1
          · have h := ifT hg29 h
            refine b_F rfl rfl rfl rfl rfl (decide_eq_true hg29) ?_
            refine b_F rfl rfl rfl rfl rfl rfl ?_
            refine b_F rfl rfl rfl rfl rfl rfl ?_
            refine b_F rfl rfl rfl rfl rfl rfl ?_
            refine bv rfl (v_pickT rfl rfl rfl) ?_
            refine mv rfl rfl ?_
            refine b_nil (hK _ ?_)
            clear hK K
            exact to_le (s' := ⟨[(1, HV.fptr [HV.int .i64 p0.1, HV.int .i64 p0.2.1, slE eFromLabelTo p0.2.2] 0), (19, HV.bool true)], []⟩) (AS.le_of ⟨rfl, rfl, trivial⟩ trivial) ⟨true, (), h, rfl⟩
          · have h := ifF hg29 h
            refine b_T rfl rfl rfl rfl (decide_eq_false hg29) (o_val rfl (v_fieldAddrF fo24_2 rfl) ?_)
            refine b_T rfl rfl rfl rfl rfl (o_val rfl (v_loadF ty22 rfl (l_lit rfl rfl)) ?_)
            refine b_T rfl rfl rfl rfl rfl (o_val rfl (v_lenF rfl rfl ty22 rfl) ?_)
            refine b_T rfl rfl rfl rfl rfl (o_val rfl (v_bin rfl rfl b_gtr) ?_)
            refine bv rfl (v_pickF rfl rfl rfl) ?_
            refine mv rfl rfl ?_
            refine b_nil (hK _ ?_)
            clear hK K
            exact to_le (s' := ⟨[(1, HV.fptr [HV.int .i64 p0.1, HV.int .i64 p0.2.1, slE eFromLabelTo p0.2.2] 0), (19, HV.bool (decide (1024 < ((p0.2.2).length : Int))))], []⟩) (AS.le_of ⟨rfl, rfl, trivial⟩ trivial) ⟨decide (1024 < ((p0.2.2).length : Int)), (), h, rfl⟩
  · refine AW.rg rfl fun K hK => ?_
    refine bv rfl (v_fieldAddrF fo24_0 rfl) ?_
    refine bv rfl (v_loadF ty3 rfl (l_lit rfl rfl)) ?_
    refine bv rfl (v_bin rfl rfl b_lss) ?_
    refine mv rfl rfl ?_
    by_cases hg30 : p0.1 < 1
    · have h := ifT hg30 h
      refine b_F rfl rfl rfl rfl rfl (decide_eq_true hg30) ?_
      refine b_F rfl rfl rfl rfl rfl rfl ?_
      refine b_F rfl rfl rfl rfl rfl rfl ?_
      refine bv rfl (v_pickT rfl rfl rfl) ?_
      refine mv rfl rfl ?_
      refine b_nil (hK _ ?_)
      clear hK K
      exact to_le (s' := ⟨[(1, HV.fptr [HV.int .i64 p0.1, HV.int .i64 p0.2.1, slE eFromLabelTo p0.2.2] 0), (6, HV.bool true)], []⟩) (AS.le_of ⟨rfl, rfl, trivial⟩ trivial) ⟨true, (), h, rfl⟩
    · have h := ifF hg30 h
      refine b_T rfl rfl rfl rfl (decide_eq_false hg30) (o_val rfl (v_fieldAddrF fo24_0 rfl) ?_)
      refine b_T rfl rfl rfl rfl rfl (o_val rfl (v_loadF ty3 rfl (l_lit rfl rfl)) ?_)
      refine b_T rfl rfl rfl rfl rfl (o_val rfl (v_bin rfl rfl b_gtr) ?_)
      refine bv rfl (v_pickF rfl rfl rfl) ?_
      refine mv rfl rfl ?_
      refine b_nil (hK _ ?_)
      clear hK K
      exact to_le (s' := ⟨[(1, HV.fptr [HV.int .i64 p0.1, HV.int .i64 p0.2.1, slE eFromLabelTo p0.2.2] 0), (6, HV.bool (decide (256 < p0.1)))], []⟩) (AS.le_of ⟨rfl, rfl, trivial⟩ trivial) ⟨decide (256 < p0.1), (), h, rfl⟩

set_option maxHeartbeats 1600000 in
set_option maxRecDepth 100000 in
theorem w_graph_checkSet {p0 : TLabelsStatesEdges} {p1 : List (Int)} {r : Int} (h : m_graph_checkSet p0 p1 = some r) : Pure Try.prog 177 [HV.agg [HV.int .i64 p0.1, HV.int .i64 p0.2.1, slE eFromLabelTo p0.2.2], slE eInt p1] (· = HV.int .i64 r) := by
  unfold m_graph_checkSet at h
  refine Pure.of_body Try.func177 rfl rfl (Nat.le_of_ble_eq_true rfl) fun hf => ?_
  unfold Try.f177
  dsimp only [enumS, Nat.reduceAdd]
  refine AW.rgs rfl fun K hK => ?_
  refine b_op rfl (o_box rfl rfl rfl ?_)
  refine mv rfl rfl ?_
  refine b_nil (hK _ (AW.to (to_le (s' := ⟨[(1, slE eInt p1), (2, HV.fptr [HV.int .i64 p0.1, HV.int .i64 p0.2.1, slE eFromLabelTo p0.2.2] 0)], []⟩) (AS.le_of ⟨rfl, rfl, trivial⟩ trivial) ?_)))
  clear hK K
  refine AW.seq ?_
  refine AW.rgs rfl fun K hK => ?_
  refine mv rfl rfl ?_
  refine bv rfl (v_lenF rfl rfl ty42 rfl) ?_
  refine mv rfl rfl ?_
  refine b_nil (hK _ (AW.to (to_le (s' := ⟨[(1, slE eInt p1), (2, HV.fptr [HV.int .i64 p0.1, HV.int .i64 p0.2.1, slE eFromLabelTo p0.2.2] 0), (7, slE eInt p1), (8, HV.int .i64 ((p1).length : Int)), (9, HV.int .i64 0)], []⟩) (AS.le_of ⟨rfl, rfl, rfl, rfl, rfl, trivial⟩ trivial) ?_)))
  clear hK K
  refine AW.lpR h (by first | exact up_then | exact up_to) (S := Int) (V := Unit) (fun a v => ⟨[(1, slE eInt p1), (2, HV.fptr [HV.int .i64 p0.1, HV.int .i64 p0.2.1, slE eFromLabelTo p0.2.2] 0), (7, slE eInt p1), (8, HV.int .i64 ((p1).length : Int)), (9, HV.int .i64 a)], []⟩) ?_ (X := Unit) (W := Unit) (fun a v => ⟨[], []⟩) (fun a17 w18 h => ?_) (fun a1 w2 st3 h hr4=> ?_)
  · exact to_le (s' := ⟨[(1, slE eInt p1), (2, HV.fptr [HV.int .i64 p0.1, HV.int .i64 p0.2.1, slE eFromLabelTo p0.2.2] 0), (7, slE eInt p1), (8, HV.int .i64 ((p1).length : Int)), (9, HV.int .i64 0)], []⟩) (AS.le_of ⟨rfl, rfl, rfl, rfl, rfl, trivial⟩ trivial) ⟨(), rfl⟩
  · refine AW.rgs rfl fun K hK => ?_
    refine mv rfl rfl ?_
    refine b_nil (hK _ (AW.to (to_le (s' := ⟨[(4, HV.int .i64 0)], []⟩) (AS.le_of ⟨rfl, trivial⟩ trivial) ?_)))
    clear hK K
    refine AW.ret ?_
    have h := Option.some.inj h
    subst h
    exact ret_pure (hs := [HV.int .i64 0]) (q := HV.int .i64 0) (.inr rfl) (resT rfl rfl) rfl trivial
  · refine AW.rgs rfl fun K hK => ?_
    refine bv rfl (v_bin rfl rfl b_lss) ?_
    refine b_nil (hK _ (AW.to (to_le (s' := ⟨[(1, slE eInt p1), (2, HV.fptr [HV.int .i64 p0.1, HV.int .i64 p0.2.1, slE eFromLabelTo p0.2.2] 0), (7, slE eInt p1), (8, HV.int .i64 ((p1).length : Int)), (9, HV.int .i64 a1), (10, HV.bool (decide (a1 < ((p1).length : Int))))], []⟩) (AS.le_of ⟨rfl, rfl, rfl, rfl, rfl, rfl, trivial⟩ trivial) ?_)))
    clear hK K
    refine AW.cseq rfl (fun hc => ?_) (fun hc => ?_)
    · have hc := of_decide_eq_true hc
      have h := ifT hc h
      refine AW.skip ?_
      refine AW.seq (AW.block ?_)
      refine AW.rgs rfl fun K hK => ?_
      refine mv rfl rfl ?_
      obtain ⟨x5, h6, h⟩ := bS h
      refine bv rfl (v_idxF ty42 es42 rfl rfl (idx_lt h6)) ?_
      refine bv rfl (v_loadF ty3 rfl (l_cell eInt h6 (o := 0) rfl rfl)) ?_
      refine mv rfl rfl ?_
      refine mv rfl rfl ?_
      refine b_nil (hK _ (AW.to (to_le (s' := ⟨[(1, slE eInt p1), (2, HV.fptr [HV.int .i64 p0.1, HV.int .i64 p0.2.1, slE eFromLabelTo p0.2.2] 0), (5, HV.int .i64 a1), (6, HV.int .i64 x5), (7, slE eInt p1), (8, HV.int .i64 ((p1).length : Int)), (9, HV.int .i64 a1)], []⟩) (AS.le_of ⟨rfl, rfl, rfl, rfl, rfl, rfl, rfl, trivial⟩ trivial) ?_)))
      clear hK K
      refine AW.seq ?_
      refine AW.seqJ h (S := Bool) (V := Unit) (fun a v => ⟨[(1, slE eInt p1), (2, HV.fptr [HV.int .i64 p0.1, HV.int .i64 p0.2.1, slE eFromLabelTo p0.2.2] 0), (5, HV.int .i64 a1), (6, HV.int .i64 x5), (7, slE eInt p1), (8, HV.int .i64 ((p1).length : Int)), (9, HV.int .i64 a1), (21, HV.bool a)], []⟩) (fun a7 w8 h => ?_) (fun k9 h => ?_)
      · refine AW.cond rfl (fun hc => ?_) (fun hc => ?_)
        · have h := ifT hc h
          refine AW.rgs rfl fun K hK => ?_
          refine mv rfl rfl ?_
          refine b_nil (hK _ (AW.to (to_le (s' := ⟨[(4, HV.int .i64 25)], []⟩) (AS.le_of ⟨rfl, trivial⟩ trivial) ?_)))
          clear hK K
          have h := hr4 _ h
          refine AW.ret ?_
          have h := Option.some.inj h
          subst h
          exact ret_pure (hs := [HV.int .i64 25]) (q := HV.int .i64 25) (.inr rfl) (resT rfl rfl) rfl trivial
        · have h := ifF (bF' hc) h
          refine AW.skip ?_
          refine AW.seqJ h (S := Bool) (V := Unit) (fun a v => ⟨[(1, slE eInt p1), (2, HV.fptr [HV.int .i64 p0.1, HV.int .i64 p0.2.1, slE eFromLabelTo p0.2.2] 0), (7, slE eInt p1), (8, HV.int .i64 ((p1).length : Int)), (9, HV.int .i64 a1), (32, HV.bool a)], []⟩) (fun a10 w11 h => ?_) (fun k12 h => ?_)
          · refine AW.cond rfl (fun hc => ?_) (fun hc => ?_)
            · have h := ifT hc h
              refine AW.rgs rfl fun K hK => ?_
              refine mv rfl rfl ?_
              refine b_nil (hK _ (AW.to (to_le (s' := ⟨[(4, HV.int .i64 10)], []⟩) (AS.le_of ⟨rfl, trivial⟩ trivial) ?_)))
              clear hK K
              have h := hr4 _ h
              refine AW.ret ?_
              have h := Option.some.inj h
              subst h
              exact ret_pure (hs := [HV.int .i64 10]) (q := HV.int .i64 10) (.inr rfl) (resT rfl rfl) rfl trivial
            · have h := ifF (bF' hc) h
              refine AW.skip ?_
              refine AW.rg rfl fun K hK => ?_
              refine bv rfl (v_bin rfl rfl b_add) ?_
              refine mv rfl rfl ?_
              refine b_nil (hK _ ?_)
              clear hK K
              exact to_le (s' := ⟨[(1, slE eInt p1), (2, HV.fptr [HV.int .i64 p0.1, HV.int .i64 p0.2.1, slE eFromLabelTo p0.2.2] 0), (7, slE eInt p1), (8, HV.int .i64 ((p1).length : Int)), (9, HV.int .i64 (IntKind.wrap .i64 (a1 + 1)))], []⟩) (AS.le_of ⟨rfl, rfl, rfl, rfl, rfl, trivial⟩ trivial) ⟨IntKind.wrap .i64 (a1 + 1), (), h, rfl⟩
          · refine AW.rg rfl fun K hK => ?_
            refine mv rfl rfl ?_
            refine bv rfl (v_bin rfl rfl b_gtr) ?_
            refine mv rfl rfl ?_
            by_cases hg15 : 0 < a1
            · have h := ifT hg15 h
              refine b_T rfl rfl rfl rfl (decide_eq_true hg15) (o_val rfl (mv_val rfl rfl).2 ?_)
              refine b_T rfl rfl rfl rfl rfl (o_val rfl (mv_val rfl rfl).2 ?_)
              refine b_T rfl rfl rfl rfl rfl (o_val rfl (mv_val rfl rfl).2 ?_)
              refine b_T rfl rfl rfl rfl rfl (o_val rfl (v_bin rfl rfl b_sub) ?_)
              obtain ⟨x13, h14, h⟩ := bS h
              refine b_T rfl rfl rfl rfl rfl (o_val rfl (v_idxF ty42 es42 rfl rfl (idx_lt h14)) ?_)
              refine b_T rfl rfl rfl rfl rfl (o_val rfl (v_loadF ty3 rfl (l_cell eInt h14 (o := 0) rfl rfl)) ?_)
              refine b_T rfl rfl rfl rfl rfl (o_val rfl (v_bin rfl rfl b_leq) ?_)
              refine bv rfl (v_pickT rfl rfl rfl) ?_
              refine b_nil (hK _ ?_)
              clear hK K
              exact to_le (s' := ⟨[(1, slE eInt p1), (2, HV.fptr [HV.int .i64 p0.1, HV.int .i64 p0.2.1, slE eFromLabelTo p0.2.2] 0), (7, slE eInt p1), (8, HV.int .i64 ((p1).length : Int)), (9, HV.int .i64 a1), (32, HV.bool (decide (x5 ≤ x13)))], []⟩) (AS.le_of ⟨rfl, rfl, rfl, rfl, rfl, rfl, trivial⟩ trivial) ⟨decide (x5 ≤ x13), (), h, rfl⟩
            · have h := ifF hg15 h
              refine b_F rfl rfl rfl rfl rfl (decide_eq_false hg15) ?_
              refine b_F rfl rfl rfl rfl rfl rfl ?_
              refine b_F rfl rfl rfl rfl rfl rfl ?_
              refine b_F rfl rfl rfl rfl rfl rfl ?_
              refine b_F rfl rfl rfl rfl rfl rfl ?_
              refine b_F rfl rfl rfl rfl rfl rfl ?_
              refine b_F rfl rfl rfl rfl rfl rfl ?_
              refine bv rfl (v_pickF rfl rfl rfl) ?_
              refine b_nil (hK _ ?_)
              clear hK K
              exact to_le (s' := ⟨[(1, slE eInt p1), (2, HV.fptr [HV.int .i64 p0.1, HV.int .i64 p0.2.1, slE eFromLabelTo p0.2.2] 0), (7, slE eInt p1), (8, HV.int .i64 ((p1).length : Int)), (9, HV.int .i64 a1), (32, HV.bool false)], []⟩) (AS.le_of ⟨rfl, rfl, rfl, rfl, rfl, rfl, trivial⟩ trivial) ⟨false, (), h, rfl⟩
      · refine AW.rg rfl fun K hK => ?_
        refine mv rfl rfl ?_
        refine bv rfl (v_bin rfl rfl b_lss) ?_
        refine mv rfl rfl ?_
        by_cases hg16 : x5 < 0
        · have h := ifT hg16 h
          refine b_F rfl rfl rfl rfl rfl (decide_eq_true hg16) ?_
          refine b_F rfl rfl rfl rfl rfl rfl ?_
          refine b_F rfl rfl rfl rfl rfl rfl ?_
          refine b_F rfl rfl rfl rfl rfl rfl ?_
          refine bv rfl (v_pickT rfl rfl rfl) ?_
          refine b_nil (hK _ ?_)
          clear hK K
          exact to_le (s' := ⟨[(1, slE eInt p1), (2, HV.fptr [HV.int .i64 p0.1, HV.int .i64 p0.2.1, slE eFromLabelTo p0.2.2] 0), (5, HV.int .i64 a1), (6, HV.int .i64 x5), (7, slE eInt p1), (8, HV.int .i64 ((p1).length : Int)), (9, HV.int .i64 a1), (21, HV.bool true)], []⟩) (AS.le_of ⟨rfl, rfl, rfl, rfl, rfl, rfl, rfl, rfl, trivial⟩ trivial) ⟨true, (), h, rfl⟩
        · have h := ifF hg16 h
          refine b_T rfl rfl rfl rfl (decide_eq_false hg16) (o_val rfl (mv_val rfl rfl).2 ?_)
          refine b_T rfl rfl rfl rfl rfl (o_val rfl (v_fieldAddrF fo24_1 rfl) ?_)
          refine b_T rfl rfl rfl rfl rfl (o_val rfl (v_loadF ty3 rfl (l_lit rfl rfl)) ?_)
          refine b_T rfl rfl rfl rfl rfl (o_val rfl (v_bin rfl rfl b_geq) ?_)
          refine bv rfl (v_pickF rfl rfl rfl) ?_
          refine b_nil (hK _ ?_)
          clear hK K
          exact to_le (s' := ⟨[(1, slE eInt p1), (2, HV.fptr [HV.int .i64 p0.1, HV.int .i64 p0.2.1, slE eFromLabelTo p0.2.2] 0), (5, HV.int .i64 a1), (6, HV.int .i64 x5), (7, slE eInt p1), (8, HV.int .i64 ((p1).length : Int)), (9, HV.int .i64 a1), (21, HV.bool (decide (p0.2.1 ≤ x5)))], []⟩) (AS.le_of ⟨rfl, rfl, rfl, rfl, rfl, rfl, rfl, rfl, trivial⟩ trivial) ⟨decide (p0.2.1 ≤ x5), (), h, rfl⟩
    · have hc := of_decide_eq_false hc
      have h := ifF hc h
      refine AW.exit ?_
      exact to_le (s' := ⟨[], []⟩) (AS.le_of trivial trivial) ⟨(), (), h, rfl⟩

set_option maxHeartbeats 1600000 in
set_option maxRecDepth 100000 in
theorem w_graph_leaving (p0 : TLabelsStatesEdges) (p1 : Int) : Pure Try.prog 178 [HV.agg [HV.int .i64 p0.1, HV.int .i64 p0.2.1, slE eFromLabelTo p0.2.2], HV.int .i64 p1] (· = HV.fn (.func 186) [] [HV.fptr [HV.int .i64 p0.1, HV.int .i64 p0.2.1, slE eFromLabelTo p0.2.2] 0, HV.fptr [HV.int .i64 p1] 0]) := by
  refine Pure.of_body Try.func178 rfl rfl (Nat.le_of_ble_eq_true rfl) fun hf => ?_
  unfold Try.f178
  dsimp only [enumS, Nat.reduceAdd]
  refine AW.rgs rfl fun K hK => ?_
  refine b_op rfl (o_box rfl rfl rfl ?_)
  refine b_op rfl (o_box rfl rfl rfl ?_)
  refine mv rfl rfl ?_
  refine b_nil (hK _ (AW.to (to_le (s' := ⟨[(2, HV.fptr [HV.int .i64 p0.1, HV.int .i64 p0.2.1, slE eFromLabelTo p0.2.2] 0), (3, HV.fptr [HV.int .i64 p1] 0)], []⟩) (AS.le_of ⟨rfl, rfl, trivial⟩ trivial) ?_)))
  clear hK K
  refine AW.rgs rfl fun K hK => ?_
  refine bv rfl (v_func rfl rfl) ?_
  refine mv rfl rfl ?_
  refine b_nil (hK _ (AW.to (to_le (s' := ⟨[(4, HV.fn (.func 186) [] [HV.fptr [HV.int .i64 p0.1, HV.int .i64 p0.2.1, slE eFromLabelTo p0.2.2] 0, HV.fptr [HV.int .i64 p1] 0])], []⟩) (AS.le_of ⟨rfl, trivial⟩ trivial) ?_)))
  clear hK K
  refine AW.ret ?_
  exact ret_pure (hs := [HV.fn (.func 186) [] [HV.fptr [HV.int .i64 p0.1, HV.int .i64 p0.2.1, slE eFromLabelTo p0.2.2] 0, HV.fptr [HV.int .i64 p1] 0]]) (q := HV.fn (.func 186) [] [HV.fptr [HV.int .i64 p0.1, HV.int .i64 p0.2.1, slE eFromLabelTo p0.2.2] 0, HV.fptr [HV.int .i64 p1] 0]) (.inr rfl) (resT rfl rfl) rfl ⟨trivial, ⟨⟨trivial, trivial, (clean_slE fun _ _ => ⟨trivial, trivial, trivial, trivial⟩), trivial⟩, ⟨trivial, trivial⟩, trivial⟩⟩

end Go.AW

namespace Go.AW
open Go Go.Proofs
set_option linter.unusedVariables false
set_option maxHeartbeats 1600000 in
set_option maxRecDepth 100000 in
theorem w_graph_Step {p0 : TLabelsStatesEdges} {p1 : List (Int)} {p2 : Int} {r : (List (Int)) × Int} (h : m_graph_Step p0 p1 p2 = some r) : Pure Try.prog 159 [HV.agg [HV.int .i64 p0.1, HV.int .i64 p0.2.1, slE eFromLabelTo p0.2.2], slE eInt p1, HV.int .i64 p2] (· = HV.tup [slE eInt r.1, HV.int .i64 r.2]) := by
  unfold m_graph_Step at h
  refine Pure.of_body Try.func159 rfl rfl (Nat.le_of_ble_eq_true rfl) fun hf => ?_
  unfold Try.f159
  dsimp only [enumS, Nat.reduceAdd]
  refine AW.rgs rfl fun K hK => ?_
  refine b_op rfl (o_box rfl rfl rfl ?_)
  refine b_op rfl (o_box rfl rfl rfl ?_)
  refine mv rfl rfl ?_
  refine mv rfl rfl ?_
  refine b_nil (hK _ (AW.to (to_le (s' := ⟨[(1, slE eInt p1), (3, HV.fptr [HV.int .i64 p0.1, HV.int .i64 p0.2.1, slE eFromLabelTo p0.2.2] 0), (5, HV.fptr [HV.int .i64 p2] 0)], []⟩) (AS.le_of ⟨rfl, rfl, rfl, trivial⟩ trivial) ?_)))
  clear hK K
  refine AW.seq ?_
  refine AW.rgs rfl fun K hK => ?_
  refine bv rfl (v_loadF ty24 rfl (l_litA rfl (Nat.le_of_ble_eq_true rfl) rfl)) ?_
  obtain ⟨x1, h2, h⟩ := bS h
  refine b_op rfl (o_call rfl rfl rfl rfl (ACallD.pure0 (w_graph_Check h2)) ?_)
  refine bv rfl (v_bin rfl rfl b_neq) ?_
  refine b_nil (hK _ (AW.to (to_le (s' := ⟨[(1, slE eInt p1), (3, HV.fptr [HV.int .i64 p0.1, HV.int .i64 p0.2.1, slE eFromLabelTo p0.2.2] 0), (5, HV.fptr [HV.int .i64 p2] 0), (16, HV.bool (decide (x1 ≠ 0)))], []⟩) (AS.le_of ⟨rfl, rfl, rfl, rfl, trivial⟩ trivial) ?_)))
  clear hK K
  refine AW.cond rfl (fun hc => ?_) (fun hc => ?_)
  · have hc := of_decide_eq_true hc
    have h := ifT hc h
    refine AW.rgs rfl fun K hK => ?_
    refine mv rfl rfl ?_
    refine mv rfl rfl ?_
    refine b_nil (hK _ (AW.to (to_le (s' := ⟨[(6, HV.v (.slice none 0 0)), (7, HV.int .i64 1)], []⟩) (AS.le_of ⟨rfl, rfl, trivial⟩ trivial) ?_)))
    clear hK K
    refine AW.to (to_weak ⟨[(6, slE eInt ([] : List Int)), (7, HV.int .i64 1)], []⟩ ⟨⟨_, rfl, .nil _⟩, ⟨_, rfl, .refl _⟩, trivial⟩ trivial ?_)
    refine AW.ret ?_
    have h := Option.some.inj h
    subst h
    exact ret_pure (hs := [slE eInt ([] : List Int), HV.int .i64 1]) (q := HV.tup [slE eInt ([] : List Int), HV.int .i64 1]) (.inr rfl) (resT rfl (resT rfl rfl)) rfl ⟨(clean_slE fun _ _ => ⟨trivial, trivial⟩), trivial, trivial⟩
  · have hc := of_decide_eq_false hc
    have h := ifF hc h
    refine AW.skip ?_
    refine AW.seq ?_
    refine AW.rgs rfl fun K hK => ?_
    refine bv rfl (v_loadF ty24 rfl (l_litA rfl (Nat.le_of_ble_eq_true rfl) rfl)) ?_
    refine mv rfl rfl ?_
    obtain ⟨x3, h4, h⟩ := bS h
    refine b_op rfl (o_call rfl rfl rfl rfl (ACallD.pure0 (w_graph_checkSet h4)) ?_)
    refine mv rfl rfl ?_
    refine b_nil (hK _ (AW.to (to_le (s' := ⟨[(1, slE eInt p1), (3, HV.fptr [HV.int .i64 p0.1, HV.int .i64 p0.2.1, slE eFromLabelTo p0.2.2] 0), (5, HV.fptr [HV.int .i64 p2] 0), (8, HV.int .i64 x3)], []⟩) (AS.le_of ⟨rfl, rfl, rfl, rfl, trivial⟩ trivial) ?_)))
    clear hK K
    refine AW.rgs rfl fun K hK => ?_
    refine mv rfl rfl ?_
    refine bv rfl (v_bin rfl rfl b_neq) ?_
    refine b_nil (hK _ (AW.to (to_le (s' := ⟨[(1, slE eInt p1), (3, HV.fptr [HV.int .i64 p0.1, HV.int .i64 p0.2.1, slE eFromLabelTo p0.2.2] 0), (5, HV.fptr [HV.int .i64 p2] 0), (8, HV.int .i64 x3), (21, HV.bool (decide (x3 ≠ 0)))], []⟩) (AS.le_of ⟨rfl, rfl, rfl, rfl, rfl, trivial⟩ trivial) ?_)))
    clear hK K
    refine AW.cond rfl (fun hc => ?_) (fun hc => ?_)
    · have hc := of_decide_eq_true hc
      have h := ifT hc h
      refine AW.rgs rfl fun K hK => ?_
      refine mv rfl rfl ?_
      refine mv rfl rfl ?_
      refine mv rfl rfl ?_
      refine b_nil (hK _ (AW.to (to_le (s' := ⟨[(6, HV.v (.slice none 0 0)), (7, HV.int .i64 x3)], []⟩) (AS.le_of ⟨rfl, rfl, trivial⟩ trivial) ?_)))
      clear hK K
      refine AW.to (to_weak ⟨[(6, slE eInt ([] : List Int)), (7, HV.int .i64 x3)], []⟩ ⟨⟨_, rfl, .nil _⟩, ⟨_, rfl, .refl _⟩, trivial⟩ trivial ?_)
      refine AW.ret ?_
      have h := Option.some.inj h
      subst h
      exact ret_pure (hs := [slE eInt ([] : List Int), HV.int .i64 x3]) (q := HV.tup [slE eInt ([] : List Int), HV.int .i64 x3]) (.inr rfl) (resT rfl (resT rfl rfl)) rfl ⟨(clean_slE fun _ _ => ⟨trivial, trivial⟩), trivial, trivial⟩
    · have hc := of_decide_eq_false hc
      have h := ifF hc h
      refine AW.skip ?_
      refine AW.seq ?_
      refine AW.seqJ h (S := Bool) (V := Unit) (fun a v => ⟨[(1, slE eInt p1), (3, HV.fptr [HV.int .i64 p0.1, HV.int .i64 p0.2.1, slE eFromLabelTo p0.2.2] 0), (5, HV.fptr [HV.int .i64 p2] 0), (30, HV.bool a)], []⟩) (fun a5 w6 h => ?_) (fun k7 h => ?_)
      · refine AW.cond rfl (fun hc => ?_) (fun hc => ?_)
        · have h := ifT hc h
          refine AW.rgs rfl fun K hK => ?_
          refine mv rfl rfl ?_
          refine mv rfl rfl ?_
          refine b_nil (hK _ (AW.to (to_le (s' := ⟨[(6, HV.v (.slice none 0 0)), (7, HV.int .i64 2)], []⟩) (AS.le_of ⟨rfl, rfl, trivial⟩ trivial) ?_)))
          clear hK K
          refine AW.to (to_weak ⟨[(6, slE eInt ([] : List Int)), (7, HV.int .i64 2)], []⟩ ⟨⟨_, rfl, .nil _⟩, ⟨_, rfl, .refl _⟩, trivial⟩ trivial ?_)
          refine AW.ret ?_
          have h := Option.some.inj h
          subst h
          exact ret_pure (hs := [slE eInt ([] : List Int), HV.int .i64 2]) (q := HV.tup [slE eInt ([] : List Int), HV.int .i64 2]) (.inr rfl) (resT rfl (resT rfl rfl)) rfl ⟨(clean_slE fun _ _ => ⟨trivial, trivial⟩), trivial, trivial⟩
        · have h := ifF (bF' hc) h
          refine AW.skip ?_
          refine AW.rgs rfl fun K hK => ?_
          refine b_op rfl (o_alloc (fid := 159) (zs := [HV.v (.slice none 0 0)]) 159009 rfl rfl ty42 rfl (fun v8 => ?_))
          refine b_nil (hK _ (AW.to (to_le (s' := ⟨[(1, slE eInt p1), (3, HV.fptr [HV.int .i64 p0.1, HV.int .i64 p0.2.1, slE eFromLabelTo p0.2.2] 0), (5, HV.fptr [HV.int .i64 p2] 0), (9, HV.ptr 159009 v8 0)], [(159009, v8, .arr 1 42 [HV.v (.slice none 0 0)])]⟩) (AS.le_of ⟨rfl, rfl, rfl, rfl, trivial⟩ ⟨rfl, trivial⟩) ?_)))
          clear hK K
          refine AW.seq ?_
          refine AW.rgs rfl fun K hK => ?_
          refine mv rfl rfl ?_
          refine bv rfl (v_lenF rfl rfl ty42 rfl) ?_
          refine mv rfl rfl ?_
          refine b_nil (hK _ (AW.to (to_le (s' := ⟨[(3, HV.fptr [HV.int .i64 p0.1, HV.int .i64 p0.2.1, slE eFromLabelTo p0.2.2] 0), (5, HV.fptr [HV.int .i64 p2] 0), (9, HV.ptr 159009 v8 0), (31, slE eInt p1), (32, HV.int .i64 ((p1).length : Int)), (33, HV.int .i64 0)], [(159009, v8, .arr 1 42 [HV.v (.slice none 0 0)])]⟩) (AS.le_of ⟨rfl, rfl, rfl, rfl, rfl, rfl, trivial⟩ ⟨rfl, trivial⟩) ?_)))
          clear hK K
          refine AW.lpX h (by first | exact up_then | exact up_to) (S := Int × (List Int)) (V := Nat) (fun a v => ⟨[(3, HV.fptr [HV.int .i64 p0.1, HV.int .i64 p0.2.1, slE eFromLabelTo p0.2.2] 0), (5, HV.fptr [HV.int .i64 p2] 0), (9, HV.ptr 159009 v8 0), (31, slE eInt p1), (32, HV.int .i64 ((p1).length : Int)), (33, HV.int .i64 a.1)], [(159009, v8, .arr 1 42 [HV.ar 159050 v eInt.k 0 ((a.2).length)]), (159050, v, .arr eInt.k 3 (eInt.E a.2))]⟩) ?_ (X := (List Int)) (W := Nat) (fun a v => ⟨[(9, HV.ptr 159009 v8 0)], [(159009, v8, .arr 1 42 [HV.ar 159050 v eInt.k 0 ((a).length)]), (159050, v, .arr eInt.k 3 (eInt.E a))]⟩) (fun a31 w32 h => ?_) (fun a9 w10 st11 h => ?_)
          · refine to_bind (to_ownC 159050 159009 v8 1 0 eInt.k 3 42 rfl rfl (by decide) fun v30 => ?_)
            exact to_le (s' := ⟨[(3, HV.fptr [HV.int .i64 p0.1, HV.int .i64 p0.2.1, slE eFromLabelTo p0.2.2] 0), (5, HV.fptr [HV.int .i64 p2] 0), (9, HV.ptr 159009 v8 0), (31, slE eInt p1), (32, HV.int .i64 ((p1).length : Int)), (33, HV.int .i64 0)], [(159009, v8, .arr 1 42 [HV.ar 159050 v30 eInt.k 0 ((([] : List Int)).length)]), (159050, v30, .arr eInt.k 3 (eInt.E ([] : List Int)))]⟩) (AS.le_of ⟨rfl, rfl, rfl, rfl, rfl, rfl, trivial⟩ ⟨hle rfl (by first | rfl | simp only [List.length_set, sortI_len, sortS_len]), rfl, trivial⟩) ⟨v30, rfl⟩
          · refine AW.rgs rfl fun K hK => ?_
            refine bv rfl (v_loadP ty42 rfl rfl (l_lit rfl rfl)) ?_
            obtain ⟨h33, h⟩ := ifN h
            refine b_op rfl (o_sortI c_sortI (l := a31) rfl rfl rfl rfl h33 ?_)
            refine b_nil (hK _ (AW.to (to_le (s' := ⟨[(9, HV.ptr 159009 v8 0)], [(159009, v8, .arr 1 42 [HV.ar 159050 w32 eInt.k 0 ((sortI a31).length)]), (159050, w32, .arr eInt.k 3 (eInt.E (sortI a31)))]⟩) (AS.le_of ⟨rfl, trivial⟩ ⟨hle rfl (by first | rfl | simp only [List.length_set, sortI_len, sortS_len]), rfl, trivial⟩) ?_)))
            clear hK K
            refine AW.rgs rfl fun K hK => ?_
            refine bv rfl (v_loadP ty42 rfl rfl (l_lit rfl rfl)) ?_
            refine b_op rfl (o_callK (q := slE eInt (compact_ (sortI a31))) [(159009, v8, .arr 1 42 [HV.ar 159050 w32 eInt.k 0 ((sortI a31).length)])] rfl rfl rfl rfl (fun K hK => c_compactI (H' := [(159009, v8, .arr 1 42 [HV.ar 159050 w32 eInt.k 0 ((sortI a31).length)])]) (l := sortI a31) rfl rfl (leH_get ⟨rfl, trivial⟩) rfl hK) ?_)
            refine mv rfl rfl ?_
            refine mv rfl rfl ?_
            refine b_nil (hK _ (AW.to (to_le (s' := ⟨[(6, slE eInt (compact_ (sortI a31))), (7, HV.int .i64 0)], []⟩) (AS.le_of ⟨rfl, rfl, trivial⟩ trivial) ?_)))
            clear hK K
            refine AW.ret ?_
            have h := Option.some.inj h
            subst h
            exact ret_pure (hs := [slE eInt (compact_ (sortI a31)), HV.int .i64 0]) (q := HV.tup [slE eInt (compact_ (sortI a31)), HV.int .i64 0]) (.inr rfl) (resT rfl (resT rfl rfl)) rfl ⟨(clean_slE fun _ _ => ⟨trivial, trivial⟩), trivial, trivial⟩
          · refine AW.rgs rfl fun K hK => ?_
            refine bv rfl (v_bin rfl rfl b_lss) ?_
            refine b_nil (hK _ (AW.to (to_le (s' := ⟨[(3, HV.fptr [HV.int .i64 p0.1, HV.int .i64 p0.2.1, slE eFromLabelTo p0.2.2] 0), (5, HV.fptr [HV.int .i64 p2] 0), (9, HV.ptr 159009 v8 0), (31, slE eInt p1), (32, HV.int .i64 ((p1).length : Int)), (33, HV.int .i64 a9.1), (34, HV.bool (decide (a9.1 < ((p1).length : Int))))], [(159009, v8, .arr 1 42 [HV.ar 159050 w10 eInt.k 0 ((a9.2).length)]), (159050, w10, .arr eInt.k 3 (eInt.E a9.2))]⟩) (AS.le_of ⟨rfl, rfl, rfl, rfl, rfl, rfl, rfl, trivial⟩ ⟨rfl, rfl, trivial⟩) ?_)))
            clear hK K
            refine AW.cseq rfl (fun hc => ?_) (fun hc => ?_)
            · have hc := of_decide_eq_true hc
              have h := ifT hc h
              refine AW.skip ?_
              refine AW.seq (AW.block ?_)
              refine AW.rgs rfl fun K hK => ?_
              obtain ⟨x13, h14, h⟩ := bS h
              refine bv rfl (v_idxF ty42 es42 rfl rfl (idx_lt h14)) ?_
              refine bv rfl (v_loadF ty3 rfl (l_cell eInt h14 (o := 0) rfl rfl)) ?_
              refine mv rfl rfl ?_
              refine b_nil (hK _ (AW.to (to_le (s' := ⟨[(3, HV.fptr [HV.int .i64 p0.1, HV.int .i64 p0.2.1, slE eFromLabelTo p0.2.2] 0), (5, HV.fptr [HV.int .i64 p2] 0), (9, HV.ptr 159009 v8 0), (11, HV.int .i64 x13), (31, slE eInt p1), (32, HV.int .i64 ((p1).length : Int)), (33, HV.int .i64 a9.1)], [(159009, v8, .arr 1 42 [HV.ar 159050 w10 eInt.k 0 ((a9.2).length)]), (159050, w10, .arr eInt.k 3 (eInt.E a9.2))]⟩) (AS.le_of ⟨rfl, rfl, rfl, rfl, rfl, rfl, rfl, trivial⟩ ⟨rfl, rfl, trivial⟩) ?_)))
              clear hK K
              refine AW.rgs rfl fun K hK => ?_
              refine bv rfl (v_loadF ty24 rfl (l_litA rfl (Nat.le_of_ble_eq_true rfl) rfl)) ?_
              refine mv rfl rfl ?_
              refine b_op rfl (o_call rfl rfl rfl rfl (ACallD.pure0 (w_graph_leaving p0 x13)) ?_)
              refine b_nil (hK _ (AW.to (to_le (s' := ⟨[(3, HV.fptr [HV.int .i64 p0.1, HV.int .i64 p0.2.1, slE eFromLabelTo p0.2.2] 0), (5, HV.fptr [HV.int .i64 p2] 0), (9, HV.ptr 159009 v8 0), (31, slE eInt p1), (32, HV.int .i64 ((p1).length : Int)), (33, HV.int .i64 a9.1), (39, HV.fn (.func 186) [] [HV.fptr [HV.int .i64 p0.1, HV.int .i64 p0.2.1, slE eFromLabelTo p0.2.2] 0, HV.fptr [HV.int .i64 x13] 0])], [(159009, v8, .arr 1 42 [HV.ar 159050 w10 eInt.k 0 ((a9.2).length)]), (159050, w10, .arr eInt.k 3 (eInt.E a9.2))]⟩) (AS.le_of ⟨rfl, rfl, rfl, rfl, rfl, rfl, rfl, trivial⟩ ⟨rfl, rfl, trivial⟩) ?_)))
              clear hK K
              refine AW.block ?_
              refine AW.to (to_le (s' := ⟨[(3, HV.fptr [HV.int .i64 p0.1, HV.int .i64 p0.2.1, slE eFromLabelTo p0.2.2] 0), (5, HV.fptr [HV.int .i64 p2] 0), (9, HV.ptr 159009 v8 0), (31, slE eInt p1), (32, HV.int .i64 ((p1).length : Int)), (33, HV.int .i64 a9.1), (39, HV.fn (.func 186) [] [HV.fptr [HV.int .i64 p0.1, HV.int .i64 p0.2.1, slE eFromLabelTo p0.2.2] 0, HV.fptr [HV.int .i64 x13] 0])], [(159009, v8, .arr 1 42 [HV.ar 159050 w10 eInt.k 0 ((a9.2).length)]), (159050, w10, .arr eInt.k 3 (eInt.E a9.2))]⟩) (AS.le_of ⟨rfl, rfl, rfl, rfl, rfl, rfl, rfl, trivial⟩ ⟨rfl, rfl, trivial⟩) ?_)
              obtain ⟨L15, h16, h⟩ := bS h
              refine AW.rangeY (c := .ret) 159915 (fun x => [HV.int .i64 x.1, HV.agg [HV.int .i64 x.2.1, HV.int .i64 x.2.2.1, HV.int .i64 x.2.2.2]]) h (by first | exact up_then | exact up_to) rfl (iy_graph_leaving h16) (S := (List Int)) (V := Nat) (fun a v => [(159009, v8, .arr 1 42 [HV.ar 159050 v eInt.k 0 ((a).length)]), (159050, v, .arr eInt.k 3 (eInt.E a))]) w10 (X := Unit) (W := Unit) (fun _ _ => []) (fun _ _ => rfl) (fun _ _ => rfl) rfl (fun _ => rfl) (fun a26 w27 h => ?_) (fun a28 w29 h => ?_) (fun Lo l22 v20 a17 x19 w18 st21 h => ?_)
              · refine AW.rg rfl fun K hK => ?_
                refine bv rfl (v_bin rfl rfl b_add) ?_
                refine mv rfl rfl ?_
                refine b_nil (hK _ ?_)
                clear hK K
                exact to_le (s' := ⟨[(3, HV.fptr [HV.int .i64 p0.1, HV.int .i64 p0.2.1, slE eFromLabelTo p0.2.2] 0), (5, HV.fptr [HV.int .i64 p2] 0), (9, HV.ptr 159009 v8 0), (31, slE eInt p1), (32, HV.int .i64 ((p1).length : Int)), (33, HV.int .i64 (IntKind.wrap .i64 (a9.1 + 1)))], [(159009, v8, .arr 1 42 [HV.ar 159050 w27 eInt.k 0 ((a26).length)]), (159050, w27, .arr eInt.k 3 (eInt.E a26))]⟩) (AS.le_of ⟨rfl, rfl, rfl, rfl, rfl, rfl, trivial⟩ ⟨rfl, rfl, trivial⟩) ⟨(IntKind.wrap .i64 (a9.1 + 1), a26), w27, h, rfl⟩
              · cases h
              · refine AW.rg rfl fun K hK => ?_
                refine b_op rfl (o_alloc (fid := 159) (zs := [HV.int .i64 0, HV.int .i64 0, HV.int .i64 0]) 159013 rfl rfl ty66 rfl (fun v23 => ?_))
                refine b_op rfl (o_store (cs := [HV.int .i64 x19.2.1, HV.int .i64 x19.2.2.1, HV.int .i64 x19.2.2.2]) (zs := [HV.int .i64 x19.2.1, HV.int .i64 x19.2.2.1, HV.int .i64 x19.2.2.2]) rfl rfl rfl ty66 rfl rfl rfl rfl rfl ?_)
                refine b_nil (hK _ ?_)
                clear hK K
                refine ⟨rfl, rfl, ?_⟩
                refine AW.block ?_
                refine AW.rgs rfl fun K hK => ?_
                refine bv rfl (v_fieldAddrP fo66_1 rfl rfl) ?_
                refine bv rfl (v_loadP ty3 rfl rfl (l_lit rfl rfl)) ?_
                refine bv rfl (v_loadF ty3 rfl (l_lit rfl rfl)) ?_
                refine bv rfl (v_bin rfl rfl b_eql) ?_
                refine b_nil (hK _ (AW.to (to_le (s' := ⟨[(3, HV.fptr [HV.int .i64 p0.1, HV.int .i64 p0.2.1, slE eFromLabelTo p0.2.2] 0), (5, HV.fptr [HV.int .i64 p2] 0), (9, HV.ptr 159009 v8 0), (13, HV.ptr 159013 v23 0), (31, slE eInt p1), (32, HV.int .i64 ((p1).length : Int)), (33, HV.int .i64 a9.1), (41, HV.agg [HV.int .i64 x19.2.1, HV.int .i64 x19.2.2.1, HV.int .i64 x19.2.2.2]), (45, HV.bool (decide (x19.2.2.1 = p2)))], [(159915, v20, Lo .busy none), (159009, v8, .arr 1 42 [HV.ar 159050 w18 eInt.k 0 ((a17).length)]), (159050, w18, .arr eInt.k 3 (eInt.E a17)), (159013, v23, .arr 3 66 [HV.int .i64 x19.2.1, HV.int .i64 x19.2.2.1, HV.int .i64 x19.2.2.2])]⟩) (AS.le_of ⟨rfl, rfl, rfl, rfl, rfl, rfl, rfl, rfl, rfl, trivial⟩ ⟨rfl, rfl, rfl, rfl, trivial⟩) ?_)))
                clear hK K
                refine AW.cond rfl (fun hc => ?_) (fun hc => ?_)
                · have hc := of_decide_eq_true hc
                  have h := ifT hc h
                  refine AW.rg rfl fun K hK => ?_
                  refine bv rfl (v_loadP ty42 rfl rfl (l_lit rfl rfl)) ?_
                  refine bv rfl (v_fieldAddrP fo66_2 rfl rfl) ?_
                  refine bv rfl (v_loadP ty3 rfl rfl (l_lit rfl rfl)) ?_
                  refine b_op rfl (o_bsl rfl rfl (as_of (cs := [HV.int .i64 x19.2.2.2]) ty42 ty3 rfl rfl rfl rfl rfl) ?_)
                  obtain ⟨h25, h⟩ := ifN h
                  refine b_op rfl (o_appE eInt (l := a17) (m := [x19.2.2.2]) rfl rfl ty42 ty42 ty3 rfl rfl rfl rfl rfl h25 (fun v24 => ?_))
                  refine b_op rfl (o_store (cs := [HV.ar 159050 v24 eInt.k 0 ((a17 ++ [x19.2.2.2]).length)]) (zs := [HV.ar 159050 v24 eInt.k 0 ((a17 ++ [x19.2.2.2]).length)]) rfl rfl rfl ty42 rfl rfl rfl rfl rfl ?_)
                  refine b_nil (hK _ ?_)
                  clear hK K
                  exact ⟨a17 ++ [x19.2.2.2], v24, h, (AS.le_of trivial ⟨rfl, rfl, rfl, trivial⟩)⟩
                · have hc := of_decide_eq_false hc
                  have h := ifF hc h
                  refine AW.skip ?_
                  exact ⟨a17, w18, h, (AS.le_of trivial ⟨rfl, rfl, rfl, trivial⟩)⟩
            · have hc := of_decide_eq_false hc
              have h := ifF hc h
              refine AW.exit ?_
              exact to_le (s' := ⟨[(9, HV.ptr 159009 v8 0)], [(159009, v8, .arr 1 42 [HV.ar 159050 w10 eInt.k 0 ((a9.2).length)]), (159050, w10, .arr eInt.k 3 (eInt.E a9.2))]⟩) (AS.le_of ⟨rfl, trivial⟩ ⟨rfl, rfl, trivial⟩) ⟨a9.2, w10, h, rfl⟩
      · refine AW.rg rfl fun K hK => ?_
        refine bv rfl (v_loadF ty3 rfl (l_lit rfl rfl)) ?_
        refine bv rfl (v_bin rfl rfl b_lss) ?_
        refine mv rfl rfl ?_
        by_cases hg34 : p2 < 0
        · have h := ifT hg34 h
          refine b_F rfl rfl rfl rfl rfl (decide_eq_true hg34) ?_
          refine b_F rfl rfl rfl rfl rfl rfl ?_
          refine b_F rfl rfl rfl rfl rfl rfl ?_
          refine b_F rfl rfl rfl rfl rfl rfl ?_
          refine bv rfl (v_pickT rfl rfl rfl) ?_
          refine b_nil (hK _ ?_)
          clear hK K
          exact to_le (s' := ⟨[(1, slE eInt p1), (3, HV.fptr [HV.int .i64 p0.1, HV.int .i64 p0.2.1, slE eFromLabelTo p0.2.2] 0), (5, HV.fptr [HV.int .i64 p2] 0), (30, HV.bool true)], []⟩) (AS.le_of ⟨rfl, rfl, rfl, rfl, trivial⟩ trivial) ⟨true, (), h, rfl⟩
        · have h := ifF hg34 h
          refine b_T rfl rfl rfl rfl (decide_eq_false hg34) (o_val rfl (v_loadF ty3 rfl (l_lit rfl rfl)) ?_)
          refine b_T rfl rfl rfl rfl rfl (o_val rfl (v_fieldAddrF fo24_0 rfl) ?_)
          refine b_T rfl rfl rfl rfl rfl (o_val rfl (v_loadF ty3 rfl (l_lit rfl rfl)) ?_)
          refine b_T rfl rfl rfl rfl rfl (o_val rfl (v_bin rfl rfl b_geq) ?_)
          refine bv rfl (v_pickF rfl rfl rfl) ?_
          refine b_nil (hK _ ?_)
          clear hK K
          exact to_le (s' := ⟨[(1, slE eInt p1), (3, HV.fptr [HV.int .i64 p0.1, HV.int .i64 p0.2.1, slE eFromLabelTo p0.2.2] 0), (5, HV.fptr [HV.int .i64 p2] 0), (30, HV.bool (decide (p0.1 ≤ p2)))], []⟩) (AS.le_of ⟨rfl, rfl, rfl, rfl, trivial⟩ trivial) ⟨decide (p0.1 ≤ p2), (), h, rfl⟩

set_option maxHeartbeats 1600000 in
set_option maxRecDepth 100000 in
theorem w_language_step {p0 : TLabelsStatesEdges} {p1 : List (Int)} {p2 : Int} {r : (List (Int))} (h : m_language_step p0 p1 p2 = some r) : Pure Try.prog 125 [HV.agg [HV.int .i64 p0.1, HV.int .i64 p0.2.1, slE eFromLabelTo p0.2.2], slE eInt p1, HV.int .u8 p2] (· = slE eInt r) := by
  unfold m_language_step at h
  refine Pure.of_body Try.func125 rfl rfl (Nat.le_of_ble_eq_true rfl) fun hf => ?_
  unfold Try.f125
  dsimp only [enumS, Nat.reduceAdd]
  refine AW.rgs rfl fun K hK => ?_
  refine b_op rfl (o_box rfl rfl rfl ?_)
  refine mv rfl rfl ?_
  refine b_nil (hK _ (AW.to (to_le (s' := ⟨[(1, slE eInt p1), (2, HV.int .u8 p2), (3, HV.fptr [HV.int .i64 p0.1, HV.int .i64 p0.2.1, slE eFromLabelTo p0.2.2] 0)], []⟩) (AS.le_of ⟨rfl, rfl, rfl, trivial⟩ trivial) ?_)))
  clear hK K
  refine AW.dgs 10 follows rfl rfl fun K hK => ?_
  refine sv rfl (v_loadF ty24 rfl (l_litA rfl (Nat.le_of_ble_eq_true rfl) rfl)) ?_
  refine sm rfl rfl ?_
  refine sm rfl rfl ?_
  obtain ⟨x1, h2, h⟩ := bS h
  refine s_op rfl rfl (ops_call rfl rfl rfl rfl (ACallD.pure0 (w_strings_IndexByte h2)) ?_)
  obtain ⟨x3, h4, h⟩ := bS h
  refine s_op rfl rfl (ops_call rfl rfl rfl rfl (ACallD.pure0 (w_graph_Step h4)) ?_)
  refine sm rfl rfl ?_
  refine sv rfl (v_extract rfl rfl) ?_
  refine sv rfl (v_extract rfl rfl) ?_
  refine sm rfl rfl ?_
  refine sm rfl rfl ?_
  refine s_nil ?_
  refine b_nil (hK _ (AW.to (to_le (s' := ⟨[(7, slE eInt x3.1)], []⟩) (AS.le_of ⟨rfl, trivial⟩ trivial) ?_)))
  clear hK K
  refine AW.rgs rfl fun K hK => ?_
  refine mv rfl rfl ?_
  refine mv rfl rfl ?_
  refine b_nil (hK _ (AW.to (to_le (s' := ⟨[(6, slE eInt x3.1)], []⟩) (AS.le_of ⟨rfl, trivial⟩ trivial) ?_)))
  clear hK K
  refine AW.ret ?_
  have h := Option.some.inj h
  subst h
  exact ret_pure (hs := [slE eInt x3.1]) (q := slE eInt x3.1) (.inr rfl) (resT rfl rfl) rfl (clean_slE fun _ _ => ⟨trivial, trivial⟩)

set_option maxHeartbeats 1600000 in
set_option maxRecDepth 100000 in
theorem w_language_states {p0 : TLabelsStatesEdges} {r : (List (Int))} (h : m_language_states p0 = some r) : Pure Try.prog 80 [HV.agg [HV.int .i64 p0.1, HV.int .i64 p0.2.1, slE eFromLabelTo p0.2.2]] (· = slE eInt r) := by
  unfold m_language_states at h
  refine Pure.of_body Try.func80 rfl rfl (Nat.le_of_ble_eq_true rfl) fun hf => ?_
  unfold Try.f80
  dsimp only [enumS, Nat.reduceAdd]
  refine AW.rgs rfl fun K hK => ?_
  refine b_op rfl (o_box rfl rfl rfl ?_)
  refine mv rfl rfl ?_
  refine b_nil (hK _ (AW.to (to_le (s' := ⟨[(1, HV.fptr [HV.int .i64 p0.1, HV.int .i64 p0.2.1, slE eFromLabelTo p0.2.2] 0)], []⟩) (AS.le_of ⟨rfl, trivial⟩ trivial) ?_)))
  clear hK K
  refine AW.rgs rfl fun K hK => ?_
  refine bv rfl (v_fieldAddrF fo24_1 rfl) ?_
  refine bv rfl (v_loadF ty3 rfl (l_lit rfl rfl)) ?_
  obtain ⟨h2, h⟩ := ifN h
  refine b_op rfl (o_makeE (fid := 80) eInt (0 : Int) 80007 rfl rfl ty42 rfl rfl ty3 rfl rfl h2 (fun v1 => ?_))
  refine mv rfl rfl ?_
  refine b_nil (hK _ (AW.to (to_le (s' := ⟨[(3, HV.ar 80007 v1 eInt.k 0 ((List.replicate (p0.2.1).toNat (0 : Int)).length))], [(80007, v1, .arr eInt.k 3 (eInt.E (List.replicate (p0.2.1).toNat (0 : Int))))]⟩) (AS.le_of ⟨rfl, trivial⟩ ⟨rfl, trivial⟩) ?_)))
  clear hK K
  refine AW.seq ?_
  refine AW.rgs rfl fun K hK => ?_
  refine mv rfl rfl ?_
  refine bv rfl (v_lenA rfl rfl ty42 rfl rfl) ?_
  refine mv rfl rfl ?_
  refine b_nil (hK _ (AW.to (to_le (s' := ⟨[(3, HV.ar 80007 v1 eInt.k 0 ((List.replicate (p0.2.1).toNat (0 : Int)).length)), (9, HV.int .i64 (((List.replicate (p0.2.1).toNat (0 : Int)).length : Nat) : Int)), (10, HV.int .i64 0)], [(80007, v1, .arr eInt.k 3 (eInt.E (List.replicate (p0.2.1).toNat (0 : Int))))]⟩) (AS.le_of ⟨rfl, rfl, rfl, trivial⟩ ⟨rfl, trivial⟩) ?_)))
  clear hK K
  refine AW.lpX h (by first | exact up_then | exact up_to) (S := Int × (List Int)) (V := Unit) (fun a v => ⟨[(3, HV.ar 80007 v1 eInt.k 0 ((a.2).length)), (9, HV.int .i64 (((List.replicate (p0.2.1).toNat (0 : Int)).length : Nat) : Int)), (10, HV.int .i64 a.1)], [(80007, v1, .arr eInt.k 3 (eInt.E a.2))]⟩) ?_ (X := (List Int)) (W := Unit) (fun a v => ⟨[(3, HV.ar 80007 v1 eInt.k 0 ((a).length))], [(80007, v1, .arr eInt.k 3 (eInt.E a))]⟩) (fun a9 w10 h => ?_) (fun a3 w4 st5 h => ?_)
  · exact to_le (s' := ⟨[(3, HV.ar 80007 v1 eInt.k 0 ((List.replicate (p0.2.1).toNat (0 : Int)).length)), (9, HV.int .i64 (((List.replicate (p0.2.1).toNat (0 : Int)).length : Nat) : Int)), (10, HV.int .i64 0)], [(80007, v1, .arr eInt.k 3 (eInt.E (List.replicate (p0.2.1).toNat (0 : Int))))]⟩) (AS.le_of ⟨rfl, rfl, rfl, trivial⟩ ⟨rfl, trivial⟩) ⟨(), rfl⟩
  · refine AW.rgs rfl fun K hK => ?_
    refine mv rfl rfl ?_
    refine mv rfl rfl ?_
    refine b_nil (hK _ (AW.to (to_le (s' := ⟨[(2, HV.ar 80007 v1 eInt.k 0 ((a9).length))], [(80007, v1, .arr eInt.k 3 (eInt.E a9))]⟩) (AS.le_of ⟨rfl, trivial⟩ ⟨rfl, trivial⟩) ?_)))
    clear hK K
    refine AW.to (to_frz 2 [(80007, v1, .arr eInt.k 3 (eInt.E a9))] ⟨[(2, slE eInt a9)], []⟩ ⟨⟨_, rfl, frz_slE eInt (l := a9) rfl fun _ _ => rfl⟩, trivial⟩ trivial ⟨rfl, trivial⟩ ⟨rfl, trivial⟩ ?_)
    refine AW.ret ?_
    have h := Option.some.inj h
    subst h
    exact ret_pure (hs := [slE eInt a9]) (q := slE eInt a9) (.inr rfl) (resT rfl rfl) rfl (clean_slE fun _ _ => ⟨trivial, trivial⟩)
  · refine AW.rgs rfl fun K hK => ?_
    refine bv rfl (v_bin rfl rfl b_lss) ?_
    refine b_nil (hK _ (AW.to (to_le (s' := ⟨[(3, HV.ar 80007 v1 eInt.k 0 ((a3.2).length)), (9, HV.int .i64 (((List.replicate (p0.2.1).toNat (0 : Int)).length : Nat) : Int)), (10, HV.int .i64 a3.1), (11, HV.bool (decide (a3.1 < (((List.replicate (p0.2.1).toNat (0 : Int)).length : Nat) : Int))))], [(80007, v1, .arr eInt.k 3 (eInt.E a3.2))]⟩) (AS.le_of ⟨rfl, rfl, rfl, rfl, trivial⟩ ⟨rfl, trivial⟩) ?_)))
    clear hK K
    refine AW.cseq rfl (fun hc => ?_) (fun hc => ?_)
    · have hc := of_decide_eq_true hc
      have h := ifT hc h
      refine AW.skip ?_
      refine AW.seq (AW.block ?_)
      refine AW.rgs rfl fun K hK => ?_
      refine mv rfl rfl ?_
      refine mv rfl rfl ?_
      refine b_nil (hK _ (AW.to (to_le (s' := ⟨[(3, HV.ar 80007 v1 eInt.k 0 ((a3.2).length)), (4, HV.int .i64 a3.1), (9, HV.int .i64 (((List.replicate (p0.2.1).toNat (0 : Int)).length : Nat) : Int)), (10, HV.int .i64 a3.1)], [(80007, v1, .arr eInt.k 3 (eInt.E a3.2))]⟩) (AS.le_of ⟨rfl, rfl, rfl, rfl, trivial⟩ ⟨rfl, trivial⟩) ?_)))
      clear hK K
      refine AW.rg rfl fun K hK => ?_
      refine mv rfl rfl ?_
      refine mv rfl rfl ?_
      refine mv rfl rfl ?_
      obtain ⟨x7, h8, h⟩ := bS h
      refine bv rfl (v_idxA ty42 es42 rfl rfl (idx_lt h8) rfl) ?_
      refine b_op rfl (o_storeE eInt (l := a3.2) (j := a3.1) (v := a3.1) rfl rfl rfl ty3 rfl rfl rfl (idx_lt h8) ?_)
      refine b_nil (hK _ (AW.to (to_le (s' := ⟨[(3, HV.ar 80007 v1 eInt.k 0 (((a3.2).set (a3.1).toNat a3.1).length)), (9, HV.int .i64 (((List.replicate (p0.2.1).toNat (0 : Int)).length : Nat) : Int)), (10, HV.int .i64 a3.1)], [(80007, v1, .arr eInt.k 3 (eInt.E ((a3.2).set (a3.1).toNat a3.1)))]⟩) (AS.le_of ⟨arl (by first | rfl | simp only [List.length_set, sortI_len, sortS_len]), rfl, rfl, trivial⟩ ⟨rfl, trivial⟩) ?_)))
      clear hK K
      refine AW.rg rfl fun K hK => ?_
      refine bv rfl (v_bin rfl rfl b_add) ?_
      refine mv rfl rfl ?_
      refine b_nil (hK _ ?_)
      clear hK K
      exact to_le (s' := ⟨[(3, HV.ar 80007 v1 eInt.k 0 (((a3.2).set (a3.1).toNat a3.1).length)), (9, HV.int .i64 (((List.replicate (p0.2.1).toNat (0 : Int)).length : Nat) : Int)), (10, HV.int .i64 (IntKind.wrap .i64 (a3.1 + 1)))], [(80007, v1, .arr eInt.k 3 (eInt.E ((a3.2).set (a3.1).toNat a3.1)))]⟩) (AS.le_of ⟨rfl, rfl, rfl, trivial⟩ ⟨rfl, trivial⟩) ⟨(IntKind.wrap .i64 (a3.1 + 1), (a3.2).set (a3.1).toNat a3.1), (), h, rfl⟩
    · have hc := of_decide_eq_false hc
      have h := ifF hc h
      refine AW.exit ?_
      exact to_le (s' := ⟨[(3, HV.ar 80007 v1 eInt.k 0 ((a3.2).length))], [(80007, v1, .arr eInt.k 3 (eInt.E a3.2))]⟩) (AS.le_of ⟨rfl, trivial⟩ ⟨rfl, trivial⟩) ⟨a3.2, (), h, rfl⟩

set_option maxHeartbeats 1600000 in
set_option maxRecDepth 100000 in
theorem w_language_check {p0 : TLabelsStatesEdges} {r : Int} (h : m_language_check p0 = some r) : Pure Try.prog 124 [HV.agg [HV.int .i64 p0.1, HV.int .i64 p0.2.1, slE eFromLabelTo p0.2.2]] (· = HV.int .i64 r) := by
  unfold m_language_check at h
  refine Pure.of_body Try.func124 rfl rfl (Nat.le_of_ble_eq_true rfl) fun hf => ?_
  unfold Try.f124
  dsimp only [enumS, Nat.reduceAdd]
  refine AW.rgs rfl fun K hK => ?_
  refine b_op rfl (o_box rfl rfl rfl ?_)
  refine mv rfl rfl ?_
  refine b_nil (hK _ (AW.to (to_le (s' := ⟨[(1, HV.fptr [HV.int .i64 p0.1, HV.int .i64 p0.2.1, slE eFromLabelTo p0.2.2] 0)], []⟩) (AS.le_of ⟨rfl, trivial⟩ trivial) ?_)))
  clear hK K
  refine AW.seq (AW.block ?_)
  refine AW.rgs rfl fun K hK => ?_
  refine bv rfl (v_loadF ty24 rfl (l_litA rfl (Nat.le_of_ble_eq_true rfl) rfl)) ?_
  obtain ⟨x1, h2, h⟩ := bS h
  refine b_op rfl (o_call rfl rfl rfl rfl (ACallD.pure0 (w_graph_Check h2)) ?_)
  refine bv rfl (v_bin rfl rfl b_neq) ?_
  refine mv rfl rfl ?_
  refine b_nil (hK _ (AW.to (to_le (s' := ⟨[(1, HV.fptr [HV.int .i64 p0.1, HV.int .i64 p0.2.1, slE eFromLabelTo p0.2.2] 0), (3, HV.bool (decide (x1 ≠ 0)))], []⟩) (AS.le_of ⟨rfl, rfl, trivial⟩ trivial) ?_)))
  clear hK K
  refine AW.cond rfl (fun hc => ?_) (fun hc => ?_)
  · have hc := of_decide_eq_true hc
    have h := ifT hc h
    refine AW.rgs rfl fun K hK => ?_
    refine mv rfl rfl ?_
    refine b_nil (hK _ (AW.to (to_le (s' := ⟨[(2, HV.int .i64 1)], []⟩) (AS.le_of ⟨rfl, trivial⟩ trivial) ?_)))
    clear hK K
    refine AW.ret ?_
    have h := Option.some.inj h
    subst h
    exact ret_pure (hs := [HV.int .i64 1]) (q := HV.int .i64 1) (.inr rfl) (resT rfl rfl) rfl trivial
  · have hc := of_decide_eq_false hc
    have h := ifF hc h
    refine AW.rgs rfl fun K hK => ?_
    refine bv rfl (v_fieldAddrF fo24_0 rfl) ?_
    refine bv rfl (v_loadF ty3 rfl (l_lit rfl rfl)) ?_
    refine bv rfl (v_bin rfl rfl b_gtr) ?_
    refine mv rfl rfl ?_
    refine b_nil (hK _ (AW.to (to_le (s' := ⟨[(7, HV.bool (decide (16 < p0.1)))], []⟩) (AS.le_of ⟨rfl, trivial⟩ trivial) ?_)))
    clear hK K
    refine AW.cond rfl (fun hc => ?_) (fun hc => ?_)
    · have hc := of_decide_eq_true hc
      have h := ifT hc h
      refine AW.rgs rfl fun K hK => ?_
      refine mv rfl rfl ?_
      refine b_nil (hK _ (AW.to (to_le (s' := ⟨[(2, HV.int .i64 12)], []⟩) (AS.le_of ⟨rfl, trivial⟩ trivial) ?_)))
      clear hK K
      refine AW.ret ?_
      have h := Option.some.inj h
      subst h
      exact ret_pure (hs := [HV.int .i64 12]) (q := HV.int .i64 12) (.inr rfl) (resT rfl rfl) rfl trivial
    · have hc := of_decide_eq_false hc
      have h := ifF hc h
      refine AW.skip ?_
      refine AW.rgs rfl fun K hK => ?_
      refine mv rfl rfl ?_
      refine b_nil (hK _ (AW.to (to_le (s' := ⟨[(2, HV.int .i64 0)], []⟩) (AS.le_of ⟨rfl, trivial⟩ trivial) ?_)))
      clear hK K
      refine AW.ret ?_
      have h := Option.some.inj h
      subst h
      exact ret_pure (hs := [HV.int .i64 0]) (q := HV.int .i64 0) (.inr rfl) (resT rfl rfl) rfl trivial

set_option maxHeartbeats 1600000 in
set_option maxRecDepth 100000 in
theorem w_language_lengths {p0 : TLabelsStatesEdges} {p1 : Int} {r : Int} (h : m_language_lengths p0 p1 = some r) : Pure Try.prog 78 [HV.agg [HV.int .i64 p0.1, HV.int .i64 p0.2.1, slE eFromLabelTo p0.2.2], HV.int .i64 p1] (· = HV.int .i64 r) := by
  unfold m_language_lengths at h
  refine Pure.of_body Try.func78 rfl rfl (Nat.le_of_ble_eq_true rfl) fun hf => ?_
  unfold Try.f78
  dsimp only [enumS, Nat.reduceAdd]
  refine AW.rgs rfl fun K hK => ?_
  refine b_op rfl (o_box rfl rfl rfl ?_)
  refine mv rfl rfl ?_
  refine b_nil (hK _ (AW.to (to_le (s' := ⟨[(1, HV.int .i64 p1), (2, HV.fptr [HV.int .i64 p0.1, HV.int .i64 p0.2.1, slE eFromLabelTo p0.2.2] 0)], []⟩) (AS.le_of ⟨rfl, rfl, trivial⟩ trivial) ?_)))
  clear hK K
  refine AW.seq ?_
  refine AW.rgs rfl fun K hK => ?_
  refine bv rfl (v_loadF ty24 rfl (l_litA rfl (Nat.le_of_ble_eq_true rfl) rfl)) ?_
  obtain ⟨x1, h2, h⟩ := bS h
  refine b_op rfl (o_call rfl rfl rfl rfl (ACallD.pure0 (w_language_check h2)) ?_)
  refine mv rfl rfl ?_
  refine b_nil (hK _ (AW.to (to_le (s' := ⟨[(1, HV.int .i64 p1), (5, HV.int .i64 x1)], []⟩) (AS.le_of ⟨rfl, rfl, trivial⟩ trivial) ?_)))
  clear hK K
  refine AW.rgs rfl fun K hK => ?_
  refine mv rfl rfl ?_
  refine bv rfl (v_bin rfl rfl b_neq) ?_
  refine b_nil (hK _ (AW.to (to_le (s' := ⟨[(1, HV.int .i64 p1), (5, HV.int .i64 x1), (9, HV.bool (decide (x1 ≠ 0)))], []⟩) (AS.le_of ⟨rfl, rfl, rfl, trivial⟩ trivial) ?_)))
  clear hK K
  refine AW.cond rfl (fun hc => ?_) (fun hc => ?_)
  · have hc := of_decide_eq_true hc
    have h := ifT hc h
    refine AW.rgs rfl fun K hK => ?_
    refine mv rfl rfl ?_
    refine mv rfl rfl ?_
    refine b_nil (hK _ (AW.to (to_le (s' := ⟨[(4, HV.int .i64 x1)], []⟩) (AS.le_of ⟨rfl, trivial⟩ trivial) ?_)))
    clear hK K
    refine AW.ret ?_
    have h := Option.some.inj h
    subst h
    exact ret_pure (hs := [HV.int .i64 x1]) (q := HV.int .i64 x1) (.inr rfl) (resT rfl rfl) rfl trivial
  · have hc := of_decide_eq_false hc
    have h := ifF hc h
    refine AW.skip ?_
    refine AW.seq ?_
    refine AW.seqJ h (S := Bool) (V := Unit) (fun a v => ⟨[(16, HV.bool a)], []⟩) (fun a3 w4 h => ?_) (fun k5 h => ?_)
    · refine AW.cond rfl (fun hc => ?_) (fun hc => ?_)
      · have h := ifT hc h
        refine AW.rgs rfl fun K hK => ?_
        refine mv rfl rfl ?_
        refine b_nil (hK _ (AW.to (to_le (s' := ⟨[(4, HV.int .i64 2)], []⟩) (AS.le_of ⟨rfl, trivial⟩ trivial) ?_)))
        clear hK K
        refine AW.ret ?_
        have h := Option.some.inj h
        subst h
        exact ret_pure (hs := [HV.int .i64 2]) (q := HV.int .i64 2) (.inr rfl) (resT rfl rfl) rfl trivial
      · have h := ifF (bF' hc) h
        refine AW.skip ?_
        refine AW.rgs rfl fun K hK => ?_
        refine mv rfl rfl ?_
        refine b_nil (hK _ (AW.to (to_le (s' := ⟨[(4, HV.int .i64 0)], []⟩) (AS.le_of ⟨rfl, trivial⟩ trivial) ?_)))
        clear hK K
        refine AW.ret ?_
        have h := Option.some.inj h
        subst h
        exact ret_pure (hs := [HV.int .i64 0]) (q := HV.int .i64 0) (.inr rfl) (resT rfl rfl) rfl trivial
    · refine AW.rg rfl fun K hK => ?_
      refine mv rfl rfl ?_
      refine bv rfl (v_bin rfl rfl b_lss) ?_
      refine mv rfl rfl ?_
      by_cases hg6 : p1 < 0
      · have h := ifT hg6 h
        refine b_F rfl rfl rfl rfl rfl (decide_eq_true hg6) ?_
        refine b_F rfl rfl rfl rfl rfl rfl ?_
        refine bv rfl (v_pickT rfl rfl rfl) ?_
        refine b_nil (hK _ ?_)
        clear hK K
        exact to_le (s' := ⟨[(16, HV.bool true)], []⟩) (AS.le_of ⟨rfl, trivial⟩ trivial) ⟨true, (), h, rfl⟩
      · have h := ifF hg6 h
        refine b_T rfl rfl rfl rfl (decide_eq_false hg6) (o_val rfl (mv_val rfl rfl).2 ?_)
        refine b_T rfl rfl rfl rfl rfl (o_val rfl (v_bin rfl rfl b_gtr) ?_)
        refine bv rfl (v_pickF rfl rfl rfl) ?_
        refine b_nil (hK _ ?_)
        clear hK K
        exact to_le (s' := ⟨[(16, HV.bool (decide (4096 < p1)))], []⟩) (AS.le_of ⟨rfl, trivial⟩ trivial) ⟨decide (4096 < p1), (), h, rfl⟩

set_option maxHeartbeats 1600000 in
set_option maxRecDepth 100000 in
theorem w_ref09_Compare {p0 : TFromLabelTo} {p1 : TFromLabelTo} {r : Int} (h : m_ref09_Compare p0 p1 = some r) : Pure Try.prog 77 [HV.agg [HV.int .i64 p0.1, HV.int .i64 p0.2.1, HV.int .i64 p0.2.2], HV.agg [HV.int .i64 p1.1, HV.int .i64 p1.2.1, HV.int .i64 p1.2.2]] (· = HV.int .i64 r) := by
  unfold m_ref09_Compare at h
  refine Pure.of_body Try.func77 rfl rfl (Nat.le_of_ble_eq_true rfl) fun hf => ?_
  unfold Try.f77
  dsimp only [enumS, Nat.reduceAdd]
  refine AW.rgs rfl fun K hK => ?_
  refine b_op rfl (o_box rfl rfl rfl ?_)
  refine b_op rfl (o_box rfl rfl rfl ?_)
  refine mv rfl rfl ?_
  refine b_nil (hK _ (AW.to (to_le (s' := ⟨[(2, HV.fptr [HV.int .i64 p0.1, HV.int .i64 p0.2.1, HV.int .i64 p0.2.2] 0), (3, HV.fptr [HV.int .i64 p1.1, HV.int .i64 p1.2.1, HV.int .i64 p1.2.2] 0)], []⟩) (AS.le_of ⟨rfl, rfl, trivial⟩ trivial) ?_)))
  clear hK K
  refine AW.dgs 16 follows rfl rfl fun K hK => ?_
  refine sv rfl (v_fieldAddrF fo66_0 rfl) ?_
  refine sv rfl (v_loadF ty3 rfl (l_lit rfl rfl)) ?_
  refine sv rfl (v_fieldAddrF fo66_1 rfl) ?_
  refine sv rfl (v_loadF ty3 rfl (l_lit rfl rfl)) ?_
  refine sv rfl (v_fieldAddrF fo66_2 rfl) ?_
  refine sv rfl (v_loadF ty3 rfl (l_lit rfl rfl)) ?_
  refine s_op rfl rfl (ops_bsl rfl rfl (as_of (cs := [HV.int .i64 p0.1, HV.int .i64 p0.2.1, HV.int .i64 p0.2.2]) ty42 ty3 rfl rfl rfl rfl rfl) ?_)
  refine sv rfl (v_fieldAddrF fo66_0 rfl) ?_
  refine sv rfl (v_loadF ty3 rfl (l_lit rfl rfl)) ?_
  refine sv rfl (v_fieldAddrF fo66_1 rfl) ?_
  refine sv rfl (v_loadF ty3 rfl (l_lit rfl rfl)) ?_
  refine sv rfl (v_fieldAddrF fo66_2 rfl) ?_
  refine sv rfl (v_loadF ty3 rfl (l_lit rfl rfl)) ?_
  refine s_op rfl rfl (ops_bsl rfl rfl (as_of (cs := [HV.int .i64 p1.1, HV.int .i64 p1.2.1, HV.int .i64 p1.2.2]) ty42 ty3 rfl rfl rfl rfl rfl) ?_)
  refine sm rfl rfl ?_
  refine sm rfl rfl ?_
  refine s_nil ?_
  refine b_nil (hK _ (AW.to (to_le (s' := ⟨[(5, slE eInt [p0.1, p0.2.1, p0.2.2]), (6, slE eInt [p1.1, p1.2.1, p1.2.2])], []⟩) (AS.le_of ⟨rfl, rfl, trivial⟩ trivial) ?_)))
  clear hK K
  refine AW.seq ?_
  refine AW.rgs rfl fun K hK => ?_
  refine mv rfl rfl ?_
  refine b_nil (hK _ (AW.to (to_le (s' := ⟨[(5, slE eInt [p0.1, p0.2.1, p0.2.2]), (6, slE eInt [p1.1, p1.2.1, p1.2.2]), (7, HV.int .i64 0)], []⟩) (AS.le_of ⟨rfl, rfl, rfl, trivial⟩ trivial) ?_)))
  clear hK K
  refine AW.lpR h (by first | exact up_then | exact up_to) (S := Int) (V := Unit) (fun a v => ⟨[(5, slE eInt [p0.1, p0.2.1, p0.2.2]), (6, slE eInt [p1.1, p1.2.1, p1.2.2]), (7, HV.int .i64 a)], []⟩) ?_ (X := Unit) (W := Unit) (fun a v => ⟨[], []⟩) (fun a13 w14 h => ?_) (fun a1 w2 st3 h hr4=> ?_)
  · exact to_le (s' := ⟨[(5, slE eInt [p0.1, p0.2.1, p0.2.2]), (6, slE eInt [p1.1, p1.2.1, p1.2.2]), (7, HV.int .i64 0)], []⟩) (AS.le_of ⟨rfl, rfl, rfl, trivial⟩ trivial) ⟨(), rfl⟩
  · refine AW.rgs rfl fun K hK => ?_
    refine mv rfl rfl ?_
    refine b_nil (hK _ (AW.to (to_le (s' := ⟨[(4, HV.int .i64 0)], []⟩) (AS.le_of ⟨rfl, trivial⟩ trivial) ?_)))
    clear hK K
    refine AW.ret ?_
    have h := Option.some.inj h
    subst h
    exact ret_pure (hs := [HV.int .i64 0]) (q := HV.int .i64 0) (.inr rfl) (resT rfl rfl) rfl trivial
  · refine AW.seq ?_
    refine AW.rgs rfl fun K hK => ?_
    refine mv rfl rfl ?_
    refine bv rfl (v_bin rfl rfl b_lss) ?_
    refine b_nil (hK _ (AW.to (to_le (s' := ⟨[(5, slE eInt [p0.1, p0.2.1, p0.2.2]), (6, slE eInt [p1.1, p1.2.1, p1.2.2]), (7, HV.int .i64 a1), (23, HV.bool (decide (a1 < 3)))], []⟩) (AS.le_of ⟨rfl, rfl, rfl, rfl, trivial⟩ trivial) ?_)))
    clear hK K
    refine AW.cond rfl (fun hc => ?_) (fun hc => ?_)
    · have hc := of_decide_eq_true hc
      have h := ifT hc h
      refine AW.skip ?_
      refine AW.seq (AW.block ?_)
      refine AW.seq ?_
      refine AW.dgs 9 follows rfl rfl fun K hK => ?_
      refine sm rfl rfl ?_
      refine sm rfl rfl ?_
      obtain ⟨x5, h6, h⟩ := bS h
      refine sv rfl (v_idxF ty42 es42 rfl rfl (idx_lt h6)) ?_
      refine sv rfl (v_loadF ty3 rfl (l_cell eInt h6 (o := 0) rfl rfl)) ?_
      refine sm rfl rfl ?_
      refine sm rfl rfl ?_
      obtain ⟨x7, h8, h⟩ := bS h
      refine sv rfl (v_idxF ty42 es42 rfl rfl (idx_lt h8)) ?_
      refine sv rfl (v_loadF ty3 rfl (l_cell eInt h8 (o := 0) rfl rfl)) ?_
      refine sv rfl (v_bin rfl rfl b_lss) ?_
      refine s_nil ?_
      refine b_nil (hK _ (AW.to (to_le (s' := ⟨[(5, slE eInt [p0.1, p0.2.1, p0.2.2]), (6, slE eInt [p1.1, p1.2.1, p1.2.2]), (7, HV.int .i64 a1), (34, HV.bool (decide (x5 < x7)))], []⟩) (AS.le_of ⟨rfl, rfl, rfl, rfl, trivial⟩ trivial) ?_)))
      clear hK K
      refine AW.cond rfl (fun hc => ?_) (fun hc => ?_)
      · have hc := of_decide_eq_true hc
        have h := ifT hc h
        refine AW.rgs rfl fun K hK => ?_
        refine mv rfl rfl ?_
        refine b_nil (hK _ (AW.to (to_le (s' := ⟨[(4, HV.int .i64 (-1))], []⟩) (AS.le_of ⟨rfl, trivial⟩ trivial) ?_)))
        clear hK K
        have h := hr4 _ h
        refine AW.ret ?_
        have h := Option.some.inj h
        subst h
        exact ret_pure (hs := [HV.int .i64 (-1)]) (q := HV.int .i64 (-1)) (.inr rfl) (resT rfl rfl) rfl trivial
      · have hc := of_decide_eq_false hc
        have h := ifF hc h
        refine AW.skip ?_
        refine AW.dgs 9 follows rfl rfl fun K hK => ?_
        refine sm rfl rfl ?_
        refine sm rfl rfl ?_
        obtain ⟨x9, h10, h⟩ := bS h
        refine sv rfl (v_idxF ty42 es42 rfl rfl (idx_lt h10)) ?_
        refine sv rfl (v_loadF ty3 rfl (l_cell eInt h10 (o := 0) rfl rfl)) ?_
        refine sm rfl rfl ?_
        refine sm rfl rfl ?_
        obtain ⟨x11, h12, h⟩ := bS h
        refine sv rfl (v_idxF ty42 es42 rfl rfl (idx_lt h12)) ?_
        refine sv rfl (v_loadF ty3 rfl (l_cell eInt h12 (o := 0) rfl rfl)) ?_
        refine sv rfl (v_bin rfl rfl b_gtr) ?_
        refine s_nil ?_
        refine b_nil (hK _ (AW.to (to_le (s' := ⟨[(5, slE eInt [p0.1, p0.2.1, p0.2.2]), (6, slE eInt [p1.1, p1.2.1, p1.2.2]), (7, HV.int .i64 a1), (43, HV.bool (decide (x11 < x9)))], []⟩) (AS.le_of ⟨rfl, rfl, rfl, rfl, trivial⟩ trivial) ?_)))
        clear hK K
        refine AW.cond rfl (fun hc => ?_) (fun hc => ?_)
        · have hc := of_decide_eq_true hc
          have h := ifT hc h
          refine AW.rgs rfl fun K hK => ?_
          refine mv rfl rfl ?_
          refine b_nil (hK _ (AW.to (to_le (s' := ⟨[(4, HV.int .i64 1)], []⟩) (AS.le_of ⟨rfl, trivial⟩ trivial) ?_)))
          clear hK K
          have h := hr4 _ h
          refine AW.ret ?_
          have h := Option.some.inj h
          subst h
          exact ret_pure (hs := [HV.int .i64 1]) (q := HV.int .i64 1) (.inr rfl) (resT rfl rfl) rfl trivial
        · have hc := of_decide_eq_false hc
          have h := ifF hc h
          refine AW.skip ?_
          refine AW.rg rfl fun K hK => ?_
          refine mv rfl rfl ?_
          refine bv rfl (v_bin rfl rfl b_add) ?_
          refine mv rfl rfl ?_
          refine b_nil (hK _ ?_)
          clear hK K
          exact to_le (s' := ⟨[(5, slE eInt [p0.1, p0.2.1, p0.2.2]), (6, slE eInt [p1.1, p1.2.1, p1.2.2]), (7, HV.int .i64 (IntKind.wrap .i64 (a1 + 1)))], []⟩) (AS.le_of ⟨rfl, rfl, rfl, trivial⟩ trivial) ⟨IntKind.wrap .i64 (a1 + 1), (), h, rfl⟩
    · have hc := of_decide_eq_false hc
      have h := ifF hc h
      refine AW.exit ?_
      exact to_le (s' := ⟨[], []⟩) (AS.le_of trivial trivial) ⟨(), (), h, rfl⟩

end Go.AW

namespace Go.AW
open Go Go.Proofs
set_option linter.unusedVariables false
set_option maxHeartbeats 1600000 in
set_option maxRecDepth 100000 in
theorem w_ref09_Check {p0 : TLabelsStatesEdges} {r : Int} (h : m_ref09_Check p0 = some r) : Pure Try.prog 35 [HV.agg [HV.int .i64 p0.1, HV.int .i64 p0.2.1, slE eFromLabelTo p0.2.2]] (· = HV.int .i64 r) := by
  unfold m_ref09_Check at h
  refine Pure.of_body Try.func35 rfl rfl (Nat.le_of_ble_eq_true rfl) fun hf => ?_
  unfold Try.f35
  dsimp only [enumS, Nat.reduceAdd]
  refine AW.rgs rfl fun K hK => ?_
  refine b_op rfl (o_box rfl rfl rfl ?_)
  refine mv rfl rfl ?_
  refine b_nil (hK _ (AW.to (to_le (s' := ⟨[(1, HV.fptr [HV.int .i64 p0.1, HV.int .i64 p0.2.1, slE eFromLabelTo p0.2.2] 0)], []⟩) (AS.le_of ⟨rfl, trivial⟩ trivial) ?_)))
  clear hK K
  refine AW.seq ?_
  refine AW.seqJ h (S := Bool) (V := Unit) (fun a v => ⟨[(1, HV.fptr [HV.int .i64 p0.1, HV.int .i64 p0.2.1, slE eFromLabelTo p0.2.2] 0), (12, HV.bool a)], []⟩) (fun a1 w2 h => ?_) (fun k3 h => ?_)
  · refine AW.cond rfl (fun hc => ?_) (fun hc => ?_)
    · have h := ifT hc h
      refine AW.rgs rfl fun K hK => ?_
      refine mv rfl rfl ?_
      refine b_nil (hK _ (AW.to (to_le (s' := ⟨[(2, HV.int .i64 12)], []⟩) (AS.le_of ⟨rfl, trivial⟩ trivial) ?_)))
      clear hK K
      refine AW.ret ?_
      have h := Option.some.inj h
      subst h
      exact ret_pure (hs := [HV.int .i64 12]) (q := HV.int .i64 12) (.inr rfl) (resT rfl rfl) rfl trivial
    · have h := ifF (bF' hc) h
      refine AW.skip ?_
      refine AW.seq ?_
      refine AW.rgs rfl fun K hK => ?_
      refine bv rfl (v_fieldAddrF fo24_1 rfl) ?_
      refine bv rfl (v_loadF ty3 rfl (l_lit rfl rfl)) ?_
      refine bv rfl (v_bin rfl rfl b_lss) ?_
      refine b_nil (hK _ (AW.to (to_le (s' := ⟨[(1, HV.fptr [HV.int .i64 p0.1, HV.int .i64 p0.2.1, slE eFromLabelTo p0.2.2] 0), (15, HV.bool (decide (p0.2.1 < 0)))], []⟩) (AS.le_of ⟨rfl, rfl, trivial⟩ trivial) ?_)))
      clear hK K
      refine AW.cond rfl (fun hc => ?_) (fun hc => ?_)
      · have hc := of_decide_eq_true hc
        have h := ifT hc h
        refine AW.rgs rfl fun K hK => ?_
        refine mv rfl rfl ?_
        refine b_nil (hK _ (AW.to (to_le (s' := ⟨[(2, HV.int .i64 2)], []⟩) (AS.le_of ⟨rfl, trivial⟩ trivial) ?_)))
        clear hK K
        refine AW.ret ?_
        have h := Option.some.inj h
        subst h
        exact ret_pure (hs := [HV.int .i64 2]) (q := HV.int .i64 2) (.inr rfl) (resT rfl rfl) rfl trivial
      · have hc := of_decide_eq_false hc
        have h := ifF hc h
        refine AW.skip ?_
        refine AW.seq ?_
        refine AW.seqJ h (S := Bool) (V := Unit) (fun a v => ⟨[(1, HV.fptr [HV.int .i64 p0.1, HV.int .i64 p0.2.1, slE eFromLabelTo p0.2.2] 0), (24, HV.bool a)], []⟩) (fun a4 w5 h => ?_) (fun k6 h => ?_)
        · refine AW.cond rfl (fun hc => ?_) (fun hc => ?_)
          · have h := ifT hc h
            refine AW.rgs rfl fun K hK => ?_
            refine mv rfl rfl ?_
            refine b_nil (hK _ (AW.to (to_le (s' := ⟨[(2, HV.int .i64 4)], []⟩) (AS.le_of ⟨rfl, trivial⟩ trivial) ?_)))
            clear hK K
            refine AW.ret ?_
            have h := Option.some.inj h
            subst h
            exact ret_pure (hs := [HV.int .i64 4]) (q := HV.int .i64 4) (.inr rfl) (resT rfl rfl) rfl trivial
          · have h := ifF (bF' hc) h
            refine AW.skip ?_
            refine AW.seq ?_
            refine AW.rgs rfl fun K hK => ?_
            refine mv rfl rfl ?_
            refine b_nil (hK _ (AW.to (to_le (s' := ⟨[(1, HV.fptr [HV.int .i64 p0.1, HV.int .i64 p0.2.1, slE eFromLabelTo p0.2.2] 0), (3, HV.int .i64 0)], []⟩) (AS.le_of ⟨rfl, rfl, trivial⟩ trivial) ?_)))
            clear hK K
            refine AW.lpR h (by first | exact up_then | exact up_to) (S := Int) (V := Unit) (fun a v => ⟨[(1, HV.fptr [HV.int .i64 p0.1, HV.int .i64 p0.2.1, slE eFromLabelTo p0.2.2] 0), (3, HV.int .i64 a)], []⟩) ?_ (X := Unit) (W := Unit) (fun a v => ⟨[], []⟩) (fun a30 w31 h => ?_) (fun a7 w8 st9 h hr10=> ?_)
            · exact to_le (s' := ⟨[(1, HV.fptr [HV.int .i64 p0.1, HV.int .i64 p0.2.1, slE eFromLabelTo p0.2.2] 0), (3, HV.int .i64 0)], []⟩) (AS.le_of ⟨rfl, rfl, trivial⟩ trivial) ⟨(), rfl⟩
            · refine AW.rgs rfl fun K hK => ?_
              refine mv rfl rfl ?_
              refine b_nil (hK _ (AW.to (to_le (s' := ⟨[(2, HV.int .i64 0)], []⟩) (AS.le_of ⟨rfl, trivial⟩ trivial) ?_)))
              clear hK K
              refine AW.ret ?_
              have h := Option.some.inj h
              subst h
              exact ret_pure (hs := [HV.int .i64 0]) (q := HV.int .i64 0) (.inr rfl) (resT rfl rfl) rfl trivial
            · refine AW.seq ?_
              refine AW.rgs rfl fun K hK => ?_
              refine mv rfl rfl ?_
              refine bv rfl (v_fieldAddrF fo24_2 rfl) ?_
              refine bv rfl (v_loadF ty22 rfl (l_lit rfl rfl)) ?_
              refine bv rfl (v_lenF rfl rfl ty22 rfl) ?_
              refine bv rfl (v_bin rfl rfl b_lss) ?_
              refine b_nil (hK _ (AW.to (to_le (s' := ⟨[(1, HV.fptr [HV.int .i64 p0.1, HV.int .i64 p0.2.1, slE eFromLabelTo p0.2.2] 0), (3, HV.int .i64 a7), (29, HV.bool (decide (a7 < ((p0.2.2).length : Int))))], []⟩) (AS.le_of ⟨rfl, rfl, rfl, trivial⟩ trivial) ?_)))
              clear hK K
              refine AW.cond rfl (fun hc => ?_) (fun hc => ?_)
              · have hc := of_decide_eq_true hc
                have h := ifT hc h
                refine AW.skip ?_
                refine AW.seq (AW.block ?_)
                refine AW.rgs rfl fun K hK => ?_
                refine bv rfl (v_fieldAddrF fo24_2 rfl) ?_
                refine bv rfl (v_loadF ty22 rfl (l_lit rfl rfl)) ?_
                refine mv rfl rfl ?_
                obtain ⟨x11, h12, h⟩ := bS h
                refine bv rfl (v_idxF ty22 es22 rfl rfl (idx_lt h12)) ?_
                refine bv rfl (v_loadF ty66 rfl (l_agg eFromLabelTo h12 rfl rfl)) ?_
                refine b_op rfl (o_alloc (fid := 35) (zs := [HV.int .i64 0, HV.int .i64 0, HV.int .i64 0]) 35004 rfl rfl ty66 rfl (fun v13 => ?_))
                refine b_op rfl (o_store (cs := [HV.int .i64 x11.1, HV.int .i64 x11.2.1, HV.int .i64 x11.2.2]) (zs := [HV.int .i64 x11.1, HV.int .i64 x11.2.1, HV.int .i64 x11.2.2]) rfl rfl rfl ty66 rfl rfl rfl rfl rfl ?_)
                refine b_nil (hK _ (AW.to (to_le (s' := ⟨[(1, HV.fptr [HV.int .i64 p0.1, HV.int .i64 p0.2.1, slE eFromLabelTo p0.2.2] 0), (3, HV.int .i64 a7), (4, HV.ptr 35004 v13 0)], [(35004, v13, .arr 3 66 [HV.int .i64 x11.1, HV.int .i64 x11.2.1, HV.int .i64 x11.2.2])]⟩) (AS.le_of ⟨rfl, rfl, rfl, trivial⟩ ⟨rfl, trivial⟩) ?_)))
                clear hK K
                refine AW.seq ?_
                refine AW.seqJ h (S := Bool) (V := Unit) (fun a v => ⟨[(1, HV.fptr [HV.int .i64 p0.1, HV.int .i64 p0.2.1, slE eFromLabelTo p0.2.2] 0), (3, HV.int .i64 a7), (4, HV.ptr 35004 v13 0), (70, HV.bool a)], [(35004, v13, .arr 3 66 [HV.int .i64 x11.1, HV.int .i64 x11.2.1, HV.int .i64 x11.2.2])]⟩) (fun a14 w15 h => ?_) (fun k16 h => ?_)
                · refine AW.cond rfl (fun hc => ?_) (fun hc => ?_)
                  · have h := ifT hc h
                    refine AW.rgs rfl fun K hK => ?_
                    refine mv rfl rfl ?_
                    refine b_nil (hK _ (AW.to (to_le (s' := ⟨[(2, HV.int .i64 2)], []⟩) (AS.le_of ⟨rfl, trivial⟩ trivial) ?_)))
                    clear hK K
                    have h := hr10 _ h
                    refine AW.ret ?_
                    have h := Option.some.inj h
                    subst h
                    exact ret_pure (hs := [HV.int .i64 2]) (q := HV.int .i64 2) (.inr rfl) (resT rfl rfl) rfl trivial
                  · have h := ifF (bF' hc) h
                    refine AW.skip ?_
                    refine AW.seqJ h (S := Bool) (V := Unit) (fun a v => ⟨[(1, HV.fptr [HV.int .i64 p0.1, HV.int .i64 p0.2.1, slE eFromLabelTo p0.2.2] 0), (3, HV.int .i64 a7), (83, HV.bool a)], []⟩) (fun a17 w18 h => ?_) (fun k19 h => ?_)
                    · refine AW.cond rfl (fun hc => ?_) (fun hc => ?_)
                      · have h := ifT hc h
                        refine AW.rgs rfl fun K hK => ?_
                        refine mv rfl rfl ?_
                        refine b_nil (hK _ (AW.to (to_le (s' := ⟨[(2, HV.int .i64 10)], []⟩) (AS.le_of ⟨rfl, trivial⟩ trivial) ?_)))
                        clear hK K
                        have h := hr10 _ h
                        refine AW.ret ?_
                        have h := Option.some.inj h
                        subst h
                        exact ret_pure (hs := [HV.int .i64 10]) (q := HV.int .i64 10) (.inr rfl) (resT rfl rfl) rfl trivial
                      · have h := ifF (bF' hc) h
                        refine AW.skip ?_
                        refine AW.rg rfl fun K hK => ?_
                        refine mv rfl rfl ?_
                        refine bv rfl (v_bin rfl rfl b_add) ?_
                        refine mv rfl rfl ?_
                        refine b_nil (hK _ ?_)
                        clear hK K
                        exact to_le (s' := ⟨[(1, HV.fptr [HV.int .i64 p0.1, HV.int .i64 p0.2.1, slE eFromLabelTo p0.2.2] 0), (3, HV.int .i64 (IntKind.wrap .i64 (a7 + 1)))], []⟩) (AS.le_of ⟨rfl, rfl, trivial⟩ trivial) ⟨IntKind.wrap .i64 (a7 + 1), (), h, rfl⟩
                    · refine AW.dg 13 follows rfl rfl fun K hK => ?_
                      refine sm rfl rfl ?_
                      refine sv rfl (v_bin rfl rfl b_gtr) ?_
                      refine sm rfl rfl ?_
                      by_cases hg24 : 0 < a7
                      · have h := ifT hg24 h
                        refine s_T rfl rfl rfl rfl rfl (decide_eq_true hg24) (ops_val rfl (v_fieldAddrF fo24_2 rfl) ?_)
                        refine s_T rfl rfl rfl rfl rfl rfl (ops_val rfl (v_loadF ty22 rfl (l_lit rfl rfl)) ?_)
                        refine s_T rfl rfl rfl rfl rfl rfl (ops_val rfl (mv_val rfl rfl).2 ?_)
                        refine s_T rfl rfl rfl rfl rfl rfl (ops_val rfl (v_bin rfl rfl b_sub) ?_)
                        obtain ⟨x20, h21, h⟩ := bS h
                        refine s_T rfl rfl rfl rfl rfl rfl (ops_val rfl (v_idxF ty22 es22 rfl rfl (idx_lt h21)) ?_)
                        refine s_T rfl rfl rfl rfl rfl rfl (ops_val rfl (v_loadF ty66 rfl (l_agg eFromLabelTo h21 rfl rfl)) ?_)
                        refine s_T rfl rfl rfl rfl rfl rfl (ops_val rfl (v_loadP ty66 rfl rfl (l_litA rfl (Nat.le_of_ble_eq_true rfl) rfl)) ?_)
                        obtain ⟨x22, h23, h⟩ := bS h
                        refine s_T rfl rfl rfl rfl rfl rfl (ops_call rfl rfl rfl rfl (ACallD.pure0 (w_ref09_Compare h23)) ?_)
                        refine s_T rfl rfl rfl rfl rfl rfl (ops_val rfl (v_bin rfl rfl b_geq) ?_)
                        refine sv rfl (v_pickT rfl rfl rfl) ?_
                        refine s_nil ?_
                        refine b_nil (hK _ ?_)
                        clear hK K
                        exact to_le (s' := ⟨[(1, HV.fptr [HV.int .i64 p0.1, HV.int .i64 p0.2.1, slE eFromLabelTo p0.2.2] 0), (3, HV.int .i64 a7), (83, HV.bool (decide (0 ≤ x22)))], []⟩) (AS.le_of ⟨rfl, rfl, rfl, trivial⟩ trivial) ⟨decide (0 ≤ x22), (), h, rfl⟩
                      · have h := ifF hg24 h
                        refine s_F rfl rfl rfl rfl rfl (decide_eq_false hg24) ?_
                        refine s_F rfl rfl rfl rfl rfl rfl ?_
                        refine s_F rfl rfl rfl rfl rfl rfl ?_
                        refine s_F rfl rfl rfl rfl rfl rfl ?_
                        refine s_F rfl rfl rfl rfl rfl rfl ?_
                        refine s_F rfl rfl rfl rfl rfl rfl ?_
                        refine s_F rfl rfl rfl rfl rfl rfl ?_
                        refine s_F rfl rfl rfl rfl rfl rfl ?_
                        refine s_F rfl rfl rfl rfl rfl rfl ?_
                        refine sv rfl (v_pickF rfl rfl rfl) ?_
                        refine s_nil ?_
                        refine b_nil (hK _ ?_)
                        clear hK K
                        exact to_le (s' := ⟨[(1, HV.fptr [HV.int .i64 p0.1, HV.int .i64 p0.2.1, slE eFromLabelTo p0.2.2] 0), (3, HV.int .i64 a7), (83, HV.bool false)], []⟩) (AS.le_of ⟨rfl, rfl, rfl, trivial⟩ trivial) ⟨false, (), h, rfl⟩
                · refine AW.rg rfl fun K hK => ?_
                  refine bv rfl (v_fieldAddrP fo66_0 rfl rfl) ?_
                  refine bv rfl (v_loadP ty3 rfl rfl (l_lit rfl rfl)) ?_
                  refine bv rfl (v_bin rfl rfl b_lss) ?_
                  refine mv rfl rfl ?_
                  by_cases hg29 : x11.1 < 0
                  · have h := ifT hg29 h
                    refine b_F rfl rfl rfl rfl rfl (decide_eq_true hg29) ?_
                    refine b_F rfl rfl rfl rfl rfl rfl ?_
                    refine b_F rfl rfl rfl rfl rfl rfl ?_
                    refine b_F rfl rfl rfl rfl rfl rfl ?_
                    refine b_F rfl rfl rfl rfl rfl rfl ?_
                    refine bv rfl (v_pickT rfl rfl rfl) ?_
                    refine mv rfl rfl ?_
                    refine b_F rfl rfl rfl rfl rfl rfl ?_
                    refine b_F rfl rfl rfl rfl rfl rfl ?_
                    refine b_F rfl rfl rfl rfl rfl rfl ?_
                    refine bv rfl (v_pickT rfl rfl rfl) ?_
                    refine mv rfl rfl ?_
                    refine b_F rfl rfl rfl rfl rfl rfl ?_
                    refine b_F rfl rfl rfl rfl rfl rfl ?_
                    refine b_F rfl rfl rfl rfl rfl rfl ?_
                    refine b_F rfl rfl rfl rfl rfl rfl ?_
                    refine b_F rfl rfl rfl rfl rfl rfl ?_
                    refine bv rfl (v_pickT rfl rfl rfl) ?_
                    refine mv rfl rfl ?_
                    refine b_F rfl rfl rfl rfl rfl rfl ?_
                    refine b_F rfl rfl rfl rfl rfl rfl ?_
                    refine b_F rfl rfl rfl rfl rfl rfl ?_
                    refine bv rfl (v_pickT rfl rfl rfl) ?_
                    refine mv rfl rfl ?_
                    refine b_F rfl rfl rfl rfl rfl rfl ?_
                    refine b_F rfl rfl rfl rfl rfl rfl ?_
                    refine b_F rfl rfl rfl rfl rfl rfl ?_
                    refine b_F rfl rfl rfl rfl rfl rfl ?_
                    refine b_F rfl rfl rfl rfl rfl rfl ?_
                    refine bv rfl (v_pickT rfl rfl rfl) ?_
                    refine b_nil (hK _ ?_)
                    clear hK K
                    exact to_le (s' := ⟨[(1, HV.fptr [HV.int .i64 p0.1, HV.int .i64 p0.2.1, slE eFromLabelTo p0.2.2] 0), (3, HV.int .i64 a7), (4, HV.ptr 35004 v13 0), (70, HV.bool true)], [(35004, v13, .arr 3 66 [HV.int .i64 x11.1, HV.int .i64 x11.2.1, HV.int .i64 x11.2.2])]⟩) (AS.le_of ⟨rfl, rfl, rfl, rfl, trivial⟩ ⟨rfl, trivial⟩) ⟨true, (), h, rfl⟩
                  · have h := ifF hg29 h
                    refine b_T rfl rfl rfl rfl (decide_eq_false hg29) (o_val rfl (v_fieldAddrP fo66_0 rfl rfl) ?_)
                    refine b_T rfl rfl rfl rfl rfl (o_val rfl (v_loadP ty3 rfl rfl (l_lit rfl rfl)) ?_)
                    refine b_T rfl rfl rfl rfl rfl (o_val rfl (v_fieldAddrF fo24_1 rfl) ?_)
                    refine b_T rfl rfl rfl rfl rfl (o_val rfl (v_loadF ty3 rfl (l_lit rfl rfl)) ?_)
                    refine b_T rfl rfl rfl rfl rfl (o_val rfl (v_bin rfl rfl b_geq) ?_)
                    refine bv rfl (v_pickF rfl rfl rfl) ?_
                    refine mv rfl rfl ?_
                    by_cases hg28 : p0.2.1 ≤ x11.1
                    · have h := ifT hg28 h
                      refine b_F rfl rfl rfl rfl rfl (decide_eq_true hg28) ?_
                      refine b_F rfl rfl rfl rfl rfl rfl ?_
                      refine b_F rfl rfl rfl rfl rfl rfl ?_
                      refine bv rfl (v_pickT rfl rfl rfl) ?_
                      refine mv rfl rfl ?_
                      refine b_F rfl rfl rfl rfl rfl rfl ?_
                      refine b_F rfl rfl rfl rfl rfl rfl ?_
                      refine b_F rfl rfl rfl rfl rfl rfl ?_
                      refine b_F rfl rfl rfl rfl rfl rfl ?_
                      refine b_F rfl rfl rfl rfl rfl rfl ?_
                      refine bv rfl (v_pickT rfl rfl rfl) ?_
                      refine mv rfl rfl ?_
                      refine b_F rfl rfl rfl rfl rfl rfl ?_
                      refine b_F rfl rfl rfl rfl rfl rfl ?_
                      refine b_F rfl rfl rfl rfl rfl rfl ?_
                      refine bv rfl (v_pickT rfl rfl rfl) ?_
                      refine mv rfl rfl ?_
                      refine b_F rfl rfl rfl rfl rfl rfl ?_
                      refine b_F rfl rfl rfl rfl rfl rfl ?_
                      refine b_F rfl rfl rfl rfl rfl rfl ?_
                      refine b_F rfl rfl rfl rfl rfl rfl ?_
                      refine b_F rfl rfl rfl rfl rfl rfl ?_
                      refine bv rfl (v_pickT rfl rfl rfl) ?_
                      refine b_nil (hK _ ?_)
                      clear hK K
                      exact to_le (s' := ⟨[(1, HV.fptr [HV.int .i64 p0.1, HV.int .i64 p0.2.1, slE eFromLabelTo p0.2.2] 0), (3, HV.int .i64 a7), (4, HV.ptr 35004 v13 0), (70, HV.bool true)], [(35004, v13, .arr 3 66 [HV.int .i64 x11.1, HV.int .i64 x11.2.1, HV.int .i64 x11.2.2])]⟩) (AS.le_of ⟨rfl, rfl, rfl, rfl, trivial⟩ ⟨rfl, trivial⟩) ⟨true, (), h, rfl⟩
                    · have h := ifF hg28 h
                      refine b_T rfl rfl rfl rfl (decide_eq_false hg28) (o_val rfl (v_fieldAddrP fo66_2 rfl rfl) ?_)
                      refine b_T rfl rfl rfl rfl rfl (o_val rfl (v_loadP ty3 rfl rfl (l_lit rfl rfl)) ?_)
                      refine b_T rfl rfl rfl rfl rfl (o_val rfl (v_bin rfl rfl b_lss) ?_)
                      refine bv rfl (v_pickF rfl rfl rfl) ?_
                      refine mv rfl rfl ?_
                      by_cases hg27 : x11.2.2 < 0
                      · have h := ifT hg27 h
                        refine b_F rfl rfl rfl rfl rfl (decide_eq_true hg27) ?_
                        refine b_F rfl rfl rfl rfl rfl rfl ?_
                        refine b_F rfl rfl rfl rfl rfl rfl ?_
                        refine b_F rfl rfl rfl rfl rfl rfl ?_
                        refine b_F rfl rfl rfl rfl rfl rfl ?_
                        refine bv rfl (v_pickT rfl rfl rfl) ?_
                        refine mv rfl rfl ?_
                        refine b_F rfl rfl rfl rfl rfl rfl ?_
                        refine b_F rfl rfl rfl rfl rfl rfl ?_
                        refine b_F rfl rfl rfl rfl rfl rfl ?_
                        refine bv rfl (v_pickT rfl rfl rfl) ?_
                        refine mv rfl rfl ?_
                        refine b_F rfl rfl rfl rfl rfl rfl ?_
                        refine b_F rfl rfl rfl rfl rfl rfl ?_
                        refine b_F rfl rfl rfl rfl rfl rfl ?_
                        refine b_F rfl rfl rfl rfl rfl rfl ?_
                        refine b_F rfl rfl rfl rfl rfl rfl ?_
                        refine bv rfl (v_pickT rfl rfl rfl) ?_
                        refine b_nil (hK _ ?_)
                        clear hK K
                        exact to_le (s' := ⟨[(1, HV.fptr [HV.int .i64 p0.1, HV.int .i64 p0.2.1, slE eFromLabelTo p0.2.2] 0), (3, HV.int .i64 a7), (4, HV.ptr 35004 v13 0), (70, HV.bool true)], [(35004, v13, .arr 3 66 [HV.int .i64 x11.1, HV.int .i64 x11.2.1, HV.int .i64 x11.2.2])]⟩) (AS.le_of ⟨rfl, rfl, rfl, rfl, trivial⟩ ⟨rfl, trivial⟩) ⟨true, (), h, rfl⟩
                      · have h := ifF hg27 h
                        refine b_T rfl rfl rfl rfl (decide_eq_false hg27) (o_val rfl (v_fieldAddrP fo66_2 rfl rfl) ?_)
                        refine b_T rfl rfl rfl rfl rfl (o_val rfl (v_loadP ty3 rfl rfl (l_lit rfl rfl)) ?_)
                        refine b_T rfl rfl rfl rfl rfl (o_val rfl (v_fieldAddrF fo24_1 rfl) ?_)
                        refine b_T rfl rfl rfl rfl rfl (o_val rfl (v_loadF ty3 rfl (l_lit rfl rfl)) ?_)
                        refine b_T rfl rfl rfl rfl rfl (o_val rfl (v_bin rfl rfl b_geq) ?_)
                        refine bv rfl (v_pickF rfl rfl rfl) ?_
                        refine mv rfl rfl ?_
                        by_cases hg26 : p0.2.1 ≤ x11.2.2
                        · have h := ifT hg26 h
                          refine b_F rfl rfl rfl rfl rfl (decide_eq_true hg26) ?_
                          refine b_F rfl rfl rfl rfl rfl rfl ?_
                          refine b_F rfl rfl rfl rfl rfl rfl ?_
                          refine bv rfl (v_pickT rfl rfl rfl) ?_
                          refine mv rfl rfl ?_
                          refine b_F rfl rfl rfl rfl rfl rfl ?_
                          refine b_F rfl rfl rfl rfl rfl rfl ?_
                          refine b_F rfl rfl rfl rfl rfl rfl ?_
                          refine b_F rfl rfl rfl rfl rfl rfl ?_
                          refine b_F rfl rfl rfl rfl rfl rfl ?_
                          refine bv rfl (v_pickT rfl rfl rfl) ?_
                          refine b_nil (hK _ ?_)
                          clear hK K
                          exact to_le (s' := ⟨[(1, HV.fptr [HV.int .i64 p0.1, HV.int .i64 p0.2.1, slE eFromLabelTo p0.2.2] 0), (3, HV.int .i64 a7), (4, HV.ptr 35004 v13 0), (70, HV.bool true)], [(35004, v13, .arr 3 66 [HV.int .i64 x11.1, HV.int .i64 x11.2.1, HV.int .i64 x11.2.2])]⟩) (AS.le_of ⟨rfl, rfl, rfl, rfl, trivial⟩ ⟨rfl, trivial⟩) ⟨true, (), h, rfl⟩
                        · have h := ifF hg26 h
                          refine b_T rfl rfl rfl rfl (decide_eq_false hg26) (o_val rfl (v_fieldAddrP fo66_1 rfl rfl) ?_)
                          refine b_T rfl rfl rfl rfl rfl (o_val rfl (v_loadP ty3 rfl rfl (l_lit rfl rfl)) ?_)
                          refine b_T rfl rfl rfl rfl rfl (o_val rfl (v_bin rfl rfl b_lss) ?_)
                          refine bv rfl (v_pickF rfl rfl rfl) ?_
                          refine mv rfl rfl ?_
                          by_cases hg25 : x11.2.1 < 0
                          · have h := ifT hg25 h
                            refine b_F rfl rfl rfl rfl rfl (decide_eq_true hg25) ?_
                            refine b_F rfl rfl rfl rfl rfl rfl ?_
                            refine b_F rfl rfl rfl rfl rfl rfl ?_
                            refine b_F rfl rfl rfl rfl rfl rfl ?_
                            refine b_F rfl rfl rfl rfl rfl rfl ?_
                            refine bv rfl (v_pickT rfl rfl rfl) ?_
                            refine b_nil (hK _ ?_)
                            clear hK K
                            exact to_le (s' := ⟨[(1, HV.fptr [HV.int .i64 p0.1, HV.int .i64 p0.2.1, slE eFromLabelTo p0.2.2] 0), (3, HV.int .i64 a7), (4, HV.ptr 35004 v13 0), (70, HV.bool true)], [(35004, v13, .arr 3 66 [HV.int .i64 x11.1, HV.int .i64 x11.2.1, HV.int .i64 x11.2.2])]⟩) (AS.le_of ⟨rfl, rfl, rfl, rfl, trivial⟩ ⟨rfl, trivial⟩) ⟨true, (), h, rfl⟩
                          · have h := ifF hg25 h
                            refine b_T rfl rfl rfl rfl (decide_eq_false hg25) (o_val rfl (v_fieldAddrP fo66_1 rfl rfl) ?_)
                            refine b_T rfl rfl rfl rfl rfl (o_val rfl (v_loadP ty3 rfl rfl (l_lit rfl rfl)) ?_)
                            refine b_T rfl rfl rfl rfl rfl (o_val rfl (v_fieldAddrF fo24_0 rfl) ?_)
                            refine b_T rfl rfl rfl rfl rfl (o_val rfl (v_loadF ty3 rfl (l_lit rfl rfl)) ?_)
                            refine b_T rfl rfl rfl rfl rfl (o_val rfl (v_bin rfl rfl b_geq) ?_)
                            refine bv rfl (v_pickF rfl rfl rfl) ?_
                            refine b_nil (hK _ ?_)
                            clear hK K
                            exact to_le (s' := ⟨[(1, HV.fptr [HV.int .i64 p0.1, HV.int .i64 p0.2.1, slE eFromLabelTo p0.2.2] 0), (3, HV.int .i64 a7), (4, HV.ptr 35004 v13 0), (70, HV.bool (decide (p0.1 ≤ x11.2.1)))], [(35004, v13, .arr 3 66 [HV.int .i64 x11.1, HV.int .i64 x11.2.1, HV.int .i64 x11.2.2])]⟩) (AS.le_of ⟨rfl, rfl, rfl, rfl, trivial⟩ ⟨rfl, trivial⟩) ⟨decide (p0.1 ≤ x11.2.1), (), h, rfl⟩
              · have hc := of_decide_eq_false hc
                have h := ifF hc h
                refine AW.exit ?_
                exact to_le (s' := ⟨[], []⟩) (AS.le_of trivial trivial) ⟨(), (), h, rfl⟩
        · refine AW.rg rfl fun K hK => ?_
          refine bv rfl (v_fieldAddrF fo24_1 rfl) ?_
          refine bv rfl (v_loadF ty3 rfl (l_lit rfl rfl)) ?_
          refine bv rfl (v_bin rfl rfl b_gtr) ?_
          refine mv rfl rfl ?_
          by_cases hg32 : 64 < p0.2.1
          · have h := ifT hg32 h
            refine b_F rfl rfl rfl rfl rfl (decide_eq_true hg32) ?_
            refine b_F rfl rfl rfl rfl rfl rfl ?_
            refine b_F rfl rfl rfl rfl rfl rfl ?_
            refine b_F rfl rfl rfl rfl rfl rfl ?_
            refine bv rfl (v_pickT rfl rfl rfl) ?_
            refine b_nil (hK _ ?_)
            clear hK K
            exact to_le (s' := ⟨[(1, HV.fptr [HV.int .i64 p0.1, HV.int .i64 p0.2.1, slE eFromLabelTo p0.2.2] 0), (24, HV.bool true)], []⟩) (AS.le_of ⟨rfl, rfl, trivial⟩ trivial) ⟨true, (), h, rfl⟩
          · have h := ifF hg32 h
            refine b_T rfl rfl rfl rfl (decide_eq_false hg32) (o_val rfl (v_fieldAddrF fo24_2 rfl) ?_)
            refine b_T rfl rfl rfl rfl rfl (o_val rfl (v_loadF ty22 rfl (l_lit rfl rfl)) ?_)
            refine b_T rfl rfl rfl rfl rfl (o_val rfl (v_lenF rfl rfl ty22 rfl) ?_)
            refine b_T rfl rfl rfl rfl rfl (o_val rfl (v_bin rfl rfl b_gtr) ?_)
            refine bv rfl (v_pickF rfl rfl rfl) ?_
            refine b_nil (hK _ ?_)
            clear hK K
            exact to_le (s' := ⟨[(1, HV.fptr [HV.int .i64 p0.1, HV.int .i64 p0.2.1, slE eFromLabelTo p0.2.2] 0), (24, HV.bool (decide (1024 < ((p0.2.2).length : Int))))], []⟩) (AS.le_of ⟨rfl, rfl, trivial⟩ trivial) ⟨decide (1024 < ((p0.2.2).length : Int)), (), h, rfl⟩
  · refine AW.rg rfl fun K hK => ?_
    refine bv rfl (v_fieldAddrF fo24_0 rfl) ?_
    refine bv rfl (v_loadF ty3 rfl (l_lit rfl rfl)) ?_
    refine bv rfl (v_bin rfl rfl b_lss) ?_
    refine mv rfl rfl ?_
    by_cases hg33 : p0.1 < 1
    · have h := ifT hg33 h
      refine b_F rfl rfl rfl rfl rfl (decide_eq_true hg33) ?_
      refine b_F rfl rfl rfl rfl rfl rfl ?_
      refine b_F rfl rfl rfl rfl rfl rfl ?_
      refine bv rfl (v_pickT rfl rfl rfl) ?_
      refine b_nil (hK _ ?_)
      clear hK K
      exact to_le (s' := ⟨[(1, HV.fptr [HV.int .i64 p0.1, HV.int .i64 p0.2.1, slE eFromLabelTo p0.2.2] 0), (12, HV.bool true)], []⟩) (AS.le_of ⟨rfl, rfl, trivial⟩ trivial) ⟨true, (), h, rfl⟩
    · have h := ifF hg33 h
      refine b_T rfl rfl rfl rfl (decide_eq_false hg33) (o_val rfl (v_fieldAddrF fo24_0 rfl) ?_)
      refine b_T rfl rfl rfl rfl rfl (o_val rfl (v_loadF ty3 rfl (l_lit rfl rfl)) ?_)
      refine b_T rfl rfl rfl rfl rfl (o_val rfl (v_bin rfl rfl b_gtr) ?_)
      refine bv rfl (v_pickF rfl rfl rfl) ?_
      refine b_nil (hK _ ?_)
      clear hK K
      exact to_le (s' := ⟨[(1, HV.fptr [HV.int .i64 p0.1, HV.int .i64 p0.2.1, slE eFromLabelTo p0.2.2] 0), (12, HV.bool (decide (256 < p0.1)))], []⟩) (AS.le_of ⟨rfl, rfl, trivial⟩ trivial) ⟨decide (256 < p0.1), (), h, rfl⟩

set_option maxHeartbeats 1600000 in
set_option maxRecDepth 100000 in
theorem w_ref11_check {p0 : TLabelsStatesEdges} {r : Int} (h : m_ref11_check p0 = some r) : Pure Try.prog 175 [HV.agg [HV.int .i64 p0.1, HV.int .i64 p0.2.1, slE eFromLabelTo p0.2.2]] (· = HV.int .i64 r) := by
  unfold m_ref11_check at h
  refine Pure.of_body Try.func175 rfl rfl (Nat.le_of_ble_eq_true rfl) fun hf => ?_
  unfold Try.f175
  dsimp only [enumS, Nat.reduceAdd]
  refine AW.rgs rfl fun K hK => ?_
  refine b_op rfl (o_box rfl rfl rfl ?_)
  refine mv rfl rfl ?_
  refine b_nil (hK _ (AW.to (to_le (s' := ⟨[(1, HV.fptr [HV.int .i64 p0.1, HV.int .i64 p0.2.1, slE eFromLabelTo p0.2.2] 0)], []⟩) (AS.le_of ⟨rfl, trivial⟩ trivial) ?_)))
  clear hK K
  refine AW.seq ?_
  refine AW.rgs rfl fun K hK => ?_
  refine bv rfl (v_loadF ty24 rfl (l_litA rfl (Nat.le_of_ble_eq_true rfl) rfl)) ?_
  obtain ⟨x1, h2, h⟩ := bS h
  refine b_op rfl (o_call rfl rfl rfl rfl (ACallD.pure0 (w_ref09_Check h2)) ?_)
  refine bv rfl (v_bin rfl rfl b_neq) ?_
  refine b_nil (hK _ (AW.to (to_le (s' := ⟨[(1, HV.fptr [HV.int .i64 p0.1, HV.int .i64 p0.2.1, slE eFromLabelTo p0.2.2] 0), (5, HV.bool (decide (x1 ≠ 0)))], []⟩) (AS.le_of ⟨rfl, rfl, trivial⟩ trivial) ?_)))
  clear hK K
  refine AW.cond rfl (fun hc => ?_) (fun hc => ?_)
  · have hc := of_decide_eq_true hc
    have h := ifT hc h
    refine AW.rgs rfl fun K hK => ?_
    refine mv rfl rfl ?_
    refine b_nil (hK _ (AW.to (to_le (s' := ⟨[(2, HV.int .i64 1)], []⟩) (AS.le_of ⟨rfl, trivial⟩ trivial) ?_)))
    clear hK K
    refine AW.ret ?_
    have h := Option.some.inj h
    subst h
    exact ret_pure (hs := [HV.int .i64 1]) (q := HV.int .i64 1) (.inr rfl) (resT rfl rfl) rfl trivial
  · have hc := of_decide_eq_false hc
    have h := ifF hc h
    refine AW.skip ?_
    refine AW.seq ?_
    refine AW.rgs rfl fun K hK => ?_
    refine bv rfl (v_fieldAddrF fo24_0 rfl) ?_
    refine bv rfl (v_loadF ty3 rfl (l_lit rfl rfl)) ?_
    refine bv rfl (v_bin rfl rfl b_gtr) ?_
    refine b_nil (hK _ (AW.to (to_le (s' := ⟨[(8, HV.bool (decide (16 < p0.1)))], []⟩) (AS.le_of ⟨rfl, trivial⟩ trivial) ?_)))
    clear hK K
    refine AW.cond rfl (fun hc => ?_) (fun hc => ?_)
    · have hc := of_decide_eq_true hc
      have h := ifT hc h
      refine AW.rgs rfl fun K hK => ?_
      refine mv rfl rfl ?_
      refine b_nil (hK _ (AW.to (to_le (s' := ⟨[(2, HV.int .i64 12)], []⟩) (AS.le_of ⟨rfl, trivial⟩ trivial) ?_)))
      clear hK K
      refine AW.ret ?_
      have h := Option.some.inj h
      subst h
      exact ret_pure (hs := [HV.int .i64 12]) (q := HV.int .i64 12) (.inr rfl) (resT rfl rfl) rfl trivial
    · have hc := of_decide_eq_false hc
      have h := ifF hc h
      refine AW.skip ?_
      refine AW.rgs rfl fun K hK => ?_
      refine mv rfl rfl ?_
      refine b_nil (hK _ (AW.to (to_le (s' := ⟨[(2, HV.int .i64 0)], []⟩) (AS.le_of ⟨rfl, trivial⟩ trivial) ?_)))
      clear hK K
      refine AW.ret ?_
      have h := Option.some.inj h
      subst h
      exact ret_pure (hs := [HV.int .i64 0]) (q := HV.int .i64 0) (.inr rfl) (resT rfl rfl) rfl trivial

set_option maxHeartbeats 1600000 in
set_option maxRecDepth 100000 in
theorem w_ref11_checkNumber {p0 : TLabelsStatesEdges} {p1 : Int} {r : Int} (h : m_ref11_checkNumber p0 p1 = some r) : Pure Try.prog 155 [HV.agg [HV.int .i64 p0.1, HV.int .i64 p0.2.1, slE eFromLabelTo p0.2.2], HV.int .i64 p1] (· = HV.int .i64 r) := by
  unfold m_ref11_checkNumber at h
  refine Pure.of_body Try.func155 rfl rfl (Nat.le_of_ble_eq_true rfl) fun hf => ?_
  unfold Try.f155
  dsimp only [enumS, Nat.reduceAdd]
  refine AW.rgs rfl fun K hK => ?_
  refine b_op rfl (o_box rfl rfl rfl ?_)
  refine mv rfl rfl ?_
  refine b_nil (hK _ (AW.to (to_le (s' := ⟨[(1, HV.int .i64 p1), (2, HV.fptr [HV.int .i64 p0.1, HV.int .i64 p0.2.1, slE eFromLabelTo p0.2.2] 0)], []⟩) (AS.le_of ⟨rfl, rfl, trivial⟩ trivial) ?_)))
  clear hK K
  refine AW.seq ?_
  refine AW.rgs rfl fun K hK => ?_
  refine bv rfl (v_loadF ty24 rfl (l_litA rfl (Nat.le_of_ble_eq_true rfl) rfl)) ?_
  obtain ⟨x1, h2, h⟩ := bS h
  refine b_op rfl (o_call rfl rfl rfl rfl (ACallD.pure0 (w_ref11_check h2)) ?_)
  refine mv rfl rfl ?_
  refine b_nil (hK _ (AW.to (to_le (s' := ⟨[(1, HV.int .i64 p1), (5, HV.int .i64 x1)], []⟩) (AS.le_of ⟨rfl, rfl, trivial⟩ trivial) ?_)))
  clear hK K
  refine AW.rgs rfl fun K hK => ?_
  refine mv rfl rfl ?_
  refine bv rfl (v_bin rfl rfl b_neq) ?_
  refine b_nil (hK _ (AW.to (to_le (s' := ⟨[(1, HV.int .i64 p1), (5, HV.int .i64 x1), (9, HV.bool (decide (x1 ≠ 0)))], []⟩) (AS.le_of ⟨rfl, rfl, rfl, trivial⟩ trivial) ?_)))
  clear hK K
  refine AW.cond rfl (fun hc => ?_) (fun hc => ?_)
  · have hc := of_decide_eq_true hc
    have h := ifT hc h
    refine AW.rgs rfl fun K hK => ?_
    refine mv rfl rfl ?_
    refine mv rfl rfl ?_
    refine b_nil (hK _ (AW.to (to_le (s' := ⟨[(4, HV.int .i64 x1)], []⟩) (AS.le_of ⟨rfl, trivial⟩ trivial) ?_)))
    clear hK K
    refine AW.ret ?_
    have h := Option.some.inj h
    subst h
    exact ret_pure (hs := [HV.int .i64 x1]) (q := HV.int .i64 x1) (.inr rfl) (resT rfl rfl) rfl trivial
  · have hc := of_decide_eq_false hc
    have h := ifF hc h
    refine AW.skip ?_
    refine AW.seq ?_
    refine AW.seqJ h (S := Bool) (V := Unit) (fun a v => ⟨[(16, HV.bool a)], []⟩) (fun a3 w4 h => ?_) (fun k5 h => ?_)
    · refine AW.cond rfl (fun hc => ?_) (fun hc => ?_)
      · have h := ifT hc h
        refine AW.rgs rfl fun K hK => ?_
        refine mv rfl rfl ?_
        refine b_nil (hK _ (AW.to (to_le (s' := ⟨[(4, HV.int .i64 2)], []⟩) (AS.le_of ⟨rfl, trivial⟩ trivial) ?_)))
        clear hK K
        refine AW.ret ?_
        have h := Option.some.inj h
        subst h
        exact ret_pure (hs := [HV.int .i64 2]) (q := HV.int .i64 2) (.inr rfl) (resT rfl rfl) rfl trivial
      · have h := ifF (bF' hc) h
        refine AW.skip ?_
        refine AW.rgs rfl fun K hK => ?_
        refine mv rfl rfl ?_
        refine b_nil (hK _ (AW.to (to_le (s' := ⟨[(4, HV.int .i64 0)], []⟩) (AS.le_of ⟨rfl, trivial⟩ trivial) ?_)))
        clear hK K
        refine AW.ret ?_
        have h := Option.some.inj h
        subst h
        exact ret_pure (hs := [HV.int .i64 0]) (q := HV.int .i64 0) (.inr rfl) (resT rfl rfl) rfl trivial
    · refine AW.rg rfl fun K hK => ?_
      refine mv rfl rfl ?_
      refine bv rfl (v_bin rfl rfl b_lss) ?_
      refine mv rfl rfl ?_
      by_cases hg6 : p1 < 0
      · have h := ifT hg6 h
        refine b_F rfl rfl rfl rfl rfl (decide_eq_true hg6) ?_
        refine b_F rfl rfl rfl rfl rfl rfl ?_
        refine bv rfl (v_pickT rfl rfl rfl) ?_
        refine b_nil (hK _ ?_)
        clear hK K
        exact to_le (s' := ⟨[(16, HV.bool true)], []⟩) (AS.le_of ⟨rfl, trivial⟩ trivial) ⟨true, (), h, rfl⟩
      · have h := ifF hg6 h
        refine b_T rfl rfl rfl rfl (decide_eq_false hg6) (o_val rfl (mv_val rfl rfl).2 ?_)
        refine b_T rfl rfl rfl rfl rfl (o_val rfl (v_bin rfl rfl b_gtr) ?_)
        refine bv rfl (v_pickF rfl rfl rfl) ?_
        refine b_nil (hK _ ?_)
        clear hK K
        exact to_le (s' := ⟨[(16, HV.bool (decide (4096 < p1)))], []⟩) (AS.le_of ⟨rfl, trivial⟩ trivial) ⟨decide (4096 < p1), (), h, rfl⟩

set_option maxHeartbeats 1600000 in
set_option maxRecDepth 100000 in
theorem w_ref11_has {p0 : List (Int)} {p1 : Int} {r : Bool} (h : m_ref11_has p0 p1 = some r) : Pure Try.prog 190 [slE eInt p0, HV.int .i64 p1] (· = HV.bool r) := by
  unfold m_ref11_has at h
  refine Pure.of_body Try.func190 rfl rfl (Nat.le_of_ble_eq_true rfl) fun hf => ?_
  unfold Try.f190
  dsimp only [enumS, Nat.reduceAdd]
  refine AW.rgs rfl fun K hK => ?_
  refine mv rfl rfl ?_
  refine b_nil (hK _ (AW.to (to_le (s' := ⟨[(0, slE eInt p0), (1, HV.int .i64 p1)], []⟩) (AS.le_of ⟨rfl, rfl, trivial⟩ trivial) ?_)))
  clear hK K
  refine AW.seq ?_
  refine AW.rgs rfl fun K hK => ?_
  refine mv rfl rfl ?_
  refine b_nil (hK _ (AW.to (to_le (s' := ⟨[(0, slE eInt p0), (1, HV.int .i64 p1), (5, HV.int .i64 0)], []⟩) (AS.le_of ⟨rfl, rfl, rfl, trivial⟩ trivial) ?_)))
  clear hK K
  refine AW.lpR h (by first | exact up_then | exact up_to) (S := Int) (V := Unit) (fun a v => ⟨[(0, slE eInt p0), (1, HV.int .i64 p1), (5, HV.int .i64 a)], []⟩) ?_ (X := Unit) (W := Unit) (fun a v => ⟨[], []⟩) (fun a7 w8 h => ?_) (fun a1 w2 st3 h hr4=> ?_)
  · exact to_le (s' := ⟨[(0, slE eInt p0), (1, HV.int .i64 p1), (5, HV.int .i64 0)], []⟩) (AS.le_of ⟨rfl, rfl, rfl, trivial⟩ trivial) ⟨(), rfl⟩
  · refine AW.rgs rfl fun K hK => ?_
    refine mv rfl rfl ?_
    refine b_nil (hK _ (AW.to (to_le (s' := ⟨[(4, HV.bool false)], []⟩) (AS.le_of ⟨rfl, trivial⟩ trivial) ?_)))
    clear hK K
    refine AW.ret ?_
    have h := Option.some.inj h
    subst h
    exact ret_pure (hs := [HV.bool false]) (q := HV.bool false) (.inr rfl) (resT rfl rfl) rfl trivial
  · refine AW.seq ?_
    refine AW.rgs rfl fun K hK => ?_
    refine mv rfl rfl ?_
    refine mv rfl rfl ?_
    refine bv rfl (v_lenF rfl rfl ty42 rfl) ?_
    refine bv rfl (v_bin rfl rfl b_lss) ?_
    refine b_nil (hK _ (AW.to (to_le (s' := ⟨[(0, slE eInt p0), (1, HV.int .i64 p1), (5, HV.int .i64 a1), (9, HV.bool (decide (a1 < ((p0).length : Int))))], []⟩) (AS.le_of ⟨rfl, rfl, rfl, rfl, trivial⟩ trivial) ?_)))
    clear hK K
    refine AW.cond rfl (fun hc => ?_) (fun hc => ?_)
    · have hc := of_decide_eq_true hc
      have h := ifT hc h
      refine AW.skip ?_
      refine AW.seq (AW.block ?_)
      refine AW.rgs rfl fun K hK => ?_
      refine mv rfl rfl ?_
      refine mv rfl rfl ?_
      obtain ⟨x5, h6, h⟩ := bS h
      refine bv rfl (v_idxF ty42 es42 rfl rfl (idx_lt h6)) ?_
      refine bv rfl (v_loadF ty3 rfl (l_cell eInt h6 (o := 0) rfl rfl)) ?_
      refine mv rfl rfl ?_
      refine bv rfl (v_bin rfl rfl b_eql) ?_
      refine b_nil (hK _ (AW.to (to_le (s' := ⟨[(0, slE eInt p0), (1, HV.int .i64 p1), (5, HV.int .i64 a1), (17, HV.bool (decide (x5 = p1)))], []⟩) (AS.le_of ⟨rfl, rfl, rfl, rfl, trivial⟩ trivial) ?_)))
      clear hK K
      refine AW.cond rfl (fun hc => ?_) (fun hc => ?_)
      · have hc := of_decide_eq_true hc
        have h := ifT hc h
        refine AW.rgs rfl fun K hK => ?_
        refine mv rfl rfl ?_
        refine b_nil (hK _ (AW.to (to_le (s' := ⟨[(4, HV.bool true)], []⟩) (AS.le_of ⟨rfl, trivial⟩ trivial) ?_)))
        clear hK K
        have h := hr4 _ h
        refine AW.ret ?_
        have h := Option.some.inj h
        subst h
        exact ret_pure (hs := [HV.bool true]) (q := HV.bool true) (.inr rfl) (resT rfl rfl) rfl trivial
      · have hc := of_decide_eq_false hc
        have h := ifF hc h
        refine AW.skip ?_
        refine AW.rg rfl fun K hK => ?_
        refine mv rfl rfl ?_
        refine bv rfl (v_bin rfl rfl b_add) ?_
        refine mv rfl rfl ?_
        refine b_nil (hK _ ?_)
        clear hK K
        exact to_le (s' := ⟨[(0, slE eInt p0), (1, HV.int .i64 p1), (5, HV.int .i64 (IntKind.wrap .i64 (a1 + 1)))], []⟩) (AS.le_of ⟨rfl, rfl, rfl, trivial⟩ trivial) ⟨IntKind.wrap .i64 (a1 + 1), (), h, rfl⟩
    · have hc := of_decide_eq_false hc
      have h := ifF hc h
      refine AW.exit ?_
      exact to_le (s' := ⟨[], []⟩) (AS.le_of trivial trivial) ⟨(), (), h, rfl⟩

set_option maxHeartbeats 1600000 in
set_option maxRecDepth 100000 in
theorem w_ref11_Step {p0 : TLabelsStatesEdges} {p1 : List (Int)} {p2 : Int} {r : (List (Int))} (h : m_ref11_Step p0 p1 p2 = some r) : Pure Try.prog 185 [HV.agg [HV.int .i64 p0.1, HV.int .i64 p0.2.1, slE eFromLabelTo p0.2.2], slE eInt p1, HV.int .i64 p2] (· = slE eInt r) := by
  unfold m_ref11_Step at h
  refine Pure.of_body Try.func185 rfl rfl (Nat.le_of_ble_eq_true rfl) fun hf => ?_
  unfold Try.f185
  dsimp only [enumS, Nat.reduceAdd]
  refine AW.rgs rfl fun K hK => ?_
  refine b_op rfl (o_box rfl rfl rfl ?_)
  refine mv rfl rfl ?_
  refine b_nil (hK _ (AW.to (to_le (s' := ⟨[(1, slE eInt p1), (2, HV.int .i64 p2), (3, HV.fptr [HV.int .i64 p0.1, HV.int .i64 p0.2.1, slE eFromLabelTo p0.2.2] 0)], []⟩) (AS.le_of ⟨rfl, rfl, rfl, trivial⟩ trivial) ?_)))
  clear hK K
  refine AW.rgs rfl fun K hK => ?_
  refine b_op rfl (o_bslM (fid := 185) 185011 rfl rfl rfl (as_of (cs := []) ty42 ty3 rfl rfl rfl rfl rfl) (fun v1 => ?_))
  refine mv rfl rfl ?_
  refine b_nil (hK _ (AW.to (to_le (s' := ⟨[(1, slE eInt p1), (2, HV.int .i64 p2), (3, HV.fptr [HV.int .i64 p0.1, HV.int .i64 p0.2.1, slE eFromLabelTo p0.2.2] 0), (7, HV.ar 185011 v1 eInt.k 0 0)], [(185011, v1, .arr eInt.k 3 [])]⟩) (AS.le_of ⟨rfl, rfl, rfl, rfl, trivial⟩ ⟨rfl, trivial⟩) ?_)))
  clear hK K
  refine AW.seq ?_
  refine AW.rgs rfl fun K hK => ?_
  refine mv rfl rfl ?_
  refine b_nil (hK _ (AW.to (to_le (s' := ⟨[(1, slE eInt p1), (2, HV.int .i64 p2), (3, HV.fptr [HV.int .i64 p0.1, HV.int .i64 p0.2.1, slE eFromLabelTo p0.2.2] 0), (7, HV.ar 185011 v1 eInt.k 0 0), (8, HV.int .i64 0)], [(185011, v1, .arr eInt.k 3 [])]⟩) (AS.le_of ⟨rfl, rfl, rfl, rfl, rfl, trivial⟩ ⟨rfl, trivial⟩) ?_)))
  clear hK K
  refine AW.lpX h (by first | exact up_then | exact up_to) (S := Int × (List Int)) (V := Nat) (fun a v => ⟨[(1, slE eInt p1), (2, HV.int .i64 p2), (3, HV.fptr [HV.int .i64 p0.1, HV.int .i64 p0.2.1, slE eFromLabelTo p0.2.2] 0), (7, HV.ar 185011 v eInt.k 0 ((a.2).length)), (8, HV.int .i64 a.1)], [(185011, v, .arr eInt.k 3 (eInt.E a.2))]⟩) ?_ (X := (List Int)) (W := Nat) (fun a v => ⟨[(7, HV.ar 185011 v eInt.k 0 ((a).length))], [(185011, v, .arr eInt.k 3 (eInt.E a))]⟩) (fun a33 w34 h => ?_) (fun a2 w3 st4 h => ?_)
  · exact to_le (s' := ⟨[(1, slE eInt p1), (2, HV.int .i64 p2), (3, HV.fptr [HV.int .i64 p0.1, HV.int .i64 p0.2.1, slE eFromLabelTo p0.2.2] 0), (7, HV.ar 185011 v1 eInt.k 0 0), (8, HV.int .i64 0)], [(185011, v1, .arr eInt.k 3 [])]⟩) (AS.le_of ⟨rfl, rfl, rfl, rfl, rfl, trivial⟩ ⟨rfl, trivial⟩) ⟨v1, rfl⟩
  · refine AW.rgs rfl fun K hK => ?_
    refine mv rfl rfl ?_
    refine mv rfl rfl ?_
    refine b_nil (hK _ (AW.to (to_le (s' := ⟨[(6, HV.ar 185011 w34 eInt.k 0 ((a33).length))], [(185011, w34, .arr eInt.k 3 (eInt.E a33))]⟩) (AS.le_of ⟨rfl, trivial⟩ ⟨rfl, trivial⟩) ?_)))
    clear hK K
    refine AW.to (to_frz 2 [(185011, w34, .arr eInt.k 3 (eInt.E a33))] ⟨[(6, slE eInt a33)], []⟩ ⟨⟨_, rfl, frz_slE eInt (l := a33) rfl fun _ _ => rfl⟩, trivial⟩ trivial ⟨rfl, trivial⟩ ⟨rfl, trivial⟩ ?_)
    refine AW.ret ?_
    have h := Option.some.inj h
    subst h
    exact ret_pure (hs := [slE eInt a33]) (q := slE eInt a33) (.inr rfl) (resT rfl rfl) rfl (clean_slE fun _ _ => ⟨trivial, trivial⟩)
  · refine AW.seq ?_
    refine AW.rgs rfl fun K hK => ?_
    refine mv rfl rfl ?_
    refine bv rfl (v_fieldAddrF fo24_1 rfl) ?_
    refine bv rfl (v_loadF ty3 rfl (l_lit rfl rfl)) ?_
    refine bv rfl (v_bin rfl rfl b_lss) ?_
    refine b_nil (hK _ (AW.to (to_le (s' := ⟨[(1, slE eInt p1), (2, HV.int .i64 p2), (3, HV.fptr [HV.int .i64 p0.1, HV.int .i64 p0.2.1, slE eFromLabelTo p0.2.2] 0), (7, HV.ar 185011 w3 eInt.k 0 ((a2.2).length)), (8, HV.int .i64 a2.1), (15, HV.bool (decide (a2.1 < p0.2.1)))], [(185011, w3, .arr eInt.k 3 (eInt.E a2.2))]⟩) (AS.le_of ⟨rfl, rfl, rfl, rfl, rfl, rfl, trivial⟩ ⟨rfl, trivial⟩) ?_)))
    clear hK K
    refine AW.cond rfl (fun hc => ?_) (fun hc => ?_)
    · have hc := of_decide_eq_true hc
      have h := ifT hc h
      refine AW.skip ?_
      refine AW.seqJ h (S := (List Int)) (V := Nat) (fun a v => ⟨[(1, slE eInt p1), (2, HV.int .i64 p2), (3, HV.fptr [HV.int .i64 p0.1, HV.int .i64 p0.2.1, slE eFromLabelTo p0.2.2] 0), (7, HV.ar 185011 v eInt.k 0 ((a).length)), (8, HV.int .i64 a2.1)], [(185011, v, .arr eInt.k 3 (eInt.E a))]⟩) (fun a6 w7 h => ?_) (fun k8 h => ?_)
      · refine AW.rg rfl fun K hK => ?_
        refine mv rfl rfl ?_
        refine bv rfl (v_bin rfl rfl b_add) ?_
        refine mv rfl rfl ?_
        refine b_nil (hK _ ?_)
        clear hK K
        exact to_le (s' := ⟨[(1, slE eInt p1), (2, HV.int .i64 p2), (3, HV.fptr [HV.int .i64 p0.1, HV.int .i64 p0.2.1, slE eFromLabelTo p0.2.2] 0), (7, HV.ar 185011 w7 eInt.k 0 ((a6).length)), (8, HV.int .i64 (IntKind.wrap .i64 (a2.1 + 1)))], [(185011, w7, .arr eInt.k 3 (eInt.E a6))]⟩) (AS.le_of ⟨rfl, rfl, rfl, rfl, rfl, trivial⟩ ⟨rfl, trivial⟩) ⟨(IntKind.wrap .i64 (a2.1 + 1), a6), w7, h, rfl⟩
      · refine AW.block ?_
        refine AW.rgs rfl fun K hK => ?_
        refine mv rfl rfl ?_
        refine b_nil (hK _ (AW.to (to_le (s' := ⟨[(1, slE eInt p1), (2, HV.int .i64 p2), (3, HV.fptr [HV.int .i64 p0.1, HV.int .i64 p0.2.1, slE eFromLabelTo p0.2.2] 0), (7, HV.ar 185011 w3 eInt.k 0 ((a2.2).length)), (8, HV.int .i64 a2.1), (9, HV.bool false)], [(185011, w3, .arr eInt.k 3 (eInt.E a2.2))]⟩) (AS.le_of ⟨rfl, rfl, rfl, rfl, rfl, rfl, trivial⟩ ⟨rfl, trivial⟩) ?_)))
        clear hK K
        refine AW.seq ?_
        refine AW.rgs rfl fun K hK => ?_
        refine mv rfl rfl ?_
        refine b_nil (hK _ (AW.to (to_le (s' := ⟨[(1, slE eInt p1), (2, HV.int .i64 p2), (3, HV.fptr [HV.int .i64 p0.1, HV.int .i64 p0.2.1, slE eFromLabelTo p0.2.2] 0), (7, HV.ar 185011 w3 eInt.k 0 ((a2.2).length)), (8, HV.int .i64 a2.1), (9, HV.bool false), (10, HV.int .i64 0)], [(185011, w3, .arr eInt.k 3 (eInt.E a2.2))]⟩) (AS.le_of ⟨rfl, rfl, rfl, rfl, rfl, rfl, rfl, trivial⟩ ⟨rfl, trivial⟩) ?_)))
        clear hK K
        refine AW.lpX h (by first | exact up_then | exact up_to) (S := Bool × Int) (V := Unit) (fun a v => ⟨[(1, slE eInt p1), (2, HV.int .i64 p2), (3, HV.fptr [HV.int .i64 p0.1, HV.int .i64 p0.2.1, slE eFromLabelTo p0.2.2] 0), (7, HV.ar 185011 w3 eInt.k 0 ((a2.2).length)), (8, HV.int .i64 a2.1), (9, HV.bool a.1), (10, HV.int .i64 a.2)], [(185011, w3, .arr eInt.k 3 (eInt.E a2.2))]⟩) ?_ (X := Bool) (W := Unit) (fun a v => ⟨[(1, slE eInt p1), (2, HV.int .i64 p2), (3, HV.fptr [HV.int .i64 p0.1, HV.int .i64 p0.2.1, slE eFromLabelTo p0.2.2] 0), (7, HV.ar 185011 w3 eInt.k 0 ((a2.2).length)), (8, HV.int .i64 a2.1), (9, HV.bool a)], [(185011, w3, .arr eInt.k 3 (eInt.E a2.2))]⟩) (fun a29 w30 h => ?_) (fun a9 w10 st11 h => ?_)
        · exact to_le (s' := ⟨[(1, slE eInt p1), (2, HV.int .i64 p2), (3, HV.fptr [HV.int .i64 p0.1, HV.int .i64 p0.2.1, slE eFromLabelTo p0.2.2] 0), (7, HV.ar 185011 w3 eInt.k 0 ((a2.2).length)), (8, HV.int .i64 a2.1), (9, HV.bool false), (10, HV.int .i64 0)], [(185011, w3, .arr eInt.k 3 (eInt.E a2.2))]⟩) (AS.le_of ⟨rfl, rfl, rfl, rfl, rfl, rfl, rfl, trivial⟩ ⟨rfl, trivial⟩) ⟨(), rfl⟩
        · refine AW.rgs rfl fun K hK => ?_
          refine mv rfl rfl ?_
          refine b_nil (hK _ (AW.to (to_le (s' := ⟨[(1, slE eInt p1), (2, HV.int .i64 p2), (3, HV.fptr [HV.int .i64 p0.1, HV.int .i64 p0.2.1, slE eFromLabelTo p0.2.2] 0), (7, HV.ar 185011 w3 eInt.k 0 ((a2.2).length)), (8, HV.int .i64 a2.1), (53, HV.bool a29)], [(185011, w3, .arr eInt.k 3 (eInt.E a2.2))]⟩) (AS.le_of ⟨rfl, rfl, rfl, rfl, rfl, rfl, trivial⟩ ⟨rfl, trivial⟩) ?_)))
          clear hK K
          refine AW.cond rfl (fun hc => ?_) (fun hc => ?_)
          · have h := ifT hc h
            refine AW.rg rfl fun K hK => ?_
            refine mv rfl rfl ?_
            refine mv rfl rfl ?_
            refine b_op rfl (o_bsl rfl rfl (as_of (cs := [HV.int .i64 a2.1]) ty42 ty3 rfl rfl rfl rfl rfl) ?_)
            obtain ⟨h32, h⟩ := ifN h
            refine b_op rfl (o_appE eInt (l := a2.2) (m := [a2.1]) rfl rfl ty42 ty42 ty3 rfl rfl rfl rfl rfl h32 (fun v31 => ?_))
            refine mv rfl rfl ?_
            refine b_nil (hK _ ?_)
            clear hK K
            exact to_le (s' := ⟨[(1, slE eInt p1), (2, HV.int .i64 p2), (3, HV.fptr [HV.int .i64 p0.1, HV.int .i64 p0.2.1, slE eFromLabelTo p0.2.2] 0), (7, HV.ar 185011 v31 eInt.k 0 ((a2.2 ++ [a2.1]).length)), (8, HV.int .i64 a2.1)], [(185011, v31, .arr eInt.k 3 (eInt.E (a2.2 ++ [a2.1])))]⟩) (AS.le_of ⟨rfl, rfl, rfl, rfl, rfl, trivial⟩ ⟨rfl, trivial⟩) ⟨a2.2 ++ [a2.1], v31, h, rfl⟩
          · have h := ifF (bF' hc) h
            refine AW.skip ?_
            exact to_le (s' := ⟨[(1, slE eInt p1), (2, HV.int .i64 p2), (3, HV.fptr [HV.int .i64 p0.1, HV.int .i64 p0.2.1, slE eFromLabelTo p0.2.2] 0), (7, HV.ar 185011 w3 eInt.k 0 ((a2.2).length)), (8, HV.int .i64 a2.1)], [(185011, w3, .arr eInt.k 3 (eInt.E a2.2))]⟩) (AS.le_of ⟨rfl, rfl, rfl, rfl, rfl, trivial⟩ ⟨rfl, trivial⟩) ⟨a2.2, w3, h, rfl⟩
        · refine AW.seq ?_
          refine AW.rgs rfl fun K hK => ?_
          refine mv rfl rfl ?_
          refine bv rfl (v_fieldAddrF fo24_2 rfl) ?_
          refine bv rfl (v_loadF ty22 rfl (l_lit rfl rfl)) ?_
          refine bv rfl (v_lenF rfl rfl ty22 rfl) ?_
          refine bv rfl (v_bin rfl rfl b_lss) ?_
          refine b_nil (hK _ (AW.to (to_le (s' := ⟨[(1, slE eInt p1), (2, HV.int .i64 p2), (3, HV.fptr [HV.int .i64 p0.1, HV.int .i64 p0.2.1, slE eFromLabelTo p0.2.2] 0), (7, HV.ar 185011 w3 eInt.k 0 ((a2.2).length)), (8, HV.int .i64 a2.1), (9, HV.bool a9.1), (10, HV.int .i64 a9.2), (22, HV.bool (decide (a9.2 < ((p0.2.2).length : Int))))], [(185011, w3, .arr eInt.k 3 (eInt.E a2.2))]⟩) (AS.le_of ⟨rfl, rfl, rfl, rfl, rfl, rfl, rfl, rfl, trivial⟩ ⟨rfl, trivial⟩) ?_)))
          clear hK K
          refine AW.cond rfl (fun hc => ?_) (fun hc => ?_)
          · have hc := of_decide_eq_true hc
            have h := ifT hc h
            refine AW.skip ?_
            refine AW.seqJ h (S := Bool) (V := Unit) (fun a v => ⟨[(1, slE eInt p1), (2, HV.int .i64 p2), (3, HV.fptr [HV.int .i64 p0.1, HV.int .i64 p0.2.1, slE eFromLabelTo p0.2.2] 0), (7, HV.ar 185011 w3 eInt.k 0 ((a2.2).length)), (8, HV.int .i64 a2.1), (9, HV.bool a), (10, HV.int .i64 a9.2)], [(185011, w3, .arr eInt.k 3 (eInt.E a2.2))]⟩) (fun a13 w14 h => ?_) (fun k15 h => ?_)
            · refine AW.rg rfl fun K hK => ?_
              refine mv rfl rfl ?_
              refine bv rfl (v_bin rfl rfl b_add) ?_
              refine mv rfl rfl ?_
              refine b_nil (hK _ ?_)
              clear hK K
              exact to_le (s' := ⟨[(1, slE eInt p1), (2, HV.int .i64 p2), (3, HV.fptr [HV.int .i64 p0.1, HV.int .i64 p0.2.1, slE eFromLabelTo p0.2.2] 0), (7, HV.ar 185011 w3 eInt.k 0 ((a2.2).length)), (8, HV.int .i64 a2.1), (9, HV.bool a13), (10, HV.int .i64 (IntKind.wrap .i64 (a9.2 + 1)))], [(185011, w3, .arr eInt.k 3 (eInt.E a2.2))]⟩) (AS.le_of ⟨rfl, rfl, rfl, rfl, rfl, rfl, rfl, trivial⟩ ⟨rfl, trivial⟩) ⟨(a13, IntKind.wrap .i64 (a9.2 + 1)), (), h, rfl⟩
            · refine AW.block ?_
              refine AW.seqJ h (S := Bool) (V := Unit) (fun a v => ⟨[(1, slE eInt p1), (2, HV.int .i64 p2), (3, HV.fptr [HV.int .i64 p0.1, HV.int .i64 p0.2.1, slE eFromLabelTo p0.2.2] 0), (7, HV.ar 185011 w3 eInt.k 0 ((a2.2).length)), (8, HV.int .i64 a2.1), (9, HV.bool a9.1), (10, HV.int .i64 a9.2), (52, HV.bool a)], [(185011, w3, .arr eInt.k 3 (eInt.E a2.2))]⟩) (fun a16 w17 h => ?_) (fun k18 h => ?_)
              · refine AW.cond rfl (fun hc => ?_) (fun hc => ?_)
                · have h := ifT hc h
                  refine AW.rg rfl fun K hK => ?_
                  refine mv rfl rfl ?_
                  refine b_nil (hK _ ?_)
                  clear hK K
                  exact to_le (s' := ⟨[(1, slE eInt p1), (2, HV.int .i64 p2), (3, HV.fptr [HV.int .i64 p0.1, HV.int .i64 p0.2.1, slE eFromLabelTo p0.2.2] 0), (7, HV.ar 185011 w3 eInt.k 0 ((a2.2).length)), (8, HV.int .i64 a2.1), (9, HV.bool true), (10, HV.int .i64 a9.2)], [(185011, w3, .arr eInt.k 3 (eInt.E a2.2))]⟩) (AS.le_of ⟨rfl, rfl, rfl, rfl, rfl, rfl, rfl, trivial⟩ ⟨rfl, trivial⟩) ⟨true, (), h, rfl⟩
                · have h := ifF (bF' hc) h
                  refine AW.skip ?_
                  exact to_le (s' := ⟨[(1, slE eInt p1), (2, HV.int .i64 p2), (3, HV.fptr [HV.int .i64 p0.1, HV.int .i64 p0.2.1, slE eFromLabelTo p0.2.2] 0), (7, HV.ar 185011 w3 eInt.k 0 ((a2.2).length)), (8, HV.int .i64 a2.1), (9, HV.bool a9.1), (10, HV.int .i64 a9.2)], [(185011, w3, .arr eInt.k 3 (eInt.E a2.2))]⟩) (AS.le_of ⟨rfl, rfl, rfl, rfl, rfl, rfl, rfl, trivial⟩ ⟨rfl, trivial⟩) ⟨a9.1, (), h, rfl⟩
              · refine AW.rg rfl fun K hK => ?_
                refine bv rfl (v_fieldAddrF fo24_2 rfl) ?_
                refine bv rfl (v_loadF ty22 rfl (l_lit rfl rfl)) ?_
                refine mv rfl rfl ?_
                obtain ⟨x19, h20, h⟩ := bS h
                refine bv rfl (v_idxF ty22 es22 rfl rfl (idx_lt h20)) ?_
                refine bv rfl (v_fieldAddrF fo66_2 rfl) ?_
                refine bv rfl (v_loadF ty3 rfl (l_cell eFromLabelTo h20 (o := 2) rfl rfl)) ?_
                refine mv rfl rfl ?_
                refine bv rfl (v_bin rfl rfl b_eql) ?_
                refine mv rfl rfl ?_
                by_cases hg28 : x19.2.2 = a2.1
                · have h := ifT hg28 h
                  refine b_T rfl rfl rfl rfl (decide_eq_true hg28) (o_val rfl (v_fieldAddrF fo24_2 rfl) ?_)
                  refine b_T rfl rfl rfl rfl rfl (o_val rfl (v_loadF ty22 rfl (l_lit rfl rfl)) ?_)
                  refine b_T rfl rfl rfl rfl rfl (o_val rfl (mv_val rfl rfl).2 ?_)
                  obtain ⟨x21, h22, h⟩ := bS h
                  refine b_T rfl rfl rfl rfl rfl (o_val rfl (v_idxF ty22 es22 rfl rfl (idx_lt h22)) ?_)
                  refine b_T rfl rfl rfl rfl rfl (o_val rfl (v_fieldAddrF fo66_1 rfl) ?_)
                  refine b_T rfl rfl rfl rfl rfl (o_val rfl (v_loadF ty3 rfl (l_cell eFromLabelTo h22 (o := 1) rfl rfl)) ?_)
                  refine b_T rfl rfl rfl rfl rfl (o_val rfl (mv_val rfl rfl).2 ?_)
                  refine b_T rfl rfl rfl rfl rfl (o_val rfl (v_bin rfl rfl b_eql) ?_)
                  refine bv rfl (v_pickT rfl rfl rfl) ?_
                  refine mv rfl rfl ?_
                  by_cases hg27 : x21.2.1 = p2
                  · have h := ifT hg27 h
                    refine b_T rfl rfl rfl rfl (decide_eq_true hg27) (o_val rfl (mv_val rfl rfl).2 ?_)
                    refine b_T rfl rfl rfl rfl rfl (o_val rfl (v_fieldAddrF fo24_2 rfl) ?_)
                    refine b_T rfl rfl rfl rfl rfl (o_val rfl (v_loadF ty22 rfl (l_lit rfl rfl)) ?_)
                    refine b_T rfl rfl rfl rfl rfl (o_val rfl (mv_val rfl rfl).2 ?_)
                    obtain ⟨x23, h24, h⟩ := bS h
                    refine b_T rfl rfl rfl rfl rfl (o_val rfl (v_idxF ty22 es22 rfl rfl (idx_lt h24)) ?_)
                    refine b_T rfl rfl rfl rfl rfl (o_val rfl (v_fieldAddrF fo66_0 rfl) ?_)
                    refine b_T rfl rfl rfl rfl rfl (o_val rfl (v_loadF ty3 rfl (l_cell eFromLabelTo h24 (o := 0) rfl rfl)) ?_)
                    obtain ⟨x25, h26, h⟩ := bS h
                    refine b_T rfl rfl rfl rfl rfl (o_call rfl rfl rfl rfl (ACallD.pure0 (w_ref11_has h26)) ?_)
                    refine bv rfl (v_pickT rfl rfl rfl) ?_
                    refine b_nil (hK _ ?_)
                    clear hK K
                    exact to_le (s' := ⟨[(1, slE eInt p1), (2, HV.int .i64 p2), (3, HV.fptr [HV.int .i64 p0.1, HV.int .i64 p0.2.1, slE eFromLabelTo p0.2.2] 0), (7, HV.ar 185011 w3 eInt.k 0 ((a2.2).length)), (8, HV.int .i64 a2.1), (9, HV.bool a9.1), (10, HV.int .i64 a9.2), (52, HV.bool x25)], [(185011, w3, .arr eInt.k 3 (eInt.E a2.2))]⟩) (AS.le_of ⟨rfl, rfl, rfl, rfl, rfl, rfl, rfl, rfl, trivial⟩ ⟨rfl, trivial⟩) ⟨x25, (), h, rfl⟩
                  · have h := ifF hg27 h
                    refine b_F rfl rfl rfl rfl rfl (decide_eq_false hg27) ?_
                    refine b_F rfl rfl rfl rfl rfl rfl ?_
                    refine b_F rfl rfl rfl rfl rfl rfl ?_
                    refine b_F rfl rfl rfl rfl rfl rfl ?_
                    refine b_F rfl rfl rfl rfl rfl rfl ?_
                    refine b_F rfl rfl rfl rfl rfl rfl ?_
                    refine b_F rfl rfl rfl rfl rfl rfl ?_
                    refine b_F rfl rfl rfl rfl rfl rfl ?_
                    refine bv rfl (v_pickF rfl rfl rfl) ?_
                    refine b_nil (hK _ ?_)
                    clear hK K
                    exact to_le (s' := ⟨[(1, slE eInt p1), (2, HV.int .i64 p2), (3, HV.fptr [HV.int .i64 p0.1, HV.int .i64 p0.2.1, slE eFromLabelTo p0.2.2] 0), (7, HV.ar 185011 w3 eInt.k 0 ((a2.2).length)), (8, HV.int .i64 a2.1), (9, HV.bool a9.1), (10, HV.int .i64 a9.2), (52, HV.bool false)], [(185011, w3, .arr eInt.k 3 (eInt.E a2.2))]⟩) (AS.le_of ⟨rfl, rfl, rfl, rfl, rfl, rfl, rfl, rfl, trivial⟩ ⟨rfl, trivial⟩) ⟨false, (), h, rfl⟩
                · have h := ifF hg28 h
                  refine b_F rfl rfl rfl rfl rfl (decide_eq_false hg28) ?_
                  refine b_F rfl rfl rfl rfl rfl rfl ?_
                  refine b_F rfl rfl rfl rfl rfl rfl ?_
                  refine b_F rfl rfl rfl rfl rfl rfl ?_
                  refine b_F rfl rfl rfl rfl rfl rfl ?_
                  refine b_F rfl rfl rfl rfl rfl rfl ?_
                  refine b_F rfl rfl rfl rfl rfl rfl ?_
                  refine b_F rfl rfl rfl rfl rfl rfl ?_
                  refine bv rfl (v_pickF rfl rfl rfl) ?_
                  refine mv rfl rfl ?_
                  refine b_F rfl rfl rfl rfl rfl rfl ?_
                  refine b_F rfl rfl rfl rfl rfl rfl ?_
                  refine b_F rfl rfl rfl rfl rfl rfl ?_
                  refine b_F rfl rfl rfl rfl rfl rfl ?_
                  refine b_F rfl rfl rfl rfl rfl rfl ?_
                  refine b_F rfl rfl rfl rfl rfl rfl ?_
                  refine b_F rfl rfl rfl rfl rfl rfl ?_
                  refine b_F rfl rfl rfl rfl rfl rfl ?_
                  refine bv rfl (v_pickF rfl rfl rfl) ?_
                  refine b_nil (hK _ ?_)
                  clear hK K
                  exact to_le (s' := ⟨[(1, slE eInt p1), (2, HV.int .i64 p2), (3, HV.fptr [HV.int .i64 p0.1, HV.int .i64 p0.2.1, slE eFromLabelTo p0.2.2] 0), (7, HV.ar 185011 w3 eInt.k 0 ((a2.2).length)), (8, HV.int .i64 a2.1), (9, HV.bool a9.1), (10, HV.int .i64 a9.2), (52, HV.bool false)], [(185011, w3, .arr eInt.k 3 (eInt.E a2.2))]⟩) (AS.le_of ⟨rfl, rfl, rfl, rfl, rfl, rfl, rfl, rfl, trivial⟩ ⟨rfl, trivial⟩) ⟨false, (), h, rfl⟩
          · have hc := of_decide_eq_false hc
            have h := ifF hc h
            refine AW.exit ?_
            exact to_le (s' := ⟨[(1, slE eInt p1), (2, HV.int .i64 p2), (3, HV.fptr [HV.int .i64 p0.1, HV.int .i64 p0.2.1, slE eFromLabelTo p0.2.2] 0), (7, HV.ar 185011 w3 eInt.k 0 ((a2.2).length)), (8, HV.int .i64 a2.1), (9, HV.bool a9.1)], [(185011, w3, .arr eInt.k 3 (eInt.E a2.2))]⟩) (AS.le_of ⟨rfl, rfl, rfl, rfl, rfl, rfl, trivial⟩ ⟨rfl, trivial⟩) ⟨a9.1, (), h, rfl⟩
    · have hc := of_decide_eq_false hc
      have h := ifF hc h
      refine AW.exit ?_
      exact to_le (s' := ⟨[(7, HV.ar 185011 w3 eInt.k 0 ((a2.2).length))], [(185011, w3, .arr eInt.k 3 (eInt.E a2.2))]⟩) (AS.le_of ⟨rfl, trivial⟩ ⟨rfl, trivial⟩) ⟨a2.2, w3, h, rfl⟩

end Go.AW

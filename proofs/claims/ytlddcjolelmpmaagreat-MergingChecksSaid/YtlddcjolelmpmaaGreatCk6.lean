import Derived.Test.YtlddcjolelmpmaaGreatCk5
namespace Go.AW
open Go
set_option linter.unusedSimpArgs false
set_option linter.unusedVariables false
def scoreM (g : Gr) (set : List Int) (sum : Int) (x m : List UInt8) : Int × Bool := (max (sum + disp (m ++ x)) (-(sum + disp (m ++ x))), decide (endsL g set (m ++ x) ≠ []))
def bestStep (g : Gr) (set : List Int) (sum : Int) (x : List UInt8) (a : List UInt8 × Int × Bool) (m : List UInt8) : List UInt8 × Int × Bool :=
 if (scoreM g set sum x m).2 = true ∧ (a.2.2 = false ∨ (scoreM g set sum x m).1 < a.2.1) then (m, (scoreM g set sum x m).1, true) else a
def bestF (g : Gr) (set : List Int) (sum : Int) (x : List UInt8) (ms : List (List UInt8)) : List UInt8 × Int × Bool := ms.foldl (bestStep g set sum x) ([], 0, false)
theorem disp_le {w : List UInt8} : -(w.length : Int) ≤ disp w ∧ disp w ≤ w.length := by
 have := List.count_le_length (a := (49 : UInt8)) (l := w)
 unfold disp
 omega
section
variable {g : Gr}
theorem best_loop {j : Jn} (hj : VJ j g) {set : List Int} (hset : SetOk g set) {sum : Int} (hsum : -1000000 ≤ sum ∧ sum ≤ 1000000) {n : Int} (hn : 0 ≤ n ∧ n.toNat < j.1.length) :
    loopW (S := (List UInt8) × Int × Bool × Int) (X := (List UInt8) × Bool) (fun a52 =>
                   if a52.2.2.2 < ((j.2).length : Int) then
                    jp (fun (a56 : (List UInt8) × Int × Bool) =>
                      some (Stp.next (a56.1, a56.2.1, a56.2.2, IntKind.wrap .i64 (a52.2.2.2 + 1))))
                      fun k58 =>
                     (idx j.2 a52.2.2.2).bind fun x59 =>
                     jp (fun (a61 : Int × Bool) =>
                       jp (fun (a64 : Bool) =>
                         if a64 = true then
                          k58 (x59, a61.1, true)
                         else
                          k58 (a52.1, a52.2.1, a52.2.2.1))
                         fun k66 =>
                        if a61.2 = true then
                         if (!a52.2.2.1) = true then
                          k66 true
                         else
                          k66 (decide (a61.1 < a52.2.1))
                        else
                         k66 false)
                       fun k63 =>
                      (idx j.1 n).bind fun x69 =>
                      if x59.length + x69.length ≤ maxLen then
                       (m_merging_weight (x59 ++ x69)).bind fun x72 =>
                       (idx j.1 n).bind fun x74 =>
                       if x59.length + x74.length ≤ maxLen then
                        (m_merging_step g set (x59 ++ x74)).bind fun x77 =>
                        k63 (max (IntKind.wrap .i64 (sum + x72)) (IntKind.wrap .i64 (0 - (IntKind.wrap .i64 (sum + x72)))), decide (0 < ((x77).length : Int)))
                       else none
                      else none
                   else
                    some (Stp.exit (a52.1, a52.2.2.1))) (([] : List UInt8), 0, false, 0) = some ((bestF g set sum (wd j n) j.2).1, (bestF g set sum (wd j n) j.2).2.2) := by
  have hl := hj.f.l2
  have wx := word_ok hj.f (wd_mem hn)
  have key : ∀ k, k ≤ j.2.length → True := fun _ _ => trivial
  refine loop_is (fun i => ((bestF g set sum (wd j n) (j.2.take i)).1, (bestF g set sum (wd j n) (j.2.take i)).2.1, (bestF g set sum (wd j n) (j.2.take i)).2.2, (i : Int))) j.2.length _ (fun i hi => ?_) (by simp only; rw [if_neg (not_lt_int _), List.take_length]) rfl
  have wm := merge_ok hj.f (List.getElem_mem hi)
  have hbw : bitW (j.2[i] ++ wd j n) := bitW_app.2 ⟨wm.1, wx.1⟩
  have hlw : (j.2[i] ++ wd j n).length ≤ 32 := by simp only [List.length_append]; omega
  have hd := disp_le (w := j.2[i] ++ wd j n)
  simp only [jp]
  rw [if_pos (lt_int hi), ix hi, wd_idx hn]
  simp only [Option.bind_some]
  rw [if_pos (by simp only [maxLen]; omega), weight_eq hbw (by omega)]
  simp only [Option.bind_some]
  rw [if_pos (by simp only [maxLen]; omega), step31_eq hj.hv hj.h2 hset hbw (by omega)]
  simp only [Option.bind_some, nx (show j.2.length ≤ 9223372036854775807 by omega) hi]
  have w1 : IntKind.wrap .i64 (sum + disp (j.2[i] ++ wd j n)) = sum + disp (j.2[i] ++ wd j n) := w64 (by omega) (by omega)
  have w2 : IntKind.wrap .i64 (0 - (sum + disp (j.2[i] ++ wd j n))) = -(sum + disp (j.2[i] ++ wd j n)) := by rw [w64 (by omega) (by omega)]; omega
  simp only [w1, w2]
  have es : bestF g set sum (wd j n) (j.2.take (i + 1)) = bestStep g set sum (wd j n) (bestF g set sum (wd j n) (j.2.take i)) j.2[i] := by
    unfold bestF
    rw [← List.take_append_getElem hi, List.foldl_append]
    rfl
  rw [es]
  generalize bestF g set sum (wd j n) (j.2.take i) = A
  have hne : (0 < ((endsL g set (j.2[i] ++ wd j n)).length : Int)) ↔ endsL g set (j.2[i] ++ wd j n) ≠ [] := by
    rw [← List.length_pos_iff]; omega
  unfold bestStep scoreM
  simp only [hne, decide_eq_true_eq]
  by_cases h1 : endsL g set (j.2[i] ++ wd j n) ≠ []
  · rw [if_pos h1]
    cases h2 : A.2.2 with
    | false => simp [h1, h2]
    | true =>
      by_cases h3 : max (sum + disp (j.2[i] ++ wd j n)) (-(sum + disp (j.2[i] ++ wd j n))) < A.2.1 <;> simp [h1, h2, h3]
  · rw [if_neg h1]
    simp [h1]
end
end Go.AW
namespace Go.AW
open Go
set_option linter.unusedSimpArgs false
set_option linter.unusedVariables false
def encG (j : Jn) (g : Gr) : List Int → List UInt8 → Int → List Int → List UInt8 × Int
 | _, b, _, [] => (b, 0)
 | set, b, sum, x :: xs =>
  if (bestF g set sum (wd j x) j.2).2.2 = true then encG j g (endsL g set ((bestF g set sum (wd j x) j.2).1 ++ wd j x)) (b ++ ((bestF g set sum (wd j x) j.2).1 ++ wd j x)) (sum + disp ((bestF g set sum (wd j x) j.2).1 ++ wd j x)) xs
  else ([], 13)
noncomputable def encE (j : Jn) (g : Gr) (l : List Int) : List UInt8 × Int :=
 if inpE j g l ≠ 0 then ([], inpE j g l) else match l with
  | [] => ([], 0)
  | x :: xs => encG j g (endsL g (upto g.2.1) (wd j x)) (wd j x) (disp (wd j x)) xs
theorem bestF_mem (g : Gr) (set : List Int) (sum : Int) (x : List UInt8) : ∀ (ms : List (List UInt8)) (a : List UInt8 × Int × Bool), (ms.foldl (bestStep g set sum x) a).1 = a.1 ∨ (ms.foldl (bestStep g set sum x) a).1 ∈ ms
 | [], a => .inl rfl
 | m :: ms, a => by
  rw [List.foldl_cons]
  rcases bestF_mem g set sum x ms (bestStep g set sum x a m) with h | h
  ·rw [h]
   unfold bestStep
   split
   ·exact .inr (List.mem_cons_self ..)
   ·exact .inl rfl
  ·exact .inr (List.mem_cons_of_mem _ h)
theorem best_ok {j : Jn} {g : Gr} (hj : FormOk j) (set : List Int) (sum : Int) (x : List UInt8) : bitW (bestF g set sum x j.2).1 ∧ (bestF g set sum x j.2).1.length ≤ 16 := by
 rcases bestF_mem g set sum x j.2 ([], 0, false) with h | h
 ·unfold bestF
  rw [h]
  exact ⟨(fun _ h => by cases h), by simp⟩
 ·exact merge_ok hj h
def runF {σ α X : Type} (F : σ → α → Option σ) (fin : σ → X) (xr : X) : List α → σ → X
 | [], s => fin s
 | x :: xs, s => match F s x with
  | some s' => runF F fin xr xs s'
  | none => xr
theorem loop_run {S X σ α : Type} {body : S → Option (Stp S X)} (st : Nat → σ → S) (xs : List α) (F : σ → α → Option σ) (fin : σ → X) (xr : X) (P : Nat → σ → Prop)
  (h : ∀ i s (hi : i < xs.length), P i s → body (st i s) = (match F s xs[i] with | some s' => some (.next (st (i + 1) s')) | none => some (.exit xr)) ∧ ∀ s', F s xs[i] = some s' → P (i + 1) s')
  (hf : ∀ s, P xs.length s → body (st xs.length s) = some (.exit (fin s))) {s0 : σ} (h0 : P 0 s0) : loopW body (st 0 s0) = some (runF F fin xr xs s0) := by
 have : ∀ d i s, i + d = xs.length → P i s → loopW body (st i s) = some (runF F fin xr (xs.drop i) s) := by
  intro d
  induction d with
  | zero =>
   intro i s hi hP
   have e : i = xs.length := by omega
   subst e
   rw [loopW_exit (hf s hP), List.drop_length]
   rfl
  | succ d ih =>
   intro i s hi hP
   have hi' : i < xs.length := by omega
   obtain ⟨h1, h2⟩ := h i s hi' hP
   rw [List.drop_eq_getElem_cons hi']
   unfold runF
   cases hF : F s xs[i] with
   | none => rw [hF] at h1; rw [loopW_exit h1]
   | some s' => rw [hF] at h1; rw [loopW_next h1]; exact ih (i + 1) s' (by omega) (h2 s' hF)
 exact this xs.length 0 s0 (by omega) h0
def encS (j : Jn) (g : Gr) (s : List Int × List UInt8 × Int) (x : Int) : Option (List Int × List UInt8 × Int) :=
 if (bestF g s.1 s.2.2 (wd j x) j.2).2.2 = true then some (endsL g s.1 ((bestF g s.1 s.2.2 (wd j x) j.2).1 ++ wd j x), s.2.1 ++ ((bestF g s.1 s.2.2 (wd j x) j.2).1 ++ wd j x), s.2.2 + disp ((bestF g s.1 s.2.2 (wd j x) j.2).1 ++ wd j x)) else none
def unOu (x : Ou (List UInt8) (List UInt8 × Int)) : List UInt8 × Int := match x with
 | .go v => (v, 0)
 | .ret r => r
theorem encG_run (j : Jn) (g : Gr) : ∀ (xs : List Int) (s : List Int × List UInt8 × Int), unOu (runF (encS j g) (fun s => Ou.go s.2.1) (Ou.ret ([], 13)) xs s) = encG j g s.1 s.2.1 s.2.2 xs
 | [], s => rfl
 | x :: xs, s => by
  unfold runF encG encS
  by_cases h : (bestF g s.1 s.2.2 (wd j x) j.2).2.2 = true
  ·simp only [if_pos h]
   exact encG_run j g xs _
  ·simp only [if_neg h]
   rfl
theorem Encode_eq {j : Jn} {g : Gr} (hs : SmJ j) {l : List Int} (hl : l.length ≤ 8) : m_merging_Encode j g l = some (encE j g l) := by
 unfold m_merging_Encode encE
 rw [inputs_eq hs (by omega)]
 simp only [Option.bind_some]
 by_cases h : inpE j g l ≠ 0
 ·rw [if_pos h, if_pos h]
 rw [if_neg h, if_neg h]
 obtain ⟨hj, hx⟩ := inp_zero (Classical.not_not.1 h)
 cases l with
 | nil => rfl
 | cons x xs =>
  have n1 := hj.f.n1
  have n16 := hj.f.n16
  have r16 := hj.f.r16
  have hx0 := hx x (List.mem_cons_self ..)
  have wx := word_ok hj.f (wd_mem hx0)
  rw [if_neg (show ¬ (((x :: xs).length : Int) = 0) by simp only [List.length_cons]; omega), idx0 hj.f.ne1, idx0 hj.f.ne2]
  simp only [Option.bind_some, hdl2]
  have e1 : IntKind.wrap .i64 (((fstLen j.1 : Nat) : Int) + ((fstLen j.2 : Nat) : Int)) = ((fstLen j.1 + fstLen j.2 : Nat) : Int) := by rw [w64 (by omega) (by omega)]; omega
  have e2 : IntKind.wrap .i64 (65536 + ((fstLen j.2 : Nat) : Int)) = ((65536 + fstLen j.2 : Nat) : Int) := by rw [w64 (by omega) (by omega)]; omega
  have hq : 8 ≤ (65536 + fstLen j.2) / (fstLen j.1 + fstLen j.2) := by
   rw [Nat.le_div_iff_mul_le (by omega)]; omega
  have hq2 : (65536 + fstLen j.2) / (fstLen j.1 + fstLen j.2) ≤ 65552 := Nat.le_trans (Nat.div_le_self _ _) (by omega)
  simp only [e1, e2, ← Int.ofNat_tdiv]
  rw [if_pos (show ((fstLen j.1 + fstLen j.2 : Nat) : Int) ≠ 0 by omega), w64 (by omega) (by omega), if_neg (by omega)]
  have s0 := hj.hv.s0
  have s1 := hj.hv.s1
  rw [if_pos ⟨s0, by omega, by omega⟩]
  refine bindL (x := upto g.2.1) ?_ ?_
  ·have := states_eq hj.hv
   unfold m_language_states at this
   rw [if_pos ⟨s0, by omega, by omega⟩] at this
   obtain ⟨y, hy, hz⟩ := bS this
   cases hz
   exact hy
  ·have ei : idx (x :: xs) 0 = some x := rfl
   rw [ei]
   simp only [Option.bind_some, wd_idx hx0, jp]
   have hd := disp_le (w := wd j x)
   rw [if_pos ⟨by simp only [List.length_nil]; omega, by simp only [List.length_nil, maxLen]; omega⟩, weight_eq wx.1 (by omega), Option.bind_some, step31_eq hj.hv hj.h2 (upto_ok g) wx.1 (by omega)]
   simp only [Option.bind_some]
   rw [if_pos ⟨by omega, by simp only [List.length_cons]; omega, by omega⟩]
   have et : ((x :: xs).take (((x :: xs).length : Int)).toNat).drop (1 : Int).toNat = xs := by
    rw [Int.toNat_natCast, List.take_length]; rfl
   simp only [et, List.nil_append, Int.zero_add, w64 (n := disp (wd j x)) (by omega) (by omega)]
   refine lpE (x := runF (encS j g) (fun s => Ou.go s.2.1) (Ou.ret ([], 13)) xs (endsL g (upto g.2.1) (wd j x), wd j x, disp (wd j x))) ?_ ?_
   ·refine loop_run (s0 := (endsL g (upto g.2.1) (wd j x), wd j x, disp (wd j x))) (fun i (s : List Int × List UInt8 × Int) => ((i : Int), s.1, s.2.1, s.2.2)) xs (encS j g) (fun s => Ou.go s.2.1) (Ou.ret ([], 13)) (fun i s => SetOk g s.1 ∧ s.2.1.length ≤ 32 * (i + 1) ∧ -(32 * (i + 1) : Int) ≤ s.2.2 ∧ s.2.2 ≤ 32 * (i + 1)) (fun i s hi hP => ?_) (fun s _ => ?_) ⟨endsL_ok (upto_ok g) _, by dsimp only; omega, by dsimp only; omega, by dsimp only; omega⟩
    ·obtain ⟨p1, p2, p3, p4⟩ := hP
     have hi8 : i < 8 := by simp only [List.length_cons] at hl; omega
     have hxi := hx xs[i] (List.mem_cons_of_mem _ (List.getElem_mem hi))
     have wi := word_ok hj.f (wd_mem hxi)
     have bo := best_ok (g := g) hj.f s.1 s.2.2 (wd j xs[i])
     have hb := best_loop hj p1 (sum := s.2.2) (by omega) hxi
     simp only [jp] at hb
     have hd2 := disp_le (w := (bestF g s.1 s.2.2 (wd j xs[i]) j.2).1 ++ wd j xs[i])
     have hlen : ((bestF g s.1 s.2.2 (wd j xs[i]) j.2).1 ++ wd j xs[i]).length ≤ 32 := by simp only [List.length_append]; omega
     have hbw : bitW ((bestF g s.1 s.2.2 (wd j xs[i]) j.2).1 ++ wd j xs[i]) := bitW_app.2 ⟨bo.1, wi.1⟩
     constructor
     ·simp only
      rw [if_pos (lt_int hi), ix hi]
      simp only [Option.bind_some]
      rw [hb]
      simp only [Option.bind_some, encS]
      by_cases hf : (bestF g s.1 s.2.2 (wd j xs[i]) j.2).2.2 = true
      ·rw [if_neg (by simp [hf]), wd_idx hxi, if_pos hf]
       simp only [Option.bind_some]
       rw [if_pos (by simp only [maxLen]; omega), if_pos ⟨by omega, by simp only [maxLen]; omega⟩, weight_eq hbw (by omega), Option.bind_some, step31_eq hj.hv hj.h2 p1 hbw (by omega)]
       simp only [Option.bind_some]
       rw [w64 (n := s.2.2 + _) (by omega) (by omega), nx (show xs.length ≤ 9223372036854775807 by simp only [List.length_cons] at hl; omega) hi]
      ·rw [if_pos (by simp [hf]), if_neg hf]
     ·intro s' hs'
      unfold encS at hs'
      split at hs'
      ·cases hs'
       exact ⟨endsL_ok p1 _, by simp only [List.length_append] at hlen ⊢; omega, by simp only; omega, by simp only; omega⟩
      ·cases hs'
    ·simp only
     rw [if_neg (not_lt_int _)]
   ·have := encG_run j g xs (endsL g (upto g.2.1) (wd j x), wd j x, disp (wd j x))
    rw [← this]
    unfold unOu
    split
    ·rename_i v hv; rw [hv]; rfl
    ·rename_i r hr; rw [hr]; rfl
def jEx : Jn := ([[48, 48], [48, 49], [49, 48]], [[48], [49]])
def gEx : Gr := (2, 2, [(0, 0, 0), (0, 1, 1), (1, 0, 0)])
theorem gEx_ok : VG gEx where
 l1 := by decide
 l2 := by decide
 s0 := by decide
 s1 := by decide
 el := by decide
 ed := by decide
 ord := fun i h => match i, h with
  | 0, _ => by show cmp3 ((0, 0, 0) : Int × Int × Int) (0, 1, 1) < 0; decide
  | 1, _ => by show cmp3 ((0, 1, 1) : Int × Int × Int) (1, 0, 0) < 0; decide
  | n + 2, h => absurd h (by show ¬ n + 2 + 1 < 3; omega)
theorem jEx_ok : VJ jEx gEx := ⟨gEx_ok, rfl, formE_zero (by decide +kernel), by decide +kernel, by decide +kernel⟩
theorem jEx_zero : checkE jEx gEx = 0 := by
 have h := jEx_ok
 unfold checkE
 rw [if_neg (fun e => e h.hv), if_neg (fun e => e h.h2), if_neg (by decide +kernel), if_neg (by decide +kernel), if_neg (by decide +kernel)]
theorem jEx_in {l : List Int} (hl : l.any (badI jEx) = false) : inpE jEx gEx l = 0 := by
 unfold inpE
 rw [if_neg (fun e => e jEx_zero), if_neg (by rw [hl]; decide)]
theorem awake31_eq : m_law31_awakeG = some true := by
 have hs := jEx_ok.f.sm
 unfold m_law31_awakeG m_law31_golden
 simp only [Option.bind_some]
 have m1 : mergesE jEx gEx 0 0 = ([0, 1], 0) := by
  unfold mergesE
  rw [if_neg (fun e => e (jEx_in (by decide)))]
  decide +kernel
 have m2 : mergesE jEx gEx 1 2 = ([0], 0) := by
  unfold mergesE
  rw [if_neg (fun e => e (jEx_in (by decide)))]
  decide +kernel
 have m3 : encE jEx gEx [0, 0] = ([48, 48, 49, 48, 48], 0) := by
  unfold encE
  rw [if_neg (fun e => e (jEx_in (by decide)))]
  decide +kernel
 have m4 : m_merging_Rate jEx = some (ratT 1 3, 0) := by
  unfold m_merging_Rate
  rw [form_eq hs]
  decide +kernel
 rw [show m_merging_Merges ([[48, 48], [48, 49], [49, 48]], [[48], [49]]) (2, 2, [(0, 0, 0), (0, 1, 1), (1, 0, 0)]) 0 0 = some (mergesE jEx gEx 0 0) from Merges_eq hs 0 0, show m_merging_Merges ([[48, 48], [48, 49], [49, 48]], [[48], [49]]) (2, 2, [(0, 0, 0), (0, 1, 1), (1, 0, 0)]) 1 2 = some (mergesE jEx gEx 1 2) from Merges_eq hs 1 2, show m_merging_Encode ([[48, 48], [48, 49], [49, 48]], [[48], [49]]) (2, 2, [(0, 0, 0), (0, 1, 1), (1, 0, 0)]) [0, 0] = some (encE jEx gEx [0, 0]) from Encode_eq hs (by decide), show m_merging_Rate ([[48, 48], [48, 49], [49, 48]], [[48], [49]]) = some (ratT 1 3, 0) from m4, m1, m2, m3]
 simp only [Option.bind_some, EqI_eq (show ([0, 1] : List Int).length ≤ 9223372036854775807 by decide), EqI_eq (show ([0] : List Int).length ≤ 9223372036854775807 by decide)]
 decide +kernel
end Go.AW
namespace Go.AW
open Go Go.Proofs
theorem w_law31_awake {r : Bool} (h : m_law31_awake = some r) : Pure Tryz.prog 13 [] (· = HV.bool r) := by
 cases h
 exact w_law31_awakeG awake31_eq
end Go.AW
namespace Go.AW
open Go
set_option linter.unusedVariables false
noncomputable def m_ref01_mag (p0 : Int) : Option ((List UInt8)) :=
 if p0 < 256 then
  if p0 = 0 then
   some ([] : List UInt8)
  else
   some ([IntKind.wrap .u8 p0].map fun (n : Int) => UInt8.ofNat n.toNat)
 else
  none
end Go.AW
namespace Go.AW
open Go Go.Proofs
set_option maxHeartbeats 1600000
set_option maxRecDepth 100000
set_option linter.unusedVariables false
theorem w_ref01_mag {p0 : Int} {r : (List UInt8)} (h : m_ref01_mag p0 = some r) : Pure Tryz.prog 132 [hI p0] (· = HV.str r) := by
 unfold m_ref01_mag at h
 refine Pure.of_body Tryz.func132 rfl rfl (lb rfl) fun hf => ?_
 unfold Tryz.f132
 dsimp only [enumS, Nat.reduceAdd]
 refine AW.rgs rfl fun K hK => mv rfl rfl ?_
 refine bf hK ⟨[(0, hI p0)], []⟩ ?_
 refine AW.seq ?_
 refine AW.rgs rfl fun K hK => mv rfl rfl (bv rfl (v_bin rfl rfl b_lss) ?_)
 refine bf hK ⟨[(0, hI p0), (6, .bool (decide (p0 < 256)))], []⟩ ?_
 refine AW.cond rfl (fun hc => ?_) (fun hc => ?_)
 ·obtain ⟨hc, h⟩ := cT hc h
  refine AW.seq ?_
  refine AW.rgs rfl fun K hK => mv rfl rfl (bv rfl (v_bin rfl rfl b_eql) ?_)
  refine bf hK ⟨[(0, hI p0), (8, .bool (decide (p0 = 0)))], []⟩ ?_
  refine AW.cond rfl (fun hc => ?_) (fun hc => ?_)
  ·obtain ⟨hc, h⟩ := cT hc h
   refine AW.rgs rfl fun K hK => mv rfl rfl ?_
   refine bf hK ⟨[(2, .str nS)], []⟩ ?_
   refine AW.ret ?_
   have h := Option.some.inj h
   subst h
   exact ret_pure (hs := [.str nS]) (.inr rfl) (resT rfl rfl) rfl trivial
  obtain ⟨hc, h⟩ := cF hc h
  refine AW.skip ?_
  refine AW.rgs rfl fun K hK => mv rfl rfl (bv rfl (v_convI ty3 ty5 rfl) ?_)
  refine b_op rfl (o_bsl rfl rfl (as_of (cs := [.int .u8 (IntKind.wrap .u8 p0)]) ty28 ty5 rfl rfl rfl rfl rfl) ?_)
  refine bv rfl (v_convB (l := [IntKind.wrap .u8 p0]) ty28 ty5 ty9 rfl) (mv rfl rfl ?_)
  refine bf hK ⟨[(2, .str ([IntKind.wrap .u8 p0].map fun (n : Int) => UInt8.ofNat n.toNat))], []⟩ ?_
  refine AW.ret ?_
  have h := Option.some.inj h
  subst h
  exact ret_pure (hs := [.str ([IntKind.wrap .u8 p0].map fun (n : Int) => UInt8.ofNat n.toNat)]) (.inr rfl) (resT rfl rfl) rfl trivial
 obtain ⟨hc, h⟩ := cF hc h
 refine AW.skip ?_
 cases h
end Go.AW

namespace Go.AW
open Go Go.Proofs
def magF (n : Nat) : FuncId × List HV × HV := (132, [HV.int .i64 (n : Nat)], HV.str (u8z n))
def factsN : List (FuncId × List HV × HV) := (0 :: L16).map magF
theorem mag_c : ∀ n ∈ 0 :: L16, m_ref01_mag ((n : Nat) : Int) = some (u8z n) := by decide +kernel
theorem factsN_ok : ∀ e ∈ factsN, Pure Tryz.prog e.1 e.2.1 (· = e.2.2) := by
 intro e he
 simp only [factsN, List.mem_map] at he
 obtain ⟨n, hn, rfl⟩ := he
 exact w_ref01_mag (mag_c n hn)
noncomputable abbrev comesN (f : FuncId) (args : List HV) (q : HV) : Bool := comesP (tabsE Tryz.prog [] factsN) 2000 f args q
theorem comesN_ok {f : FuncId} {args : List HV} {q : HV} (h : comesN f args q = true) : Pure Tryz.prog f args (· = q) := Pure.of_comes (tabsT_ok (fun _ h => by cases h) factsN_ok) h
theorem ofN : ((0 :: L16).all fun n => comesN 82 [HV.int .i64 (n : Nat)] (hvI (false, u8z n))) = true := by kernel_rfl
theorem canN : ((0 :: L16).all fun n => comesN 205 [hvI (false, u8z n)] (hvI (false, u8z n))) = true := by kernel_rfl
theorem smallN : ((0 :: L16).all fun n => comesN 209 [HV.str (u8z n)] (HV.int .i64 (n : Nat))) = true := by kernel_rfl
theorem smN_mem {a : TNegMag} (h : a ∈ smN) : ∃ n, n ∈ 0 :: L16 ∧ a = (false, u8z n) := by
 simp only [smN, List.mem_map] at h
 obtain ⟨n, hn, rfl⟩ := h
 exact ⟨n, hn, rfl⟩
theorem val_c : ∀ n ∈ 0 :: L16, valU (u8z n) = n := by decide +kernel
theorem w_ref01_OfE {p0 : Int} {r : TNegMag} (h : m_ref01_OfE p0 = some r) : Pure Tryz.prog 82 [HV.int .i64 p0] (· = HV.agg [HV.bool r.1, HV.str r.2]) := by
 unfold m_ref01_OfE at h
 split at h
 ·rename_i hc
  cases h
  obtain ⟨n, rfl⟩ := Int.eq_ofNat_of_zero_le hc.1
  have hn : n ∈ 0 :: L16 := by simp only [L16, List.mem_cons, List.not_mem_nil, or_false]; omega
  have := comesN_ok (List.all_eq_true.1 ofN n hn)
  unfold u8z at this
  by_cases h0 : n = 0
  ·subst h0; exact this
  ·rw [if_neg h0] at this
   rw [if_neg (show ¬ (n : Int) = 0 by omega)]
   exact this
 ·cases h
theorem w_ref01_CanonicalE {p0 r : TNegMag} (h : m_ref01_CanonicalE p0 = some r) : Pure Tryz.prog 205 [HV.agg [HV.bool p0.1, HV.str p0.2]] (· = HV.agg [HV.bool r.1, HV.str r.2]) := by
 unfold m_ref01_CanonicalE at h
 split at h
 ·rename_i hc
  cases h
  obtain ⟨n, hn, rfl⟩ := smN_mem hc
  exact comesN_ok (List.all_eq_true.1 canN n hn)
 ·cases h
theorem w_ref01_smallE {p0 : List UInt8} {r : Int} (h : m_ref01_smallE p0 = some r) : Pure Tryz.prog 209 [HV.str p0] (· = HV.int .i64 r) := by
 unfold m_ref01_smallE at h
 split at h
 ·rename_i hc
  cases h
  obtain ⟨n, hn, e⟩ := smN_mem hc
  cases e
  rw [val_c n hn]
  exact comesN_ok (List.all_eq_true.1 smallN n hn)
 ·cases h
theorem w_ref01_NegE {p0 r : TNegMag} (h : m_ref01_NegE p0 = some r) : Pure Tryz.prog 176 [HV.agg [HV.bool p0.1, HV.str p0.2]] (· = HV.agg [HV.bool r.1, HV.str r.2]) := by cases h
theorem w_ref01_SubE {p0 p1 r : TNegMag} (h : m_ref01_SubE p0 p1 = some r) : Pure Tryz.prog 210 [HV.agg [HV.bool p0.1, HV.str p0.2], HV.agg [HV.bool p1.1, HV.str p1.2]] (· = HV.agg [HV.bool r.1, HV.str r.2]) := by cases h
theorem w_ref01_divMagE {p0 p1 : List UInt8} {r : List UInt8 × List UInt8} (h : m_ref01_divMagE p0 p1 = some r) : Pure Tryz.prog 208 [HV.str p0, HV.str p1] (· = HV.tup [HV.str r.1, HV.str r.2]) := by cases h
end Go.AW
namespace Go.AW
open Go
set_option linter.unusedVariables false
noncomputable def m_ref01_Div (p0 : TNegMag) (p1 : TNegMag) : Option (TNegMag × TNegMag × Int) :=
 (m_ref01_CanonicalE p0).bind fun x5 =>
 (m_ref01_CanonicalE p1).bind fun x7 =>
 if x7.2 = ([] : List UInt8) then
  some ((false, ([] : List UInt8)), (false, ([] : List UInt8)), 9)
 else
  jp (fun (a11 : Bool) =>
    jp (fun (a14 : Bool × (List UInt8) × Bool × (List UInt8)) =>
      jp (fun (a17 : Bool × (List UInt8) × Bool × (List UInt8)) =>
        jp (fun (a20 : Bool × (List UInt8)) =>
          some ((a17.1, a17.2.1), (a20.1, a20.2), 0))
          fun k22 =>
         if x7.1 = true then
          (m_ref01_NegE (a17.2.2.1, a17.2.2.2)).bind fun x24 =>
          k22 (x24.1, x24.2)
         else
          k22 (a17.2.2.1, a17.2.2.2))
        fun k19 =>
       if (!(x5.1 == x7.1)) = true then
        (m_ref01_NegE (a14.1, a14.2.1)).bind fun x26 =>
        if a14.2.2.2 ≠ ([] : List UInt8) then
         (m_ref01_OfE 1).bind fun x28 =>
         (m_ref01_SubE x26 x28).bind fun x30 =>
         (m_ref01_SubE (false, x7.2) (a14.2.2.1, a14.2.2.2)).bind fun x32 =>
         k19 (x30.1, x30.2, x32.1, x32.2)
        else
         k19 (x26.1, x26.2, a14.2.2.1, a14.2.2.2)
       else
        k19 (a14.1, a14.2.1, a14.2.2.1, a14.2.2.2))
      fun k16 =>
     if a11 = true then
      (m_ref01_smallE x5.2).bind fun x34 =>
      (m_ref01_smallE x7.2).bind fun x36 =>
      if x36 ≠ 0 then
       (m_ref01_OfE (IntKind.wrap .i64 (Int.tdiv x34 x36))).bind fun x39 =>
       if x36 ≠ 0 then
        (m_ref01_OfE (Int.tmod x34 x36)).bind fun x42 =>
        k16 (x39.1, x39.2, x42.1, x42.2)
       else none
      else none
     else
      (m_ref01_divMagE x5.2 x7.2).bind fun x44 =>
      k16 (false, x44.1, false, x44.2))
    fun k13 =>
   if ((x5.2).length : Int) < 8 then
    k13 (decide (((x7.2).length : Int) < 8))
   else
    k13 false
end Go.AW
namespace Go.AW
open Go Go.Proofs
set_option maxHeartbeats 1600000
set_option maxRecDepth 100000
set_option linter.unusedVariables false
theorem w_ref01_Div {p0 : TNegMag} {p1 : TNegMag} {r : TNegMag × TNegMag × Int} (h : m_ref01_Div p0 p1 = some r) : Pure Tryz.prog 178 [.agg [.bool p0.1, .str p0.2], .agg [.bool p1.1, .str p1.2]] (· = HV.tup [.agg [.bool r.1.1, .str r.1.2], .agg [.bool r.2.1.1, .str r.2.1.2], hI r.2.2]) := by
 unfold m_ref01_Div at h
 refine Pure.of_body Tryz.func178 rfl rfl (lb rfl) fun hf => ?_
 unfold Tryz.f178
 dsimp only [enumS, Nat.reduceAdd]
 refine AW.rgs rfl fun K hK => b_op rfl (o_boxM (fid := 178) 178002 rfl rfl rfl rfl (fun v1 => ?_))
 refine b_op rfl (o_boxM (fid := 178) 178003 rfl rfl rfl rfl (fun v2 => ?_))
 refine b_op rfl (o_alloc (fid := 178) (zs := [.bool false, .str nS]) 178004 rfl rfl ty42 rfl (fun v3 => ?_))
 refine b_op rfl (o_alloc (fid := 178) (zs := [.bool false, .str nS]) 178005 rfl rfl ty42 rfl (fun v4 => ?_))
 refine mv rfl rfl ?_
 refine bf hK ⟨[(2, .ptr 178002 v1 0), (3, .ptr 178003 v2 0), (4, .ptr 178004 v3 0), (5, .ptr 178005 v4 0)], [(178002, v1, .arr 2 42 [.bool p0.1, .str p0.2]), (178003, v2, .arr 2 42 [.bool p1.1, .str p1.2]), (178004, v3, .arr 2 42 [.bool false, .str nS]), (178005, v4, .arr 2 42 [.bool false, .str nS])]⟩ ?_
 refine AW.dgs 4 follows rfl rfl fun K hK => ?_
 refine sv rfl (v_loadP ty42 rfl rfl (l_litA rfl (lb rfl) rfl)) ?_
 obtain ⟨x5, h6, h⟩ := bS h
 refine s_op rfl rfl (ops_call rfl rfl rfl rfl (ACallD.pure0 (w_ref01_CanonicalE h6)) ?_)
 refine sv rfl (v_loadP ty42 rfl rfl (l_litA rfl (lb rfl) rfl)) ?_
 obtain ⟨x7, h8, h⟩ := bS h
 refine s_op rfl rfl (ops_call rfl rfl rfl rfl (ACallD.pure0 (w_ref01_CanonicalE h8)) ?_)
 refine s_nil ?_
 refine b_op rfl (o_store (cs := [.bool x5.1, .str x5.2]) (zs := [.bool x5.1, .str x5.2]) rfl rfl rfl ty42 rfl rfl rfl rfl rfl ?_)
 refine b_op rfl (o_store (cs := [.bool x7.1, .str x7.2]) (zs := [.bool x7.1, .str x7.2]) rfl rfl rfl ty42 rfl rfl rfl rfl rfl ?_)
 refine bf hK ⟨[(2, .ptr 178002 v1 0), (3, .ptr 178003 v2 0), (4, .ptr 178004 v3 0), (5, .ptr 178005 v4 0)], [(178002, v1, .arr 2 42 [.bool x5.1, .str x5.2]), (178003, v2, .arr 2 42 [.bool x7.1, .str x7.2]), (178004, v3, .arr 2 42 [.bool false, .str nS]), (178005, v4, .arr 2 42 [.bool false, .str nS])]⟩ ?_
 refine AW.seq ?_
 refine AW.rgs rfl fun K hK => bv rfl (v_fieldAddrP fo42_1 rfl rfl) (bv rfl (v_loadP ty9 rfl rfl (l_lit rfl rfl)) (bv rfl (v_bin rfl rfl b_seql) ?_))
 refine bf hK ⟨[(2, .ptr 178002 v1 0), (3, .ptr 178003 v2 0), (4, .ptr 178004 v3 0), (5, .ptr 178005 v4 0), (19, .bool (decide (x7.2 = nS)))], [(178002, v1, .arr 2 42 [.bool x5.1, .str x5.2]), (178003, v2, .arr 2 42 [.bool x7.1, .str x7.2]), (178004, v3, .arr 2 42 [.bool false, .str nS]), (178005, v4, .arr 2 42 [.bool false, .str nS])]⟩ ?_
 refine AW.cond rfl (fun hc => ?_) (fun hc => ?_)
 ·obtain ⟨hc, h⟩ := cT hc h
  refine AW.rgs rfl fun K hK => b_op rfl (o_build (cs := [.bool false, .str nS]) rfl (bl_of ty42 rfl rfl rfl rfl) ?_)
  refine b_op rfl (o_build (cs := [.bool false, .str nS]) rfl (bl_of ty42 rfl rfl rfl rfl) ?_)
  refine b_op rfl (o_store (cs := [.bool false, .str nS]) (zs := [.bool false, .str nS]) rfl rfl rfl ty42 rfl rfl rfl rfl rfl ?_)
  refine b_op rfl (o_store (cs := [.bool false, .str nS]) (zs := [.bool false, .str nS]) rfl rfl rfl ty42 rfl rfl rfl rfl rfl ?_)
  refine mv rfl rfl ?_
  refine bf hK ⟨[(4, .ptr 178004 v3 0), (5, .ptr 178005 v4 0), (6, hI 9)], [(178004, v3, .arr 2 42 [.bool false, .str nS]), (178005, v4, .arr 2 42 [.bool false, .str nS])]⟩ ?_
  refine AW.ret ?_
  have h := Option.some.inj h
  subst h
  exact ret_pure (hs := [.agg [.bool false, .str nS], .agg [.bool false, .str nS], hI 9]) (.inr rfl) (resP ty42 rfl rfl (l_litA rfl (lb rfl) rfl) (resP ty42 rfl rfl (l_litA rfl (lb rfl) rfl) (resT rfl rfl))) rfl ⟨⟨trivial, trivial, trivial⟩, ⟨trivial, trivial, trivial⟩, trivial, trivial⟩
 obtain ⟨hc, h⟩ := cF hc h
 refine AW.skip ?_
 refine AW.rgs rfl fun K hK => b_op rfl (o_alloc (fid := 178) (zs := [.bool false, .str nS]) 178007 rfl rfl ty42 rfl (fun v9 => ?_))
 refine b_op rfl (o_alloc (fid := 178) (zs := [.bool false, .str nS]) 178008 rfl rfl ty42 rfl (fun v10 => ?_))
 refine bf hK ⟨[(2, .ptr 178002 v1 0), (3, .ptr 178003 v2 0), (4, .ptr 178004 v3 0), (5, .ptr 178005 v4 0), (7, .ptr 178007 v9 0), (8, .ptr 178008 v10 0)], [(178002, v1, .arr 2 42 [.bool x5.1, .str x5.2]), (178003, v2, .arr 2 42 [.bool x7.1, .str x7.2]), (178004, v3, .arr 2 42 [.bool false, .str nS]), (178005, v4, .arr 2 42 [.bool false, .str nS]), (178007, v9, .arr 2 42 [.bool false, .str nS]), (178008, v10, .arr 2 42 [.bool false, .str nS])]⟩ ?_
 refine AW.seq ?_
 refine AW.seqJ h (S := Bool) (V := Unit) (fun a v => ⟨[(2, .ptr 178002 v1 0), (3, .ptr 178003 v2 0), (4, .ptr 178004 v3 0), (5, .ptr 178005 v4 0), (7, .ptr 178007 v9 0), (8, .ptr 178008 v10 0), (31, .bool a)], [(178002, v1, .arr 2 42 [.bool x5.1, .str x5.2]), (178003, v2, .arr 2 42 [.bool x7.1, .str x7.2]), (178004, v3, .arr 2 42 [.bool false, .str nS]), (178005, v4, .arr 2 42 [.bool false, .str nS]), (178007, v9, .arr 2 42 [.bool false, .str nS]), (178008, v10, .arr 2 42 [.bool false, .str nS])]⟩) (fun a11 w12 h => ?_) (fun k13 h => ?_)
 ·refine AW.lastJ h (by first | exact up_then | exact up_to) (S := Bool × (List UInt8) × Bool × (List UInt8)) (V := Unit) (fun a v => ⟨[(2, .ptr 178002 v1 0), (3, .ptr 178003 v2 0), (4, .ptr 178004 v3 0), (5, .ptr 178005 v4 0), (7, .ptr 178007 v9 0), (8, .ptr 178008 v10 0)], [(178002, v1, .arr 2 42 [.bool x5.1, .str x5.2]), (178003, v2, .arr 2 42 [.bool x7.1, .str x7.2]), (178004, v3, .arr 2 42 [.bool false, .str nS]), (178005, v4, .arr 2 42 [.bool false, .str nS]), (178007, v9, .arr 2 42 [.bool a.1, .str a.2.1]), (178008, v10, .arr 2 42 [.bool a.2.2.1, .str a.2.2.2])]⟩) (fun a14 w15 h => ?_) (fun k16 h => ?_)
  ·refine AW.seq ?_
   refine AW.rgs rfl fun K hK => bv rfl (v_fieldAddrP fo42_0 rfl rfl) (bv rfl (v_loadP ty4 rfl rfl (l_lit rfl rfl)) (bv rfl (v_fieldAddrP fo42_0 rfl rfl) (bv rfl (v_loadP ty4 rfl rfl (l_lit rfl rfl)) (bv rfl (v_bin rfl rfl (b_neB ty4)) ?_))))
   refine bf hK ⟨[(3, .ptr 178003 v2 0), (4, .ptr 178004 v3 0), (5, .ptr 178005 v4 0), (7, .ptr 178007 v9 0), (8, .ptr 178008 v10 0), (62, .bool (!(x5.1 == x7.1)))], [(178003, v2, .arr 2 42 [.bool x7.1, .str x7.2]), (178004, v3, .arr 2 42 [.bool false, .str nS]), (178005, v4, .arr 2 42 [.bool false, .str nS]), (178007, v9, .arr 2 42 [.bool a14.1, .str a14.2.1]), (178008, v10, .arr 2 42 [.bool a14.2.2.1, .str a14.2.2.2])]⟩ ?_
   refine AW.lastJ h (by first | exact up_then | exact up_to) (S := Bool × (List UInt8) × Bool × (List UInt8)) (V := Unit) (fun a v => ⟨[(3, .ptr 178003 v2 0), (4, .ptr 178004 v3 0), (5, .ptr 178005 v4 0), (7, .ptr 178007 v9 0), (8, .ptr 178008 v10 0)], [(178003, v2, .arr 2 42 [.bool x7.1, .str x7.2]), (178004, v3, .arr 2 42 [.bool false, .str nS]), (178005, v4, .arr 2 42 [.bool false, .str nS]), (178007, v9, .arr 2 42 [.bool a.1, .str a.2.1]), (178008, v10, .arr 2 42 [.bool a.2.2.1, .str a.2.2.2])]⟩) (fun a17 w18 h => ?_) (fun k19 h => ?_)
   ·refine AW.seq ?_
    refine AW.rgs rfl fun K hK => bv rfl (v_fieldAddrP fo42_0 rfl rfl) (bv rfl (v_loadP ty4 rfl rfl (l_lit rfl rfl)) ?_)
    refine bf hK ⟨[(4, .ptr 178004 v3 0), (5, .ptr 178005 v4 0), (7, .ptr 178007 v9 0), (8, .ptr 178008 v10 0), (77, .bool x7.1)], [(178004, v3, .arr 2 42 [.bool false, .str nS]), (178005, v4, .arr 2 42 [.bool false, .str nS]), (178007, v9, .arr 2 42 [.bool a17.1, .str a17.2.1]), (178008, v10, .arr 2 42 [.bool a17.2.2.1, .str a17.2.2.2])]⟩ ?_
    refine AW.lastJ h (by first | exact up_then | exact up_to) (S := Bool × (List UInt8)) (V := Unit) (fun a v => ⟨[(4, .ptr 178004 v3 0), (5, .ptr 178005 v4 0), (7, .ptr 178007 v9 0), (8, .ptr 178008 v10 0)], [(178004, v3, .arr 2 42 [.bool false, .str nS]), (178005, v4, .arr 2 42 [.bool false, .str nS]), (178007, v9, .arr 2 42 [.bool a17.1, .str a17.2.1]), (178008, v10, .arr 2 42 [.bool a.1, .str a.2])]⟩) (fun a20 w21 h => ?_) (fun k22 h => ?_)
    ·refine AW.dls follows fun K hK F hF => ?_
     refine l_go (L' := []) hF rfl (s' := ⟨[(4, .ptr 178004 v3 0), (5, .ptr 178005 v4 0), (7, .ptr 178007 v9 0), (8, .ptr 178008 v10 0)], [(178004, v3, .arr 2 42 [.bool false, .str nS]), (178005, v4, .arr 2 42 [.bool false, .str nS]), (178007, v9, .arr 2 42 [.bool a17.1, .str a17.2.1]), (178008, v10, .arr 2 42 [.bool a20.1, .str a20.2])]⟩) ?_ (le_q rfl rfl)
     have g23_6 : F [0, 1, 2, 3, 4] ⟨[(4, .ptr 178004 v3 0), (5, .ptr 178005 v4 0), (6, hI 0)], [(178004, v3, .arr 2 42 [.bool a17.1, .str a17.2.1]), (178005, v4, .arr 2 42 [.bool a20.1, .str a20.2]), (178007, v9, .arr 2 42 [.bool a17.1, .str a17.2.1]), (178008, v10, .arr 2 42 [.bool a20.1, .str a20.2])]⟩ := by
      refine l_done hF rfl rfl (hK _ (AW.to (to_le (s' := ⟨[(4, .ptr 178004 v3 0), (5, .ptr 178005 v4 0), (6, hI 0)], [(178004, v3, .arr 2 42 [.bool a17.1, .str a17.2.1]), (178005, v4, .arr 2 42 [.bool a20.1, .str a20.2])]⟩) (le_q rfl rfl) ?_)))
      refine AW.ret ?_
      have h := Option.some.inj h
      subst h
      exact ret_pure (hs := [.agg [.bool a17.1, .str a17.2.1], .agg [.bool a20.1, .str a20.2], hI 0]) (.inr rfl) (resP ty42 rfl rfl (l_litA rfl (lb rfl) rfl) (resP ty42 rfl rfl (l_litA rfl (lb rfl) rfl) (resT rfl rfl))) rfl ⟨⟨trivial, trivial, trivial⟩, ⟨trivial, trivial, trivial⟩, trivial, trivial⟩
     have g23_5 : F [0, 1, 2, 3] ⟨[(4, .ptr 178004 v3 0), (5, .ptr 178005 v4 0)], [(178004, v3, .arr 2 42 [.bool a17.1, .str a17.2.1]), (178005, v4, .arr 2 42 [.bool a20.1, .str a20.2]), (178007, v9, .arr 2 42 [.bool a17.1, .str a17.2.1]), (178008, v10, .arr 2 42 [.bool a20.1, .str a20.2])]⟩ := by
      refine l_step hF rfl [4] rfl rfl ⟨?_, trivial⟩
      ·exact l_ov rfl rfl rfl rfl (mv_val rfl rfl).2 (lg hF (g23_6))
     have g23_4 : F [0, 1, 2] ⟨[(4, .ptr 178004 v3 0), (5, .ptr 178005 v4 0), (81, .agg [.bool a20.1, .str a20.2])], [(178004, v3, .arr 2 42 [.bool a17.1, .str a17.2.1]), (178005, v4, .arr 2 42 [.bool false, .str nS]), (178007, v9, .arr 2 42 [.bool a17.1, .str a17.2.1]), (178008, v10, .arr 2 42 [.bool a20.1, .str a20.2])]⟩ := by
      refine l_step hF rfl [3] rfl rfl ⟨?_, trivial⟩
      ·refine l_op rfl rfl rfl (o_store (cs := [.bool a20.1, .str a20.2]) (zs := [.bool a20.1, .str a20.2]) rfl rfl rfl ty42 rfl rfl rfl rfl rfl ?_)
       exact b_nil (lg hF (g23_5))
     have g23_3 : F [0, 1] ⟨[(4, .ptr 178004 v3 0), (5, .ptr 178005 v4 0), (80, .agg [.bool a17.1, .str a17.2.1]), (81, .agg [.bool a20.1, .str a20.2])], [(178004, v3, .arr 2 42 [.bool false, .str nS]), (178005, v4, .arr 2 42 [.bool false, .str nS]), (178007, v9, .arr 2 42 [.bool a17.1, .str a17.2.1]), (178008, v10, .arr 2 42 [.bool a20.1, .str a20.2])]⟩ := by
      refine l_step hF rfl [2] rfl rfl ⟨?_, trivial⟩
      ·refine l_op rfl rfl rfl (o_store (cs := [.bool a17.1, .str a17.2.1]) (zs := [.bool a17.1, .str a17.2.1]) rfl rfl rfl ty42 rfl rfl rfl rfl rfl ?_)
       exact b_nil (lg hF (g23_4))
     have g23_7 : F [0, 2] ⟨[(4, .ptr 178004 v3 0), (5, .ptr 178005 v4 0), (8, .ptr 178008 v10 0)], [(178004, v3, .arr 2 42 [.bool a17.1, .str a17.2.1]), (178005, v4, .arr 2 42 [.bool false, .str nS]), (178007, v9, .arr 2 42 [.bool a17.1, .str a17.2.1]), (178008, v10, .arr 2 42 [.bool a20.1, .str a20.2])]⟩ := by
      refine l_step hF rfl [1] rfl rfl ⟨?_, trivial⟩
      ·exact l_ov rfl rfl rfl rfl (v_loadP ty42 rfl rfl (l_litA rfl (lb rfl) rfl)) (lg hF (g23_4))
     have g23_1 : F [0] ⟨[(4, .ptr 178004 v3 0), (5, .ptr 178005 v4 0), (8, .ptr 178008 v10 0), (80, .agg [.bool a17.1, .str a17.2.1])], [(178004, v3, .arr 2 42 [.bool false, .str nS]), (178005, v4, .arr 2 42 [.bool false, .str nS]), (178007, v9, .arr 2 42 [.bool a17.1, .str a17.2.1]), (178008, v10, .arr 2 42 [.bool a20.1, .str a20.2])]⟩ := by
      refine l_step hF rfl [1, 2] rfl rfl ⟨?_, ?_, trivial⟩
      ·exact l_ov rfl rfl rfl rfl (v_loadP ty42 rfl rfl (l_litA rfl (lb rfl) rfl)) (lg hF (g23_3))
      ·refine l_op rfl rfl rfl (o_store (cs := [.bool a17.1, .str a17.2.1]) (zs := [.bool a17.1, .str a17.2.1]) rfl rfl rfl ty42 rfl rfl rfl rfl rfl ?_)
       exact b_nil (lg hF (g23_7))
     have g23_2 : F [1] ⟨[(4, .ptr 178004 v3 0), (5, .ptr 178005 v4 0), (7, .ptr 178007 v9 0), (81, .agg [.bool a20.1, .str a20.2])], [(178004, v3, .arr 2 42 [.bool false, .str nS]), (178005, v4, .arr 2 42 [.bool false, .str nS]), (178007, v9, .arr 2 42 [.bool a17.1, .str a17.2.1]), (178008, v10, .arr 2 42 [.bool a20.1, .str a20.2])]⟩ := by
      refine l_step hF rfl [0] rfl rfl ⟨?_, trivial⟩
      ·exact l_ov rfl rfl rfl rfl (v_loadP ty42 rfl rfl (l_litA rfl (lb rfl) rfl)) (lg hF (g23_3))
     have g23_0 : F [] ⟨[(4, .ptr 178004 v3 0), (5, .ptr 178005 v4 0), (7, .ptr 178007 v9 0), (8, .ptr 178008 v10 0)], [(178004, v3, .arr 2 42 [.bool false, .str nS]), (178005, v4, .arr 2 42 [.bool false, .str nS]), (178007, v9, .arr 2 42 [.bool a17.1, .str a17.2.1]), (178008, v10, .arr 2 42 [.bool a20.1, .str a20.2])]⟩ := by
      refine l_step hF rfl [0, 1] rfl rfl ⟨?_, ?_, trivial⟩
      ·exact l_ov rfl rfl rfl rfl (v_loadP ty42 rfl rfl (l_litA rfl (lb rfl) rfl)) (lg hF (g23_1))
      ·exact l_ov rfl rfl rfl rfl (v_loadP ty42 rfl rfl (l_litA rfl (lb rfl) rfl)) (lg hF (g23_2))
     exact g23_0
    refine AW.cond rfl (fun hc => ?_) (fun hc => ?_)
    ·have h := ifT hc h
     refine AW.rg rfl fun K hK => bv rfl (v_loadP ty42 rfl rfl (l_litA rfl (lb rfl) rfl)) ?_
     obtain ⟨x24, h25, h⟩ := bS h
     refine b_op rfl (o_call rfl rfl rfl rfl (ACallD.pure0 (w_ref01_NegE h25)) ?_)
     refine b_op rfl (o_store (cs := [.bool x24.1, .str x24.2]) (zs := [.bool x24.1, .str x24.2]) rfl rfl rfl ty42 rfl rfl rfl rfl rfl ?_)
     refine b_nil (hK _ ?_)
     exact to_L ⟨(x24.1, x24.2), (), h, rfl⟩
    have h := ifF (bF' hc) h
    refine AW.skip ?_
    exact to_L ⟨(a17.2.2.1, a17.2.2.2), (), h, rfl⟩
   refine AW.cond rfl (fun hc => ?_) (fun hc => ?_)
   ·have h := ifT hc h
    refine AW.rgs rfl fun K hK => bv rfl (v_loadP ty42 rfl rfl (l_litA rfl (lb rfl) rfl)) ?_
    obtain ⟨x26, h27, h⟩ := bS h
    refine b_op rfl (o_call rfl rfl rfl rfl (ACallD.pure0 (w_ref01_NegE h27)) ?_)
    refine b_op rfl (o_store (cs := [.bool x26.1, .str x26.2]) (zs := [.bool x26.1, .str x26.2]) rfl rfl rfl ty42 rfl rfl rfl rfl rfl ?_)
    refine bf hK ⟨[(3, .ptr 178003 v2 0), (4, .ptr 178004 v3 0), (5, .ptr 178005 v4 0), (7, .ptr 178007 v9 0), (8, .ptr 178008 v10 0)], [(178003, v2, .arr 2 42 [.bool x7.1, .str x7.2]), (178004, v3, .arr 2 42 [.bool false, .str nS]), (178005, v4, .arr 2 42 [.bool false, .str nS]), (178007, v9, .arr 2 42 [.bool x26.1, .str x26.2]), (178008, v10, .arr 2 42 [.bool a14.2.2.1, .str a14.2.2.2])]⟩ ?_
    refine AW.rgs rfl fun K hK => bv rfl (v_fieldAddrP fo42_1 rfl rfl) (bv rfl (v_loadP ty9 rfl rfl (l_lit rfl rfl)) (bv rfl (v_bin rfl rfl b_sneq) ?_))
    refine bf hK ⟨[(3, .ptr 178003 v2 0), (4, .ptr 178004 v3 0), (5, .ptr 178005 v4 0), (7, .ptr 178007 v9 0), (8, .ptr 178008 v10 0), (67, .bool (decide (a14.2.2.2 ≠ nS)))], [(178003, v2, .arr 2 42 [.bool x7.1, .str x7.2]), (178004, v3, .arr 2 42 [.bool false, .str nS]), (178005, v4, .arr 2 42 [.bool false, .str nS]), (178007, v9, .arr 2 42 [.bool x26.1, .str x26.2]), (178008, v10, .arr 2 42 [.bool a14.2.2.1, .str a14.2.2.2])]⟩ ?_
    refine AW.cond rfl (fun hc => ?_) (fun hc => ?_)
    ·obtain ⟨hc, h⟩ := cT hc h
     refine AW.dgs 3 follows rfl rfl fun K hK => ?_
     refine sv rfl (v_loadP ty42 rfl rfl (l_litA rfl (lb rfl) rfl)) ?_
     obtain ⟨x28, h29, h⟩ := bS h
     refine s_op rfl rfl (ops_call rfl rfl rfl rfl (ACallD.pure0 (w_ref01_OfE h29)) ?_)
     obtain ⟨x30, h31, h⟩ := bS h
     refine s_op rfl rfl (ops_call rfl rfl rfl rfl (ACallD.pure0 (w_ref01_SubE h31)) ?_)
     refine s_nil ?_
     refine b_op rfl (o_store (cs := [.bool x30.1, .str x30.2]) (zs := [.bool x30.1, .str x30.2]) rfl rfl rfl ty42 rfl rfl rfl rfl rfl ?_)
     refine bf hK ⟨[(3, .ptr 178003 v2 0), (4, .ptr 178004 v3 0), (5, .ptr 178005 v4 0), (7, .ptr 178007 v9 0), (8, .ptr 178008 v10 0)], [(178003, v2, .arr 2 42 [.bool x7.1, .str x7.2]), (178004, v3, .arr 2 42 [.bool false, .str nS]), (178005, v4, .arr 2 42 [.bool false, .str nS]), (178007, v9, .arr 2 42 [.bool x30.1, .str x30.2]), (178008, v10, .arr 2 42 [.bool a14.2.2.1, .str a14.2.2.2])]⟩ ?_
     refine AW.rg rfl fun K hK => bv rfl (v_fieldAddrP fo42_1 rfl rfl) (bv rfl (v_loadP ty9 rfl rfl (l_lit rfl rfl)) ?_)
     refine b_op rfl (o_build (cs := [.bool false, .str x7.2]) rfl (bl_of ty42 rfl rfl rfl rfl) ?_)
     refine bv rfl (v_loadP ty42 rfl rfl (l_litA rfl (lb rfl) rfl)) ?_
     obtain ⟨x32, h33, h⟩ := bS h
     refine b_op rfl (o_call rfl rfl rfl rfl (ACallD.pure0 (w_ref01_SubE h33)) ?_)
     refine b_op rfl (o_store (cs := [.bool x32.1, .str x32.2]) (zs := [.bool x32.1, .str x32.2]) rfl rfl rfl ty42 rfl rfl rfl rfl rfl ?_)
     refine b_nil (hK _ ?_)
     exact to_L ⟨(x30.1, x30.2, x32.1, x32.2), (), h, rfl⟩
    obtain ⟨hc, h⟩ := cF hc h
    refine AW.skip ?_
    exact to_L ⟨(x26.1, x26.2, a14.2.2.1, a14.2.2.2), (), h, rfl⟩
   have h := ifF (bF' hc) h
   refine AW.skip ?_
   exact to_L ⟨(a14.1, a14.2.1, a14.2.2.1, a14.2.2.2), (), h, rfl⟩
  refine AW.cond rfl (fun hc => ?_) (fun hc => ?_)
  ·have h := ifT hc h
   refine AW.dgs 8 follows rfl rfl fun K hK => ?_
   refine sv rfl (v_fieldAddrP fo42_1 rfl rfl) ?_
   refine sv rfl (v_loadP ty9 rfl rfl (l_lit rfl rfl)) ?_
   obtain ⟨x34, h35, h⟩ := bS h
   refine s_op rfl rfl (ops_call rfl rfl rfl rfl (ACallD.pure0 (w_ref01_smallE h35)) ?_)
   refine sv rfl (v_fieldAddrP fo42_1 rfl rfl) ?_
   refine sv rfl (v_loadP ty9 rfl rfl (l_lit rfl rfl)) ?_
   obtain ⟨x36, h37, h⟩ := bS h
   refine s_op rfl rfl (ops_call rfl rfl rfl rfl (ACallD.pure0 (w_ref01_smallE h37)) ?_)
   refine sm rfl rfl ?_
   refine sm rfl rfl ?_
   refine s_nil ?_
   refine bf hK ⟨[(2, .ptr 178002 v1 0), (3, .ptr 178003 v2 0), (4, .ptr 178004 v3 0), (5, .ptr 178005 v4 0), (7, .ptr 178007 v9 0), (8, .ptr 178008 v10 0), (9, hI x34), (10, hI x36)], [(178002, v1, .arr 2 42 [.bool x5.1, .str x5.2]), (178003, v2, .arr 2 42 [.bool x7.1, .str x7.2]), (178004, v3, .arr 2 42 [.bool false, .str nS]), (178005, v4, .arr 2 42 [.bool false, .str nS]), (178007, v9, .arr 2 42 [.bool false, .str nS]), (178008, v10, .arr 2 42 [.bool false, .str nS])]⟩ ?_
   refine AW.dg 8 follows rfl rfl fun K hK => ?_
   refine sm rfl rfl ?_
   refine sm rfl rfl ?_
   obtain ⟨h38, h⟩ := ifN h
   refine sv rfl (v_bin rfl rfl (b_quo h38)) ?_
   obtain ⟨x39, h40, h⟩ := bS h
   refine s_op rfl rfl (ops_call rfl rfl rfl rfl (ACallD.pure0 (w_ref01_OfE h40)) ?_)
   refine sm rfl rfl ?_
   refine sm rfl rfl ?_
   obtain ⟨h41, h⟩ := ifN h
   refine sv rfl (v_bin rfl rfl (b_rem h41)) ?_
   obtain ⟨x42, h43, h⟩ := bS h
   refine s_op rfl rfl (ops_call rfl rfl rfl rfl (ACallD.pure0 (w_ref01_OfE h43)) ?_)
   refine s_nil ?_
   refine b_op rfl (o_store (cs := [.bool x39.1, .str x39.2]) (zs := [.bool x39.1, .str x39.2]) rfl rfl rfl ty42 rfl rfl rfl rfl rfl ?_)
   refine b_op rfl (o_store (cs := [.bool x42.1, .str x42.2]) (zs := [.bool x42.1, .str x42.2]) rfl rfl rfl ty42 rfl rfl rfl rfl rfl ?_)
   refine b_nil (hK _ ?_)
   exact to_L ⟨(x39.1, x39.2, x42.1, x42.2), (), h, rfl⟩
  have h := ifF (bF' hc) h
  refine AW.rgs rfl fun K hK => bv rfl (v_fieldAddrP fo42_1 rfl rfl) (bv rfl (v_loadP ty9 rfl rfl (l_lit rfl rfl)) (bv rfl (v_fieldAddrP fo42_1 rfl rfl) (bv rfl (v_loadP ty9 rfl rfl (l_lit rfl rfl)) ?_)))
  obtain ⟨x44, h45, h⟩ := bS h
  refine b_op rfl (o_call rfl rfl rfl rfl (ACallD.pure0 (w_ref01_divMagE h45)) ?_)
  refine mv rfl rfl (bv rfl (v_extract rfl rfl) (bv rfl (v_extract rfl rfl) (mv rfl rfl (mv rfl rfl ?_))))
  refine bf hK ⟨[(2, .ptr 178002 v1 0), (3, .ptr 178003 v2 0), (4, .ptr 178004 v3 0), (5, .ptr 178005 v4 0), (7, .ptr 178007 v9 0), (8, .ptr 178008 v10 0), (11, .str x44.1), (12, .str x44.2)], [(178002, v1, .arr 2 42 [.bool x5.1, .str x5.2]), (178003, v2, .arr 2 42 [.bool x7.1, .str x7.2]), (178004, v3, .arr 2 42 [.bool false, .str nS]), (178005, v4, .arr 2 42 [.bool false, .str nS]), (178007, v9, .arr 2 42 [.bool false, .str nS]), (178008, v10, .arr 2 42 [.bool false, .str nS])]⟩ ?_
  refine AW.rg rfl fun K hK => mv rfl rfl ?_
  refine b_op rfl (o_build (cs := [.bool false, .str x44.1]) rfl (bl_of ty42 rfl rfl rfl rfl) ?_)
  refine mv rfl rfl ?_
  refine b_op rfl (o_build (cs := [.bool false, .str x44.2]) rfl (bl_of ty42 rfl rfl rfl rfl) ?_)
  refine b_op rfl (o_store (cs := [.bool false, .str x44.1]) (zs := [.bool false, .str x44.1]) rfl rfl rfl ty42 rfl rfl rfl rfl rfl ?_)
  refine b_op rfl (o_store (cs := [.bool false, .str x44.2]) (zs := [.bool false, .str x44.2]) rfl rfl rfl ty42 rfl rfl rfl rfl rfl ?_)
  refine b_nil (hK _ ?_)
  exact to_L ⟨(false, x44.1, false, x44.2), (), h, rfl⟩
 refine AW.rg rfl fun K hK => bv rfl (v_fieldAddrP fo42_1 rfl rfl) (bv rfl (v_loadP ty9 rfl rfl (l_lit rfl rfl)) (bv rfl (v_lenS rfl rfl ty9 rfl) (bv rfl (v_bin rfl rfl b_lss) (mv rfl rfl ?_))))
 by_cases hg46 : ((x5.2).length : Int) < 8
 ·have h := ifT hg46 h
  refine b_T rfl rfl rfl rfl (decide_eq_true hg46) (o_val rfl (v_fieldAddrP fo42_1 rfl rfl) ?_)
  refine b_T rfl rfl rfl rfl rfl (o_val rfl (v_loadP ty9 rfl rfl (l_lit rfl rfl)) ?_)
  refine b_T rfl rfl rfl rfl rfl (o_val rfl (v_lenS rfl rfl ty9 rfl) ?_)
  refine b_T rfl rfl rfl rfl rfl (o_val rfl (v_bin rfl rfl b_lss) ?_)
  refine bv rfl (v_pickT rfl rfl rfl) ?_
  refine b_nil (hK _ ?_)
  exact to_L ⟨decide (((x7.2).length : Int) < 8), (), h, rfl⟩
 have h := ifF hg46 h
 refine b_F rfl rfl rfl rfl rfl (decide_eq_false hg46) ?_
 refine b_F rfl rfl rfl rfl rfl rfl ?_
 refine b_F rfl rfl rfl rfl rfl rfl ?_
 refine b_F rfl rfl rfl rfl rfl rfl ?_
 refine bv rfl (v_pickF rfl rfl rfl) ?_
 refine b_nil (hK _ ?_)
 exact to_L ⟨false, (), h, rfl⟩
end Go.AW

namespace Go.AW
open Go
set_option linter.unusedVariables false
def c_ref01_Div (p0 : TNegMag) (p1 : TNegMag) : Option (TNegMag × TNegMag × Int) :=
 (m_ref01_CanonicalE p0).bind fun x5 =>
 (m_ref01_CanonicalE p1).bind fun x7 =>
 if x7.2 = ([] : List UInt8) then
  some ((false, ([] : List UInt8)), (false, ([] : List UInt8)), 9)
 else
  jp (fun (a11 : Bool) =>
    jp (fun (a14 : Bool × (List UInt8) × Bool × (List UInt8)) =>
      jp (fun (a17 : Bool × (List UInt8) × Bool × (List UInt8)) =>
        jp (fun (a20 : Bool × (List UInt8)) =>
          some ((a17.1, a17.2.1), (a20.1, a20.2), 0))
          fun k22 =>
         if x7.1 = true then
          (m_ref01_NegE (a17.2.2.1, a17.2.2.2)).bind fun x24 =>
          k22 (x24.1, x24.2)
         else
          k22 (a17.2.2.1, a17.2.2.2))
        fun k19 =>
       if (!(x5.1 == x7.1)) = true then
        (m_ref01_NegE (a14.1, a14.2.1)).bind fun x26 =>
        if a14.2.2.2 ≠ ([] : List UInt8) then
         (m_ref01_OfE 1).bind fun x28 =>
         (m_ref01_SubE x26 x28).bind fun x30 =>
         (m_ref01_SubE (false, x7.2) (a14.2.2.1, a14.2.2.2)).bind fun x32 =>
         k19 (x30.1, x30.2, x32.1, x32.2)
        else
         k19 (x26.1, x26.2, a14.2.2.1, a14.2.2.2)
       else
        k19 (a14.1, a14.2.1, a14.2.2.1, a14.2.2.2))
      fun k16 =>
     if a11 = true then
      (m_ref01_smallE x5.2).bind fun x34 =>
      (m_ref01_smallE x7.2).bind fun x36 =>
      if x36 ≠ 0 then
       (m_ref01_OfE (IntKind.wrap .i64 (Int.tdiv x34 x36))).bind fun x39 =>
       if x36 ≠ 0 then
        (m_ref01_OfE (Int.tmod x34 x36)).bind fun x42 =>
        k16 (x39.1, x39.2, x42.1, x42.2)
       else none
      else none
     else
      (m_ref01_divMagE x5.2 x7.2).bind fun x44 =>
      k16 (false, x44.1, false, x44.2))
    fun k13 =>
   if ((x5.2).length : Int) < 8 then
    k13 (decide (((x7.2).length : Int) < 8))
   else
    k13 false
set_option maxHeartbeats 1600000 in
theorem le_ref01_Div {p0 : TNegMag} {p1 : TNegMag} : Lq (c_ref01_Div p0 p1) (m_ref01_Div p0 p1) := by
 unfold c_ref01_Div m_ref01_Div
 repeat' with_reducible first | intro _ | exact Lq.refl _ | exact Lq.none | apply Lq.ite | apply Lq.bind | apply Lq.jp | apply Lq.loop | apply Lq.lpO | apply Lq.forL | apply_assumption
end Go.AW
namespace Go.AW
open Go Go.Proofs
def divF (x : Nat × Nat) : FuncId × List HV × HV := (178, [hvI (false, u8z x.1), hvI (false, u8z x.2)], HV.tup [hvI (false, u8z (x.1 / x.2)), hvI (false, u8z (x.1 % x.2)), HV.int .i64 0])
def divA : List (Nat × Nat) := ((0 :: L16).flatMap fun a => [(a, 1), (a, 2)]) ++ L16.flatMap fun b => [(0, b), (b, b)]
theorem div_c : ∀ x ∈ divA, c_ref01_Div (false, u8z x.1) (false, u8z x.2) = some ((false, u8z (x.1 / x.2)), (false, u8z (x.1 % x.2)), 0) := by decide +kernel
def factsD : List (FuncId × List HV × HV) := factsN ++ divA.map divF
theorem factsD_ok : ∀ e ∈ factsD, Pure Tryz.prog e.1 e.2.1 (· = e.2.2) := by
 intro e he
 rcases List.mem_append.1 he with he | he
 ·exact factsN_ok e he
 ·obtain ⟨x, hx, rfl⟩ := List.mem_map.1 he
  exact w_ref01_Div (le_ref01_Div.ap _ (div_c x hx))
noncomputable abbrev comesD (f : FuncId) (args : List HV) (q : HV) : Bool := comesP (tabsE Tryz.prog [] factsD) 2000 f args q
def newB (p : Nat) : Prop := (L16.all fun q => comesD 81 [hvI (false, u8z p), hvI (false, u8z q)] (HV.tup [hvR (ratT p q), HV.int .i64 0])) = true
theorem new0 : newB 0 := by unfold newB; kernel_rfl
theorem new1 : newB 1 := by unfold newB; kernel_rfl
theorem new2 : newB 2 := by unfold newB; kernel_rfl
theorem w_ref02_NewE {p0 p1 : TNegMag} {r : TNumDen × Int} (h : m_ref02_NewE p0 p1 = some r) : Pure Tryz.prog 81 [HV.agg [HV.bool p0.1, HV.str p0.2], HV.agg [HV.bool p1.1, HV.str p1.2]] (· = HV.tup [HV.agg [HV.bool r.1.1.1, HV.str r.1.1.2, HV.bool r.1.2.1, HV.str r.1.2.2], HV.int .i64 r.2]) := by
 unfold m_ref02_NewE at h
 split at h
 ·rename_i hc
  cases h
  obtain ⟨h1, h2, h3, h4⟩ := hc
  obtain ⟨p, hp, rfl⟩ := smN_mem h1
  obtain ⟨q, hq, rfl⟩ := smN_mem h2
  simp only [val_c p hp, val_c q hq] at h3 h4 ⊢
  have hq' : q ∈ L16 := by
   rcases List.mem_cons.1 hq with rfl | hq
   ·omega
   ·exact hq
  have hp' : p = 0 ∨ p = 1 ∨ p = 2 := by omega
  have key : ∀ (hb : newB p), Pure Tryz.prog 81 [hvI (false, u8z p), hvI (false, u8z q)] (· = HV.tup [hvR (ratT p q), HV.int .i64 0]) := fun hb =>
   Pure.of_comes (tabsT_ok (fun _ h => by cases h) factsD_ok) (List.all_eq_true.1 hb q hq')
  rcases hp' with rfl | rfl | rfl
  ·exact key new0
  ·exact key new1
  ·exact key new2
 ·cases h
set_option maxHeartbeats 1600000
set_option maxRecDepth 100000
set_option linter.unusedVariables false
theorem w_ref31_Great {p0 : TWordsMerges} {r : Bool} (h : m_ref31_Great p0 = some r) : Pure Tryz.prog 18 [jA p0] (· = HV.bool r) := by
 unfold m_ref31_Great at h
 refine Pure.of_body Tryz.func18 rfl rfl (lb rfl) fun hf => ?_
 unfold Tryz.f18
 dsimp only [enumS, Nat.reduceAdd]
 refine AW.rgs rfl fun K hK => b_op rfl (o_box rfl rfl rfl ?_)
 refine mv rfl rfl ?_
 refine bf hK ⟨[(1, jF p0)], []⟩ ?_
 refine AW.seq ?_
 refine AW.seqJ h (S := Bool) (V := Unit) (fun a v => ⟨[(1, jF p0), (38, .bool a)], []⟩) (fun a1 w2 h => ?_) (fun k3 h => ?_)
 ·refine AW.cond rfl (fun hc => ?_) (fun hc => ?_)
  ·have h := ifT hc h
   refine AW.rgs rfl fun K hK => mv rfl rfl ?_
   refine bf hK ⟨[(2, .bool true)], []⟩ ?_
   refine AW.ret ?_
   have h := Option.some.inj h
   subst h
   exact ret_pure (hs := [.bool true]) (.inr rfl) (resT rfl rfl) rfl trivial
  have h := ifF (bF' hc) h
  refine AW.skip ?_
  refine AW.seq ?_
  refine AW.rgs rfl fun K hK => mv rfl rfl ?_
  refine bf hK ⟨[(1, jF p0), (3, hI 0)], []⟩ ?_
  refine AW.lpR h (by first | exact up_then | exact up_to) (S := Int) (V := Unit) (fun a v => ⟨[(1, jF p0), (3, hI a)], []⟩) ?_ (X := Unit) (W := Unit) (fun a v => ⟨[(1, jF p0)], []⟩) (fun a21 w22 h => ?_) (fun a4 w5 st6 h hr7=> ?_)
  ·exact to_L ⟨(), rfl⟩
  ·refine AW.seq ?_
   refine AW.rgs rfl fun K hK => mv rfl rfl ?_
   refine bf hK ⟨[(1, jF p0), (4, hI 0)], []⟩ ?_
   refine AW.lpR h (by first | exact up_then | exact up_to) (S := Int) (V := Unit) (fun a v => ⟨[(1, jF p0), (4, hI a)], []⟩) ?_ (X := Unit) (W := Unit) (fun a v => ⟨[], []⟩) (fun a40 w41 h => ?_) (fun a23 w24 st25 h hr26=> ?_)
   ·exact to_L ⟨(), rfl⟩
   ·refine AW.rgs rfl fun K hK => mv rfl rfl ?_
    refine bf hK ⟨[(2, .bool false)], []⟩ ?_
    refine AW.ret ?_
    have h := Option.some.inj h
    subst h
    exact ret_pure (hs := [.bool false]) (.inr rfl) (resT rfl rfl) rfl trivial
   refine AW.seq ?_
   refine AW.rgs rfl fun K hK => mv rfl rfl (bv rfl (v_fieldAddrF fo24_1 rfl) (bv rfl (v_loadF ty22 rfl (l_lit rfl rfl)) (bv rfl (v_lenF rfl rfl ty22 rfl) (bv rfl (v_bin rfl rfl b_lss) ?_))))
   refine bf hK ⟨[(1, jF p0), (4, hI a23), (75, .bool (decide (a23 < ((p0.2).length : Int))))], []⟩ ?_
   refine AW.cond rfl (fun hc => ?_) (fun hc => ?_)
   ·obtain ⟨hc, h⟩ := cT hc h
    refine AW.skip ?_
    refine AW.seq (AW.block ?_)
    refine AW.seqJ h (S := Bool) (V := Unit) (fun a v => ⟨[(1, jF p0), (4, hI a23), (102, .bool a)], []⟩) (fun a27 w28 h => ?_) (fun k29 h => ?_)
    ·refine AW.cond rfl (fun hc => ?_) (fun hc => ?_)
     ·have h := ifT hc h
      refine AW.rgs rfl fun K hK => mv rfl rfl ?_
      refine bf hK ⟨[(2, .bool true)], []⟩ ?_
      have h := hr26 _ h
      refine AW.ret ?_
      have h := Option.some.inj h
      subst h
      exact ret_pure (hs := [.bool true]) (.inr rfl) (resT rfl rfl) rfl trivial
     have h := ifF (bF' hc) h
     refine AW.skip ?_
     refine AW.rg rfl fun K hK => mv rfl rfl (bv rfl (v_bin rfl rfl b_add) (mv rfl rfl ?_))
     refine b_nil (hK _ ?_)
     exact to_L ⟨IntKind.wrap .i64 (a23 + 1), (), h, rfl⟩
    refine AW.rg rfl fun K hK => bv rfl (v_fieldAddrF fo24_1 rfl) (bv rfl (v_loadF ty22 rfl (l_lit rfl rfl)) (mv rfl rfl ?_))
    obtain ⟨x30, h31, h⟩ := bS h
    refine bv rfl (v_idxF ty22 es22 rfl rfl (idx_lt h31)) (bv rfl (v_loadF ty9 rfl (l_cell eStr h31 (o := 0) rfl rfl)) (bv rfl (v_lenS rfl rfl ty9 rfl) (bv rfl (v_bin rfl rfl b_gtr) (mv rfl rfl ?_))))
    by_cases hg39 : 8 < ((x30).length : Int)
    ·have h := ifT hg39 h
     refine b_T rfl rfl rfl rfl (decide_eq_true hg39) (o_val rfl (v_fieldAddrF fo24_1 rfl) ?_)
     refine b_T rfl rfl rfl rfl rfl (o_val rfl (v_loadF ty22 rfl (l_lit rfl rfl)) ?_)
     refine b_T rfl rfl rfl rfl rfl (o_val rfl (mv_val rfl rfl).2 ?_)
     obtain ⟨x32, h33, h⟩ := bS h
     refine b_T rfl rfl rfl rfl rfl (o_val rfl (v_idxF ty22 es22 rfl rfl (idx_lt h33)) ?_)
     refine b_T rfl rfl rfl rfl rfl (o_val rfl (v_loadF ty9 rfl (l_cell eStr h33 (o := 0) rfl rfl)) ?_)
     refine b_T rfl rfl rfl rfl rfl (o_val rfl (v_lenS rfl rfl ty9 rfl) ?_)
     refine b_T rfl rfl rfl rfl rfl (o_val rfl (v_bin rfl rfl b_leq) ?_)
     refine bv rfl (v_pickT rfl rfl rfl) (mv rfl rfl ?_)
     by_cases hg36 : ((x32).length : Int) ≤ 16
     ·have h := ifT hg36 h
      refine b_F rfl rfl rfl rfl rfl (decide_eq_true hg36) ?_
      refine b_F rfl rfl rfl rfl rfl rfl ?_
      refine b_F rfl rfl rfl rfl rfl rfl ?_
      refine b_F rfl rfl rfl rfl rfl rfl ?_
      refine b_F rfl rfl rfl rfl rfl rfl ?_
      refine b_F rfl rfl rfl rfl rfl rfl ?_
      refine b_F rfl rfl rfl rfl rfl rfl ?_
      refine bv rfl (v_pickT rfl rfl rfl) ?_
      refine b_nil (hK _ ?_)
      exact to_L ⟨true, (), h, rfl⟩
     have h := ifF hg36 h
     refine b_T rfl rfl rfl rfl (decide_eq_false hg36) (o_val rfl (v_fieldAddrF fo24_1 rfl) ?_)
     refine b_T rfl rfl rfl rfl rfl (o_val rfl (v_loadF ty22 rfl (l_lit rfl rfl)) ?_)
     refine b_T rfl rfl rfl rfl rfl (o_val rfl (mv_val rfl rfl).2 ?_)
     obtain ⟨x34, h35, h⟩ := bS h
     refine b_T rfl rfl rfl rfl rfl (o_val rfl (v_idxF ty22 es22 rfl rfl (idx_lt h35)) ?_)
     refine b_T rfl rfl rfl rfl rfl (o_val rfl (v_loadF ty9 rfl (l_cell eStr h35 (o := 0) rfl rfl)) ?_)
     refine b_T rfl rfl rfl rfl rfl (o_val rfl (v_lenS rfl rfl ty9 rfl) ?_)
     refine b_T rfl rfl rfl rfl rfl (o_val rfl (v_bin rfl rfl b_gtr) ?_)
     refine bv rfl (v_pickF rfl rfl rfl) ?_
     refine b_nil (hK _ ?_)
     exact to_L ⟨decide (20 < ((x34).length : Int)), (), h, rfl⟩
    have h := ifF hg39 h
    refine b_F rfl rfl rfl rfl rfl (decide_eq_false hg39) ?_
    refine b_F rfl rfl rfl rfl rfl rfl ?_
    refine b_F rfl rfl rfl rfl rfl rfl ?_
    refine b_F rfl rfl rfl rfl rfl rfl ?_
    refine b_F rfl rfl rfl rfl rfl rfl ?_
    refine b_F rfl rfl rfl rfl rfl rfl ?_
    refine b_F rfl rfl rfl rfl rfl rfl ?_
    refine bv rfl (v_pickF rfl rfl rfl) (mv rfl rfl ?_)
    refine b_T rfl rfl rfl rfl rfl (o_val rfl (v_fieldAddrF fo24_1 rfl) ?_)
    refine b_T rfl rfl rfl rfl rfl (o_val rfl (v_loadF ty22 rfl (l_lit rfl rfl)) ?_)
    refine b_T rfl rfl rfl rfl rfl (o_val rfl (mv_val rfl rfl).2 ?_)
    obtain ⟨x37, h38, h⟩ := bS h
    refine b_T rfl rfl rfl rfl rfl (o_val rfl (v_idxF ty22 es22 rfl rfl (idx_lt h38)) ?_)
    refine b_T rfl rfl rfl rfl rfl (o_val rfl (v_loadF ty9 rfl (l_cell eStr h38 (o := 0) rfl rfl)) ?_)
    refine b_T rfl rfl rfl rfl rfl (o_val rfl (v_lenS rfl rfl ty9 rfl) ?_)
    refine b_T rfl rfl rfl rfl rfl (o_val rfl (v_bin rfl rfl b_gtr) ?_)
    refine bv rfl (v_pickF rfl rfl rfl) ?_
    refine b_nil (hK _ ?_)
    exact to_L ⟨decide (20 < ((x37).length : Int)), (), h, rfl⟩
   obtain ⟨hc, h⟩ := cF hc h
   refine AW.exit ?_
   exact to_L ⟨(), (), h, rfl⟩
  refine AW.seq ?_
  refine AW.rgs rfl fun K hK => mv rfl rfl (bv rfl (v_fieldAddrF fo24_0 rfl) (bv rfl (v_loadF ty22 rfl (l_lit rfl rfl)) (bv rfl (v_lenF rfl rfl ty22 rfl) (bv rfl (v_bin rfl rfl b_lss) ?_))))
  refine bf hK ⟨[(1, jF p0), (3, hI a4), (43, .bool (decide (a4 < ((p0.1).length : Int))))], []⟩ ?_
  refine AW.cond rfl (fun hc => ?_) (fun hc => ?_)
  ·obtain ⟨hc, h⟩ := cT hc h
   refine AW.skip ?_
   refine AW.seq (AW.block ?_)
   refine AW.seqJ h (S := Bool) (V := Unit) (fun a v => ⟨[(1, jF p0), (3, hI a4), (70, .bool a)], []⟩) (fun a8 w9 h => ?_) (fun k10 h => ?_)
   ·refine AW.cond rfl (fun hc => ?_) (fun hc => ?_)
    ·have h := ifT hc h
     refine AW.rgs rfl fun K hK => mv rfl rfl ?_
     refine bf hK ⟨[(2, .bool true)], []⟩ ?_
     have h := hr7 _ h
     refine AW.ret ?_
     have h := Option.some.inj h
     subst h
     exact ret_pure (hs := [.bool true]) (.inr rfl) (resT rfl rfl) rfl trivial
    have h := ifF (bF' hc) h
    refine AW.skip ?_
    refine AW.rg rfl fun K hK => mv rfl rfl (bv rfl (v_bin rfl rfl b_add) (mv rfl rfl ?_))
    refine b_nil (hK _ ?_)
    exact to_L ⟨IntKind.wrap .i64 (a4 + 1), (), h, rfl⟩
   refine AW.rg rfl fun K hK => bv rfl (v_fieldAddrF fo24_0 rfl) (bv rfl (v_loadF ty22 rfl (l_lit rfl rfl)) (mv rfl rfl ?_))
   obtain ⟨x11, h12, h⟩ := bS h
   refine bv rfl (v_idxF ty22 es22 rfl rfl (idx_lt h12)) (bv rfl (v_loadF ty9 rfl (l_cell eStr h12 (o := 0) rfl rfl)) (bv rfl (v_lenS rfl rfl ty9 rfl) (bv rfl (v_bin rfl rfl b_gtr) (mv rfl rfl ?_))))
   by_cases hg20 : 8 < ((x11).length : Int)
   ·have h := ifT hg20 h
    refine b_T rfl rfl rfl rfl (decide_eq_true hg20) (o_val rfl (v_fieldAddrF fo24_0 rfl) ?_)
    refine b_T rfl rfl rfl rfl rfl (o_val rfl (v_loadF ty22 rfl (l_lit rfl rfl)) ?_)
    refine b_T rfl rfl rfl rfl rfl (o_val rfl (mv_val rfl rfl).2 ?_)
    obtain ⟨x13, h14, h⟩ := bS h
    refine b_T rfl rfl rfl rfl rfl (o_val rfl (v_idxF ty22 es22 rfl rfl (idx_lt h14)) ?_)
    refine b_T rfl rfl rfl rfl rfl (o_val rfl (v_loadF ty9 rfl (l_cell eStr h14 (o := 0) rfl rfl)) ?_)
    refine b_T rfl rfl rfl rfl rfl (o_val rfl (v_lenS rfl rfl ty9 rfl) ?_)
    refine b_T rfl rfl rfl rfl rfl (o_val rfl (v_bin rfl rfl b_leq) ?_)
    refine bv rfl (v_pickT rfl rfl rfl) (mv rfl rfl ?_)
    by_cases hg17 : ((x13).length : Int) ≤ 16
    ·have h := ifT hg17 h
     refine b_F rfl rfl rfl rfl rfl (decide_eq_true hg17) ?_
     refine b_F rfl rfl rfl rfl rfl rfl ?_
     refine b_F rfl rfl rfl rfl rfl rfl ?_
     refine b_F rfl rfl rfl rfl rfl rfl ?_
     refine b_F rfl rfl rfl rfl rfl rfl ?_
     refine b_F rfl rfl rfl rfl rfl rfl ?_
     refine b_F rfl rfl rfl rfl rfl rfl ?_
     refine bv rfl (v_pickT rfl rfl rfl) ?_
     refine b_nil (hK _ ?_)
     exact to_L ⟨true, (), h, rfl⟩
    have h := ifF hg17 h
    refine b_T rfl rfl rfl rfl (decide_eq_false hg17) (o_val rfl (v_fieldAddrF fo24_0 rfl) ?_)
    refine b_T rfl rfl rfl rfl rfl (o_val rfl (v_loadF ty22 rfl (l_lit rfl rfl)) ?_)
    refine b_T rfl rfl rfl rfl rfl (o_val rfl (mv_val rfl rfl).2 ?_)
    obtain ⟨x15, h16, h⟩ := bS h
    refine b_T rfl rfl rfl rfl rfl (o_val rfl (v_idxF ty22 es22 rfl rfl (idx_lt h16)) ?_)
    refine b_T rfl rfl rfl rfl rfl (o_val rfl (v_loadF ty9 rfl (l_cell eStr h16 (o := 0) rfl rfl)) ?_)
    refine b_T rfl rfl rfl rfl rfl (o_val rfl (v_lenS rfl rfl ty9 rfl) ?_)
    refine b_T rfl rfl rfl rfl rfl (o_val rfl (v_bin rfl rfl b_gtr) ?_)
    refine bv rfl (v_pickF rfl rfl rfl) ?_
    refine b_nil (hK _ ?_)
    exact to_L ⟨decide (20 < ((x15).length : Int)), (), h, rfl⟩
   have h := ifF hg20 h
   refine b_F rfl rfl rfl rfl rfl (decide_eq_false hg20) ?_
   refine b_F rfl rfl rfl rfl rfl rfl ?_
   refine b_F rfl rfl rfl rfl rfl rfl ?_
   refine b_F rfl rfl rfl rfl rfl rfl ?_
   refine b_F rfl rfl rfl rfl rfl rfl ?_
   refine b_F rfl rfl rfl rfl rfl rfl ?_
   refine b_F rfl rfl rfl rfl rfl rfl ?_
   refine bv rfl (v_pickF rfl rfl rfl) (mv rfl rfl ?_)
   refine b_T rfl rfl rfl rfl rfl (o_val rfl (v_fieldAddrF fo24_0 rfl) ?_)
   refine b_T rfl rfl rfl rfl rfl (o_val rfl (v_loadF ty22 rfl (l_lit rfl rfl)) ?_)
   refine b_T rfl rfl rfl rfl rfl (o_val rfl (mv_val rfl rfl).2 ?_)
   obtain ⟨x18, h19, h⟩ := bS h
   refine b_T rfl rfl rfl rfl rfl (o_val rfl (v_idxF ty22 es22 rfl rfl (idx_lt h19)) ?_)
   refine b_T rfl rfl rfl rfl rfl (o_val rfl (v_loadF ty9 rfl (l_cell eStr h19 (o := 0) rfl rfl)) ?_)
   refine b_T rfl rfl rfl rfl rfl (o_val rfl (v_lenS rfl rfl ty9 rfl) ?_)
   refine b_T rfl rfl rfl rfl rfl (o_val rfl (v_bin rfl rfl b_gtr) ?_)
   refine bv rfl (v_pickF rfl rfl rfl) ?_
   refine b_nil (hK _ ?_)
   exact to_L ⟨decide (20 < ((x18).length : Int)), (), h, rfl⟩
  obtain ⟨hc, h⟩ := cF hc h
  refine AW.exit ?_
  exact to_L ⟨(), (), h, rfl⟩
 refine AW.rg rfl fun K hK => bv rfl (v_fieldAddrF fo24_0 rfl) (bv rfl (v_loadF ty22 rfl (l_lit rfl rfl)) (bv rfl (v_lenF rfl rfl ty22 rfl) (bv rfl (v_bin rfl rfl b_gtr) (mv rfl rfl ?_))))
 by_cases hg51 : 6 < ((p0.1).length : Int)
 ·have h := ifT hg51 h
  refine b_T rfl rfl rfl rfl (decide_eq_true hg51) (o_val rfl (v_fieldAddrF fo24_0 rfl) ?_)
  refine b_T rfl rfl rfl rfl rfl (o_val rfl (v_loadF ty22 rfl (l_lit rfl rfl)) ?_)
  refine b_T rfl rfl rfl rfl rfl (o_val rfl (v_lenF rfl rfl ty22 rfl) ?_)
  refine b_T rfl rfl rfl rfl rfl (o_val rfl (v_bin rfl rfl b_leq) ?_)
  refine bv rfl (v_pickT rfl rfl rfl) (mv rfl rfl ?_)
  by_cases hg46 : ((p0.1).length : Int) ≤ 256
  ·have h := ifT hg46 h
   refine b_F rfl rfl rfl rfl rfl (decide_eq_true hg46) ?_
   refine b_F rfl rfl rfl rfl rfl rfl ?_
   refine b_F rfl rfl rfl rfl rfl rfl ?_
   refine b_F rfl rfl rfl rfl rfl rfl ?_
   refine b_F rfl rfl rfl rfl rfl rfl ?_
   refine b_U rfl rfl rfl rfl rfl ?_
   refine b_U rfl rfl rfl rfl rfl ?_
   refine b_U rfl rfl rfl rfl rfl ?_
   refine b_U rfl rfl rfl rfl rfl ?_
   refine b_F rfl rfl rfl rfl rfl rfl ?_
   refine bv rfl (v_pickT rfl rfl rfl) (mv rfl rfl ?_)
   refine b_F rfl rfl rfl rfl rfl rfl ?_
   refine b_F rfl rfl rfl rfl rfl rfl ?_
   refine b_F rfl rfl rfl rfl rfl rfl ?_
   refine b_F rfl rfl rfl rfl rfl rfl ?_
   refine bv rfl (v_pickT rfl rfl rfl) (mv rfl rfl ?_)
   refine b_F rfl rfl rfl rfl rfl rfl ?_
   refine b_F rfl rfl rfl rfl rfl rfl ?_
   refine b_F rfl rfl rfl rfl rfl rfl ?_
   refine b_F rfl rfl rfl rfl rfl rfl ?_
   refine bv rfl (v_pickT rfl rfl rfl) ?_
   refine b_nil (hK _ ?_)
   exact to_L ⟨true, (), h, rfl⟩
  have h := ifF hg46 h
  refine b_T rfl rfl rfl rfl (decide_eq_false hg46) (o_val rfl (v_fieldAddrF fo24_1 rfl) ?_)
  refine b_T rfl rfl rfl rfl rfl (o_val rfl (v_loadF ty22 rfl (l_lit rfl rfl)) ?_)
  refine b_T rfl rfl rfl rfl rfl (o_val rfl (v_lenF rfl rfl ty22 rfl) ?_)
  refine b_T rfl rfl rfl rfl rfl (o_val rfl (v_bin rfl rfl b_gtr) ?_)
  refine b_T rfl rfl rfl rfl rfl (o_val rfl (mv_val rfl rfl).2 ?_)
  by_cases hg45 : 8 < ((p0.2).length : Int)
  ·have h := ifT hg45 h
   refine b_T rfl rfl rfl rfl (decide_eq_true hg45) (o_val rfl (v_fieldAddrF fo24_1 rfl) ?_)
   refine b_T rfl rfl rfl rfl rfl (o_val rfl (v_loadF ty22 rfl (l_lit rfl rfl)) ?_)
   refine b_T rfl rfl rfl rfl rfl (o_val rfl (v_lenF rfl rfl ty22 rfl) ?_)
   refine b_T rfl rfl rfl rfl rfl (o_val rfl (v_bin rfl rfl b_leq) ?_)
   refine b_T rfl rfl rfl rfl rfl (o_val rfl (v_pickT rfl rfl rfl) ?_)
   refine bv rfl (v_pickF rfl rfl rfl) (mv rfl rfl ?_)
   by_cases hg43 : ((p0.2).length : Int) ≤ 256
   ·have h := ifT hg43 h
    refine b_F rfl rfl rfl rfl rfl (decide_eq_true hg43) ?_
    refine b_F rfl rfl rfl rfl rfl rfl ?_
    refine b_F rfl rfl rfl rfl rfl rfl ?_
    refine b_F rfl rfl rfl rfl rfl rfl ?_
    refine bv rfl (v_pickT rfl rfl rfl) (mv rfl rfl ?_)
    refine b_F rfl rfl rfl rfl rfl rfl ?_
    refine b_F rfl rfl rfl rfl rfl rfl ?_
    refine b_F rfl rfl rfl rfl rfl rfl ?_
    refine b_F rfl rfl rfl rfl rfl rfl ?_
    refine bv rfl (v_pickT rfl rfl rfl) ?_
    refine b_nil (hK _ ?_)
    exact to_L ⟨true, (), h, rfl⟩
   have h := ifF hg43 h
   refine b_T rfl rfl rfl rfl (decide_eq_false hg43) (o_val rfl (v_fieldAddrF fo24_0 rfl) ?_)
   refine b_T rfl rfl rfl rfl rfl (o_val rfl (v_loadF ty22 rfl (l_lit rfl rfl)) ?_)
   refine b_T rfl rfl rfl rfl rfl (o_val rfl (v_lenF rfl rfl ty22 rfl) ?_)
   refine b_T rfl rfl rfl rfl rfl (o_val rfl (v_bin rfl rfl b_gtr) ?_)
   refine bv rfl (v_pickF rfl rfl rfl) (mv rfl rfl ?_)
   by_cases hg42 : 259 < ((p0.1).length : Int)
   ·have h := ifT hg42 h
    refine b_F rfl rfl rfl rfl rfl (decide_eq_true hg42) ?_
    refine b_F rfl rfl rfl rfl rfl rfl ?_
    refine b_F rfl rfl rfl rfl rfl rfl ?_
    refine b_F rfl rfl rfl rfl rfl rfl ?_
    refine bv rfl (v_pickT rfl rfl rfl) ?_
    refine b_nil (hK _ ?_)
    exact to_L ⟨true, (), h, rfl⟩
   have h := ifF hg42 h
   refine b_T rfl rfl rfl rfl (decide_eq_false hg42) (o_val rfl (v_fieldAddrF fo24_1 rfl) ?_)
   refine b_T rfl rfl rfl rfl rfl (o_val rfl (v_loadF ty22 rfl (l_lit rfl rfl)) ?_)
   refine b_T rfl rfl rfl rfl rfl (o_val rfl (v_lenF rfl rfl ty22 rfl) ?_)
   refine b_T rfl rfl rfl rfl rfl (o_val rfl (v_bin rfl rfl b_gtr) ?_)
   refine bv rfl (v_pickF rfl rfl rfl) ?_
   refine b_nil (hK _ ?_)
   exact to_L ⟨decide (259 < ((p0.2).length : Int)), (), h, rfl⟩
  have h := ifF hg45 h
  refine b_F rfl rfl rfl rfl rfl (decide_eq_false hg45) ?_
  refine b_F rfl rfl rfl rfl rfl rfl ?_
  refine b_F rfl rfl rfl rfl rfl rfl ?_
  refine b_F rfl rfl rfl rfl rfl rfl ?_
  refine b_T rfl rfl rfl rfl rfl (o_val rfl (v_pickF rfl rfl rfl) ?_)
  refine bv rfl (v_pickF rfl rfl rfl) (mv rfl rfl ?_)
  refine b_T rfl rfl rfl rfl rfl (o_val rfl (v_fieldAddrF fo24_0 rfl) ?_)
  refine b_T rfl rfl rfl rfl rfl (o_val rfl (v_loadF ty22 rfl (l_lit rfl rfl)) ?_)
  refine b_T rfl rfl rfl rfl rfl (o_val rfl (v_lenF rfl rfl ty22 rfl) ?_)
  refine b_T rfl rfl rfl rfl rfl (o_val rfl (v_bin rfl rfl b_gtr) ?_)
  refine bv rfl (v_pickF rfl rfl rfl) (mv rfl rfl ?_)
  by_cases hg44 : 259 < ((p0.1).length : Int)
  ·have h := ifT hg44 h
   refine b_F rfl rfl rfl rfl rfl (decide_eq_true hg44) ?_
   refine b_F rfl rfl rfl rfl rfl rfl ?_
   refine b_F rfl rfl rfl rfl rfl rfl ?_
   refine b_F rfl rfl rfl rfl rfl rfl ?_
   refine bv rfl (v_pickT rfl rfl rfl) ?_
   refine b_nil (hK _ ?_)
   exact to_L ⟨true, (), h, rfl⟩
  have h := ifF hg44 h
  refine b_T rfl rfl rfl rfl (decide_eq_false hg44) (o_val rfl (v_fieldAddrF fo24_1 rfl) ?_)
  refine b_T rfl rfl rfl rfl rfl (o_val rfl (v_loadF ty22 rfl (l_lit rfl rfl)) ?_)
  refine b_T rfl rfl rfl rfl rfl (o_val rfl (v_lenF rfl rfl ty22 rfl) ?_)
  refine b_T rfl rfl rfl rfl rfl (o_val rfl (v_bin rfl rfl b_gtr) ?_)
  refine bv rfl (v_pickF rfl rfl rfl) ?_
  refine b_nil (hK _ ?_)
  exact to_L ⟨decide (259 < ((p0.2).length : Int)), (), h, rfl⟩
 have h := ifF hg51 h
 refine b_F rfl rfl rfl rfl rfl (decide_eq_false hg51) ?_
 refine b_F rfl rfl rfl rfl rfl rfl ?_
 refine b_F rfl rfl rfl rfl rfl rfl ?_
 refine b_F rfl rfl rfl rfl rfl rfl ?_
 refine bv rfl (v_pickF rfl rfl rfl) (mv rfl rfl ?_)
 refine b_T rfl rfl rfl rfl rfl (o_val rfl (v_fieldAddrF fo24_1 rfl) ?_)
 refine b_T rfl rfl rfl rfl rfl (o_val rfl (v_loadF ty22 rfl (l_lit rfl rfl)) ?_)
 refine b_T rfl rfl rfl rfl rfl (o_val rfl (v_lenF rfl rfl ty22 rfl) ?_)
 refine b_T rfl rfl rfl rfl rfl (o_val rfl (v_bin rfl rfl b_gtr) ?_)
 refine b_T rfl rfl rfl rfl rfl (o_val rfl (mv_val rfl rfl).2 ?_)
 by_cases hg50 : 8 < ((p0.2).length : Int)
 ·have h := ifT hg50 h
  refine b_T rfl rfl rfl rfl (decide_eq_true hg50) (o_val rfl (v_fieldAddrF fo24_1 rfl) ?_)
  refine b_T rfl rfl rfl rfl rfl (o_val rfl (v_loadF ty22 rfl (l_lit rfl rfl)) ?_)
  refine b_T rfl rfl rfl rfl rfl (o_val rfl (v_lenF rfl rfl ty22 rfl) ?_)
  refine b_T rfl rfl rfl rfl rfl (o_val rfl (v_bin rfl rfl b_leq) ?_)
  refine b_T rfl rfl rfl rfl rfl (o_val rfl (v_pickT rfl rfl rfl) ?_)
  refine bv rfl (v_pickF rfl rfl rfl) (mv rfl rfl ?_)
  by_cases hg48 : ((p0.2).length : Int) ≤ 256
  ·have h := ifT hg48 h
   refine b_F rfl rfl rfl rfl rfl (decide_eq_true hg48) ?_
   refine b_F rfl rfl rfl rfl rfl rfl ?_
   refine b_F rfl rfl rfl rfl rfl rfl ?_
   refine b_F rfl rfl rfl rfl rfl rfl ?_
   refine bv rfl (v_pickT rfl rfl rfl) (mv rfl rfl ?_)
   refine b_F rfl rfl rfl rfl rfl rfl ?_
   refine b_F rfl rfl rfl rfl rfl rfl ?_
   refine b_F rfl rfl rfl rfl rfl rfl ?_
   refine b_F rfl rfl rfl rfl rfl rfl ?_
   refine bv rfl (v_pickT rfl rfl rfl) ?_
   refine b_nil (hK _ ?_)
   exact to_L ⟨true, (), h, rfl⟩
  have h := ifF hg48 h
  refine b_T rfl rfl rfl rfl (decide_eq_false hg48) (o_val rfl (v_fieldAddrF fo24_0 rfl) ?_)
  refine b_T rfl rfl rfl rfl rfl (o_val rfl (v_loadF ty22 rfl (l_lit rfl rfl)) ?_)
  refine b_T rfl rfl rfl rfl rfl (o_val rfl (v_lenF rfl rfl ty22 rfl) ?_)
  refine b_T rfl rfl rfl rfl rfl (o_val rfl (v_bin rfl rfl b_gtr) ?_)
  refine bv rfl (v_pickF rfl rfl rfl) (mv rfl rfl ?_)
  by_cases hg47 : 259 < ((p0.1).length : Int)
  ·have h := ifT hg47 h
   refine b_F rfl rfl rfl rfl rfl (decide_eq_true hg47) ?_
   refine b_F rfl rfl rfl rfl rfl rfl ?_
   refine b_F rfl rfl rfl rfl rfl rfl ?_
   refine b_F rfl rfl rfl rfl rfl rfl ?_
   refine bv rfl (v_pickT rfl rfl rfl) ?_
   refine b_nil (hK _ ?_)
   exact to_L ⟨true, (), h, rfl⟩
  have h := ifF hg47 h
  refine b_T rfl rfl rfl rfl (decide_eq_false hg47) (o_val rfl (v_fieldAddrF fo24_1 rfl) ?_)
  refine b_T rfl rfl rfl rfl rfl (o_val rfl (v_loadF ty22 rfl (l_lit rfl rfl)) ?_)
  refine b_T rfl rfl rfl rfl rfl (o_val rfl (v_lenF rfl rfl ty22 rfl) ?_)
  refine b_T rfl rfl rfl rfl rfl (o_val rfl (v_bin rfl rfl b_gtr) ?_)
  refine bv rfl (v_pickF rfl rfl rfl) ?_
  refine b_nil (hK _ ?_)
  exact to_L ⟨decide (259 < ((p0.2).length : Int)), (), h, rfl⟩
 have h := ifF hg50 h
 refine b_F rfl rfl rfl rfl rfl (decide_eq_false hg50) ?_
 refine b_F rfl rfl rfl rfl rfl rfl ?_
 refine b_F rfl rfl rfl rfl rfl rfl ?_
 refine b_F rfl rfl rfl rfl rfl rfl ?_
 refine b_T rfl rfl rfl rfl rfl (o_val rfl (v_pickF rfl rfl rfl) ?_)
 refine bv rfl (v_pickF rfl rfl rfl) (mv rfl rfl ?_)
 refine b_T rfl rfl rfl rfl rfl (o_val rfl (v_fieldAddrF fo24_0 rfl) ?_)
 refine b_T rfl rfl rfl rfl rfl (o_val rfl (v_loadF ty22 rfl (l_lit rfl rfl)) ?_)
 refine b_T rfl rfl rfl rfl rfl (o_val rfl (v_lenF rfl rfl ty22 rfl) ?_)
 refine b_T rfl rfl rfl rfl rfl (o_val rfl (v_bin rfl rfl b_gtr) ?_)
 refine bv rfl (v_pickF rfl rfl rfl) (mv rfl rfl ?_)
 by_cases hg49 : 259 < ((p0.1).length : Int)
 ·have h := ifT hg49 h
  refine b_F rfl rfl rfl rfl rfl (decide_eq_true hg49) ?_
  refine b_F rfl rfl rfl rfl rfl rfl ?_
  refine b_F rfl rfl rfl rfl rfl rfl ?_
  refine b_F rfl rfl rfl rfl rfl rfl ?_
  refine bv rfl (v_pickT rfl rfl rfl) ?_
  refine b_nil (hK _ ?_)
  exact to_L ⟨true, (), h, rfl⟩
 have h := ifF hg49 h
 refine b_T rfl rfl rfl rfl (decide_eq_false hg49) (o_val rfl (v_fieldAddrF fo24_1 rfl) ?_)
 refine b_T rfl rfl rfl rfl rfl (o_val rfl (v_loadF ty22 rfl (l_lit rfl rfl)) ?_)
 refine b_T rfl rfl rfl rfl rfl (o_val rfl (v_lenF rfl rfl ty22 rfl) ?_)
 refine b_T rfl rfl rfl rfl rfl (o_val rfl (v_bin rfl rfl b_gtr) ?_)
 refine bv rfl (v_pickF rfl rfl rfl) ?_
 refine b_nil (hK _ ?_)
 exact to_L ⟨decide (259 < ((p0.2).length : Int)), (), h, rfl⟩
theorem w_ref11_Great {p0 : TLabelsStatesEdges} {r : Bool} (h : m_ref11_Great p0 = some r) : Pure Tryz.prog 45 [gA p0] (· = HV.bool r) := by
 unfold m_ref11_Great at h
 refine Pure.of_body Tryz.func45 rfl rfl (lb rfl) fun hf => ?_
 unfold Tryz.f45
 dsimp only [enumS, Nat.reduceAdd]
 refine AW.rgs rfl fun K hK => b_op rfl (o_box rfl rfl rfl ?_)
 refine mv rfl rfl ?_
 refine bf hK ⟨[(1, gF p0)], []⟩ ?_
 refine AW.seqJ h (S := Bool) (V := Unit) (fun a v => ⟨[(2, .bool a)], []⟩) (fun a1 w2 h => ?_) (fun k3 h => ?_)
 ·refine AW.ret ?_
  have h := Option.some.inj h
  subst h
  exact ret_pure (hs := [.bool a1]) (.inr rfl) (resT rfl rfl) rfl trivial
 refine AW.rg rfl fun K hK => bv rfl (v_fieldAddrF fo27_1 rfl) (bv rfl (v_loadF ty3 rfl (l_lit rfl rfl)) (bv rfl (v_bin rfl rfl b_gtr) (mv rfl rfl ?_)))
 by_cases hg9 : 8 < p0.2.1
 ·have h := ifT hg9 h
  refine b_T rfl rfl rfl rfl (decide_eq_true hg9) (o_val rfl (v_fieldAddrF fo27_1 rfl) ?_)
  refine b_T rfl rfl rfl rfl rfl (o_val rfl (v_loadF ty3 rfl (l_lit rfl rfl)) ?_)
  refine b_T rfl rfl rfl rfl rfl (o_val rfl (v_bin rfl rfl b_leq) ?_)
  refine bv rfl (v_pickT rfl rfl rfl) (mv rfl rfl ?_)
  by_cases hg6 : p0.2.1 ≤ 64
  ·have h := ifT hg6 h
   refine b_F rfl rfl rfl rfl rfl (decide_eq_true hg6) ?_
   refine b_F rfl rfl rfl rfl rfl rfl ?_
   refine b_F rfl rfl rfl rfl rfl rfl ?_
   refine b_F rfl rfl rfl rfl rfl rfl ?_
   refine b_F rfl rfl rfl rfl rfl rfl ?_
   refine b_U rfl rfl rfl rfl rfl ?_
   refine b_U rfl rfl rfl rfl rfl ?_
   refine b_U rfl rfl rfl rfl rfl ?_
   refine b_U rfl rfl rfl rfl rfl ?_
   refine b_F rfl rfl rfl rfl rfl rfl ?_
   refine bv rfl (v_pickT rfl rfl rfl) (mv rfl rfl ?_)
   refine b_F rfl rfl rfl rfl rfl rfl ?_
   refine b_F rfl rfl rfl rfl rfl rfl ?_
   refine b_F rfl rfl rfl rfl rfl rfl ?_
   refine b_F rfl rfl rfl rfl rfl rfl ?_
   refine bv rfl (v_pickT rfl rfl rfl) (mv rfl rfl ?_)
   refine b_nil (hK _ ?_)
   exact to_L ⟨true, (), h, rfl⟩
  have h := ifF hg6 h
  refine b_T rfl rfl rfl rfl (decide_eq_false hg6) (o_val rfl (v_fieldAddrF fo27_2 rfl) ?_)
  refine b_T rfl rfl rfl rfl rfl (o_val rfl (v_loadF ty25 rfl (l_lit rfl rfl)) ?_)
  refine b_T rfl rfl rfl rfl rfl (o_val rfl (v_lenF rfl rfl ty25 rfl) ?_)
  refine b_T rfl rfl rfl rfl rfl (o_val rfl (v_bin rfl rfl b_gtr) ?_)
  refine b_T rfl rfl rfl rfl rfl (o_val rfl (mv_val rfl rfl).2 ?_)
  by_cases hg5 : 30 < ((p0.2.2).length : Int)
  ·have h := ifT hg5 h
   refine b_T rfl rfl rfl rfl (decide_eq_true hg5) (o_val rfl (v_fieldAddrF fo27_2 rfl) ?_)
   refine b_T rfl rfl rfl rfl rfl (o_val rfl (v_loadF ty25 rfl (l_lit rfl rfl)) ?_)
   refine b_T rfl rfl rfl rfl rfl (o_val rfl (v_lenF rfl rfl ty25 rfl) ?_)
   refine b_T rfl rfl rfl rfl rfl (o_val rfl (v_bin rfl rfl b_leq) ?_)
   refine b_T rfl rfl rfl rfl rfl (o_val rfl (v_pickT rfl rfl rfl) ?_)
   refine bv rfl (v_pickF rfl rfl rfl) (mv rfl rfl ?_)
   by_cases hg4 : ((p0.2.2).length : Int) ≤ 1024
   ·have h := ifT hg4 h
    refine b_F rfl rfl rfl rfl rfl (decide_eq_true hg4) ?_
    refine b_F rfl rfl rfl rfl rfl rfl ?_
    refine b_F rfl rfl rfl rfl rfl rfl ?_
    refine b_F rfl rfl rfl rfl rfl rfl ?_
    refine bv rfl (v_pickT rfl rfl rfl) (mv rfl rfl ?_)
    refine b_nil (hK _ ?_)
    exact to_L ⟨true, (), h, rfl⟩
   have h := ifF hg4 h
   refine b_T rfl rfl rfl rfl (decide_eq_false hg4) (o_val rfl (v_fieldAddrF fo27_2 rfl) ?_)
   refine b_T rfl rfl rfl rfl rfl (o_val rfl (v_loadF ty25 rfl (l_lit rfl rfl)) ?_)
   refine b_T rfl rfl rfl rfl rfl (o_val rfl (v_lenF rfl rfl ty25 rfl) ?_)
   refine b_T rfl rfl rfl rfl rfl (o_val rfl (v_bin rfl rfl b_gtr) ?_)
   refine bv rfl (v_pickF rfl rfl rfl) (mv rfl rfl ?_)
   refine b_nil (hK _ ?_)
   exact to_L ⟨decide (1027 < ((p0.2.2).length : Int)), (), h, rfl⟩
  have h := ifF hg5 h
  refine b_F rfl rfl rfl rfl rfl (decide_eq_false hg5) ?_
  refine b_F rfl rfl rfl rfl rfl rfl ?_
  refine b_F rfl rfl rfl rfl rfl rfl ?_
  refine b_F rfl rfl rfl rfl rfl rfl ?_
  refine b_T rfl rfl rfl rfl rfl (o_val rfl (v_pickF rfl rfl rfl) ?_)
  refine bv rfl (v_pickF rfl rfl rfl) (mv rfl rfl ?_)
  refine b_T rfl rfl rfl rfl rfl (o_val rfl (v_fieldAddrF fo27_2 rfl) ?_)
  refine b_T rfl rfl rfl rfl rfl (o_val rfl (v_loadF ty25 rfl (l_lit rfl rfl)) ?_)
  refine b_T rfl rfl rfl rfl rfl (o_val rfl (v_lenF rfl rfl ty25 rfl) ?_)
  refine b_T rfl rfl rfl rfl rfl (o_val rfl (v_bin rfl rfl b_gtr) ?_)
  refine bv rfl (v_pickF rfl rfl rfl) (mv rfl rfl ?_)
  refine b_nil (hK _ ?_)
  exact to_L ⟨decide (1027 < ((p0.2.2).length : Int)), (), h, rfl⟩
 have h := ifF hg9 h
 refine b_F rfl rfl rfl rfl rfl (decide_eq_false hg9) ?_
 refine b_F rfl rfl rfl rfl rfl rfl ?_
 refine b_F rfl rfl rfl rfl rfl rfl ?_
 refine bv rfl (v_pickF rfl rfl rfl) (mv rfl rfl ?_)
 refine b_T rfl rfl rfl rfl rfl (o_val rfl (v_fieldAddrF fo27_2 rfl) ?_)
 refine b_T rfl rfl rfl rfl rfl (o_val rfl (v_loadF ty25 rfl (l_lit rfl rfl)) ?_)
 refine b_T rfl rfl rfl rfl rfl (o_val rfl (v_lenF rfl rfl ty25 rfl) ?_)
 refine b_T rfl rfl rfl rfl rfl (o_val rfl (v_bin rfl rfl b_gtr) ?_)
 refine b_T rfl rfl rfl rfl rfl (o_val rfl (mv_val rfl rfl).2 ?_)
 by_cases hg8 : 30 < ((p0.2.2).length : Int)
 ·have h := ifT hg8 h
  refine b_T rfl rfl rfl rfl (decide_eq_true hg8) (o_val rfl (v_fieldAddrF fo27_2 rfl) ?_)
  refine b_T rfl rfl rfl rfl rfl (o_val rfl (v_loadF ty25 rfl (l_lit rfl rfl)) ?_)
  refine b_T rfl rfl rfl rfl rfl (o_val rfl (v_lenF rfl rfl ty25 rfl) ?_)
  refine b_T rfl rfl rfl rfl rfl (o_val rfl (v_bin rfl rfl b_leq) ?_)
  refine b_T rfl rfl rfl rfl rfl (o_val rfl (v_pickT rfl rfl rfl) ?_)
  refine bv rfl (v_pickF rfl rfl rfl) (mv rfl rfl ?_)
  by_cases hg7 : ((p0.2.2).length : Int) ≤ 1024
  ·have h := ifT hg7 h
   refine b_F rfl rfl rfl rfl rfl (decide_eq_true hg7) ?_
   refine b_F rfl rfl rfl rfl rfl rfl ?_
   refine b_F rfl rfl rfl rfl rfl rfl ?_
   refine b_F rfl rfl rfl rfl rfl rfl ?_
   refine bv rfl (v_pickT rfl rfl rfl) (mv rfl rfl ?_)
   refine b_nil (hK _ ?_)
   exact to_L ⟨true, (), h, rfl⟩
  have h := ifF hg7 h
  refine b_T rfl rfl rfl rfl (decide_eq_false hg7) (o_val rfl (v_fieldAddrF fo27_2 rfl) ?_)
  refine b_T rfl rfl rfl rfl rfl (o_val rfl (v_loadF ty25 rfl (l_lit rfl rfl)) ?_)
  refine b_T rfl rfl rfl rfl rfl (o_val rfl (v_lenF rfl rfl ty25 rfl) ?_)
  refine b_T rfl rfl rfl rfl rfl (o_val rfl (v_bin rfl rfl b_gtr) ?_)
  refine bv rfl (v_pickF rfl rfl rfl) (mv rfl rfl ?_)
  refine b_nil (hK _ ?_)
  exact to_L ⟨decide (1027 < ((p0.2.2).length : Int)), (), h, rfl⟩
 have h := ifF hg8 h
 refine b_F rfl rfl rfl rfl rfl (decide_eq_false hg8) ?_
 refine b_F rfl rfl rfl rfl rfl rfl ?_
 refine b_F rfl rfl rfl rfl rfl rfl ?_
 refine b_F rfl rfl rfl rfl rfl rfl ?_
 refine b_T rfl rfl rfl rfl rfl (o_val rfl (v_pickF rfl rfl rfl) ?_)
 refine bv rfl (v_pickF rfl rfl rfl) (mv rfl rfl ?_)
 refine b_T rfl rfl rfl rfl rfl (o_val rfl (v_fieldAddrF fo27_2 rfl) ?_)
 refine b_T rfl rfl rfl rfl rfl (o_val rfl (v_loadF ty25 rfl (l_lit rfl rfl)) ?_)
 refine b_T rfl rfl rfl rfl rfl (o_val rfl (v_lenF rfl rfl ty25 rfl) ?_)
 refine b_T rfl rfl rfl rfl rfl (o_val rfl (v_bin rfl rfl b_gtr) ?_)
 refine bv rfl (v_pickF rfl rfl rfl) (mv rfl rfl ?_)
 refine b_nil (hK _ ?_)
 exact to_L ⟨decide (1027 < ((p0.2.2).length : Int)), (), h, rfl⟩
theorem w_law31_great {p0 : TWordsMerges} {p1 : TLabelsStatesEdges} {r : Bool} (h : m_law31_great p0 p1 = some r) : Pure Tryz.prog 29 [jA p0, gA p1] (· = HV.bool r) := by
 unfold m_law31_great at h
 refine Pure.of_body Tryz.func29 rfl rfl (lb rfl) fun hf => ?_
 unfold Tryz.f29
 dsimp only [enumS, Nat.reduceAdd]
 refine AW.rgs rfl fun K hK => b_op rfl (o_box rfl rfl rfl ?_)
 refine b_op rfl (o_box rfl rfl rfl ?_)
 refine mv rfl rfl ?_
 refine bf hK ⟨[(2, jF p0), (3, gF p1)], []⟩ ?_
 refine AW.seqJ h (S := Bool) (V := Unit) (fun a v => ⟨[(4, .bool a)], []⟩) (fun a1 w2 h => ?_) (fun k3 h => ?_)
 ·refine AW.ret ?_
  have h := Option.some.inj h
  subst h
  exact ret_pure (hs := [.bool a1]) (.inr rfl) (resT rfl rfl) rfl trivial
 refine AW.rg rfl fun K hK => bv rfl (v_loadF ty24 rfl (l_litA rfl (lb rfl) rfl)) ?_
 obtain ⟨x4, h5, h⟩ := bS h
 refine b_op rfl (o_call rfl rfl rfl rfl (ACallD.pure0 (w_ref31_Great h5)) ?_)
 refine mv rfl rfl ?_
 by_cases hg8 : x4 = true
 ·have h := ifT hg8 h
  refine b_F rfl rfl rfl rfl rfl hg8 ?_
  refine b_F rfl rfl rfl rfl rfl rfl ?_
  refine bv rfl (v_pickT rfl rfl rfl) (mv rfl rfl ?_)
  refine b_nil (hK _ ?_)
  exact to_L ⟨true, (), h, rfl⟩
 have h := ifF hg8 h
 refine b_T rfl rfl rfl rfl (bF hg8) (o_val rfl (v_loadF ty27 rfl (l_litA rfl (lb rfl) rfl)) ?_)
 obtain ⟨x6, h7, h⟩ := bS h
 refine b_T rfl rfl rfl rfl rfl (o_call rfl rfl rfl rfl (ACallD.pure0 (w_ref11_Great h7)) ?_)
 refine bv rfl (v_pickF rfl rfl rfl) (mv rfl rfl ?_)
 refine b_nil (hK _ ?_)
 exact to_L ⟨x6, (), h, rfl⟩
theorem w_ref07_Long {p0 : List UInt8} {p1 : Int} {r : Bool} (h : m_ref07_Long p0 p1 = some r) : Pure Tryz.prog 30 [.str p0, hI p1] (· = HV.bool r) := by
 unfold m_ref07_Long at h
 refine Pure.of_body Tryz.func30 rfl rfl (lb rfl) fun hf => ?_
 unfold Tryz.f30
 dsimp only [enumS, Nat.reduceAdd]
 refine AW.rgs rfl fun K hK => mv rfl rfl ?_
 refine bf hK ⟨[(0, .str p0), (1, hI p1)], []⟩ ?_
 refine AW.seqJ h (S := Bool) (V := Unit) (fun a v => ⟨[(4, .bool a)], []⟩) (fun a1 w2 h => ?_) (fun k3 h => ?_)
 ·refine AW.ret ?_
  have h := Option.some.inj h
  subst h
  exact ret_pure (hs := [.bool a1]) (.inr rfl) (resT rfl rfl) rfl trivial
 refine AW.rg rfl fun K hK => mv rfl rfl (bv rfl (v_lenS rfl rfl ty9 rfl) (mv rfl rfl (bv rfl (v_bin rfl rfl b_gtr) (mv rfl rfl ?_))))
 by_cases hg5 : p1 < ((p0).length : Int)
 ·have h := ifT hg5 h
  refine b_T rfl rfl rfl rfl (decide_eq_true hg5) (o_val rfl (mv_val rfl rfl).2 ?_)
  refine b_T rfl rfl rfl rfl rfl (o_val rfl (v_lenS rfl rfl ty9 rfl) ?_)
  refine b_T rfl rfl rfl rfl rfl (o_val rfl (v_bin rfl rfl b_leq) ?_)
  refine bv rfl (v_pickT rfl rfl rfl) (mv rfl rfl ?_)
  by_cases hg4 : ((p0).length : Int) ≤ 65536
  ·have h := ifT hg4 h
   refine b_F rfl rfl rfl rfl rfl (decide_eq_true hg4) ?_
   refine b_F rfl rfl rfl rfl rfl rfl ?_
   refine b_F rfl rfl rfl rfl rfl rfl ?_
   refine bv rfl (v_pickT rfl rfl rfl) (mv rfl rfl ?_)
   refine b_nil (hK _ ?_)
   exact to_L ⟨true, (), h, rfl⟩
  have h := ifF hg4 h
  refine b_T rfl rfl rfl rfl (decide_eq_false hg4) (o_val rfl (mv_val rfl rfl).2 ?_)
  refine b_T rfl rfl rfl rfl rfl (o_val rfl (v_lenS rfl rfl ty9 rfl) ?_)
  refine b_T rfl rfl rfl rfl rfl (o_val rfl (v_bin rfl rfl b_gtr) ?_)
  refine bv rfl (v_pickF rfl rfl rfl) (mv rfl rfl ?_)
  refine b_nil (hK _ ?_)
  exact to_L ⟨decide (65544 < ((p0).length : Int)), (), h, rfl⟩
 have h := ifF hg5 h
 refine b_F rfl rfl rfl rfl rfl (decide_eq_false hg5) ?_
 refine b_F rfl rfl rfl rfl rfl rfl ?_
 refine b_F rfl rfl rfl rfl rfl rfl ?_
 refine bv rfl (v_pickF rfl rfl rfl) (mv rfl rfl ?_)
 refine b_T rfl rfl rfl rfl rfl (o_val rfl (mv_val rfl rfl).2 ?_)
 refine b_T rfl rfl rfl rfl rfl (o_val rfl (v_lenS rfl rfl ty9 rfl) ?_)
 refine b_T rfl rfl rfl rfl rfl (o_val rfl (v_bin rfl rfl b_gtr) ?_)
 refine bv rfl (v_pickF rfl rfl rfl) (mv rfl rfl ?_)
 refine b_nil (hK _ ?_)
 exact to_L ⟨decide (65544 < ((p0).length : Int)), (), h, rfl⟩
theorem w_ref11_All {p0 : TLabelsStatesEdges} {r : (List (Int))} (h : m_ref11_All p0 = some r) : Pure Tryz.prog 153 [gA p0] (· = slE eInt r) := by
 unfold m_ref11_All at h
 refine Pure.of_body Tryz.func153 rfl rfl (lb rfl) fun hf => ?_
 unfold Tryz.f153
 dsimp only [enumS, Nat.reduceAdd]
 refine AW.rgs rfl fun K hK => b_op rfl (o_box rfl rfl rfl ?_)
 refine mv rfl rfl ?_
 refine bf hK ⟨[(1, gF p0)], []⟩ ?_
 refine AW.rgs rfl fun K hK => b_op rfl (o_bslM (fid := 153) 153005 rfl rfl rfl (as_of (cs := []) ty31 ty3 rfl rfl rfl rfl rfl) (fun v1 => ?_))
 refine mv rfl rfl ?_
 refine bf hK ⟨[(1, gF p0), (3, .ar 153005 v1 eInt.k 0 0)], [(153005, v1, .arr eInt.k 3 [])]⟩ ?_
 refine AW.seq ?_
 refine AW.rgs rfl fun K hK => mv rfl rfl ?_
 refine bf hK ⟨[(1, gF p0), (3, .ar 153005 v1 eInt.k 0 0), (4, hI 0)], [(153005, v1, .arr eInt.k 3 [])]⟩ ?_
 refine AW.lpX h (by first | exact up_then | exact up_to) (S := Int × (List Int)) (V := Nat) (fun a v => ⟨[(1, gF p0), (3, .ar 153005 v eInt.k 0 ((a.2).length)), (4, hI a.1)], [(153005, v, .arr eInt.k 3 (eInt.E a.2))]⟩) ?_ (X := (List Int)) (W := Nat) (fun a v => ⟨[(3, .ar 153005 v eInt.k 0 ((a).length))], [(153005, v, .arr eInt.k 3 (eInt.E a))]⟩) (fun a8 w9 h => ?_) (fun a2 w3 st4 h => ?_)
 ·exact to_L ⟨v1, rfl⟩
 ·refine AW.rgs rfl fun K hK => mv rfl rfl (mv rfl rfl ?_)
  refine bf hK ⟨[(2, .ar 153005 w9 eInt.k 0 ((a8).length))], [(153005, w9, .arr eInt.k 3 (eInt.E a8))]⟩ ?_
  refine AW.to (to_frz 2 [(153005, w9, .arr eInt.k 3 (eInt.E a8))] ⟨[(2, slE eInt a8)], []⟩ ⟨⟨_, rfl, frz_slE eInt (l := a8) rfl fun _ _ => rfl⟩, trivial⟩ trivial ⟨rfl, trivial⟩ ⟨rfl, trivial⟩ ?_)
  refine AW.ret ?_
  have h := Option.some.inj h
  subst h
  exact ret_pure (hs := [slE eInt a8]) (.inr rfl) (resT rfl rfl) rfl (clean_slE fun _ _ => ⟨trivial, trivial⟩)
 refine AW.seq ?_
 refine AW.rgs rfl fun K hK => mv rfl rfl (bv rfl (v_fieldAddrF fo27_1 rfl) (bv rfl (v_loadF ty3 rfl (l_lit rfl rfl)) (bv rfl (v_bin rfl rfl b_lss) ?_)))
 refine bf hK ⟨[(1, gF p0), (3, .ar 153005 w3 eInt.k 0 ((a2.2).length)), (4, hI a2.1), (9, .bool (decide (a2.1 < p0.2.1)))], [(153005, w3, .arr eInt.k 3 (eInt.E a2.2))]⟩ ?_
 refine AW.cond rfl (fun hc => ?_) (fun hc => ?_)
 ·obtain ⟨hc, h⟩ := cT hc h
  refine AW.skip ?_
  refine AW.seq (AW.block ?_)
  refine AW.rg rfl fun K hK => mv rfl rfl (mv rfl rfl ?_)
  refine b_op rfl (o_bsl rfl rfl (as_of (cs := [hI a2.1]) ty31 ty3 rfl rfl rfl rfl rfl) ?_)
  obtain ⟨h7, h⟩ := ifN h
  refine b_op rfl (o_appE eInt (l := a2.2) (m := [a2.1]) rfl rfl ty31 ty31 ty3 rfl rfl rfl rfl rfl h7 (fun v6 => ?_))
  refine mv rfl rfl ?_
  refine bf hK ⟨[(1, gF p0), (3, .ar 153005 v6 eInt.k 0 ((a2.2 ++ [a2.1]).length)), (4, hI a2.1)], [(153005, v6, .arr eInt.k 3 (eInt.E (a2.2 ++ [a2.1])))]⟩ ?_
  refine AW.rg rfl fun K hK => mv rfl rfl (bv rfl (v_bin rfl rfl b_add) (mv rfl rfl ?_))
  refine b_nil (hK _ ?_)
  exact to_L ⟨(IntKind.wrap .i64 (a2.1 + 1), a2.2 ++ [a2.1]), v6, h, rfl⟩
 obtain ⟨hc, h⟩ := cF hc h
 refine AW.exit ?_
 exact to_L ⟨a2.2, w3, h, rfl⟩
theorem w_ref07_Digit {p0 : Int} {r : Int} (h : m_ref07_Digit p0 = some r) : Pure Tryz.prog 204 [.int .u8 p0] (· = hI r) := by
 unfold m_ref07_Digit at h
 refine Pure.of_body Tryz.func204 rfl rfl (lb rfl) fun hf => ?_
 unfold Tryz.f204
 dsimp only [enumS, Nat.reduceAdd]
 refine AW.rgs rfl fun K hK => mv rfl rfl ?_
 refine bf hK ⟨[(0, .int .u8 p0)], []⟩ ?_
 refine AW.seq ?_
 refine AW.rgs rfl fun K hK => mv rfl rfl ?_
 refine bf hK ⟨[(0, .int .u8 p0), (3, hI 0)], []⟩ ?_
 refine AW.lpR h (by first | exact up_then | exact up_to) (S := Int) (V := Unit) (fun a v => ⟨[(0, .int .u8 p0), (3, hI a)], []⟩) ?_ (X := Unit) (W := Unit) (fun a v => ⟨[], []⟩) (fun a7 w8 h => ?_) (fun a1 w2 st3 h hr4=> ?_)
 ·exact to_L ⟨(), rfl⟩
 ·refine AW.rgs rfl fun K hK => mv rfl rfl ?_
  refine bf hK ⟨[(2, hI (-1))], []⟩ ?_
  refine AW.ret ?_
  have h := Option.some.inj h
  subst h
  exact ret_pure (hs := [hI (-1)]) (.inr rfl) (resT rfl rfl) rfl trivial
 refine AW.seq ?_
 refine AW.rgs rfl fun K hK => mv rfl rfl (bv rfl (v_bin rfl rfl b_lss) ?_)
 refine bf hK ⟨[(0, .int .u8 p0), (3, hI a1), (5, .bool (decide (a1 < 16)))], []⟩ ?_
 refine AW.cond rfl (fun hc => ?_) (fun hc => ?_)
 ·obtain ⟨hc, h⟩ := cT hc h
  refine AW.skip ?_
  refine AW.seq (AW.block ?_)
  refine AW.rgs rfl fun K hK => mv rfl rfl ?_
  obtain ⟨x5, h6, h⟩ := bS h
  refine bv rfl (v_idxS ty9 rfl rfl h6) (mv rfl rfl (bv rfl (v_bin rfl rfl b_eql) ?_))
  refine bf hK ⟨[(0, .int .u8 p0), (3, hI a1), (11, .bool (decide ((x5.toNat : Int) = p0)))], []⟩ ?_
  refine AW.cond rfl (fun hc => ?_) (fun hc => ?_)
  ·obtain ⟨hc, h⟩ := cT hc h
   refine AW.rgs rfl fun K hK => mv rfl rfl (mv rfl rfl ?_)
   refine bf hK ⟨[(2, hI a1)], []⟩ ?_
   have h := hr4 _ h
   refine AW.ret ?_
   have h := Option.some.inj h
   subst h
   exact ret_pure (hs := [hI a1]) (.inr rfl) (resT rfl rfl) rfl trivial
  obtain ⟨hc, h⟩ := cF hc h
  refine AW.skip ?_
  refine AW.rg rfl fun K hK => mv rfl rfl (bv rfl (v_bin rfl rfl b_add) (mv rfl rfl ?_))
  refine b_nil (hK _ ?_)
  exact to_L ⟨IntKind.wrap .i64 (a1 + 1), (), h, rfl⟩
 obtain ⟨hc, h⟩ := cF hc h
 refine AW.exit ?_
 exact to_L ⟨(), (), h, rfl⟩
theorem w_ref07_Check {p0 : Int} {p1 : List UInt8} {r : Int} (h : m_ref07_Check p0 p1 = some r) : Pure Tryz.prog 181 [hI p0, .str p1] (· = hI r) := by
 unfold m_ref07_Check at h
 refine Pure.of_body Tryz.func181 rfl rfl (lb rfl) fun hf => ?_
 unfold Tryz.f181
 dsimp only [enumS, Nat.reduceAdd]
 refine AW.rgs rfl fun K hK => mv rfl rfl ?_
 refine bf hK ⟨[(0, hI p0), (1, .str p1)], []⟩ ?_
 refine AW.seq ?_
 refine AW.seqJ h (S := Bool) (V := Unit) (fun a v => ⟨[(0, hI p0), (1, .str p1), (12, .bool a)], []⟩) (fun a1 w2 h => ?_) (fun k3 h => ?_)
 ·refine AW.cond rfl (fun hc => ?_) (fun hc => ?_)
  ·have h := ifT hc h
   refine AW.rgs rfl fun K hK => mv rfl rfl ?_
   refine bf hK ⟨[(4, hI 12)], []⟩ ?_
   refine AW.ret ?_
   have h := Option.some.inj h
   subst h
   exact ret_pure (hs := [hI 12]) (.inr rfl) (resT rfl rfl) rfl trivial
  have h := ifF (bF' hc) h
  refine AW.skip ?_
  refine AW.seq ?_
  refine AW.rgs rfl fun K hK => mv rfl rfl (bv rfl (v_lenS rfl rfl ty9 rfl) (bv rfl (v_bin rfl rfl b_gtr) ?_))
  refine bf hK ⟨[(0, hI p0), (1, .str p1), (15, .bool (decide (65536 < ((p1).length : Int))))], []⟩ ?_
  refine AW.cond rfl (fun hc => ?_) (fun hc => ?_)
  ·obtain ⟨hc, h⟩ := cT hc h
   refine AW.rgs rfl fun K hK => mv rfl rfl ?_
   refine bf hK ⟨[(4, hI 4)], []⟩ ?_
   refine AW.ret ?_
   have h := Option.some.inj h
   subst h
   exact ret_pure (hs := [hI 4]) (.inr rfl) (resT rfl rfl) rfl trivial
  obtain ⟨hc, h⟩ := cF hc h
  refine AW.skip ?_
  refine AW.seq ?_
  refine AW.rgs rfl fun K hK => mv rfl rfl ?_
  refine bf hK ⟨[(0, hI p0), (1, .str p1), (5, hI 0)], []⟩ ?_
  refine AW.lpR h (by first | exact up_then | exact up_to) (S := Int) (V := Unit) (fun a v => ⟨[(0, hI p0), (1, .str p1), (5, hI a)], []⟩) ?_ (X := Unit) (W := Unit) (fun a v => ⟨[], []⟩) (fun a16 w17 h => ?_) (fun a4 w5 st6 h hr7=> ?_)
  ·exact to_L ⟨(), rfl⟩
  ·refine AW.rgs rfl fun K hK => mv rfl rfl ?_
   refine bf hK ⟨[(4, hI 0)], []⟩ ?_
   refine AW.ret ?_
   have h := Option.some.inj h
   subst h
   exact ret_pure (hs := [hI 0]) (.inr rfl) (resT rfl rfl) rfl trivial
  refine AW.seq ?_
  refine AW.rgs rfl fun K hK => mv rfl rfl (mv rfl rfl (bv rfl (v_lenS rfl rfl ty9 rfl) (bv rfl (v_bin rfl rfl b_lss) ?_)))
  refine bf hK ⟨[(0, hI p0), (1, .str p1), (5, hI a4), (19, .bool (decide (a4 < ((p1).length : Int))))], []⟩ ?_
  refine AW.cond rfl (fun hc => ?_) (fun hc => ?_)
  ·obtain ⟨hc, h⟩ := cT hc h
   refine AW.skip ?_
   refine AW.seq (AW.block ?_)
   refine AW.rgs rfl fun K hK => mv rfl rfl (mv rfl rfl ?_)
   obtain ⟨x8, h9, h⟩ := bS h
   refine bv rfl (v_idxS ty9 rfl rfl h9) ?_
   obtain ⟨x10, h11, h⟩ := bS h
   refine b_op rfl (o_call rfl rfl rfl rfl (ACallD.pure0 (w_ref07_Digit h11)) ?_)
   refine mv rfl rfl ?_
   refine bf hK ⟨[(0, hI p0), (1, .str p1), (5, hI a4), (6, hI x10)], []⟩ ?_
   refine AW.seqJ h (S := Bool) (V := Unit) (fun a v => ⟨[(0, hI p0), (1, .str p1), (5, hI a4), (32, .bool a)], []⟩) (fun a12 w13 h => ?_) (fun k14 h => ?_)
   ·refine AW.cond rfl (fun hc => ?_) (fun hc => ?_)
    ·have h := ifT hc h
     refine AW.rgs rfl fun K hK => mv rfl rfl ?_
     refine bf hK ⟨[(4, hI 13)], []⟩ ?_
     have h := hr7 _ h
     refine AW.ret ?_
     have h := Option.some.inj h
     subst h
     exact ret_pure (hs := [hI 13]) (.inr rfl) (resT rfl rfl) rfl trivial
    have h := ifF (bF' hc) h
    refine AW.skip ?_
    refine AW.rg rfl fun K hK => mv rfl rfl (bv rfl (v_bin rfl rfl b_add) (mv rfl rfl ?_))
    refine b_nil (hK _ ?_)
    exact to_L ⟨IntKind.wrap .i64 (a4 + 1), (), h, rfl⟩
   refine AW.rg rfl fun K hK => mv rfl rfl (bv rfl (v_bin rfl rfl b_lss) (mv rfl rfl ?_))
   by_cases hg15 : x10 < 0
   ·have h := ifT hg15 h
    refine b_F rfl rfl rfl rfl rfl (decide_eq_true hg15) ?_
    refine b_F rfl rfl rfl rfl rfl rfl ?_
    refine b_F rfl rfl rfl rfl rfl rfl ?_
    refine bv rfl (v_pickT rfl rfl rfl) ?_
    refine b_nil (hK _ ?_)
    exact to_L ⟨true, (), h, rfl⟩
   have h := ifF hg15 h
   refine b_T rfl rfl rfl rfl (decide_eq_false hg15) (o_val rfl (mv_val rfl rfl).2 ?_)
   refine b_T rfl rfl rfl rfl rfl (o_val rfl (mv_val rfl rfl).2 ?_)
   refine b_T rfl rfl rfl rfl rfl (o_val rfl (v_bin rfl rfl b_geq) ?_)
   refine bv rfl (v_pickF rfl rfl rfl) ?_
   refine b_nil (hK _ ?_)
   exact to_L ⟨decide (p0 ≤ x10), (), h, rfl⟩
  obtain ⟨hc, h⟩ := cF hc h
  refine AW.exit ?_
  exact to_L ⟨(), (), h, rfl⟩
 refine AW.rg rfl fun K hK => mv rfl rfl (bv rfl (v_bin rfl rfl b_lss) (mv rfl rfl ?_))
 by_cases hg18 : p0 < 1
 ·have h := ifT hg18 h
  refine b_F rfl rfl rfl rfl rfl (decide_eq_true hg18) ?_
  refine b_F rfl rfl rfl rfl rfl rfl ?_
  refine bv rfl (v_pickT rfl rfl rfl) ?_
  refine b_nil (hK _ ?_)
  exact to_L ⟨true, (), h, rfl⟩
 have h := ifF hg18 h
 refine b_T rfl rfl rfl rfl (decide_eq_false hg18) (o_val rfl (mv_val rfl rfl).2 ?_)
 refine b_T rfl rfl rfl rfl rfl (o_val rfl (v_bin rfl rfl b_gtr) ?_)
 refine bv rfl (v_pickF rfl rfl rfl) ?_
 refine b_nil (hK _ ?_)
 exact to_L ⟨decide (16 < p0), (), h, rfl⟩
theorem w_ref09_Compare {p0 : TFromLabelTo} {p1 : TFromLabelTo} {r : Int} (h : m_ref09_Compare p0 p1 = some r) : Pure Tryz.prog 137 [.agg [hI p0.1, hI p0.2.1, hI p0.2.2], .agg [hI p1.1, hI p1.2.1, hI p1.2.2]] (· = hI r) := by
 unfold m_ref09_Compare at h
 refine Pure.of_body Tryz.func137 rfl rfl (lb rfl) fun hf => ?_
 unfold Tryz.f137
 dsimp only [enumS, Nat.reduceAdd]
 refine AW.rgs rfl fun K hK => b_op rfl (o_box rfl rfl rfl ?_)
 refine b_op rfl (o_box rfl rfl rfl ?_)
 refine mv rfl rfl ?_
 refine bf hK ⟨[(2, .fptr [hI p0.1, hI p0.2.1, hI p0.2.2] 0), (3, .fptr [hI p1.1, hI p1.2.1, hI p1.2.2] 0)], []⟩ ?_
 refine AW.dgs 16 follows rfl rfl fun K hK => ?_
 refine sv rfl (v_fieldAddrF fo128_0 rfl) ?_
 refine sv rfl (v_loadF ty3 rfl (l_lit rfl rfl)) ?_
 refine sv rfl (v_fieldAddrF fo128_1 rfl) ?_
 refine sv rfl (v_loadF ty3 rfl (l_lit rfl rfl)) ?_
 refine sv rfl (v_fieldAddrF fo128_2 rfl) ?_
 refine sv rfl (v_loadF ty3 rfl (l_lit rfl rfl)) ?_
 refine s_op rfl rfl (ops_bsl rfl rfl (as_of (cs := [hI p0.1, hI p0.2.1, hI p0.2.2]) ty31 ty3 rfl rfl rfl rfl rfl) ?_)
 refine sv rfl (v_fieldAddrF fo128_0 rfl) ?_
 refine sv rfl (v_loadF ty3 rfl (l_lit rfl rfl)) ?_
 refine sv rfl (v_fieldAddrF fo128_1 rfl) ?_
 refine sv rfl (v_loadF ty3 rfl (l_lit rfl rfl)) ?_
 refine sv rfl (v_fieldAddrF fo128_2 rfl) ?_
 refine sv rfl (v_loadF ty3 rfl (l_lit rfl rfl)) ?_
 refine s_op rfl rfl (ops_bsl rfl rfl (as_of (cs := [hI p1.1, hI p1.2.1, hI p1.2.2]) ty31 ty3 rfl rfl rfl rfl rfl) ?_)
 refine sm rfl rfl ?_
 refine sm rfl rfl ?_
 refine s_nil ?_
 refine bf hK ⟨[(5, slE eInt [p0.1, p0.2.1, p0.2.2]), (6, slE eInt [p1.1, p1.2.1, p1.2.2])], []⟩ ?_
 refine AW.seq ?_
 refine AW.rgs rfl fun K hK => mv rfl rfl ?_
 refine bf hK ⟨[(5, slE eInt [p0.1, p0.2.1, p0.2.2]), (6, slE eInt [p1.1, p1.2.1, p1.2.2]), (7, hI 0)], []⟩ ?_
 refine AW.lpR h (by first | exact up_then | exact up_to) (S := Int) (V := Unit) (fun a v => ⟨[(5, slE eInt [p0.1, p0.2.1, p0.2.2]), (6, slE eInt [p1.1, p1.2.1, p1.2.2]), (7, hI a)], []⟩) ?_ (X := Unit) (W := Unit) (fun a v => ⟨[], []⟩) (fun a13 w14 h => ?_) (fun a1 w2 st3 h hr4=> ?_)
 ·exact to_L ⟨(), rfl⟩
 ·refine AW.rgs rfl fun K hK => mv rfl rfl ?_
  refine bf hK ⟨[(4, hI 0)], []⟩ ?_
  refine AW.ret ?_
  have h := Option.some.inj h
  subst h
  exact ret_pure (hs := [hI 0]) (.inr rfl) (resT rfl rfl) rfl trivial
 refine AW.seq ?_
 refine AW.rgs rfl fun K hK => mv rfl rfl (bv rfl (v_bin rfl rfl b_lss) ?_)
 refine bf hK ⟨[(5, slE eInt [p0.1, p0.2.1, p0.2.2]), (6, slE eInt [p1.1, p1.2.1, p1.2.2]), (7, hI a1), (23, .bool (decide (a1 < 3)))], []⟩ ?_
 refine AW.cond rfl (fun hc => ?_) (fun hc => ?_)
 ·obtain ⟨hc, h⟩ := cT hc h
  refine AW.skip ?_
  refine AW.seq (AW.block ?_)
  refine AW.seq ?_
  refine AW.dgs 9 follows rfl rfl fun K hK => ?_
  refine sm rfl rfl ?_
  refine sm rfl rfl ?_
  obtain ⟨x5, h6, h⟩ := bS h
  refine sv rfl (v_idxF ty31 es31 rfl rfl (idx_lt h6)) ?_
  refine sv rfl (v_loadF ty3 rfl (l_cell eInt h6 (o := 0) rfl rfl)) ?_
  refine sm rfl rfl ?_
  refine sm rfl rfl ?_
  obtain ⟨x7, h8, h⟩ := bS h
  refine sv rfl (v_idxF ty31 es31 rfl rfl (idx_lt h8)) ?_
  refine sv rfl (v_loadF ty3 rfl (l_cell eInt h8 (o := 0) rfl rfl)) ?_
  refine sv rfl (v_bin rfl rfl b_lss) ?_
  refine s_nil ?_
  refine bf hK ⟨[(5, slE eInt [p0.1, p0.2.1, p0.2.2]), (6, slE eInt [p1.1, p1.2.1, p1.2.2]), (7, hI a1), (34, .bool (decide (x5 < x7)))], []⟩ ?_
  refine AW.cond rfl (fun hc => ?_) (fun hc => ?_)
  ·obtain ⟨hc, h⟩ := cT hc h
   refine AW.rgs rfl fun K hK => mv rfl rfl ?_
   refine bf hK ⟨[(4, hI (-1))], []⟩ ?_
   have h := hr4 _ h
   refine AW.ret ?_
   have h := Option.some.inj h
   subst h
   exact ret_pure (hs := [hI (-1)]) (.inr rfl) (resT rfl rfl) rfl trivial
  obtain ⟨hc, h⟩ := cF hc h
  refine AW.skip ?_
  refine AW.dgs 9 follows rfl rfl fun K hK => ?_
  refine sm rfl rfl ?_
  refine sm rfl rfl ?_
  obtain ⟨x9, h10, h⟩ := bS h
  refine sv rfl (v_idxF ty31 es31 rfl rfl (idx_lt h10)) ?_
  refine sv rfl (v_loadF ty3 rfl (l_cell eInt h10 (o := 0) rfl rfl)) ?_
  refine sm rfl rfl ?_
  refine sm rfl rfl ?_
  obtain ⟨x11, h12, h⟩ := bS h
  refine sv rfl (v_idxF ty31 es31 rfl rfl (idx_lt h12)) ?_
  refine sv rfl (v_loadF ty3 rfl (l_cell eInt h12 (o := 0) rfl rfl)) ?_
  refine sv rfl (v_bin rfl rfl b_gtr) ?_
  refine s_nil ?_
  refine bf hK ⟨[(5, slE eInt [p0.1, p0.2.1, p0.2.2]), (6, slE eInt [p1.1, p1.2.1, p1.2.2]), (7, hI a1), (43, .bool (decide (x11 < x9)))], []⟩ ?_
  refine AW.cond rfl (fun hc => ?_) (fun hc => ?_)
  ·obtain ⟨hc, h⟩ := cT hc h
   refine AW.rgs rfl fun K hK => mv rfl rfl ?_
   refine bf hK ⟨[(4, hI 1)], []⟩ ?_
   have h := hr4 _ h
   refine AW.ret ?_
   have h := Option.some.inj h
   subst h
   exact ret_pure (hs := [hI 1]) (.inr rfl) (resT rfl rfl) rfl trivial
  obtain ⟨hc, h⟩ := cF hc h
  refine AW.skip ?_
  refine AW.rg rfl fun K hK => mv rfl rfl (bv rfl (v_bin rfl rfl b_add) (mv rfl rfl ?_))
  refine b_nil (hK _ ?_)
  exact to_L ⟨IntKind.wrap .i64 (a1 + 1), (), h, rfl⟩
 obtain ⟨hc, h⟩ := cF hc h
 refine AW.exit ?_
 exact to_L ⟨(), (), h, rfl⟩
theorem w_ref09_Check {p0 : TLabelsStatesEdges} {r : Int} (h : m_ref09_Check p0 = some r) : Pure Tryz.prog 87 [gA p0] (· = hI r) := by
 unfold m_ref09_Check at h
 refine Pure.of_body Tryz.func87 rfl rfl (lb rfl) fun hf => ?_
 unfold Tryz.f87
 dsimp only [enumS, Nat.reduceAdd]
 refine AW.rgs rfl fun K hK => b_op rfl (o_box rfl rfl rfl ?_)
 refine mv rfl rfl ?_
 refine bf hK ⟨[(1, gF p0)], []⟩ ?_
 refine AW.seq ?_
 refine AW.seqJ h (S := Bool) (V := Unit) (fun a v => ⟨[(1, gF p0), (12, .bool a)], []⟩) (fun a1 w2 h => ?_) (fun k3 h => ?_)
 ·refine AW.cond rfl (fun hc => ?_) (fun hc => ?_)
  ·have h := ifT hc h
   refine AW.rgs rfl fun K hK => mv rfl rfl ?_
   refine bf hK ⟨[(2, hI 12)], []⟩ ?_
   refine AW.ret ?_
   have h := Option.some.inj h
   subst h
   exact ret_pure (hs := [hI 12]) (.inr rfl) (resT rfl rfl) rfl trivial
  have h := ifF (bF' hc) h
  refine AW.skip ?_
  refine AW.seq ?_
  refine AW.rgs rfl fun K hK => bv rfl (v_fieldAddrF fo27_1 rfl) (bv rfl (v_loadF ty3 rfl (l_lit rfl rfl)) (bv rfl (v_bin rfl rfl b_lss) ?_))
  refine bf hK ⟨[(1, gF p0), (15, .bool (decide (p0.2.1 < 0)))], []⟩ ?_
  refine AW.cond rfl (fun hc => ?_) (fun hc => ?_)
  ·obtain ⟨hc, h⟩ := cT hc h
   refine AW.rgs rfl fun K hK => mv rfl rfl ?_
   refine bf hK ⟨[(2, hI 2)], []⟩ ?_
   refine AW.ret ?_
   have h := Option.some.inj h
   subst h
   exact ret_pure (hs := [hI 2]) (.inr rfl) (resT rfl rfl) rfl trivial
  obtain ⟨hc, h⟩ := cF hc h
  refine AW.skip ?_
  refine AW.seq ?_
  refine AW.seqJ h (S := Bool) (V := Unit) (fun a v => ⟨[(1, gF p0), (24, .bool a)], []⟩) (fun a4 w5 h => ?_) (fun k6 h => ?_)
  ·refine AW.cond rfl (fun hc => ?_) (fun hc => ?_)
   ·have h := ifT hc h
    refine AW.rgs rfl fun K hK => mv rfl rfl ?_
    refine bf hK ⟨[(2, hI 4)], []⟩ ?_
    refine AW.ret ?_
    have h := Option.some.inj h
    subst h
    exact ret_pure (hs := [hI 4]) (.inr rfl) (resT rfl rfl) rfl trivial
   have h := ifF (bF' hc) h
   refine AW.skip ?_
   refine AW.seq ?_
   refine AW.rgs rfl fun K hK => mv rfl rfl ?_
   refine bf hK ⟨[(1, gF p0), (3, hI 0)], []⟩ ?_
   refine AW.lpR h (by first | exact up_then | exact up_to) (S := Int) (V := Unit) (fun a v => ⟨[(1, gF p0), (3, hI a)], []⟩) ?_ (X := Unit) (W := Unit) (fun a v => ⟨[], []⟩) (fun a30 w31 h => ?_) (fun a7 w8 st9 h hr10=> ?_)
   ·exact to_L ⟨(), rfl⟩
   ·refine AW.rgs rfl fun K hK => mv rfl rfl ?_
    refine bf hK ⟨[(2, hI 0)], []⟩ ?_
    refine AW.ret ?_
    have h := Option.some.inj h
    subst h
    exact ret_pure (hs := [hI 0]) (.inr rfl) (resT rfl rfl) rfl trivial
   refine AW.seq ?_
   refine AW.rgs rfl fun K hK => mv rfl rfl (bv rfl (v_fieldAddrF fo27_2 rfl) (bv rfl (v_loadF ty25 rfl (l_lit rfl rfl)) (bv rfl (v_lenF rfl rfl ty25 rfl) (bv rfl (v_bin rfl rfl b_lss) ?_))))
   refine bf hK ⟨[(1, gF p0), (3, hI a7), (29, .bool (decide (a7 < ((p0.2.2).length : Int))))], []⟩ ?_
   refine AW.cond rfl (fun hc => ?_) (fun hc => ?_)
   ·obtain ⟨hc, h⟩ := cT hc h
    refine AW.skip ?_
    refine AW.seq (AW.block ?_)
    refine AW.rgs rfl fun K hK => bv rfl (v_fieldAddrF fo27_2 rfl) (bv rfl (v_loadF ty25 rfl (l_lit rfl rfl)) (mv rfl rfl ?_))
    obtain ⟨x11, h12, h⟩ := bS h
    refine bv rfl (v_idxF ty25 es25 rfl rfl (idx_lt h12)) (bv rfl (v_loadF ty128 rfl (l_agg eFromLabelTo h12 rfl rfl)) ?_)
    refine b_op rfl (o_alloc (fid := 87) (zs := [hI 0, hI 0, hI 0]) 87004 rfl rfl ty128 rfl (fun v13 => ?_))
    refine b_op rfl (o_store (cs := [hI x11.1, hI x11.2.1, hI x11.2.2]) (zs := [hI x11.1, hI x11.2.1, hI x11.2.2]) rfl rfl rfl ty128 rfl rfl rfl rfl rfl ?_)
    refine bf hK ⟨[(1, gF p0), (3, hI a7), (4, .ptr 87004 v13 0)], [(87004, v13, .arr 3 128 [hI x11.1, hI x11.2.1, hI x11.2.2])]⟩ ?_
    refine AW.seq ?_
    refine AW.seqJ h (S := Bool) (V := Unit) (fun a v => ⟨[(1, gF p0), (3, hI a7), (4, .ptr 87004 v13 0), (70, .bool a)], [(87004, v13, .arr 3 128 [hI x11.1, hI x11.2.1, hI x11.2.2])]⟩) (fun a14 w15 h => ?_) (fun k16 h => ?_)
    ·refine AW.cond rfl (fun hc => ?_) (fun hc => ?_)
     ·have h := ifT hc h
      refine AW.rgs rfl fun K hK => mv rfl rfl ?_
      refine bf hK ⟨[(2, hI 2)], []⟩ ?_
      have h := hr10 _ h
      refine AW.ret ?_
      have h := Option.some.inj h
      subst h
      exact ret_pure (hs := [hI 2]) (.inr rfl) (resT rfl rfl) rfl trivial
     have h := ifF (bF' hc) h
     refine AW.skip ?_
     refine AW.seqJ h (S := Bool) (V := Unit) (fun a v => ⟨[(1, gF p0), (3, hI a7), (83, .bool a)], []⟩) (fun a17 w18 h => ?_) (fun k19 h => ?_)
     ·refine AW.cond rfl (fun hc => ?_) (fun hc => ?_)
      ·have h := ifT hc h
       refine AW.rgs rfl fun K hK => mv rfl rfl ?_
       refine bf hK ⟨[(2, hI 10)], []⟩ ?_
       have h := hr10 _ h
       refine AW.ret ?_
       have h := Option.some.inj h
       subst h
       exact ret_pure (hs := [hI 10]) (.inr rfl) (resT rfl rfl) rfl trivial
      have h := ifF (bF' hc) h
      refine AW.skip ?_
      refine AW.rg rfl fun K hK => mv rfl rfl (bv rfl (v_bin rfl rfl b_add) (mv rfl rfl ?_))
      refine b_nil (hK _ ?_)
      exact to_L ⟨IntKind.wrap .i64 (a7 + 1), (), h, rfl⟩
     refine AW.dg 13 follows rfl rfl fun K hK => ?_
     refine sm rfl rfl ?_
     refine sv rfl (v_bin rfl rfl b_gtr) ?_
     refine sm rfl rfl ?_
     by_cases hg24 : 0 < a7
     ·have h := ifT hg24 h
      refine s_T rfl rfl rfl rfl rfl (decide_eq_true hg24) (ops_val rfl (v_fieldAddrF fo27_2 rfl) ?_)
      refine s_T rfl rfl rfl rfl rfl rfl (ops_val rfl (v_loadF ty25 rfl (l_lit rfl rfl)) ?_)
      refine s_T rfl rfl rfl rfl rfl rfl (ops_val rfl (mv_val rfl rfl).2 ?_)
      refine s_T rfl rfl rfl rfl rfl rfl (ops_val rfl (v_bin rfl rfl b_sub) ?_)
      obtain ⟨x20, h21, h⟩ := bS h
      refine s_T rfl rfl rfl rfl rfl rfl (ops_val rfl (v_idxF ty25 es25 rfl rfl (idx_lt h21)) ?_)
      refine s_T rfl rfl rfl rfl rfl rfl (ops_val rfl (v_loadF ty128 rfl (l_agg eFromLabelTo h21 rfl rfl)) ?_)
      refine s_T rfl rfl rfl rfl rfl rfl (ops_val rfl (v_loadP ty128 rfl rfl (l_litA rfl (lb rfl) rfl)) ?_)
      obtain ⟨x22, h23, h⟩ := bS h
      refine s_T rfl rfl rfl rfl rfl rfl (ops_call rfl rfl rfl rfl (ACallD.pure0 (w_ref09_Compare h23)) ?_)
      refine s_T rfl rfl rfl rfl rfl rfl (ops_val rfl (v_bin rfl rfl b_geq) ?_)
      refine sv rfl (v_pickT rfl rfl rfl) ?_
      refine s_nil ?_
      refine b_nil (hK _ ?_)
      exact to_L ⟨decide (0 ≤ x22), (), h, rfl⟩
     have h := ifF hg24 h
     refine s_F rfl rfl rfl rfl rfl (decide_eq_false hg24) ?_
     refine s_F rfl rfl rfl rfl rfl rfl ?_
     refine s_F rfl rfl rfl rfl rfl rfl ?_
     refine s_F rfl rfl rfl rfl rfl rfl ?_
     refine s_F rfl rfl rfl rfl rfl rfl ?_
     refine s_F rfl rfl rfl rfl rfl rfl ?_
     refine s_F rfl rfl rfl rfl rfl rfl ?_
     refine s_F rfl rfl rfl rfl rfl rfl ?_
     refine s_F rfl rfl rfl rfl rfl rfl ?_
     refine sv rfl (v_pickF rfl rfl rfl) ?_
     refine s_nil ?_
     refine b_nil (hK _ ?_)
     exact to_L ⟨false, (), h, rfl⟩
    refine AW.rg rfl fun K hK => bv rfl (v_fieldAddrP fo128_0 rfl rfl) (bv rfl (v_loadP ty3 rfl rfl (l_lit rfl rfl)) (bv rfl (v_bin rfl rfl b_lss) (mv rfl rfl ?_)))
    by_cases hg29 : x11.1 < 0
    ·have h := ifT hg29 h
     refine b_F rfl rfl rfl rfl rfl (decide_eq_true hg29) ?_
     refine b_F rfl rfl rfl rfl rfl rfl ?_
     refine b_F rfl rfl rfl rfl rfl rfl ?_
     refine b_F rfl rfl rfl rfl rfl rfl ?_
     refine b_F rfl rfl rfl rfl rfl rfl ?_
     refine bv rfl (v_pickT rfl rfl rfl) (mv rfl rfl ?_)
     refine b_F rfl rfl rfl rfl rfl rfl ?_
     refine b_F rfl rfl rfl rfl rfl rfl ?_
     refine b_F rfl rfl rfl rfl rfl rfl ?_
     refine bv rfl (v_pickT rfl rfl rfl) (mv rfl rfl ?_)
     refine b_F rfl rfl rfl rfl rfl rfl ?_
     refine b_F rfl rfl rfl rfl rfl rfl ?_
     refine b_F rfl rfl rfl rfl rfl rfl ?_
     refine b_F rfl rfl rfl rfl rfl rfl ?_
     refine b_F rfl rfl rfl rfl rfl rfl ?_
     refine bv rfl (v_pickT rfl rfl rfl) (mv rfl rfl ?_)
     refine b_F rfl rfl rfl rfl rfl rfl ?_
     refine b_F rfl rfl rfl rfl rfl rfl ?_
     refine b_F rfl rfl rfl rfl rfl rfl ?_
     refine bv rfl (v_pickT rfl rfl rfl) (mv rfl rfl ?_)
     refine b_F rfl rfl rfl rfl rfl rfl ?_
     refine b_F rfl rfl rfl rfl rfl rfl ?_
     refine b_F rfl rfl rfl rfl rfl rfl ?_
     refine b_F rfl rfl rfl rfl rfl rfl ?_
     refine b_F rfl rfl rfl rfl rfl rfl ?_
     refine bv rfl (v_pickT rfl rfl rfl) ?_
     refine b_nil (hK _ ?_)
     exact to_L ⟨true, (), h, rfl⟩
    have h := ifF hg29 h
    refine b_T rfl rfl rfl rfl (decide_eq_false hg29) (o_val rfl (v_fieldAddrP fo128_0 rfl rfl) ?_)
    refine b_T rfl rfl rfl rfl rfl (o_val rfl (v_loadP ty3 rfl rfl (l_lit rfl rfl)) ?_)
    refine b_T rfl rfl rfl rfl rfl (o_val rfl (v_fieldAddrF fo27_1 rfl) ?_)
    refine b_T rfl rfl rfl rfl rfl (o_val rfl (v_loadF ty3 rfl (l_lit rfl rfl)) ?_)
    refine b_T rfl rfl rfl rfl rfl (o_val rfl (v_bin rfl rfl b_geq) ?_)
    refine bv rfl (v_pickF rfl rfl rfl) (mv rfl rfl ?_)
    by_cases hg28 : p0.2.1 ≤ x11.1
    ·have h := ifT hg28 h
     refine b_F rfl rfl rfl rfl rfl (decide_eq_true hg28) ?_
     refine b_F rfl rfl rfl rfl rfl rfl ?_
     refine b_F rfl rfl rfl rfl rfl rfl ?_
     refine bv rfl (v_pickT rfl rfl rfl) (mv rfl rfl ?_)
     refine b_F rfl rfl rfl rfl rfl rfl ?_
     refine b_F rfl rfl rfl rfl rfl rfl ?_
     refine b_F rfl rfl rfl rfl rfl rfl ?_
     refine b_F rfl rfl rfl rfl rfl rfl ?_
     refine b_F rfl rfl rfl rfl rfl rfl ?_
     refine bv rfl (v_pickT rfl rfl rfl) (mv rfl rfl ?_)
     refine b_F rfl rfl rfl rfl rfl rfl ?_
     refine b_F rfl rfl rfl rfl rfl rfl ?_
     refine b_F rfl rfl rfl rfl rfl rfl ?_
     refine bv rfl (v_pickT rfl rfl rfl) (mv rfl rfl ?_)
     refine b_F rfl rfl rfl rfl rfl rfl ?_
     refine b_F rfl rfl rfl rfl rfl rfl ?_
     refine b_F rfl rfl rfl rfl rfl rfl ?_
     refine b_F rfl rfl rfl rfl rfl rfl ?_
     refine b_F rfl rfl rfl rfl rfl rfl ?_
     refine bv rfl (v_pickT rfl rfl rfl) ?_
     refine b_nil (hK _ ?_)
     exact to_L ⟨true, (), h, rfl⟩
    have h := ifF hg28 h
    refine b_T rfl rfl rfl rfl (decide_eq_false hg28) (o_val rfl (v_fieldAddrP fo128_2 rfl rfl) ?_)
    refine b_T rfl rfl rfl rfl rfl (o_val rfl (v_loadP ty3 rfl rfl (l_lit rfl rfl)) ?_)
    refine b_T rfl rfl rfl rfl rfl (o_val rfl (v_bin rfl rfl b_lss) ?_)
    refine bv rfl (v_pickF rfl rfl rfl) (mv rfl rfl ?_)
    by_cases hg27 : x11.2.2 < 0
    ·have h := ifT hg27 h
     refine b_F rfl rfl rfl rfl rfl (decide_eq_true hg27) ?_
     refine b_F rfl rfl rfl rfl rfl rfl ?_
     refine b_F rfl rfl rfl rfl rfl rfl ?_
     refine b_F rfl rfl rfl rfl rfl rfl ?_
     refine b_F rfl rfl rfl rfl rfl rfl ?_
     refine bv rfl (v_pickT rfl rfl rfl) (mv rfl rfl ?_)
     refine b_F rfl rfl rfl rfl rfl rfl ?_
     refine b_F rfl rfl rfl rfl rfl rfl ?_
     refine b_F rfl rfl rfl rfl rfl rfl ?_
     refine bv rfl (v_pickT rfl rfl rfl) (mv rfl rfl ?_)
     refine b_F rfl rfl rfl rfl rfl rfl ?_
     refine b_F rfl rfl rfl rfl rfl rfl ?_
     refine b_F rfl rfl rfl rfl rfl rfl ?_
     refine b_F rfl rfl rfl rfl rfl rfl ?_
     refine b_F rfl rfl rfl rfl rfl rfl ?_
     refine bv rfl (v_pickT rfl rfl rfl) ?_
     refine b_nil (hK _ ?_)
     exact to_L ⟨true, (), h, rfl⟩
    have h := ifF hg27 h
    refine b_T rfl rfl rfl rfl (decide_eq_false hg27) (o_val rfl (v_fieldAddrP fo128_2 rfl rfl) ?_)
    refine b_T rfl rfl rfl rfl rfl (o_val rfl (v_loadP ty3 rfl rfl (l_lit rfl rfl)) ?_)
    refine b_T rfl rfl rfl rfl rfl (o_val rfl (v_fieldAddrF fo27_1 rfl) ?_)
    refine b_T rfl rfl rfl rfl rfl (o_val rfl (v_loadF ty3 rfl (l_lit rfl rfl)) ?_)
    refine b_T rfl rfl rfl rfl rfl (o_val rfl (v_bin rfl rfl b_geq) ?_)
    refine bv rfl (v_pickF rfl rfl rfl) (mv rfl rfl ?_)
    by_cases hg26 : p0.2.1 ≤ x11.2.2
    ·have h := ifT hg26 h
     refine b_F rfl rfl rfl rfl rfl (decide_eq_true hg26) ?_
     refine b_F rfl rfl rfl rfl rfl rfl ?_
     refine b_F rfl rfl rfl rfl rfl rfl ?_
     refine bv rfl (v_pickT rfl rfl rfl) (mv rfl rfl ?_)
     refine b_F rfl rfl rfl rfl rfl rfl ?_
     refine b_F rfl rfl rfl rfl rfl rfl ?_
     refine b_F rfl rfl rfl rfl rfl rfl ?_
     refine b_F rfl rfl rfl rfl rfl rfl ?_
     refine b_F rfl rfl rfl rfl rfl rfl ?_
     refine bv rfl (v_pickT rfl rfl rfl) ?_
     refine b_nil (hK _ ?_)
     exact to_L ⟨true, (), h, rfl⟩
    have h := ifF hg26 h
    refine b_T rfl rfl rfl rfl (decide_eq_false hg26) (o_val rfl (v_fieldAddrP fo128_1 rfl rfl) ?_)
    refine b_T rfl rfl rfl rfl rfl (o_val rfl (v_loadP ty3 rfl rfl (l_lit rfl rfl)) ?_)
    refine b_T rfl rfl rfl rfl rfl (o_val rfl (v_bin rfl rfl b_lss) ?_)
    refine bv rfl (v_pickF rfl rfl rfl) (mv rfl rfl ?_)
    by_cases hg25 : x11.2.1 < 0
    ·have h := ifT hg25 h
     refine b_F rfl rfl rfl rfl rfl (decide_eq_true hg25) ?_
     refine b_F rfl rfl rfl rfl rfl rfl ?_
     refine b_F rfl rfl rfl rfl rfl rfl ?_
     refine b_F rfl rfl rfl rfl rfl rfl ?_
     refine b_F rfl rfl rfl rfl rfl rfl ?_
     refine bv rfl (v_pickT rfl rfl rfl) ?_
     refine b_nil (hK _ ?_)
     exact to_L ⟨true, (), h, rfl⟩
    have h := ifF hg25 h
    refine b_T rfl rfl rfl rfl (decide_eq_false hg25) (o_val rfl (v_fieldAddrP fo128_1 rfl rfl) ?_)
    refine b_T rfl rfl rfl rfl rfl (o_val rfl (v_loadP ty3 rfl rfl (l_lit rfl rfl)) ?_)
    refine b_T rfl rfl rfl rfl rfl (o_val rfl (v_fieldAddrF fo27_0 rfl) ?_)
    refine b_T rfl rfl rfl rfl rfl (o_val rfl (v_loadF ty3 rfl (l_lit rfl rfl)) ?_)
    refine b_T rfl rfl rfl rfl rfl (o_val rfl (v_bin rfl rfl b_geq) ?_)
    refine bv rfl (v_pickF rfl rfl rfl) ?_
    refine b_nil (hK _ ?_)
    exact to_L ⟨decide (p0.1 ≤ x11.2.1), (), h, rfl⟩
   obtain ⟨hc, h⟩ := cF hc h
   refine AW.exit ?_
   exact to_L ⟨(), (), h, rfl⟩
  refine AW.rg rfl fun K hK => bv rfl (v_fieldAddrF fo27_1 rfl) (bv rfl (v_loadF ty3 rfl (l_lit rfl rfl)) (bv rfl (v_bin rfl rfl b_gtr) (mv rfl rfl ?_)))
  by_cases hg32 : 64 < p0.2.1
  ·have h := ifT hg32 h
   refine b_F rfl rfl rfl rfl rfl (decide_eq_true hg32) ?_
   refine b_F rfl rfl rfl rfl rfl rfl ?_
   refine b_F rfl rfl rfl rfl rfl rfl ?_
   refine b_F rfl rfl rfl rfl rfl rfl ?_
   refine bv rfl (v_pickT rfl rfl rfl) ?_
   refine b_nil (hK _ ?_)
   exact to_L ⟨true, (), h, rfl⟩
  have h := ifF hg32 h
  refine b_T rfl rfl rfl rfl (decide_eq_false hg32) (o_val rfl (v_fieldAddrF fo27_2 rfl) ?_)
  refine b_T rfl rfl rfl rfl rfl (o_val rfl (v_loadF ty25 rfl (l_lit rfl rfl)) ?_)
  refine b_T rfl rfl rfl rfl rfl (o_val rfl (v_lenF rfl rfl ty25 rfl) ?_)
  refine b_T rfl rfl rfl rfl rfl (o_val rfl (v_bin rfl rfl b_gtr) ?_)
  refine bv rfl (v_pickF rfl rfl rfl) ?_
  refine b_nil (hK _ ?_)
  exact to_L ⟨decide (1024 < ((p0.2.2).length : Int)), (), h, rfl⟩
 refine AW.rg rfl fun K hK => bv rfl (v_fieldAddrF fo27_0 rfl) (bv rfl (v_loadF ty3 rfl (l_lit rfl rfl)) (bv rfl (v_bin rfl rfl b_lss) (mv rfl rfl ?_)))
 by_cases hg33 : p0.1 < 1
 ·have h := ifT hg33 h
  refine b_F rfl rfl rfl rfl rfl (decide_eq_true hg33) ?_
  refine b_F rfl rfl rfl rfl rfl rfl ?_
  refine b_F rfl rfl rfl rfl rfl rfl ?_
  refine bv rfl (v_pickT rfl rfl rfl) ?_
  refine b_nil (hK _ ?_)
  exact to_L ⟨true, (), h, rfl⟩
 have h := ifF hg33 h
 refine b_T rfl rfl rfl rfl (decide_eq_false hg33) (o_val rfl (v_fieldAddrF fo27_0 rfl) ?_)
 refine b_T rfl rfl rfl rfl rfl (o_val rfl (v_loadF ty3 rfl (l_lit rfl rfl)) ?_)
 refine b_T rfl rfl rfl rfl rfl (o_val rfl (v_bin rfl rfl b_gtr) ?_)
 refine bv rfl (v_pickF rfl rfl rfl) ?_
 refine b_nil (hK _ ?_)
 exact to_L ⟨decide (256 < p0.1), (), h, rfl⟩
theorem w_ref11_check {p0 : TLabelsStatesEdges} {r : Int} (h : m_ref11_check p0 = some r) : Pure Tryz.prog 192 [gA p0] (· = hI r) := by
 unfold m_ref11_check at h
 refine Pure.of_body Tryz.func192 rfl rfl (lb rfl) fun hf => ?_
 unfold Tryz.f192
 dsimp only [enumS, Nat.reduceAdd]
 refine AW.rgs rfl fun K hK => b_op rfl (o_box rfl rfl rfl ?_)
 refine mv rfl rfl ?_
 refine bf hK ⟨[(1, gF p0)], []⟩ ?_
 refine AW.seq ?_
 refine AW.rgs rfl fun K hK => bv rfl (v_loadF ty27 rfl (l_litA rfl (lb rfl) rfl)) ?_
 obtain ⟨x1, h2, h⟩ := bS h
 refine b_op rfl (o_call rfl rfl rfl rfl (ACallD.pure0 (w_ref09_Check h2)) ?_)
 refine bv rfl (v_bin rfl rfl b_neq) ?_
 refine bf hK ⟨[(1, gF p0), (5, .bool (decide (x1 ≠ 0)))], []⟩ ?_
 refine AW.cond rfl (fun hc => ?_) (fun hc => ?_)
 ·obtain ⟨hc, h⟩ := cT hc h
  refine AW.rgs rfl fun K hK => mv rfl rfl ?_
  refine bf hK ⟨[(2, hI 1)], []⟩ ?_
  refine AW.ret ?_
  have h := Option.some.inj h
  subst h
  exact ret_pure (hs := [hI 1]) (.inr rfl) (resT rfl rfl) rfl trivial
 obtain ⟨hc, h⟩ := cF hc h
 refine AW.skip ?_
 refine AW.seq ?_
 refine AW.rgs rfl fun K hK => bv rfl (v_fieldAddrF fo27_0 rfl) (bv rfl (v_loadF ty3 rfl (l_lit rfl rfl)) (bv rfl (v_bin rfl rfl b_gtr) ?_))
 refine bf hK ⟨[(8, .bool (decide (16 < p0.1)))], []⟩ ?_
 refine AW.cond rfl (fun hc => ?_) (fun hc => ?_)
 ·obtain ⟨hc, h⟩ := cT hc h
  refine AW.rgs rfl fun K hK => mv rfl rfl ?_
  refine bf hK ⟨[(2, hI 12)], []⟩ ?_
  refine AW.ret ?_
  have h := Option.some.inj h
  subst h
  exact ret_pure (hs := [hI 12]) (.inr rfl) (resT rfl rfl) rfl trivial
 obtain ⟨hc, h⟩ := cF hc h
 refine AW.skip ?_
 refine AW.rgs rfl fun K hK => mv rfl rfl ?_
 refine bf hK ⟨[(2, hI 0)], []⟩ ?_
 refine AW.ret ?_
 have h := Option.some.inj h
 subst h
 exact ret_pure (hs := [hI 0]) (.inr rfl) (resT rfl rfl) rfl trivial
theorem w_ref11_checkWord {p0 : TLabelsStatesEdges} {p1 : List UInt8} {r : Int} (h : m_ref11_checkWord p0 p1 = some r) : Pure Tryz.prog 173 [gA p0, .str p1] (· = hI r) := by
 unfold m_ref11_checkWord at h
 refine Pure.of_body Tryz.func173 rfl rfl (lb rfl) fun hf => ?_
 unfold Tryz.f173
 dsimp only [enumS, Nat.reduceAdd]
 refine AW.rgs rfl fun K hK => b_op rfl (o_box rfl rfl rfl ?_)
 refine mv rfl rfl ?_
 refine bf hK ⟨[(1, .str p1), (2, gF p0)], []⟩ ?_
 refine AW.seq ?_
 refine AW.rgs rfl fun K hK => bv rfl (v_loadF ty27 rfl (l_litA rfl (lb rfl) rfl)) ?_
 obtain ⟨x1, h2, h⟩ := bS h
 refine b_op rfl (o_call rfl rfl rfl rfl (ACallD.pure0 (w_ref11_check h2)) ?_)
 refine mv rfl rfl ?_
 refine bf hK ⟨[(1, .str p1), (2, gF p0), (5, hI x1)], []⟩ ?_
 refine AW.rgs rfl fun K hK => mv rfl rfl (bv rfl (v_bin rfl rfl b_neq) ?_)
 refine bf hK ⟨[(1, .str p1), (2, gF p0), (5, hI x1), (9, .bool (decide (x1 ≠ 0)))], []⟩ ?_
 refine AW.cond rfl (fun hc => ?_) (fun hc => ?_)
 ·obtain ⟨hc, h⟩ := cT hc h
  refine AW.rgs rfl fun K hK => mv rfl rfl (mv rfl rfl ?_)
  refine bf hK ⟨[(4, hI x1)], []⟩ ?_
  refine AW.ret ?_
  have h := Option.some.inj h
  subst h
  exact ret_pure (hs := [hI x1]) (.inr rfl) (resT rfl rfl) rfl trivial
 obtain ⟨hc, h⟩ := cF hc h
 refine AW.skip ?_
 refine AW.rgs rfl fun K hK => bv rfl (v_fieldAddrF fo27_0 rfl) (bv rfl (v_loadF ty3 rfl (l_lit rfl rfl)) (mv rfl rfl ?_))
 obtain ⟨x3, h4, h⟩ := bS h
 refine b_op rfl (o_call rfl rfl rfl rfl (ACallD.pure0 (w_ref07_Check h4)) ?_)
 refine mv rfl rfl ?_
 refine bf hK ⟨[(4, hI x3)], []⟩ ?_
 refine AW.ret ?_
 have h := Option.some.inj h
 subst h
 exact ret_pure (hs := [hI x3]) (.inr rfl) (resT rfl rfl) rfl trivial
theorem w_ref11_has {p0 : List (Int)} {p1 : Int} {r : Bool} (h : m_ref11_has p0 p1 = some r) : Pure Tryz.prog 229 [slE eInt p0, hI p1] (· = HV.bool r) := by
 unfold m_ref11_has at h
 refine Pure.of_body Tryz.func229 rfl rfl (lb rfl) fun hf => ?_
 unfold Tryz.f229
 dsimp only [enumS, Nat.reduceAdd]
 refine AW.rgs rfl fun K hK => mv rfl rfl ?_
 refine bf hK ⟨[(0, slE eInt p0), (1, hI p1)], []⟩ ?_
 refine AW.seq ?_
 refine AW.rgs rfl fun K hK => mv rfl rfl ?_
 refine bf hK ⟨[(0, slE eInt p0), (1, hI p1), (5, hI 0)], []⟩ ?_
 refine AW.lpR h (by first | exact up_then | exact up_to) (S := Int) (V := Unit) (fun a v => ⟨[(0, slE eInt p0), (1, hI p1), (5, hI a)], []⟩) ?_ (X := Unit) (W := Unit) (fun a v => ⟨[], []⟩) (fun a7 w8 h => ?_) (fun a1 w2 st3 h hr4=> ?_)
 ·exact to_L ⟨(), rfl⟩
 ·refine AW.rgs rfl fun K hK => mv rfl rfl ?_
  refine bf hK ⟨[(4, .bool false)], []⟩ ?_
  refine AW.ret ?_
  have h := Option.some.inj h
  subst h
  exact ret_pure (hs := [.bool false]) (.inr rfl) (resT rfl rfl) rfl trivial
 refine AW.seq ?_
 refine AW.rgs rfl fun K hK => mv rfl rfl (mv rfl rfl (bv rfl (v_lenF rfl rfl ty31 rfl) (bv rfl (v_bin rfl rfl b_lss) ?_)))
 refine bf hK ⟨[(0, slE eInt p0), (1, hI p1), (5, hI a1), (9, .bool (decide (a1 < ((p0).length : Int))))], []⟩ ?_
 refine AW.cond rfl (fun hc => ?_) (fun hc => ?_)
 ·obtain ⟨hc, h⟩ := cT hc h
  refine AW.skip ?_
  refine AW.seq (AW.block ?_)
  refine AW.rgs rfl fun K hK => mv rfl rfl (mv rfl rfl ?_)
  obtain ⟨x5, h6, h⟩ := bS h
  refine bv rfl (v_idxF ty31 es31 rfl rfl (idx_lt h6)) (bv rfl (v_loadF ty3 rfl (l_cell eInt h6 (o := 0) rfl rfl)) (mv rfl rfl (bv rfl (v_bin rfl rfl b_eql) ?_)))
  refine bf hK ⟨[(0, slE eInt p0), (1, hI p1), (5, hI a1), (17, .bool (decide (x5 = p1)))], []⟩ ?_
  refine AW.cond rfl (fun hc => ?_) (fun hc => ?_)
  ·obtain ⟨hc, h⟩ := cT hc h
   refine AW.rgs rfl fun K hK => mv rfl rfl ?_
   refine bf hK ⟨[(4, .bool true)], []⟩ ?_
   have h := hr4 _ h
   refine AW.ret ?_
   have h := Option.some.inj h
   subst h
   exact ret_pure (hs := [.bool true]) (.inr rfl) (resT rfl rfl) rfl trivial
  obtain ⟨hc, h⟩ := cF hc h
  refine AW.skip ?_
  refine AW.rg rfl fun K hK => mv rfl rfl (bv rfl (v_bin rfl rfl b_add) (mv rfl rfl ?_))
  refine b_nil (hK _ ?_)
  exact to_L ⟨IntKind.wrap .i64 (a1 + 1), (), h, rfl⟩
 obtain ⟨hc, h⟩ := cF hc h
 refine AW.exit ?_
 exact to_L ⟨(), (), h, rfl⟩
theorem w_ref11_Step {p0 : TLabelsStatesEdges} {p1 : List (Int)} {p2 : Int} {r : (List (Int))} (h : m_ref11_Step p0 p1 p2 = some r) : Pure Tryz.prog 203 [gA p0, slE eInt p1, hI p2] (· = slE eInt r) := by
 unfold m_ref11_Step at h
 refine Pure.of_body Tryz.func203 rfl rfl (lb rfl) fun hf => ?_
 unfold Tryz.f203
 dsimp only [enumS, Nat.reduceAdd]
 refine AW.rgs rfl fun K hK => b_op rfl (o_box rfl rfl rfl ?_)
 refine mv rfl rfl ?_
 refine bf hK ⟨[(1, slE eInt p1), (2, hI p2), (3, gF p0)], []⟩ ?_
 refine AW.rgs rfl fun K hK => b_op rfl (o_bslM (fid := 203) 203011 rfl rfl rfl (as_of (cs := []) ty31 ty3 rfl rfl rfl rfl rfl) (fun v1 => ?_))
 refine mv rfl rfl ?_
 refine bf hK ⟨[(1, slE eInt p1), (2, hI p2), (3, gF p0), (7, .ar 203011 v1 eInt.k 0 0)], [(203011, v1, .arr eInt.k 3 [])]⟩ ?_
 refine AW.seq ?_
 refine AW.rgs rfl fun K hK => mv rfl rfl ?_
 refine bf hK ⟨[(1, slE eInt p1), (2, hI p2), (3, gF p0), (7, .ar 203011 v1 eInt.k 0 0), (8, hI 0)], [(203011, v1, .arr eInt.k 3 [])]⟩ ?_
 refine AW.lpX h (by first | exact up_then | exact up_to) (S := Int × (List Int)) (V := Nat) (fun a v => ⟨[(1, slE eInt p1), (2, hI p2), (3, gF p0), (7, .ar 203011 v eInt.k 0 ((a.2).length)), (8, hI a.1)], [(203011, v, .arr eInt.k 3 (eInt.E a.2))]⟩) ?_ (X := (List Int)) (W := Nat) (fun a v => ⟨[(7, .ar 203011 v eInt.k 0 ((a).length))], [(203011, v, .arr eInt.k 3 (eInt.E a))]⟩) (fun a33 w34 h => ?_) (fun a2 w3 st4 h => ?_)
 ·exact to_L ⟨v1, rfl⟩
 ·refine AW.rgs rfl fun K hK => mv rfl rfl (mv rfl rfl ?_)
  refine bf hK ⟨[(6, .ar 203011 w34 eInt.k 0 ((a33).length))], [(203011, w34, .arr eInt.k 3 (eInt.E a33))]⟩ ?_
  refine AW.to (to_frz 2 [(203011, w34, .arr eInt.k 3 (eInt.E a33))] ⟨[(6, slE eInt a33)], []⟩ ⟨⟨_, rfl, frz_slE eInt (l := a33) rfl fun _ _ => rfl⟩, trivial⟩ trivial ⟨rfl, trivial⟩ ⟨rfl, trivial⟩ ?_)
  refine AW.ret ?_
  have h := Option.some.inj h
  subst h
  exact ret_pure (hs := [slE eInt a33]) (.inr rfl) (resT rfl rfl) rfl (clean_slE fun _ _ => ⟨trivial, trivial⟩)
 refine AW.seq ?_
 refine AW.rgs rfl fun K hK => mv rfl rfl (bv rfl (v_fieldAddrF fo27_1 rfl) (bv rfl (v_loadF ty3 rfl (l_lit rfl rfl)) (bv rfl (v_bin rfl rfl b_lss) ?_)))
 refine bf hK ⟨[(1, slE eInt p1), (2, hI p2), (3, gF p0), (7, .ar 203011 w3 eInt.k 0 ((a2.2).length)), (8, hI a2.1), (15, .bool (decide (a2.1 < p0.2.1)))], [(203011, w3, .arr eInt.k 3 (eInt.E a2.2))]⟩ ?_
 refine AW.cond rfl (fun hc => ?_) (fun hc => ?_)
 ·obtain ⟨hc, h⟩ := cT hc h
  refine AW.skip ?_
  refine AW.seqJ h (S := (List Int)) (V := Nat) (fun a v => ⟨[(1, slE eInt p1), (2, hI p2), (3, gF p0), (7, .ar 203011 v eInt.k 0 ((a).length)), (8, hI a2.1)], [(203011, v, .arr eInt.k 3 (eInt.E a))]⟩) (fun a6 w7 h => ?_) (fun k8 h => ?_)
  ·refine AW.rg rfl fun K hK => mv rfl rfl (bv rfl (v_bin rfl rfl b_add) (mv rfl rfl ?_))
   refine b_nil (hK _ ?_)
   exact to_L ⟨(IntKind.wrap .i64 (a2.1 + 1), a6), w7, h, rfl⟩
  refine AW.block ?_
  refine AW.rgs rfl fun K hK => mv rfl rfl ?_
  refine bf hK ⟨[(1, slE eInt p1), (2, hI p2), (3, gF p0), (7, .ar 203011 w3 eInt.k 0 ((a2.2).length)), (8, hI a2.1), (9, .bool false)], [(203011, w3, .arr eInt.k 3 (eInt.E a2.2))]⟩ ?_
  refine AW.seq ?_
  refine AW.rgs rfl fun K hK => mv rfl rfl ?_
  refine bf hK ⟨[(1, slE eInt p1), (2, hI p2), (3, gF p0), (7, .ar 203011 w3 eInt.k 0 ((a2.2).length)), (8, hI a2.1), (9, .bool false), (10, hI 0)], [(203011, w3, .arr eInt.k 3 (eInt.E a2.2))]⟩ ?_
  refine AW.lpX h (by first | exact up_then | exact up_to) (S := Bool × Int) (V := Unit) (fun a v => ⟨[(1, slE eInt p1), (2, hI p2), (3, gF p0), (7, .ar 203011 w3 eInt.k 0 ((a2.2).length)), (8, hI a2.1), (9, .bool a.1), (10, hI a.2)], [(203011, w3, .arr eInt.k 3 (eInt.E a2.2))]⟩) ?_ (X := Bool) (W := Unit) (fun a v => ⟨[(1, slE eInt p1), (2, hI p2), (3, gF p0), (7, .ar 203011 w3 eInt.k 0 ((a2.2).length)), (8, hI a2.1), (9, .bool a)], [(203011, w3, .arr eInt.k 3 (eInt.E a2.2))]⟩) (fun a29 w30 h => ?_) (fun a9 w10 st11 h => ?_)
  ·exact to_L ⟨(), rfl⟩
  ·refine AW.rgs rfl fun K hK => mv rfl rfl ?_
   refine bf hK ⟨[(1, slE eInt p1), (2, hI p2), (3, gF p0), (7, .ar 203011 w3 eInt.k 0 ((a2.2).length)), (8, hI a2.1), (53, .bool a29)], [(203011, w3, .arr eInt.k 3 (eInt.E a2.2))]⟩ ?_
   refine AW.cond rfl (fun hc => ?_) (fun hc => ?_)
   ·have h := ifT hc h
    refine AW.rg rfl fun K hK => mv rfl rfl (mv rfl rfl ?_)
    refine b_op rfl (o_bsl rfl rfl (as_of (cs := [hI a2.1]) ty31 ty3 rfl rfl rfl rfl rfl) ?_)
    obtain ⟨h32, h⟩ := ifN h
    refine b_op rfl (o_appE eInt (l := a2.2) (m := [a2.1]) rfl rfl ty31 ty31 ty3 rfl rfl rfl rfl rfl h32 (fun v31 => ?_))
    refine mv rfl rfl ?_
    refine b_nil (hK _ ?_)
    exact to_L ⟨a2.2 ++ [a2.1], v31, h, rfl⟩
   have h := ifF (bF' hc) h
   refine AW.skip ?_
   exact to_L ⟨a2.2, w3, h, rfl⟩
  refine AW.seq ?_
  refine AW.rgs rfl fun K hK => mv rfl rfl (bv rfl (v_fieldAddrF fo27_2 rfl) (bv rfl (v_loadF ty25 rfl (l_lit rfl rfl)) (bv rfl (v_lenF rfl rfl ty25 rfl) (bv rfl (v_bin rfl rfl b_lss) ?_))))
  refine bf hK ⟨[(1, slE eInt p1), (2, hI p2), (3, gF p0), (7, .ar 203011 w3 eInt.k 0 ((a2.2).length)), (8, hI a2.1), (9, .bool a9.1), (10, hI a9.2), (22, .bool (decide (a9.2 < ((p0.2.2).length : Int))))], [(203011, w3, .arr eInt.k 3 (eInt.E a2.2))]⟩ ?_
  refine AW.cond rfl (fun hc => ?_) (fun hc => ?_)
  ·obtain ⟨hc, h⟩ := cT hc h
   refine AW.skip ?_
   refine AW.seqJ h (S := Bool) (V := Unit) (fun a v => ⟨[(1, slE eInt p1), (2, hI p2), (3, gF p0), (7, .ar 203011 w3 eInt.k 0 ((a2.2).length)), (8, hI a2.1), (9, .bool a), (10, hI a9.2)], [(203011, w3, .arr eInt.k 3 (eInt.E a2.2))]⟩) (fun a13 w14 h => ?_) (fun k15 h => ?_)
   ·refine AW.rg rfl fun K hK => mv rfl rfl (bv rfl (v_bin rfl rfl b_add) (mv rfl rfl ?_))
    refine b_nil (hK _ ?_)
    exact to_L ⟨(a13, IntKind.wrap .i64 (a9.2 + 1)), (), h, rfl⟩
   refine AW.block ?_
   refine AW.seqJ h (S := Bool) (V := Unit) (fun a v => ⟨[(1, slE eInt p1), (2, hI p2), (3, gF p0), (7, .ar 203011 w3 eInt.k 0 ((a2.2).length)), (8, hI a2.1), (9, .bool a9.1), (10, hI a9.2), (52, .bool a)], [(203011, w3, .arr eInt.k 3 (eInt.E a2.2))]⟩) (fun a16 w17 h => ?_) (fun k18 h => ?_)
   ·refine AW.cond rfl (fun hc => ?_) (fun hc => ?_)
    ·have h := ifT hc h
     refine AW.rg rfl fun K hK => mv rfl rfl ?_
     refine b_nil (hK _ ?_)
     exact to_L ⟨true, (), h, rfl⟩
    have h := ifF (bF' hc) h
    refine AW.skip ?_
    exact to_L ⟨a9.1, (), h, rfl⟩
   refine AW.rg rfl fun K hK => bv rfl (v_fieldAddrF fo27_2 rfl) (bv rfl (v_loadF ty25 rfl (l_lit rfl rfl)) (mv rfl rfl ?_))
   obtain ⟨x19, h20, h⟩ := bS h
   refine bv rfl (v_idxF ty25 es25 rfl rfl (idx_lt h20)) (bv rfl (v_fieldAddrF fo128_2 rfl) (bv rfl (v_loadF ty3 rfl (l_cell eFromLabelTo h20 (o := 2) rfl rfl)) (mv rfl rfl (bv rfl (v_bin rfl rfl b_eql) (mv rfl rfl ?_)))))
   by_cases hg28 : x19.2.2 = a2.1
   ·have h := ifT hg28 h
    refine b_T rfl rfl rfl rfl (decide_eq_true hg28) (o_val rfl (v_fieldAddrF fo27_2 rfl) ?_)
    refine b_T rfl rfl rfl rfl rfl (o_val rfl (v_loadF ty25 rfl (l_lit rfl rfl)) ?_)
    refine b_T rfl rfl rfl rfl rfl (o_val rfl (mv_val rfl rfl).2 ?_)
    obtain ⟨x21, h22, h⟩ := bS h
    refine b_T rfl rfl rfl rfl rfl (o_val rfl (v_idxF ty25 es25 rfl rfl (idx_lt h22)) ?_)
    refine b_T rfl rfl rfl rfl rfl (o_val rfl (v_fieldAddrF fo128_1 rfl) ?_)
    refine b_T rfl rfl rfl rfl rfl (o_val rfl (v_loadF ty3 rfl (l_cell eFromLabelTo h22 (o := 1) rfl rfl)) ?_)
    refine b_T rfl rfl rfl rfl rfl (o_val rfl (mv_val rfl rfl).2 ?_)
    refine b_T rfl rfl rfl rfl rfl (o_val rfl (v_bin rfl rfl b_eql) ?_)
    refine bv rfl (v_pickT rfl rfl rfl) (mv rfl rfl ?_)
    by_cases hg27 : x21.2.1 = p2
    ·have h := ifT hg27 h
     refine b_T rfl rfl rfl rfl (decide_eq_true hg27) (o_val rfl (mv_val rfl rfl).2 ?_)
     refine b_T rfl rfl rfl rfl rfl (o_val rfl (v_fieldAddrF fo27_2 rfl) ?_)
     refine b_T rfl rfl rfl rfl rfl (o_val rfl (v_loadF ty25 rfl (l_lit rfl rfl)) ?_)
     refine b_T rfl rfl rfl rfl rfl (o_val rfl (mv_val rfl rfl).2 ?_)
     obtain ⟨x23, h24, h⟩ := bS h
     refine b_T rfl rfl rfl rfl rfl (o_val rfl (v_idxF ty25 es25 rfl rfl (idx_lt h24)) ?_)
     refine b_T rfl rfl rfl rfl rfl (o_val rfl (v_fieldAddrF fo128_0 rfl) ?_)
     refine b_T rfl rfl rfl rfl rfl (o_val rfl (v_loadF ty3 rfl (l_cell eFromLabelTo h24 (o := 0) rfl rfl)) ?_)
     obtain ⟨x25, h26, h⟩ := bS h
     refine b_T rfl rfl rfl rfl rfl (o_call rfl rfl rfl rfl (ACallD.pure0 (w_ref11_has h26)) ?_)
     refine bv rfl (v_pickT rfl rfl rfl) ?_
     refine b_nil (hK _ ?_)
     exact to_L ⟨x25, (), h, rfl⟩
    have h := ifF hg27 h
    refine b_F rfl rfl rfl rfl rfl (decide_eq_false hg27) ?_
    refine b_F rfl rfl rfl rfl rfl rfl ?_
    refine b_F rfl rfl rfl rfl rfl rfl ?_
    refine b_F rfl rfl rfl rfl rfl rfl ?_
    refine b_F rfl rfl rfl rfl rfl rfl ?_
    refine b_F rfl rfl rfl rfl rfl rfl ?_
    refine b_F rfl rfl rfl rfl rfl rfl ?_
    refine b_F rfl rfl rfl rfl rfl rfl ?_
    refine bv rfl (v_pickF rfl rfl rfl) ?_
    refine b_nil (hK _ ?_)
    exact to_L ⟨false, (), h, rfl⟩
   have h := ifF hg28 h
   refine b_F rfl rfl rfl rfl rfl (decide_eq_false hg28) ?_
   refine b_F rfl rfl rfl rfl rfl rfl ?_
   refine b_F rfl rfl rfl rfl rfl rfl ?_
   refine b_F rfl rfl rfl rfl rfl rfl ?_
   refine b_F rfl rfl rfl rfl rfl rfl ?_
   refine b_F rfl rfl rfl rfl rfl rfl ?_
   refine b_F rfl rfl rfl rfl rfl rfl ?_
   refine b_F rfl rfl rfl rfl rfl rfl ?_
   refine bv rfl (v_pickF rfl rfl rfl) (mv rfl rfl ?_)
   refine b_F rfl rfl rfl rfl rfl rfl ?_
   refine b_F rfl rfl rfl rfl rfl rfl ?_
   refine b_F rfl rfl rfl rfl rfl rfl ?_
   refine b_F rfl rfl rfl rfl rfl rfl ?_
   refine b_F rfl rfl rfl rfl rfl rfl ?_
   refine b_F rfl rfl rfl rfl rfl rfl ?_
   refine b_F rfl rfl rfl rfl rfl rfl ?_
   refine b_F rfl rfl rfl rfl rfl rfl ?_
   refine bv rfl (v_pickF rfl rfl rfl) ?_
   refine b_nil (hK _ ?_)
   exact to_L ⟨false, (), h, rfl⟩
  obtain ⟨hc, h⟩ := cF hc h
  refine AW.exit ?_
  exact to_L ⟨a9.1, (), h, rfl⟩
 obtain ⟨hc, h⟩ := cF hc h
 refine AW.exit ?_
 exact to_L ⟨a2.2, w3, h, rfl⟩
theorem w_ref11_ends {p0 : TLabelsStatesEdges} {p1 : List (Int)} {p2 : List UInt8} {r : (List (Int))} (h : m_ref11_ends p0 p1 p2 = some r) : Pure Tryz.prog 174 [gA p0, slE eInt p1, .str p2] (· = slE eInt r) := by
 unfold m_ref11_ends at h
 refine Pure.of_body Tryz.func174 rfl rfl (lb rfl) fun hf => ?_
 unfold Tryz.f174
 dsimp only [enumS, Nat.reduceAdd]
 refine AW.rgs rfl fun K hK => b_op rfl (o_box rfl rfl rfl ?_)
 refine mv rfl rfl ?_
 refine bf hK ⟨[(1, slE eInt p1), (2, .str p2), (3, gF p0)], []⟩ ?_
 refine AW.seq ?_
 refine AW.rgs rfl fun K hK => mv rfl rfl ?_
 refine bf hK ⟨[(1, slE eInt p1), (2, .str p2), (3, gF p0), (7, hI 0)], []⟩ ?_
 refine AW.lpX h (by first | exact up_then | exact up_to) (S := (List Int) × Int) (V := Unit) (fun a v => ⟨[(1, slE eInt a.1), (2, .str p2), (3, gF p0), (7, hI a.2)], []⟩) ?_ (X := (List Int)) (W := Unit) (fun a v => ⟨[(1, slE eInt a)], []⟩) (fun a11 w12 h => ?_) (fun a1 w2 st3 h => ?_)
 ·exact to_L ⟨(), rfl⟩
 ·refine AW.rgs rfl fun K hK => mv rfl rfl (mv rfl rfl ?_)
  refine bf hK ⟨[(6, slE eInt a11)], []⟩ ?_
  refine AW.ret ?_
  have h := Option.some.inj h
  subst h
  exact ret_pure (hs := [slE eInt a11]) (.inr rfl) (resT rfl rfl) rfl (clean_slE fun _ _ => ⟨trivial, trivial⟩)
 refine AW.seq ?_
 refine AW.rgs rfl fun K hK => mv rfl rfl (mv rfl rfl (bv rfl (v_lenS rfl rfl ty9 rfl) (bv rfl (v_bin rfl rfl b_lss) ?_)))
 refine bf hK ⟨[(1, slE eInt a1.1), (2, .str p2), (3, gF p0), (7, hI a1.2), (11, .bool (decide (a1.2 < ((p2).length : Int))))], []⟩ ?_
 refine AW.cond rfl (fun hc => ?_) (fun hc => ?_)
 ·obtain ⟨hc, h⟩ := cT hc h
  refine AW.skip ?_
  refine AW.seq (AW.block ?_)
  refine AW.dg 8 follows rfl rfl fun K hK => ?_
  refine sv rfl (v_loadF ty27 rfl (l_litA rfl (lb rfl) rfl)) ?_
  refine sm rfl rfl ?_
  refine sm rfl rfl ?_
  refine sm rfl rfl ?_
  obtain ⟨x5, h6, h⟩ := bS h
  refine sv rfl (v_idxS ty9 rfl rfl h6) ?_
  obtain ⟨x7, h8, h⟩ := bS h
  refine s_op rfl rfl (ops_call rfl rfl rfl rfl (ACallD.pure0 (w_ref07_Digit h8)) ?_)
  obtain ⟨x9, h10, h⟩ := bS h
  refine s_op rfl rfl (ops_call rfl rfl rfl rfl (ACallD.pure0 (w_ref11_Step h10)) ?_)
  refine sm rfl rfl ?_
  refine s_nil ?_
  refine bf hK ⟨[(1, slE eInt x9), (2, .str p2), (3, gF p0), (7, hI a1.2)], []⟩ ?_
  refine AW.rg rfl fun K hK => mv rfl rfl (bv rfl (v_bin rfl rfl b_add) (mv rfl rfl ?_))
  refine b_nil (hK _ ?_)
  exact to_L ⟨(x9, IntKind.wrap .i64 (a1.2 + 1)), (), h, rfl⟩
 obtain ⟨hc, h⟩ := cF hc h
 refine AW.exit ?_
 exact to_L ⟨a1.1, (), h, rfl⟩
theorem w_ref11_Accepts {p0 : TLabelsStatesEdges} {p1 : List UInt8} {r : Bool × Int} (h : m_ref11_Accepts p0 p1 = some r) : Pure Tryz.prog 126 [gA p0, .str p1] (· = HV.tup [.bool r.1, hI r.2]) := by
 unfold m_ref11_Accepts at h
 refine Pure.of_body Tryz.func126 rfl rfl (lb rfl) fun hf => ?_
 unfold Tryz.f126
 dsimp only [enumS, Nat.reduceAdd]
 refine AW.rgs rfl fun K hK => b_op rfl (o_box rfl rfl rfl ?_)
 refine mv rfl rfl (mv rfl rfl ?_)
 refine bf hK ⟨[(1, .str p1), (2, gF p0)], []⟩ ?_
 refine AW.seq ?_
 refine AW.rgs rfl fun K hK => bv rfl (v_loadF ty27 rfl (l_litA rfl (lb rfl) rfl)) (mv rfl rfl ?_)
 obtain ⟨x1, h2, h⟩ := bS h
 refine b_op rfl (o_call rfl rfl rfl rfl (ACallD.pure0 (w_ref11_checkWord h2)) ?_)
 refine mv rfl rfl ?_
 refine bf hK ⟨[(1, .str p1), (2, gF p0), (6, hI x1)], []⟩ ?_
 refine AW.rgs rfl fun K hK => mv rfl rfl (bv rfl (v_bin rfl rfl b_neq) ?_)
 refine bf hK ⟨[(1, .str p1), (2, gF p0), (6, hI x1), (11, .bool (decide (x1 ≠ 0)))], []⟩ ?_
 refine AW.cond rfl (fun hc => ?_) (fun hc => ?_)
 ·obtain ⟨hc, h⟩ := cT hc h
  refine AW.rgs rfl fun K hK => mv rfl rfl (mv rfl rfl (mv rfl rfl ?_))
  refine bf hK ⟨[(4, .bool false), (5, hI x1)], []⟩ ?_
  refine AW.ret ?_
  have h := Option.some.inj h
  subst h
  exact ret_pure (hs := [.bool false, hI x1]) (.inr rfl) (resT rfl (resT rfl rfl)) rfl ⟨trivial, trivial, trivial⟩
 obtain ⟨hc, h⟩ := cF hc h
 refine AW.skip ?_
 refine AW.dgs 9 follows rfl rfl fun K hK => ?_
 refine sv rfl (v_loadF ty27 rfl (l_litA rfl (lb rfl) rfl)) ?_
 refine sv rfl (v_loadF ty27 rfl (l_litA rfl (lb rfl) rfl)) ?_
 obtain ⟨x3, h4, h⟩ := bS h
 refine s_op rfl rfl (ops_call rfl rfl rfl rfl (ACallD.pure0 (w_ref11_All h4)) ?_)
 refine sm rfl rfl ?_
 obtain ⟨x5, h6, h⟩ := bS h
 refine s_op rfl rfl (ops_call rfl rfl rfl rfl (ACallD.pure0 (w_ref11_ends h6)) ?_)
 refine sv rfl (v_lenF rfl rfl ty31 rfl) ?_
 refine sv rfl (v_bin rfl rfl b_gtr) ?_
 refine sm rfl rfl ?_
 refine sm rfl rfl ?_
 refine s_nil ?_
 refine bf hK ⟨[(4, .bool (decide (0 < ((x5).length : Int)))), (5, hI 0)], []⟩ ?_
 refine AW.ret ?_
 have h := Option.some.inj h
 subst h
 exact ret_pure (hs := [.bool (decide (0 < ((x5).length : Int))), hI 0]) (.inr rfl) (resT rfl (resT rfl rfl)) rfl ⟨trivial, trivial, trivial⟩
theorem w_ref31_accepts {p0 : TLabelsStatesEdges} {p1 : List UInt8} {r : Bool} (h : m_ref31_accepts p0 p1 = some r) : Pure Tryz.prog 77 [gA p0, .str p1] (· = HV.bool r) := by
 unfold m_ref31_accepts at h
 refine Pure.of_body Tryz.func77 rfl rfl (lb rfl) fun hf => ?_
 unfold Tryz.f77
 dsimp only [enumS, Nat.reduceAdd]
 refine AW.rgs rfl fun K hK => b_op rfl (o_box rfl rfl rfl ?_)
 refine mv rfl rfl ?_
 refine bf hK ⟨[(1, .str p1), (2, gF p0)], []⟩ ?_
 refine AW.rgs rfl fun K hK => bv rfl (v_loadF ty27 rfl (l_litA rfl (lb rfl) rfl)) (mv rfl rfl ?_)
 obtain ⟨x1, h2, h⟩ := bS h
 refine b_op rfl (o_call rfl rfl rfl rfl (ACallD.pure0 (w_ref11_Accepts h2)) ?_)
 refine mv rfl rfl (bv rfl (v_extract rfl rfl) (bv rfl (v_extract rfl rfl) (mv rfl rfl (mv rfl rfl ?_))))
 refine bf hK ⟨[(5, .bool x1.1)], []⟩ ?_
 refine AW.rgs rfl fun K hK => mv rfl rfl (mv rfl rfl ?_)
 refine bf hK ⟨[(4, .bool x1.1)], []⟩ ?_
 refine AW.ret ?_
 have h := Option.some.inj h
 subst h
 exact ret_pure (hs := [.bool x1.1]) (.inr rfl) (resT rfl rfl) rfl trivial
theorem w_ref31_uniform {p0 : List (List UInt8)} {r : Bool} (h : m_ref31_uniform p0 = some r) : Pure Tryz.prog 127 [slE eStr p0] (· = HV.bool r) := by
 unfold m_ref31_uniform at h
 refine Pure.of_body Tryz.func127 rfl rfl (lb rfl) fun hf => ?_
 unfold Tryz.f127
 dsimp only [enumS, Nat.reduceAdd]
 refine AW.rgs rfl fun K hK => mv rfl rfl ?_
 refine bf hK ⟨[(0, slE eStr p0)], []⟩ ?_
 refine AW.seq ?_
 refine AW.rgs rfl fun K hK => mv rfl rfl ?_
 refine bf hK ⟨[(0, slE eStr p0), (3, hI 0)], []⟩ ?_
 refine AW.lpR h (by first | exact up_then | exact up_to) (S := Int) (V := Unit) (fun a v => ⟨[(0, slE eStr p0), (3, hI a)], []⟩) ?_ (X := Unit) (W := Unit) (fun a v => ⟨[], []⟩) (fun a9 w10 h => ?_) (fun a1 w2 st3 h hr4=> ?_)
 ·exact to_L ⟨(), rfl⟩
 ·refine AW.rgs rfl fun K hK => mv rfl rfl ?_
  refine bf hK ⟨[(2, .bool true)], []⟩ ?_
  refine AW.ret ?_
  have h := Option.some.inj h
  subst h
  exact ret_pure (hs := [.bool true]) (.inr rfl) (resT rfl rfl) rfl trivial
 refine AW.seq ?_
 refine AW.rgs rfl fun K hK => mv rfl rfl (mv rfl rfl (bv rfl (v_lenF rfl rfl ty22 rfl) (bv rfl (v_bin rfl rfl b_lss) ?_)))
 refine bf hK ⟨[(0, slE eStr p0), (3, hI a1), (7, .bool (decide (a1 < ((p0).length : Int))))], []⟩ ?_
 refine AW.cond rfl (fun hc => ?_) (fun hc => ?_)
 ·obtain ⟨hc, h⟩ := cT hc h
  refine AW.skip ?_
  refine AW.seq (AW.block ?_)
  refine AW.dgs 10 follows rfl rfl fun K hK => ?_
  refine sm rfl rfl ?_
  refine sm rfl rfl ?_
  obtain ⟨x5, h6, h⟩ := bS h
  refine sv rfl (v_idxF ty22 es22 rfl rfl (idx_lt h6)) ?_
  refine sv rfl (v_loadF ty9 rfl (l_cell eStr h6 (o := 0) rfl rfl)) ?_
  refine sv rfl (v_lenS rfl rfl ty9 rfl) ?_
  refine sm rfl rfl ?_
  obtain ⟨x7, h8, h⟩ := bS h
  refine sv rfl (v_idxF ty22 es22 rfl rfl (idx_lt h8)) ?_
  refine sv rfl (v_loadF ty9 rfl (l_cell eStr h8 (o := 0) rfl rfl)) ?_
  refine sv rfl (v_lenS rfl rfl ty9 rfl) ?_
  refine sv rfl (v_bin rfl rfl b_neq) ?_
  refine s_nil ?_
  refine bf hK ⟨[(0, slE eStr p0), (3, hI a1), (19, .bool (decide (((x5).length : Int) ≠ ((x7).length : Int))))], []⟩ ?_
  refine AW.cond rfl (fun hc => ?_) (fun hc => ?_)
  ·obtain ⟨hc, h⟩ := cT hc h
   refine AW.rgs rfl fun K hK => mv rfl rfl ?_
   refine bf hK ⟨[(2, .bool false)], []⟩ ?_
   have h := hr4 _ h
   refine AW.ret ?_
   have h := Option.some.inj h
   subst h
   exact ret_pure (hs := [.bool false]) (.inr rfl) (resT rfl rfl) rfl trivial
  obtain ⟨hc, h⟩ := cF hc h
  refine AW.skip ?_
  refine AW.rg rfl fun K hK => mv rfl rfl (bv rfl (v_bin rfl rfl b_add) (mv rfl rfl ?_))
  refine b_nil (hK _ ?_)
  exact to_L ⟨IntKind.wrap .i64 (a1 + 1), (), h, rfl⟩
 obtain ⟨hc, h⟩ := cF hc h
 refine AW.exit ?_
 exact to_L ⟨(), (), h, rfl⟩
theorem w_ref31_binary {p0 : List (List UInt8)} {r : Bool} (h : m_ref31_binary p0 = some r) : Pure Tryz.prog 128 [slE eStr p0] (· = HV.bool r) := by
 unfold m_ref31_binary at h
 refine Pure.of_body Tryz.func128 rfl rfl (lb rfl) fun hf => ?_
 unfold Tryz.f128
 dsimp only [enumS, Nat.reduceAdd]
 refine AW.rgs rfl fun K hK => mv rfl rfl ?_
 refine bf hK ⟨[(0, slE eStr p0)], []⟩ ?_
 refine AW.seq ?_
 refine AW.rgs rfl fun K hK => mv rfl rfl ?_
 refine bf hK ⟨[(0, slE eStr p0), (3, hI 0)], []⟩ ?_
 refine AW.lpR h (by first | exact up_then | exact up_to) (S := Int) (V := Unit) (fun a v => ⟨[(0, slE eStr p0), (3, hI a)], []⟩) ?_ (X := Unit) (W := Unit) (fun a v => ⟨[], []⟩) (fun a25 w26 h => ?_) (fun a1 w2 st3 h hr4=> ?_)
 ·exact to_L ⟨(), rfl⟩
 ·refine AW.rgs rfl fun K hK => mv rfl rfl ?_
  refine bf hK ⟨[(2, .bool true)], []⟩ ?_
  refine AW.ret ?_
  have h := Option.some.inj h
  subst h
  exact ret_pure (hs := [.bool true]) (.inr rfl) (resT rfl rfl) rfl trivial
 refine AW.seq ?_
 refine AW.rgs rfl fun K hK => mv rfl rfl (mv rfl rfl (bv rfl (v_lenF rfl rfl ty22 rfl) (bv rfl (v_bin rfl rfl b_lss) ?_)))
 refine bf hK ⟨[(0, slE eStr p0), (3, hI a1), (8, .bool (decide (a1 < ((p0).length : Int))))], []⟩ ?_
 refine AW.cond rfl (fun hc => ?_) (fun hc => ?_)
 ·obtain ⟨hc, h⟩ := cT hc h
  refine AW.skip ?_
  refine AW.seq (AW.block ?_)
  refine AW.rgs rfl fun K hK => mv rfl rfl ?_
  refine bf hK ⟨[(0, slE eStr p0), (3, hI a1), (4, hI 0)], []⟩ ?_
  refine AW.lpR h (by first | exact up_then | exact up_to) (S := Int) (V := Unit) (fun a v => ⟨[(0, slE eStr p0), (3, hI a1), (4, hI a)], []⟩) ?_ (X := Unit) (W := Unit) (fun a v => ⟨[(0, slE eStr p0), (3, hI a1)], []⟩) (fun a23 w24 h => ?_) (fun a5 w6 st7 h hr8=> ?_)
  ·exact to_L ⟨(), rfl⟩
  ·refine AW.rg rfl fun K hK => mv rfl rfl (bv rfl (v_bin rfl rfl b_add) (mv rfl rfl ?_))
   refine b_nil (hK _ ?_)
   exact to_L ⟨IntKind.wrap .i64 (a1 + 1), (), h, rfl⟩
  refine AW.seq ?_
  refine AW.rgs rfl fun K hK => mv rfl rfl (mv rfl rfl (mv rfl rfl ?_))
  obtain ⟨x9, h10, h⟩ := bS h
  refine bv rfl (v_idxF ty22 es22 rfl rfl (idx_lt h10)) (bv rfl (v_loadF ty9 rfl (l_cell eStr h10 (o := 0) rfl rfl)) (bv rfl (v_lenS rfl rfl ty9 rfl) (bv rfl (v_bin rfl rfl b_lss) ?_)))
  refine bf hK ⟨[(0, slE eStr p0), (3, hI a1), (4, hI a5), (17, .bool (decide (a5 < ((x9).length : Int))))], []⟩ ?_
  refine AW.cond rfl (fun hc => ?_) (fun hc => ?_)
  ·obtain ⟨hc, h⟩ := cT hc h
   refine AW.skip ?_
   refine AW.seq (AW.block ?_)
   refine AW.seqJ h (S := Bool) (V := Unit) (fun a v => ⟨[(0, slE eStr p0), (3, hI a1), (4, hI a5), (35, .bool a)], []⟩) (fun a11 w12 h => ?_) (fun k13 h => ?_)
   ·refine AW.cond rfl (fun hc => ?_) (fun hc => ?_)
    ·have h := ifT hc h
     refine AW.rgs rfl fun K hK => mv rfl rfl ?_
     refine bf hK ⟨[(2, .bool false)], []⟩ ?_
     have h := hr8 _ h
     have h := hr4 _ h
     refine AW.ret ?_
     have h := Option.some.inj h
     subst h
     exact ret_pure (hs := [.bool false]) (.inr rfl) (resT rfl rfl) rfl trivial
    have h := ifF (bF' hc) h
    refine AW.skip ?_
    refine AW.rg rfl fun K hK => mv rfl rfl (bv rfl (v_bin rfl rfl b_add) (mv rfl rfl ?_))
    refine b_nil (hK _ ?_)
    exact to_L ⟨IntKind.wrap .i64 (a5 + 1), (), h, rfl⟩
   refine AW.rg rfl fun K hK => mv rfl rfl (mv rfl rfl ?_)
   obtain ⟨x14, h15, h⟩ := bS h
   refine bv rfl (v_idxF ty22 es22 rfl rfl (idx_lt h15)) (bv rfl (v_loadF ty9 rfl (l_cell eStr h15 (o := 0) rfl rfl)) (mv rfl rfl ?_))
   obtain ⟨x16, h17, h⟩ := bS h
   refine bv rfl (v_idxS ty9 rfl rfl h17) (bv rfl (v_bin rfl rfl b_neq) (mv rfl rfl ?_))
   by_cases hg22 : (x16.toNat : Int) ≠ 48
   ·have h := ifT hg22 h
    refine b_T rfl rfl rfl rfl (decide_eq_true hg22) (o_val rfl (mv_val rfl rfl).2 ?_)
    refine b_T rfl rfl rfl rfl rfl (o_val rfl (mv_val rfl rfl).2 ?_)
    obtain ⟨x18, h19, h⟩ := bS h
    refine b_T rfl rfl rfl rfl rfl (o_val rfl (v_idxF ty22 es22 rfl rfl (idx_lt h19)) ?_)
    refine b_T rfl rfl rfl rfl rfl (o_val rfl (v_loadF ty9 rfl (l_cell eStr h19 (o := 0) rfl rfl)) ?_)
    refine b_T rfl rfl rfl rfl rfl (o_val rfl (mv_val rfl rfl).2 ?_)
    obtain ⟨x20, h21, h⟩ := bS h
    refine b_T rfl rfl rfl rfl rfl (o_val rfl (v_idxS ty9 rfl rfl h21) ?_)
    refine b_T rfl rfl rfl rfl rfl (o_val rfl (v_bin rfl rfl b_neq) ?_)
    refine bv rfl (v_pickT rfl rfl rfl) ?_
    refine b_nil (hK _ ?_)
    exact to_L ⟨decide ((x20.toNat : Int) ≠ 49), (), h, rfl⟩
   have h := ifF hg22 h
   refine b_F rfl rfl rfl rfl rfl (decide_eq_false hg22) ?_
   refine b_F rfl rfl rfl rfl rfl rfl ?_
   refine b_F rfl rfl rfl rfl rfl rfl ?_
   refine b_F rfl rfl rfl rfl rfl rfl ?_
   refine b_F rfl rfl rfl rfl rfl rfl ?_
   refine b_F rfl rfl rfl rfl rfl rfl ?_
   refine b_F rfl rfl rfl rfl rfl rfl ?_
   refine bv rfl (v_pickF rfl rfl rfl) ?_
   refine b_nil (hK _ ?_)
   exact to_L ⟨false, (), h, rfl⟩
  obtain ⟨hc, h⟩ := cF hc h
  refine AW.exit ?_
  exact to_L ⟨(), (), h, rfl⟩
 obtain ⟨hc, h⟩ := cF hc h
 refine AW.exit ?_
 exact to_L ⟨(), (), h, rfl⟩
theorem w_ref31_place {p0 : List (List UInt8)} {p1 : List UInt8} {r : Int} (h : m_ref31_place p0 p1 = some r) : Pure Tryz.prog 80 [slE eStr p0, .str p1] (· = hI r) := by
 unfold m_ref31_place at h
 refine Pure.of_body Tryz.func80 rfl rfl (lb rfl) fun hf => ?_
 unfold Tryz.f80
 dsimp only [enumS, Nat.reduceAdd]
 refine AW.rgs rfl fun K hK => mv rfl rfl ?_
 refine bf hK ⟨[(0, slE eStr p0), (1, .str p1)], []⟩ ?_
 refine AW.seq ?_
 refine AW.rgs rfl fun K hK => mv rfl rfl ?_
 refine bf hK ⟨[(0, slE eStr p0), (1, .str p1), (5, hI 0)], []⟩ ?_
 refine AW.lpR h (by first | exact up_then | exact up_to) (S := Int) (V := Unit) (fun a v => ⟨[(0, slE eStr p0), (1, .str p1), (5, hI a)], []⟩) ?_ (X := Unit) (W := Unit) (fun a v => ⟨[], []⟩) (fun a7 w8 h => ?_) (fun a1 w2 st3 h hr4=> ?_)
 ·exact to_L ⟨(), rfl⟩
 ·refine AW.rgs rfl fun K hK => mv rfl rfl ?_
  refine bf hK ⟨[(4, hI (-1))], []⟩ ?_
  refine AW.ret ?_
  have h := Option.some.inj h
  subst h
  exact ret_pure (hs := [hI (-1)]) (.inr rfl) (resT rfl rfl) rfl trivial
 refine AW.seq ?_
 refine AW.rgs rfl fun K hK => mv rfl rfl (mv rfl rfl (bv rfl (v_lenF rfl rfl ty22 rfl) (bv rfl (v_bin rfl rfl b_lss) ?_)))
 refine bf hK ⟨[(0, slE eStr p0), (1, .str p1), (5, hI a1), (9, .bool (decide (a1 < ((p0).length : Int))))], []⟩ ?_
 refine AW.cond rfl (fun hc => ?_) (fun hc => ?_)
 ·obtain ⟨hc, h⟩ := cT hc h
  refine AW.skip ?_
  refine AW.seq (AW.block ?_)
  refine AW.rgs rfl fun K hK => mv rfl rfl (mv rfl rfl ?_)
  obtain ⟨x5, h6, h⟩ := bS h
  refine bv rfl (v_idxF ty22 es22 rfl rfl (idx_lt h6)) (bv rfl (v_loadF ty9 rfl (l_cell eStr h6 (o := 0) rfl rfl)) (mv rfl rfl (bv rfl (v_bin rfl rfl b_seql) ?_)))
  refine bf hK ⟨[(0, slE eStr p0), (1, .str p1), (5, hI a1), (17, .bool (decide (x5 = p1)))], []⟩ ?_
  refine AW.cond rfl (fun hc => ?_) (fun hc => ?_)
  ·obtain ⟨hc, h⟩ := cT hc h
   refine AW.rgs rfl fun K hK => mv rfl rfl (mv rfl rfl ?_)
   refine bf hK ⟨[(4, hI a1)], []⟩ ?_
   have h := hr4 _ h
   refine AW.ret ?_
   have h := Option.some.inj h
   subst h
   exact ret_pure (hs := [hI a1]) (.inr rfl) (resT rfl rfl) rfl trivial
  obtain ⟨hc, h⟩ := cF hc h
  refine AW.skip ?_
  refine AW.rg rfl fun K hK => mv rfl rfl (bv rfl (v_bin rfl rfl b_add) (mv rfl rfl ?_))
  refine b_nil (hK _ ?_)
  exact to_L ⟨IntKind.wrap .i64 (a1 + 1), (), h, rfl⟩
 obtain ⟨hc, h⟩ := cF hc h
 refine AW.exit ?_
 exact to_L ⟨(), (), h, rfl⟩
theorem w_ref31_different {p0 : List (List UInt8)} {r : Bool} (h : m_ref31_different p0 = some r) : Pure Tryz.prog 129 [slE eStr p0] (· = HV.bool r) := by
 unfold m_ref31_different at h
 refine Pure.of_body Tryz.func129 rfl rfl (lb rfl) fun hf => ?_
 unfold Tryz.f129
 dsimp only [enumS, Nat.reduceAdd]
 refine AW.rgs rfl fun K hK => mv rfl rfl ?_
 refine bf hK ⟨[(0, slE eStr p0)], []⟩ ?_
 refine AW.seq ?_
 refine AW.rgs rfl fun K hK => mv rfl rfl ?_
 refine bf hK ⟨[(0, slE eStr p0), (3, hI 0)], []⟩ ?_
 refine AW.lpR h (by first | exact up_then | exact up_to) (S := Int) (V := Unit) (fun a v => ⟨[(0, slE eStr p0), (3, hI a)], []⟩) ?_ (X := Unit) (W := Unit) (fun a v => ⟨[], []⟩) (fun a10 w11 h => ?_) (fun a1 w2 st3 h hr4=> ?_)
 ·exact to_L ⟨(), rfl⟩
 ·refine AW.rgs rfl fun K hK => mv rfl rfl ?_
  refine bf hK ⟨[(2, .bool true)], []⟩ ?_
  refine AW.ret ?_
  have h := Option.some.inj h
  subst h
  exact ret_pure (hs := [.bool true]) (.inr rfl) (resT rfl rfl) rfl trivial
 refine AW.seq ?_
 refine AW.rgs rfl fun K hK => mv rfl rfl (mv rfl rfl (bv rfl (v_lenF rfl rfl ty22 rfl) (bv rfl (v_bin rfl rfl b_lss) ?_)))
 refine bf hK ⟨[(0, slE eStr p0), (3, hI a1), (7, .bool (decide (a1 < ((p0).length : Int))))], []⟩ ?_
 refine AW.cond rfl (fun hc => ?_) (fun hc => ?_)
 ·obtain ⟨hc, h⟩ := cT hc h
  refine AW.skip ?_
  refine AW.seq (AW.block ?_)
  refine AW.dgs 9 follows rfl rfl fun K hK => ?_
  refine sm rfl rfl ?_
  refine sm rfl rfl ?_
  obtain ⟨h5, h⟩ := ifN h
  refine sv rfl (v_sliceF eStr ty22 es22 rfl rfl rfl h5) ?_
  refine sm rfl rfl ?_
  refine sm rfl rfl ?_
  obtain ⟨x6, h7, h⟩ := bS h
  refine sv rfl (v_idxF ty22 es22 rfl rfl (idx_lt h7)) ?_
  refine sv rfl (v_loadF ty9 rfl (l_cell eStr h7 (o := 0) rfl rfl)) ?_
  obtain ⟨x8, h9, h⟩ := bS h
  refine s_op rfl rfl (ops_call rfl rfl rfl rfl (ACallD.pure0 (w_ref31_place h9)) ?_)
  refine sv rfl (v_bin rfl rfl b_geq) ?_
  refine s_nil ?_
  refine bf hK ⟨[(0, slE eStr p0), (3, hI a1), (18, .bool (decide (0 ≤ x8)))], []⟩ ?_
  refine AW.cond rfl (fun hc => ?_) (fun hc => ?_)
  ·obtain ⟨hc, h⟩ := cT hc h
   refine AW.rgs rfl fun K hK => mv rfl rfl ?_
   refine bf hK ⟨[(2, .bool false)], []⟩ ?_
   have h := hr4 _ h
   refine AW.ret ?_
   have h := Option.some.inj h
   subst h
   exact ret_pure (hs := [.bool false]) (.inr rfl) (resT rfl rfl) rfl trivial
  obtain ⟨hc, h⟩ := cF hc h
  refine AW.skip ?_
  refine AW.rg rfl fun K hK => mv rfl rfl (bv rfl (v_bin rfl rfl b_add) (mv rfl rfl ?_))
  refine b_nil (hK _ ?_)
  exact to_L ⟨IntKind.wrap .i64 (a1 + 1), (), h, rfl⟩
 obtain ⟨hc, h⟩ := cF hc h
 refine AW.exit ?_
 exact to_L ⟨(), (), h, rfl⟩
theorem w_ref31_Form {p0 : TWordsMerges} {r : Int} (h : m_ref31_Form p0 = some r) : Pure Tryz.prog 79 [jA p0] (· = hI r) := by
 unfold m_ref31_Form at h
 refine Pure.of_body Tryz.func79 rfl rfl (lb rfl) fun hf => ?_
 unfold Tryz.f79
 dsimp only [enumS, Nat.reduceAdd]
 refine AW.rgs rfl fun K hK => b_op rfl (o_box rfl rfl rfl ?_)
 refine mv rfl rfl ?_
 refine bf hK ⟨[(1, jF p0)], []⟩ ?_
 refine AW.seq ?_
 refine AW.seqJ h (S := Bool) (V := Unit) (fun a v => ⟨[(1, jF p0), (13, .bool a)], []⟩) (fun a1 w2 h => ?_) (fun k3 h => ?_)
 ·refine AW.cond rfl (fun hc => ?_) (fun hc => ?_)
  ·have h := ifT hc h
   refine AW.rgs rfl fun K hK => mv rfl rfl ?_
   refine bf hK ⟨[(2, hI 5)], []⟩ ?_
   refine AW.ret ?_
   have h := Option.some.inj h
   subst h
   exact ret_pure (hs := [hI 5]) (.inr rfl) (resT rfl rfl) rfl trivial
  have h := ifF (bF' hc) h
  refine AW.skip ?_
  refine AW.seq ?_
  refine AW.seqJ h (S := Bool) (V := Unit) (fun a v => ⟨[(1, jF p0), (23, .bool a)], []⟩) (fun a4 w5 h => ?_) (fun k6 h => ?_)
  ·refine AW.cond rfl (fun hc => ?_) (fun hc => ?_)
   ·have h := ifT hc h
    refine AW.rgs rfl fun K hK => mv rfl rfl ?_
    refine bf hK ⟨[(2, hI 4)], []⟩ ?_
    refine AW.ret ?_
    have h := Option.some.inj h
    subst h
    exact ret_pure (hs := [hI 4]) (.inr rfl) (resT rfl rfl) rfl trivial
   have h := ifF (bF' hc) h
   refine AW.skip ?_
   refine AW.seq ?_
   refine AW.seqJ h (S := Bool) (V := Unit) (fun a v => ⟨[(1, jF p0), (33, .bool a)], []⟩) (fun a7 w8 h => ?_) (fun k9 h => ?_)
   ·refine AW.cond rfl (fun hc => ?_) (fun hc => ?_)
    ·have h := ifT hc h
     refine AW.rgs rfl fun K hK => mv rfl rfl ?_
     refine bf hK ⟨[(2, hI 11)], []⟩ ?_
     refine AW.ret ?_
     have h := Option.some.inj h
     subst h
     exact ret_pure (hs := [hI 11]) (.inr rfl) (resT rfl rfl) rfl trivial
    have h := ifF (bF' hc) h
    refine AW.skip ?_
    refine AW.rgs rfl fun K hK => bv rfl (v_fieldAddrF fo24_0 rfl) (bv rfl (v_loadF ty22 rfl (l_lit rfl rfl)) ?_)
    obtain ⟨x10, h11, h⟩ := bS h
    refine bv rfl (v_idxF ty22 es22 rfl rfl (idx_lt h11)) (bv rfl (v_loadF ty9 rfl (l_cell eStr h11 (o := 0) rfl rfl)) (bv rfl (v_lenS rfl rfl ty9 rfl) (mv rfl rfl ?_)))
    refine bf hK ⟨[(1, jF p0), (3, hI ((x10).length : Int))], []⟩ ?_
    refine AW.seq ?_
    refine AW.seqJ h (S := Bool) (V := Unit) (fun a v => ⟨[(1, jF p0), (52, .bool a)], []⟩) (fun a12 w13 h => ?_) (fun k14 h => ?_)
    ·refine AW.cond rfl (fun hc => ?_) (fun hc => ?_)
     ·have h := ifT hc h
      refine AW.rgs rfl fun K hK => mv rfl rfl ?_
      refine bf hK ⟨[(2, hI 2)], []⟩ ?_
      refine AW.ret ?_
      have h := Option.some.inj h
      subst h
      exact ret_pure (hs := [hI 2]) (.inr rfl) (resT rfl rfl) rfl trivial
     have h := ifF (bF' hc) h
     refine AW.skip ?_
     refine AW.seq ?_
     refine AW.seqJ h (S := Bool) (V := Unit) (fun a v => ⟨[(1, jF p0), (62, .bool a)], []⟩) (fun a15 w16 h => ?_) (fun k17 h => ?_)
     ·refine AW.cond rfl (fun hc => ?_) (fun hc => ?_)
      ·have h := ifT hc h
       refine AW.rgs rfl fun K hK => mv rfl rfl ?_
       refine bf hK ⟨[(2, hI 13)], []⟩ ?_
       refine AW.ret ?_
       have h := Option.some.inj h
       subst h
       exact ret_pure (hs := [hI 13]) (.inr rfl) (resT rfl rfl) rfl trivial
      have h := ifF (bF' hc) h
      refine AW.skip ?_
      refine AW.seq ?_
      refine AW.seqJ h (S := Bool) (V := Unit) (fun a v => ⟨[(72, .bool a)], []⟩) (fun a18 w19 h => ?_) (fun k20 h => ?_)
      ·refine AW.cond rfl (fun hc => ?_) (fun hc => ?_)
       ·have h := ifT hc h
        refine AW.rgs rfl fun K hK => mv rfl rfl ?_
        refine bf hK ⟨[(2, hI 7)], []⟩ ?_
        refine AW.ret ?_
        have h := Option.some.inj h
        subst h
        exact ret_pure (hs := [hI 7]) (.inr rfl) (resT rfl rfl) rfl trivial
       have h := ifF (bF' hc) h
       refine AW.skip ?_
       refine AW.rgs rfl fun K hK => mv rfl rfl ?_
       refine bf hK ⟨[(2, hI 0)], []⟩ ?_
       refine AW.ret ?_
       have h := Option.some.inj h
       subst h
       exact ret_pure (hs := [hI 0]) (.inr rfl) (resT rfl rfl) rfl trivial
      refine AW.rg rfl fun K hK => bv rfl (v_fieldAddrF fo24_0 rfl) (bv rfl (v_loadF ty22 rfl (l_lit rfl rfl)) ?_)
      obtain ⟨x21, h22, h⟩ := bS h
      refine b_op rfl (o_call rfl rfl rfl rfl (ACallD.pure0 (w_ref31_different h22)) ?_)
      refine bv rfl (v_not rfl) (mv rfl rfl ?_)
      by_cases hg25 : (!x21) = true
      ·have h := ifT hg25 h
       refine b_F rfl rfl rfl rfl rfl hg25 ?_
       refine b_F rfl rfl rfl rfl rfl rfl ?_
       refine b_F rfl rfl rfl rfl rfl rfl ?_
       refine b_F rfl rfl rfl rfl rfl rfl ?_
       refine bv rfl (v_pickT rfl rfl rfl) ?_
       refine b_nil (hK _ ?_)
       exact to_L ⟨true, (), h, rfl⟩
      have h := ifF hg25 h
      refine b_T rfl rfl rfl rfl (bF hg25) (o_val rfl (v_fieldAddrF fo24_1 rfl) ?_)
      refine b_T rfl rfl rfl rfl rfl (o_val rfl (v_loadF ty22 rfl (l_lit rfl rfl)) ?_)
      obtain ⟨x23, h24, h⟩ := bS h
      refine b_T rfl rfl rfl rfl rfl (o_call rfl rfl rfl rfl (ACallD.pure0 (w_ref31_different h24)) ?_)
      refine b_T rfl rfl rfl rfl rfl (o_val rfl (v_not rfl) ?_)
      refine bv rfl (v_pickF rfl rfl rfl) ?_
      refine b_nil (hK _ ?_)
      exact to_L ⟨!x23, (), h, rfl⟩
     refine AW.rg rfl fun K hK => bv rfl (v_fieldAddrF fo24_0 rfl) (bv rfl (v_loadF ty22 rfl (l_lit rfl rfl)) ?_)
     obtain ⟨x26, h27, h⟩ := bS h
     refine b_op rfl (o_call rfl rfl rfl rfl (ACallD.pure0 (w_ref31_binary h27)) ?_)
     refine bv rfl (v_not rfl) (mv rfl rfl ?_)
     by_cases hg30 : (!x26) = true
     ·have h := ifT hg30 h
      refine b_F rfl rfl rfl rfl rfl hg30 ?_
      refine b_F rfl rfl rfl rfl rfl rfl ?_
      refine b_F rfl rfl rfl rfl rfl rfl ?_
      refine b_F rfl rfl rfl rfl rfl rfl ?_
      refine bv rfl (v_pickT rfl rfl rfl) ?_
      refine b_nil (hK _ ?_)
      exact to_L ⟨true, (), h, rfl⟩
     have h := ifF hg30 h
     refine b_T rfl rfl rfl rfl (bF hg30) (o_val rfl (v_fieldAddrF fo24_1 rfl) ?_)
     refine b_T rfl rfl rfl rfl rfl (o_val rfl (v_loadF ty22 rfl (l_lit rfl rfl)) ?_)
     obtain ⟨x28, h29, h⟩ := bS h
     refine b_T rfl rfl rfl rfl rfl (o_call rfl rfl rfl rfl (ACallD.pure0 (w_ref31_binary h29)) ?_)
     refine b_T rfl rfl rfl rfl rfl (o_val rfl (v_not rfl) ?_)
     refine bv rfl (v_pickF rfl rfl rfl) ?_
     refine b_nil (hK _ ?_)
     exact to_L ⟨!x28, (), h, rfl⟩
    refine AW.rg rfl fun K hK => mv rfl rfl (bv rfl (v_bin rfl rfl b_lss) (mv rfl rfl ?_))
    by_cases hg34 : ((x10).length : Int) < 1
    ·have h := ifT hg34 h
     refine b_F rfl rfl rfl rfl rfl (decide_eq_true hg34) ?_
     refine b_F rfl rfl rfl rfl rfl rfl ?_
     refine bv rfl (v_pickT rfl rfl rfl) (mv rfl rfl ?_)
     refine b_F rfl rfl rfl rfl rfl rfl ?_
     refine b_F rfl rfl rfl rfl rfl rfl ?_
     refine b_F rfl rfl rfl rfl rfl rfl ?_
     refine b_F rfl rfl rfl rfl rfl rfl ?_
     refine b_F rfl rfl rfl rfl rfl rfl ?_
     refine b_F rfl rfl rfl rfl rfl rfl ?_
     refine bv rfl (v_pickT rfl rfl rfl) ?_
     refine b_nil (hK _ ?_)
     exact to_L ⟨true, (), h, rfl⟩
    have h := ifF hg34 h
    refine b_T rfl rfl rfl rfl (decide_eq_false hg34) (o_val rfl (mv_val rfl rfl).2 ?_)
    refine b_T rfl rfl rfl rfl rfl (o_val rfl (v_bin rfl rfl b_gtr) ?_)
    refine bv rfl (v_pickF rfl rfl rfl) (mv rfl rfl ?_)
    by_cases hg33 : 16 < ((x10).length : Int)
    ·have h := ifT hg33 h
     refine b_F rfl rfl rfl rfl rfl (decide_eq_true hg33) ?_
     refine b_F rfl rfl rfl rfl rfl rfl ?_
     refine b_F rfl rfl rfl rfl rfl rfl ?_
     refine b_F rfl rfl rfl rfl rfl rfl ?_
     refine b_F rfl rfl rfl rfl rfl rfl ?_
     refine b_F rfl rfl rfl rfl rfl rfl ?_
     refine bv rfl (v_pickT rfl rfl rfl) ?_
     refine b_nil (hK _ ?_)
     exact to_L ⟨true, (), h, rfl⟩
    have h := ifF hg33 h
    refine b_T rfl rfl rfl rfl (decide_eq_false hg33) (o_val rfl (v_fieldAddrF fo24_1 rfl) ?_)
    refine b_T rfl rfl rfl rfl rfl (o_val rfl (v_loadF ty22 rfl (l_lit rfl rfl)) ?_)
    obtain ⟨x31, h32, h⟩ := bS h
    refine b_T rfl rfl rfl rfl rfl (o_val rfl (v_idxF ty22 es22 rfl rfl (idx_lt h32)) ?_)
    refine b_T rfl rfl rfl rfl rfl (o_val rfl (v_loadF ty9 rfl (l_cell eStr h32 (o := 0) rfl rfl)) ?_)
    refine b_T rfl rfl rfl rfl rfl (o_val rfl (v_lenS rfl rfl ty9 rfl) ?_)
    refine b_T rfl rfl rfl rfl rfl (o_val rfl (v_bin rfl rfl b_gtr) ?_)
    refine bv rfl (v_pickF rfl rfl rfl) ?_
    refine b_nil (hK _ ?_)
    exact to_L ⟨decide (16 < ((x31).length : Int)), (), h, rfl⟩
   refine AW.rg rfl fun K hK => bv rfl (v_fieldAddrF fo24_0 rfl) (bv rfl (v_loadF ty22 rfl (l_lit rfl rfl)) ?_)
   obtain ⟨x35, h36, h⟩ := bS h
   refine b_op rfl (o_call rfl rfl rfl rfl (ACallD.pure0 (w_ref31_uniform h36)) ?_)
   refine bv rfl (v_not rfl) (mv rfl rfl ?_)
   by_cases hg39 : (!x35) = true
   ·have h := ifT hg39 h
    refine b_F rfl rfl rfl rfl rfl hg39 ?_
    refine b_F rfl rfl rfl rfl rfl rfl ?_
    refine b_F rfl rfl rfl rfl rfl rfl ?_
    refine b_F rfl rfl rfl rfl rfl rfl ?_
    refine bv rfl (v_pickT rfl rfl rfl) ?_
    refine b_nil (hK _ ?_)
    exact to_L ⟨true, (), h, rfl⟩
   have h := ifF hg39 h
   refine b_T rfl rfl rfl rfl (bF hg39) (o_val rfl (v_fieldAddrF fo24_1 rfl) ?_)
   refine b_T rfl rfl rfl rfl rfl (o_val rfl (v_loadF ty22 rfl (l_lit rfl rfl)) ?_)
   obtain ⟨x37, h38, h⟩ := bS h
   refine b_T rfl rfl rfl rfl rfl (o_call rfl rfl rfl rfl (ACallD.pure0 (w_ref31_uniform h38)) ?_)
   refine b_T rfl rfl rfl rfl rfl (o_val rfl (v_not rfl) ?_)
   refine bv rfl (v_pickF rfl rfl rfl) ?_
   refine b_nil (hK _ ?_)
   exact to_L ⟨!x37, (), h, rfl⟩
  refine AW.rg rfl fun K hK => bv rfl (v_fieldAddrF fo24_0 rfl) (bv rfl (v_loadF ty22 rfl (l_lit rfl rfl)) (bv rfl (v_lenF rfl rfl ty22 rfl) (bv rfl (v_bin rfl rfl b_gtr) (mv rfl rfl ?_))))
  by_cases hg40 : 256 < ((p0.1).length : Int)
  ·have h := ifT hg40 h
   refine b_F rfl rfl rfl rfl rfl (decide_eq_true hg40) ?_
   refine b_F rfl rfl rfl rfl rfl rfl ?_
   refine b_F rfl rfl rfl rfl rfl rfl ?_
   refine b_F rfl rfl rfl rfl rfl rfl ?_
   refine bv rfl (v_pickT rfl rfl rfl) ?_
   refine b_nil (hK _ ?_)
   exact to_L ⟨true, (), h, rfl⟩
  have h := ifF hg40 h
  refine b_T rfl rfl rfl rfl (decide_eq_false hg40) (o_val rfl (v_fieldAddrF fo24_1 rfl) ?_)
  refine b_T rfl rfl rfl rfl rfl (o_val rfl (v_loadF ty22 rfl (l_lit rfl rfl)) ?_)
  refine b_T rfl rfl rfl rfl rfl (o_val rfl (v_lenF rfl rfl ty22 rfl) ?_)
  refine b_T rfl rfl rfl rfl rfl (o_val rfl (v_bin rfl rfl b_gtr) ?_)
  refine bv rfl (v_pickF rfl rfl rfl) ?_
  refine b_nil (hK _ ?_)
  exact to_L ⟨decide (256 < ((p0.2).length : Int)), (), h, rfl⟩
 refine AW.rg rfl fun K hK => bv rfl (v_fieldAddrF fo24_0 rfl) (bv rfl (v_loadF ty22 rfl (l_lit rfl rfl)) (bv rfl (v_lenF rfl rfl ty22 rfl) (bv rfl (v_bin rfl rfl b_eql) (mv rfl rfl ?_))))
 by_cases hg41 : ((p0.1).length : Int) = 0
 ·have h := ifT hg41 h
  refine b_F rfl rfl rfl rfl rfl (decide_eq_true hg41) ?_
  refine b_F rfl rfl rfl rfl rfl rfl ?_
  refine b_F rfl rfl rfl rfl rfl rfl ?_
  refine b_F rfl rfl rfl rfl rfl rfl ?_
  refine bv rfl (v_pickT rfl rfl rfl) ?_
  refine b_nil (hK _ ?_)
  exact to_L ⟨true, (), h, rfl⟩
 have h := ifF hg41 h
 refine b_T rfl rfl rfl rfl (decide_eq_false hg41) (o_val rfl (v_fieldAddrF fo24_1 rfl) ?_)
 refine b_T rfl rfl rfl rfl rfl (o_val rfl (v_loadF ty22 rfl (l_lit rfl rfl)) ?_)
 refine b_T rfl rfl rfl rfl rfl (o_val rfl (v_lenF rfl rfl ty22 rfl) ?_)
 refine b_T rfl rfl rfl rfl rfl (o_val rfl (v_bin rfl rfl b_eql) ?_)
 refine bv rfl (v_pickF rfl rfl rfl) ?_
 refine b_nil (hK _ ?_)
 exact to_L ⟨decide (((p0.2).length : Int) = 0), (), h, rfl⟩
theorem w_ref31_joined {p0 : List (List UInt8)} {p1 : TLabelsStatesEdges} {p2 : List UInt8} {p3 : List UInt8} {r : Bool} (h : m_ref31_joined p0 p1 p2 p3 = some r) : Pure Tryz.prog 88 [slE eStr p0, gA p1, .str p2, .str p3] (· = HV.bool r) := by
 unfold m_ref31_joined at h
 refine Pure.of_body Tryz.func88 rfl rfl (lb rfl) fun hf => ?_
 unfold Tryz.f88
 dsimp only [enumS, Nat.reduceAdd]
 refine AW.rgs rfl fun K hK => b_op rfl (o_box rfl rfl rfl ?_)
 refine mv rfl rfl ?_
 refine bf hK ⟨[(0, slE eStr p0), (2, .str p2), (3, .str p3), (5, gF p1)], []⟩ ?_
 refine AW.seq ?_
 refine AW.rgs rfl fun K hK => mv rfl rfl ?_
 refine bf hK ⟨[(0, slE eStr p0), (2, .str p2), (3, .str p3), (5, gF p1), (9, hI 0)], []⟩ ?_
 refine AW.lpR h (by first | exact up_then | exact up_to) (S := Int) (V := Unit) (fun a v => ⟨[(0, slE eStr p0), (2, .str p2), (3, .str p3), (5, gF p1), (9, hI a)], []⟩) ?_ (X := Unit) (W := Unit) (fun a v => ⟨[], []⟩) (fun a11 w12 h => ?_) (fun a1 w2 st3 h hr4=> ?_)
 ·exact to_L ⟨(), rfl⟩
 ·refine AW.rgs rfl fun K hK => mv rfl rfl ?_
  refine bf hK ⟨[(8, .bool false)], []⟩ ?_
  refine AW.ret ?_
  have h := Option.some.inj h
  subst h
  exact ret_pure (hs := [.bool false]) (.inr rfl) (resT rfl rfl) rfl trivial
 refine AW.seq ?_
 refine AW.rgs rfl fun K hK => mv rfl rfl (mv rfl rfl (bv rfl (v_lenF rfl rfl ty22 rfl) (bv rfl (v_bin rfl rfl b_lss) ?_)))
 refine bf hK ⟨[(0, slE eStr p0), (2, .str p2), (3, .str p3), (5, gF p1), (9, hI a1), (13, .bool (decide (a1 < ((p0).length : Int))))], []⟩ ?_
 refine AW.cond rfl (fun hc => ?_) (fun hc => ?_)
 ·obtain ⟨hc, h⟩ := cT hc h
  refine AW.skip ?_
  refine AW.seq (AW.block ?_)
  refine AW.dgs 10 follows rfl rfl fun K hK => ?_
  refine sv rfl (v_loadF ty27 rfl (l_litA rfl (lb rfl) rfl)) ?_
  refine sm rfl rfl ?_
  refine sm rfl rfl ?_
  refine sm rfl rfl ?_
  obtain ⟨x5, h6, h⟩ := bS h
  refine sv rfl (v_idxF ty22 es22 rfl rfl (idx_lt h6)) ?_
  refine sv rfl (v_loadF ty9 rfl (l_cell eStr h6 (o := 0) rfl rfl)) ?_
  obtain ⟨h7, h⟩ := ifN h
  refine sv rfl (v_bin rfl rfl (b_sadd h7)) ?_
  refine sm rfl rfl ?_
  obtain ⟨h8, h⟩ := ifN h
  refine sv rfl (v_bin rfl rfl (b_sadd h8)) ?_
  obtain ⟨x9, h10, h⟩ := bS h
  refine s_op rfl rfl (ops_call rfl rfl rfl rfl (ACallD.pure0 (w_ref31_accepts h10)) ?_)
  refine s_nil ?_
  refine bf hK ⟨[(0, slE eStr p0), (2, .str p2), (3, .str p3), (5, gF p1), (9, hI a1), (25, .bool x9)], []⟩ ?_
  refine AW.cond rfl (fun hc => ?_) (fun hc => ?_)
  ·have h := ifT hc h
   refine AW.rgs rfl fun K hK => mv rfl rfl ?_
   refine bf hK ⟨[(8, .bool true)], []⟩ ?_
   have h := hr4 _ h
   refine AW.ret ?_
   have h := Option.some.inj h
   subst h
   exact ret_pure (hs := [.bool true]) (.inr rfl) (resT rfl rfl) rfl trivial
  have h := ifF (bF' hc) h
  refine AW.skip ?_
  refine AW.rg rfl fun K hK => mv rfl rfl (bv rfl (v_bin rfl rfl b_add) (mv rfl rfl ?_))
  refine b_nil (hK _ ?_)
  exact to_L ⟨IntKind.wrap .i64 (a1 + 1), (), h, rfl⟩
 obtain ⟨hc, h⟩ := cF hc h
 refine AW.exit ?_
 exact to_L ⟨(), (), h, rfl⟩
theorem w_ref31_Check {p0 : TWordsMerges} {p1 : TLabelsStatesEdges} {r : Int} (h : m_ref31_Check p0 p1 = some r) : Pure Tryz.prog 36 [jA p0, gA p1] (· = hI r) := by
 unfold m_ref31_Check at h
 refine Pure.of_body Tryz.func36 rfl rfl (lb rfl) fun hf => ?_
 unfold Tryz.f36
 dsimp only [enumS, Nat.reduceAdd]
 refine AW.rgs rfl fun K hK => b_op rfl (o_box rfl rfl rfl ?_)
 refine b_op rfl (o_box rfl rfl rfl ?_)
 refine mv rfl rfl ?_
 refine bf hK ⟨[(2, jF p0), (3, gF p1)], []⟩ ?_
 refine AW.seq ?_
 refine AW.rgs rfl fun K hK => bv rfl (v_loadF ty27 rfl (l_litA rfl (lb rfl) rfl)) ?_
 obtain ⟨x1, h2, h⟩ := bS h
 refine b_op rfl (o_call rfl rfl rfl rfl (ACallD.pure0 (w_ref09_Check h2)) ?_)
 refine bv rfl (v_bin rfl rfl b_neq) ?_
 refine bf hK ⟨[(2, jF p0), (3, gF p1), (11, .bool (decide (x1 ≠ 0)))], []⟩ ?_
 refine AW.cond rfl (fun hc => ?_) (fun hc => ?_)
 ·obtain ⟨hc, h⟩ := cT hc h
  refine AW.rgs rfl fun K hK => mv rfl rfl ?_
  refine bf hK ⟨[(4, hI 1)], []⟩ ?_
  refine AW.ret ?_
  have h := Option.some.inj h
  subst h
  exact ret_pure (hs := [hI 1]) (.inr rfl) (resT rfl rfl) rfl trivial
 obtain ⟨hc, h⟩ := cF hc h
 refine AW.skip ?_
 refine AW.seq ?_
 refine AW.rgs rfl fun K hK => bv rfl (v_fieldAddrF fo27_0 rfl) (bv rfl (v_loadF ty3 rfl (l_lit rfl rfl)) (bv rfl (v_bin rfl rfl b_neq) ?_))
 refine bf hK ⟨[(2, jF p0), (3, gF p1), (14, .bool (decide (p1.1 ≠ 2)))], []⟩ ?_
 refine AW.cond rfl (fun hc => ?_) (fun hc => ?_)
 ·obtain ⟨hc, h⟩ := cT hc h
  refine AW.rgs rfl fun K hK => mv rfl rfl ?_
  refine bf hK ⟨[(4, hI 12)], []⟩ ?_
  refine AW.ret ?_
  have h := Option.some.inj h
  subst h
  exact ret_pure (hs := [hI 12]) (.inr rfl) (resT rfl rfl) rfl trivial
 obtain ⟨hc, h⟩ := cF hc h
 refine AW.skip ?_
 refine AW.seq ?_
 refine AW.rgs rfl fun K hK => bv rfl (v_loadF ty24 rfl (l_litA rfl (lb rfl) rfl)) ?_
 obtain ⟨x3, h4, h⟩ := bS h
 refine b_op rfl (o_call rfl rfl rfl rfl (ACallD.pure0 (w_ref31_Form h4)) ?_)
 refine mv rfl rfl ?_
 refine bf hK ⟨[(2, jF p0), (3, gF p1), (5, hI x3)], []⟩ ?_
 refine AW.rgs rfl fun K hK => mv rfl rfl (bv rfl (v_bin rfl rfl b_neq) ?_)
 refine bf hK ⟨[(2, jF p0), (3, gF p1), (5, hI x3), (18, .bool (decide (x3 ≠ 0)))], []⟩ ?_
 refine AW.cond rfl (fun hc => ?_) (fun hc => ?_)
 ·obtain ⟨hc, h⟩ := cT hc h
  refine AW.rgs rfl fun K hK => mv rfl rfl (mv rfl rfl ?_)
  refine bf hK ⟨[(4, hI x3)], []⟩ ?_
  refine AW.ret ?_
  have h := Option.some.inj h
  subst h
  exact ret_pure (hs := [hI x3]) (.inr rfl) (resT rfl rfl) rfl trivial
 obtain ⟨hc, h⟩ := cF hc h
 refine AW.skip ?_
 refine AW.seq ?_
 refine AW.rgs rfl fun K hK => mv rfl rfl ?_
 refine bf hK ⟨[(2, jF p0), (3, gF p1), (6, hI 0)], []⟩ ?_
 refine AW.lpR h (by first | exact up_then | exact up_to) (S := Int) (V := Unit) (fun a v => ⟨[(2, jF p0), (3, gF p1), (6, hI a)], []⟩) ?_ (X := Unit) (W := Unit) (fun a v => ⟨[(2, jF p0), (3, gF p1)], []⟩) (fun a13 w14 h => ?_) (fun a5 w6 st7 h hr8=> ?_)
 ·exact to_L ⟨(), rfl⟩
 ·refine AW.seq ?_
  refine AW.rgs rfl fun K hK => mv rfl rfl ?_
  refine bf hK ⟨[(2, jF p0), (3, gF p1), (7, hI 0)], []⟩ ?_
  refine AW.lpR h (by first | exact up_then | exact up_to) (S := Int) (V := Unit) (fun a v => ⟨[(2, jF p0), (3, gF p1), (7, hI a)], []⟩) ?_ (X := Unit) (W := Unit) (fun a v => ⟨[], []⟩) (fun a31 w32 h => ?_) (fun a15 w16 st17 h hr18=> ?_)
  ·exact to_L ⟨(), rfl⟩
  ·refine AW.rgs rfl fun K hK => mv rfl rfl ?_
   refine bf hK ⟨[(4, hI 0)], []⟩ ?_
   refine AW.ret ?_
   have h := Option.some.inj h
   subst h
   exact ret_pure (hs := [hI 0]) (.inr rfl) (resT rfl rfl) rfl trivial
  refine AW.seq ?_
  refine AW.rgs rfl fun K hK => mv rfl rfl (bv rfl (v_fieldAddrF fo24_0 rfl) (bv rfl (v_loadF ty22 rfl (l_lit rfl rfl)) (bv rfl (v_lenF rfl rfl ty22 rfl) (bv rfl (v_bin rfl rfl b_lss) ?_))))
  refine bf hK ⟨[(2, jF p0), (3, gF p1), (7, hI a15), (39, .bool (decide (a15 < ((p0.1).length : Int))))], []⟩ ?_
  refine AW.cond rfl (fun hc => ?_) (fun hc => ?_)
  ·obtain ⟨hc, h⟩ := cT hc h
   refine AW.skip ?_
   refine AW.seq (AW.block ?_)
   refine AW.rgs rfl fun K hK => mv rfl rfl ?_
   refine bf hK ⟨[(2, jF p0), (3, gF p1), (7, hI a15), (8, hI 0)], []⟩ ?_
   refine AW.lpR h (by first | exact up_then | exact up_to) (S := Int) (V := Unit) (fun a v => ⟨[(2, jF p0), (3, gF p1), (7, hI a15), (8, hI a)], []⟩) ?_ (X := Unit) (W := Unit) (fun a v => ⟨[(2, jF p0), (3, gF p1), (7, hI a15)], []⟩) (fun a29 w30 h => ?_) (fun a19 w20 st21 h hr22=> ?_)
   ·exact to_L ⟨(), rfl⟩
   ·refine AW.rg rfl fun K hK => mv rfl rfl (bv rfl (v_bin rfl rfl b_add) (mv rfl rfl ?_))
    refine b_nil (hK _ ?_)
    exact to_L ⟨IntKind.wrap .i64 (a15 + 1), (), h, rfl⟩
   refine AW.seq ?_
   refine AW.rgs rfl fun K hK => mv rfl rfl (bv rfl (v_fieldAddrF fo24_0 rfl) (bv rfl (v_loadF ty22 rfl (l_lit rfl rfl)) (bv rfl (v_lenF rfl rfl ty22 rfl) (bv rfl (v_bin rfl rfl b_lss) ?_))))
   refine bf hK ⟨[(2, jF p0), (3, gF p1), (7, hI a15), (8, hI a19), (46, .bool (decide (a19 < ((p0.1).length : Int))))], []⟩ ?_
   refine AW.cond rfl (fun hc => ?_) (fun hc => ?_)
   ·obtain ⟨hc, h⟩ := cT hc h
    refine AW.skip ?_
    refine AW.seq (AW.block ?_)
    refine AW.dgs 15 follows rfl rfl fun K hK => ?_
    refine sv rfl (v_fieldAddrF fo24_1 rfl) ?_
    refine sv rfl (v_loadF ty22 rfl (l_lit rfl rfl)) ?_
    refine sv rfl (v_loadF ty27 rfl (l_litA rfl (lb rfl) rfl)) ?_
    refine sv rfl (v_fieldAddrF fo24_0 rfl) ?_
    refine sv rfl (v_loadF ty22 rfl (l_lit rfl rfl)) ?_
    refine sm rfl rfl ?_
    obtain ⟨x23, h24, h⟩ := bS h
    refine sv rfl (v_idxF ty22 es22 rfl rfl (idx_lt h24)) ?_
    refine sv rfl (v_loadF ty9 rfl (l_cell eStr h24 (o := 0) rfl rfl)) ?_
    refine sv rfl (v_fieldAddrF fo24_0 rfl) ?_
    refine sv rfl (v_loadF ty22 rfl (l_lit rfl rfl)) ?_
    refine sm rfl rfl ?_
    obtain ⟨x25, h26, h⟩ := bS h
    refine sv rfl (v_idxF ty22 es22 rfl rfl (idx_lt h26)) ?_
    refine sv rfl (v_loadF ty9 rfl (l_cell eStr h26 (o := 0) rfl rfl)) ?_
    obtain ⟨x27, h28, h⟩ := bS h
    refine s_op rfl rfl (ops_call rfl rfl rfl rfl (ACallD.pure0 (w_ref31_joined h28)) ?_)
    refine sv rfl (v_not rfl) ?_
    refine s_nil ?_
    refine bf hK ⟨[(2, jF p0), (3, gF p1), (7, hI a15), (8, hI a19), (63, .bool (!x27))], []⟩ ?_
    refine AW.cond rfl (fun hc => ?_) (fun hc => ?_)
    ·have h := ifT hc h
     refine AW.rgs rfl fun K hK => mv rfl rfl ?_
     refine bf hK ⟨[(4, hI 15)], []⟩ ?_
     have h := hr22 _ h
     have h := hr18 _ h
     refine AW.ret ?_
     have h := Option.some.inj h
     subst h
     exact ret_pure (hs := [hI 15]) (.inr rfl) (resT rfl rfl) rfl trivial
    have h := ifF (bF' hc) h
    refine AW.skip ?_
    refine AW.rg rfl fun K hK => mv rfl rfl (bv rfl (v_bin rfl rfl b_add) (mv rfl rfl ?_))
    refine b_nil (hK _ ?_)
    exact to_L ⟨IntKind.wrap .i64 (a19 + 1), (), h, rfl⟩
   obtain ⟨hc, h⟩ := cF hc h
   refine AW.exit ?_
   exact to_L ⟨(), (), h, rfl⟩
  obtain ⟨hc, h⟩ := cF hc h
  refine AW.exit ?_
  exact to_L ⟨(), (), h, rfl⟩
 refine AW.seq ?_
 refine AW.rgs rfl fun K hK => mv rfl rfl (bv rfl (v_fieldAddrF fo24_0 rfl) (bv rfl (v_loadF ty22 rfl (l_lit rfl rfl)) (bv rfl (v_lenF rfl rfl ty22 rfl) (bv rfl (v_bin rfl rfl b_lss) ?_))))
 refine bf hK ⟨[(2, jF p0), (3, gF p1), (6, hI a5), (24, .bool (decide (a5 < ((p0.1).length : Int))))], []⟩ ?_
 refine AW.cond rfl (fun hc => ?_) (fun hc => ?_)
 ·obtain ⟨hc, h⟩ := cT hc h
  refine AW.skip ?_
  refine AW.seq (AW.block ?_)
  refine AW.dgs 8 follows rfl rfl fun K hK => ?_
  refine sv rfl (v_loadF ty27 rfl (l_litA rfl (lb rfl) rfl)) ?_
  refine sv rfl (v_fieldAddrF fo24_0 rfl) ?_
  refine sv rfl (v_loadF ty22 rfl (l_lit rfl rfl)) ?_
  refine sm rfl rfl ?_
  obtain ⟨x9, h10, h⟩ := bS h
  refine sv rfl (v_idxF ty22 es22 rfl rfl (idx_lt h10)) ?_
  refine sv rfl (v_loadF ty9 rfl (l_cell eStr h10 (o := 0) rfl rfl)) ?_
  obtain ⟨x11, h12, h⟩ := bS h
  refine s_op rfl rfl (ops_call rfl rfl rfl rfl (ACallD.pure0 (w_ref31_accepts h12)) ?_)
  refine sv rfl (v_not rfl) ?_
  refine s_nil ?_
  refine bf hK ⟨[(2, jF p0), (3, gF p1), (6, hI a5), (34, .bool (!x11))], []⟩ ?_
  refine AW.cond rfl (fun hc => ?_) (fun hc => ?_)
  ·have h := ifT hc h
   refine AW.rgs rfl fun K hK => mv rfl rfl ?_
   refine bf hK ⟨[(4, hI 13)], []⟩ ?_
   have h := hr8 _ h
   refine AW.ret ?_
   have h := Option.some.inj h
   subst h
   exact ret_pure (hs := [hI 13]) (.inr rfl) (resT rfl rfl) rfl trivial
  have h := ifF (bF' hc) h
  refine AW.skip ?_
  refine AW.rg rfl fun K hK => mv rfl rfl (bv rfl (v_bin rfl rfl b_add) (mv rfl rfl ?_))
  refine b_nil (hK _ ?_)
  exact to_L ⟨IntKind.wrap .i64 (a5 + 1), (), h, rfl⟩
 obtain ⟨hc, h⟩ := cF hc h
 refine AW.exit ?_
 exact to_L ⟨(), (), h, rfl⟩
theorem w_ref31_Merges {p0 : TWordsMerges} {p1 : TLabelsStatesEdges} {p2 : Int} {p3 : Int} {r : (List (Int)) × Int} (h : m_ref31_Merges p0 p1 p2 p3 = some r) : Pure Tryz.prog 31 [jA p0, gA p1, hI p2, hI p3] (· = HV.tup [slE eInt r.1, hI r.2]) := by
 unfold m_ref31_Merges at h
 refine Pure.of_body Tryz.func31 rfl rfl (lb rfl) fun hf => ?_
 unfold Tryz.f31
 dsimp only [enumS, Nat.reduceAdd]
 refine AW.rgs rfl fun K hK => b_op rfl (o_box rfl rfl rfl ?_)
 refine b_op rfl (o_box rfl rfl rfl ?_)
 refine mv rfl rfl (mv rfl rfl ?_)
 refine bf hK ⟨[(2, hI p2), (3, hI p3), (4, jF p0), (5, gF p1)], []⟩ ?_
 refine AW.seq ?_
 refine AW.rgs rfl fun K hK => bv rfl (v_loadF ty24 rfl (l_litA rfl (lb rfl) rfl)) (bv rfl (v_loadF ty27 rfl (l_litA rfl (lb rfl) rfl)) ?_)
 obtain ⟨x1, h2, h⟩ := bS h
 refine b_op rfl (o_call rfl rfl rfl rfl (ACallD.pure0 (w_ref31_Check h2)) ?_)
 refine bv rfl (v_bin rfl rfl b_neq) ?_
 refine bf hK ⟨[(2, hI p2), (3, hI p3), (4, jF p0), (5, gF p1), (15, .bool (decide (x1 ≠ 0)))], []⟩ ?_
 refine AW.cond rfl (fun hc => ?_) (fun hc => ?_)
 ·obtain ⟨hc, h⟩ := cT hc h
  refine AW.rgs rfl fun K hK => mv rfl rfl (mv rfl rfl ?_)
  refine bf hK ⟨[(8, .v (.slice none 0 0)), (9, hI 1)], []⟩ ?_
  refine AW.to (to_weak ⟨[(8, slE eInt ([] : List Int)), (9, hI 1)], []⟩ ⟨⟨_, rfl, .nil _⟩, ⟨_, rfl, .refl _⟩, trivial⟩ trivial ?_)
  refine AW.ret ?_
  have h := Option.some.inj h
  subst h
  exact ret_pure (hs := [slE eInt ([] : List Int), hI 1]) (.inr rfl) (resT rfl (resT rfl rfl)) rfl ⟨(clean_slE fun _ _ => ⟨trivial, trivial⟩), trivial, trivial⟩
 obtain ⟨hc, h⟩ := cF hc h
 refine AW.skip ?_
 refine AW.seq ?_
 refine AW.seqJ h (S := Bool) (V := Unit) (fun a v => ⟨[(2, hI p2), (3, hI p3), (4, jF p0), (5, gF p1), (35, .bool a)], []⟩) (fun a3 w4 h => ?_) (fun k5 h => ?_)
 ·refine AW.cond rfl (fun hc => ?_) (fun hc => ?_)
  ·have h := ifT hc h
   refine AW.rgs rfl fun K hK => mv rfl rfl (mv rfl rfl ?_)
   refine bf hK ⟨[(8, .v (.slice none 0 0)), (9, hI 2)], []⟩ ?_
   refine AW.to (to_weak ⟨[(8, slE eInt ([] : List Int)), (9, hI 2)], []⟩ ⟨⟨_, rfl, .nil _⟩, ⟨_, rfl, .refl _⟩, trivial⟩ trivial ?_)
   refine AW.ret ?_
   have h := Option.some.inj h
   subst h
   exact ret_pure (hs := [slE eInt ([] : List Int), hI 2]) (.inr rfl) (resT rfl (resT rfl rfl)) rfl ⟨(clean_slE fun _ _ => ⟨trivial, trivial⟩), trivial, trivial⟩
  have h := ifF (bF' hc) h
  refine AW.skip ?_
  refine AW.rgs rfl fun K hK => b_op rfl (o_bslM (fid := 31) 31036 rfl rfl rfl (as_of (cs := []) ty31 ty3 rfl rfl rfl rfl rfl) (fun v6 => ?_))
  refine mv rfl rfl ?_
  refine bf hK ⟨[(2, hI p2), (3, hI p3), (4, jF p0), (5, gF p1), (10, .ar 31036 v6 eInt.k 0 0)], [(31036, v6, .arr eInt.k 3 [])]⟩ ?_
  refine AW.seq ?_
  refine AW.rgs rfl fun K hK => mv rfl rfl ?_
  refine bf hK ⟨[(2, hI p2), (3, hI p3), (4, jF p0), (5, gF p1), (10, .ar 31036 v6 eInt.k 0 0), (11, hI 0)], [(31036, v6, .arr eInt.k 3 [])]⟩ ?_
  refine AW.lpX h (by first | exact up_then | exact up_to) (S := Int × (List Int)) (V := Nat) (fun a v => ⟨[(2, hI p2), (3, hI p3), (4, jF p0), (5, gF p1), (10, .ar 31036 v eInt.k 0 ((a.2).length)), (11, hI a.1)], [(31036, v, .arr eInt.k 3 (eInt.E a.2))]⟩) ?_ (X := (List Int)) (W := Nat) (fun a v => ⟨[(10, .ar 31036 v eInt.k 0 ((a).length))], [(31036, v, .arr eInt.k 3 (eInt.E a))]⟩) (fun a26 w27 h => ?_) (fun a7 w8 st9 h => ?_)
  ·exact to_L ⟨v6, rfl⟩
  ·refine AW.rgs rfl fun K hK => mv rfl rfl (mv rfl rfl (mv rfl rfl ?_))
   refine bf hK ⟨[(8, .ar 31036 w27 eInt.k 0 ((a26).length)), (9, hI 0)], [(31036, w27, .arr eInt.k 3 (eInt.E a26))]⟩ ?_
   refine AW.to (to_frz 2 [(31036, w27, .arr eInt.k 3 (eInt.E a26))] ⟨[(8, slE eInt a26), (9, hI 0)], []⟩ ⟨⟨_, rfl, frz_slE eInt (l := a26) rfl fun _ _ => rfl⟩, ⟨_, rfl, rfl⟩, trivial⟩ trivial ⟨rfl, trivial⟩ ⟨rfl, trivial⟩ ?_)
   refine AW.ret ?_
   have h := Option.some.inj h
   subst h
   exact ret_pure (hs := [slE eInt a26, hI 0]) (.inr rfl) (resT rfl (resT rfl rfl)) rfl ⟨(clean_slE fun _ _ => ⟨trivial, trivial⟩), trivial, trivial⟩
  refine AW.seq ?_
  refine AW.rgs rfl fun K hK => mv rfl rfl (bv rfl (v_fieldAddrF fo24_1 rfl) (bv rfl (v_loadF ty22 rfl (l_lit rfl rfl)) (bv rfl (v_lenF rfl rfl ty22 rfl) (bv rfl (v_bin rfl rfl b_lss) ?_))))
  refine bf hK ⟨[(2, hI p2), (3, hI p3), (4, jF p0), (5, gF p1), (10, .ar 31036 w8 eInt.k 0 ((a7.2).length)), (11, hI a7.1), (41, .bool (decide (a7.1 < ((p0.2).length : Int))))], [(31036, w8, .arr eInt.k 3 (eInt.E a7.2))]⟩ ?_
  refine AW.cond rfl (fun hc => ?_) (fun hc => ?_)
  ·obtain ⟨hc, h⟩ := cT hc h
   refine AW.skip ?_
   refine AW.seqJ h (S := (List Int)) (V := Nat) (fun a v => ⟨[(2, hI p2), (3, hI p3), (4, jF p0), (5, gF p1), (10, .ar 31036 v eInt.k 0 ((a).length)), (11, hI a7.1)], [(31036, v, .arr eInt.k 3 (eInt.E a))]⟩) (fun a11 w12 h => ?_) (fun k13 h => ?_)
   ·refine AW.rg rfl fun K hK => mv rfl rfl (bv rfl (v_bin rfl rfl b_add) (mv rfl rfl ?_))
    refine b_nil (hK _ ?_)
    exact to_L ⟨(IntKind.wrap .i64 (a7.1 + 1), a11), w12, h, rfl⟩
   refine AW.block ?_
   refine AW.dgs 19 follows rfl rfl fun K hK => ?_
   refine sv rfl (v_loadF ty27 rfl (l_litA rfl (lb rfl) rfl)) ?_
   refine sv rfl (v_fieldAddrF fo24_0 rfl) ?_
   refine sv rfl (v_loadF ty22 rfl (l_lit rfl rfl)) ?_
   refine sm rfl rfl ?_
   obtain ⟨x14, h15, h⟩ := bS h
   refine sv rfl (v_idxF ty22 es22 rfl rfl (idx_lt h15)) ?_
   refine sv rfl (v_loadF ty9 rfl (l_cell eStr h15 (o := 0) rfl rfl)) ?_
   refine sv rfl (v_fieldAddrF fo24_1 rfl) ?_
   refine sv rfl (v_loadF ty22 rfl (l_lit rfl rfl)) ?_
   refine sm rfl rfl ?_
   obtain ⟨x16, h17, h⟩ := bS h
   refine sv rfl (v_idxF ty22 es22 rfl rfl (idx_lt h17)) ?_
   refine sv rfl (v_loadF ty9 rfl (l_cell eStr h17 (o := 0) rfl rfl)) ?_
   obtain ⟨h18, h⟩ := ifN h
   refine sv rfl (v_bin rfl rfl (b_sadd h18)) ?_
   refine sv rfl (v_fieldAddrF fo24_0 rfl) ?_
   refine sv rfl (v_loadF ty22 rfl (l_lit rfl rfl)) ?_
   refine sm rfl rfl ?_
   obtain ⟨x19, h20, h⟩ := bS h
   refine sv rfl (v_idxF ty22 es22 rfl rfl (idx_lt h20)) ?_
   refine sv rfl (v_loadF ty9 rfl (l_cell eStr h20 (o := 0) rfl rfl)) ?_
   obtain ⟨h21, h⟩ := ifN h
   refine sv rfl (v_bin rfl rfl (b_sadd h21)) ?_
   obtain ⟨x22, h23, h⟩ := bS h
   refine s_op rfl rfl (ops_call rfl rfl rfl rfl (ACallD.pure0 (w_ref31_accepts h23)) ?_)
   refine s_nil ?_
   refine bf hK ⟨[(2, hI p2), (3, hI p3), (4, jF p0), (5, gF p1), (10, .ar 31036 w8 eInt.k 0 ((a7.2).length)), (11, hI a7.1), (62, .bool x22)], [(31036, w8, .arr eInt.k 3 (eInt.E a7.2))]⟩ ?_
   refine AW.cond rfl (fun hc => ?_) (fun hc => ?_)
   ·have h := ifT hc h
    refine AW.rg rfl fun K hK => mv rfl rfl (mv rfl rfl ?_)
    refine b_op rfl (o_bsl rfl rfl (as_of (cs := [hI a7.1]) ty31 ty3 rfl rfl rfl rfl rfl) ?_)
    obtain ⟨h25, h⟩ := ifN h
    refine b_op rfl (o_appE eInt (l := a7.2) (m := [a7.1]) rfl rfl ty31 ty31 ty3 rfl rfl rfl rfl rfl h25 (fun v24 => ?_))
    refine mv rfl rfl ?_
    refine b_nil (hK _ ?_)
    exact to_L ⟨a7.2 ++ [a7.1], v24, h, rfl⟩
   have h := ifF (bF' hc) h
   refine AW.skip ?_
   exact to_L ⟨a7.2, w8, h, rfl⟩
  obtain ⟨hc, h⟩ := cF hc h
  refine AW.exit ?_
  exact to_L ⟨a7.2, w8, h, rfl⟩
 refine AW.rg rfl fun K hK => mv rfl rfl (bv rfl (v_bin rfl rfl b_lss) (mv rfl rfl ?_))
 by_cases hg30 : p2 < 0
 ·have h := ifT hg30 h
  refine b_F rfl rfl rfl rfl rfl (decide_eq_true hg30) ?_
  refine b_F rfl rfl rfl rfl rfl rfl ?_
  refine b_F rfl rfl rfl rfl rfl rfl ?_
  refine b_F rfl rfl rfl rfl rfl rfl ?_
  refine b_F rfl rfl rfl rfl rfl rfl ?_
  refine bv rfl (v_pickT rfl rfl rfl) (mv rfl rfl ?_)
  refine b_F rfl rfl rfl rfl rfl rfl ?_
  refine b_F rfl rfl rfl rfl rfl rfl ?_
  refine bv rfl (v_pickT rfl rfl rfl) (mv rfl rfl ?_)
  refine b_F rfl rfl rfl rfl rfl rfl ?_
  refine b_F rfl rfl rfl rfl rfl rfl ?_
  refine b_F rfl rfl rfl rfl rfl rfl ?_
  refine b_F rfl rfl rfl rfl rfl rfl ?_
  refine b_F rfl rfl rfl rfl rfl rfl ?_
  refine bv rfl (v_pickT rfl rfl rfl) ?_
  refine b_nil (hK _ ?_)
  exact to_L ⟨true, (), h, rfl⟩
 have h := ifF hg30 h
 refine b_T rfl rfl rfl rfl (decide_eq_false hg30) (o_val rfl (mv_val rfl rfl).2 ?_)
 refine b_T rfl rfl rfl rfl rfl (o_val rfl (v_fieldAddrF fo24_0 rfl) ?_)
 refine b_T rfl rfl rfl rfl rfl (o_val rfl (v_loadF ty22 rfl (l_lit rfl rfl)) ?_)
 refine b_T rfl rfl rfl rfl rfl (o_val rfl (v_lenF rfl rfl ty22 rfl) ?_)
 refine b_T rfl rfl rfl rfl rfl (o_val rfl (v_bin rfl rfl b_geq) ?_)
 refine bv rfl (v_pickF rfl rfl rfl) (mv rfl rfl ?_)
 by_cases hg29 : ((p0.1).length : Int) ≤ p2
 ·have h := ifT hg29 h
  refine b_F rfl rfl rfl rfl rfl (decide_eq_true hg29) ?_
  refine b_F rfl rfl rfl rfl rfl rfl ?_
  refine bv rfl (v_pickT rfl rfl rfl) (mv rfl rfl ?_)
  refine b_F rfl rfl rfl rfl rfl rfl ?_
  refine b_F rfl rfl rfl rfl rfl rfl ?_
  refine b_F rfl rfl rfl rfl rfl rfl ?_
  refine b_F rfl rfl rfl rfl rfl rfl ?_
  refine b_F rfl rfl rfl rfl rfl rfl ?_
  refine bv rfl (v_pickT rfl rfl rfl) ?_
  refine b_nil (hK _ ?_)
  exact to_L ⟨true, (), h, rfl⟩
 have h := ifF hg29 h
 refine b_T rfl rfl rfl rfl (decide_eq_false hg29) (o_val rfl (mv_val rfl rfl).2 ?_)
 refine b_T rfl rfl rfl rfl rfl (o_val rfl (v_bin rfl rfl b_lss) ?_)
 refine bv rfl (v_pickF rfl rfl rfl) (mv rfl rfl ?_)
 by_cases hg28 : p3 < 0
 ·have h := ifT hg28 h
  refine b_F rfl rfl rfl rfl rfl (decide_eq_true hg28) ?_
  refine b_F rfl rfl rfl rfl rfl rfl ?_
  refine b_F rfl rfl rfl rfl rfl rfl ?_
  refine b_F rfl rfl rfl rfl rfl rfl ?_
  refine b_F rfl rfl rfl rfl rfl rfl ?_
  refine bv rfl (v_pickT rfl rfl rfl) ?_
  refine b_nil (hK _ ?_)
  exact to_L ⟨true, (), h, rfl⟩
 have h := ifF hg28 h
 refine b_T rfl rfl rfl rfl (decide_eq_false hg28) (o_val rfl (mv_val rfl rfl).2 ?_)
 refine b_T rfl rfl rfl rfl rfl (o_val rfl (v_fieldAddrF fo24_0 rfl) ?_)
 refine b_T rfl rfl rfl rfl rfl (o_val rfl (v_loadF ty22 rfl (l_lit rfl rfl)) ?_)
 refine b_T rfl rfl rfl rfl rfl (o_val rfl (v_lenF rfl rfl ty22 rfl) ?_)
 refine b_T rfl rfl rfl rfl rfl (o_val rfl (v_bin rfl rfl b_geq) ?_)
 refine bv rfl (v_pickF rfl rfl rfl) ?_
 refine b_nil (hK _ ?_)
 exact to_L ⟨decide (((p0.1).length : Int) ≤ p3), (), h, rfl⟩
theorem w_slices_Index_Lstring_string {p0 : List (List UInt8)} {p1 : List UInt8} {r : Int} (h : m_slices_Index_Lstring_string p0 p1 = some r) : Pure Tryz.prog 78 [slE eStr p0, .str p1] (· = hI r) := by
 unfold m_slices_Index_Lstring_string at h
 refine Pure.of_body Tryz.func78 rfl rfl (lb rfl) fun hf => ?_
 unfold Tryz.f78
 dsimp only [enumS, Nat.reduceAdd]
 refine AW.rgs rfl fun K hK => mv rfl rfl ?_
 refine bf hK ⟨[(0, slE eStr p0), (1, .str p1)], []⟩ ?_
 refine AW.seq ?_
 refine AW.rgs rfl fun K hK => mv rfl rfl (bv rfl (v_lenF rfl rfl ty22 rfl) (mv rfl rfl ?_))
 refine bf hK ⟨[(0, slE eStr p0), (1, .str p1), (7, hI ((p0).length : Int)), (8, hI 0)], []⟩ ?_
 refine AW.lpR h (by first | exact up_then | exact up_to) (S := Int) (V := Unit) (fun a v => ⟨[(0, slE eStr p0), (1, .str p1), (7, hI ((p0).length : Int)), (8, hI a)], []⟩) ?_ (X := Unit) (W := Unit) (fun a v => ⟨[], []⟩) (fun a7 w8 h => ?_) (fun a1 w2 st3 h hr4=> ?_)
 ·exact to_L ⟨(), rfl⟩
 ·refine AW.rgs rfl fun K hK => mv rfl rfl ?_
  refine bf hK ⟨[(4, hI (-1))], []⟩ ?_
  refine AW.ret ?_
  have h := Option.some.inj h
  subst h
  exact ret_pure (hs := [hI (-1)]) (.inr rfl) (resT rfl rfl) rfl trivial
 refine AW.rgs rfl fun K hK => bv rfl (v_bin rfl rfl b_lss) ?_
 refine bf hK ⟨[(0, slE eStr p0), (1, .str p1), (7, hI ((p0).length : Int)), (8, hI a1), (9, .bool (decide (a1 < ((p0).length : Int))))], []⟩ ?_
 refine AW.cseq rfl (fun hc => ?_) (fun hc => ?_)
 ·obtain ⟨hc, h⟩ := cT hc h
  refine AW.skip ?_
  refine AW.seq (AW.block ?_)
  refine AW.rgs rfl fun K hK => mv rfl rfl (mv rfl rfl ?_)
  refine bf hK ⟨[(0, slE eStr p0), (1, .str p1), (5, hI a1), (7, hI ((p0).length : Int)), (8, hI a1)], []⟩ ?_
  refine AW.rgs rfl fun K hK => mv rfl rfl (mv rfl rfl (mv rfl rfl ?_))
  obtain ⟨x5, h6, h⟩ := bS h
  refine bv rfl (v_idxF ty22 es22 rfl rfl (idx_lt h6)) (bv rfl (v_loadF ty9 rfl (l_cell eStr h6 (o := 0) rfl rfl)) (bv rfl (v_bin rfl rfl b_seql) ?_))
  refine bf hK ⟨[(0, slE eStr p0), (1, .str p1), (5, hI a1), (7, hI ((p0).length : Int)), (8, hI a1), (16, .bool (decide (p1 = x5)))], []⟩ ?_
  refine AW.cond rfl (fun hc => ?_) (fun hc => ?_)
  ·obtain ⟨hc, h⟩ := cT hc h
   refine AW.rgs rfl fun K hK => mv rfl rfl (mv rfl rfl ?_)
   refine bf hK ⟨[(4, hI a1)], []⟩ ?_
   have h := hr4 _ h
   refine AW.ret ?_
   have h := Option.some.inj h
   subst h
   exact ret_pure (hs := [hI a1]) (.inr rfl) (resT rfl rfl) rfl trivial
  obtain ⟨hc, h⟩ := cF hc h
  refine AW.skip ?_
  refine AW.rg rfl fun K hK => bv rfl (v_bin rfl rfl b_add) (mv rfl rfl ?_)
  refine b_nil (hK _ ?_)
  exact to_L ⟨IntKind.wrap .i64 (a1 + 1), (), h, rfl⟩
 obtain ⟨hc, h⟩ := cF hc h
 refine AW.exit ?_
 exact to_L ⟨(), (), h, rfl⟩
theorem w_slices_Contains_Lstring_string {p0 : List (List UInt8)} {p1 : List UInt8} {r : Bool} (h : m_slices_Contains_Lstring_string p0 p1 = some r) : Pure Tryz.prog 38 [slE eStr p0, .str p1] (· = HV.bool r) := by
 unfold m_slices_Contains_Lstring_string at h
 refine Pure.of_body Tryz.func38 rfl rfl (lb rfl) fun hf => ?_
 unfold Tryz.f38
 dsimp only [enumS, Nat.reduceAdd]
 refine AW.rgs rfl fun K hK => mv rfl rfl ?_
 refine bf hK ⟨[(0, slE eStr p0), (1, .str p1)], []⟩ ?_
 refine AW.rgs rfl fun K hK => mv rfl rfl (mv rfl rfl ?_)
 obtain ⟨x1, h2, h⟩ := bS h
 refine b_op rfl (o_call rfl rfl rfl rfl (ACallD.pure0 (w_slices_Index_Lstring_string h2)) ?_)
 refine bv rfl (v_bin rfl rfl b_geq) (mv rfl rfl ?_)
 refine bf hK ⟨[(4, .bool (decide (0 ≤ x1)))], []⟩ ?_
 refine AW.ret ?_
 have h := Option.some.inj h
 subst h
 exact ret_pure (hs := [.bool (decide (0 ≤ x1))]) (.inr rfl) (resT rfl rfl) rfl trivial
theorem w_merging_Decode {p0 : TWordsMerges} {p1 : List UInt8} {r : (List (Int)) × Int} (h : m_merging_Decode p0 p1 = some r) : Pure Tryz.prog 32 [jA p0, .str p1] (· = HV.tup [slE eInt r.1, hI r.2]) := by
 unfold m_merging_Decode at h
 refine Pure.of_body Tryz.func32 rfl rfl (lb rfl) fun hf => ?_
 unfold Tryz.f32
 dsimp only [enumS, Nat.reduceAdd]
 refine AW.rgs rfl fun K hK => b_op rfl (o_box rfl rfl rfl ?_)
 refine mv rfl rfl (mv rfl rfl ?_)
 refine bf hK ⟨[(1, .str p1), (2, jF p0)], []⟩ ?_
 refine AW.seq ?_
 refine AW.rgs rfl fun K hK => bv rfl (v_loadF ty24 rfl (l_litA rfl (lb rfl) rfl)) ?_
 obtain ⟨x1, h2, h⟩ := bS h
 refine b_op rfl (o_call rfl rfl rfl rfl (ACallD.pure0 (w_merging_form h2)) ?_)
 refine bv rfl (v_bin rfl rfl b_neq) ?_
 refine bf hK ⟨[(1, .str p1), (2, jF p0), (12, .bool (decide (x1 ≠ 0)))], []⟩ ?_
 refine AW.cond rfl (fun hc => ?_) (fun hc => ?_)
 ·obtain ⟨hc, h⟩ := cT hc h
  refine AW.rgs rfl fun K hK => mv rfl rfl (mv rfl rfl ?_)
  refine bf hK ⟨[(4, .v (.slice none 0 0)), (5, hI 1)], []⟩ ?_
  refine AW.to (to_weak ⟨[(4, slE eInt ([] : List Int)), (5, hI 1)], []⟩ ⟨⟨_, rfl, .nil _⟩, ⟨_, rfl, .refl _⟩, trivial⟩ trivial ?_)
  refine AW.ret ?_
  have h := Option.some.inj h
  subst h
  exact ret_pure (hs := [slE eInt ([] : List Int), hI 1]) (.inr rfl) (resT rfl (resT rfl rfl)) rfl ⟨(clean_slE fun _ _ => ⟨trivial, trivial⟩), trivial, trivial⟩
 obtain ⟨hc, h⟩ := cF hc h
 refine AW.skip ?_
 refine AW.seq ?_
 refine AW.rgs rfl fun K hK => mv rfl rfl (bv rfl (v_bin rfl rfl b_seql) ?_)
 refine bf hK ⟨[(1, .str p1), (2, jF p0), (14, .bool (decide (p1 = nS)))], []⟩ ?_
 refine AW.cond rfl (fun hc => ?_) (fun hc => ?_)
 ·obtain ⟨hc, h⟩ := cT hc h
  refine AW.rgs rfl fun K hK => mv rfl rfl (mv rfl rfl ?_)
  refine bf hK ⟨[(4, .v (.slice none 0 0)), (5, hI 0)], []⟩ ?_
  refine AW.to (to_weak ⟨[(4, slE eInt ([] : List Int)), (5, hI 0)], []⟩ ⟨⟨_, rfl, .nil _⟩, ⟨_, rfl, .refl _⟩, trivial⟩ trivial ?_)
  refine AW.ret ?_
  have h := Option.some.inj h
  subst h
  exact ret_pure (hs := [slE eInt ([] : List Int), hI 0]) (.inr rfl) (resT rfl (resT rfl rfl)) rfl ⟨(clean_slE fun _ _ => ⟨trivial, trivial⟩), trivial, trivial⟩
 obtain ⟨hc, h⟩ := cF hc h
 refine AW.skip ?_
 refine AW.dgs 12 follows rfl rfl fun K hK => ?_
 refine sv rfl (v_fieldAddrF fo24_0 rfl) ?_
 refine sv rfl (v_loadF ty22 rfl (l_lit rfl rfl)) ?_
 obtain ⟨x3, h4, h⟩ := bS h
 refine sv rfl (v_idxF ty22 es22 rfl rfl (idx_lt h4)) ?_
 refine sv rfl (v_loadF ty9 rfl (l_cell eStr h4 (o := 0) rfl rfl)) ?_
 refine sv rfl (v_lenS rfl rfl ty9 rfl) ?_
 refine sv rfl (v_fieldAddrF fo24_1 rfl) ?_
 refine sv rfl (v_loadF ty22 rfl (l_lit rfl rfl)) ?_
 obtain ⟨x5, h6, h⟩ := bS h
 refine sv rfl (v_idxF ty22 es22 rfl rfl (idx_lt h6)) ?_
 refine sv rfl (v_loadF ty9 rfl (l_cell eStr h6 (o := 0) rfl rfl)) ?_
 refine sv rfl (v_lenS rfl rfl ty9 rfl) ?_
 refine sm rfl rfl ?_
 refine sm rfl rfl ?_
 refine s_nil ?_
 refine bf hK ⟨[(1, .str p1), (2, jF p0), (6, hI ((x3).length : Int)), (7, hI ((x5).length : Int))], []⟩ ?_
 refine AW.seq ?_
 refine AW.rgs rfl fun K hK => mv rfl rfl (bv rfl (v_lenS rfl rfl ty9 rfl) (mv rfl rfl (bv rfl (v_bin rfl rfl b_add) (mv rfl rfl (mv rfl rfl ?_)))))
 refine bv rfl (v_bin rfl rfl b_add) ?_
 obtain ⟨h7, h⟩ := ifN h
 refine bv rfl (v_bin rfl rfl (b_rem h7)) (bv rfl (v_bin rfl rfl b_neq) ?_)
 refine bf hK ⟨[(1, .str p1), (2, jF p0), (6, hI ((x3).length : Int)), (7, hI ((x5).length : Int)), (33, .bool (decide ((Int.tmod (IntKind.wrap .i64 (((p1).length : Int) + ((x5).length : Int))) (IntKind.wrap .i64 (((x3).length : Int) + ((x5).length : Int)))) ≠ 0)))], []⟩ ?_
 refine AW.cond rfl (fun hc => ?_) (fun hc => ?_)
 ·obtain ⟨hc, h⟩ := cT hc h
  refine AW.rgs rfl fun K hK => mv rfl rfl (mv rfl rfl ?_)
  refine bf hK ⟨[(4, .v (.slice none 0 0)), (5, hI 11)], []⟩ ?_
  refine AW.to (to_weak ⟨[(4, slE eInt ([] : List Int)), (5, hI 11)], []⟩ ⟨⟨_, rfl, .nil _⟩, ⟨_, rfl, .refl _⟩, trivial⟩ trivial ?_)
  refine AW.ret ?_
  have h := Option.some.inj h
  subst h
  exact ret_pure (hs := [slE eInt ([] : List Int), hI 11]) (.inr rfl) (resT rfl (resT rfl rfl)) rfl ⟨(clean_slE fun _ _ => ⟨trivial, trivial⟩), trivial, trivial⟩
 obtain ⟨hc, h⟩ := cF hc h
 refine AW.skip ?_
 refine AW.rgs rfl fun K hK => mv rfl rfl ?_
 refine bf hK ⟨[(1, .str p1), (2, jF p0), (6, hI ((x3).length : Int)), (7, hI ((x5).length : Int)), (8, .v (.slice none 0 0))], []⟩ ?_
 refine AW.seq (AW.lpR h up_then (S := (List UInt8) × (List Int)) (V := Nat) (fun a v => ⟨[(1, .str a.1), (2, jF p0), (6, hI ((x3).length : Int)), (7, hI ((x5).length : Int)), (8, .ar 32060 v eInt.k 0 ((a.2).length))], [(32060, v, .arr eInt.k 3 (eInt.E a.2))]⟩) ?_ (X := (List Int)) (W := Nat) (fun a v => ⟨[(8, .ar 32060 v eInt.k 0 ((a).length))], [(32060, v, .arr eInt.k 3 (eInt.E a))]⟩) (fun a24 w25 h => ?_) (fun a8 w9 st10 h hr11=> ?_))
 ·refine to_bind (to_own 32060 8 eInt.k 3 rfl fun v23 => ?_)
  exact to_le (s' := ⟨[(1, .str p1), (2, jF p0), (6, hI ((x3).length : Int)), (7, hI ((x5).length : Int)), (8, .ar 32060 v23 eInt.k 0 ((([] : List Int)).length))], [(32060, v23, .arr eInt.k 3 (eInt.E ([] : List Int)))]⟩) (AS.le_of ⟨rfl, rfl, rfl, rfl, arl (by first | rfl | simp only [List.length_set, sortI_len, sortS_len]), trivial⟩ ⟨rfl, trivial⟩) ⟨v23, rfl⟩
 ·refine AW.rgs rfl fun K hK => mv rfl rfl (mv rfl rfl (mv rfl rfl ?_))
  refine bf hK ⟨[(4, .ar 32060 w25 eInt.k 0 ((a24).length)), (5, hI 0)], [(32060, w25, .arr eInt.k 3 (eInt.E a24))]⟩ ?_
  refine AW.to (to_frz 2 [(32060, w25, .arr eInt.k 3 (eInt.E a24))] ⟨[(4, slE eInt a24), (5, hI 0)], []⟩ ⟨⟨_, rfl, frz_slE eInt (l := a24) rfl fun _ _ => rfl⟩, ⟨_, rfl, rfl⟩, trivial⟩ trivial ⟨rfl, trivial⟩ ⟨rfl, trivial⟩ ?_)
  refine AW.ret ?_
  have h := Option.some.inj h
  subst h
  exact ret_pure (hs := [slE eInt a24, hI 0]) (.inr rfl) (resT rfl (resT rfl rfl)) rfl ⟨(clean_slE fun _ _ => ⟨trivial, trivial⟩), trivial, trivial⟩
 refine AW.seq ?_
 refine AW.rgs rfl fun K hK => mv rfl rfl (bv rfl (v_bin rfl rfl b_sneq) ?_)
 refine bf hK ⟨[(1, .str a8.1), (2, jF p0), (6, hI ((x3).length : Int)), (7, hI ((x5).length : Int)), (8, .ar 32060 w9 eInt.k 0 ((a8.2).length)), (35, .bool (decide (a8.1 ≠ nS)))], [(32060, w9, .arr eInt.k 3 (eInt.E a8.2))]⟩ ?_
 refine AW.cond rfl (fun hc => ?_) (fun hc => ?_)
 ·obtain ⟨hc, h⟩ := cT hc h
  refine AW.skip ?_
  refine AW.block ?_
  refine AW.seq ?_
  refine AW.rgs rfl fun K hK => mv rfl rfl (bv rfl (v_lenA rfl rfl ty31 rfl rfl) (bv rfl (v_bin rfl rfl b_gtr) ?_))
  refine bf hK ⟨[(1, .str a8.1), (2, jF p0), (6, hI ((x3).length : Int)), (7, hI ((x5).length : Int)), (8, .ar 32060 w9 eInt.k 0 ((a8.2).length)), (38, .bool (decide (0 < (((a8.2).length : Nat) : Int))))], [(32060, w9, .arr eInt.k 3 (eInt.E a8.2))]⟩ ?_
  refine AW.lastJ h (by first | exact up_then | exact up_to) (S := (List UInt8)) (V := Unit) (fun a v => ⟨[(1, .str a), (2, jF p0), (6, hI ((x3).length : Int)), (7, hI ((x5).length : Int)), (8, .ar 32060 w9 eInt.k 0 ((a8.2).length))], [(32060, w9, .arr eInt.k 3 (eInt.E a8.2))]⟩) (fun a12 w13 h => ?_) (fun k14 h => ?_)
  ·refine AW.dgs 7 follows rfl rfl fun K hK => ?_
   refine sv rfl (v_fieldAddrF fo24_0 rfl) ?_
   refine sv rfl (v_loadF ty22 rfl (l_lit rfl rfl)) ?_
   refine sm rfl rfl ?_
   refine sm rfl rfl ?_
   obtain ⟨h15, h⟩ := ifN h
   refine sv rfl (v_sliceS ty9 rfl rfl rfl h15) ?_
   obtain ⟨x16, h17, h⟩ := bS h
   refine s_op rfl rfl (ops_call rfl rfl rfl rfl (ACallD.pure0 (w_slices_Index_Lstring_string h17)) ?_)
   refine sm rfl rfl ?_
   refine s_nil ?_
   refine bf hK ⟨[(1, .str a12), (2, jF p0), (6, hI ((x3).length : Int)), (7, hI ((x5).length : Int)), (8, .ar 32060 w9 eInt.k 0 ((a8.2).length)), (9, hI x16)], [(32060, w9, .arr eInt.k 3 (eInt.E a8.2))]⟩ ?_
   refine AW.seq ?_
   refine AW.rgs rfl fun K hK => mv rfl rfl (bv rfl (v_bin rfl rfl b_lss) ?_)
   refine bf hK ⟨[(1, .str a12), (2, jF p0), (6, hI ((x3).length : Int)), (7, hI ((x5).length : Int)), (8, .ar 32060 w9 eInt.k 0 ((a8.2).length)), (9, hI x16), (56, .bool (decide (x16 < 0)))], [(32060, w9, .arr eInt.k 3 (eInt.E a8.2))]⟩ ?_
   refine AW.cond rfl (fun hc => ?_) (fun hc => ?_)
   ·obtain ⟨hc, h⟩ := cT hc h
    refine AW.rgs rfl fun K hK => mv rfl rfl (mv rfl rfl ?_)
    refine bf hK ⟨[(4, .v (.slice none 0 0)), (5, hI 13)], []⟩ ?_
    have h := hr11 _ h
    refine AW.to (to_weak ⟨[(4, slE eInt ([] : List Int)), (5, hI 13)], []⟩ ⟨⟨_, rfl, .nil _⟩, ⟨_, rfl, .refl _⟩, trivial⟩ trivial ?_)
    refine AW.ret ?_
    have h := Option.some.inj h
    subst h
    exact ret_pure (hs := [slE eInt ([] : List Int), hI 13]) (.inr rfl) (resT rfl (resT rfl rfl)) rfl ⟨(clean_slE fun _ _ => ⟨trivial, trivial⟩), trivial, trivial⟩
   obtain ⟨hc, h⟩ := cF hc h
   refine AW.skip ?_
   refine AW.dl follows fun K hK F hF => ?_
   obtain ⟨h180302, h⟩ := ifN h
   obtain ⟨h180601, h⟩ := ifN h
   refine l_go (L' := []) hF rfl (s' := ⟨[(1, .str a12), (2, jF p0), (6, hI ((x3).length : Int)), (7, hI ((x5).length : Int)), (8, .ar 32060 w9 eInt.k 0 ((a8.2).length)), (9, hI x16)], [(32060, w9, .arr eInt.k 3 (eInt.E a8.2))]⟩) ?_ (le_q rfl rfl)
   have g18_10 : ∀ (v180301 : Nat), F [0, 1, 2, 3, 4, 5, 6, 7, 8] ⟨[(1, .str ((a12.take (((a12).length : Int)).toNat).drop (((x3).length : Int)).toNat)), (2, jF p0), (6, hI ((x3).length : Int)), (7, hI ((x5).length : Int)), (8, .ar 32060 v180301 eInt.k 0 ((a8.2 ++ [x16]).length))], [(32060, v180301, .arr eInt.k 3 (eInt.E (a8.2 ++ [x16])))]⟩ := by
    intro v180301
    refine l_done hF rfl rfl (hK _ ?_)
    exact to_L ⟨((a12.take (((a12).length : Int)).toNat).drop (((x3).length : Int)).toNat, a8.2 ++ [x16]), v180301, h, rfl⟩
   have g18_9 : ∀ (v180301 : Nat), F [0, 1, 2, 3, 4, 5, 6, 7] ⟨[(1, .str a12), (2, jF p0), (6, hI ((x3).length : Int)), (7, hI ((x5).length : Int)), (8, .ar 32060 v180301 eInt.k 0 ((a8.2 ++ [x16]).length)), (63, .str ((a12.take (((a12).length : Int)).toNat).drop (((x3).length : Int)).toNat))], [(32060, v180301, .arr eInt.k 3 (eInt.E (a8.2 ++ [x16])))]⟩ := by
    intro v180301
    refine l_step hF rfl [8] rfl rfl ⟨?_, trivial⟩
    ·exact l_ov rfl rfl rfl rfl (mv_val rfl rfl).2 (lg hF (g18_10 v180301))
   have g18_8 : ∀ (v180301 : Nat), F [0, 1, 2, 3, 4, 5, 6] ⟨[(1, .str a12), (2, jF p0), (6, hI ((x3).length : Int)), (7, hI ((x5).length : Int)), (8, .ar 32060 w9 eInt.k 0 ((a8.2).length)), (60, .ar 32060 v180301 eInt.k 0 ((a8.2 ++ [x16]).length)), (63, .str ((a12.take (((a12).length : Int)).toNat).drop (((x3).length : Int)).toNat))], [(32060, v180301, .arr eInt.k 3 (eInt.E (a8.2 ++ [x16])))]⟩ := by
    intro v180301
    refine l_step hF rfl [7] rfl rfl ⟨?_, trivial⟩
    ·exact l_ov rfl rfl rfl rfl (mv_val rfl rfl).2 (lg hF (g18_9 v180301))
   have g18_12 : ∀ (v180301 : Nat), F [0, 1, 2, 3, 4, 5, 7] ⟨[(1, .str a12), (2, jF p0), (6, hI ((x3).length : Int)), (7, hI ((x5).length : Int)), (8, .ar 32060 v180301 eInt.k 0 ((a8.2 ++ [x16]).length)), (61, .str a12), (62, hI ((x3).length : Int))], [(32060, v180301, .arr eInt.k 3 (eInt.E (a8.2 ++ [x16])))]⟩ := by
    intro v180301
    refine l_step hF rfl [6] rfl rfl ⟨?_, trivial⟩
    ·exact l_ov rfl rfl rfl rfl (v_sliceS ty9 rfl rfl rfl h180601) (lg hF (g18_9 v180301))
   have g18_7 : F [0, 1, 2, 4, 5, 6] ⟨[(1, .str a12), (2, jF p0), (6, hI ((x3).length : Int)), (7, hI ((x5).length : Int)), (8, .ar 32060 w9 eInt.k 0 ((a8.2).length)), (57, .ar 32060 w9 eInt.k 0 ((a8.2).length)), (59, slE eInt [x16]), (63, .str ((a12.take (((a12).length : Int)).toNat).drop (((x3).length : Int)).toNat))], [(32060, w9, .arr eInt.k 3 (eInt.E a8.2))]⟩ := by
    refine l_step hF rfl [3] rfl rfl ⟨?_, trivial⟩
    ·refine l_op rfl rfl rfl (o_appE eInt (l := a8.2) (m := [x16]) rfl rfl ty31 ty31 ty3 rfl rfl rfl rfl rfl h180302 (fun v180301 => ?_))
     exact b_nil (lg hF (g18_8 v180301))
   have g18_11 : ∀ (v180301 : Nat), F [0, 1, 2, 3, 4, 5] ⟨[(1, .str a12), (2, jF p0), (6, hI ((x3).length : Int)), (7, hI ((x5).length : Int)), (8, .ar 32060 w9 eInt.k 0 ((a8.2).length)), (60, .ar 32060 v180301 eInt.k 0 ((a8.2 ++ [x16]).length)), (61, .str a12), (62, hI ((x3).length : Int))], [(32060, v180301, .arr eInt.k 3 (eInt.E (a8.2 ++ [x16])))]⟩ := by
    intro v180301
    refine l_step hF rfl [6, 7] rfl rfl ⟨?_, ?_, trivial⟩
    ·exact l_ov rfl rfl rfl rfl (v_sliceS ty9 rfl rfl rfl h180601) (lg hF (g18_8 v180301))
    ·exact l_ov rfl rfl rfl rfl (mv_val rfl rfl).2 (lg hF (g18_12 v180301))
   have g18_5 : F [0, 1, 2, 4, 5] ⟨[(1, .str a12), (2, jF p0), (6, hI ((x3).length : Int)), (7, hI ((x5).length : Int)), (8, .ar 32060 w9 eInt.k 0 ((a8.2).length)), (57, .ar 32060 w9 eInt.k 0 ((a8.2).length)), (59, slE eInt [x16]), (61, .str a12), (62, hI ((x3).length : Int))], [(32060, w9, .arr eInt.k 3 (eInt.E a8.2))]⟩ := by
    refine l_step hF rfl [3, 6] rfl rfl ⟨?_, ?_, trivial⟩
    ·refine l_op rfl rfl rfl (o_appE eInt (l := a8.2) (m := [x16]) rfl rfl ty31 ty31 ty3 rfl rfl rfl rfl rfl h180302 (fun v180301 => ?_))
     exact b_nil (lg hF (g18_11 v180301))
    ·exact l_ov rfl rfl rfl rfl (v_sliceS ty9 rfl rfl rfl h180601) (lg hF (g18_7))
   have g18_6 : F [0, 1, 4, 5, 6] ⟨[(1, .str a12), (2, jF p0), (6, hI ((x3).length : Int)), (7, hI ((x5).length : Int)), (8, .ar 32060 w9 eInt.k 0 ((a8.2).length)), (57, .ar 32060 w9 eInt.k 0 ((a8.2).length)), (58, hI x16), (63, .str ((a12.take (((a12).length : Int)).toNat).drop (((x3).length : Int)).toNat))], [(32060, w9, .arr eInt.k 3 (eInt.E a8.2))]⟩ := by
    refine l_step hF rfl [2] rfl rfl ⟨?_, trivial⟩
    ·refine l_op rfl rfl rfl (o_bsl rfl rfl (as_of (cs := [hI x16]) ty31 ty3 rfl rfl rfl rfl rfl) ?_)
     exact b_nil (lg hF (g18_7))
   have g18_4 : F [0, 1, 4, 5] ⟨[(1, .str a12), (2, jF p0), (6, hI ((x3).length : Int)), (7, hI ((x5).length : Int)), (8, .ar 32060 w9 eInt.k 0 ((a8.2).length)), (57, .ar 32060 w9 eInt.k 0 ((a8.2).length)), (58, hI x16), (61, .str a12), (62, hI ((x3).length : Int))], [(32060, w9, .arr eInt.k 3 (eInt.E a8.2))]⟩ := by
    refine l_step hF rfl [2, 6] rfl rfl ⟨?_, ?_, trivial⟩
    ·refine l_op rfl rfl rfl (o_bsl rfl rfl (as_of (cs := [hI x16]) ty31 ty3 rfl rfl rfl rfl rfl) ?_)
     exact b_nil (lg hF (g18_5))
    ·exact l_ov rfl rfl rfl rfl (v_sliceS ty9 rfl rfl rfl h180601) (lg hF (g18_6))
   have g18_3 : F [0, 1, 4] ⟨[(1, .str a12), (2, jF p0), (6, hI ((x3).length : Int)), (7, hI ((x5).length : Int)), (8, .ar 32060 w9 eInt.k 0 ((a8.2).length)), (57, .ar 32060 w9 eInt.k 0 ((a8.2).length)), (58, hI x16), (61, .str a12)], [(32060, w9, .arr eInt.k 3 (eInt.E a8.2))]⟩ := by
    refine l_take (i := 5) hF rfl rfl rfl (mv_val rfl rfl).2 ?_
    exact lg hF (g18_4)
   have g18_2 : F [0, 1] ⟨[(1, .str a12), (2, jF p0), (6, hI ((x3).length : Int)), (7, hI ((x5).length : Int)), (8, .ar 32060 w9 eInt.k 0 ((a8.2).length)), (57, .ar 32060 w9 eInt.k 0 ((a8.2).length)), (58, hI x16)], [(32060, w9, .arr eInt.k 3 (eInt.E a8.2))]⟩ := by
    refine l_take (i := 4) hF rfl rfl rfl (mv_val rfl rfl).2 ?_
    exact lg hF (g18_3)
   have g18_1 : F [0] ⟨[(1, .str a12), (2, jF p0), (6, hI ((x3).length : Int)), (7, hI ((x5).length : Int)), (8, .ar 32060 w9 eInt.k 0 ((a8.2).length)), (9, hI x16), (57, .ar 32060 w9 eInt.k 0 ((a8.2).length))], [(32060, w9, .arr eInt.k 3 (eInt.E a8.2))]⟩ := by
    refine l_take (i := 1) hF rfl rfl rfl (mv_val rfl rfl).2 ?_
    exact lg hF (g18_2)
   have g18_0 : F [] ⟨[(1, .str a12), (2, jF p0), (6, hI ((x3).length : Int)), (7, hI ((x5).length : Int)), (8, .ar 32060 w9 eInt.k 0 ((a8.2).length)), (9, hI x16)], [(32060, w9, .arr eInt.k 3 (eInt.E a8.2))]⟩ := by
    refine l_take (i := 0) hF rfl rfl rfl (mv_val rfl rfl).2 ?_
    exact lg hF (g18_1)
   exact g18_0
  refine AW.cond rfl (fun hc => ?_) (fun hc => ?_)
  ·obtain ⟨hc, h⟩ := cT hc h
   refine AW.seq ?_
   refine AW.dgs 7 follows rfl rfl fun K hK => ?_
   refine sv rfl (v_fieldAddrF fo24_1 rfl) ?_
   refine sv rfl (v_loadF ty22 rfl (l_lit rfl rfl)) ?_
   refine sm rfl rfl ?_
   refine sm rfl rfl ?_
   obtain ⟨h19, h⟩ := ifN h
   refine sv rfl (v_sliceS ty9 rfl rfl rfl h19) ?_
   obtain ⟨x20, h21, h⟩ := bS h
   refine s_op rfl rfl (ops_call rfl rfl rfl rfl (ACallD.pure0 (w_slices_Contains_Lstring_string h21)) ?_)
   refine sv rfl (v_not rfl) ?_
   refine s_nil ?_
   refine bf hK ⟨[(1, .str a8.1), (2, jF p0), (6, hI ((x3).length : Int)), (7, hI ((x5).length : Int)), (8, .ar 32060 w9 eInt.k 0 ((a8.2).length)), (45, .bool (!x20))], [(32060, w9, .arr eInt.k 3 (eInt.E a8.2))]⟩ ?_
   refine AW.cond rfl (fun hc => ?_) (fun hc => ?_)
   ·have h := ifT hc h
    refine AW.rgs rfl fun K hK => mv rfl rfl (mv rfl rfl ?_)
    refine bf hK ⟨[(4, .v (.slice none 0 0)), (5, hI 13)], []⟩ ?_
    have h := hr11 _ h
    refine AW.to (to_weak ⟨[(4, slE eInt ([] : List Int)), (5, hI 13)], []⟩ ⟨⟨_, rfl, .nil _⟩, ⟨_, rfl, .refl _⟩, trivial⟩ trivial ?_)
    refine AW.ret ?_
    have h := Option.some.inj h
    subst h
    exact ret_pure (hs := [slE eInt ([] : List Int), hI 13]) (.inr rfl) (resT rfl (resT rfl rfl)) rfl ⟨(clean_slE fun _ _ => ⟨trivial, trivial⟩), trivial, trivial⟩
   have h := ifF (bF' hc) h
   refine AW.skip ?_
   refine AW.rg rfl fun K hK => mv rfl rfl (mv rfl rfl ?_)
   obtain ⟨h22, h⟩ := ifN h
   refine bv rfl (v_sliceS ty9 rfl rfl rfl h22) (mv rfl rfl ?_)
   refine b_nil (hK _ ?_)
   exact to_L ⟨(a8.1.take (((a8.1).length : Int)).toNat).drop (((x5).length : Int)).toNat, (), h, rfl⟩
  obtain ⟨hc, h⟩ := cF hc h
  refine AW.skip ?_
  exact to_L ⟨a8.1, (), h, rfl⟩
 obtain ⟨hc, h⟩ := cF hc h
 refine AW.exit ?_
 exact to_L ⟨a8.2, w9, h, rfl⟩
theorem w_ref31_Decode {p0 : TWordsMerges} {p1 : List UInt8} {r : (List (Int)) × Int} (h : m_ref31_Decode p0 p1 = some r) : Pure Tryz.prog 33 [jA p0, .str p1] (· = HV.tup [slE eInt r.1, hI r.2]) := by
 unfold m_ref31_Decode at h
 refine Pure.of_body Tryz.func33 rfl rfl (lb rfl) fun hf => ?_
 unfold Tryz.f33
 dsimp only [enumS, Nat.reduceAdd]
 refine AW.rgs rfl fun K hK => b_op rfl (o_box rfl rfl rfl ?_)
 refine mv rfl rfl (mv rfl rfl ?_)
 refine bf hK ⟨[(1, .str p1), (2, jF p0)], []⟩ ?_
 refine AW.seq ?_
 refine AW.rgs rfl fun K hK => bv rfl (v_loadF ty24 rfl (l_litA rfl (lb rfl) rfl)) ?_
 obtain ⟨x1, h2, h⟩ := bS h
 refine b_op rfl (o_call rfl rfl rfl rfl (ACallD.pure0 (w_ref31_Form h2)) ?_)
 refine bv rfl (v_bin rfl rfl b_neq) ?_
 refine bf hK ⟨[(1, .str p1), (2, jF p0), (13, .bool (decide (x1 ≠ 0)))], []⟩ ?_
 refine AW.cond rfl (fun hc => ?_) (fun hc => ?_)
 ·obtain ⟨hc, h⟩ := cT hc h
  refine AW.rgs rfl fun K hK => mv rfl rfl (mv rfl rfl ?_)
  refine bf hK ⟨[(4, .v (.slice none 0 0)), (5, hI 1)], []⟩ ?_
  refine AW.to (to_weak ⟨[(4, slE eInt ([] : List Int)), (5, hI 1)], []⟩ ⟨⟨_, rfl, .nil _⟩, ⟨_, rfl, .refl _⟩, trivial⟩ trivial ?_)
  refine AW.ret ?_
  have h := Option.some.inj h
  subst h
  exact ret_pure (hs := [slE eInt ([] : List Int), hI 1]) (.inr rfl) (resT rfl (resT rfl rfl)) rfl ⟨(clean_slE fun _ _ => ⟨trivial, trivial⟩), trivial, trivial⟩
 obtain ⟨hc, h⟩ := cF hc h
 refine AW.skip ?_
 refine AW.dgs 12 follows rfl rfl fun K hK => ?_
 refine sv rfl (v_fieldAddrF fo24_0 rfl) ?_
 refine sv rfl (v_loadF ty22 rfl (l_lit rfl rfl)) ?_
 obtain ⟨x3, h4, h⟩ := bS h
 refine sv rfl (v_idxF ty22 es22 rfl rfl (idx_lt h4)) ?_
 refine sv rfl (v_loadF ty9 rfl (l_cell eStr h4 (o := 0) rfl rfl)) ?_
 refine sv rfl (v_lenS rfl rfl ty9 rfl) ?_
 refine sv rfl (v_fieldAddrF fo24_1 rfl) ?_
 refine sv rfl (v_loadF ty22 rfl (l_lit rfl rfl)) ?_
 obtain ⟨x5, h6, h⟩ := bS h
 refine sv rfl (v_idxF ty22 es22 rfl rfl (idx_lt h6)) ?_
 refine sv rfl (v_loadF ty9 rfl (l_cell eStr h6 (o := 0) rfl rfl)) ?_
 refine sv rfl (v_lenS rfl rfl ty9 rfl) ?_
 refine sm rfl rfl ?_
 refine sm rfl rfl ?_
 refine s_nil ?_
 refine bf hK ⟨[(1, .str p1), (2, jF p0), (6, hI ((x3).length : Int)), (7, hI ((x5).length : Int))], []⟩ ?_
 refine AW.seq ?_
 refine AW.seqJ h (S := Bool) (V := Unit) (fun a v => ⟨[(1, .str p1), (2, jF p0), (6, hI ((x3).length : Int)), (7, hI ((x5).length : Int)), (37, .bool a)], []⟩) (fun a7 w8 h => ?_) (fun k9 h => ?_)
 ·refine AW.cond rfl (fun hc => ?_) (fun hc => ?_)
  ·have h := ifT hc h
   refine AW.rgs rfl fun K hK => mv rfl rfl (mv rfl rfl ?_)
   refine bf hK ⟨[(4, .v (.slice none 0 0)), (5, hI 11)], []⟩ ?_
   refine AW.to (to_weak ⟨[(4, slE eInt ([] : List Int)), (5, hI 11)], []⟩ ⟨⟨_, rfl, .nil _⟩, ⟨_, rfl, .refl _⟩, trivial⟩ trivial ?_)
   refine AW.ret ?_
   have h := Option.some.inj h
   subst h
   exact ret_pure (hs := [slE eInt ([] : List Int), hI 11]) (.inr rfl) (resT rfl (resT rfl rfl)) rfl ⟨(clean_slE fun _ _ => ⟨trivial, trivial⟩), trivial, trivial⟩
  have h := ifF (bF' hc) h
  refine AW.skip ?_
  refine AW.rgs rfl fun K hK => b_op rfl (o_bslM (fid := 33) 33038 rfl rfl rfl (as_of (cs := []) ty31 ty3 rfl rfl rfl rfl rfl) (fun v10 => ?_))
  refine mv rfl rfl ?_
  refine bf hK ⟨[(1, .str p1), (2, jF p0), (6, hI ((x3).length : Int)), (7, hI ((x5).length : Int)), (8, .ar 33038 v10 eInt.k 0 0)], [(33038, v10, .arr eInt.k 3 [])]⟩ ?_
  refine AW.seq ?_
  refine AW.rgs rfl fun K hK => mv rfl rfl ?_
  refine bf hK ⟨[(1, .str p1), (2, jF p0), (6, hI ((x3).length : Int)), (7, hI ((x5).length : Int)), (8, .ar 33038 v10 eInt.k 0 0), (9, hI 0)], [(33038, v10, .arr eInt.k 3 [])]⟩ ?_
  refine AW.lpR h (by first | exact up_then | exact up_to) (S := Int × (List Int)) (V := Nat) (fun a v => ⟨[(1, .str p1), (2, jF p0), (6, hI ((x3).length : Int)), (7, hI ((x5).length : Int)), (8, .ar 33038 v eInt.k 0 ((a.2).length)), (9, hI a.1)], [(33038, v, .arr eInt.k 3 (eInt.E a.2))]⟩) ?_ (X := (List Int)) (W := Nat) (fun a v => ⟨[(8, .ar 33038 v eInt.k 0 ((a).length))], [(33038, v, .arr eInt.k 3 (eInt.E a))]⟩) (fun a27 w28 h => ?_) (fun a11 w12 st13 h hr14=> ?_)
  ·exact to_L ⟨v10, rfl⟩
  ·refine AW.rgs rfl fun K hK => mv rfl rfl (mv rfl rfl (mv rfl rfl ?_))
   refine bf hK ⟨[(4, .ar 33038 w28 eInt.k 0 ((a27).length)), (5, hI 0)], [(33038, w28, .arr eInt.k 3 (eInt.E a27))]⟩ ?_
   refine AW.to (to_frz 2 [(33038, w28, .arr eInt.k 3 (eInt.E a27))] ⟨[(4, slE eInt a27), (5, hI 0)], []⟩ ⟨⟨_, rfl, frz_slE eInt (l := a27) rfl fun _ _ => rfl⟩, ⟨_, rfl, rfl⟩, trivial⟩ trivial ⟨rfl, trivial⟩ ⟨rfl, trivial⟩ ?_)
   refine AW.ret ?_
   have h := Option.some.inj h
   subst h
   exact ret_pure (hs := [slE eInt a27, hI 0]) (.inr rfl) (resT rfl (resT rfl rfl)) rfl ⟨(clean_slE fun _ _ => ⟨trivial, trivial⟩), trivial, trivial⟩
  refine AW.seq ?_
  refine AW.rgs rfl fun K hK => mv rfl rfl (mv rfl rfl (bv rfl (v_lenS rfl rfl ty9 rfl) (bv rfl (v_bin rfl rfl b_lss) ?_)))
  refine bf hK ⟨[(1, .str p1), (2, jF p0), (6, hI ((x3).length : Int)), (7, hI ((x5).length : Int)), (8, .ar 33038 w12 eInt.k 0 ((a11.2).length)), (9, hI a11.1), (42, .bool (decide (a11.1 < ((p1).length : Int))))], [(33038, w12, .arr eInt.k 3 (eInt.E a11.2))]⟩ ?_
  refine AW.cond rfl (fun hc => ?_) (fun hc => ?_)
  ·obtain ⟨hc, h⟩ := cT hc h
   refine AW.skip ?_
   refine AW.seq (AW.block ?_)
   refine AW.seq ?_
   refine AW.seqJ h (S := Bool) (V := Unit) (fun a v => ⟨[(1, .str p1), (2, jF p0), (6, hI ((x3).length : Int)), (7, hI ((x5).length : Int)), (8, .ar 33038 w12 eInt.k 0 ((a11.2).length)), (9, hI a11.1), (61, .bool a)], [(33038, w12, .arr eInt.k 3 (eInt.E a11.2))]⟩) (fun a15 w16 h => ?_) (fun k17 h => ?_)
   ·refine AW.cond rfl (fun hc => ?_) (fun hc => ?_)
    ·have h := ifT hc h
     refine AW.rgs rfl fun K hK => mv rfl rfl (mv rfl rfl ?_)
     refine bf hK ⟨[(4, .v (.slice none 0 0)), (5, hI 13)], []⟩ ?_
     have h := hr14 _ h
     refine AW.to (to_weak ⟨[(4, slE eInt ([] : List Int)), (5, hI 13)], []⟩ ⟨⟨_, rfl, .nil _⟩, ⟨_, rfl, .refl _⟩, trivial⟩ trivial ?_)
     refine AW.ret ?_
     have h := Option.some.inj h
     subst h
     exact ret_pure (hs := [slE eInt ([] : List Int), hI 13]) (.inr rfl) (resT rfl (resT rfl rfl)) rfl ⟨(clean_slE fun _ _ => ⟨trivial, trivial⟩), trivial, trivial⟩
    have h := ifF (bF' hc) h
    refine AW.skip ?_
    refine AW.dgs 10 follows rfl rfl fun K hK => ?_
    refine sv rfl (v_fieldAddrF fo24_0 rfl) ?_
    refine sv rfl (v_loadF ty22 rfl (l_lit rfl rfl)) ?_
    refine sm rfl rfl ?_
    refine sm rfl rfl ?_
    refine sm rfl rfl ?_
    refine sm rfl rfl ?_
    refine sv rfl (v_bin rfl rfl b_add) ?_
    obtain ⟨h18, h⟩ := ifN h
    refine sv rfl (v_sliceS ty9 rfl rfl rfl h18) ?_
    obtain ⟨x19, h20, h⟩ := bS h
    refine s_op rfl rfl (ops_call rfl rfl rfl rfl (ACallD.pure0 (w_ref31_place h20)) ?_)
    refine sm rfl rfl ?_
    refine s_nil ?_
    refine bf hK ⟨[(1, .str p1), (2, jF p0), (6, hI ((x3).length : Int)), (7, hI ((x5).length : Int)), (8, .ar 33038 w12 eInt.k 0 ((a11.2).length)), (9, hI a11.1), (10, hI x19)], [(33038, w12, .arr eInt.k 3 (eInt.E a11.2))]⟩ ?_
    refine AW.seq ?_
    refine AW.rgs rfl fun K hK => mv rfl rfl (bv rfl (v_bin rfl rfl b_lss) ?_)
    refine bf hK ⟨[(1, .str p1), (2, jF p0), (6, hI ((x3).length : Int)), (7, hI ((x5).length : Int)), (8, .ar 33038 w12 eInt.k 0 ((a11.2).length)), (9, hI a11.1), (10, hI x19), (72, .bool (decide (x19 < 0)))], [(33038, w12, .arr eInt.k 3 (eInt.E a11.2))]⟩ ?_
    refine AW.cond rfl (fun hc => ?_) (fun hc => ?_)
    ·obtain ⟨hc, h⟩ := cT hc h
     refine AW.rgs rfl fun K hK => mv rfl rfl (mv rfl rfl ?_)
     refine bf hK ⟨[(4, .v (.slice none 0 0)), (5, hI 13)], []⟩ ?_
     have h := hr14 _ h
     refine AW.to (to_weak ⟨[(4, slE eInt ([] : List Int)), (5, hI 13)], []⟩ ⟨⟨_, rfl, .nil _⟩, ⟨_, rfl, .refl _⟩, trivial⟩ trivial ?_)
     refine AW.ret ?_
     have h := Option.some.inj h
     subst h
     exact ret_pure (hs := [slE eInt ([] : List Int), hI 13]) (.inr rfl) (resT rfl (resT rfl rfl)) rfl ⟨(clean_slE fun _ _ => ⟨trivial, trivial⟩), trivial, trivial⟩
    obtain ⟨hc, h⟩ := cF hc h
    refine AW.skip ?_
    refine AW.rg rfl fun K hK => mv rfl rfl (mv rfl rfl ?_)
    refine b_op rfl (o_bsl rfl rfl (as_of (cs := [hI x19]) ty31 ty3 rfl rfl rfl rfl rfl) ?_)
    obtain ⟨h22, h⟩ := ifN h
    refine b_op rfl (o_appE eInt (l := a11.2) (m := [x19]) rfl rfl ty31 ty31 ty3 rfl rfl rfl rfl rfl h22 (fun v21 => ?_))
    refine mv rfl rfl ?_
    refine bf hK ⟨[(1, .str p1), (2, jF p0), (6, hI ((x3).length : Int)), (7, hI ((x5).length : Int)), (8, .ar 33038 v21 eInt.k 0 ((a11.2 ++ [x19]).length)), (9, hI a11.1)], [(33038, v21, .arr eInt.k 3 (eInt.E (a11.2 ++ [x19])))]⟩ ?_
    refine AW.rg rfl fun K hK => mv rfl rfl (mv rfl rfl (bv rfl (v_bin rfl rfl b_add) (mv rfl rfl (bv rfl (v_bin rfl rfl b_add) (mv rfl rfl ?_)))))
    refine b_nil (hK _ ?_)
    exact to_L ⟨(IntKind.wrap .i64 ((IntKind.wrap .i64 (a11.1 + ((x3).length : Int))) + ((x5).length : Int)), a11.2 ++ [x19]), v21, h, rfl⟩
   refine AW.dg 14 follows rfl rfl fun K hK => ?_
   refine sm rfl rfl ?_
   refine sv rfl (v_bin rfl rfl b_gtr) ?_
   refine sm rfl rfl ?_
   by_cases hg26 : 0 < a11.1
   ·have h := ifT hg26 h
    refine s_T rfl rfl rfl rfl rfl (decide_eq_true hg26) (ops_val rfl (v_fieldAddrF fo24_1 rfl) ?_)
    refine s_T rfl rfl rfl rfl rfl rfl (ops_val rfl (v_loadF ty22 rfl (l_lit rfl rfl)) ?_)
    refine s_T rfl rfl rfl rfl rfl rfl (ops_val rfl (mv_val rfl rfl).2 ?_)
    refine s_T rfl rfl rfl rfl rfl rfl (ops_val rfl (mv_val rfl rfl).2 ?_)
    refine s_T rfl rfl rfl rfl rfl rfl (ops_val rfl (mv_val rfl rfl).2 ?_)
    refine s_T rfl rfl rfl rfl rfl rfl (ops_val rfl (v_bin rfl rfl b_sub) ?_)
    refine s_T rfl rfl rfl rfl rfl rfl (ops_val rfl (mv_val rfl rfl).2 ?_)
    obtain ⟨h23, h⟩ := ifN h
    refine s_T rfl rfl rfl rfl rfl rfl (ops_val rfl (v_sliceS ty9 rfl rfl rfl h23) ?_)
    obtain ⟨x24, h25, h⟩ := bS h
    refine s_T rfl rfl rfl rfl rfl rfl (ops_call rfl rfl rfl rfl (ACallD.pure0 (w_ref31_place h25)) ?_)
    refine s_T rfl rfl rfl rfl rfl rfl (ops_val rfl (v_bin rfl rfl b_lss) ?_)
    refine sv rfl (v_pickT rfl rfl rfl) ?_
    refine s_nil ?_
    refine b_nil (hK _ ?_)
    exact to_L ⟨decide (x24 < 0), (), h, rfl⟩
   have h := ifF hg26 h
   refine s_F rfl rfl rfl rfl rfl (decide_eq_false hg26) ?_
   refine s_F rfl rfl rfl rfl rfl rfl ?_
   refine s_F rfl rfl rfl rfl rfl rfl ?_
   refine s_F rfl rfl rfl rfl rfl rfl ?_
   refine s_F rfl rfl rfl rfl rfl rfl ?_
   refine s_F rfl rfl rfl rfl rfl rfl ?_
   refine s_F rfl rfl rfl rfl rfl rfl ?_
   refine s_F rfl rfl rfl rfl rfl rfl ?_
   refine s_F rfl rfl rfl rfl rfl rfl ?_
   refine s_F rfl rfl rfl rfl rfl rfl ?_
   refine sv rfl (v_pickF rfl rfl rfl) ?_
   refine s_nil ?_
   refine b_nil (hK _ ?_)
   exact to_L ⟨false, (), h, rfl⟩
  obtain ⟨hc, h⟩ := cF hc h
  refine AW.exit ?_
  exact to_L ⟨a11.2, w12, h, rfl⟩
 refine AW.rg rfl fun K hK => mv rfl rfl (bv rfl (v_lenS rfl rfl ty9 rfl) (bv rfl (v_bin rfl rfl b_gtr) (mv rfl rfl ?_)))
 by_cases hg30 : 0 < ((p1).length : Int)
 ·have h := ifT hg30 h
  refine b_T rfl rfl rfl rfl (decide_eq_true hg30) (o_val rfl (mv_val rfl rfl).2 ?_)
  refine b_T rfl rfl rfl rfl rfl (o_val rfl (v_lenS rfl rfl ty9 rfl) ?_)
  refine b_T rfl rfl rfl rfl rfl (o_val rfl (mv_val rfl rfl).2 ?_)
  refine b_T rfl rfl rfl rfl rfl (o_val rfl (v_bin rfl rfl b_add) ?_)
  refine b_T rfl rfl rfl rfl rfl (o_val rfl (mv_val rfl rfl).2 ?_)
  refine b_T rfl rfl rfl rfl rfl (o_val rfl (mv_val rfl rfl).2 ?_)
  refine b_T rfl rfl rfl rfl rfl (o_val rfl (v_bin rfl rfl b_add) ?_)
  obtain ⟨h29, h⟩ := ifN h
  refine b_T rfl rfl rfl rfl rfl (o_val rfl (v_bin rfl rfl (b_rem h29)) ?_)
  refine b_T rfl rfl rfl rfl rfl (o_val rfl (v_bin rfl rfl b_neq) ?_)
  refine bv rfl (v_pickT rfl rfl rfl) ?_
  refine b_nil (hK _ ?_)
  exact to_L ⟨decide ((Int.tmod (IntKind.wrap .i64 (((p1).length : Int) + ((x5).length : Int))) (IntKind.wrap .i64 (((x3).length : Int) + ((x5).length : Int)))) ≠ 0), (), h, rfl⟩
 have h := ifF hg30 h
 refine b_F rfl rfl rfl rfl rfl (decide_eq_false hg30) ?_
 refine b_F rfl rfl rfl rfl rfl rfl ?_
 refine b_F rfl rfl rfl rfl rfl rfl ?_
 refine b_F rfl rfl rfl rfl rfl rfl ?_
 refine b_F rfl rfl rfl rfl rfl rfl ?_
 refine b_F rfl rfl rfl rfl rfl rfl ?_
 refine b_F rfl rfl rfl rfl rfl rfl ?_
 refine b_F rfl rfl rfl rfl rfl rfl ?_
 refine b_F rfl rfl rfl rfl rfl rfl ?_
 refine bv rfl (v_pickF rfl rfl rfl) ?_
 refine b_nil (hK _ ?_)
 exact to_L ⟨false, (), h, rfl⟩
end Go.AW

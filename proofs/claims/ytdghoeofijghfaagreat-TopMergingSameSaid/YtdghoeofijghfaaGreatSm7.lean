/- TopMergingSame: for every input the law's function returns true, and the input reads as it did. -/
import Derived.Test.YtdghoeofijghfaaGreatSm6
import Derived.ChangeMaps5
import Derived.OpenShut
import Derived.ProofKit
import Derived.SliceStrings
import Derived.Test.YtdghoeofijghfaaGreatRows
import Derived.WalkKit
import Derived.WideKeyArgs
namespace Go.AW
open Go
set_option linter.unusedSimpArgs false
set_option linter.unusedVariables false
def scoreM (g : Gr) (set : List Int) (sum : Int) (x m : List UInt8) : Int × Bool := (max (sum + disp (m ++ x)) (-(sum + disp (m ++ x))), decide (endsL g set (m ++ x) ≠ []))
def bestStep (g : Gr) (set : List Int) (sum : Int) (x : List UInt8) (a : List UInt8 × Int × Bool) (m : List UInt8) : List UInt8 × Int × Bool :=
 if (scoreM g set sum x m).2 = true ∧ (a.2.2 = false ∨ (scoreM g set sum x m).1 < a.2.1) then (m, (scoreM g set sum x m).1, true) else a
def bestF (g : Gr) (set : List Int) (sum : Int) (x : List UInt8) (ms : List (List UInt8)) : List UInt8 × Int × Bool := ms.foldl (bestStep g set sum x) ([], 0, false)
theorem disp_le {w : List UInt8} : -(w.length : Int) ≤ disp w ∧ disp w ≤ w.length := by
 have := List.count_le_length (a := (49 : UInt8)) (l := w)
 unfold disp
 omega
section
variable {g : Gr}
theorem best_loop {j : Jn} (hj : VJ j g) {set : List Int} (hset : SetOk g set) {sum : Int} (hsum : -1000000 ≤ sum ∧ sum ≤ 1000000) {n : Int} (hn : 0 ≤ n ∧ n.toNat < j.1.length) :
    loopW (S := (List UInt8) × Int × Bool × Int) (X := (List UInt8) × Bool) (fun a52 =>
                   if a52.2.2.2 < ((j.2).length : Int) then
                    jp (fun (a56 : (List UInt8) × Int × Bool) =>
                      some (Stp.next (a56.1, a56.2.1, a56.2.2, IntKind.wrap .i64 (a52.2.2.2 + 1))))
                      fun k58 =>
                     (idx j.2 a52.2.2.2).bind fun x59 =>
                     jp (fun (a61 : Int × Bool) =>
                       jp (fun (a64 : Bool) =>
                         if a64 = true then
                          k58 (x59, a61.1, true)
                         else
                          k58 (a52.1, a52.2.1, a52.2.2.1))
                         fun k66 =>
                        if a61.2 = true then
                         if (!a52.2.2.1) = true then
                          k66 true
                         else
                          k66 (decide (a61.1 < a52.2.1))
                        else
                         k66 false)
                       fun k63 =>
                      (idx j.1 n).bind fun x69 =>
                      if x59.length + x69.length ≤ maxLen then
                       (m_merging_weight (x59 ++ x69)).bind fun x72 =>
                       (idx j.1 n).bind fun x74 =>
                       if x59.length + x74.length ≤ maxLen then
                        (m_merging_step g set (x59 ++ x74)).bind fun x77 =>
                        k63 (max (IntKind.wrap .i64 (sum + x72)) (IntKind.wrap .i64 (0 - (IntKind.wrap .i64 (sum + x72)))), decide (0 < ((x77).length : Int)))
                       else none
                      else none
                   else
                    some (Stp.exit (a52.1, a52.2.2.1))) (([] : List UInt8), 0, false, 0) = some ((bestF g set sum (wd j n) j.2).1, (bestF g set sum (wd j n) j.2).2.2) := by
  have hl := hj.f.l2
  have wx := word_ok hj.f (wd_mem hn)
  have key : ∀ k, k ≤ j.2.length → True := fun _ _ => trivial
  refine loop_is (fun i => ((bestF g set sum (wd j n) (j.2.take i)).1, (bestF g set sum (wd j n) (j.2.take i)).2.1, (bestF g set sum (wd j n) (j.2.take i)).2.2, (i : Int))) j.2.length _ (fun i hi => ?_) (by simp only; rw [if_neg (not_lt_int _), List.take_length]) rfl
  have wm := merge_ok hj.f (List.getElem_mem hi)
  have hbw : bitW (j.2[i] ++ wd j n) := bitW_app.2 ⟨wm.1, wx.1⟩
  have hlw : (j.2[i] ++ wd j n).length ≤ 32 := by simp only [List.length_append]; omega
  have hd := disp_le (w := j.2[i] ++ wd j n)
  simp only [jp]
  rw [if_pos (lt_int hi), ix hi, wd_idx hn]
  simp only [Option.bind_some]
  rw [if_pos (by simp only [maxLen]; omega), weight_eq hbw (by omega)]
  simp only [Option.bind_some]
  rw [if_pos (by simp only [maxLen]; omega), step31_eq hj.hv hj.h2 hset hbw (by omega)]
  simp only [Option.bind_some, nx (show j.2.length ≤ 9223372036854775807 by omega) hi]
  have w1 : IntKind.wrap .i64 (sum + disp (j.2[i] ++ wd j n)) = sum + disp (j.2[i] ++ wd j n) := w64 (by omega) (by omega)
  have w2 : IntKind.wrap .i64 (0 - (sum + disp (j.2[i] ++ wd j n))) = -(sum + disp (j.2[i] ++ wd j n)) := by rw [w64 (by omega) (by omega)]; omega
  simp only [w1, w2]
  have es : bestF g set sum (wd j n) (j.2.take (i + 1)) = bestStep g set sum (wd j n) (bestF g set sum (wd j n) (j.2.take i)) j.2[i] := by
    unfold bestF
    rw [← List.take_append_getElem hi, List.foldl_append]
    rfl
  rw [es]
  generalize bestF g set sum (wd j n) (j.2.take i) = A
  have hne : (0 < ((endsL g set (j.2[i] ++ wd j n)).length : Int)) ↔ endsL g set (j.2[i] ++ wd j n) ≠ [] := by
    rw [← List.length_pos_iff]; omega
  unfold bestStep scoreM
  simp only [hne, decide_eq_true_eq]
  by_cases h1 : endsL g set (j.2[i] ++ wd j n) ≠ []
  · rw [if_pos h1]
    cases h2 : A.2.2 with
    | false => simp [h1, h2]
    | true =>
      by_cases h3 : max (sum + disp (j.2[i] ++ wd j n)) (-(sum + disp (j.2[i] ++ wd j n))) < A.2.1 <;> simp [h1, h2, h3]
  rw [if_neg h1]
  simp [h1]
end
def encG (j : Jn) (g : Gr) : List Int → List UInt8 → Int → List Int → List UInt8 × Int
 | _, b, _, [] => (b, 0)
 | set, b, sum, x :: xs =>
  if (bestF g set sum (wd j x) j.2).2.2 = true then encG j g (endsL g set ((bestF g set sum (wd j x) j.2).1 ++ wd j x)) (b ++ ((bestF g set sum (wd j x) j.2).1 ++ wd j x)) (sum + disp ((bestF g set sum (wd j x) j.2).1 ++ wd j x)) xs
  else ([], 13)
noncomputable def encE (j : Jn) (g : Gr) (l : List Int) : List UInt8 × Int :=
 if inpE j g l ≠ 0 then ([], inpE j g l) else match l with
  | [] => ([], 0)
  | x :: xs => encG j g (endsL g (upto g.2.1) (wd j x)) (wd j x) (disp (wd j x)) xs
theorem bestF_mem (g : Gr) (set : List Int) (sum : Int) (x : List UInt8) : ∀ (ms : List (List UInt8)) (a : List UInt8 × Int × Bool), (ms.foldl (bestStep g set sum x) a).1 = a.1 ∨ (ms.foldl (bestStep g set sum x) a).1 ∈ ms
 | [], a => .inl rfl
 | m :: ms, a => by
  rw [List.foldl_cons]
  rcases bestF_mem g set sum x ms (bestStep g set sum x a m) with h | h
  ·rw [h]
   unfold bestStep
   split
   ·exact .inr (List.mem_cons_self ..)
   exact .inl rfl
  exact .inr (List.mem_cons_of_mem _ h)
theorem best_ok {j : Jn} {g : Gr} (hj : FormOk j) (set : List Int) (sum : Int) (x : List UInt8) : bitW (bestF g set sum x j.2).1 ∧ (bestF g set sum x j.2).1.length ≤ 16 := by
 rcases bestF_mem g set sum x j.2 ([], 0, false) with h | h
 ·unfold bestF
  rw [h]
  exact ⟨(fun _ h => by cases h), by simp⟩
 exact merge_ok hj h
def runF {σ α X : Type} (F : σ → α → Option σ) (fin : σ → X) (xr : X) : List α → σ → X
 | [], s => fin s
 | x :: xs, s => match F s x with
  | some s' => runF F fin xr xs s'
  | none => xr
theorem loop_run {S X σ α : Type} {body : S → Option (Stp S X)} (st : Nat → σ → S) (xs : List α) (F : σ → α → Option σ) (fin : σ → X) (xr : X) (P : Nat → σ → Prop)
  (h : ∀ i s (hi : i < xs.length), P i s → body (st i s) = (match F s xs[i] with | some s' => some (.next (st (i + 1) s')) | none => some (.exit xr)) ∧ ∀ s', F s xs[i] = some s' → P (i + 1) s')
  (hf : ∀ s, P xs.length s → body (st xs.length s) = some (.exit (fin s))) {s0 : σ} (h0 : P 0 s0) : loopW body (st 0 s0) = some (runF F fin xr xs s0) := by
 have : ∀ d i s, i + d = xs.length → P i s → loopW body (st i s) = some (runF F fin xr (xs.drop i) s) := by
  intro d
  induction d with
  | zero =>
   intro i s hi hP
   have e : i = xs.length := by omega
   subst e
   rw [loopW_exit (hf s hP), List.drop_length]
   rfl
  | succ d ih =>
   intro i s hi hP
   have hi' : i < xs.length := by omega
   obtain ⟨h1, h2⟩ := h i s hi' hP
   rw [List.drop_eq_getElem_cons hi']
   unfold runF
   cases hF : F s xs[i] with
   | none => rw [hF] at h1; rw [loopW_exit h1]
   | some s' => rw [hF] at h1; rw [loopW_next h1]; exact ih (i + 1) s' (by omega) (h2 s' hF)
 exact this xs.length 0 s0 (by omega) h0
def encS (j : Jn) (g : Gr) (s : List Int × List UInt8 × Int) (x : Int) : Option (List Int × List UInt8 × Int) :=
 if (bestF g s.1 s.2.2 (wd j x) j.2).2.2 = true then some (endsL g s.1 ((bestF g s.1 s.2.2 (wd j x) j.2).1 ++ wd j x), s.2.1 ++ ((bestF g s.1 s.2.2 (wd j x) j.2).1 ++ wd j x), s.2.2 + disp ((bestF g s.1 s.2.2 (wd j x) j.2).1 ++ wd j x)) else none
def unOu (x : Ou (List UInt8) (List UInt8 × Int)) : List UInt8 × Int := match x with
 | .go v => (v, 0)
 | .ret r => r
theorem encG_run (j : Jn) (g : Gr) : ∀ (xs : List Int) (s : List Int × List UInt8 × Int), unOu (runF (encS j g) (fun s => Ou.go s.2.1) (Ou.ret ([], 13)) xs s) = encG j g s.1 s.2.1 s.2.2 xs
 | [], s => rfl
 | x :: xs, s => by
  unfold runF encG encS
  by_cases h : (bestF g s.1 s.2.2 (wd j x) j.2).2.2 = true
  ·simp only [if_pos h]
   exact encG_run j g xs _
  simp only [if_neg h]
  rfl
theorem Encode_eq {j : Jn} {g : Gr} (hs : SmJ j) {l : List Int} (hl : l.length ≤ 8) : m_merging_Encode j g l = some (encE j g l) := by
 unfold m_merging_Encode encE
 rw [inputs_eq hs (by omega)]
 simp only [Option.bind_some]
 by_cases h : inpE j g l ≠ 0
 ·rw [if_pos h, if_pos h]
 rw [if_neg h, if_neg h]
 obtain ⟨hj, hx⟩ := inp_zero (Classical.not_not.1 h)
 cases l with
 | nil => rfl
 | cons x xs =>
  have n1 := hj.f.n1
  have n16 := hj.f.n16
  have r16 := hj.f.r16
  have hx0 := hx x (List.mem_cons_self ..)
  have wx := word_ok hj.f (wd_mem hx0)
  rw [if_neg (show ¬ (((x :: xs).length : Int) = 0) by simp only [List.length_cons]; omega), idx0 hj.f.ne1, idx0 hj.f.ne2]
  simp only [Option.bind_some, hdl2]
  have e1 : IntKind.wrap .i64 (((fstLen j.1 : Nat) : Int) + ((fstLen j.2 : Nat) : Int)) = ((fstLen j.1 + fstLen j.2 : Nat) : Int) := by rw [w64 (by omega) (by omega)]; omega
  have e2 : IntKind.wrap .i64 (65536 + ((fstLen j.2 : Nat) : Int)) = ((65536 + fstLen j.2 : Nat) : Int) := by rw [w64 (by omega) (by omega)]; omega
  have hq : 8 ≤ (65536 + fstLen j.2) / (fstLen j.1 + fstLen j.2) := by
   rw [Nat.le_div_iff_mul_le (by omega)]; omega
  have hq2 : (65536 + fstLen j.2) / (fstLen j.1 + fstLen j.2) ≤ 65552 := Nat.le_trans (Nat.div_le_self _ _) (by omega)
  simp only [e1, e2, ← Int.ofNat_tdiv]
  rw [if_pos (show ((fstLen j.1 + fstLen j.2 : Nat) : Int) ≠ 0 by omega), w64 (by omega) (by omega), if_neg (by omega)]
  have s0 := hj.hv.s0
  have s1 := hj.hv.s1
  rw [if_pos ⟨s0, by omega, by omega⟩]
  refine bindL (x := upto g.2.1) ?_ ?_
  ·have := states_eq hj.hv
   unfold m_language_states at this
   rw [if_pos ⟨s0, by omega, by omega⟩] at this
   obtain ⟨y, hy, hz⟩ := bS this
   cases hz
   exact hy
  have ei : idx (x :: xs) 0 = some x := rfl
  rw [ei]
  simp only [Option.bind_some, wd_idx hx0, jp]
  have hd := disp_le (w := wd j x)
  rw [if_pos ⟨by simp only [List.length_nil]; omega, by simp only [List.length_nil, maxLen]; omega⟩, weight_eq wx.1 (by omega), Option.bind_some, step31_eq hj.hv hj.h2 (upto_ok g) wx.1 (by omega)]
  simp only [Option.bind_some]
  rw [if_pos ⟨by omega, by simp only [List.length_cons]; omega, by omega⟩]
  have et : ((x :: xs).take (((x :: xs).length : Int)).toNat).drop (1 : Int).toNat = xs := by
   rw [Int.toNat_natCast, List.take_length]; rfl
  simp only [et, List.nil_append, Int.zero_add, w64 (n := disp (wd j x)) (by omega) (by omega)]
  refine lpE (x := runF (encS j g) (fun s => Ou.go s.2.1) (Ou.ret ([], 13)) xs (endsL g (upto g.2.1) (wd j x), wd j x, disp (wd j x))) ?_ ?_
  ·refine loop_run (s0 := (endsL g (upto g.2.1) (wd j x), wd j x, disp (wd j x))) (fun i (s : List Int × List UInt8 × Int) => ((i : Int), s.1, s.2.1, s.2.2)) xs (encS j g) (fun s => Ou.go s.2.1) (Ou.ret ([], 13)) (fun i s => SetOk g s.1 ∧ s.2.1.length ≤ 32 * (i + 1) ∧ -(32 * (i + 1) : Int) ≤ s.2.2 ∧ s.2.2 ≤ 32 * (i + 1)) (fun i s hi hP => ?_) (fun s _ => ?_) ⟨endsL_ok (upto_ok g) _, by dsimp only; omega, by dsimp only; omega, by dsimp only; omega⟩
   ·obtain ⟨p1, p2, p3, p4⟩ := hP
    have hi8 : i < 8 := by simp only [List.length_cons] at hl; omega
    have hxi := hx xs[i] (List.mem_cons_of_mem _ (List.getElem_mem hi))
    have wi := word_ok hj.f (wd_mem hxi)
    have bo := best_ok (g := g) hj.f s.1 s.2.2 (wd j xs[i])
    have hb := best_loop hj p1 (sum := s.2.2) (by omega) hxi
    simp only [jp] at hb
    have hd2 := disp_le (w := (bestF g s.1 s.2.2 (wd j xs[i]) j.2).1 ++ wd j xs[i])
    have hlen : ((bestF g s.1 s.2.2 (wd j xs[i]) j.2).1 ++ wd j xs[i]).length ≤ 32 := by simp only [List.length_append]; omega
    have hbw : bitW ((bestF g s.1 s.2.2 (wd j xs[i]) j.2).1 ++ wd j xs[i]) := bitW_app.2 ⟨bo.1, wi.1⟩
    constructor
    ·simp only
     rw [if_pos (lt_int hi), ix hi]
     simp only [Option.bind_some]
     rw [hb]
     simp only [Option.bind_some, encS]
     by_cases hf : (bestF g s.1 s.2.2 (wd j xs[i]) j.2).2.2 = true
     ·rw [if_neg (by simp [hf]), wd_idx hxi, if_pos hf]
      simp only [Option.bind_some]
      rw [if_pos (by simp only [maxLen]; omega), if_pos ⟨by omega, by simp only [maxLen]; omega⟩, weight_eq hbw (by omega), Option.bind_some, step31_eq hj.hv hj.h2 p1 hbw (by omega)]
      simp only [Option.bind_some]
      rw [w64 (n := s.2.2 + _) (by omega) (by omega), nx (show xs.length ≤ 9223372036854775807 by simp only [List.length_cons] at hl; omega) hi]
     rw [if_pos (by simp [hf]), if_neg hf]
    intro s' hs'
    unfold encS at hs'
    split at hs'
    ·cases hs'
     exact ⟨endsL_ok p1 _, by simp only [List.length_append] at hlen ⊢; omega, by simp only; omega, by simp only; omega⟩
    cases hs'
   simp only
   rw [if_neg (not_lt_int _)]
  have := encG_run j g xs (endsL g (upto g.2.1) (wd j x), wd j x, disp (wd j x))
  rw [← this]
  unfold unOu
  split
  ·rename_i v hv; rw [hv]; rfl
  rename_i r hr; rw [hr]; rfl
theorem disp_app (u v : List UInt8) : disp (u ++ v) = disp u + disp v := by
 simp only [disp, List.count_append, List.length_append]
 omega
def encB (j : Jn) (g : Gr) : List UInt8 → List Int → List UInt8 × Int
 | b, [] => (b, 0)
 | b, x :: xs =>
  if (bestF g (endsL g (upto g.2.1) b) (disp b) (wd j x) j.2).2.2 = true then encB j g (b ++ ((bestF g (endsL g (upto g.2.1) b) (disp b) (wd j x) j.2).1 ++ wd j x)) xs else ([], 13)
theorem encG_eq (j : Jn) (g : Gr) : ∀ (xs : List Int) (b : List UInt8), encG j g (endsL g (upto g.2.1) b) b (disp b) xs = encB j g b xs
 | [], b => rfl
 | x :: xs, b => by
  unfold encG encB
  split
  ·rw [← endsL_app, ← disp_app]
   exact encG_eq j g xs _
  rfl
theorem FormOk.zero {j : Jn} (h : FormOk j) : formE j = 0 := by
 have l1 := h.l1; have l2 := h.l2; have n1 := h.n1; have n16 := h.n16; have r16 := h.r16
 unfold formE
 rw [if_neg (fun e => e.elim h.ne1 h.ne2), if_neg (by omega), if_neg (fun e => e.elim (fun e => unev_iff.1 e h.n) fun e => unev_iff.1 e h.r), if_neg (by omega), if_neg (fun e => e.elim (fun e => lett_iff.1 e h.b1) fun e => lett_iff.1 e h.b2), if_neg (fun e => e.elim (fun e => rept_iff.1 e h.d1) fun e => rept_iff.1 e h.d2)]
theorem VJ.zero {j : Jn} {g : Gr} (h : VJ j g) : checkE j g = 0 := by
 unfold checkE
 rw [if_neg (fun e => e h.hv), if_neg (fun e => e h.h2), if_neg (fun e => e h.f.zero), if_neg, if_neg]
 ·simp only [badP, List.any_eq_true, not_exists, not_and]
  intro a ha b hb
  rw [h.p a ha b hb]
  decide
 simp only [badW, List.any_eq_true, not_exists, not_and]
 intro a ha
 rw [h.w a ha]
 decide
def InOk (j : Jn) (l : List Int) : Prop := ∀ n ∈ l, 0 ≤ n ∧ n.toNat < j.1.length
theorem VJ.inp {j : Jn} {g : Gr} (h : VJ j g) {l : List Int} (hl : InOk j l) : inpE j g l = 0 := by
 unfold inpE
 rw [if_neg (fun e => e h.zero), if_neg]
 simp only [List.any_eq_true, not_exists, not_and, badI, decide_eq_true_eq]
 intro n hn
 have := hl n hn
 omega
def encL (j : Jn) (g : Gr) (l : List Int) : List UInt8 × Int := match l with
 | [] => ([], 0)
 | x :: xs => encB j g (wd j x) xs
theorem encE_eq {j : Jn} {g : Gr} {l : List Int} (h : inpE j g l = 0) : encE j g l = encL j g l := by
 unfold encE encL
 rw [if_neg (fun e => e h)]
 cases l with
 | nil => rfl
 | cons x xs => exact encG_eq j g xs _
def bstM (j : Jn) (g : Gr) (b : List UInt8) (x : Int) : List UInt8 × Int × Bool := bestF g (endsL g (upto g.2.1) b) (disp b) (wd j x) j.2
theorem encB_cons (j : Jn) (g : Gr) (b : List UInt8) (x : Int) (xs : List Int) : encB j g b (x :: xs) = if (bstM j g b x).2.2 = true then encB j g (b ++ ((bstM j g b x).1 ++ wd j x)) xs else ([], 13) := rfl
theorem encB_app (j : Jn) (g : Gr) (ys : List Int) : ∀ (xs : List Int) (b : List UInt8), encB j g b (xs ++ ys) = if (encB j g b xs).2 = 0 then encB j g (encB j g b xs).1 ys else ([], 13)
 | [], b => by simp [encB]
 | x :: xs, b => by
  rw [List.cons_append, encB_cons, encB_cons]
  split
  ·exact encB_app j g ys xs _
  rfl
theorem encL_snoc (j : Jn) (g : Gr) {l : List Int} (h : l ≠ []) (x : Int) : encL j g (l ++ [x]) = if (encL j g l).2 = 0 then (if (bstM j g (encL j g l).1 x).2.2 = true then ((encL j g l).1 ++ ((bstM j g (encL j g l).1 x).1 ++ wd j x), 0) else ([], 13)) else ([], 13) := by
 cases l with
 | nil => exact absurd rfl h
 | cons a l =>
  show encB j g (wd j a) (l ++ [x]) = _
  rw [encB_app]
  rfl
theorem in_iff (g : Gr) (b m x : List UInt8) : (endsL g (endsL g (upto g.2.1) b) (m ++ x) ≠ []) ↔ inW g (b ++ (m ++ x)) = true := by
 rw [← endsL_app]
 simp [inW]
def far (w : List UInt8) : Int := max (disp w) (-disp w)
theorem score_eq (g : Gr) (b m x : List UInt8) : scoreM g (endsL g (upto g.2.1) b) (disp b) x m = (far (b ++ (m ++ x)), inW g (b ++ (m ++ x))) := by
 unfold scoreM far
 rw [← disp_app, Prod.mk.injEq]
 refine ⟨rfl, ?_⟩
 rw [Bool.eq_iff_iff, decide_eq_true_eq, in_iff]
structure Bst (g : Gr) (b x : List UInt8) (ms : List (List UInt8)) (A : List UInt8 × Int × Bool) : Prop where
 no : A.2.2 = false → ∀ k (h : k < ms.length), inW g (b ++ (ms[k] ++ x)) = false
 yes : A.2.2 = true → ∃ i, ∃ h : i < ms.length, A.1 = ms[i] ∧ A.2.1 = far (b ++ (ms[i] ++ x)) ∧ inW g (b ++ (ms[i] ++ x)) = true ∧
  (∀ k (hk : k < ms.length), inW g (b ++ (ms[k] ++ x)) = true → A.2.1 ≤ far (b ++ (ms[k] ++ x))) ∧
  (∀ k (hk : k < i), inW g (b ++ (ms[k] ++ x)) = true → A.2.1 < far (b ++ (ms[k] ++ x)))
theorem best_take (g : Gr) (b x : List UInt8) (ms : List (List UInt8)) : ∀ n, n ≤ ms.length → Bst g b x (ms.take n) (bestF g (endsL g (upto g.2.1) b) (disp b) x (ms.take n)) := by
 intro n
 induction n with
 | zero => intro _; exact ⟨(fun _ k h => absurd h (by simp)), (fun h => absurd h (by simp [bestF]))⟩
 | succ n ih =>
  intro hn
  have hn' : n < ms.length := by omega
  have ih := ih (by omega)
  have es : bestF g (endsL g (upto g.2.1) b) (disp b) x (ms.take (n + 1)) = bestStep g (endsL g (upto g.2.1) b) (disp b) x (bestF g (endsL g (upto g.2.1) b) (disp b) x (ms.take n)) ms[n] := by
   unfold bestF
   rw [← List.take_append_getElem hn', List.foldl_append]
   rfl
  rw [es]
  generalize bestF g (endsL g (upto g.2.1) b) (disp b) x (ms.take n) = A at ih
  have lt : (ms.take n).length = n := by rw [List.length_take]; omega
  have lt' : (ms.take (n + 1)).length = n + 1 := by rw [List.length_take]; omega
  have gt : ∀ k (h : k < (ms.take n).length), (ms.take n)[k] = ms[k]'(by omega) := fun k h => List.getElem_take
  have gt' : ∀ k (h : k < (ms.take (n + 1)).length), (ms.take (n + 1))[k] = ms[k]'(by omega) := fun k h => List.getElem_take
  unfold bestStep
  rw [score_eq]
  simp only
  by_cases hc : inW g (b ++ (ms[n] ++ x)) = true ∧ (A.2.2 = false ∨ far (b ++ (ms[n] ++ x)) < A.2.1)
  ·rw [if_pos hc]
   refine ⟨(fun h => absurd h (by simp)), fun _ => ⟨n, by omega, ?_⟩⟩
   rw [gt' n (by omega)]
   refine ⟨rfl, rfl, hc.1, fun k hk hi => ?_, fun k hk hi => ?_⟩
   ·rw [gt' k hk] at hi ⊢
    by_cases e : k = n
    ·subst e; exact Int.le_refl _
    have hkn : k < (ms.take n).length := by omega
    cases hA : A.2.2 with
    | false =>
     have := ih.no hA k hkn
     rw [gt k hkn, hi] at this
     cases this
    | true =>
     obtain ⟨i, hi', a1, a2, a3, a4, a5⟩ := ih.yes hA
     have := a4 k hkn (by rw [gt k hkn]; exact hi)
     rw [gt k hkn] at this
     rcases hc.2 with h | h
     ·rw [hA] at h; cases h
     simp only; omega
   rw [gt' k (by omega)] at hi ⊢
   have hkn : k < (ms.take n).length := by omega
   cases hA : A.2.2 with
   | false =>
    have := ih.no hA k hkn
    rw [gt k hkn, hi] at this
    cases this
   | true =>
    obtain ⟨i, hi', a1, a2, a3, a4, a5⟩ := ih.yes hA
    have := a4 k hkn (by rw [gt k hkn]; exact hi)
    rw [gt k hkn] at this
    rcases hc.2 with h | h
    ·rw [hA] at h; cases h
    simp only; omega
  rw [if_neg hc]
  refine ⟨fun h k hk => ?_, fun h => ?_⟩
  ·rw [gt' k hk]
   by_cases e : k = n
   ·subst e
    rw [Bool.eq_false_iff]
    exact fun hi => hc ⟨hi, .inl h⟩
   have hkn : k < (ms.take n).length := by omega
   have := ih.no h k hkn
   rw [gt k hkn] at this
   exact this
  obtain ⟨i, hi', a1, a2, a3, a4, a5⟩ := ih.yes h
  rw [gt i hi'] at a1 a2 a3
  refine ⟨i, by omega, ?_⟩
  rw [gt' i (by omega)]
  refine ⟨a1, a2, a3, fun k hk hi => ?_, fun k hk hi => ?_⟩
  ·rw [gt' k hk] at hi ⊢
   by_cases e : k = n
   ·subst e
    refine Classical.byContradiction fun hlt => hc ⟨hi, .inr (by omega)⟩
   have hkn : k < (ms.take n).length := by omega
   have := a4 k hkn (by rw [gt k hkn]; exact hi)
   rw [gt k hkn] at this
   exact this
  have hkn : k < (ms.take n).length := by omega
  rw [gt' k (by omega)] at hi ⊢
  have := a5 k hk (by rw [gt k hkn]; exact hi)
  rw [gt k hkn] at this
  exact this
theorem bstM_ok (j : Jn) (g : Gr) (b : List UInt8) (x : Int) : Bst g b (wd j x) j.2 (bstM j g b x) := by
 have := best_take g b (wd j x) j.2 j.2.length (Nat.le_refl _)
 rw [List.take_length] at this
 exact this
inductive Wr (j : Jn) : List Int → List UInt8 → Prop
 | one (x : Int) : Wr j [x] (wd j x)
 | snoc {l : List Int} {w : List UInt8} {m : List UInt8} (x : Int) : Wr j l w → m ∈ j.2 → Wr j (l ++ [x]) (w ++ (m ++ wd j x))
theorem snoc_ind {α : Type} {P : List α → Prop} (h0 : P []) (h1 : ∀ l x, P l → P (l ++ [x])) (l : List α) : P l := by
 have : ∀ n, n ≤ l.length → P (l.take n) := by
  intro n
  induction n with
  | zero => intro _; exact h0
  | succ n ih =>
   intro hn
   rw [← List.take_append_getElem (show n < l.length by omega)]
   exact h1 _ _ (ih (by omega))
 have h := this l.length (Nat.le_refl _)
 rwa [List.take_length] at h
theorem encL_wr {j : Jn} {g : Gr} (hj : VJ j g) : ∀ l : List Int, InOk j l → l ≠ [] → (encL j g l).2 = 0 → Wr j l (encL j g l).1 ∧ inW g (encL j g l).1 = true := by
 refine snoc_ind (fun _ h => absurd rfl h) (fun l x ih hl _ h0 => ?_)
 by_cases hn : l = []
 ·subst hn
  exact ⟨.one x, hj.w _ (wd_mem (hl x (by simp)))⟩
 have hs := encL_snoc j g hn x
 rw [hs] at h0 ⊢
 split at h0
 ·rename_i he
  rw [if_pos he]
  obtain ⟨i1, i2⟩ := ih (fun n h => hl n (List.mem_append.2 (.inl h))) hn he
  split at h0
  ·rename_i hb
   rw [if_pos hb]
   obtain ⟨i, hi, a1, a2, a3, _⟩ := (bstM_ok j g (encL j g l).1 x).yes hb
   refine ⟨.snoc x i1 ?_, ?_⟩
   ·rw [a1]; exact List.getElem_mem hi
   simp only
   rw [a1]; exact a3
  cases h0
 cases h0
theorem Wr.ne {j : Jn} {l : List Int} {w : List UInt8} (h : Wr j l w) : l ≠ [] := by
 cases h <;> simp
theorem Wr.len {j : Jn} (hj : FormOk j) {l : List Int} {w : List UInt8} (h : Wr j l w) (hl : InOk j l) : w.length + fstLen j.2 = l.length * (fstLen j.1 + fstLen j.2) := by
 induction h with
 | one x =>
  rw [hj.n _ (wd_mem (hl x (by simp)))]
  simp
 | snoc x h hm ih =>
  have := ih (fun n h => hl n (List.mem_append.2 (.inl h)))
  have hx := hj.n _ (wd_mem (hl x (by simp)))
  have hr := hj.r _ hm
  simp only [List.length_append, List.length_singleton, Nat.succ_mul]
  rw [← this]
  omega
theorem Wr.bits {j : Jn} (hj : FormOk j) {l : List Int} {w : List UInt8} (h : Wr j l w) (hl : InOk j l) : bitW w := by
 induction h with
 | one x => exact hj.b1 _ (wd_mem (hl x (by simp)))
 | snoc x h hm ih => exact bitW_app.2 ⟨ih (fun n h => hl n (List.mem_append.2 (.inl h))), bitW_app.2 ⟨hj.b2 _ hm, hj.b1 _ (wd_mem (hl x (by simp)))⟩⟩
theorem sub_app {u v : List UInt8} {a l : Nat} (h : a + l ≤ u.length) : sub (u ++ v) a l = sub u a l := by
 unfold sub
 rw [List.drop_append_of_le_length (by omega), List.take_append_of_le_length (by rw [List.length_drop]; omega)]
theorem sub_tail {u v : List UInt8} {a l : Nat} (ha : a = u.length) (hl : l = v.length) (z : List UInt8) : sub (u ++ (v ++ z)) a l = v := by
 subst ha hl
 unfold sub
 rw [List.drop_left, List.take_left]
theorem Wr.piece {j : Jn} (hj : FormOk j) {l : List Int} {w : List UInt8} (h : Wr j l w) (hl : InOk j l) : ∀ i (hi : i < l.length), pieceW j w i = wd j l[i] ∧ (0 < i → pieceM j w i ∈ j.2) := by
 have n1 := hj.n1
 induction h with
 | one x =>
  intro i hi
  have hi0 : i = 0 := by simp at hi; omega
  subst hi0
  have hx := hj.n _ (wd_mem (hl x (by simp)))
  refine ⟨?_, fun h => by omega⟩
  have := sub_tail (u := []) (v := wd j x) (a := 0) (l := fstLen j.1) rfl hx.symm []
  simp only [List.nil_append, List.append_nil] at this
  simp only [pieceW, Nat.zero_mul, this, List.getElem_cons_zero]
 | @snoc l w m x h hm ih =>
  have hl' : InOk j l := fun n h => hl n (List.mem_append.2 (.inl h))
  have ih := ih hl'
  have hlen := h.len hj hl'
  have hx := hj.n _ (wd_mem (hl x (by simp)))
  have hr := hj.r _ hm
  intro i hi
  simp only [List.length_append, List.length_singleton] at hi
  by_cases h1 : i < l.length
  ·obtain ⟨q1, q2⟩ := ih i h1
   have hb : i * (fstLen j.1 + fstLen j.2) + (fstLen j.1 + fstLen j.2) ≤ l.length * (fstLen j.1 + fstLen j.2) := by
    rw [← Nat.succ_mul]; exact Nat.mul_le_mul_right _ h1
   rw [List.getElem_append_left h1]
   constructor
   ·rw [← q1]
    exact sub_app (by omega)
   intro h0
   have := q2 h0
   have e : pieceM j (w ++ (m ++ wd j x)) i = pieceM j w i := sub_app (by
    have : fstLen j.1 + fstLen j.2 ≤ i * (fstLen j.1 + fstLen j.2) := Nat.le_mul_of_pos_left _ h0
    omega)
   rw [e]
   exact this
  have e : i = l.length := by omega
  subst e
  rw [List.getElem_append_right (Nat.le_refl _)]
  simp only [Nat.sub_self, List.getElem_cons_zero]
  have hl0 := List.length_pos_iff.2 h.ne
  have : fstLen j.1 + fstLen j.2 ≤ l.length * (fstLen j.1 + fstLen j.2) := Nat.le_mul_of_pos_left _ hl0
  constructor
  ·have := sub_tail (u := w ++ m) (v := wd j x) (a := l.length * (fstLen j.1 + fstLen j.2)) (l := fstLen j.1) (by rw [List.length_append]; omega) hx.symm []
   rw [List.append_nil, List.append_assoc] at this
   exact this
  intro _
  have := sub_tail (u := w) (v := m) (a := l.length * (fstLen j.1 + fstLen j.2) - fstLen j.2) (l := fstLen j.2) (by omega) hr.symm (wd j x)
  show sub _ _ _ ∈ _
  rw [this]
  exact hm
theorem first_wd {j : Jn} (hj : FormOk j) {n : Int} (hn : 0 ≤ n ∧ n.toNat < j.1.length) : (firstI j.1 fun y => decide (wd j n = y)) = n := by
 have hw : wd j n = j.1[n.toNat] := getD_get hn.2 []
 have ha : (j.1.any fun y => decide (wd j n = y)) = true := List.any_eq_true.2 ⟨_, wd_mem hn, by simp⟩
 unfold firstI
 rw [if_pos ha]
 have : j.1.findIdx (fun y => decide (wd j n = y)) = n.toNat := by
  rw [List.findIdx_eq hn.2]
  refine ⟨by simp [hw], fun k hk => ?_⟩
  rw [decide_eq_false_iff_not, hw]
  intro e
  refine nodup_iff.1 hj.d1 n.toNat hn.2 ?_
  rw [e]
  have hq : k < (j.1.take n.toNat).length := by rw [List.length_take]; omega
  have := List.getElem_mem hq
  rwa [List.getElem_take] at this
 rw [this]
 omega
theorem Wr.read {j : Jn} (hj : FormOk j) {l : List Int} {w : List UInt8} (h : Wr j l w) (hl : InOk j l) : decE j w = (l, 0) := by
 have n1 := hj.n1
 have hlen := h.len hj hl
 have hl0 := List.length_pos_iff.2 h.ne
 have hp := h.piece hj hl
 have : fstLen j.1 + fstLen j.2 ≤ l.length * (fstLen j.1 + fstLen j.2) := Nat.le_mul_of_pos_left _ hl0
 have hk : kW j w = l.length := by
  unfold kW
  rw [hlen, Nat.mul_div_cancel _ (by omega)]
 unfold decE
 rw [if_neg (fun e => e hj.zero), if_neg (by intro e; subst e; simp only [List.length_nil] at hlen; omega), if_neg (fun e => e (by rw [hlen]; exact Nat.mul_mod_left ..)), hk]
 have hb : ∀ t, t < l.length → badT j w t = false := fun t ht => by
  obtain ⟨q1, q2⟩ := hp t ht
  have q3 : pieceW j w t ∈ j.1 := by rw [q1]; exact wd_mem (hl _ (List.getElem_mem ht))
  unfold badT
  rw [decide_eq_false (fun e => e.2 (q2 e.1)), decide_eq_false (fun e => e q3)]
  rfl
 have ho : outT j w l.length = l := by
  refine List.ext_getElem (outT_len ..) fun i h1 h2 => ?_
  have q := (hp i h2).1
  simp only [outT, List.getElem_map, List.getElem_range, q]
  exact first_wd hj (hl _ (List.getElem_mem h2))
 rcases fstN_cases (X := Ou (List Int) (List Int × Int)) (badT j w) (fun _ => Ou.ret ([], 13)) (Ou.go (outT j w l.length)) l.length 0 with ⟨i, _, h2, h3, _⟩ | ⟨_, h5⟩
 ·rw [hb i (by omega)] at h3
  cases h3
 rw [h5, ho]
theorem listL_ok {j : Jn} (h0 : j.1 ≠ []) (l : List Int) : InOk j (listL j l) ∧ (listL j l).length ≤ 8 := by
 have l0 := List.length_pos_iff.2 h0
 constructor
 ·intro n hn
  obtain ⟨x, _, rfl⟩ := List.mem_map.1 hn
  have h1 := Int.emod_nonneg x (show (j.1.length : Int) ≠ 0 by omega)
  have h2 := Int.emod_lt_of_pos x (show 0 < (j.1.length : Int) by omega)
  omega
 simp only [listL, List.length_map, List.length_take]
 omega
theorem VJ.acc {j : Jn} {g : Gr} (hj : VJ j g) {w : List UInt8} (hb : bitW w) (hl : w.length ≤ 65536) : m_language_Accepts g w = some (inW g w, 0) := by
 have := hj.h2
 exact Accepts_eq hj.hv (by omega) (WOk_bit hj.h2 hb hl)
abbrev full : Gr := (2, 1, [(0, 0, 0), (0, 1, 0)])
theorem vg_full : VG full := by
 refine ⟨by decide, by decide, by decide, by decide, by decide, by decide, fun i h => ?_⟩
 have h : i + 1 < 2 := h
 obtain rfl : i = 0 := by omega
 show cmp3 (0, 0, 0) (0, 1, 0) < 0
 decide
theorem ends_full : ∀ w : List UInt8, bitW w → endsL full [0] w = [0]
 | [], _ => rfl
 | c :: w, h => by
  have hc := h c (.head _)
  rw [endsL_cons]
  have : stepL full [0] (lab c) = [0] := by
   simp only [bitB, Bool.or_eq_true, beq_iff_eq] at hc
   rcases hc with rfl | rfl <;> decide
  rw [this]
  exact ends_full w fun x hx => h x (.tail _ hx)
theorem in_full {w : List UInt8} (h : bitW w) : inW full w = true := by
 unfold inW
 have e : upto full.2.1 = [0] := by decide
 rw [e, ends_full w h]
 decide
theorem vj_full {j : Jn} (h : FormOk j) : VJ j full := by
 refine ⟨vg_full, rfl, h, fun x hx => in_full (h.b1 x hx), fun a ha b hb => ?_⟩
 unfold joinsB
 obtain ⟨m, hm⟩ : ∃ m, m ∈ j.2 := ⟨_, fst_mem h.ne2⟩
 exact List.any_eq_true.2 ⟨m, hm, in_full (bitW_app.2 ⟨bitW_app.2 ⟨h.b1 a ha, h.b2 m hm⟩, h.b1 b hb⟩)⟩
theorem bst_full {j : Jn} (h : FormOk j) {b : List UInt8} (hb : bitW b) {x : Int} (hx : 0 ≤ x ∧ x.toNat < j.1.length) : (bstM j full b x).2.2 = true ∧ (bstM j full b x).1 ∈ j.2 := by
 have hB := bstM_ok j full b x
 have l2 := List.length_pos_iff.2 h.ne2
 have hw := h.b1 _ (wd_mem hx)
 have h1 : (bstM j full b x).2.2 = true := by
  cases e : (bstM j full b x).2.2 with
  | true => rfl
  | false =>
   have := hB.no e 0 l2
   rw [in_full (bitW_app.2 ⟨hb, bitW_app.2 ⟨h.b2 _ (List.getElem_mem l2), hw⟩⟩)] at this
   cases this
 obtain ⟨i, hi, e, _⟩ := hB.yes h1
 exact ⟨h1, by rw [e]; exact List.getElem_mem hi⟩
theorem encB_full {j : Jn} (h : FormOk j) : ∀ (xs : List Int) (b : List UInt8), InOk j xs → bitW b → (encB j full b xs).2 = 0
 | [], b, _, _ => rfl
 | x :: xs, b, hx, hb => by
  obtain ⟨h1, h2⟩ := bst_full h hb (hx x (.head _))
  rw [encB_cons, if_pos h1]
  exact encB_full h xs _ (fun n hn => hx n (.tail _ hn)) (bitW_app.2 ⟨hb, bitW_app.2 ⟨h.b2 _ h2, h.b1 _ (wd_mem (hx x (.head _)))⟩⟩)
theorem encL_full {j : Jn} (h : FormOk j) {l : List Int} (hl : InOk j l) : (encL j full l).2 = 0 := by
 cases l with
 | nil => rfl
 | cons x xs => exact encB_full h xs _ (fun n hn => hl n (.tail _ hn)) (h.b1 _ (wd_mem (hl x (.head _))))
theorem encB_one {j : Jn} (h : FormOk j) {m : List UInt8} (h1 : j.2 = [m]) : ∀ (xs : List Int) (b : List UInt8), InOk j xs → bitW b → encB j full b xs = (b ++ Lib.joinTail m (xs.map (wd j)), 0)
 | [], b, _, _ => by simp [encB, Lib.joinTail]
 | x :: xs, b, hx, hb => by
  obtain ⟨h2, h3⟩ := bst_full h hb (hx x (.head _))
  rw [h1, List.mem_singleton] at h3
  rw [encB_cons, if_pos h2, h3]
  have hm : bitW m := h.b2 m (by rw [h1]; exact .head _)
  rw [encB_one h h1 xs _ (fun n hn => hx n (.tail _ hn)) (bitW_app.2 ⟨hb, bitW_app.2 ⟨hm, h.b1 _ (wd_mem (hx x (.head _)))⟩⟩)]
  simp [Lib.joinTail, List.append_assoc]
theorem encL_one {j : Jn} (h : FormOk j) {m : List UInt8} (h1 : j.2 = [m]) {l : List Int} (hl : InOk j l) : encL j full l = (Lib.join (l.map (wd j)) m, 0) := by
 cases l with
 | nil => rfl
 | cons x xs =>
  show encB j full (wd j x) xs = _
  rw [encB_one h h1 xs _ (fun n hn => hl n (.tail _ hn)) (h.b1 _ (wd_mem (hl x (.head _)))), List.map_cons, Lib.join_cons]
theorem oneJ_ok {j : Jn} (h : FormOk j) : FormOk (j.1, [j.2.headD []]) := by
 have hm := fst_mem h.ne2
 have e : fstLen [j.2.headD []] = fstLen j.2 := rfl
 exact ⟨h.ne1, by simp, h.l1, by simp, h.n, (fun w hw => by rw [List.mem_singleton] at hw; subst hw; rfl), h.n1, h.n16, by rw [e]; exact h.r16, h.b1, (fun w hw => by rw [List.mem_singleton] at hw; subst hw; exact h.b2 _ hm), h.d1, by simp⟩
theorem law_same (j : Jn) (g : Gr) (l : List Int) (hx : ∀ x ∈ l, 0 ≤ x ∧ x ≤ 255) (hm : l.length ≤ 9223372036854775807) : m_top_TopMergingSame j g l = some true := by
  unfold m_top_TopMergingSame
  generalize hK : (fun (a1 : Bool) => (_ : Option Bool)) = K
  have hT : K true = some true := by subst hK; rfl
  have hF : JSize j → FormOk j → K false = some true := by
    intro hs hf
    have hj := vj_full hf
    obtain ⟨q1, q2, q3, q4⟩ := hf.small hs
    have hv1 := vj_full (oneJ_ok hf)
    have l2 := List.length_pos_iff.2 hf.ne2
    subst hK
    dsimp only
    rw [if_neg (by decide)]
    have hlist := list31_eq hf.ne1 hx hm
    unfold m_law31_list at hlist
    rw [if_pos ⟨by omega, by omega, by omega⟩] at hlist
    rw [if_pos ⟨by omega, by omega, by omega⟩]
    have hb : ∀ {o : Option (List Int)} {r : List Int}, (o.bind fun a12 => some a12) = some r → o = some r := fun {o r} h => by cases o with
      | none => exact h
      | some a => exact h
    rw [hb hlist]
    obtain ⟨hL, hL8⟩ := listL_ok hf.ne1 l
    generalize listL j l = L at hL hL8
    simp only [Option.bind_some]
    rw [if_pos ⟨by omega, by omega, by omega⟩]
    have e1 : ((j.2.take (1 : Int).toNat).drop (0 : Int).toNat) = [j.2.headD []] := by
      cases hc : j.2 with
      | nil => exact absurd hc hf.ne2
      | cons a t => rfl
    have hL1 : InOk (j.1, [j.2.headD []]) L := hL
    rw [e1, Encode_eq (oneJ_ok hf).sm hL8, encE_eq (hv1.inp hL1), encL_one (oneJ_ok hf) rfl hL1]
    simp only [Option.bind_some]
    have hwant : loopW (S := Int × (List (List UInt8))) (X := (List (List UInt8))) (fun a23 =>
          if a23.1 < (((L).length : Nat) : Int) then
           (idx L a23.1).bind fun x27 =>
           (idx L a23.1).bind fun x29 =>
           (idx j.1 x29).bind fun x31 =>
           if fits 16 ((a23.2 : List (List UInt8)).length + ([x31]).length) then
            some (Stp.next (IntKind.wrap .i64 (a23.1 + 1), a23.2 ++ [x31]))
           else none
          else
           some (Stp.exit a23.2)) (0, ([] : List (List UInt8))) = some (L.map (wd j)) := by
      refine loop_is (fun i => ((i : Int), (L.take i).map (wd j))) L.length (L.map (wd j)) (fun i hi => ?_) (by simp only; rw [if_neg (not_lt_int _), List.take_length]) rfl
      simp only
      rw [if_pos (lt_int hi), ix hi]
      simp only [Option.bind_some]
      rw [wd_idx (hL _ (List.getElem_mem hi))]
      simp only [Option.bind_some]
      rw [if_pos ⟨by simp; omega, by simp [maxLen]; omega⟩, nx (show L.length ≤ 9223372036854775807 by omega) hi, ← List.take_append_getElem hi, List.map_append]
      rfl
    rw [hwant]
    simp only [Option.bind_some]
    have he := encL_full hf hL
    have hdec : decE j (encL j full L).1 = (L, 0) ∧ (encL j full L).1.length ≤ 1000 := by
      by_cases hn : L = []
      · subst hn
        have ew : (encL j full []).1 = [] := rfl
        rw [ew]
        refine ⟨?_, by simp⟩
        unfold decE
        rw [if_neg (fun e => e hf.zero), if_pos rfl]
      obtain ⟨hw, _⟩ := encL_wr hj L hL hn he
      have hlen := hw.len hf hL
      have hP : L.length * (fstLen j.1 + fstLen j.2) ≤ 8 * 32 := Nat.mul_le_mul hL8 (by omega)
      exact ⟨hw.read hf hL, by omega⟩
    rw [Encode_eq hf.sm hL8, encE_eq (hj.inp hL)]
    simp only [Option.bind_some]
    rw [Decode_eq hf.sm (by omega), hdec.1]
    simp only [Option.bind_some]
    rw [he, Check31_eq hf.sm, hj.zero]
    simp only [Option.bind_some]
    unfold jp
    dsimp only
    rw [if_pos trivial, if_pos (by decide), idx0 hf.ne2]
    simp only [Option.bind_some]
    have hjl : ∀ xs : List Int, InOk j xs → (Lib.joinTail (j.2.headD []) (xs.map (wd j))).length ≤ xs.length * 32 := by
      intro xs
      induction xs with
      | nil => intro _; simp [Lib.joinTail]
      | cons x xs ih =>
        intro hxs
        have h1 := ih fun n hn => hxs n (.tail _ hn)
        have h2 := hf.n _ (wd_mem (hxs x (.head _)))
        have h3 := hf.r _ (fst_mem hf.ne2)
        have e : Lib.joinTail (j.2.headD []) ((x :: xs).map (wd j)) = j.2.headD [] ++ wd j x ++ Lib.joinTail (j.2.headD []) (xs.map (wd j)) := by simp [Lib.joinTail]
        rw [e]
        simp only [List.length_append, List.length_cons]
        omega
    have hjn : (Lib.join (L.map (wd j)) (j.2.headD [])).length ≤ 1000 := by
      cases hc : L with
      | nil => simp [Lib.join_nil]
      | cons x xs =>
        rw [hc] at hL hL8
        rw [List.map_cons, Lib.join_cons]
        have h1 := hjl xs fun n hn => hL n (.tail _ hn)
        have h2 := hf.n _ (wd_mem (hL x (.head _)))
        simp only [List.length_append, List.length_cons] at hL8 ⊢
        omega
    unfold m_strings_Join
    rw [if_pos ⟨by simp; omega, by omega⟩]
    simp only [Option.bind_some]
    have ewd : wd (j.1, [j.2.headD []]) = wd j := rfl
    rw [ewd, if_pos rfl, EqI_eq (by omega)]
    simp only [Option.bind_some]
    rw [if_pos (by simp)]
    rfl
  obtain ⟨b, hb, hbs⟩ := GreatJ_tot j
  obtain ⟨c, hc, _⟩ := Great_tot g
  unfold jp
  dsimp only
  rw [hb, Option.bind_some]
  cases b with
  | true => rw [if_pos rfl, hT]
  | false =>
    have hs := hbs rfl
    rw [if_neg (by decide), hc, Option.bind_some]
    cases c with
    | true => rw [if_pos rfl, hT]
    | false =>
      rw [if_neg (by decide), Check31_eq hs.sm, Option.bind_some]
      by_cases hz : checkE j g ≠ 0
      · rw [if_pos hz, hT]
      have hj := checkE_zero (Classical.not_not.1 hz)
      have l1 := List.length_pos_iff.2 hj.f.ne1
      have l2 := List.length_pos_iff.2 hj.f.ne2
      rw [if_neg hz, if_neg (by omega), decide_eq_false (by omega)]
      exact hF hs hj.f
section
open Go Go.ChangeShapes Go.WideShapes Go.ChangeAt Go.RowKit
def Kept (W W' : World) : Prop := W'.os = W.os ∧ W'.output = W.output ∧ W.heap.size ≤ W'.heap.size ∧ ∀ b : Nat, b < W.heap.size → W'.heap[b]? = W.heap[b]?
theorem Kept.frame {W W' : World} (h : Kept W W') (may : MemPlace → Prop) : W.keptBut W' may := by
 refine ⟨h.1, h.2.1, fun i hi => ?_⟩
 rw [h.2.2.2 i hi]
 cases W.heap[i]? with
 | none => rfl
 | some o => cases o with
  | cells c t fr => exact ⟨rfl, rfl, rfl, fun _ _ => rfl⟩
  | map es clock => exact .inr ⟨rfl, rfl⟩
  | _ => rfl
theorem Kept.frozen {W W' : World} (h : Kept W W') (a : Addr) (ha : a.block < W.heap.size) : W'.frozen? a = W.frozen? a := by
 simp only [World.frozen?, h.2.2.2 _ ha]
def Mu.zero : Mu := { nx := 0, loc := fun _ => none, held := fun _ => False }
theorem SR.zero (W : World) : SR W Mu.zero [] :=
 ⟨(fun _ _ _ h => by cases h), (fun _ _ _ h => by cases h), (fun _ _ h => by cases h), (fun _ _ _ _ _ h => by cases h), (fun _ h => h.elim)⟩
theorem calls_of_pure {P : Program} {f : FuncId} {args : List HV} {vs : List Value} {W : World} (hp : Pure P f args (· = .bool true)) (hr : RepL W Mu.zero args vs) (hgl : GlOk W Mu.zero := by exact ⟨(fun _ h => nomatch h), (fun _ h => nomatch h)⟩) :
  Calls P f vs.toArray W fun e W' => e = .returned (.bool true) ∧ Kept W W' := by
 refine (hp.2 Mu.zero W vs (SR.zero W) hr hgl).mono ?_
 rintro e W' ⟨v, r, H', μ', rfl, ⟨rfl, _, _⟩, hs, hv, E⟩
 have hv' : v = .bool true := hv
 subst hv'
 exact ⟨rfl, E.os, E.output, E.size, fun b hb => E.keep b hb fun ⟨_, _, hl⟩ => by cases hl⟩
theorem rep_string {W : World} {μ : Mu} (s : ByteArray) (h : s.size ≤ maxLen) : Rep W μ (.str s.data.toList) (.string s) := by
 refine ⟨by cases s; simp, ?_⟩
 have : s.data.toList.length = s.size := by simp
 omega
theorem post_of_kept {H : Type} {enc : TypeId × Value → H} {P : Program} {f : Func} {s : ChangeSpec} {apart fresh handsOn again : Bool} {W W' : World} {args : Array Value} {v : Value} {ds gs : List (DataW H)} {before pa pv : List MemPlace}
  (hW : DataW.Whole enc P f.params.toList s.vars apart W args.toList ds gs before)
  (hres : ∀ (b : Nat) (sp : Nat → Bool) (hd : Bool), DataW.TrodAll enc P W' b sp hd f.resultTypes.toList (v.resultList f.resultTypes.size) (s.fn H (ds ++ gs)).results [])
  (hargs : ∀ sp : Nat → Bool, (∀ p ∈ before, sp p.block = true) → DataW.TrodAll enc P W' 0 sp true f.params.toList args.toList (s.fn H (ds ++ gs)).args pa)
  (hvars : ∀ sp : Nat → Bool, (∀ p ∈ before, sp p.block = true) → DataW.TrodVars enc P W' sp s.vars (s.fn H (ds ++ gs)).vars pv)
  (hps : before = pa ++ pv) (hk : Kept W W')
  (hok : ∀ (j : Nat) (t : TypeId) (r : Value), f.resultTypes[j]? = some t → (v.resultList f.resultTypes.size)[j]? = some r → Value.okWide P W' .any 0 t r) :
  s.post enc P f apart fresh handsOn again W args v W' := by
 have hold : ∀ p ∈ before, (fun b => decide (b < W.heap.size)) p.block = true := fun p hp => by simpa using hW.lt p hp
 refine ⟨ds, gs, before, [], pa, pv, hW, hres _ _ _, hargs _ hold, hvars _ hold, World.keptBut_mono (fun p hp => ⟨hp, ?_⟩) (hk.frame (· ∈ before)), fun _ => ?_⟩
 ·rw [hps, List.mem_append] at hp
  exact Or.inr hp
 have hlt := hW.lt
 obtain ⟨_, _, _, _, _, hz, hn⟩ := hW
 refine ⟨hok, _, _, ([] ++ pa) ++ pv, ⟨[] ++ pa, pv, trodAll_append (hargs _ (fun _ _ => rfl)) (hres _ _ _), hvars _ (fun _ _ => rfl), rfl, ?_, ?_⟩, ?_⟩
 ·intro b off hp
  have hp' : MemPlace.cell b off ∈ before := by rw [hps]; simpa using hp
  rw [hk.frozen _ (hlt _ hp')]
  exact hz b off hp'
 ·intro ha
  have := hn ha
  rw [hps] at this
  simpa using this
 intro p hp _
 rw [hps]
 simpa using hp
end
section
open Go Go.ChangeShapes Go.WideShapes Go.ChangeAt Go.RowKit
theorem rowAt_le {p : Program} {fits : TypeId → Bool} {d : Nat} {e : TypeId} {count off n : Nat} (h : rowAt p fits d e count off n = true) : off ≤ count * p.cellsOf e := by
 cases d with
 | zero => simp [rowAt] at h
 | succ d =>
  unfold rowAt at h
  simp only at h
  split at h
  ·cases h
  rename_i hs
  have hs' : 0 < p.cellsOf e := Nat.pos_of_ne_zero hs
  have hd := Nat.div_add_mod off (p.cellsOf e)
  rw [Nat.mul_comm] at hd
  simp only [Bool.or_eq_true, Bool.and_eq_true, beq_iff_eq, decide_eq_true_eq] at h
  rcases h with ⟨⟨h0, h1⟩, _⟩ | ⟨h1, _⟩
  ·rw [← hd, h0, Nat.add_zero]
   exact Nat.mul_le_mul_right _ (by omega)
  have hm := Nat.mod_lt off hs'
  have : (off / p.cellsOf e + 1) * p.cellsOf e ≤ count * p.cellsOf e := Nat.mul_le_mul_right _ h1
  rw [Nat.add_mul] at this
  omega
theorem liesAt_le {p : Program} {d : Nat} {e u : TypeId} {count off n : Nat} (h : liesAt p d e count off u n = true) : off ≤ count * p.cellsOf e := by
 induction d generalizing u n with
 | zero => simp [liesAt] at h
 | succ d ih =>
  unfold liesAt at h
  rw [Bool.or_eq_true] at h
  rcases h with h | h
  ·exact rowAt_le h
  split at h
  ·exact ih h
  cases h
theorem has_seg {P : Program} {W : World} {r : Reach} {base : Nat} {a : Addr} {e : TypeId} {cap : Nat} (h : W.has P r base a e cap) {vs : List Value} (hc : ∀ i (hi : i < vs.length), W.cell? (a.add i) = some vs[i]) :
  ∃ b off, a = ⟨b, off, none⟩ ∧ Seg W b off vs := by
 obtain ⟨_, hsp, row, cells, hsh, hl⟩ := h
 obtain ⟨b, off, spot⟩ := a
 dsimp only at hsp hsh hl
 subst hsp
 refine ⟨b, off, rfl, ?_⟩
 unfold World.shape? at hsh
 split at hsh
 ·rename_i cur e' fr hb
  simp only [Option.some.injEq, Prod.mk.injEq] at hsh
  obtain ⟨rfl, rfl⟩ := hsh
  have hoff : off ≤ cur.size := Nat.le_trans (liesAt_le hl) (Nat.div_mul_le_self _ _)
  have hget : ∀ i (hi : i < vs.length), cur.toList[off + i]? = some vs[i] := fun i hi => by
   have := hc i hi
   rw [add_plain] at this
   unfold World.cell? at this
   rw [hb] at this
   simpa using this
  refine ⟨cur, e', fr, cur.toList.take off, cur.toList.drop (off + vs.length), hb, ?_, by simp [hoff]⟩
  have hvs : vs = (cur.toList.drop off).take vs.length := by
   apply List.ext_getElem?
   intro i
   rcases Nat.lt_or_ge i vs.length with hi | hi
   ·rw [List.getElem?_take_of_lt hi, List.getElem?_drop, hget i hi, List.getElem?_eq_getElem hi]
   rw [List.getElem?_eq_none hi, List.getElem?_eq_none (by simp; omega)]
  have : vs ++ cur.toList.drop (off + vs.length) = cur.toList.drop off := by
   conv => lhs; arg 1; rw [hvs]
   rw [← List.drop_drop]
   exact List.take_append_drop _ _
  rw [List.append_assoc, this, List.take_append_drop]
 cases hsh
theorem nown (b : Nat) : ¬ Mu.zero.owns b := fun h => h.elim (fun ⟨_, _, h⟩ => by cases h) id
theorem trodAll_stays {H : Type} {enc : TypeId × Value → H} {P : Program} (hl : laidOutB P = true) {W W' : World} {sp : Nat → Bool} : ∀ {ts : List TypeId} {vs : List Value} {ds : List (DataW H)} {ps : List MemPlace},
  (ts.all fun t => P.readableRec t && decide (t < P.types.size)) = true → DataW.TrodAll enc P W 0 (fun _ => true) true ts vs ds ps → (∀ p ∈ ps, W.sameAt W' p) → (∀ p ∈ ps, sp p.block = true) → DataW.TrodAll enc P W' 0 sp true ts vs ds ps
 | [], vs, ds, ps, _, h, _, _ => by
  obtain ⟨rfl, rfl, rfl⟩ := trodAll_nil h
  exact trodAll_mk0
 | t :: ts, vs, ds, ps, ht, h, h1, h2 => by
  obtain ⟨v, vs', d, ds', p, q, rfl, rfl, rfl, h3, h4⟩ := trodAll_cons h
  simp only [List.all_cons, Bool.and_eq_true, decide_eq_true_eq] at ht
  exact trodAll_cons_mk (WideElems.Trod_stays hl ht.1.1 ht.1.2 h3 (fun x hx => h1 x (List.mem_append_left _ hx)) (fun x hx => h2 x (List.mem_append_left _ hx)))
   (trodAll_stays hl ht.2 h4 (fun x hx => h1 x (List.mem_append_right _ hx)) (fun x hx => h2 x (List.mem_append_right _ hx)))
theorem Kept.same {W W' : World} (h : Kept W W') (p : MemPlace) (hp : p.block < W.heap.size) : W.sameAt W' p := by
 cases p with
 | cell b off =>
  show W'.cell? ⟨b, off, none⟩ = W.cell? ⟨b, off, none⟩
  unfold World.cell?
  rw [h.2.2.2 b hp]
 | map b => exact h.2.2.2 b hp
theorem post_of_true {H : Type} {enc : TypeId × Value → H} {P : Program} {f : Func} {s : ChangeSpec} {apart fresh handsOn again : Bool} {W W' : World} {args : Array Value} {ds gs : List (DataW H)} {before : List MemPlace} {t : TypeId}
  (hl : laidOutB P = true) (hps : (f.params.toList.all fun t => P.readableRec t && decide (t < P.types.size)) = true) (hres : f.resultTypes = #[t]) (ht : P.underlying t = some .bool) (hv : s.vars = [])
  (hW : DataW.Whole enc P f.params.toList s.vars apart W args.toList ds gs before) (hk : Kept W W')
  (h1 : (s.fn H (ds ++ gs)).results = [.lit (.bool true)]) (h2 : (s.fn H (ds ++ gs)).args = ds) (h3 : (s.fn H (ds ++ gs)).vars = []) :
  s.post enc P f apart fresh handsOn again W args (.bool true) W' := by
 have hlt := hW.lt
 have hW' := hW
 obtain ⟨p, q, hA, hV, rfl, _, _⟩ := hW
 rw [hv] at hV
 obtain ⟨rfl, rfl⟩ := trodVars_none hV
 refine post_of_kept (pa := p) (pv := []) hW' (fun _ _ _ => ?_) (fun sp hsp => ?_) (fun _ _ => ?_) (by simp) hk (ok_one hres rfl (okWide_bool_mk ht _))
 ·rw [hres, h1]
  exact trodAll_cons_mk (shut_bool ht _) trodAll_mk0
 ·rw [h2]
  exact trodAll_stays hl hps hA (fun x hx => hk.same x (hlt x (by simpa using hx))) (fun x hx => hsp x (by simpa using hx))
 rw [h3, hv]
 rfl
end
section
open Go Go.ChangeShapes Go.WideShapes Go.ChangeAt Go.RowKit
section
variable {H : Type} {enc : TypeId × Value → H} {P : Program} {W : World} {base : Nat}
theorem repL_app {μ : Mu} : ∀ {hs ks : List HV} {vs us : List Value}, RepL W μ hs vs → RepL W μ ks us → RepL W μ (hs ++ ks) (vs ++ us)
 | [], _, _, _, h, h' => by cases h; exact h'
 | _ :: _, _, _, _, ⟨x, xs, rfl, h1, h2⟩, h' => ⟨x, _, rfl, h1, repL_app h2 h'⟩
theorem add_adds (a : Addr) (i j : Nat) : (a.add i).add j = a.add (i + j) := by
 unfold Addr.add
 repeat' split
 all_goals simp_all [Nat.add_assoc]
theorem open_rows {α : Type} (c : EncL α) {fuel : Nat} {t e : TypeId} {cs : List Value} {x : DataW H × List MemPlace} (ht : P.underlying t = some (.slice e)) (hk : P.cellsOf e = c.k) (hone : ∀ x, ones (c.C x))
  (hel : ∀ n cs y, DataW.trod enc P W 0 (fun _ => true) true n e cs = some y → ∃ x : α, RepL W Mu.zero (c.C x) cs)
  (hhas : ∀ a len cap, cs = [.slice (some a) len cap] → W.has P .any base a e cap) (h : DataW.trod enc P W 0 (fun _ => true) true fuel t cs = some x) : ∃ l : List α, RepL W Mu.zero [slE c l] cs := by
 rcases DataW.trod_slice ht h with ⟨rfl, _⟩ | ⟨a, len, cap, elems, rest, n, _, rfl, _, _, hl, hm, hlen, hel', _, _⟩
 ·refine ⟨[], _, _, rfl, ?_, rfl⟩
  show _ ∧ _
  exact ⟨(by rw [c.nil]; exact fun _ h => nomatch h), (by rw [c.nil]; simp), Nat.zero_le _, .inl ⟨rfl, none, rfl⟩⟩
 have each : ∀ i, i < len → ∃ cs' x, W.cells? 0 (a.add (i * c.k)) c.k = some cs' ∧ RepL W Mu.zero (c.C x) cs' := fun i hi => by
  have h1 := hel' i hi
  rw [List.getElem?_eq_getElem (by omega), Option.bind_eq_some_iff, hk] at h1
  obtain ⟨cs', h2, h3⟩ := h1
  obtain ⟨x, hx⟩ := hel _ _ _ h3
  exact ⟨cs', x, h2, hx⟩
 have build : ∀ m, m ≤ len → ∃ (l : List α) (vs : List Value), l.length = m ∧ vs.length = m * c.k ∧ RepL W Mu.zero (c.E l) vs ∧ ∀ i (hi : i < vs.length), W.cell? (a.add i) = some vs[i] := by
  intro m
  induction m with
  | zero => exact fun _ => ⟨[], [], rfl, by simp, by rw [c.nil]; rfl, fun i hi => by simp at hi⟩
  | succ m ih =>
   intro hm
   obtain ⟨l, vs, h1, h2, h3, h4⟩ := ih (by omega)
   obtain ⟨cs', x, h5, h6⟩ := each m (by omega)
   obtain ⟨_, h7, h8⟩ := World.cells?_some h5
   refine ⟨l ++ [x], vs ++ cs', by simp [h1], by rw [List.length_append, h2, h7, Nat.succ_mul], by rw [c.append, c.one]; exact repL_app h3 h6, fun i hi => ?_⟩
   rcases Nat.lt_or_ge i vs.length with hi' | hi'
   ·rw [List.getElem_append_left hi']; exact h4 i hi'
   rw [List.getElem_append_right hi']
   rw [List.length_append] at hi
   have := h8 (i - vs.length) (by omega)
   rw [add_adds, h2, show m * c.k + (i - m * c.k) = i by omega] at this
   rw [this, List.getElem?_eq_getElem (by omega)]
   simp only [h2]
 obtain ⟨l, vs, h1, h2, h3, h4⟩ := build len (Nat.le_refl _)
 obtain ⟨b, off, rfl, hseg⟩ := has_seg (hhas _ _ _ rfl) h4
 refine ⟨l, _, _, rfl, ?_, rfl⟩
 show _ ∧ _
 refine ⟨fun d hd => ?_, c.len l, by omega, .inr ⟨b, off, cap, vs, by rw [h1], by omega, nown b, hseg, h3⟩⟩
 rw [c.hE] at hd
 obtain ⟨x, _, hdx⟩ := List.mem_flatMap.1 hd
 exact hone x d hdx
theorem open3 {t : TypeId} {f0 f1 f2 : Field} {fuel : Nat} {cs : List Value} {x : DataW H × List MemPlace} (ht : P.underlying t = some (.struct #[f0, f1, f2])) (o0 : f0.offset = 0) (o1 : f1.offset = 1) (o2 : f2.offset = 2) (c : P.cellsOf t = 3)
  (c0 : P.cellsOf f0.type = 1) (c1 : P.cellsOf f1.type = 1) (c2 : P.cellsOf f2.type = 1) (h : DataW.trod enc P W 0 (fun _ => true) true fuel t cs = some x) :
  ∃ v0 v1 v2 y0 y1 y2 n, cs = [v0, v1, v2] ∧ DataW.trod enc P W 0 (fun _ => true) true n f0.type [v0] = some y0 ∧ DataW.trod enc P W 0 (fun _ => true) true n f1.type [v1] = some y1 ∧ DataW.trod enc P W 0 (fun _ => true) true n f2.type [v2] = some y2 := by
 obtain ⟨xs, n, _, rfl, hl, hlen, hf⟩ := DataW.trod_struct ht h
 rw [c] at hl
 match cs, hl with
 | [v0, v1, v2], _ =>
  match xs, hlen with
  | [y0, y1, y2], _ =>
   refine ⟨v0, v1, v2, y0, y1, y2, n, rfl, ?_, ?_, ?_⟩
   ·have := hf 0 f0 rfl; rw [o0, c0] at this; exact this
   ·have := hf 1 f1 rfl; rw [o1, c1] at this; exact this
   have := hf 2 f2 rfl; rw [o2, c2] at this; exact this
theorem rep_i64 {n : Int} {ti : TypeId} {m : Nat} {v : Value} {y : DataW H × List MemPlace} (hti : P.underlying ti = some (.int .i64)) (h : DataW.trod enc P W 0 (fun _ => true) true m ti [v] = some y) : ∃ n : Int, Rep W Mu.zero (.int .i64 n) v := by
 obtain ⟨n, hv, _, hw⟩ := DataW.trod_int hti h
 cases hv
 exact ⟨n, rfl, hw⟩
theorem open_graph {t ti ts te : TypeId} {f0 f1 f2 e0 e1 e2 : Field} {v : Value} {d : DataW H} {ps : List MemPlace} (ht : P.underlying t = some (.struct #[f0, f1, f2])) (o : f0.offset = 0 ∧ f1.offset = 1 ∧ f2.offset = 2) (y : f0.type = ti ∧ f1.type = ti ∧ f2.type = ts)
  (c : P.cellsOf t = 3) (ci : P.cellsOf ti = 1) (cs : P.cellsOf ts = 1) (ct : P.cellTypes P.depth t = some [ti, ti, ts]) (hti : P.underlying ti = some (.int .i64)) (hts : P.underlying ts = some (.slice te))
  (hte : P.underlying te = some (.struct #[e0, e1, e2])) (oe : e0.offset = 0 ∧ e1.offset = 1 ∧ e2.offset = 2) (ye : e0.type = ti ∧ e1.type = ti ∧ e2.type = ti) (ce : P.cellsOf te = 3)
  (hval : Value.okWide P W .any base t v) (h : DataW.Trod enc P W 0 (fun _ => true) true t v d ps) : ∃ g : TLabelsStatesEdges, Rep W Mu.zero (.agg [.int .i64 g.1, .int .i64 g.2.1, slE eFromLabelTo g.2.2]) v := by
 obtain ⟨y0, y1, y2⟩ := y
 obtain ⟨z0, z1, z2⟩ := ye
 simp only [Value.okWide, ht] at hval
 obtain ⟨arr, rfl, _, hrow⟩ := hval
 obtain ⟨fuel, hf⟩ := h
 obtain ⟨v0, v1, v2, a0, a1, a2, n, hcs, h0, h1, h2⟩ := open3 ht o.1 o.2.1 o.2.2 c (by rw [y0]; exact ci) (by rw [y1]; exact ci) (by rw [y2]; exact cs) hf
 have harr : arr = #[v0, v1, v2] := by
  have : arr.toList = [v0, v1, v2] := hcs
  cases arr
  simp_all
 subst harr
 rw [y0] at h0
 rw [y1] at h1
 rw [y2] at h2
 obtain ⟨l, r0⟩ := rep_i64 (n := 0) hti h0
 obtain ⟨s, r1⟩ := rep_i64 (n := 0) hti h1
 obtain ⟨es, _, _, r2, r2', r2''⟩ := open_rows (base := base) eFromLabelTo hts ce (fun x d hd => by
   have hd : d ∈ [HV.int .i64 x.1, HV.int .i64 x.2.1, HV.int .i64 x.2.2] := hd
   simp only [List.mem_cons, List.not_mem_nil, or_false] at hd
   rcases hd with rfl | rfl | rfl <;> rfl) (fun m cs' y hy => by
   obtain ⟨w0, w1, w2, b0, b1, b2, n', rfl, k0, k1, k2⟩ := open3 hte oe.1 oe.2.1 oe.2.2 ce (by rw [z0]; exact ci) (by rw [z1]; exact ci) (by rw [z2]; exact ci) hy
   rw [z0] at k0
   rw [z1] at k1
   rw [z2] at k2
   obtain ⟨p0, q0⟩ := rep_i64 (n := 0) hti k0
   obtain ⟨p1, q1⟩ := rep_i64 (n := 0) hti k1
   obtain ⟨p2, q2⟩ := rep_i64 (n := 0) hti k2
   exact ⟨(p0, p1, p2), _, _, rfl, q0, _, _, rfl, q1, _, _, rfl, q2, rfl⟩) (fun a len cap e => by
   cases e
   obtain ⟨tys, ht1, _, hcell⟩ := hrow
   rw [ct] at ht1
   cases ht1
   obtain ⟨u, hu, hok⟩ := hcell 2 (.slice (some a) len cap) rfl
   cases hu
   simp only [Cell.okWide, hts, Cell.ok] at hok
   exact hok.2.2) h2
 cases r2
 refine ⟨(l, s, es), ?_⟩
 show _ ∧ _
 refine ⟨fun d hd => ?_, _, rfl, _, _, rfl, r0, _, _, rfl, r1, _, _, rfl, r2', rfl⟩
 simp only [List.mem_cons, List.not_mem_nil, or_false] at hd
 rcases hd with rfl | rfl | rfl <;> rfl
end
end
section
open Go Go.ChangeShapes Go.WideShapes Go.ChangeAt Go.RowKit
section
variable {H : Type} {enc : TypeId × Value → H} {P : Program} {W : World} {base : Nat}
theorem open_numbers {k : IntKind} {t e : TypeId} {v : Value} {d : DataW H} {ps : List MemPlace} (ht : P.underlying t = some (.slice e)) (he : P.underlying e = some (.int k)) (hc : P.cellsOf e = 1)
  (hval : Value.okWide P W .any base t v) (h : DataW.Trod enc P W 0 (fun _ => true) true t v d ps) : ∃ l : List Int, Rep W Mu.zero (slE (encM (HV.int k)) l) v := by
 obtain ⟨a, len, cap, rfl⟩ := okWide_slice ht hval
 obtain ⟨fuel, hf⟩ := h
 obtain ⟨l, x, xs, e1, h1, h2⟩ := open_rows (encM (HV.int k)) ht hc (fun x => ones.single rfl) (fun n cs y hy => by
  obtain ⟨m, hv, _, hw⟩ := DataW.trod_int he hy
  exact ⟨m, _, _, hv, ⟨rfl, hw⟩, rfl⟩) (fun a' len' cap' e => by
   simp [Value.cells] at e
   obtain ⟨rfl, rfl, rfl⟩ := e
   simp only [Value.okWide, ht, Cell.okWide, Cell.ok] at hval
   exact hval.2.2) hf
 simp [Value.cells] at e1
 obtain ⟨rfl, _⟩ := e1
 exact ⟨l, h1⟩
end
end
section
open Go Go.ChangeShapes Go.WideShapes Go.ChangeAt Go.RowKit
theorem fact_u8s {l : List Int} (h : fact (slE eU8 l)) : ∀ x ∈ l, 0 ≤ x ∧ x < 256 := fun x hx => by
 have hE : eU8.E l = l.map (HV.int .u8) := by simp [EncL.E, encM]
 have h2 : factL (eU8.E l) := h.2.2
 rw [hE] at h2
 have h3 := factL_iff.1 h2 (.int .u8 x) (List.mem_map.2 ⟨x, hx, rfl⟩)
 have h4 : 0 ≤ x ∧ x ≤ 255 := by simpa [fact, Lit.wf, IntKind.min, IntKind.max, IntKind.signed, IntKind.bits] using h3
 omega
section
variable {H : Type} {enc : TypeId × Value → H} {P : Program} {W : World} {base : Nat}
theorem open_u8s {t e : TypeId} {v : Value} {d : DataW H} {ps : List MemPlace} (ht : P.underlying t = some (.slice e)) (he : P.underlying e = some (.int .u8)) (hc : P.cellsOf e = 1)
  (hval : Value.okWide P W .any base t v) (h : DataW.Trod enc P W 0 (fun _ => true) true t v d ps) : ∃ l : List Int, Rep W Mu.zero (slE eU8 l) v := open_numbers ht he hc hval h
end
end
section
open Go Go.ChangeShapes Go.WideShapes Go.ChangeAt Go.RowKit
section
variable {H : Type} {enc : TypeId × Value → H} {P : Program} {W : World} {base : Nat}
theorem open2 {t : TypeId} {f0 f1 : Field} {fuel : Nat} {cs : List Value} {x : DataW H × List MemPlace} (ht : P.underlying t = some (.struct #[f0, f1])) (o0 : f0.offset = 0) (o1 : f1.offset = 1) (c : P.cellsOf t = 2)
  (c0 : P.cellsOf f0.type = 1) (c1 : P.cellsOf f1.type = 1) (h : DataW.trod enc P W 0 (fun _ => true) true fuel t cs = some x) :
  ∃ v0 v1 y0 y1 n, cs = [v0, v1] ∧ DataW.trod enc P W 0 (fun _ => true) true n f0.type [v0] = some y0 ∧ DataW.trod enc P W 0 (fun _ => true) true n f1.type [v1] = some y1 := by
 obtain ⟨xs, n, _, rfl, hl, hlen, hf⟩ := DataW.trod_struct ht h
 rw [c] at hl
 match cs, hl with
 | [v0, v1], _ =>
  match xs, hlen with
  | [y0, y1], _ =>
   refine ⟨v0, v1, y0, y1, n, rfl, ?_, ?_⟩
   ·have := hf 0 f0 rfl; rw [o0, c0] at this; exact this
   have := hf 1 f1 rfl; rw [o1, c1] at this; exact this
theorem open_joins {t ts te : TypeId} {f0 f1 : Field} {v : Value} {d : DataW H} {ps : List MemPlace} (ht : P.underlying t = some (.struct #[f0, f1])) (o : f0.offset = 0 ∧ f1.offset = 1) (y : f0.type = ts ∧ f1.type = ts)
  (c : P.cellsOf t = 2) (cs : P.cellsOf ts = 1) (ct : P.cellTypes P.depth t = some [ts, ts]) (hts : P.underlying ts = some (.slice te)) (hte : P.underlying te = some .string) (ce : P.cellsOf te = 1)
  (hval : Value.okWide P W .any base t v) (h : DataW.Trod enc P W 0 (fun _ => true) true t v d ps) : ∃ g : List (List UInt8) × List (List UInt8), Rep W Mu.zero (.agg [slE eStr g.1, slE eStr g.2]) v := by
 obtain ⟨y0, y1⟩ := y
 simp only [Value.okWide, ht] at hval
 obtain ⟨arr, rfl, _, hrow⟩ := hval
 obtain ⟨fuel, hf⟩ := h
 obtain ⟨v0, v1, a0, a1, n, hcs, h0, h1⟩ := open2 ht o.1 o.2 c (by rw [y0]; exact cs) (by rw [y1]; exact cs) hf
 have harr : arr = #[v0, v1] := by
  have : arr.toList = [v0, v1] := hcs
  cases arr
  simp_all
 subst harr
 rw [y0] at h0
 rw [y1] at h1
 obtain ⟨tys, ht1, _, hcell⟩ := hrow
 rw [ct] at ht1
 cases ht1
 have one : ∀ (m : Nat) (cs' : List Value) (y : DataW H × List MemPlace), DataW.trod enc P W 0 (fun _ => true) true m te cs' = some y → ∃ x : List UInt8, RepL W Mu.zero [HV.str x] cs' := by
  intro m cs' y hy
  obtain ⟨s, rfl, _, hz⟩ := DataW.trod_string hte hy
  exact ⟨s.data.toList, _, _, rfl, rep_string s hz, rfl⟩
 obtain ⟨l, _, _, r0, r0', _⟩ := open_rows (base := base) eStr hts ce (fun x d hd => by
   have hd : d ∈ [HV.str x] := hd
   simp only [List.mem_cons, List.not_mem_nil, or_false] at hd
   subst hd; rfl) one (fun a len cap e => by
   cases e
   obtain ⟨u, hu, hok⟩ := hcell 0 (.slice (some a) len cap) rfl
   cases hu
   simp only [Cell.okWide, hts, Cell.ok] at hok
   exact hok.2.2) h0
 obtain ⟨k, _, _, r1, r1', _⟩ := open_rows (base := base) eStr hts ce (fun x d hd => by
   have hd : d ∈ [HV.str x] := hd
   simp only [List.mem_cons, List.not_mem_nil, or_false] at hd
   subst hd; rfl) one (fun a len cap e => by
   cases e
   obtain ⟨u, hu, hok⟩ := hcell 1 (.slice (some a) len cap) rfl
   cases hu
   simp only [Cell.okWide, hts, Cell.ok] at hok
   exact hok.2.2) h1
 cases r0
 cases r1
 refine ⟨(l, k), ?_⟩
 show _ ∧ _
 refine ⟨fun d hd => ?_, _, rfl, _, _, rfl, r0', _, _, rfl, r1', rfl⟩
 simp only [List.mem_cons, List.not_mem_nil, or_false] at hd
 rcases hd with rfl | rfl <;> rfl
end
end
end Go.AW
namespace Go.Proofs.YtdghoeofijghfaaGreat
open Go Go.AW Go.ChangeShapes Go.WideShapes Go.ChangeAt Go.RowKit Go.ChangeMaps
set_option linter.unusedVariables false
theorem ownM : ownKnob Tryz.prog.godebug = none := by kernel_rfl
theorem laidB : laidOutB Tryz.prog = true := by kernel_rfl
theorem wLaw (a0 : TWordsMerges) (a1 : TLabelsStatesEdges) (a2 : List Int) : Pure Tryz.prog 3 [HV.agg [slE eStr a0.1, slE eStr a0.2], HV.agg [HV.int .i64 a1.1, HV.int .i64 a1.2.1, slE eFromLabelTo a1.2.2], slE eU8 a2] (· = .bool true) := ACall.facts (enters' Tryz.func3 rfl rfl) fun hf => w_top_TopMergingSame (law_same _ _ _ (fun x hx => (by have := fact_u8s hf.2.2.1 x hx; omega)) (by have h9 : _ ≤ maxLen := hf.2.2.1.1; simp only [maxLen] at h9; omega))
set_option maxRecDepth 100000 in
theorem liftedL (os : Os) (started : os.Started) (H : Type) (enc : TypeId × Value → H) :
  ReturnsInHanded {} Tryz.checked os 3 .any (Rows.topMergingSameSpec.pre6 enc Tryz.prog Tryz.f3 Rows.topMergingSameRow.domain false) (Rows.topMergingSameSpec.post enc Tryz.prog Tryz.f3 false true false false) := by
 refine returnsInHanded_of_change (C := Tryz.checked) ownM started (by kernel_rfl) Tryz.func3
  (ChangeSpec.witness6 (enc := enc) (C := Tryz.checked) false ⟨#[], #[.agg #[.slice none 0 0, .slice none 0 0], .agg #[.int .i64 0, .int .i64 0, .slice none 0 0], .slice none 0 0], []⟩ 8 (by kernel_rfl) (by kernel_rfl) (by kernel_rfl) (by kernel_rfl)) ?_
 intro W base args ds gs before hval0 hW hcnd _
 have hval : ∀ (j : Nat) t v, Tryz.f3.params[j]? = some t → args[j]? = some v → Value.okWide Tryz.prog W .any base t v := hval0
 have hW' := hW
 obtain ⟨p, q, hA0, hV, rfl, hfz, hnd⟩ := hW
 have hA : DataW.TrodAll enc Tryz.prog W 0 (fun _ => true) true Tryz.f3.params.toList args.toList ds p := hA0
 rw [Tryz.params3] at hA hval
 obtain ⟨v0, vs0, d0, ds0, p0, q0, hargs, rfl, rfl, h0, r0⟩ := trodAll_cons hA
 obtain ⟨v1, vs1, d1, ds1, p1, q1, rfl, rfl, rfl, h1, r1⟩ := trodAll_cons r0
 obtain ⟨v2, vs2, d2, ds2, p2, q2, rfl, rfl, rfl, h2, r2⟩ := trodAll_cons r1
 obtain ⟨rfl, rfl, rfl⟩ := trodAll_nil r2
 obtain rfl : args = #[v0, v1, v2] := by cases args; simp_all
 obtain ⟨rfl, rfl⟩ := trodVars_none hV
 obtain ⟨a0, hr0⟩ := open_joins Tryz.underlying24 ⟨rfl, rfl⟩ ⟨rfl, rfl⟩ (by kernel_rfl) (by kernel_rfl) (by kernel_rfl) Tryz.underlying22 Tryz.underlying9 (by kernel_rfl) (hval 0 24 v0 rfl rfl) h0
 obtain ⟨a1, hr1⟩ := open_graph Tryz.underlying27 ⟨rfl, rfl, rfl⟩ ⟨rfl, rfl, rfl⟩ (by kernel_rfl) (by kernel_rfl) (by kernel_rfl) (by kernel_rfl) Tryz.underlying3 Tryz.underlying25 Tryz.underlying35 ⟨rfl, rfl, rfl⟩ ⟨rfl, rfl, rfl⟩ (by kernel_rfl) (hval 1 27 v1 rfl rfl) h1
 obtain ⟨a2, hr2⟩ := open_u8s Tryz.underlying28 Tryz.underlying5 (by kernel_rfl) (hval 2 28 v2 rfl rfl) h2
 refine (calls_of_pure (vs := [v0, v1, v2]) (wLaw a0 a1 a2) ⟨_, _, rfl, hr0, _, _, rfl, hr1, _, _, rfl, hr2, rfl⟩).mono fun e W' ⟨he, hk⟩ => ?_
 subst he
 exact ⟨_, rfl, post_of_true laidB (by kernel_rfl) rfl Tryz.underlying4 rfl hW' hk rfl rfl rfl⟩
theorem topMergingSameProved : Rows.TopMergingSameSaid :=
 OpenClaim.holds_of_wide 3 Tryz.f3 rfl rfl rfl rfl rfl rfl rfl ⟨rfl, rfl, rfl, rfl, rfl⟩ rfl rfl rfl rfl rfl (by kernel_rfl) Tryz.func3 (by kernel_rfl)
  (of_decide_eq_true (by kernel_rfl)) (by unfold Func.isWrapper; first | (rw [if_pos (by decide +kernel)]; kernel_rfl) | (rw [if_neg (by decide +kernel)]; exact ⟨rfl, rfl⟩))
  (fun os started H enc _ => liftedL os started H enc)
#print axioms topMergingSameProved
end Go.Proofs.YtdghoeofijghfaaGreat

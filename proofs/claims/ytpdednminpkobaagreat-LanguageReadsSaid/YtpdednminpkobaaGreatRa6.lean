import Derived.Test.YtpdednminpkobaaGreatRa5
/- The letters that can follow, and the least path, in the reference; the law of reading. -/
namespace Go.AW
open Go
set_option linter.unusedSimpArgs false
set_option linter.unusedVariables false

section
variable {g : Gr}
theorem Letters_both (g : Gr) (w : List UInt8) : ∃ r, m_language_Letters g w = some r ∧ m_ref11_Letters g w = some r := by
  obtain ⟨e, he, hz⟩ := spells_tot g w
  by_cases h0 : e = 0
  case neg =>
    refine ⟨([], e), ?_, ?_⟩
    · unfold m_language_Letters
      rw [he]
      simp only [Option.bind_some]
      rw [if_pos h0]
    · unfold m_ref11_Letters
      rw [checkWord_ref, he]
      simp only [Option.bind_some]
      rw [if_pos h0]
  obtain ⟨hv, h16, hw⟩ := hz.1 h0
  subst h0
  refine ⟨_, Letters_eq hv h16 hw, ?_⟩
  have hwl := hw.1
  have hl1 := hv.l1
  have hok := endsL_ok (upto_ok g) w
  have hsl := setOk_len hv hok
  obtain ⟨L, hL⟩ := Int.eq_ofNat_of_zero_le (show 0 ≤ g.1 by omega)
  have hL16 : L ≤ letters.length := by rw [letters_len]; omega
  unfold m_ref11_Letters
  rw [checkWord_ref, he]
  simp only [Option.bind_some, ne_eq, not_true_eq_false, if_false, All_eq hv, refends_eq hv (upto_ok g) (by omega : w.length ≤ 1000000), jp]
  let p : UInt8 → Bool := fun c => decide (stepL g (endsL g (upto g.2.1) w) (lab c) ≠ [])
  refine bindL (loop_is (fun i => (((letters.take i).filter p), (i : Int))) L ((lets g).filter p) (fun i hi => ?_) ?_ (by simp)) rfl
  · dsimp only
    have hil : i < letters.length := by omega
    have hil16 : i < 16 := hil
    have e16 : ([48, 49, 50, 51, 52, 53, 54, 55, 56, 57, 97, 98, 99, 100, 101, 102] : List UInt8) = letters := rfl
    have el : lab letters[i] = (i : Int) := idx_letter hil
    rw [if_pos (by omega), refStep_eq hv (by omega)]
    simp only [Option.bind_some, nx (by omega : L ≤ _) hi, e16]
    have htk : (letters.take (i + 1)).filter p = (letters.take i).filter p ++ if stepL g (endsL g (upto g.2.1) w) (i : Int) = [] then [] else [letters[i]] := by
      rw [List.take_add_one, List.getElem?_eq_getElem hil, List.filter_append]
      congr 1
      show ([letters[i]] : List UInt8).filter p = _
      by_cases h : stepL g (endsL g (upto g.2.1) w) (i : Int) = []
      · rw [if_pos h]; simp [p, el, h]
      · rw [if_neg h]; simp [p, el, h]
    have hfl : ((letters.take i).filter p).length ≤ 16 := by
      refine Nat.le_trans (List.length_filter_le _ _) ?_
      rw [List.length_take, letters_len]; omega
    by_cases h : stepL g (endsL g (upto g.2.1) w) (i : Int) = []
    · rw [if_pos h, List.append_nil] at htk
      rw [if_neg (by simp [h]), htk]
    · rw [if_neg h] at htk
      have := List.length_pos_iff.2 h
      rw [if_pos (by omega), if_pos (by rw [letters_len]; omega)]
      simp only [Int.toNat_natCast, one_letter hil]
      rw [if_pos (by simp only [List.length_cons, List.length_nil, maxLen]; omega), htk]
      rfl
  · dsimp only
    rw [if_neg (by omega)]
    have : lets g = letters.take L := by unfold lets; rw [hL]; rfl
    rw [this]

def prevOk (x : Ed) : Option Int → Bool
  | none => true
  | some s => decide (x.1 = s)
theorem okE_eq {w : List UInt8} {c : UInt8} {prev : Option Int} {x : Ed} : okE g w c prev x = (decide (x.2.1 = lab c) && (canB g w).getD x.2.2.toNat false && prevOk x prev) := by cases prev <;> rfl
def setOf (g : Gr) : Option Int → List Int
  | none => upto g.2.1
  | some s => [s]

theorem feas_ends (hv : VG g) (w : List UInt8) : endsL g (upto g.2.1) w ≠ [] ↔ feas g none w := by
  rw [can_iff hv w (upto_ok g)]
  simp only [mem_upto]
  exact ⟨fun ⟨s, ⟨h0, h1⟩, hc⟩ => ⟨s, h0, h1, hc⟩, fun ⟨s, h0, h1, hc⟩ => ⟨s, ⟨h0, h1⟩, hc⟩⟩

theorem path_ref (hv : VG g) (h16 : g.1 ≤ 16) {w : List UInt8} (hw : WOk g w) (hf : feas g none w) : loopW (S := (List Int) × Int × (List Int)) (X := (List Int)) (fun a8 =>
          if a8.2.1 < ((w).length : Int) then
            (loopW (S := Int) (X := (List Int) × (List Int)) (fun a12 =>
                if a12 < ((g.2.2).length : Int) then
                  (idx g.2.2 a12).bind fun x16 =>
                  jp (fun (a19 : Bool) =>
                    if a19 = true then
                      if fits 8 ((a8.2.2 : List Int).length + ([a12]).length) then
                        some (Stp.exit ([x16.2.2], a8.2.2 ++ [a12]))
                      else none
                    else
                      some (Stp.next (IntKind.wrap .i64 (a12 + 1))))
                    fun k21 =>
                    (idx w a8.2.1).bind fun x24 =>
                    (m_ref07_Digit (x24.toNat : Int)).bind fun x26 =>
                    if x16.2.1 = x26 then
                      (m_ref11_has a8.1 x16.1).bind fun x28 =>
                      if x28 = true then
                        if 0 ≤ (IntKind.wrap .i64 (a8.2.1 + 1) : Int) ∧ (IntKind.wrap .i64 (a8.2.1 + 1) : Int) ≤ ((w).length : Int) ∧ ((w).length : Int) ≤ (w.length : Int) then
                          (m_ref11_ends g [x16.2.2] ((w.take (((w).length : Int)).toNat).drop (IntKind.wrap .i64 (a8.2.1 + 1)).toNat)).bind fun x31 =>
                          k21 (decide (0 < ((x31).length : Int)))
                        else none
                      else
                        k21 false
                    else
                      k21 false
                else
                  some (Stp.exit (a8.1, a8.2.2))) 0).bind fun a35 =>
            some (Stp.next (a35.1, IntKind.wrap .i64 (a8.2.1 + 1), a35.2))
          else
            some (Stp.exit a8.2.2)) (upto g.2.1, 0, []) = some (pathR g none w) := by
  obtain ⟨hl, hc⟩ := hw
  have hel := hv.el
  have hs1 := hv.s1
  refine loopN_eq (pathR g none w) w.length (fun i s => ∃ out : List Int, s = (setOf g (prevOf g out i), (i : Int), out) ∧ out.length = i ∧ pathR g none w = out ++ pathR g (prevOf g out i) (w.drop i) ∧ feas g (prevOf g out i) (w.drop i)) ?_ ?_ ⟨[], rfl, rfl, rfl, hf⟩
  · rintro i s hi ⟨out, rfl, ho, hp, hfe⟩
    dsimp only
    rw [if_pos (lt_int hi)]
    have e1 : IntKind.wrap .i64 ((i : Int) + 1) = ((i + 1 : Nat) : Int) := nx (by omega : w.length ≤ _) hi
    have hdrop : w.drop i = w[i] :: w.drop (i + 1) := List.drop_eq_getElem_cons hi
    rw [hdrop] at hfe hp
    obtain ⟨hk, hok, hfe2⟩ := feas_pick hv hfe
    have hmin := fun {k : Nat} => pick_min (g := g) (w := w.drop (i + 1)) (c := w[i]) (prev := prevOf g out i) (k := k)
    simp only [pathR] at hp
    generalize hK : pick g (w.drop (i + 1)) w[i] (prevOf g out i) = K at *
    have hsetlen : (setOf g (prevOf g out i)).length ≤ 64 := by
      unfold setOf
      split
      · rw [upto_len]; omega
      · simp
    have hgd : g.2.2.getD K (0, 0, 0) = g.2.2[K] := by simp [List.getD, hk]
    refine .inl ⟨_, bindL (loopN_eq ([(g.2.2[K]).2.2], out ++ [(K : Int)]) g.2.2.length (fun k s => s = (k : Int) ∧ k ≤ K) ?_ ?_ ⟨rfl, Nat.zero_le _⟩) rfl, ?_⟩
    · rintro k s hkl ⟨rfl, hkK⟩
      obtain ⟨q0, q1, q2, q3, _, _⟩ := hv.ed _ (List.getElem_mem hkl)
      have hnx := nx (by omega : g.2.2.length ≤ _) hkl
      rw [if_pos (lt_int hkl), ix hkl]
      simp only [Option.bind_some, ix hi, jp, e1, digit_eq, has_eq (show (setOf g (prevOf g out i)).length ≤ 9223372036854775807 by omega)]
      have hfit : fits 8 (out.length + [(k : Int)].length) := fits_le (by simp; omega) (by simp; omega)
      have hends : m_ref11_ends g [g.2.2[k].2.2] ((w.take ((w.length : Int)).toNat).drop ((i + 1 : Nat) : Int).toNat) = some (endsL g [g.2.2[k].2.2] (w.drop (i + 1))) := by
        have e2 : (w.take ((w.length : Int)).toNat).drop ((i + 1 : Nat) : Int).toNat = w.drop (i + 1) := by simp
        rw [e2]
        exact refends_eq hv (one_ok q2 q3) (by simp; omega)
      rw [hends, if_pos (by omega : (0 : Int) ≤ ((i + 1 : Nat) : Int) ∧ ((i + 1 : Nat) : Int) ≤ (w.length : Int) ∧ (w.length : Int) ≤ (w.length : Int))]
      simp only [Option.bind_some]
      have hcan : (0 < ((endsL g [g.2.2[k].2.2] (w.drop (i + 1))).length : Int)) ↔ (canB g (w.drop (i + 1))).getD g.2.2[k].2.2.toNat false = true := by
        have h1 := can_iff hv (w.drop (i + 1)) (one_ok q2 q3)
        constructor
        · intro h
          have : endsL g [g.2.2[k].2.2] (w.drop (i + 1)) ≠ [] := fun e => by rw [e] at h; simp at h
          obtain ⟨s, hs, hcs⟩ := h1.1 this
          simp at hs; subst hs
          exact hcs
        · intro h
          have := List.length_pos_iff.2 (h1.2 ⟨_, List.mem_singleton.2 rfl, h⟩)
          omega
      have hgoal : ∀ b : Bool, b = okE g (w.drop (i + 1)) w[i] (prevOf g out i) g.2.2[k] → (∃ s', (if b = true then if fits 8 (out.length + [(k : Int)].length) then some (Stp.exit ([g.2.2[k].2.2], out ++ [(k : Int)])) else none else some (Stp.next (IntKind.wrap .i64 ((k : Int) + 1)))) = some (Stp.next s') ∧ s' = ((k + 1 : Nat) : Int) ∧ k + 1 ≤ K) ∨ ∃ x, (if b = true then if fits 8 (out.length + [(k : Int)].length) then some (Stp.exit ([g.2.2[k].2.2], out ++ [(k : Int)])) else none else some (Stp.next (IntKind.wrap .i64 ((k : Int) + 1)))) = some (Stp.exit x) ∧ x = ([(g.2.2[K]).2.2], out ++ [(K : Int)]) := by
        intro b hb
        cases b with
        | true =>
          rw [if_pos rfl, if_pos hfit]
          have : k = K := by
            apply Classical.byContradiction
            intro hne
            have := hmin (by omega) hkl
            rw [← hb] at this
            cases this
          subst this
          exact .inr ⟨_, rfl, rfl⟩
        | false =>
          rw [if_neg (by simp), hnx]
          refine .inl ⟨_, rfl, rfl, ?_⟩
          have : k ≠ K := fun e => by subst e; rw [hok] at hb; cases hb
          omega
      by_cases hlab : g.2.2[k].2.1 = lab w[i]
      · rw [if_pos hlab]
        by_cases hin : g.2.2[k].1 ∈ setOf g (prevOf g out i)
        · rw [if_pos (decide_eq_true hin)]
          refine hgoal _ ?_
          have hprev : prevOk g.2.2[k] (prevOf g out i) = true := by
            cases hpv : prevOf g out i with
            | none => rfl
            | some s =>
              rw [hpv] at hin
              simpa [setOf, prevOk] using hin
          rw [okE_eq, hprev, hlab]
          simp only [decide_true, Bool.true_and, Bool.and_true]
          rw [Bool.eq_iff_iff, decide_eq_true_eq]
          exact hcan
        · rw [if_neg (by simpa using hin)]
          refine hgoal false ?_
          have hprev : prevOk g.2.2[k] (prevOf g out i) = false := by
            cases hpv : prevOf g out i with
            | none =>
              rw [hpv] at hin
              exact absurd (mem_upto.2 ⟨q0, q1⟩) hin
            | some s =>
              rw [hpv] at hin
              simpa [setOf, prevOk] using hin
          rw [okE_eq, hprev]; simp
      · rw [if_neg hlab]
        refine hgoal false ?_
        rw [okE_eq, decide_eq_false hlab]; simp
    · rintro s ⟨rfl, hkK⟩
      omega
    · have hprev : prevOf g (out ++ [(K : Int)]) (i + 1) = some (g.2.2.getD K (0, 0, 0)).2.2 := prevOf_succ ho
      refine ⟨out ++ [(K : Int)], ?_, by simp [ho], ?_, ?_⟩
      · rw [hprev, hgd, e1]; rfl
      · rw [hprev, hp, List.append_assoc]; rfl
      · rw [hprev, hgd]; exact hfe2
  · rintro s ⟨out, rfl, ho, hp, hfe⟩
    dsimp only
    rw [if_neg (not_lt_int _)]
    refine ⟨_, rfl, ?_⟩
    rw [hp, List.drop_length]
    simp [pathR]

theorem Path_both (g : Gr) (w : List UInt8) : ∃ r, m_language_Path g w = some r ∧ m_ref11_Path g w = some r ∧ r.1.length ≤ 65536 := by
  obtain ⟨e, he, hz⟩ := spells_tot g w
  by_cases h0 : e = 0
  case neg =>
    refine ⟨([], e), ?_, ?_, by simp⟩
    · unfold m_language_Path
      rw [he]
      simp only [Option.bind_some]
      rw [if_pos h0]
    · unfold m_ref11_Path
      rw [checkWord_ref, he]
      simp only [Option.bind_some]
      rw [if_pos h0]
  obtain ⟨hv, h16, hw⟩ := hz.1 h0
  subst h0
  have hwl := hw.1
  have hP := Path_eq hv h16 hw
  by_cases hf : feas g none w
  · refine ⟨_, hP.1 hf, ?_, by rw [pathR_len]; exact hwl⟩
    unfold m_ref11_Path
    rw [checkWord_ref, he]
    simp only [Option.bind_some, ne_eq, not_true_eq_false, if_false, All_eq hv, refends_eq hv (upto_ok g) (by omega : w.length ≤ 1000000)]
    have := List.length_pos_iff.2 ((feas_ends hv w).2 hf)
    rw [if_neg (by omega)]
    exact bindL (path_ref hv h16 hw hf) rfl
  · refine ⟨_, hP.2 hf, ?_, by simp⟩
    unfold m_ref11_Path
    rw [checkWord_ref, he]
    simp only [Option.bind_some, ne_eq, not_true_eq_false, if_false, All_eq hv, refends_eq hv (upto_ok g) (by omega : w.length ≤ 1000000)]
    have : endsL g (upto g.2.1) w = [] := Classical.byContradiction fun h => hf ((feas_ends hv w).1 h)
    rw [if_pos (by rw [this]; rfl)]
end

theorem long_tot (w : List UInt8) (n : Int) : ∃ b, m_ref07_Long w n = some b := by
  unfold m_ref07_Long
  simp only [jp]
  split
  · split
    · exact ⟨_, rfl⟩
    · exact ⟨_, rfl⟩
  · exact ⟨_, rfl⟩

theorem great_tot (g : Gr) (w : List UInt8) : ∃ b, m_law11_great g [w] = some b := by
  obtain ⟨b, hb, _⟩ := Great_tot g
  obtain ⟨c, hc⟩ := long_tot w 12
  unfold m_law11_great m_slices_ContainsFunc_Lstring_string m_slices_IndexFunc_Lstring_string m_law11_great_1
  simp only [jp, hb, Option.bind_some]
  cases b with
  | true => exact ⟨true, rfl⟩
  | false =>
    rw [if_neg (by simp)]
    rw [loopW_eq]
    have h0 : idx [w] 0 = some w := rfl
    simp only [List.length_cons, List.length_nil, h0, Option.bind_some, hc]
    rw [if_pos (by omega)]
    cases c with
    | true => exact ⟨_, rfl⟩
    | false =>
      simp only [Bool.false_eq_true, if_false]
      rw [loopW_eq, if_neg (by rw [wr0]; omega)]
      exact ⟨_, rfl⟩

theorem law_reads (g : Gr) (a : List Int) (w : List UInt8) : m_law11_LanguageReads g a w = some true := by
  obtain ⟨b, hb⟩ := great_tot g w
  unfold m_law11_LanguageReads
  simp only [jp, hb, Option.bind_some, m_law11_awake, if_true]
  by_cases hbt : b = true
  · rw [if_pos hbt]
  rw [if_neg hbt]
  by_cases h10 : 10 < (a.length : Int)
  · rw [if_pos (decide_eq_true h10)]
  rw [if_neg (by simp; omega)]
  obtain ⟨r1, p1, q1⟩ := Accepts_both g w
  obtain ⟨r2, p2, q2, h2⟩ := Ends_both g a w (by omega)
  obtain ⟨r3, p3, q3⟩ := Letters_both g w
  obtain ⟨r4, p4, q4, h4⟩ := Path_both g w
  rw [p1, q1, p2, q2, p3, q3, p4, q4]
  simp only [Option.bind_some, EqI_eq (show r2.1.length ≤ 9223372036854775807 by omega), EqI_eq (show r4.1.length ≤ 9223372036854775807 by omega), decide_true, if_true, BEq.rfl]
end Go.AW

namespace Go.AW
open Go Go.Proofs
set_option linter.unusedVariables false
set_option maxHeartbeats 1600000 in
set_option maxRecDepth 100000 in
theorem w_ref11_Great {p0 : TLabelsStatesEdges} {r : Bool} (h : m_ref11_Great p0 = some r) : Pure Tryz.prog 15 [HV.agg [HV.int .i64 p0.1, HV.int .i64 p0.2.1, slE eFromLabelTo p0.2.2]] (· = HV.bool r) := by
  unfold m_ref11_Great at h
  refine Pure.of_body Tryz.func15 rfl rfl (Nat.le_of_ble_eq_true rfl) fun hf => ?_
  unfold Tryz.f15
  dsimp only [enumS, Nat.reduceAdd]
  refine AW.rgs rfl fun K hK => ?_
  refine b_op rfl (o_box rfl rfl rfl ?_)
  refine mv rfl rfl ?_
  refine b_nil (hK _ (AW.to (to_le (s' := ⟨[(1, HV.fptr [HV.int .i64 p0.1, HV.int .i64 p0.2.1, slE eFromLabelTo p0.2.2] 0)], []⟩) (AS.le_of ⟨rfl, trivial⟩ trivial) ?_)))
  clear hK K
  refine AW.seqJ h (S := Bool) (V := Unit) (fun a v => ⟨[(2, HV.bool a)], []⟩) (fun a1 w2 h => ?_) (fun k3 h => ?_)
  · refine AW.ret ?_
    have h := Option.some.inj h
    subst h
    exact ret_pure (hs := [HV.bool a1]) (q := HV.bool a1) (.inr rfl) (resT rfl rfl) rfl trivial
  · refine AW.rg rfl fun K hK => ?_
    refine bv rfl (v_fieldAddrF fo24_1 rfl) ?_
    refine bv rfl (v_loadF ty3 rfl (l_lit rfl rfl)) ?_
    refine bv rfl (v_bin rfl rfl b_gtr) ?_
    refine mv rfl rfl ?_
    by_cases hg9 : 8 < p0.2.1
    · have h := ifT hg9 h
      refine b_T rfl rfl rfl rfl (decide_eq_true hg9) (o_val rfl (v_fieldAddrF fo24_1 rfl) ?_)
      refine b_T rfl rfl rfl rfl rfl (o_val rfl (v_loadF ty3 rfl (l_lit rfl rfl)) ?_)
      refine b_T rfl rfl rfl rfl rfl (o_val rfl (v_bin rfl rfl b_leq) ?_)
      refine bv rfl (v_pickT rfl rfl rfl) ?_
      refine mv rfl rfl ?_
      by_cases hg6 : p0.2.1 ≤ 64
      · have h := ifT hg6 h
        refine b_F rfl rfl rfl rfl rfl (decide_eq_true hg6) ?_
        refine b_F rfl rfl rfl rfl rfl rfl ?_
        refine b_F rfl rfl rfl rfl rfl rfl ?_
        refine b_F rfl rfl rfl rfl rfl rfl ?_
        refine b_F rfl rfl rfl rfl rfl rfl ?_
        refine b_U rfl rfl rfl rfl rfl ?_
        refine b_U rfl rfl rfl rfl rfl ?_
        refine b_U rfl rfl rfl rfl rfl ?_
        refine b_U rfl rfl rfl rfl rfl ?_
        refine b_F rfl rfl rfl rfl rfl rfl ?_
        refine bv rfl (v_pickT rfl rfl rfl) ?_
        refine mv rfl rfl ?_
        refine b_F rfl rfl rfl rfl rfl rfl ?_
        refine b_F rfl rfl rfl rfl rfl rfl ?_
        refine b_F rfl rfl rfl rfl rfl rfl ?_
        refine b_F rfl rfl rfl rfl rfl rfl ?_
        refine bv rfl (v_pickT rfl rfl rfl) ?_
        refine mv rfl rfl ?_
        refine b_nil (hK _ ?_)
        clear hK K
        exact to_le (s' := ⟨[(2, HV.bool true)], []⟩) (AS.le_of ⟨rfl, trivial⟩ trivial) ⟨true, (), h, rfl⟩
      · have h := ifF hg6 h
        refine b_T rfl rfl rfl rfl (decide_eq_false hg6) (o_val rfl (v_fieldAddrF fo24_2 rfl) ?_)
        refine b_T rfl rfl rfl rfl rfl (o_val rfl (v_loadF ty22 rfl (l_lit rfl rfl)) ?_)
        refine b_T rfl rfl rfl rfl rfl (o_val rfl (v_lenF rfl rfl ty22 rfl) ?_)
        refine b_T rfl rfl rfl rfl rfl (o_val rfl (v_bin rfl rfl b_gtr) ?_)
        refine b_T rfl rfl rfl rfl rfl (o_val rfl (mv_val rfl rfl).2 ?_)
        by_cases hg5 : 30 < ((p0.2.2).length : Int)
        · have h := ifT hg5 h
          refine b_T rfl rfl rfl rfl (decide_eq_true hg5) (o_val rfl (v_fieldAddrF fo24_2 rfl) ?_)
          refine b_T rfl rfl rfl rfl rfl (o_val rfl (v_loadF ty22 rfl (l_lit rfl rfl)) ?_)
          refine b_T rfl rfl rfl rfl rfl (o_val rfl (v_lenF rfl rfl ty22 rfl) ?_)
          refine b_T rfl rfl rfl rfl rfl (o_val rfl (v_bin rfl rfl b_leq) ?_)
          refine b_T rfl rfl rfl rfl rfl (o_val rfl (v_pickT rfl rfl rfl) ?_)
          refine bv rfl (v_pickF rfl rfl rfl) ?_
          refine mv rfl rfl ?_
          by_cases hg4 : ((p0.2.2).length : Int) ≤ 1024
          · have h := ifT hg4 h
            refine b_F rfl rfl rfl rfl rfl (decide_eq_true hg4) ?_
            refine b_F rfl rfl rfl rfl rfl rfl ?_
            refine b_F rfl rfl rfl rfl rfl rfl ?_
            refine b_F rfl rfl rfl rfl rfl rfl ?_
            refine bv rfl (v_pickT rfl rfl rfl) ?_
            refine mv rfl rfl ?_
            refine b_nil (hK _ ?_)
            clear hK K
            exact to_le (s' := ⟨[(2, HV.bool true)], []⟩) (AS.le_of ⟨rfl, trivial⟩ trivial) ⟨true, (), h, rfl⟩
          · have h := ifF hg4 h
            refine b_T rfl rfl rfl rfl (decide_eq_false hg4) (o_val rfl (v_fieldAddrF fo24_2 rfl) ?_)
            refine b_T rfl rfl rfl rfl rfl (o_val rfl (v_loadF ty22 rfl (l_lit rfl rfl)) ?_)
            refine b_T rfl rfl rfl rfl rfl (o_val rfl (v_lenF rfl rfl ty22 rfl) ?_)
            refine b_T rfl rfl rfl rfl rfl (o_val rfl (v_bin rfl rfl b_gtr) ?_)
            refine bv rfl (v_pickF rfl rfl rfl) ?_
            refine mv rfl rfl ?_
            refine b_nil (hK _ ?_)
            clear hK K
            exact to_le (s' := ⟨[(2, HV.bool (decide (1027 < ((p0.2.2).length : Int))))], []⟩) (AS.le_of ⟨rfl, trivial⟩ trivial) ⟨decide (1027 < ((p0.2.2).length : Int)), (), h, rfl⟩
        · have h := ifF hg5 h
          refine b_F rfl rfl rfl rfl rfl (decide_eq_false hg5) ?_
          refine b_F rfl rfl rfl rfl rfl rfl ?_
          refine b_F rfl rfl rfl rfl rfl rfl ?_
          refine b_F rfl rfl rfl rfl rfl rfl ?_
          refine b_T rfl rfl rfl rfl rfl (o_val rfl (v_pickF rfl rfl rfl) ?_)
          refine bv rfl (v_pickF rfl rfl rfl) ?_
          refine mv rfl rfl ?_
          refine b_T rfl rfl rfl rfl rfl (o_val rfl (v_fieldAddrF fo24_2 rfl) ?_)
          refine b_T rfl rfl rfl rfl rfl (o_val rfl (v_loadF ty22 rfl (l_lit rfl rfl)) ?_)
          refine b_T rfl rfl rfl rfl rfl (o_val rfl (v_lenF rfl rfl ty22 rfl) ?_)
          refine b_T rfl rfl rfl rfl rfl (o_val rfl (v_bin rfl rfl b_gtr) ?_)
          refine bv rfl (v_pickF rfl rfl rfl) ?_
          refine mv rfl rfl ?_
          refine b_nil (hK _ ?_)
          clear hK K
          exact to_le (s' := ⟨[(2, HV.bool (decide (1027 < ((p0.2.2).length : Int))))], []⟩) (AS.le_of ⟨rfl, trivial⟩ trivial) ⟨decide (1027 < ((p0.2.2).length : Int)), (), h, rfl⟩
    · have h := ifF hg9 h
      refine b_F rfl rfl rfl rfl rfl (decide_eq_false hg9) ?_
      refine b_F rfl rfl rfl rfl rfl rfl ?_
      refine b_F rfl rfl rfl rfl rfl rfl ?_
      refine bv rfl (v_pickF rfl rfl rfl) ?_
      refine mv rfl rfl ?_
      refine b_T rfl rfl rfl rfl rfl (o_val rfl (v_fieldAddrF fo24_2 rfl) ?_)
      refine b_T rfl rfl rfl rfl rfl (o_val rfl (v_loadF ty22 rfl (l_lit rfl rfl)) ?_)
      refine b_T rfl rfl rfl rfl rfl (o_val rfl (v_lenF rfl rfl ty22 rfl) ?_)
      refine b_T rfl rfl rfl rfl rfl (o_val rfl (v_bin rfl rfl b_gtr) ?_)
      refine b_T rfl rfl rfl rfl rfl (o_val rfl (mv_val rfl rfl).2 ?_)
      by_cases hg8 : 30 < ((p0.2.2).length : Int)
      · have h := ifT hg8 h
        refine b_T rfl rfl rfl rfl (decide_eq_true hg8) (o_val rfl (v_fieldAddrF fo24_2 rfl) ?_)
        refine b_T rfl rfl rfl rfl rfl (o_val rfl (v_loadF ty22 rfl (l_lit rfl rfl)) ?_)
        refine b_T rfl rfl rfl rfl rfl (o_val rfl (v_lenF rfl rfl ty22 rfl) ?_)
        refine b_T rfl rfl rfl rfl rfl (o_val rfl (v_bin rfl rfl b_leq) ?_)
        refine b_T rfl rfl rfl rfl rfl (o_val rfl (v_pickT rfl rfl rfl) ?_)
        refine bv rfl (v_pickF rfl rfl rfl) ?_
        refine mv rfl rfl ?_
        by_cases hg7 : ((p0.2.2).length : Int) ≤ 1024
        · have h := ifT hg7 h
          refine b_F rfl rfl rfl rfl rfl (decide_eq_true hg7) ?_
          refine b_F rfl rfl rfl rfl rfl rfl ?_
          refine b_F rfl rfl rfl rfl rfl rfl ?_
          refine b_F rfl rfl rfl rfl rfl rfl ?_
          refine bv rfl (v_pickT rfl rfl rfl) ?_
          refine mv rfl rfl ?_
          refine b_nil (hK _ ?_)
          clear hK K
          exact to_le (s' := ⟨[(2, HV.bool true)], []⟩) (AS.le_of ⟨rfl, trivial⟩ trivial) ⟨true, (), h, rfl⟩
        · have h := ifF hg7 h
          refine b_T rfl rfl rfl rfl (decide_eq_false hg7) (o_val rfl (v_fieldAddrF fo24_2 rfl) ?_)
          refine b_T rfl rfl rfl rfl rfl (o_val rfl (v_loadF ty22 rfl (l_lit rfl rfl)) ?_)
          refine b_T rfl rfl rfl rfl rfl (o_val rfl (v_lenF rfl rfl ty22 rfl) ?_)
          refine b_T rfl rfl rfl rfl rfl (o_val rfl (v_bin rfl rfl b_gtr) ?_)
          refine bv rfl (v_pickF rfl rfl rfl) ?_
          refine mv rfl rfl ?_
          refine b_nil (hK _ ?_)
          clear hK K
          exact to_le (s' := ⟨[(2, HV.bool (decide (1027 < ((p0.2.2).length : Int))))], []⟩) (AS.le_of ⟨rfl, trivial⟩ trivial) ⟨decide (1027 < ((p0.2.2).length : Int)), (), h, rfl⟩
      · have h := ifF hg8 h
        refine b_F rfl rfl rfl rfl rfl (decide_eq_false hg8) ?_
        refine b_F rfl rfl rfl rfl rfl rfl ?_
        refine b_F rfl rfl rfl rfl rfl rfl ?_
        refine b_F rfl rfl rfl rfl rfl rfl ?_
        refine b_T rfl rfl rfl rfl rfl (o_val rfl (v_pickF rfl rfl rfl) ?_)
        refine bv rfl (v_pickF rfl rfl rfl) ?_
        refine mv rfl rfl ?_
        refine b_T rfl rfl rfl rfl rfl (o_val rfl (v_fieldAddrF fo24_2 rfl) ?_)
        refine b_T rfl rfl rfl rfl rfl (o_val rfl (v_loadF ty22 rfl (l_lit rfl rfl)) ?_)
        refine b_T rfl rfl rfl rfl rfl (o_val rfl (v_lenF rfl rfl ty22 rfl) ?_)
        refine b_T rfl rfl rfl rfl rfl (o_val rfl (v_bin rfl rfl b_gtr) ?_)
        refine bv rfl (v_pickF rfl rfl rfl) ?_
        refine mv rfl rfl ?_
        refine b_nil (hK _ ?_)
        clear hK K
        exact to_le (s' := ⟨[(2, HV.bool (decide (1027 < ((p0.2.2).length : Int))))], []⟩) (AS.le_of ⟨rfl, trivial⟩ trivial) ⟨decide (1027 < ((p0.2.2).length : Int)), (), h, rfl⟩

set_option maxHeartbeats 1600000 in
set_option maxRecDepth 100000 in
theorem w_ref07_Long {p0 : List UInt8} {p1 : Int} {r : Bool} (h : m_ref07_Long p0 p1 = some r) : Pure Tryz.prog 18 [HV.str p0, HV.int .i64 p1] (· = HV.bool r) := by
  unfold m_ref07_Long at h
  refine Pure.of_body Tryz.func18 rfl rfl (Nat.le_of_ble_eq_true rfl) fun hf => ?_
  unfold Tryz.f18
  dsimp only [enumS, Nat.reduceAdd]
  refine AW.rgs rfl fun K hK => ?_
  refine mv rfl rfl ?_
  refine b_nil (hK _ (AW.to (to_le (s' := ⟨[(0, HV.str p0), (1, HV.int .i64 p1)], []⟩) (AS.le_of ⟨rfl, rfl, trivial⟩ trivial) ?_)))
  clear hK K
  refine AW.seqJ h (S := Bool) (V := Unit) (fun a v => ⟨[(4, HV.bool a)], []⟩) (fun a1 w2 h => ?_) (fun k3 h => ?_)
  · refine AW.ret ?_
    have h := Option.some.inj h
    subst h
    exact ret_pure (hs := [HV.bool a1]) (q := HV.bool a1) (.inr rfl) (resT rfl rfl) rfl trivial
  · refine AW.rg rfl fun K hK => ?_
    refine mv rfl rfl ?_
    refine bv rfl (v_lenS rfl rfl ty9 rfl) ?_
    refine mv rfl rfl ?_
    refine bv rfl (v_bin rfl rfl b_gtr) ?_
    refine mv rfl rfl ?_
    by_cases hg5 : p1 < ((p0).length : Int)
    · have h := ifT hg5 h
      refine b_T rfl rfl rfl rfl (decide_eq_true hg5) (o_val rfl (mv_val rfl rfl).2 ?_)
      refine b_T rfl rfl rfl rfl rfl (o_val rfl (v_lenS rfl rfl ty9 rfl) ?_)
      refine b_T rfl rfl rfl rfl rfl (o_val rfl (v_bin rfl rfl b_leq) ?_)
      refine bv rfl (v_pickT rfl rfl rfl) ?_
      refine mv rfl rfl ?_
      by_cases hg4 : ((p0).length : Int) ≤ 65536
      · have h := ifT hg4 h
        refine b_F rfl rfl rfl rfl rfl (decide_eq_true hg4) ?_
        refine b_F rfl rfl rfl rfl rfl rfl ?_
        refine b_F rfl rfl rfl rfl rfl rfl ?_
        refine bv rfl (v_pickT rfl rfl rfl) ?_
        refine mv rfl rfl ?_
        refine b_nil (hK _ ?_)
        clear hK K
        exact to_le (s' := ⟨[(4, HV.bool true)], []⟩) (AS.le_of ⟨rfl, trivial⟩ trivial) ⟨true, (), h, rfl⟩
      · have h := ifF hg4 h
        refine b_T rfl rfl rfl rfl (decide_eq_false hg4) (o_val rfl (mv_val rfl rfl).2 ?_)
        refine b_T rfl rfl rfl rfl rfl (o_val rfl (v_lenS rfl rfl ty9 rfl) ?_)
        refine b_T rfl rfl rfl rfl rfl (o_val rfl (v_bin rfl rfl b_gtr) ?_)
        refine bv rfl (v_pickF rfl rfl rfl) ?_
        refine mv rfl rfl ?_
        refine b_nil (hK _ ?_)
        clear hK K
        exact to_le (s' := ⟨[(4, HV.bool (decide (65544 < ((p0).length : Int))))], []⟩) (AS.le_of ⟨rfl, trivial⟩ trivial) ⟨decide (65544 < ((p0).length : Int)), (), h, rfl⟩
    · have h := ifF hg5 h
      refine b_F rfl rfl rfl rfl rfl (decide_eq_false hg5) ?_
      refine b_F rfl rfl rfl rfl rfl rfl ?_
      refine b_F rfl rfl rfl rfl rfl rfl ?_
      refine bv rfl (v_pickF rfl rfl rfl) ?_
      refine mv rfl rfl ?_
      refine b_T rfl rfl rfl rfl rfl (o_val rfl (mv_val rfl rfl).2 ?_)
      refine b_T rfl rfl rfl rfl rfl (o_val rfl (v_lenS rfl rfl ty9 rfl) ?_)
      refine b_T rfl rfl rfl rfl rfl (o_val rfl (v_bin rfl rfl b_gtr) ?_)
      refine bv rfl (v_pickF rfl rfl rfl) ?_
      refine mv rfl rfl ?_
      refine b_nil (hK _ ?_)
      clear hK K
      exact to_le (s' := ⟨[(4, HV.bool (decide (65544 < ((p0).length : Int))))], []⟩) (AS.le_of ⟨rfl, trivial⟩ trivial) ⟨decide (65544 < ((p0).length : Int)), (), h, rfl⟩

set_option maxHeartbeats 1600000 in
set_option maxRecDepth 100000 in
theorem w_law11_great_1 {p0 : List UInt8} {r : Bool} (h : m_law11_great_1 p0 = some r) : Pure Tryz.prog 17 [HV.str p0] (· = HV.bool r) := by
  unfold m_law11_great_1 at h
  refine Pure.of_body Tryz.func17 rfl rfl (Nat.le_of_ble_eq_true rfl) fun hf => ?_
  unfold Tryz.f17
  dsimp only [enumS, Nat.reduceAdd]
  refine AW.rgs rfl fun K hK => ?_
  refine mv rfl rfl ?_
  refine b_nil (hK _ (AW.to (to_le (s' := ⟨[(0, HV.str p0)], []⟩) (AS.le_of ⟨rfl, trivial⟩ trivial) ?_)))
  clear hK K
  refine AW.rgs rfl fun K hK => ?_
  refine mv rfl rfl ?_
  obtain ⟨x1, h2, h⟩ := bS h
  refine b_op rfl (o_call rfl rfl rfl rfl (ACallD.pure0 (w_ref07_Long h2)) ?_)
  refine mv rfl rfl ?_
  refine b_nil (hK _ (AW.to (to_le (s' := ⟨[(2, HV.bool x1)], []⟩) (AS.le_of ⟨rfl, trivial⟩ trivial) ?_)))
  clear hK K
  refine AW.ret ?_
  have h := Option.some.inj h
  subst h
  exact ret_pure (hs := [HV.bool x1]) (q := HV.bool x1) (.inr rfl) (resT rfl rfl) rfl trivial

set_option maxHeartbeats 1600000 in
set_option maxRecDepth 100000 in
theorem w_slices_IndexFunc_Lstring_string {p0 : List (List UInt8)} {p1 : (List UInt8) → Option (Bool)} {g1 : FuncId} {z1 : List HV} {r : Int} (h : m_slices_IndexFunc_Lstring_string p0 p1 = some r) (hf1 : ∀ a0 b, p1 a0 = some b → Pure Tryz.prog g1 ([HV.str a0] ++ z1) (· = HV.bool b)) : Pure Tryz.prog 39 [slE eStr p0, HV.fn (.func g1) [] z1] (· = HV.int .i64 r) := by
  unfold m_slices_IndexFunc_Lstring_string at h
  refine Pure.of_body Tryz.func39 rfl rfl (Nat.le_of_ble_eq_true rfl) fun hf => ?_
  unfold Tryz.f39
  dsimp only [enumS, Nat.reduceAdd]
  refine AW.rgs rfl fun K hK => ?_
  refine mv rfl rfl ?_
  refine b_nil (hK _ (AW.to (to_le (s' := ⟨[(0, slE eStr p0), (1, HV.fn (.func g1) [] z1)], []⟩) (AS.le_of ⟨rfl, rfl, trivial⟩ trivial) ?_)))
  clear hK K
  refine AW.seq ?_
  refine AW.rgs rfl fun K hK => ?_
  refine mv rfl rfl ?_
  refine bv rfl (v_lenF rfl rfl ty38 rfl) ?_
  refine mv rfl rfl ?_
  refine b_nil (hK _ (AW.to (to_le (s' := ⟨[(0, slE eStr p0), (1, HV.fn (.func g1) [] z1), (7, HV.int .i64 ((p0).length : Int)), (8, HV.int .i64 0)], []⟩) (AS.le_of ⟨rfl, rfl, rfl, rfl, trivial⟩ trivial) ?_)))
  clear hK K
  refine AW.lpR h (by first | exact up_then | exact up_to) (S := Int) (V := Unit) (fun a v => ⟨[(0, slE eStr p0), (1, HV.fn (.func g1) [] z1), (7, HV.int .i64 ((p0).length : Int)), (8, HV.int .i64 a)], []⟩) ?_ (X := Unit) (W := Unit) (fun a v => ⟨[], []⟩) (fun a9 w10 h => ?_) (fun a1 w2 st3 h hr4=> ?_)
  · exact to_le (s' := ⟨[(0, slE eStr p0), (1, HV.fn (.func g1) [] z1), (7, HV.int .i64 ((p0).length : Int)), (8, HV.int .i64 0)], []⟩) (AS.le_of ⟨rfl, rfl, rfl, rfl, trivial⟩ trivial) ⟨(), rfl⟩
  · refine AW.rgs rfl fun K hK => ?_
    refine mv rfl rfl ?_
    refine b_nil (hK _ (AW.to (to_le (s' := ⟨[(4, HV.int .i64 (-1))], []⟩) (AS.le_of ⟨rfl, trivial⟩ trivial) ?_)))
    clear hK K
    refine AW.ret ?_
    have h := Option.some.inj h
    subst h
    exact ret_pure (hs := [HV.int .i64 (-1)]) (q := HV.int .i64 (-1)) (.inr rfl) (resT rfl rfl) rfl trivial
  · refine AW.rgs rfl fun K hK => ?_
    refine bv rfl (v_bin rfl rfl b_lss) ?_
    refine b_nil (hK _ (AW.to (to_le (s' := ⟨[(0, slE eStr p0), (1, HV.fn (.func g1) [] z1), (7, HV.int .i64 ((p0).length : Int)), (8, HV.int .i64 a1), (9, HV.bool (decide (a1 < ((p0).length : Int))))], []⟩) (AS.le_of ⟨rfl, rfl, rfl, rfl, rfl, trivial⟩ trivial) ?_)))
    clear hK K
    refine AW.cseq rfl (fun hc => ?_) (fun hc => ?_)
    · have hc := of_decide_eq_true hc
      have h := ifT hc h
      refine AW.skip ?_
      refine AW.seq (AW.block ?_)
      refine AW.rgs rfl fun K hK => ?_
      refine mv rfl rfl ?_
      refine mv rfl rfl ?_
      refine b_nil (hK _ (AW.to (to_le (s' := ⟨[(0, slE eStr p0), (1, HV.fn (.func g1) [] z1), (5, HV.int .i64 a1), (7, HV.int .i64 ((p0).length : Int)), (8, HV.int .i64 a1)], []⟩) (AS.le_of ⟨rfl, rfl, rfl, rfl, rfl, trivial⟩ trivial) ?_)))
      clear hK K
      refine AW.rgs rfl fun K hK => ?_
      refine mv rfl rfl ?_
      refine mv rfl rfl ?_
      refine mv rfl rfl ?_
      obtain ⟨x5, h6, h⟩ := bS h
      refine bv rfl (v_idxF ty38 es38 rfl rfl (idx_lt h6)) ?_
      refine bv rfl (v_loadF ty9 rfl (l_cell eStr h6 (o := 0) rfl rfl)) ?_
      obtain ⟨x7, h8, h⟩ := bS h
      refine b_op rfl (o_call rfl rfl rfl rfl (ACallD.pure0 (hf1 _ _ h8)) ?_)
      refine b_nil (hK _ (AW.to (to_le (s' := ⟨[(0, slE eStr p0), (1, HV.fn (.func g1) [] z1), (5, HV.int .i64 a1), (7, HV.int .i64 ((p0).length : Int)), (8, HV.int .i64 a1), (16, HV.bool x7)], []⟩) (AS.le_of ⟨rfl, rfl, rfl, rfl, rfl, rfl, trivial⟩ trivial) ?_)))
      clear hK K
      refine AW.cond rfl (fun hc => ?_) (fun hc => ?_)
      · have h := ifT hc h
        refine AW.rgs rfl fun K hK => ?_
        refine mv rfl rfl ?_
        refine mv rfl rfl ?_
        refine b_nil (hK _ (AW.to (to_le (s' := ⟨[(4, HV.int .i64 a1)], []⟩) (AS.le_of ⟨rfl, trivial⟩ trivial) ?_)))
        clear hK K
        have h := hr4 _ h
        refine AW.ret ?_
        have h := Option.some.inj h
        subst h
        exact ret_pure (hs := [HV.int .i64 a1]) (q := HV.int .i64 a1) (.inr rfl) (resT rfl rfl) rfl trivial
      · have h := ifF (bF' hc) h
        refine AW.skip ?_
        refine AW.rg rfl fun K hK => ?_
        refine bv rfl (v_bin rfl rfl b_add) ?_
        refine mv rfl rfl ?_
        refine b_nil (hK _ ?_)
        clear hK K
        exact to_le (s' := ⟨[(0, slE eStr p0), (1, HV.fn (.func g1) [] z1), (7, HV.int .i64 ((p0).length : Int)), (8, HV.int .i64 (IntKind.wrap .i64 (a1 + 1)))], []⟩) (AS.le_of ⟨rfl, rfl, rfl, rfl, trivial⟩ trivial) ⟨IntKind.wrap .i64 (a1 + 1), (), h, rfl⟩
    · have hc := of_decide_eq_false hc
      have h := ifF hc h
      refine AW.exit ?_
      exact to_le (s' := ⟨[], []⟩) (AS.le_of trivial trivial) ⟨(), (), h, rfl⟩

set_option maxHeartbeats 1600000 in
set_option maxRecDepth 100000 in
theorem w_slices_ContainsFunc_Lstring_string {p0 : List (List UInt8)} {r : Bool} (h : m_slices_ContainsFunc_Lstring_string p0 = some r) : Pure Tryz.prog 16 [slE eStr p0, HV.fn (.func 17) [] []] (· = HV.bool r) := by
  unfold m_slices_ContainsFunc_Lstring_string at h
  refine Pure.of_body Tryz.func16 rfl rfl (Nat.le_of_ble_eq_true rfl) fun hf => ?_
  unfold Tryz.f16
  dsimp only [enumS, Nat.reduceAdd]
  refine AW.rgs rfl fun K hK => ?_
  refine mv rfl rfl ?_
  refine b_nil (hK _ (AW.to (to_le (s' := ⟨[(0, slE eStr p0), (1, HV.fn (.func 17) [] [])], []⟩) (AS.le_of ⟨rfl, rfl, trivial⟩ trivial) ?_)))
  clear hK K
  refine AW.rgs rfl fun K hK => ?_
  refine mv rfl rfl ?_
  refine mv rfl rfl ?_
  obtain ⟨x1, h2, h⟩ := bS h
  refine b_op rfl (o_call rfl rfl rfl rfl (ACallD.pure0 (w_slices_IndexFunc_Lstring_string h2 (fun _ _ h => w_law11_great_1 h))) ?_)
  refine bv rfl (v_bin rfl rfl b_geq) ?_
  refine mv rfl rfl ?_
  refine b_nil (hK _ (AW.to (to_le (s' := ⟨[(4, HV.bool (decide (0 ≤ x1)))], []⟩) (AS.le_of ⟨rfl, trivial⟩ trivial) ?_)))
  clear hK K
  refine AW.ret ?_
  have h := Option.some.inj h
  subst h
  exact ret_pure (hs := [HV.bool (decide (0 ≤ x1))]) (q := HV.bool (decide (0 ≤ x1))) (.inr rfl) (resT rfl rfl) rfl trivial

set_option maxHeartbeats 1600000 in
set_option maxRecDepth 100000 in
theorem w_law11_great {p0 : TLabelsStatesEdges} {p1 : List (List UInt8)} {r : Bool} (h : m_law11_great p0 p1 = some r) : Pure Tryz.prog 4 [HV.agg [HV.int .i64 p0.1, HV.int .i64 p0.2.1, slE eFromLabelTo p0.2.2], slE eStr p1] (· = HV.bool r) := by
  unfold m_law11_great at h
  refine Pure.of_body Tryz.func4 rfl rfl (Nat.le_of_ble_eq_true rfl) fun hf => ?_
  unfold Tryz.f4
  dsimp only [enumS, Nat.reduceAdd]
  refine AW.rgs rfl fun K hK => ?_
  refine b_op rfl (o_box rfl rfl rfl ?_)
  refine mv rfl rfl ?_
  refine b_nil (hK _ (AW.to (to_le (s' := ⟨[(1, slE eStr p1), (2, HV.fptr [HV.int .i64 p0.1, HV.int .i64 p0.2.1, slE eFromLabelTo p0.2.2] 0)], []⟩) (AS.le_of ⟨rfl, rfl, trivial⟩ trivial) ?_)))
  clear hK K
  refine AW.seqJ h (S := Bool) (V := Unit) (fun a v => ⟨[(4, HV.bool a)], []⟩) (fun a1 w2 h => ?_) (fun k3 h => ?_)
  · refine AW.ret ?_
    have h := Option.some.inj h
    subst h
    exact ret_pure (hs := [HV.bool a1]) (q := HV.bool a1) (.inr rfl) (resT rfl rfl) rfl trivial
  · refine AW.rg rfl fun K hK => ?_
    refine bv rfl (v_loadF ty24 rfl (l_litA rfl (Nat.le_of_ble_eq_true rfl) rfl)) ?_
    obtain ⟨x4, h5, h⟩ := bS h
    refine b_op rfl (o_call rfl rfl rfl rfl (ACallD.pure0 (w_ref11_Great h5)) ?_)
    refine mv rfl rfl ?_
    by_cases hg8 : x4 = true
    · have h := ifT hg8 h
      refine b_F rfl rfl rfl rfl rfl hg8 ?_
      refine b_F rfl rfl rfl rfl rfl rfl ?_
      refine bv rfl (v_pickT rfl rfl rfl) ?_
      refine mv rfl rfl ?_
      refine b_nil (hK _ ?_)
      clear hK K
      exact to_le (s' := ⟨[(4, HV.bool true)], []⟩) (AS.le_of ⟨rfl, trivial⟩ trivial) ⟨true, (), h, rfl⟩
    · have h := ifF hg8 h
      refine b_T rfl rfl rfl rfl (bF hg8) (o_val rfl (mv_val rfl rfl).2 ?_)
      obtain ⟨x6, h7, h⟩ := bS h
      refine b_T rfl rfl rfl rfl rfl (o_call rfl rfl rfl rfl (ACallD.pure0 (w_slices_ContainsFunc_Lstring_string h7)) ?_)
      refine bv rfl (v_pickF rfl rfl rfl) ?_
      refine mv rfl rfl ?_
      refine b_nil (hK _ ?_)
      clear hK K
      exact to_le (s' := ⟨[(4, HV.bool x6)], []⟩) (AS.le_of ⟨rfl, trivial⟩ trivial) ⟨x6, (), h, rfl⟩

set_option maxHeartbeats 1600000 in
set_option maxRecDepth 100000 in
theorem w_language_ends {p0 : TLabelsStatesEdges} {p1 : List (Int)} {p2 : List UInt8} {r : (List (Int))} (h : m_language_ends p0 p1 p2 = some r) : Pure Tryz.prog 24 [HV.agg [HV.int .i64 p0.1, HV.int .i64 p0.2.1, slE eFromLabelTo p0.2.2], slE eInt p1, HV.str p2] (· = slE eInt r) := by
  unfold m_language_ends at h
  refine Pure.of_body Tryz.func24 rfl rfl (Nat.le_of_ble_eq_true rfl) fun hf => ?_
  unfold Tryz.f24
  dsimp only [enumS, Nat.reduceAdd]
  refine AW.rgs rfl fun K hK => ?_
  refine b_op rfl (o_box rfl rfl rfl ?_)
  refine mv rfl rfl ?_
  refine b_nil (hK _ (AW.to (to_le (s' := ⟨[(1, slE eInt p1), (2, HV.str p2), (3, HV.fptr [HV.int .i64 p0.1, HV.int .i64 p0.2.1, slE eFromLabelTo p0.2.2] 0)], []⟩) (AS.le_of ⟨rfl, rfl, rfl, trivial⟩ trivial) ?_)))
  clear hK K
  refine AW.seq ?_
  refine AW.rgs rfl fun K hK => ?_
  refine mv rfl rfl ?_
  refine b_nil (hK _ (AW.to (to_le (s' := ⟨[(1, slE eInt p1), (2, HV.str p2), (3, HV.fptr [HV.int .i64 p0.1, HV.int .i64 p0.2.1, slE eFromLabelTo p0.2.2] 0), (7, HV.int .i64 0)], []⟩) (AS.le_of ⟨rfl, rfl, rfl, rfl, trivial⟩ trivial) ?_)))
  clear hK K
  refine AW.lpX h (by first | exact up_then | exact up_to) (S := (List Int) × Int) (V := Unit) (fun a v => ⟨[(1, slE eInt a.1), (2, HV.str p2), (3, HV.fptr [HV.int .i64 p0.1, HV.int .i64 p0.2.1, slE eFromLabelTo p0.2.2] 0), (7, HV.int .i64 a.2)], []⟩) ?_ (X := (List Int)) (W := Unit) (fun a v => ⟨[(1, slE eInt a)], []⟩) (fun a13 w14 h => ?_) (fun a1 w2 st3 h => ?_)
  · exact to_le (s' := ⟨[(1, slE eInt p1), (2, HV.str p2), (3, HV.fptr [HV.int .i64 p0.1, HV.int .i64 p0.2.1, slE eFromLabelTo p0.2.2] 0), (7, HV.int .i64 0)], []⟩) (AS.le_of ⟨rfl, rfl, rfl, rfl, trivial⟩ trivial) ⟨(), rfl⟩
  · refine AW.rgs rfl fun K hK => ?_
    refine mv rfl rfl ?_
    refine mv rfl rfl ?_
    refine b_nil (hK _ (AW.to (to_le (s' := ⟨[(6, slE eInt a13)], []⟩) (AS.le_of ⟨rfl, trivial⟩ trivial) ?_)))
    clear hK K
    refine AW.ret ?_
    have h := Option.some.inj h
    subst h
    exact ret_pure (hs := [slE eInt a13]) (q := slE eInt a13) (.inr rfl) (resT rfl rfl) rfl (clean_slE fun _ _ => ⟨trivial, trivial⟩)
  · refine AW.seq ?_
    refine AW.seqJ h (S := Bool) (V := Unit) (fun a v => ⟨[(1, slE eInt a1.1), (2, HV.str p2), (3, HV.fptr [HV.int .i64 p0.1, HV.int .i64 p0.2.1, slE eFromLabelTo p0.2.2] 0), (7, HV.int .i64 a1.2), (16, HV.bool a)], []⟩) (fun a5 w6 h => ?_) (fun k7 h => ?_)
    · refine AW.cond rfl (fun hc => ?_) (fun hc => ?_)
      · have h := ifT hc h
        refine AW.skip ?_
        refine AW.seq (AW.block ?_)
        refine AW.dg 7 follows rfl rfl fun K hK => ?_
        refine sv rfl (v_loadF ty24 rfl (l_litA rfl (Nat.le_of_ble_eq_true rfl) rfl)) ?_
        refine sm rfl rfl ?_
        refine sm rfl rfl ?_
        refine sm rfl rfl ?_
        obtain ⟨x8, h9, h⟩ := bS h
        refine sv rfl (v_idxS ty9 rfl rfl h9) ?_
        obtain ⟨x10, h11, h⟩ := bS h
        refine s_op rfl rfl (ops_call rfl rfl rfl rfl (ACallD.pure0 (w_language_step h11)) ?_)
        refine sm rfl rfl ?_
        refine s_nil ?_
        refine b_nil (hK _ (AW.to (to_le (s' := ⟨[(1, slE eInt x10), (2, HV.str p2), (3, HV.fptr [HV.int .i64 p0.1, HV.int .i64 p0.2.1, slE eFromLabelTo p0.2.2] 0), (7, HV.int .i64 a1.2)], []⟩) (AS.le_of ⟨rfl, rfl, rfl, rfl, trivial⟩ trivial) ?_)))
        clear hK K
        refine AW.rg rfl fun K hK => ?_
        refine mv rfl rfl ?_
        refine bv rfl (v_bin rfl rfl b_add) ?_
        refine mv rfl rfl ?_
        refine b_nil (hK _ ?_)
        clear hK K
        exact to_le (s' := ⟨[(1, slE eInt x10), (2, HV.str p2), (3, HV.fptr [HV.int .i64 p0.1, HV.int .i64 p0.2.1, slE eFromLabelTo p0.2.2] 0), (7, HV.int .i64 (IntKind.wrap .i64 (a1.2 + 1)))], []⟩) (AS.le_of ⟨rfl, rfl, rfl, rfl, trivial⟩ trivial) ⟨(x10, IntKind.wrap .i64 (a1.2 + 1)), (), h, rfl⟩
      · have h := ifF (bF' hc) h
        refine AW.exit ?_
        exact to_le (s' := ⟨[(1, slE eInt a1.1)], []⟩) (AS.le_of ⟨rfl, trivial⟩ trivial) ⟨a1.1, (), h, rfl⟩
    · refine AW.rg rfl fun K hK => ?_
      refine mv rfl rfl ?_
      refine mv rfl rfl ?_
      refine bv rfl (v_lenS rfl rfl ty9 rfl) ?_
      refine bv rfl (v_bin rfl rfl b_lss) ?_
      refine mv rfl rfl ?_
      by_cases hg12 : a1.2 < ((p2).length : Int)
      · have h := ifT hg12 h
        refine b_T rfl rfl rfl rfl (decide_eq_true hg12) (o_val rfl (mv_val rfl rfl).2 ?_)
        refine b_T rfl rfl rfl rfl rfl (o_val rfl (v_lenF rfl rfl ty25 rfl) ?_)
        refine b_T rfl rfl rfl rfl rfl (o_val rfl (v_bin rfl rfl b_gtr) ?_)
        refine bv rfl (v_pickT rfl rfl rfl) ?_
        refine b_nil (hK _ ?_)
        clear hK K
        exact to_le (s' := ⟨[(1, slE eInt a1.1), (2, HV.str p2), (3, HV.fptr [HV.int .i64 p0.1, HV.int .i64 p0.2.1, slE eFromLabelTo p0.2.2] 0), (7, HV.int .i64 a1.2), (16, HV.bool (decide (0 < ((a1.1).length : Int))))], []⟩) (AS.le_of ⟨rfl, rfl, rfl, rfl, rfl, trivial⟩ trivial) ⟨decide (0 < ((a1.1).length : Int)), (), h, rfl⟩
      · have h := ifF hg12 h
        refine b_F rfl rfl rfl rfl rfl (decide_eq_false hg12) ?_
        refine b_F rfl rfl rfl rfl rfl rfl ?_
        refine b_F rfl rfl rfl rfl rfl rfl ?_
        refine bv rfl (v_pickF rfl rfl rfl) ?_
        refine b_nil (hK _ ?_)
        clear hK K
        exact to_le (s' := ⟨[(1, slE eInt a1.1), (2, HV.str p2), (3, HV.fptr [HV.int .i64 p0.1, HV.int .i64 p0.2.1, slE eFromLabelTo p0.2.2] 0), (7, HV.int .i64 a1.2), (16, HV.bool false)], []⟩) (AS.le_of ⟨rfl, rfl, rfl, rfl, rfl, trivial⟩ trivial) ⟨false, (), h, rfl⟩

set_option maxHeartbeats 1600000 in
set_option maxRecDepth 100000 in
theorem w_language_Accepts {p0 : TLabelsStatesEdges} {p1 : List UInt8} {r : Bool × Int} (h : m_language_Accepts p0 p1 = some r) : Pure Tryz.prog 6 [HV.agg [HV.int .i64 p0.1, HV.int .i64 p0.2.1, slE eFromLabelTo p0.2.2], HV.str p1] (· = HV.tup [HV.bool r.1, HV.int .i64 r.2]) := by
  unfold m_language_Accepts at h
  refine Pure.of_body Tryz.func6 rfl rfl (Nat.le_of_ble_eq_true rfl) fun hf => ?_
  unfold Tryz.f6
  dsimp only [enumS, Nat.reduceAdd]
  refine AW.rgs rfl fun K hK => ?_
  refine b_op rfl (o_box rfl rfl rfl ?_)
  refine mv rfl rfl ?_
  refine mv rfl rfl ?_
  refine b_nil (hK _ (AW.to (to_le (s' := ⟨[(1, HV.str p1), (2, HV.fptr [HV.int .i64 p0.1, HV.int .i64 p0.2.1, slE eFromLabelTo p0.2.2] 0)], []⟩) (AS.le_of ⟨rfl, rfl, trivial⟩ trivial) ?_)))
  clear hK K
  refine AW.seq ?_
  refine AW.rgs rfl fun K hK => ?_
  refine bv rfl (v_loadF ty24 rfl (l_litA rfl (Nat.le_of_ble_eq_true rfl) rfl)) ?_
  refine mv rfl rfl ?_
  obtain ⟨x1, h2, h⟩ := bS h
  refine b_op rfl (o_call rfl rfl rfl rfl (ACallD.pure0 (w_language_spells h2)) ?_)
  refine mv rfl rfl ?_
  refine b_nil (hK _ (AW.to (to_le (s' := ⟨[(1, HV.str p1), (2, HV.fptr [HV.int .i64 p0.1, HV.int .i64 p0.2.1, slE eFromLabelTo p0.2.2] 0), (6, HV.int .i64 x1)], []⟩) (AS.le_of ⟨rfl, rfl, rfl, trivial⟩ trivial) ?_)))
  clear hK K
  refine AW.rgs rfl fun K hK => ?_
  refine mv rfl rfl ?_
  refine bv rfl (v_bin rfl rfl b_neq) ?_
  refine b_nil (hK _ (AW.to (to_le (s' := ⟨[(1, HV.str p1), (2, HV.fptr [HV.int .i64 p0.1, HV.int .i64 p0.2.1, slE eFromLabelTo p0.2.2] 0), (6, HV.int .i64 x1), (11, HV.bool (decide (x1 ≠ 0)))], []⟩) (AS.le_of ⟨rfl, rfl, rfl, rfl, trivial⟩ trivial) ?_)))
  clear hK K
  refine AW.cond rfl (fun hc => ?_) (fun hc => ?_)
  · have hc := of_decide_eq_true hc
    have h := ifT hc h
    refine AW.rgs rfl fun K hK => ?_
    refine mv rfl rfl ?_
    refine mv rfl rfl ?_
    refine mv rfl rfl ?_
    refine b_nil (hK _ (AW.to (to_le (s' := ⟨[(4, HV.bool false), (5, HV.int .i64 x1)], []⟩) (AS.le_of ⟨rfl, rfl, trivial⟩ trivial) ?_)))
    clear hK K
    refine AW.ret ?_
    have h := Option.some.inj h
    subst h
    exact ret_pure (hs := [HV.bool false, HV.int .i64 x1]) (q := HV.tup [HV.bool false, HV.int .i64 x1]) (.inr rfl) (resT rfl (resT rfl rfl)) rfl ⟨trivial, trivial, trivial⟩
  · have hc := of_decide_eq_false hc
    have h := ifF hc h
    refine AW.skip ?_
    refine AW.dgs 9 follows rfl rfl fun K hK => ?_
    refine sv rfl (v_loadF ty24 rfl (l_litA rfl (Nat.le_of_ble_eq_true rfl) rfl)) ?_
    refine sv rfl (v_loadF ty24 rfl (l_litA rfl (Nat.le_of_ble_eq_true rfl) rfl)) ?_
    obtain ⟨x3, h4, h⟩ := bS h
    refine s_op rfl rfl (ops_call rfl rfl rfl rfl (ACallD.pure0 (w_language_states h4)) ?_)
    refine sm rfl rfl ?_
    obtain ⟨x5, h6, h⟩ := bS h
    refine s_op rfl rfl (ops_call rfl rfl rfl rfl (ACallD.pure0 (w_language_ends h6)) ?_)
    refine sv rfl (v_lenF rfl rfl ty25 rfl) ?_
    refine sv rfl (v_bin rfl rfl b_gtr) ?_
    refine sm rfl rfl ?_
    refine sm rfl rfl ?_
    refine s_nil ?_
    refine b_nil (hK _ (AW.to (to_le (s' := ⟨[(4, HV.bool (decide (0 < ((x5).length : Int)))), (5, HV.int .i64 0)], []⟩) (AS.le_of ⟨rfl, rfl, trivial⟩ trivial) ?_)))
    clear hK K
    refine AW.ret ?_
    have h := Option.some.inj h
    subst h
    exact ret_pure (hs := [HV.bool (decide (0 < ((x5).length : Int))), HV.int .i64 0]) (q := HV.tup [HV.bool (decide (0 < ((x5).length : Int))), HV.int .i64 0]) (.inr rfl) (resT rfl (resT rfl rfl)) rfl ⟨trivial, trivial, trivial⟩

set_option maxHeartbeats 1600000 in
set_option maxRecDepth 100000 in
theorem w_ref09_Compare {p0 : TFromLabelTo} {p1 : TFromLabelTo} {r : Int} (h : m_ref09_Compare p0 p1 = some r) : Pure Tryz.prog 73 [HV.agg [HV.int .i64 p0.1, HV.int .i64 p0.2.1, HV.int .i64 p0.2.2], HV.agg [HV.int .i64 p1.1, HV.int .i64 p1.2.1, HV.int .i64 p1.2.2]] (· = HV.int .i64 r) := by
  unfold m_ref09_Compare at h
  refine Pure.of_body Tryz.func73 rfl rfl (Nat.le_of_ble_eq_true rfl) fun hf => ?_
  unfold Tryz.f73
  dsimp only [enumS, Nat.reduceAdd]
  refine AW.rgs rfl fun K hK => ?_
  refine b_op rfl (o_box rfl rfl rfl ?_)
  refine b_op rfl (o_box rfl rfl rfl ?_)
  refine mv rfl rfl ?_
  refine b_nil (hK _ (AW.to (to_le (s' := ⟨[(2, HV.fptr [HV.int .i64 p0.1, HV.int .i64 p0.2.1, HV.int .i64 p0.2.2] 0), (3, HV.fptr [HV.int .i64 p1.1, HV.int .i64 p1.2.1, HV.int .i64 p1.2.2] 0)], []⟩) (AS.le_of ⟨rfl, rfl, trivial⟩ trivial) ?_)))
  clear hK K
  refine AW.dgs 16 follows rfl rfl fun K hK => ?_
  refine sv rfl (v_fieldAddrF fo68_0 rfl) ?_
  refine sv rfl (v_loadF ty3 rfl (l_lit rfl rfl)) ?_
  refine sv rfl (v_fieldAddrF fo68_1 rfl) ?_
  refine sv rfl (v_loadF ty3 rfl (l_lit rfl rfl)) ?_
  refine sv rfl (v_fieldAddrF fo68_2 rfl) ?_
  refine sv rfl (v_loadF ty3 rfl (l_lit rfl rfl)) ?_
  refine s_op rfl rfl (ops_bsl rfl rfl (as_of (cs := [HV.int .i64 p0.1, HV.int .i64 p0.2.1, HV.int .i64 p0.2.2]) ty25 ty3 rfl rfl rfl rfl rfl) ?_)
  refine sv rfl (v_fieldAddrF fo68_0 rfl) ?_
  refine sv rfl (v_loadF ty3 rfl (l_lit rfl rfl)) ?_
  refine sv rfl (v_fieldAddrF fo68_1 rfl) ?_
  refine sv rfl (v_loadF ty3 rfl (l_lit rfl rfl)) ?_
  refine sv rfl (v_fieldAddrF fo68_2 rfl) ?_
  refine sv rfl (v_loadF ty3 rfl (l_lit rfl rfl)) ?_
  refine s_op rfl rfl (ops_bsl rfl rfl (as_of (cs := [HV.int .i64 p1.1, HV.int .i64 p1.2.1, HV.int .i64 p1.2.2]) ty25 ty3 rfl rfl rfl rfl rfl) ?_)
  refine sm rfl rfl ?_
  refine sm rfl rfl ?_
  refine s_nil ?_
  refine b_nil (hK _ (AW.to (to_le (s' := ⟨[(5, slE eInt [p0.1, p0.2.1, p0.2.2]), (6, slE eInt [p1.1, p1.2.1, p1.2.2])], []⟩) (AS.le_of ⟨rfl, rfl, trivial⟩ trivial) ?_)))
  clear hK K
  refine AW.seq ?_
  refine AW.rgs rfl fun K hK => ?_
  refine mv rfl rfl ?_
  refine b_nil (hK _ (AW.to (to_le (s' := ⟨[(5, slE eInt [p0.1, p0.2.1, p0.2.2]), (6, slE eInt [p1.1, p1.2.1, p1.2.2]), (7, HV.int .i64 0)], []⟩) (AS.le_of ⟨rfl, rfl, rfl, trivial⟩ trivial) ?_)))
  clear hK K
  refine AW.lpR h (by first | exact up_then | exact up_to) (S := Int) (V := Unit) (fun a v => ⟨[(5, slE eInt [p0.1, p0.2.1, p0.2.2]), (6, slE eInt [p1.1, p1.2.1, p1.2.2]), (7, HV.int .i64 a)], []⟩) ?_ (X := Unit) (W := Unit) (fun a v => ⟨[], []⟩) (fun a13 w14 h => ?_) (fun a1 w2 st3 h hr4=> ?_)
  · exact to_le (s' := ⟨[(5, slE eInt [p0.1, p0.2.1, p0.2.2]), (6, slE eInt [p1.1, p1.2.1, p1.2.2]), (7, HV.int .i64 0)], []⟩) (AS.le_of ⟨rfl, rfl, rfl, trivial⟩ trivial) ⟨(), rfl⟩
  · refine AW.rgs rfl fun K hK => ?_
    refine mv rfl rfl ?_
    refine b_nil (hK _ (AW.to (to_le (s' := ⟨[(4, HV.int .i64 0)], []⟩) (AS.le_of ⟨rfl, trivial⟩ trivial) ?_)))
    clear hK K
    refine AW.ret ?_
    have h := Option.some.inj h
    subst h
    exact ret_pure (hs := [HV.int .i64 0]) (q := HV.int .i64 0) (.inr rfl) (resT rfl rfl) rfl trivial
  · refine AW.seq ?_
    refine AW.rgs rfl fun K hK => ?_
    refine mv rfl rfl ?_
    refine bv rfl (v_bin rfl rfl b_lss) ?_
    refine b_nil (hK _ (AW.to (to_le (s' := ⟨[(5, slE eInt [p0.1, p0.2.1, p0.2.2]), (6, slE eInt [p1.1, p1.2.1, p1.2.2]), (7, HV.int .i64 a1), (23, HV.bool (decide (a1 < 3)))], []⟩) (AS.le_of ⟨rfl, rfl, rfl, rfl, trivial⟩ trivial) ?_)))
    clear hK K
    refine AW.cond rfl (fun hc => ?_) (fun hc => ?_)
    · have hc := of_decide_eq_true hc
      have h := ifT hc h
      refine AW.skip ?_
      refine AW.seq (AW.block ?_)
      refine AW.seq ?_
      refine AW.dgs 9 follows rfl rfl fun K hK => ?_
      refine sm rfl rfl ?_
      refine sm rfl rfl ?_
      obtain ⟨x5, h6, h⟩ := bS h
      refine sv rfl (v_idxF ty25 es25 rfl rfl (idx_lt h6)) ?_
      refine sv rfl (v_loadF ty3 rfl (l_cell eInt h6 (o := 0) rfl rfl)) ?_
      refine sm rfl rfl ?_
      refine sm rfl rfl ?_
      obtain ⟨x7, h8, h⟩ := bS h
      refine sv rfl (v_idxF ty25 es25 rfl rfl (idx_lt h8)) ?_
      refine sv rfl (v_loadF ty3 rfl (l_cell eInt h8 (o := 0) rfl rfl)) ?_
      refine sv rfl (v_bin rfl rfl b_lss) ?_
      refine s_nil ?_
      refine b_nil (hK _ (AW.to (to_le (s' := ⟨[(5, slE eInt [p0.1, p0.2.1, p0.2.2]), (6, slE eInt [p1.1, p1.2.1, p1.2.2]), (7, HV.int .i64 a1), (34, HV.bool (decide (x5 < x7)))], []⟩) (AS.le_of ⟨rfl, rfl, rfl, rfl, trivial⟩ trivial) ?_)))
      clear hK K
      refine AW.cond rfl (fun hc => ?_) (fun hc => ?_)
      · have hc := of_decide_eq_true hc
        have h := ifT hc h
        refine AW.rgs rfl fun K hK => ?_
        refine mv rfl rfl ?_
        refine b_nil (hK _ (AW.to (to_le (s' := ⟨[(4, HV.int .i64 (-1))], []⟩) (AS.le_of ⟨rfl, trivial⟩ trivial) ?_)))
        clear hK K
        have h := hr4 _ h
        refine AW.ret ?_
        have h := Option.some.inj h
        subst h
        exact ret_pure (hs := [HV.int .i64 (-1)]) (q := HV.int .i64 (-1)) (.inr rfl) (resT rfl rfl) rfl trivial
      · have hc := of_decide_eq_false hc
        have h := ifF hc h
        refine AW.skip ?_
        refine AW.dgs 9 follows rfl rfl fun K hK => ?_
        refine sm rfl rfl ?_
        refine sm rfl rfl ?_
        obtain ⟨x9, h10, h⟩ := bS h
        refine sv rfl (v_idxF ty25 es25 rfl rfl (idx_lt h10)) ?_
        refine sv rfl (v_loadF ty3 rfl (l_cell eInt h10 (o := 0) rfl rfl)) ?_
        refine sm rfl rfl ?_
        refine sm rfl rfl ?_
        obtain ⟨x11, h12, h⟩ := bS h
        refine sv rfl (v_idxF ty25 es25 rfl rfl (idx_lt h12)) ?_
        refine sv rfl (v_loadF ty3 rfl (l_cell eInt h12 (o := 0) rfl rfl)) ?_
        refine sv rfl (v_bin rfl rfl b_gtr) ?_
        refine s_nil ?_
        refine b_nil (hK _ (AW.to (to_le (s' := ⟨[(5, slE eInt [p0.1, p0.2.1, p0.2.2]), (6, slE eInt [p1.1, p1.2.1, p1.2.2]), (7, HV.int .i64 a1), (43, HV.bool (decide (x11 < x9)))], []⟩) (AS.le_of ⟨rfl, rfl, rfl, rfl, trivial⟩ trivial) ?_)))
        clear hK K
        refine AW.cond rfl (fun hc => ?_) (fun hc => ?_)
        · have hc := of_decide_eq_true hc
          have h := ifT hc h
          refine AW.rgs rfl fun K hK => ?_
          refine mv rfl rfl ?_
          refine b_nil (hK _ (AW.to (to_le (s' := ⟨[(4, HV.int .i64 1)], []⟩) (AS.le_of ⟨rfl, trivial⟩ trivial) ?_)))
          clear hK K
          have h := hr4 _ h
          refine AW.ret ?_
          have h := Option.some.inj h
          subst h
          exact ret_pure (hs := [HV.int .i64 1]) (q := HV.int .i64 1) (.inr rfl) (resT rfl rfl) rfl trivial
        · have hc := of_decide_eq_false hc
          have h := ifF hc h
          refine AW.skip ?_
          refine AW.rg rfl fun K hK => ?_
          refine mv rfl rfl ?_
          refine bv rfl (v_bin rfl rfl b_add) ?_
          refine mv rfl rfl ?_
          refine b_nil (hK _ ?_)
          clear hK K
          exact to_le (s' := ⟨[(5, slE eInt [p0.1, p0.2.1, p0.2.2]), (6, slE eInt [p1.1, p1.2.1, p1.2.2]), (7, HV.int .i64 (IntKind.wrap .i64 (a1 + 1)))], []⟩) (AS.le_of ⟨rfl, rfl, rfl, trivial⟩ trivial) ⟨IntKind.wrap .i64 (a1 + 1), (), h, rfl⟩
    · have hc := of_decide_eq_false hc
      have h := ifF hc h
      refine AW.exit ?_
      exact to_le (s' := ⟨[], []⟩) (AS.le_of trivial trivial) ⟨(), (), h, rfl⟩

end Go.AW

namespace Go.AW
open Go Go.Proofs
set_option linter.unusedVariables false
set_option maxHeartbeats 1600000 in
set_option maxRecDepth 100000 in
theorem w_ref09_Check {p0 : TLabelsStatesEdges} {r : Int} (h : m_ref09_Check p0 = some r) : Pure Tryz.prog 59 [HV.agg [HV.int .i64 p0.1, HV.int .i64 p0.2.1, slE eFromLabelTo p0.2.2]] (· = HV.int .i64 r) := by
  unfold m_ref09_Check at h
  refine Pure.of_body Tryz.func59 rfl rfl (Nat.le_of_ble_eq_true rfl) fun hf => ?_
  unfold Tryz.f59
  dsimp only [enumS, Nat.reduceAdd]
  refine AW.rgs rfl fun K hK => ?_
  refine b_op rfl (o_box rfl rfl rfl ?_)
  refine mv rfl rfl ?_
  refine b_nil (hK _ (AW.to (to_le (s' := ⟨[(1, HV.fptr [HV.int .i64 p0.1, HV.int .i64 p0.2.1, slE eFromLabelTo p0.2.2] 0)], []⟩) (AS.le_of ⟨rfl, trivial⟩ trivial) ?_)))
  clear hK K
  refine AW.seq ?_
  refine AW.seqJ h (S := Bool) (V := Unit) (fun a v => ⟨[(1, HV.fptr [HV.int .i64 p0.1, HV.int .i64 p0.2.1, slE eFromLabelTo p0.2.2] 0), (12, HV.bool a)], []⟩) (fun a1 w2 h => ?_) (fun k3 h => ?_)
  · refine AW.cond rfl (fun hc => ?_) (fun hc => ?_)
    · have h := ifT hc h
      refine AW.rgs rfl fun K hK => ?_
      refine mv rfl rfl ?_
      refine b_nil (hK _ (AW.to (to_le (s' := ⟨[(2, HV.int .i64 12)], []⟩) (AS.le_of ⟨rfl, trivial⟩ trivial) ?_)))
      clear hK K
      refine AW.ret ?_
      have h := Option.some.inj h
      subst h
      exact ret_pure (hs := [HV.int .i64 12]) (q := HV.int .i64 12) (.inr rfl) (resT rfl rfl) rfl trivial
    · have h := ifF (bF' hc) h
      refine AW.skip ?_
      refine AW.seq ?_
      refine AW.rgs rfl fun K hK => ?_
      refine bv rfl (v_fieldAddrF fo24_1 rfl) ?_
      refine bv rfl (v_loadF ty3 rfl (l_lit rfl rfl)) ?_
      refine bv rfl (v_bin rfl rfl b_lss) ?_
      refine b_nil (hK _ (AW.to (to_le (s' := ⟨[(1, HV.fptr [HV.int .i64 p0.1, HV.int .i64 p0.2.1, slE eFromLabelTo p0.2.2] 0), (15, HV.bool (decide (p0.2.1 < 0)))], []⟩) (AS.le_of ⟨rfl, rfl, trivial⟩ trivial) ?_)))
      clear hK K
      refine AW.cond rfl (fun hc => ?_) (fun hc => ?_)
      · have hc := of_decide_eq_true hc
        have h := ifT hc h
        refine AW.rgs rfl fun K hK => ?_
        refine mv rfl rfl ?_
        refine b_nil (hK _ (AW.to (to_le (s' := ⟨[(2, HV.int .i64 2)], []⟩) (AS.le_of ⟨rfl, trivial⟩ trivial) ?_)))
        clear hK K
        refine AW.ret ?_
        have h := Option.some.inj h
        subst h
        exact ret_pure (hs := [HV.int .i64 2]) (q := HV.int .i64 2) (.inr rfl) (resT rfl rfl) rfl trivial
      · have hc := of_decide_eq_false hc
        have h := ifF hc h
        refine AW.skip ?_
        refine AW.seq ?_
        refine AW.seqJ h (S := Bool) (V := Unit) (fun a v => ⟨[(1, HV.fptr [HV.int .i64 p0.1, HV.int .i64 p0.2.1, slE eFromLabelTo p0.2.2] 0), (24, HV.bool a)], []⟩) (fun a4 w5 h => ?_) (fun k6 h => ?_)
        · refine AW.cond rfl (fun hc => ?_) (fun hc => ?_)
          · have h := ifT hc h
            refine AW.rgs rfl fun K hK => ?_
            refine mv rfl rfl ?_
            refine b_nil (hK _ (AW.to (to_le (s' := ⟨[(2, HV.int .i64 4)], []⟩) (AS.le_of ⟨rfl, trivial⟩ trivial) ?_)))
            clear hK K
            refine AW.ret ?_
            have h := Option.some.inj h
            subst h
            exact ret_pure (hs := [HV.int .i64 4]) (q := HV.int .i64 4) (.inr rfl) (resT rfl rfl) rfl trivial
          · have h := ifF (bF' hc) h
            refine AW.skip ?_
            refine AW.seq ?_
            refine AW.rgs rfl fun K hK => ?_
            refine mv rfl rfl ?_
            refine b_nil (hK _ (AW.to (to_le (s' := ⟨[(1, HV.fptr [HV.int .i64 p0.1, HV.int .i64 p0.2.1, slE eFromLabelTo p0.2.2] 0), (3, HV.int .i64 0)], []⟩) (AS.le_of ⟨rfl, rfl, trivial⟩ trivial) ?_)))
            clear hK K
            refine AW.lpR h (by first | exact up_then | exact up_to) (S := Int) (V := Unit) (fun a v => ⟨[(1, HV.fptr [HV.int .i64 p0.1, HV.int .i64 p0.2.1, slE eFromLabelTo p0.2.2] 0), (3, HV.int .i64 a)], []⟩) ?_ (X := Unit) (W := Unit) (fun a v => ⟨[], []⟩) (fun a30 w31 h => ?_) (fun a7 w8 st9 h hr10=> ?_)
            · exact to_le (s' := ⟨[(1, HV.fptr [HV.int .i64 p0.1, HV.int .i64 p0.2.1, slE eFromLabelTo p0.2.2] 0), (3, HV.int .i64 0)], []⟩) (AS.le_of ⟨rfl, rfl, trivial⟩ trivial) ⟨(), rfl⟩
            · refine AW.rgs rfl fun K hK => ?_
              refine mv rfl rfl ?_
              refine b_nil (hK _ (AW.to (to_le (s' := ⟨[(2, HV.int .i64 0)], []⟩) (AS.le_of ⟨rfl, trivial⟩ trivial) ?_)))
              clear hK K
              refine AW.ret ?_
              have h := Option.some.inj h
              subst h
              exact ret_pure (hs := [HV.int .i64 0]) (q := HV.int .i64 0) (.inr rfl) (resT rfl rfl) rfl trivial
            · refine AW.seq ?_
              refine AW.rgs rfl fun K hK => ?_
              refine mv rfl rfl ?_
              refine bv rfl (v_fieldAddrF fo24_2 rfl) ?_
              refine bv rfl (v_loadF ty22 rfl (l_lit rfl rfl)) ?_
              refine bv rfl (v_lenF rfl rfl ty22 rfl) ?_
              refine bv rfl (v_bin rfl rfl b_lss) ?_
              refine b_nil (hK _ (AW.to (to_le (s' := ⟨[(1, HV.fptr [HV.int .i64 p0.1, HV.int .i64 p0.2.1, slE eFromLabelTo p0.2.2] 0), (3, HV.int .i64 a7), (29, HV.bool (decide (a7 < ((p0.2.2).length : Int))))], []⟩) (AS.le_of ⟨rfl, rfl, rfl, trivial⟩ trivial) ?_)))
              clear hK K
              refine AW.cond rfl (fun hc => ?_) (fun hc => ?_)
              · have hc := of_decide_eq_true hc
                have h := ifT hc h
                refine AW.skip ?_
                refine AW.seq (AW.block ?_)
                refine AW.rgs rfl fun K hK => ?_
                refine bv rfl (v_fieldAddrF fo24_2 rfl) ?_
                refine bv rfl (v_loadF ty22 rfl (l_lit rfl rfl)) ?_
                refine mv rfl rfl ?_
                obtain ⟨x11, h12, h⟩ := bS h
                refine bv rfl (v_idxF ty22 es22 rfl rfl (idx_lt h12)) ?_
                refine bv rfl (v_loadF ty68 rfl (l_agg eFromLabelTo h12 rfl rfl)) ?_
                refine b_op rfl (o_alloc (fid := 59) (zs := [HV.int .i64 0, HV.int .i64 0, HV.int .i64 0]) 59004 rfl rfl ty68 rfl (fun v13 => ?_))
                refine b_op rfl (o_store (cs := [HV.int .i64 x11.1, HV.int .i64 x11.2.1, HV.int .i64 x11.2.2]) (zs := [HV.int .i64 x11.1, HV.int .i64 x11.2.1, HV.int .i64 x11.2.2]) rfl rfl rfl ty68 rfl rfl rfl rfl rfl ?_)
                refine b_nil (hK _ (AW.to (to_le (s' := ⟨[(1, HV.fptr [HV.int .i64 p0.1, HV.int .i64 p0.2.1, slE eFromLabelTo p0.2.2] 0), (3, HV.int .i64 a7), (4, HV.ptr 59004 v13 0)], [(59004, v13, .arr 3 68 [HV.int .i64 x11.1, HV.int .i64 x11.2.1, HV.int .i64 x11.2.2])]⟩) (AS.le_of ⟨rfl, rfl, rfl, trivial⟩ ⟨rfl, trivial⟩) ?_)))
                clear hK K
                refine AW.seq ?_
                refine AW.seqJ h (S := Bool) (V := Unit) (fun a v => ⟨[(1, HV.fptr [HV.int .i64 p0.1, HV.int .i64 p0.2.1, slE eFromLabelTo p0.2.2] 0), (3, HV.int .i64 a7), (4, HV.ptr 59004 v13 0), (70, HV.bool a)], [(59004, v13, .arr 3 68 [HV.int .i64 x11.1, HV.int .i64 x11.2.1, HV.int .i64 x11.2.2])]⟩) (fun a14 w15 h => ?_) (fun k16 h => ?_)
                · refine AW.cond rfl (fun hc => ?_) (fun hc => ?_)
                  · have h := ifT hc h
                    refine AW.rgs rfl fun K hK => ?_
                    refine mv rfl rfl ?_
                    refine b_nil (hK _ (AW.to (to_le (s' := ⟨[(2, HV.int .i64 2)], []⟩) (AS.le_of ⟨rfl, trivial⟩ trivial) ?_)))
                    clear hK K
                    have h := hr10 _ h
                    refine AW.ret ?_
                    have h := Option.some.inj h
                    subst h
                    exact ret_pure (hs := [HV.int .i64 2]) (q := HV.int .i64 2) (.inr rfl) (resT rfl rfl) rfl trivial
                  · have h := ifF (bF' hc) h
                    refine AW.skip ?_
                    refine AW.seqJ h (S := Bool) (V := Unit) (fun a v => ⟨[(1, HV.fptr [HV.int .i64 p0.1, HV.int .i64 p0.2.1, slE eFromLabelTo p0.2.2] 0), (3, HV.int .i64 a7), (83, HV.bool a)], []⟩) (fun a17 w18 h => ?_) (fun k19 h => ?_)
                    · refine AW.cond rfl (fun hc => ?_) (fun hc => ?_)
                      · have h := ifT hc h
                        refine AW.rgs rfl fun K hK => ?_
                        refine mv rfl rfl ?_
                        refine b_nil (hK _ (AW.to (to_le (s' := ⟨[(2, HV.int .i64 10)], []⟩) (AS.le_of ⟨rfl, trivial⟩ trivial) ?_)))
                        clear hK K
                        have h := hr10 _ h
                        refine AW.ret ?_
                        have h := Option.some.inj h
                        subst h
                        exact ret_pure (hs := [HV.int .i64 10]) (q := HV.int .i64 10) (.inr rfl) (resT rfl rfl) rfl trivial
                      · have h := ifF (bF' hc) h
                        refine AW.skip ?_
                        refine AW.rg rfl fun K hK => ?_
                        refine mv rfl rfl ?_
                        refine bv rfl (v_bin rfl rfl b_add) ?_
                        refine mv rfl rfl ?_
                        refine b_nil (hK _ ?_)
                        clear hK K
                        exact to_le (s' := ⟨[(1, HV.fptr [HV.int .i64 p0.1, HV.int .i64 p0.2.1, slE eFromLabelTo p0.2.2] 0), (3, HV.int .i64 (IntKind.wrap .i64 (a7 + 1)))], []⟩) (AS.le_of ⟨rfl, rfl, trivial⟩ trivial) ⟨IntKind.wrap .i64 (a7 + 1), (), h, rfl⟩
                    · refine AW.dg 13 follows rfl rfl fun K hK => ?_
                      refine sm rfl rfl ?_
                      refine sv rfl (v_bin rfl rfl b_gtr) ?_
                      refine sm rfl rfl ?_
                      by_cases hg24 : 0 < a7
                      · have h := ifT hg24 h
                        refine s_T rfl rfl rfl rfl rfl (decide_eq_true hg24) (ops_val rfl (v_fieldAddrF fo24_2 rfl) ?_)
                        refine s_T rfl rfl rfl rfl rfl rfl (ops_val rfl (v_loadF ty22 rfl (l_lit rfl rfl)) ?_)
                        refine s_T rfl rfl rfl rfl rfl rfl (ops_val rfl (mv_val rfl rfl).2 ?_)
                        refine s_T rfl rfl rfl rfl rfl rfl (ops_val rfl (v_bin rfl rfl b_sub) ?_)
                        obtain ⟨x20, h21, h⟩ := bS h
                        refine s_T rfl rfl rfl rfl rfl rfl (ops_val rfl (v_idxF ty22 es22 rfl rfl (idx_lt h21)) ?_)
                        refine s_T rfl rfl rfl rfl rfl rfl (ops_val rfl (v_loadF ty68 rfl (l_agg eFromLabelTo h21 rfl rfl)) ?_)
                        refine s_T rfl rfl rfl rfl rfl rfl (ops_val rfl (v_loadP ty68 rfl rfl (l_litA rfl (Nat.le_of_ble_eq_true rfl) rfl)) ?_)
                        obtain ⟨x22, h23, h⟩ := bS h
                        refine s_T rfl rfl rfl rfl rfl rfl (ops_call rfl rfl rfl rfl (ACallD.pure0 (w_ref09_Compare h23)) ?_)
                        refine s_T rfl rfl rfl rfl rfl rfl (ops_val rfl (v_bin rfl rfl b_geq) ?_)
                        refine sv rfl (v_pickT rfl rfl rfl) ?_
                        refine s_nil ?_
                        refine b_nil (hK _ ?_)
                        clear hK K
                        exact to_le (s' := ⟨[(1, HV.fptr [HV.int .i64 p0.1, HV.int .i64 p0.2.1, slE eFromLabelTo p0.2.2] 0), (3, HV.int .i64 a7), (83, HV.bool (decide (0 ≤ x22)))], []⟩) (AS.le_of ⟨rfl, rfl, rfl, trivial⟩ trivial) ⟨decide (0 ≤ x22), (), h, rfl⟩
                      · have h := ifF hg24 h
                        refine s_F rfl rfl rfl rfl rfl (decide_eq_false hg24) ?_
                        refine s_F rfl rfl rfl rfl rfl rfl ?_
                        refine s_F rfl rfl rfl rfl rfl rfl ?_
                        refine s_F rfl rfl rfl rfl rfl rfl ?_
                        refine s_F rfl rfl rfl rfl rfl rfl ?_
                        refine s_F rfl rfl rfl rfl rfl rfl ?_
                        refine s_F rfl rfl rfl rfl rfl rfl ?_
                        refine s_F rfl rfl rfl rfl rfl rfl ?_
                        refine s_F rfl rfl rfl rfl rfl rfl ?_
                        refine sv rfl (v_pickF rfl rfl rfl) ?_
                        refine s_nil ?_
                        refine b_nil (hK _ ?_)
                        clear hK K
                        exact to_le (s' := ⟨[(1, HV.fptr [HV.int .i64 p0.1, HV.int .i64 p0.2.1, slE eFromLabelTo p0.2.2] 0), (3, HV.int .i64 a7), (83, HV.bool false)], []⟩) (AS.le_of ⟨rfl, rfl, rfl, trivial⟩ trivial) ⟨false, (), h, rfl⟩
                · refine AW.rg rfl fun K hK => ?_
                  refine bv rfl (v_fieldAddrP fo68_0 rfl rfl) ?_
                  refine bv rfl (v_loadP ty3 rfl rfl (l_lit rfl rfl)) ?_
                  refine bv rfl (v_bin rfl rfl b_lss) ?_
                  refine mv rfl rfl ?_
                  by_cases hg29 : x11.1 < 0
                  · have h := ifT hg29 h
                    refine b_F rfl rfl rfl rfl rfl (decide_eq_true hg29) ?_
                    refine b_F rfl rfl rfl rfl rfl rfl ?_
                    refine b_F rfl rfl rfl rfl rfl rfl ?_
                    refine b_F rfl rfl rfl rfl rfl rfl ?_
                    refine b_F rfl rfl rfl rfl rfl rfl ?_
                    refine bv rfl (v_pickT rfl rfl rfl) ?_
                    refine mv rfl rfl ?_
                    refine b_F rfl rfl rfl rfl rfl rfl ?_
                    refine b_F rfl rfl rfl rfl rfl rfl ?_
                    refine b_F rfl rfl rfl rfl rfl rfl ?_
                    refine bv rfl (v_pickT rfl rfl rfl) ?_
                    refine mv rfl rfl ?_
                    refine b_F rfl rfl rfl rfl rfl rfl ?_
                    refine b_F rfl rfl rfl rfl rfl rfl ?_
                    refine b_F rfl rfl rfl rfl rfl rfl ?_
                    refine b_F rfl rfl rfl rfl rfl rfl ?_
                    refine b_F rfl rfl rfl rfl rfl rfl ?_
                    refine bv rfl (v_pickT rfl rfl rfl) ?_
                    refine mv rfl rfl ?_
                    refine b_F rfl rfl rfl rfl rfl rfl ?_
                    refine b_F rfl rfl rfl rfl rfl rfl ?_
                    refine b_F rfl rfl rfl rfl rfl rfl ?_
                    refine bv rfl (v_pickT rfl rfl rfl) ?_
                    refine mv rfl rfl ?_
                    refine b_F rfl rfl rfl rfl rfl rfl ?_
                    refine b_F rfl rfl rfl rfl rfl rfl ?_
                    refine b_F rfl rfl rfl rfl rfl rfl ?_
                    refine b_F rfl rfl rfl rfl rfl rfl ?_
                    refine b_F rfl rfl rfl rfl rfl rfl ?_
                    refine bv rfl (v_pickT rfl rfl rfl) ?_
                    refine b_nil (hK _ ?_)
                    clear hK K
                    exact to_le (s' := ⟨[(1, HV.fptr [HV.int .i64 p0.1, HV.int .i64 p0.2.1, slE eFromLabelTo p0.2.2] 0), (3, HV.int .i64 a7), (4, HV.ptr 59004 v13 0), (70, HV.bool true)], [(59004, v13, .arr 3 68 [HV.int .i64 x11.1, HV.int .i64 x11.2.1, HV.int .i64 x11.2.2])]⟩) (AS.le_of ⟨rfl, rfl, rfl, rfl, trivial⟩ ⟨rfl, trivial⟩) ⟨true, (), h, rfl⟩
                  · have h := ifF hg29 h
                    refine b_T rfl rfl rfl rfl (decide_eq_false hg29) (o_val rfl (v_fieldAddrP fo68_0 rfl rfl) ?_)
                    refine b_T rfl rfl rfl rfl rfl (o_val rfl (v_loadP ty3 rfl rfl (l_lit rfl rfl)) ?_)
                    refine b_T rfl rfl rfl rfl rfl (o_val rfl (v_fieldAddrF fo24_1 rfl) ?_)
                    refine b_T rfl rfl rfl rfl rfl (o_val rfl (v_loadF ty3 rfl (l_lit rfl rfl)) ?_)
                    refine b_T rfl rfl rfl rfl rfl (o_val rfl (v_bin rfl rfl b_geq) ?_)
                    refine bv rfl (v_pickF rfl rfl rfl) ?_
                    refine mv rfl rfl ?_
                    by_cases hg28 : p0.2.1 ≤ x11.1
                    · have h := ifT hg28 h
                      refine b_F rfl rfl rfl rfl rfl (decide_eq_true hg28) ?_
                      refine b_F rfl rfl rfl rfl rfl rfl ?_
                      refine b_F rfl rfl rfl rfl rfl rfl ?_
                      refine bv rfl (v_pickT rfl rfl rfl) ?_
                      refine mv rfl rfl ?_
                      refine b_F rfl rfl rfl rfl rfl rfl ?_
                      refine b_F rfl rfl rfl rfl rfl rfl ?_
                      refine b_F rfl rfl rfl rfl rfl rfl ?_
                      refine b_F rfl rfl rfl rfl rfl rfl ?_
                      refine b_F rfl rfl rfl rfl rfl rfl ?_
                      refine bv rfl (v_pickT rfl rfl rfl) ?_
                      refine mv rfl rfl ?_
                      refine b_F rfl rfl rfl rfl rfl rfl ?_
                      refine b_F rfl rfl rfl rfl rfl rfl ?_
                      refine b_F rfl rfl rfl rfl rfl rfl ?_
                      refine bv rfl (v_pickT rfl rfl rfl) ?_
                      refine mv rfl rfl ?_
                      refine b_F rfl rfl rfl rfl rfl rfl ?_
                      refine b_F rfl rfl rfl rfl rfl rfl ?_
                      refine b_F rfl rfl rfl rfl rfl rfl ?_
                      refine b_F rfl rfl rfl rfl rfl rfl ?_
                      refine b_F rfl rfl rfl rfl rfl rfl ?_
                      refine bv rfl (v_pickT rfl rfl rfl) ?_
                      refine b_nil (hK _ ?_)
                      clear hK K
                      exact to_le (s' := ⟨[(1, HV.fptr [HV.int .i64 p0.1, HV.int .i64 p0.2.1, slE eFromLabelTo p0.2.2] 0), (3, HV.int .i64 a7), (4, HV.ptr 59004 v13 0), (70, HV.bool true)], [(59004, v13, .arr 3 68 [HV.int .i64 x11.1, HV.int .i64 x11.2.1, HV.int .i64 x11.2.2])]⟩) (AS.le_of ⟨rfl, rfl, rfl, rfl, trivial⟩ ⟨rfl, trivial⟩) ⟨true, (), h, rfl⟩
                    · have h := ifF hg28 h
                      refine b_T rfl rfl rfl rfl (decide_eq_false hg28) (o_val rfl (v_fieldAddrP fo68_2 rfl rfl) ?_)
                      refine b_T rfl rfl rfl rfl rfl (o_val rfl (v_loadP ty3 rfl rfl (l_lit rfl rfl)) ?_)
                      refine b_T rfl rfl rfl rfl rfl (o_val rfl (v_bin rfl rfl b_lss) ?_)
                      refine bv rfl (v_pickF rfl rfl rfl) ?_
                      refine mv rfl rfl ?_
                      by_cases hg27 : x11.2.2 < 0
                      · have h := ifT hg27 h
                        refine b_F rfl rfl rfl rfl rfl (decide_eq_true hg27) ?_
                        refine b_F rfl rfl rfl rfl rfl rfl ?_
                        refine b_F rfl rfl rfl rfl rfl rfl ?_
                        refine b_F rfl rfl rfl rfl rfl rfl ?_
                        refine b_F rfl rfl rfl rfl rfl rfl ?_
                        refine bv rfl (v_pickT rfl rfl rfl) ?_
                        refine mv rfl rfl ?_
                        refine b_F rfl rfl rfl rfl rfl rfl ?_
                        refine b_F rfl rfl rfl rfl rfl rfl ?_
                        refine b_F rfl rfl rfl rfl rfl rfl ?_
                        refine bv rfl (v_pickT rfl rfl rfl) ?_
                        refine mv rfl rfl ?_
                        refine b_F rfl rfl rfl rfl rfl rfl ?_
                        refine b_F rfl rfl rfl rfl rfl rfl ?_
                        refine b_F rfl rfl rfl rfl rfl rfl ?_
                        refine b_F rfl rfl rfl rfl rfl rfl ?_
                        refine b_F rfl rfl rfl rfl rfl rfl ?_
                        refine bv rfl (v_pickT rfl rfl rfl) ?_
                        refine b_nil (hK _ ?_)
                        clear hK K
                        exact to_le (s' := ⟨[(1, HV.fptr [HV.int .i64 p0.1, HV.int .i64 p0.2.1, slE eFromLabelTo p0.2.2] 0), (3, HV.int .i64 a7), (4, HV.ptr 59004 v13 0), (70, HV.bool true)], [(59004, v13, .arr 3 68 [HV.int .i64 x11.1, HV.int .i64 x11.2.1, HV.int .i64 x11.2.2])]⟩) (AS.le_of ⟨rfl, rfl, rfl, rfl, trivial⟩ ⟨rfl, trivial⟩) ⟨true, (), h, rfl⟩
                      · have h := ifF hg27 h
                        refine b_T rfl rfl rfl rfl (decide_eq_false hg27) (o_val rfl (v_fieldAddrP fo68_2 rfl rfl) ?_)
                        refine b_T rfl rfl rfl rfl rfl (o_val rfl (v_loadP ty3 rfl rfl (l_lit rfl rfl)) ?_)
                        refine b_T rfl rfl rfl rfl rfl (o_val rfl (v_fieldAddrF fo24_1 rfl) ?_)
                        refine b_T rfl rfl rfl rfl rfl (o_val rfl (v_loadF ty3 rfl (l_lit rfl rfl)) ?_)
                        refine b_T rfl rfl rfl rfl rfl (o_val rfl (v_bin rfl rfl b_geq) ?_)
                        refine bv rfl (v_pickF rfl rfl rfl) ?_
                        refine mv rfl rfl ?_
                        by_cases hg26 : p0.2.1 ≤ x11.2.2
                        · have h := ifT hg26 h
                          refine b_F rfl rfl rfl rfl rfl (decide_eq_true hg26) ?_
                          refine b_F rfl rfl rfl rfl rfl rfl ?_
                          refine b_F rfl rfl rfl rfl rfl rfl ?_
                          refine bv rfl (v_pickT rfl rfl rfl) ?_
                          refine mv rfl rfl ?_
                          refine b_F rfl rfl rfl rfl rfl rfl ?_
                          refine b_F rfl rfl rfl rfl rfl rfl ?_
                          refine b_F rfl rfl rfl rfl rfl rfl ?_
                          refine b_F rfl rfl rfl rfl rfl rfl ?_
                          refine b_F rfl rfl rfl rfl rfl rfl ?_
                          refine bv rfl (v_pickT rfl rfl rfl) ?_
                          refine b_nil (hK _ ?_)
                          clear hK K
                          exact to_le (s' := ⟨[(1, HV.fptr [HV.int .i64 p0.1, HV.int .i64 p0.2.1, slE eFromLabelTo p0.2.2] 0), (3, HV.int .i64 a7), (4, HV.ptr 59004 v13 0), (70, HV.bool true)], [(59004, v13, .arr 3 68 [HV.int .i64 x11.1, HV.int .i64 x11.2.1, HV.int .i64 x11.2.2])]⟩) (AS.le_of ⟨rfl, rfl, rfl, rfl, trivial⟩ ⟨rfl, trivial⟩) ⟨true, (), h, rfl⟩
                        · have h := ifF hg26 h
                          refine b_T rfl rfl rfl rfl (decide_eq_false hg26) (o_val rfl (v_fieldAddrP fo68_1 rfl rfl) ?_)
                          refine b_T rfl rfl rfl rfl rfl (o_val rfl (v_loadP ty3 rfl rfl (l_lit rfl rfl)) ?_)
                          refine b_T rfl rfl rfl rfl rfl (o_val rfl (v_bin rfl rfl b_lss) ?_)
                          refine bv rfl (v_pickF rfl rfl rfl) ?_
                          refine mv rfl rfl ?_
                          by_cases hg25 : x11.2.1 < 0
                          · have h := ifT hg25 h
                            refine b_F rfl rfl rfl rfl rfl (decide_eq_true hg25) ?_
                            refine b_F rfl rfl rfl rfl rfl rfl ?_
                            refine b_F rfl rfl rfl rfl rfl rfl ?_
                            refine b_F rfl rfl rfl rfl rfl rfl ?_
                            refine b_F rfl rfl rfl rfl rfl rfl ?_
                            refine bv rfl (v_pickT rfl rfl rfl) ?_
                            refine b_nil (hK _ ?_)
                            clear hK K
                            exact to_le (s' := ⟨[(1, HV.fptr [HV.int .i64 p0.1, HV.int .i64 p0.2.1, slE eFromLabelTo p0.2.2] 0), (3, HV.int .i64 a7), (4, HV.ptr 59004 v13 0), (70, HV.bool true)], [(59004, v13, .arr 3 68 [HV.int .i64 x11.1, HV.int .i64 x11.2.1, HV.int .i64 x11.2.2])]⟩) (AS.le_of ⟨rfl, rfl, rfl, rfl, trivial⟩ ⟨rfl, trivial⟩) ⟨true, (), h, rfl⟩
                          · have h := ifF hg25 h
                            refine b_T rfl rfl rfl rfl (decide_eq_false hg25) (o_val rfl (v_fieldAddrP fo68_1 rfl rfl) ?_)
                            refine b_T rfl rfl rfl rfl rfl (o_val rfl (v_loadP ty3 rfl rfl (l_lit rfl rfl)) ?_)
                            refine b_T rfl rfl rfl rfl rfl (o_val rfl (v_fieldAddrF fo24_0 rfl) ?_)
                            refine b_T rfl rfl rfl rfl rfl (o_val rfl (v_loadF ty3 rfl (l_lit rfl rfl)) ?_)
                            refine b_T rfl rfl rfl rfl rfl (o_val rfl (v_bin rfl rfl b_geq) ?_)
                            refine bv rfl (v_pickF rfl rfl rfl) ?_
                            refine b_nil (hK _ ?_)
                            clear hK K
                            exact to_le (s' := ⟨[(1, HV.fptr [HV.int .i64 p0.1, HV.int .i64 p0.2.1, slE eFromLabelTo p0.2.2] 0), (3, HV.int .i64 a7), (4, HV.ptr 59004 v13 0), (70, HV.bool (decide (p0.1 ≤ x11.2.1)))], [(59004, v13, .arr 3 68 [HV.int .i64 x11.1, HV.int .i64 x11.2.1, HV.int .i64 x11.2.2])]⟩) (AS.le_of ⟨rfl, rfl, rfl, rfl, trivial⟩ ⟨rfl, trivial⟩) ⟨decide (p0.1 ≤ x11.2.1), (), h, rfl⟩
              · have hc := of_decide_eq_false hc
                have h := ifF hc h
                refine AW.exit ?_
                exact to_le (s' := ⟨[], []⟩) (AS.le_of trivial trivial) ⟨(), (), h, rfl⟩
        · refine AW.rg rfl fun K hK => ?_
          refine bv rfl (v_fieldAddrF fo24_1 rfl) ?_
          refine bv rfl (v_loadF ty3 rfl (l_lit rfl rfl)) ?_
          refine bv rfl (v_bin rfl rfl b_gtr) ?_
          refine mv rfl rfl ?_
          by_cases hg32 : 64 < p0.2.1
          · have h := ifT hg32 h
            refine b_F rfl rfl rfl rfl rfl (decide_eq_true hg32) ?_
            refine b_F rfl rfl rfl rfl rfl rfl ?_
            refine b_F rfl rfl rfl rfl rfl rfl ?_
            refine b_F rfl rfl rfl rfl rfl rfl ?_
            refine bv rfl (v_pickT rfl rfl rfl) ?_
            refine b_nil (hK _ ?_)
            clear hK K
            exact to_le (s' := ⟨[(1, HV.fptr [HV.int .i64 p0.1, HV.int .i64 p0.2.1, slE eFromLabelTo p0.2.2] 0), (24, HV.bool true)], []⟩) (AS.le_of ⟨rfl, rfl, trivial⟩ trivial) ⟨true, (), h, rfl⟩
          · have h := ifF hg32 h
            refine b_T rfl rfl rfl rfl (decide_eq_false hg32) (o_val rfl (v_fieldAddrF fo24_2 rfl) ?_)
            refine b_T rfl rfl rfl rfl rfl (o_val rfl (v_loadF ty22 rfl (l_lit rfl rfl)) ?_)
            refine b_T rfl rfl rfl rfl rfl (o_val rfl (v_lenF rfl rfl ty22 rfl) ?_)
            refine b_T rfl rfl rfl rfl rfl (o_val rfl (v_bin rfl rfl b_gtr) ?_)
            refine bv rfl (v_pickF rfl rfl rfl) ?_
            refine b_nil (hK _ ?_)
            clear hK K
            exact to_le (s' := ⟨[(1, HV.fptr [HV.int .i64 p0.1, HV.int .i64 p0.2.1, slE eFromLabelTo p0.2.2] 0), (24, HV.bool (decide (1024 < ((p0.2.2).length : Int))))], []⟩) (AS.le_of ⟨rfl, rfl, trivial⟩ trivial) ⟨decide (1024 < ((p0.2.2).length : Int)), (), h, rfl⟩
  · refine AW.rg rfl fun K hK => ?_
    refine bv rfl (v_fieldAddrF fo24_0 rfl) ?_
    refine bv rfl (v_loadF ty3 rfl (l_lit rfl rfl)) ?_
    refine bv rfl (v_bin rfl rfl b_lss) ?_
    refine mv rfl rfl ?_
    by_cases hg33 : p0.1 < 1
    · have h := ifT hg33 h
      refine b_F rfl rfl rfl rfl rfl (decide_eq_true hg33) ?_
      refine b_F rfl rfl rfl rfl rfl rfl ?_
      refine b_F rfl rfl rfl rfl rfl rfl ?_
      refine bv rfl (v_pickT rfl rfl rfl) ?_
      refine b_nil (hK _ ?_)
      clear hK K
      exact to_le (s' := ⟨[(1, HV.fptr [HV.int .i64 p0.1, HV.int .i64 p0.2.1, slE eFromLabelTo p0.2.2] 0), (12, HV.bool true)], []⟩) (AS.le_of ⟨rfl, rfl, trivial⟩ trivial) ⟨true, (), h, rfl⟩
    · have h := ifF hg33 h
      refine b_T rfl rfl rfl rfl (decide_eq_false hg33) (o_val rfl (v_fieldAddrF fo24_0 rfl) ?_)
      refine b_T rfl rfl rfl rfl rfl (o_val rfl (v_loadF ty3 rfl (l_lit rfl rfl)) ?_)
      refine b_T rfl rfl rfl rfl rfl (o_val rfl (v_bin rfl rfl b_gtr) ?_)
      refine bv rfl (v_pickF rfl rfl rfl) ?_
      refine b_nil (hK _ ?_)
      clear hK K
      exact to_le (s' := ⟨[(1, HV.fptr [HV.int .i64 p0.1, HV.int .i64 p0.2.1, slE eFromLabelTo p0.2.2] 0), (12, HV.bool (decide (256 < p0.1)))], []⟩) (AS.le_of ⟨rfl, rfl, trivial⟩ trivial) ⟨decide (256 < p0.1), (), h, rfl⟩

set_option maxHeartbeats 1600000 in
set_option maxRecDepth 100000 in
theorem w_ref11_check {p0 : TLabelsStatesEdges} {r : Int} (h : m_ref11_check p0 = some r) : Pure Tryz.prog 47 [HV.agg [HV.int .i64 p0.1, HV.int .i64 p0.2.1, slE eFromLabelTo p0.2.2]] (· = HV.int .i64 r) := by
  unfold m_ref11_check at h
  refine Pure.of_body Tryz.func47 rfl rfl (Nat.le_of_ble_eq_true rfl) fun hf => ?_
  unfold Tryz.f47
  dsimp only [enumS, Nat.reduceAdd]
  refine AW.rgs rfl fun K hK => ?_
  refine b_op rfl (o_box rfl rfl rfl ?_)
  refine mv rfl rfl ?_
  refine b_nil (hK _ (AW.to (to_le (s' := ⟨[(1, HV.fptr [HV.int .i64 p0.1, HV.int .i64 p0.2.1, slE eFromLabelTo p0.2.2] 0)], []⟩) (AS.le_of ⟨rfl, trivial⟩ trivial) ?_)))
  clear hK K
  refine AW.seq ?_
  refine AW.rgs rfl fun K hK => ?_
  refine bv rfl (v_loadF ty24 rfl (l_litA rfl (Nat.le_of_ble_eq_true rfl) rfl)) ?_
  obtain ⟨x1, h2, h⟩ := bS h
  refine b_op rfl (o_call rfl rfl rfl rfl (ACallD.pure0 (w_ref09_Check h2)) ?_)
  refine bv rfl (v_bin rfl rfl b_neq) ?_
  refine b_nil (hK _ (AW.to (to_le (s' := ⟨[(1, HV.fptr [HV.int .i64 p0.1, HV.int .i64 p0.2.1, slE eFromLabelTo p0.2.2] 0), (5, HV.bool (decide (x1 ≠ 0)))], []⟩) (AS.le_of ⟨rfl, rfl, trivial⟩ trivial) ?_)))
  clear hK K
  refine AW.cond rfl (fun hc => ?_) (fun hc => ?_)
  · have hc := of_decide_eq_true hc
    have h := ifT hc h
    refine AW.rgs rfl fun K hK => ?_
    refine mv rfl rfl ?_
    refine b_nil (hK _ (AW.to (to_le (s' := ⟨[(2, HV.int .i64 1)], []⟩) (AS.le_of ⟨rfl, trivial⟩ trivial) ?_)))
    clear hK K
    refine AW.ret ?_
    have h := Option.some.inj h
    subst h
    exact ret_pure (hs := [HV.int .i64 1]) (q := HV.int .i64 1) (.inr rfl) (resT rfl rfl) rfl trivial
  · have hc := of_decide_eq_false hc
    have h := ifF hc h
    refine AW.skip ?_
    refine AW.seq ?_
    refine AW.rgs rfl fun K hK => ?_
    refine bv rfl (v_fieldAddrF fo24_0 rfl) ?_
    refine bv rfl (v_loadF ty3 rfl (l_lit rfl rfl)) ?_
    refine bv rfl (v_bin rfl rfl b_gtr) ?_
    refine b_nil (hK _ (AW.to (to_le (s' := ⟨[(8, HV.bool (decide (16 < p0.1)))], []⟩) (AS.le_of ⟨rfl, trivial⟩ trivial) ?_)))
    clear hK K
    refine AW.cond rfl (fun hc => ?_) (fun hc => ?_)
    · have hc := of_decide_eq_true hc
      have h := ifT hc h
      refine AW.rgs rfl fun K hK => ?_
      refine mv rfl rfl ?_
      refine b_nil (hK _ (AW.to (to_le (s' := ⟨[(2, HV.int .i64 12)], []⟩) (AS.le_of ⟨rfl, trivial⟩ trivial) ?_)))
      clear hK K
      refine AW.ret ?_
      have h := Option.some.inj h
      subst h
      exact ret_pure (hs := [HV.int .i64 12]) (q := HV.int .i64 12) (.inr rfl) (resT rfl rfl) rfl trivial
    · have hc := of_decide_eq_false hc
      have h := ifF hc h
      refine AW.skip ?_
      refine AW.rgs rfl fun K hK => ?_
      refine mv rfl rfl ?_
      refine b_nil (hK _ (AW.to (to_le (s' := ⟨[(2, HV.int .i64 0)], []⟩) (AS.le_of ⟨rfl, trivial⟩ trivial) ?_)))
      clear hK K
      refine AW.ret ?_
      have h := Option.some.inj h
      subst h
      exact ret_pure (hs := [HV.int .i64 0]) (q := HV.int .i64 0) (.inr rfl) (resT rfl rfl) rfl trivial

set_option maxHeartbeats 1600000 in
set_option maxRecDepth 100000 in
theorem w_ref07_Digit {p0 : Int} {r : Int} (h : m_ref07_Digit p0 = some r) : Pure Tryz.prog 37 [HV.int .u8 p0] (· = HV.int .i64 r) := by
  unfold m_ref07_Digit at h
  refine Pure.of_body Tryz.func37 rfl rfl (Nat.le_of_ble_eq_true rfl) fun hf => ?_
  unfold Tryz.f37
  dsimp only [enumS, Nat.reduceAdd]
  refine AW.rgs rfl fun K hK => ?_
  refine mv rfl rfl ?_
  refine b_nil (hK _ (AW.to (to_le (s' := ⟨[(0, HV.int .u8 p0)], []⟩) (AS.le_of ⟨rfl, trivial⟩ trivial) ?_)))
  clear hK K
  refine AW.seq ?_
  refine AW.rgs rfl fun K hK => ?_
  refine mv rfl rfl ?_
  refine b_nil (hK _ (AW.to (to_le (s' := ⟨[(0, HV.int .u8 p0), (3, HV.int .i64 0)], []⟩) (AS.le_of ⟨rfl, rfl, trivial⟩ trivial) ?_)))
  clear hK K
  refine AW.lpR h (by first | exact up_then | exact up_to) (S := Int) (V := Unit) (fun a v => ⟨[(0, HV.int .u8 p0), (3, HV.int .i64 a)], []⟩) ?_ (X := Unit) (W := Unit) (fun a v => ⟨[], []⟩) (fun a7 w8 h => ?_) (fun a1 w2 st3 h hr4=> ?_)
  · exact to_le (s' := ⟨[(0, HV.int .u8 p0), (3, HV.int .i64 0)], []⟩) (AS.le_of ⟨rfl, rfl, trivial⟩ trivial) ⟨(), rfl⟩
  · refine AW.rgs rfl fun K hK => ?_
    refine mv rfl rfl ?_
    refine b_nil (hK _ (AW.to (to_le (s' := ⟨[(2, HV.int .i64 (-1))], []⟩) (AS.le_of ⟨rfl, trivial⟩ trivial) ?_)))
    clear hK K
    refine AW.ret ?_
    have h := Option.some.inj h
    subst h
    exact ret_pure (hs := [HV.int .i64 (-1)]) (q := HV.int .i64 (-1)) (.inr rfl) (resT rfl rfl) rfl trivial
  · refine AW.seq ?_
    refine AW.rgs rfl fun K hK => ?_
    refine mv rfl rfl ?_
    refine bv rfl (v_bin rfl rfl b_lss) ?_
    refine b_nil (hK _ (AW.to (to_le (s' := ⟨[(0, HV.int .u8 p0), (3, HV.int .i64 a1), (5, HV.bool (decide (a1 < 16)))], []⟩) (AS.le_of ⟨rfl, rfl, rfl, trivial⟩ trivial) ?_)))
    clear hK K
    refine AW.cond rfl (fun hc => ?_) (fun hc => ?_)
    · have hc := of_decide_eq_true hc
      have h := ifT hc h
      refine AW.skip ?_
      refine AW.seq (AW.block ?_)
      refine AW.rgs rfl fun K hK => ?_
      refine mv rfl rfl ?_
      obtain ⟨x5, h6, h⟩ := bS h
      refine bv rfl (v_idxS ty9 rfl rfl h6) ?_
      refine mv rfl rfl ?_
      refine bv rfl (v_bin rfl rfl b_eql) ?_
      refine b_nil (hK _ (AW.to (to_le (s' := ⟨[(0, HV.int .u8 p0), (3, HV.int .i64 a1), (11, HV.bool (decide ((x5.toNat : Int) = p0)))], []⟩) (AS.le_of ⟨rfl, rfl, rfl, trivial⟩ trivial) ?_)))
      clear hK K
      refine AW.cond rfl (fun hc => ?_) (fun hc => ?_)
      · have hc := of_decide_eq_true hc
        have h := ifT hc h
        refine AW.rgs rfl fun K hK => ?_
        refine mv rfl rfl ?_
        refine mv rfl rfl ?_
        refine b_nil (hK _ (AW.to (to_le (s' := ⟨[(2, HV.int .i64 a1)], []⟩) (AS.le_of ⟨rfl, trivial⟩ trivial) ?_)))
        clear hK K
        have h := hr4 _ h
        refine AW.ret ?_
        have h := Option.some.inj h
        subst h
        exact ret_pure (hs := [HV.int .i64 a1]) (q := HV.int .i64 a1) (.inr rfl) (resT rfl rfl) rfl trivial
      · have hc := of_decide_eq_false hc
        have h := ifF hc h
        refine AW.skip ?_
        refine AW.rg rfl fun K hK => ?_
        refine mv rfl rfl ?_
        refine bv rfl (v_bin rfl rfl b_add) ?_
        refine mv rfl rfl ?_
        refine b_nil (hK _ ?_)
        clear hK K
        exact to_le (s' := ⟨[(0, HV.int .u8 p0), (3, HV.int .i64 (IntKind.wrap .i64 (a1 + 1)))], []⟩) (AS.le_of ⟨rfl, rfl, trivial⟩ trivial) ⟨IntKind.wrap .i64 (a1 + 1), (), h, rfl⟩
    · have hc := of_decide_eq_false hc
      have h := ifF hc h
      refine AW.exit ?_
      exact to_le (s' := ⟨[], []⟩) (AS.le_of trivial trivial) ⟨(), (), h, rfl⟩

set_option maxHeartbeats 1600000 in
set_option maxRecDepth 100000 in
theorem w_ref07_Check {p0 : Int} {p1 : List UInt8} {r : Int} (h : m_ref07_Check p0 p1 = some r) : Pure Tryz.prog 48 [HV.int .i64 p0, HV.str p1] (· = HV.int .i64 r) := by
  unfold m_ref07_Check at h
  refine Pure.of_body Tryz.func48 rfl rfl (Nat.le_of_ble_eq_true rfl) fun hf => ?_
  unfold Tryz.f48
  dsimp only [enumS, Nat.reduceAdd]
  refine AW.rgs rfl fun K hK => ?_
  refine mv rfl rfl ?_
  refine b_nil (hK _ (AW.to (to_le (s' := ⟨[(0, HV.int .i64 p0), (1, HV.str p1)], []⟩) (AS.le_of ⟨rfl, rfl, trivial⟩ trivial) ?_)))
  clear hK K
  refine AW.seq ?_
  refine AW.seqJ h (S := Bool) (V := Unit) (fun a v => ⟨[(0, HV.int .i64 p0), (1, HV.str p1), (12, HV.bool a)], []⟩) (fun a1 w2 h => ?_) (fun k3 h => ?_)
  · refine AW.cond rfl (fun hc => ?_) (fun hc => ?_)
    · have h := ifT hc h
      refine AW.rgs rfl fun K hK => ?_
      refine mv rfl rfl ?_
      refine b_nil (hK _ (AW.to (to_le (s' := ⟨[(4, HV.int .i64 12)], []⟩) (AS.le_of ⟨rfl, trivial⟩ trivial) ?_)))
      clear hK K
      refine AW.ret ?_
      have h := Option.some.inj h
      subst h
      exact ret_pure (hs := [HV.int .i64 12]) (q := HV.int .i64 12) (.inr rfl) (resT rfl rfl) rfl trivial
    · have h := ifF (bF' hc) h
      refine AW.skip ?_
      refine AW.seq ?_
      refine AW.rgs rfl fun K hK => ?_
      refine mv rfl rfl ?_
      refine bv rfl (v_lenS rfl rfl ty9 rfl) ?_
      refine bv rfl (v_bin rfl rfl b_gtr) ?_
      refine b_nil (hK _ (AW.to (to_le (s' := ⟨[(0, HV.int .i64 p0), (1, HV.str p1), (15, HV.bool (decide (65536 < ((p1).length : Int))))], []⟩) (AS.le_of ⟨rfl, rfl, rfl, trivial⟩ trivial) ?_)))
      clear hK K
      refine AW.cond rfl (fun hc => ?_) (fun hc => ?_)
      · have hc := of_decide_eq_true hc
        have h := ifT hc h
        refine AW.rgs rfl fun K hK => ?_
        refine mv rfl rfl ?_
        refine b_nil (hK _ (AW.to (to_le (s' := ⟨[(4, HV.int .i64 4)], []⟩) (AS.le_of ⟨rfl, trivial⟩ trivial) ?_)))
        clear hK K
        refine AW.ret ?_
        have h := Option.some.inj h
        subst h
        exact ret_pure (hs := [HV.int .i64 4]) (q := HV.int .i64 4) (.inr rfl) (resT rfl rfl) rfl trivial
      · have hc := of_decide_eq_false hc
        have h := ifF hc h
        refine AW.skip ?_
        refine AW.seq ?_
        refine AW.rgs rfl fun K hK => ?_
        refine mv rfl rfl ?_
        refine b_nil (hK _ (AW.to (to_le (s' := ⟨[(0, HV.int .i64 p0), (1, HV.str p1), (5, HV.int .i64 0)], []⟩) (AS.le_of ⟨rfl, rfl, rfl, trivial⟩ trivial) ?_)))
        clear hK K
        refine AW.lpR h (by first | exact up_then | exact up_to) (S := Int) (V := Unit) (fun a v => ⟨[(0, HV.int .i64 p0), (1, HV.str p1), (5, HV.int .i64 a)], []⟩) ?_ (X := Unit) (W := Unit) (fun a v => ⟨[], []⟩) (fun a16 w17 h => ?_) (fun a4 w5 st6 h hr7=> ?_)
        · exact to_le (s' := ⟨[(0, HV.int .i64 p0), (1, HV.str p1), (5, HV.int .i64 0)], []⟩) (AS.le_of ⟨rfl, rfl, rfl, trivial⟩ trivial) ⟨(), rfl⟩
        · refine AW.rgs rfl fun K hK => ?_
          refine mv rfl rfl ?_
          refine b_nil (hK _ (AW.to (to_le (s' := ⟨[(4, HV.int .i64 0)], []⟩) (AS.le_of ⟨rfl, trivial⟩ trivial) ?_)))
          clear hK K
          refine AW.ret ?_
          have h := Option.some.inj h
          subst h
          exact ret_pure (hs := [HV.int .i64 0]) (q := HV.int .i64 0) (.inr rfl) (resT rfl rfl) rfl trivial
        · refine AW.seq ?_
          refine AW.rgs rfl fun K hK => ?_
          refine mv rfl rfl ?_
          refine mv rfl rfl ?_
          refine bv rfl (v_lenS rfl rfl ty9 rfl) ?_
          refine bv rfl (v_bin rfl rfl b_lss) ?_
          refine b_nil (hK _ (AW.to (to_le (s' := ⟨[(0, HV.int .i64 p0), (1, HV.str p1), (5, HV.int .i64 a4), (19, HV.bool (decide (a4 < ((p1).length : Int))))], []⟩) (AS.le_of ⟨rfl, rfl, rfl, rfl, trivial⟩ trivial) ?_)))
          clear hK K
          refine AW.cond rfl (fun hc => ?_) (fun hc => ?_)
          · have hc := of_decide_eq_true hc
            have h := ifT hc h
            refine AW.skip ?_
            refine AW.seq (AW.block ?_)
            refine AW.rgs rfl fun K hK => ?_
            refine mv rfl rfl ?_
            refine mv rfl rfl ?_
            obtain ⟨x8, h9, h⟩ := bS h
            refine bv rfl (v_idxS ty9 rfl rfl h9) ?_
            obtain ⟨x10, h11, h⟩ := bS h
            refine b_op rfl (o_call rfl rfl rfl rfl (ACallD.pure0 (w_ref07_Digit h11)) ?_)
            refine mv rfl rfl ?_
            refine b_nil (hK _ (AW.to (to_le (s' := ⟨[(0, HV.int .i64 p0), (1, HV.str p1), (5, HV.int .i64 a4), (6, HV.int .i64 x10)], []⟩) (AS.le_of ⟨rfl, rfl, rfl, rfl, trivial⟩ trivial) ?_)))
            clear hK K
            refine AW.seqJ h (S := Bool) (V := Unit) (fun a v => ⟨[(0, HV.int .i64 p0), (1, HV.str p1), (5, HV.int .i64 a4), (32, HV.bool a)], []⟩) (fun a12 w13 h => ?_) (fun k14 h => ?_)
            · refine AW.cond rfl (fun hc => ?_) (fun hc => ?_)
              · have h := ifT hc h
                refine AW.rgs rfl fun K hK => ?_
                refine mv rfl rfl ?_
                refine b_nil (hK _ (AW.to (to_le (s' := ⟨[(4, HV.int .i64 13)], []⟩) (AS.le_of ⟨rfl, trivial⟩ trivial) ?_)))
                clear hK K
                have h := hr7 _ h
                refine AW.ret ?_
                have h := Option.some.inj h
                subst h
                exact ret_pure (hs := [HV.int .i64 13]) (q := HV.int .i64 13) (.inr rfl) (resT rfl rfl) rfl trivial
              · have h := ifF (bF' hc) h
                refine AW.skip ?_
                refine AW.rg rfl fun K hK => ?_
                refine mv rfl rfl ?_
                refine bv rfl (v_bin rfl rfl b_add) ?_
                refine mv rfl rfl ?_
                refine b_nil (hK _ ?_)
                clear hK K
                exact to_le (s' := ⟨[(0, HV.int .i64 p0), (1, HV.str p1), (5, HV.int .i64 (IntKind.wrap .i64 (a4 + 1)))], []⟩) (AS.le_of ⟨rfl, rfl, rfl, trivial⟩ trivial) ⟨IntKind.wrap .i64 (a4 + 1), (), h, rfl⟩
            · refine AW.rg rfl fun K hK => ?_
              refine mv rfl rfl ?_
              refine bv rfl (v_bin rfl rfl b_lss) ?_
              refine mv rfl rfl ?_
              by_cases hg15 : x10 < 0
              · have h := ifT hg15 h
                refine b_F rfl rfl rfl rfl rfl (decide_eq_true hg15) ?_
                refine b_F rfl rfl rfl rfl rfl rfl ?_
                refine b_F rfl rfl rfl rfl rfl rfl ?_
                refine bv rfl (v_pickT rfl rfl rfl) ?_
                refine b_nil (hK _ ?_)
                clear hK K
                exact to_le (s' := ⟨[(0, HV.int .i64 p0), (1, HV.str p1), (5, HV.int .i64 a4), (32, HV.bool true)], []⟩) (AS.le_of ⟨rfl, rfl, rfl, rfl, trivial⟩ trivial) ⟨true, (), h, rfl⟩
              · have h := ifF hg15 h
                refine b_T rfl rfl rfl rfl (decide_eq_false hg15) (o_val rfl (mv_val rfl rfl).2 ?_)
                refine b_T rfl rfl rfl rfl rfl (o_val rfl (mv_val rfl rfl).2 ?_)
                refine b_T rfl rfl rfl rfl rfl (o_val rfl (v_bin rfl rfl b_geq) ?_)
                refine bv rfl (v_pickF rfl rfl rfl) ?_
                refine b_nil (hK _ ?_)
                clear hK K
                exact to_le (s' := ⟨[(0, HV.int .i64 p0), (1, HV.str p1), (5, HV.int .i64 a4), (32, HV.bool (decide (p0 ≤ x10)))], []⟩) (AS.le_of ⟨rfl, rfl, rfl, rfl, trivial⟩ trivial) ⟨decide (p0 ≤ x10), (), h, rfl⟩
          · have hc := of_decide_eq_false hc
            have h := ifF hc h
            refine AW.exit ?_
            exact to_le (s' := ⟨[], []⟩) (AS.le_of trivial trivial) ⟨(), (), h, rfl⟩
  · refine AW.rg rfl fun K hK => ?_
    refine mv rfl rfl ?_
    refine bv rfl (v_bin rfl rfl b_lss) ?_
    refine mv rfl rfl ?_
    by_cases hg18 : p0 < 1
    · have h := ifT hg18 h
      refine b_F rfl rfl rfl rfl rfl (decide_eq_true hg18) ?_
      refine b_F rfl rfl rfl rfl rfl rfl ?_
      refine bv rfl (v_pickT rfl rfl rfl) ?_
      refine b_nil (hK _ ?_)
      clear hK K
      exact to_le (s' := ⟨[(0, HV.int .i64 p0), (1, HV.str p1), (12, HV.bool true)], []⟩) (AS.le_of ⟨rfl, rfl, rfl, trivial⟩ trivial) ⟨true, (), h, rfl⟩
    · have h := ifF hg18 h
      refine b_T rfl rfl rfl rfl (decide_eq_false hg18) (o_val rfl (mv_val rfl rfl).2 ?_)
      refine b_T rfl rfl rfl rfl rfl (o_val rfl (v_bin rfl rfl b_gtr) ?_)
      refine bv rfl (v_pickF rfl rfl rfl) ?_
      refine b_nil (hK _ ?_)
      clear hK K
      exact to_le (s' := ⟨[(0, HV.int .i64 p0), (1, HV.str p1), (12, HV.bool (decide (16 < p0)))], []⟩) (AS.le_of ⟨rfl, rfl, rfl, trivial⟩ trivial) ⟨decide (16 < p0), (), h, rfl⟩

set_option maxHeartbeats 1600000 in
set_option maxRecDepth 100000 in
theorem w_ref11_checkWord {p0 : TLabelsStatesEdges} {p1 : List UInt8} {r : Int} (h : m_ref11_checkWord p0 p1 = some r) : Pure Tryz.prog 26 [HV.agg [HV.int .i64 p0.1, HV.int .i64 p0.2.1, slE eFromLabelTo p0.2.2], HV.str p1] (· = HV.int .i64 r) := by
  unfold m_ref11_checkWord at h
  refine Pure.of_body Tryz.func26 rfl rfl (Nat.le_of_ble_eq_true rfl) fun hf => ?_
  unfold Tryz.f26
  dsimp only [enumS, Nat.reduceAdd]
  refine AW.rgs rfl fun K hK => ?_
  refine b_op rfl (o_box rfl rfl rfl ?_)
  refine mv rfl rfl ?_
  refine b_nil (hK _ (AW.to (to_le (s' := ⟨[(1, HV.str p1), (2, HV.fptr [HV.int .i64 p0.1, HV.int .i64 p0.2.1, slE eFromLabelTo p0.2.2] 0)], []⟩) (AS.le_of ⟨rfl, rfl, trivial⟩ trivial) ?_)))
  clear hK K
  refine AW.seq ?_
  refine AW.rgs rfl fun K hK => ?_
  refine bv rfl (v_loadF ty24 rfl (l_litA rfl (Nat.le_of_ble_eq_true rfl) rfl)) ?_
  obtain ⟨x1, h2, h⟩ := bS h
  refine b_op rfl (o_call rfl rfl rfl rfl (ACallD.pure0 (w_ref11_check h2)) ?_)
  refine mv rfl rfl ?_
  refine b_nil (hK _ (AW.to (to_le (s' := ⟨[(1, HV.str p1), (2, HV.fptr [HV.int .i64 p0.1, HV.int .i64 p0.2.1, slE eFromLabelTo p0.2.2] 0), (5, HV.int .i64 x1)], []⟩) (AS.le_of ⟨rfl, rfl, rfl, trivial⟩ trivial) ?_)))
  clear hK K
  refine AW.rgs rfl fun K hK => ?_
  refine mv rfl rfl ?_
  refine bv rfl (v_bin rfl rfl b_neq) ?_
  refine b_nil (hK _ (AW.to (to_le (s' := ⟨[(1, HV.str p1), (2, HV.fptr [HV.int .i64 p0.1, HV.int .i64 p0.2.1, slE eFromLabelTo p0.2.2] 0), (5, HV.int .i64 x1), (9, HV.bool (decide (x1 ≠ 0)))], []⟩) (AS.le_of ⟨rfl, rfl, rfl, rfl, trivial⟩ trivial) ?_)))
  clear hK K
  refine AW.cond rfl (fun hc => ?_) (fun hc => ?_)
  · have hc := of_decide_eq_true hc
    have h := ifT hc h
    refine AW.rgs rfl fun K hK => ?_
    refine mv rfl rfl ?_
    refine mv rfl rfl ?_
    refine b_nil (hK _ (AW.to (to_le (s' := ⟨[(4, HV.int .i64 x1)], []⟩) (AS.le_of ⟨rfl, trivial⟩ trivial) ?_)))
    clear hK K
    refine AW.ret ?_
    have h := Option.some.inj h
    subst h
    exact ret_pure (hs := [HV.int .i64 x1]) (q := HV.int .i64 x1) (.inr rfl) (resT rfl rfl) rfl trivial
  · have hc := of_decide_eq_false hc
    have h := ifF hc h
    refine AW.skip ?_
    refine AW.rgs rfl fun K hK => ?_
    refine bv rfl (v_fieldAddrF fo24_0 rfl) ?_
    refine bv rfl (v_loadF ty3 rfl (l_lit rfl rfl)) ?_
    refine mv rfl rfl ?_
    obtain ⟨x3, h4, h⟩ := bS h
    refine b_op rfl (o_call rfl rfl rfl rfl (ACallD.pure0 (w_ref07_Check h4)) ?_)
    refine mv rfl rfl ?_
    refine b_nil (hK _ (AW.to (to_le (s' := ⟨[(4, HV.int .i64 x3)], []⟩) (AS.le_of ⟨rfl, trivial⟩ trivial) ?_)))
    clear hK K
    refine AW.ret ?_
    have h := Option.some.inj h
    subst h
    exact ret_pure (hs := [HV.int .i64 x3]) (q := HV.int .i64 x3) (.inr rfl) (resT rfl rfl) rfl trivial

set_option maxHeartbeats 1600000 in
set_option maxRecDepth 100000 in
theorem w_ref11_has {p0 : List (Int)} {p1 : Int} {r : Bool} (h : m_ref11_has p0 p1 = some r) : Pure Tryz.prog 38 [slE eInt p0, HV.int .i64 p1] (· = HV.bool r) := by
  unfold m_ref11_has at h
  refine Pure.of_body Tryz.func38 rfl rfl (Nat.le_of_ble_eq_true rfl) fun hf => ?_
  unfold Tryz.f38
  dsimp only [enumS, Nat.reduceAdd]
  refine AW.rgs rfl fun K hK => ?_
  refine mv rfl rfl ?_
  refine b_nil (hK _ (AW.to (to_le (s' := ⟨[(0, slE eInt p0), (1, HV.int .i64 p1)], []⟩) (AS.le_of ⟨rfl, rfl, trivial⟩ trivial) ?_)))
  clear hK K
  refine AW.seq ?_
  refine AW.rgs rfl fun K hK => ?_
  refine mv rfl rfl ?_
  refine b_nil (hK _ (AW.to (to_le (s' := ⟨[(0, slE eInt p0), (1, HV.int .i64 p1), (5, HV.int .i64 0)], []⟩) (AS.le_of ⟨rfl, rfl, rfl, trivial⟩ trivial) ?_)))
  clear hK K
  refine AW.lpR h (by first | exact up_then | exact up_to) (S := Int) (V := Unit) (fun a v => ⟨[(0, slE eInt p0), (1, HV.int .i64 p1), (5, HV.int .i64 a)], []⟩) ?_ (X := Unit) (W := Unit) (fun a v => ⟨[], []⟩) (fun a7 w8 h => ?_) (fun a1 w2 st3 h hr4=> ?_)
  · exact to_le (s' := ⟨[(0, slE eInt p0), (1, HV.int .i64 p1), (5, HV.int .i64 0)], []⟩) (AS.le_of ⟨rfl, rfl, rfl, trivial⟩ trivial) ⟨(), rfl⟩
  · refine AW.rgs rfl fun K hK => ?_
    refine mv rfl rfl ?_
    refine b_nil (hK _ (AW.to (to_le (s' := ⟨[(4, HV.bool false)], []⟩) (AS.le_of ⟨rfl, trivial⟩ trivial) ?_)))
    clear hK K
    refine AW.ret ?_
    have h := Option.some.inj h
    subst h
    exact ret_pure (hs := [HV.bool false]) (q := HV.bool false) (.inr rfl) (resT rfl rfl) rfl trivial
  · refine AW.seq ?_
    refine AW.rgs rfl fun K hK => ?_
    refine mv rfl rfl ?_
    refine mv rfl rfl ?_
    refine bv rfl (v_lenF rfl rfl ty25 rfl) ?_
    refine bv rfl (v_bin rfl rfl b_lss) ?_
    refine b_nil (hK _ (AW.to (to_le (s' := ⟨[(0, slE eInt p0), (1, HV.int .i64 p1), (5, HV.int .i64 a1), (9, HV.bool (decide (a1 < ((p0).length : Int))))], []⟩) (AS.le_of ⟨rfl, rfl, rfl, rfl, trivial⟩ trivial) ?_)))
    clear hK K
    refine AW.cond rfl (fun hc => ?_) (fun hc => ?_)
    · have hc := of_decide_eq_true hc
      have h := ifT hc h
      refine AW.skip ?_
      refine AW.seq (AW.block ?_)
      refine AW.rgs rfl fun K hK => ?_
      refine mv rfl rfl ?_
      refine mv rfl rfl ?_
      obtain ⟨x5, h6, h⟩ := bS h
      refine bv rfl (v_idxF ty25 es25 rfl rfl (idx_lt h6)) ?_
      refine bv rfl (v_loadF ty3 rfl (l_cell eInt h6 (o := 0) rfl rfl)) ?_
      refine mv rfl rfl ?_
      refine bv rfl (v_bin rfl rfl b_eql) ?_
      refine b_nil (hK _ (AW.to (to_le (s' := ⟨[(0, slE eInt p0), (1, HV.int .i64 p1), (5, HV.int .i64 a1), (17, HV.bool (decide (x5 = p1)))], []⟩) (AS.le_of ⟨rfl, rfl, rfl, rfl, trivial⟩ trivial) ?_)))
      clear hK K
      refine AW.cond rfl (fun hc => ?_) (fun hc => ?_)
      · have hc := of_decide_eq_true hc
        have h := ifT hc h
        refine AW.rgs rfl fun K hK => ?_
        refine mv rfl rfl ?_
        refine b_nil (hK _ (AW.to (to_le (s' := ⟨[(4, HV.bool true)], []⟩) (AS.le_of ⟨rfl, trivial⟩ trivial) ?_)))
        clear hK K
        have h := hr4 _ h
        refine AW.ret ?_
        have h := Option.some.inj h
        subst h
        exact ret_pure (hs := [HV.bool true]) (q := HV.bool true) (.inr rfl) (resT rfl rfl) rfl trivial
      · have hc := of_decide_eq_false hc
        have h := ifF hc h
        refine AW.skip ?_
        refine AW.rg rfl fun K hK => ?_
        refine mv rfl rfl ?_
        refine bv rfl (v_bin rfl rfl b_add) ?_
        refine mv rfl rfl ?_
        refine b_nil (hK _ ?_)
        clear hK K
        exact to_le (s' := ⟨[(0, slE eInt p0), (1, HV.int .i64 p1), (5, HV.int .i64 (IntKind.wrap .i64 (a1 + 1)))], []⟩) (AS.le_of ⟨rfl, rfl, rfl, trivial⟩ trivial) ⟨IntKind.wrap .i64 (a1 + 1), (), h, rfl⟩
    · have hc := of_decide_eq_false hc
      have h := ifF hc h
      refine AW.exit ?_
      exact to_le (s' := ⟨[], []⟩) (AS.le_of trivial trivial) ⟨(), (), h, rfl⟩

end Go.AW

namespace Go.AW
open Go Go.Proofs
set_option linter.unusedVariables false
set_option maxHeartbeats 1600000 in
set_option maxRecDepth 100000 in
theorem w_ref11_Step {p0 : TLabelsStatesEdges} {p1 : List (Int)} {p2 : Int} {r : (List (Int))} (h : m_ref11_Step p0 p1 p2 = some r) : Pure Tryz.prog 34 [HV.agg [HV.int .i64 p0.1, HV.int .i64 p0.2.1, slE eFromLabelTo p0.2.2], slE eInt p1, HV.int .i64 p2] (· = slE eInt r) := by
  unfold m_ref11_Step at h
  refine Pure.of_body Tryz.func34 rfl rfl (Nat.le_of_ble_eq_true rfl) fun hf => ?_
  unfold Tryz.f34
  dsimp only [enumS, Nat.reduceAdd]
  refine AW.rgs rfl fun K hK => ?_
  refine b_op rfl (o_box rfl rfl rfl ?_)
  refine mv rfl rfl ?_
  refine b_nil (hK _ (AW.to (to_le (s' := ⟨[(1, slE eInt p1), (2, HV.int .i64 p2), (3, HV.fptr [HV.int .i64 p0.1, HV.int .i64 p0.2.1, slE eFromLabelTo p0.2.2] 0)], []⟩) (AS.le_of ⟨rfl, rfl, rfl, trivial⟩ trivial) ?_)))
  clear hK K
  refine AW.rgs rfl fun K hK => ?_
  refine b_op rfl (o_bslM (fid := 34) 34011 rfl rfl rfl (as_of (cs := []) ty25 ty3 rfl rfl rfl rfl rfl) (fun v1 => ?_))
  refine mv rfl rfl ?_
  refine b_nil (hK _ (AW.to (to_le (s' := ⟨[(1, slE eInt p1), (2, HV.int .i64 p2), (3, HV.fptr [HV.int .i64 p0.1, HV.int .i64 p0.2.1, slE eFromLabelTo p0.2.2] 0), (7, HV.ar 34011 v1 eInt.k 0 0)], [(34011, v1, .arr eInt.k 3 [])]⟩) (AS.le_of ⟨rfl, rfl, rfl, rfl, trivial⟩ ⟨rfl, trivial⟩) ?_)))
  clear hK K
  refine AW.seq ?_
  refine AW.rgs rfl fun K hK => ?_
  refine mv rfl rfl ?_
  refine b_nil (hK _ (AW.to (to_le (s' := ⟨[(1, slE eInt p1), (2, HV.int .i64 p2), (3, HV.fptr [HV.int .i64 p0.1, HV.int .i64 p0.2.1, slE eFromLabelTo p0.2.2] 0), (7, HV.ar 34011 v1 eInt.k 0 0), (8, HV.int .i64 0)], [(34011, v1, .arr eInt.k 3 [])]⟩) (AS.le_of ⟨rfl, rfl, rfl, rfl, rfl, trivial⟩ ⟨rfl, trivial⟩) ?_)))
  clear hK K
  refine AW.lpX h (by first | exact up_then | exact up_to) (S := Int × (List Int)) (V := Nat) (fun a v => ⟨[(1, slE eInt p1), (2, HV.int .i64 p2), (3, HV.fptr [HV.int .i64 p0.1, HV.int .i64 p0.2.1, slE eFromLabelTo p0.2.2] 0), (7, HV.ar 34011 v eInt.k 0 ((a.2).length)), (8, HV.int .i64 a.1)], [(34011, v, .arr eInt.k 3 (eInt.E a.2))]⟩) ?_ (X := (List Int)) (W := Nat) (fun a v => ⟨[(7, HV.ar 34011 v eInt.k 0 ((a).length))], [(34011, v, .arr eInt.k 3 (eInt.E a))]⟩) (fun a33 w34 h => ?_) (fun a2 w3 st4 h => ?_)
  · exact to_le (s' := ⟨[(1, slE eInt p1), (2, HV.int .i64 p2), (3, HV.fptr [HV.int .i64 p0.1, HV.int .i64 p0.2.1, slE eFromLabelTo p0.2.2] 0), (7, HV.ar 34011 v1 eInt.k 0 0), (8, HV.int .i64 0)], [(34011, v1, .arr eInt.k 3 [])]⟩) (AS.le_of ⟨rfl, rfl, rfl, rfl, rfl, trivial⟩ ⟨rfl, trivial⟩) ⟨v1, rfl⟩
  · refine AW.rgs rfl fun K hK => ?_
    refine mv rfl rfl ?_
    refine mv rfl rfl ?_
    refine b_nil (hK _ (AW.to (to_le (s' := ⟨[(6, HV.ar 34011 w34 eInt.k 0 ((a33).length))], [(34011, w34, .arr eInt.k 3 (eInt.E a33))]⟩) (AS.le_of ⟨rfl, trivial⟩ ⟨rfl, trivial⟩) ?_)))
    clear hK K
    refine AW.to (to_frz 2 [(34011, w34, .arr eInt.k 3 (eInt.E a33))] ⟨[(6, slE eInt a33)], []⟩ ⟨⟨_, rfl, frz_slE eInt (l := a33) rfl fun _ _ => rfl⟩, trivial⟩ trivial ⟨rfl, trivial⟩ ⟨rfl, trivial⟩ ?_)
    refine AW.ret ?_
    have h := Option.some.inj h
    subst h
    exact ret_pure (hs := [slE eInt a33]) (q := slE eInt a33) (.inr rfl) (resT rfl rfl) rfl (clean_slE fun _ _ => ⟨trivial, trivial⟩)
  · refine AW.seq ?_
    refine AW.rgs rfl fun K hK => ?_
    refine mv rfl rfl ?_
    refine bv rfl (v_fieldAddrF fo24_1 rfl) ?_
    refine bv rfl (v_loadF ty3 rfl (l_lit rfl rfl)) ?_
    refine bv rfl (v_bin rfl rfl b_lss) ?_
    refine b_nil (hK _ (AW.to (to_le (s' := ⟨[(1, slE eInt p1), (2, HV.int .i64 p2), (3, HV.fptr [HV.int .i64 p0.1, HV.int .i64 p0.2.1, slE eFromLabelTo p0.2.2] 0), (7, HV.ar 34011 w3 eInt.k 0 ((a2.2).length)), (8, HV.int .i64 a2.1), (15, HV.bool (decide (a2.1 < p0.2.1)))], [(34011, w3, .arr eInt.k 3 (eInt.E a2.2))]⟩) (AS.le_of ⟨rfl, rfl, rfl, rfl, rfl, rfl, trivial⟩ ⟨rfl, trivial⟩) ?_)))
    clear hK K
    refine AW.cond rfl (fun hc => ?_) (fun hc => ?_)
    · have hc := of_decide_eq_true hc
      have h := ifT hc h
      refine AW.skip ?_
      refine AW.seqJ h (S := (List Int)) (V := Nat) (fun a v => ⟨[(1, slE eInt p1), (2, HV.int .i64 p2), (3, HV.fptr [HV.int .i64 p0.1, HV.int .i64 p0.2.1, slE eFromLabelTo p0.2.2] 0), (7, HV.ar 34011 v eInt.k 0 ((a).length)), (8, HV.int .i64 a2.1)], [(34011, v, .arr eInt.k 3 (eInt.E a))]⟩) (fun a6 w7 h => ?_) (fun k8 h => ?_)
      · refine AW.rg rfl fun K hK => ?_
        refine mv rfl rfl ?_
        refine bv rfl (v_bin rfl rfl b_add) ?_
        refine mv rfl rfl ?_
        refine b_nil (hK _ ?_)
        clear hK K
        exact to_le (s' := ⟨[(1, slE eInt p1), (2, HV.int .i64 p2), (3, HV.fptr [HV.int .i64 p0.1, HV.int .i64 p0.2.1, slE eFromLabelTo p0.2.2] 0), (7, HV.ar 34011 w7 eInt.k 0 ((a6).length)), (8, HV.int .i64 (IntKind.wrap .i64 (a2.1 + 1)))], [(34011, w7, .arr eInt.k 3 (eInt.E a6))]⟩) (AS.le_of ⟨rfl, rfl, rfl, rfl, rfl, trivial⟩ ⟨rfl, trivial⟩) ⟨(IntKind.wrap .i64 (a2.1 + 1), a6), w7, h, rfl⟩
      · refine AW.block ?_
        refine AW.rgs rfl fun K hK => ?_
        refine mv rfl rfl ?_
        refine b_nil (hK _ (AW.to (to_le (s' := ⟨[(1, slE eInt p1), (2, HV.int .i64 p2), (3, HV.fptr [HV.int .i64 p0.1, HV.int .i64 p0.2.1, slE eFromLabelTo p0.2.2] 0), (7, HV.ar 34011 w3 eInt.k 0 ((a2.2).length)), (8, HV.int .i64 a2.1), (9, HV.bool false)], [(34011, w3, .arr eInt.k 3 (eInt.E a2.2))]⟩) (AS.le_of ⟨rfl, rfl, rfl, rfl, rfl, rfl, trivial⟩ ⟨rfl, trivial⟩) ?_)))
        clear hK K
        refine AW.seq ?_
        refine AW.rgs rfl fun K hK => ?_
        refine mv rfl rfl ?_
        refine b_nil (hK _ (AW.to (to_le (s' := ⟨[(1, slE eInt p1), (2, HV.int .i64 p2), (3, HV.fptr [HV.int .i64 p0.1, HV.int .i64 p0.2.1, slE eFromLabelTo p0.2.2] 0), (7, HV.ar 34011 w3 eInt.k 0 ((a2.2).length)), (8, HV.int .i64 a2.1), (9, HV.bool false), (10, HV.int .i64 0)], [(34011, w3, .arr eInt.k 3 (eInt.E a2.2))]⟩) (AS.le_of ⟨rfl, rfl, rfl, rfl, rfl, rfl, rfl, trivial⟩ ⟨rfl, trivial⟩) ?_)))
        clear hK K
        refine AW.lpX h (by first | exact up_then | exact up_to) (S := Bool × Int) (V := Unit) (fun a v => ⟨[(1, slE eInt p1), (2, HV.int .i64 p2), (3, HV.fptr [HV.int .i64 p0.1, HV.int .i64 p0.2.1, slE eFromLabelTo p0.2.2] 0), (7, HV.ar 34011 w3 eInt.k 0 ((a2.2).length)), (8, HV.int .i64 a2.1), (9, HV.bool a.1), (10, HV.int .i64 a.2)], [(34011, w3, .arr eInt.k 3 (eInt.E a2.2))]⟩) ?_ (X := Bool) (W := Unit) (fun a v => ⟨[(1, slE eInt p1), (2, HV.int .i64 p2), (3, HV.fptr [HV.int .i64 p0.1, HV.int .i64 p0.2.1, slE eFromLabelTo p0.2.2] 0), (7, HV.ar 34011 w3 eInt.k 0 ((a2.2).length)), (8, HV.int .i64 a2.1), (9, HV.bool a)], [(34011, w3, .arr eInt.k 3 (eInt.E a2.2))]⟩) (fun a29 w30 h => ?_) (fun a9 w10 st11 h => ?_)
        · exact to_le (s' := ⟨[(1, slE eInt p1), (2, HV.int .i64 p2), (3, HV.fptr [HV.int .i64 p0.1, HV.int .i64 p0.2.1, slE eFromLabelTo p0.2.2] 0), (7, HV.ar 34011 w3 eInt.k 0 ((a2.2).length)), (8, HV.int .i64 a2.1), (9, HV.bool false), (10, HV.int .i64 0)], [(34011, w3, .arr eInt.k 3 (eInt.E a2.2))]⟩) (AS.le_of ⟨rfl, rfl, rfl, rfl, rfl, rfl, rfl, trivial⟩ ⟨rfl, trivial⟩) ⟨(), rfl⟩
        · refine AW.rgs rfl fun K hK => ?_
          refine mv rfl rfl ?_
          refine b_nil (hK _ (AW.to (to_le (s' := ⟨[(1, slE eInt p1), (2, HV.int .i64 p2), (3, HV.fptr [HV.int .i64 p0.1, HV.int .i64 p0.2.1, slE eFromLabelTo p0.2.2] 0), (7, HV.ar 34011 w3 eInt.k 0 ((a2.2).length)), (8, HV.int .i64 a2.1), (53, HV.bool a29)], [(34011, w3, .arr eInt.k 3 (eInt.E a2.2))]⟩) (AS.le_of ⟨rfl, rfl, rfl, rfl, rfl, rfl, trivial⟩ ⟨rfl, trivial⟩) ?_)))
          clear hK K
          refine AW.cond rfl (fun hc => ?_) (fun hc => ?_)
          · have h := ifT hc h
            refine AW.rg rfl fun K hK => ?_
            refine mv rfl rfl ?_
            refine mv rfl rfl ?_
            refine b_op rfl (o_bsl rfl rfl (as_of (cs := [HV.int .i64 a2.1]) ty25 ty3 rfl rfl rfl rfl rfl) ?_)
            obtain ⟨h32, h⟩ := ifN h
            refine b_op rfl (o_appE eInt (l := a2.2) (m := [a2.1]) rfl rfl ty25 ty25 ty3 rfl rfl rfl rfl rfl h32 (fun v31 => ?_))
            refine mv rfl rfl ?_
            refine b_nil (hK _ ?_)
            clear hK K
            exact to_le (s' := ⟨[(1, slE eInt p1), (2, HV.int .i64 p2), (3, HV.fptr [HV.int .i64 p0.1, HV.int .i64 p0.2.1, slE eFromLabelTo p0.2.2] 0), (7, HV.ar 34011 v31 eInt.k 0 ((a2.2 ++ [a2.1]).length)), (8, HV.int .i64 a2.1)], [(34011, v31, .arr eInt.k 3 (eInt.E (a2.2 ++ [a2.1])))]⟩) (AS.le_of ⟨rfl, rfl, rfl, rfl, rfl, trivial⟩ ⟨rfl, trivial⟩) ⟨a2.2 ++ [a2.1], v31, h, rfl⟩
          · have h := ifF (bF' hc) h
            refine AW.skip ?_
            exact to_le (s' := ⟨[(1, slE eInt p1), (2, HV.int .i64 p2), (3, HV.fptr [HV.int .i64 p0.1, HV.int .i64 p0.2.1, slE eFromLabelTo p0.2.2] 0), (7, HV.ar 34011 w3 eInt.k 0 ((a2.2).length)), (8, HV.int .i64 a2.1)], [(34011, w3, .arr eInt.k 3 (eInt.E a2.2))]⟩) (AS.le_of ⟨rfl, rfl, rfl, rfl, rfl, trivial⟩ ⟨rfl, trivial⟩) ⟨a2.2, w3, h, rfl⟩
        · refine AW.seq ?_
          refine AW.rgs rfl fun K hK => ?_
          refine mv rfl rfl ?_
          refine bv rfl (v_fieldAddrF fo24_2 rfl) ?_
          refine bv rfl (v_loadF ty22 rfl (l_lit rfl rfl)) ?_
          refine bv rfl (v_lenF rfl rfl ty22 rfl) ?_
          refine bv rfl (v_bin rfl rfl b_lss) ?_
          refine b_nil (hK _ (AW.to (to_le (s' := ⟨[(1, slE eInt p1), (2, HV.int .i64 p2), (3, HV.fptr [HV.int .i64 p0.1, HV.int .i64 p0.2.1, slE eFromLabelTo p0.2.2] 0), (7, HV.ar 34011 w3 eInt.k 0 ((a2.2).length)), (8, HV.int .i64 a2.1), (9, HV.bool a9.1), (10, HV.int .i64 a9.2), (22, HV.bool (decide (a9.2 < ((p0.2.2).length : Int))))], [(34011, w3, .arr eInt.k 3 (eInt.E a2.2))]⟩) (AS.le_of ⟨rfl, rfl, rfl, rfl, rfl, rfl, rfl, rfl, trivial⟩ ⟨rfl, trivial⟩) ?_)))
          clear hK K
          refine AW.cond rfl (fun hc => ?_) (fun hc => ?_)
          · have hc := of_decide_eq_true hc
            have h := ifT hc h
            refine AW.skip ?_
            refine AW.seqJ h (S := Bool) (V := Unit) (fun a v => ⟨[(1, slE eInt p1), (2, HV.int .i64 p2), (3, HV.fptr [HV.int .i64 p0.1, HV.int .i64 p0.2.1, slE eFromLabelTo p0.2.2] 0), (7, HV.ar 34011 w3 eInt.k 0 ((a2.2).length)), (8, HV.int .i64 a2.1), (9, HV.bool a), (10, HV.int .i64 a9.2)], [(34011, w3, .arr eInt.k 3 (eInt.E a2.2))]⟩) (fun a13 w14 h => ?_) (fun k15 h => ?_)
            · refine AW.rg rfl fun K hK => ?_
              refine mv rfl rfl ?_
              refine bv rfl (v_bin rfl rfl b_add) ?_
              refine mv rfl rfl ?_
              refine b_nil (hK _ ?_)
              clear hK K
              exact to_le (s' := ⟨[(1, slE eInt p1), (2, HV.int .i64 p2), (3, HV.fptr [HV.int .i64 p0.1, HV.int .i64 p0.2.1, slE eFromLabelTo p0.2.2] 0), (7, HV.ar 34011 w3 eInt.k 0 ((a2.2).length)), (8, HV.int .i64 a2.1), (9, HV.bool a13), (10, HV.int .i64 (IntKind.wrap .i64 (a9.2 + 1)))], [(34011, w3, .arr eInt.k 3 (eInt.E a2.2))]⟩) (AS.le_of ⟨rfl, rfl, rfl, rfl, rfl, rfl, rfl, trivial⟩ ⟨rfl, trivial⟩) ⟨(a13, IntKind.wrap .i64 (a9.2 + 1)), (), h, rfl⟩
            · refine AW.block ?_
              refine AW.seqJ h (S := Bool) (V := Unit) (fun a v => ⟨[(1, slE eInt p1), (2, HV.int .i64 p2), (3, HV.fptr [HV.int .i64 p0.1, HV.int .i64 p0.2.1, slE eFromLabelTo p0.2.2] 0), (7, HV.ar 34011 w3 eInt.k 0 ((a2.2).length)), (8, HV.int .i64 a2.1), (9, HV.bool a9.1), (10, HV.int .i64 a9.2), (52, HV.bool a)], [(34011, w3, .arr eInt.k 3 (eInt.E a2.2))]⟩) (fun a16 w17 h => ?_) (fun k18 h => ?_)
              · refine AW.cond rfl (fun hc => ?_) (fun hc => ?_)
                · have h := ifT hc h
                  refine AW.rg rfl fun K hK => ?_
                  refine mv rfl rfl ?_
                  refine b_nil (hK _ ?_)
                  clear hK K
                  exact to_le (s' := ⟨[(1, slE eInt p1), (2, HV.int .i64 p2), (3, HV.fptr [HV.int .i64 p0.1, HV.int .i64 p0.2.1, slE eFromLabelTo p0.2.2] 0), (7, HV.ar 34011 w3 eInt.k 0 ((a2.2).length)), (8, HV.int .i64 a2.1), (9, HV.bool true), (10, HV.int .i64 a9.2)], [(34011, w3, .arr eInt.k 3 (eInt.E a2.2))]⟩) (AS.le_of ⟨rfl, rfl, rfl, rfl, rfl, rfl, rfl, trivial⟩ ⟨rfl, trivial⟩) ⟨true, (), h, rfl⟩
                · have h := ifF (bF' hc) h
                  refine AW.skip ?_
                  exact to_le (s' := ⟨[(1, slE eInt p1), (2, HV.int .i64 p2), (3, HV.fptr [HV.int .i64 p0.1, HV.int .i64 p0.2.1, slE eFromLabelTo p0.2.2] 0), (7, HV.ar 34011 w3 eInt.k 0 ((a2.2).length)), (8, HV.int .i64 a2.1), (9, HV.bool a9.1), (10, HV.int .i64 a9.2)], [(34011, w3, .arr eInt.k 3 (eInt.E a2.2))]⟩) (AS.le_of ⟨rfl, rfl, rfl, rfl, rfl, rfl, rfl, trivial⟩ ⟨rfl, trivial⟩) ⟨a9.1, (), h, rfl⟩
              · refine AW.rg rfl fun K hK => ?_
                refine bv rfl (v_fieldAddrF fo24_2 rfl) ?_
                refine bv rfl (v_loadF ty22 rfl (l_lit rfl rfl)) ?_
                refine mv rfl rfl ?_
                obtain ⟨x19, h20, h⟩ := bS h
                refine bv rfl (v_idxF ty22 es22 rfl rfl (idx_lt h20)) ?_
                refine bv rfl (v_fieldAddrF fo68_2 rfl) ?_
                refine bv rfl (v_loadF ty3 rfl (l_cell eFromLabelTo h20 (o := 2) rfl rfl)) ?_
                refine mv rfl rfl ?_
                refine bv rfl (v_bin rfl rfl b_eql) ?_
                refine mv rfl rfl ?_
                by_cases hg28 : x19.2.2 = a2.1
                · have h := ifT hg28 h
                  refine b_T rfl rfl rfl rfl (decide_eq_true hg28) (o_val rfl (v_fieldAddrF fo24_2 rfl) ?_)
                  refine b_T rfl rfl rfl rfl rfl (o_val rfl (v_loadF ty22 rfl (l_lit rfl rfl)) ?_)
                  refine b_T rfl rfl rfl rfl rfl (o_val rfl (mv_val rfl rfl).2 ?_)
                  obtain ⟨x21, h22, h⟩ := bS h
                  refine b_T rfl rfl rfl rfl rfl (o_val rfl (v_idxF ty22 es22 rfl rfl (idx_lt h22)) ?_)
                  refine b_T rfl rfl rfl rfl rfl (o_val rfl (v_fieldAddrF fo68_1 rfl) ?_)
                  refine b_T rfl rfl rfl rfl rfl (o_val rfl (v_loadF ty3 rfl (l_cell eFromLabelTo h22 (o := 1) rfl rfl)) ?_)
                  refine b_T rfl rfl rfl rfl rfl (o_val rfl (mv_val rfl rfl).2 ?_)
                  refine b_T rfl rfl rfl rfl rfl (o_val rfl (v_bin rfl rfl b_eql) ?_)
                  refine bv rfl (v_pickT rfl rfl rfl) ?_
                  refine mv rfl rfl ?_
                  by_cases hg27 : x21.2.1 = p2
                  · have h := ifT hg27 h
                    refine b_T rfl rfl rfl rfl (decide_eq_true hg27) (o_val rfl (mv_val rfl rfl).2 ?_)
                    refine b_T rfl rfl rfl rfl rfl (o_val rfl (v_fieldAddrF fo24_2 rfl) ?_)
                    refine b_T rfl rfl rfl rfl rfl (o_val rfl (v_loadF ty22 rfl (l_lit rfl rfl)) ?_)
                    refine b_T rfl rfl rfl rfl rfl (o_val rfl (mv_val rfl rfl).2 ?_)
                    obtain ⟨x23, h24, h⟩ := bS h
                    refine b_T rfl rfl rfl rfl rfl (o_val rfl (v_idxF ty22 es22 rfl rfl (idx_lt h24)) ?_)
                    refine b_T rfl rfl rfl rfl rfl (o_val rfl (v_fieldAddrF fo68_0 rfl) ?_)
                    refine b_T rfl rfl rfl rfl rfl (o_val rfl (v_loadF ty3 rfl (l_cell eFromLabelTo h24 (o := 0) rfl rfl)) ?_)
                    obtain ⟨x25, h26, h⟩ := bS h
                    refine b_T rfl rfl rfl rfl rfl (o_call rfl rfl rfl rfl (ACallD.pure0 (w_ref11_has h26)) ?_)
                    refine bv rfl (v_pickT rfl rfl rfl) ?_
                    refine b_nil (hK _ ?_)
                    clear hK K
                    exact to_le (s' := ⟨[(1, slE eInt p1), (2, HV.int .i64 p2), (3, HV.fptr [HV.int .i64 p0.1, HV.int .i64 p0.2.1, slE eFromLabelTo p0.2.2] 0), (7, HV.ar 34011 w3 eInt.k 0 ((a2.2).length)), (8, HV.int .i64 a2.1), (9, HV.bool a9.1), (10, HV.int .i64 a9.2), (52, HV.bool x25)], [(34011, w3, .arr eInt.k 3 (eInt.E a2.2))]⟩) (AS.le_of ⟨rfl, rfl, rfl, rfl, rfl, rfl, rfl, rfl, trivial⟩ ⟨rfl, trivial⟩) ⟨x25, (), h, rfl⟩
                  · have h := ifF hg27 h
                    refine b_F rfl rfl rfl rfl rfl (decide_eq_false hg27) ?_
                    refine b_F rfl rfl rfl rfl rfl rfl ?_
                    refine b_F rfl rfl rfl rfl rfl rfl ?_
                    refine b_F rfl rfl rfl rfl rfl rfl ?_
                    refine b_F rfl rfl rfl rfl rfl rfl ?_
                    refine b_F rfl rfl rfl rfl rfl rfl ?_
                    refine b_F rfl rfl rfl rfl rfl rfl ?_
                    refine b_F rfl rfl rfl rfl rfl rfl ?_
                    refine bv rfl (v_pickF rfl rfl rfl) ?_
                    refine b_nil (hK _ ?_)
                    clear hK K
                    exact to_le (s' := ⟨[(1, slE eInt p1), (2, HV.int .i64 p2), (3, HV.fptr [HV.int .i64 p0.1, HV.int .i64 p0.2.1, slE eFromLabelTo p0.2.2] 0), (7, HV.ar 34011 w3 eInt.k 0 ((a2.2).length)), (8, HV.int .i64 a2.1), (9, HV.bool a9.1), (10, HV.int .i64 a9.2), (52, HV.bool false)], [(34011, w3, .arr eInt.k 3 (eInt.E a2.2))]⟩) (AS.le_of ⟨rfl, rfl, rfl, rfl, rfl, rfl, rfl, rfl, trivial⟩ ⟨rfl, trivial⟩) ⟨false, (), h, rfl⟩
                · have h := ifF hg28 h
                  refine b_F rfl rfl rfl rfl rfl (decide_eq_false hg28) ?_
                  refine b_F rfl rfl rfl rfl rfl rfl ?_
                  refine b_F rfl rfl rfl rfl rfl rfl ?_
                  refine b_F rfl rfl rfl rfl rfl rfl ?_
                  refine b_F rfl rfl rfl rfl rfl rfl ?_
                  refine b_F rfl rfl rfl rfl rfl rfl ?_
                  refine b_F rfl rfl rfl rfl rfl rfl ?_
                  refine b_F rfl rfl rfl rfl rfl rfl ?_
                  refine bv rfl (v_pickF rfl rfl rfl) ?_
                  refine mv rfl rfl ?_
                  refine b_F rfl rfl rfl rfl rfl rfl ?_
                  refine b_F rfl rfl rfl rfl rfl rfl ?_
                  refine b_F rfl rfl rfl rfl rfl rfl ?_
                  refine b_F rfl rfl rfl rfl rfl rfl ?_
                  refine b_F rfl rfl rfl rfl rfl rfl ?_
                  refine b_F rfl rfl rfl rfl rfl rfl ?_
                  refine b_F rfl rfl rfl rfl rfl rfl ?_
                  refine b_F rfl rfl rfl rfl rfl rfl ?_
                  refine bv rfl (v_pickF rfl rfl rfl) ?_
                  refine b_nil (hK _ ?_)
                  clear hK K
                  exact to_le (s' := ⟨[(1, slE eInt p1), (2, HV.int .i64 p2), (3, HV.fptr [HV.int .i64 p0.1, HV.int .i64 p0.2.1, slE eFromLabelTo p0.2.2] 0), (7, HV.ar 34011 w3 eInt.k 0 ((a2.2).length)), (8, HV.int .i64 a2.1), (9, HV.bool a9.1), (10, HV.int .i64 a9.2), (52, HV.bool false)], [(34011, w3, .arr eInt.k 3 (eInt.E a2.2))]⟩) (AS.le_of ⟨rfl, rfl, rfl, rfl, rfl, rfl, rfl, rfl, trivial⟩ ⟨rfl, trivial⟩) ⟨false, (), h, rfl⟩
          · have hc := of_decide_eq_false hc
            have h := ifF hc h
            refine AW.exit ?_
            exact to_le (s' := ⟨[(1, slE eInt p1), (2, HV.int .i64 p2), (3, HV.fptr [HV.int .i64 p0.1, HV.int .i64 p0.2.1, slE eFromLabelTo p0.2.2] 0), (7, HV.ar 34011 w3 eInt.k 0 ((a2.2).length)), (8, HV.int .i64 a2.1), (9, HV.bool a9.1)], [(34011, w3, .arr eInt.k 3 (eInt.E a2.2))]⟩) (AS.le_of ⟨rfl, rfl, rfl, rfl, rfl, rfl, trivial⟩ ⟨rfl, trivial⟩) ⟨a9.1, (), h, rfl⟩
    · have hc := of_decide_eq_false hc
      have h := ifF hc h
      refine AW.exit ?_
      exact to_le (s' := ⟨[(7, HV.ar 34011 w3 eInt.k 0 ((a2.2).length))], [(34011, w3, .arr eInt.k 3 (eInt.E a2.2))]⟩) (AS.le_of ⟨rfl, trivial⟩ ⟨rfl, trivial⟩) ⟨a2.2, w3, h, rfl⟩

set_option maxHeartbeats 1600000 in
set_option maxRecDepth 100000 in
theorem w_ref11_ends {p0 : TLabelsStatesEdges} {p1 : List (Int)} {p2 : List UInt8} {r : (List (Int))} (h : m_ref11_ends p0 p1 p2 = some r) : Pure Tryz.prog 27 [HV.agg [HV.int .i64 p0.1, HV.int .i64 p0.2.1, slE eFromLabelTo p0.2.2], slE eInt p1, HV.str p2] (· = slE eInt r) := by
  unfold m_ref11_ends at h
  refine Pure.of_body Tryz.func27 rfl rfl (Nat.le_of_ble_eq_true rfl) fun hf => ?_
  unfold Tryz.f27
  dsimp only [enumS, Nat.reduceAdd]
  refine AW.rgs rfl fun K hK => ?_
  refine b_op rfl (o_box rfl rfl rfl ?_)
  refine mv rfl rfl ?_
  refine b_nil (hK _ (AW.to (to_le (s' := ⟨[(1, slE eInt p1), (2, HV.str p2), (3, HV.fptr [HV.int .i64 p0.1, HV.int .i64 p0.2.1, slE eFromLabelTo p0.2.2] 0)], []⟩) (AS.le_of ⟨rfl, rfl, rfl, trivial⟩ trivial) ?_)))
  clear hK K
  refine AW.seq ?_
  refine AW.rgs rfl fun K hK => ?_
  refine mv rfl rfl ?_
  refine b_nil (hK _ (AW.to (to_le (s' := ⟨[(1, slE eInt p1), (2, HV.str p2), (3, HV.fptr [HV.int .i64 p0.1, HV.int .i64 p0.2.1, slE eFromLabelTo p0.2.2] 0), (7, HV.int .i64 0)], []⟩) (AS.le_of ⟨rfl, rfl, rfl, rfl, trivial⟩ trivial) ?_)))
  clear hK K
  refine AW.lpX h (by first | exact up_then | exact up_to) (S := (List Int) × Int) (V := Unit) (fun a v => ⟨[(1, slE eInt a.1), (2, HV.str p2), (3, HV.fptr [HV.int .i64 p0.1, HV.int .i64 p0.2.1, slE eFromLabelTo p0.2.2] 0), (7, HV.int .i64 a.2)], []⟩) ?_ (X := (List Int)) (W := Unit) (fun a v => ⟨[(1, slE eInt a)], []⟩) (fun a11 w12 h => ?_) (fun a1 w2 st3 h => ?_)
  · exact to_le (s' := ⟨[(1, slE eInt p1), (2, HV.str p2), (3, HV.fptr [HV.int .i64 p0.1, HV.int .i64 p0.2.1, slE eFromLabelTo p0.2.2] 0), (7, HV.int .i64 0)], []⟩) (AS.le_of ⟨rfl, rfl, rfl, rfl, trivial⟩ trivial) ⟨(), rfl⟩
  · refine AW.rgs rfl fun K hK => ?_
    refine mv rfl rfl ?_
    refine mv rfl rfl ?_
    refine b_nil (hK _ (AW.to (to_le (s' := ⟨[(6, slE eInt a11)], []⟩) (AS.le_of ⟨rfl, trivial⟩ trivial) ?_)))
    clear hK K
    refine AW.ret ?_
    have h := Option.some.inj h
    subst h
    exact ret_pure (hs := [slE eInt a11]) (q := slE eInt a11) (.inr rfl) (resT rfl rfl) rfl (clean_slE fun _ _ => ⟨trivial, trivial⟩)
  · refine AW.seq ?_
    refine AW.rgs rfl fun K hK => ?_
    refine mv rfl rfl ?_
    refine mv rfl rfl ?_
    refine bv rfl (v_lenS rfl rfl ty9 rfl) ?_
    refine bv rfl (v_bin rfl rfl b_lss) ?_
    refine b_nil (hK _ (AW.to (to_le (s' := ⟨[(1, slE eInt a1.1), (2, HV.str p2), (3, HV.fptr [HV.int .i64 p0.1, HV.int .i64 p0.2.1, slE eFromLabelTo p0.2.2] 0), (7, HV.int .i64 a1.2), (11, HV.bool (decide (a1.2 < ((p2).length : Int))))], []⟩) (AS.le_of ⟨rfl, rfl, rfl, rfl, rfl, trivial⟩ trivial) ?_)))
    clear hK K
    refine AW.cond rfl (fun hc => ?_) (fun hc => ?_)
    · have hc := of_decide_eq_true hc
      have h := ifT hc h
      refine AW.skip ?_
      refine AW.seq (AW.block ?_)
      refine AW.dg 8 follows rfl rfl fun K hK => ?_
      refine sv rfl (v_loadF ty24 rfl (l_litA rfl (Nat.le_of_ble_eq_true rfl) rfl)) ?_
      refine sm rfl rfl ?_
      refine sm rfl rfl ?_
      refine sm rfl rfl ?_
      obtain ⟨x5, h6, h⟩ := bS h
      refine sv rfl (v_idxS ty9 rfl rfl h6) ?_
      obtain ⟨x7, h8, h⟩ := bS h
      refine s_op rfl rfl (ops_call rfl rfl rfl rfl (ACallD.pure0 (w_ref07_Digit h8)) ?_)
      obtain ⟨x9, h10, h⟩ := bS h
      refine s_op rfl rfl (ops_call rfl rfl rfl rfl (ACallD.pure0 (w_ref11_Step h10)) ?_)
      refine sm rfl rfl ?_
      refine s_nil ?_
      refine b_nil (hK _ (AW.to (to_le (s' := ⟨[(1, slE eInt x9), (2, HV.str p2), (3, HV.fptr [HV.int .i64 p0.1, HV.int .i64 p0.2.1, slE eFromLabelTo p0.2.2] 0), (7, HV.int .i64 a1.2)], []⟩) (AS.le_of ⟨rfl, rfl, rfl, rfl, trivial⟩ trivial) ?_)))
      clear hK K
      refine AW.rg rfl fun K hK => ?_
      refine mv rfl rfl ?_
      refine bv rfl (v_bin rfl rfl b_add) ?_
      refine mv rfl rfl ?_
      refine b_nil (hK _ ?_)
      clear hK K
      exact to_le (s' := ⟨[(1, slE eInt x9), (2, HV.str p2), (3, HV.fptr [HV.int .i64 p0.1, HV.int .i64 p0.2.1, slE eFromLabelTo p0.2.2] 0), (7, HV.int .i64 (IntKind.wrap .i64 (a1.2 + 1)))], []⟩) (AS.le_of ⟨rfl, rfl, rfl, rfl, trivial⟩ trivial) ⟨(x9, IntKind.wrap .i64 (a1.2 + 1)), (), h, rfl⟩
    · have hc := of_decide_eq_false hc
      have h := ifF hc h
      refine AW.exit ?_
      exact to_le (s' := ⟨[(1, slE eInt a1.1)], []⟩) (AS.le_of ⟨rfl, trivial⟩ trivial) ⟨a1.1, (), h, rfl⟩

set_option maxHeartbeats 1600000 in
set_option maxRecDepth 100000 in
theorem w_ref11_All {p0 : TLabelsStatesEdges} {r : (List (Int))} (h : m_ref11_All p0 = some r) : Pure Tryz.prog 28 [HV.agg [HV.int .i64 p0.1, HV.int .i64 p0.2.1, slE eFromLabelTo p0.2.2]] (· = slE eInt r) := by
  unfold m_ref11_All at h
  refine Pure.of_body Tryz.func28 rfl rfl (Nat.le_of_ble_eq_true rfl) fun hf => ?_
  unfold Tryz.f28
  dsimp only [enumS, Nat.reduceAdd]
  refine AW.rgs rfl fun K hK => ?_
  refine b_op rfl (o_box rfl rfl rfl ?_)
  refine mv rfl rfl ?_
  refine b_nil (hK _ (AW.to (to_le (s' := ⟨[(1, HV.fptr [HV.int .i64 p0.1, HV.int .i64 p0.2.1, slE eFromLabelTo p0.2.2] 0)], []⟩) (AS.le_of ⟨rfl, trivial⟩ trivial) ?_)))
  clear hK K
  refine AW.rgs rfl fun K hK => ?_
  refine b_op rfl (o_bslM (fid := 28) 28005 rfl rfl rfl (as_of (cs := []) ty25 ty3 rfl rfl rfl rfl rfl) (fun v1 => ?_))
  refine mv rfl rfl ?_
  refine b_nil (hK _ (AW.to (to_le (s' := ⟨[(1, HV.fptr [HV.int .i64 p0.1, HV.int .i64 p0.2.1, slE eFromLabelTo p0.2.2] 0), (3, HV.ar 28005 v1 eInt.k 0 0)], [(28005, v1, .arr eInt.k 3 [])]⟩) (AS.le_of ⟨rfl, rfl, trivial⟩ ⟨rfl, trivial⟩) ?_)))
  clear hK K
  refine AW.seq ?_
  refine AW.rgs rfl fun K hK => ?_
  refine mv rfl rfl ?_
  refine b_nil (hK _ (AW.to (to_le (s' := ⟨[(1, HV.fptr [HV.int .i64 p0.1, HV.int .i64 p0.2.1, slE eFromLabelTo p0.2.2] 0), (3, HV.ar 28005 v1 eInt.k 0 0), (4, HV.int .i64 0)], [(28005, v1, .arr eInt.k 3 [])]⟩) (AS.le_of ⟨rfl, rfl, rfl, trivial⟩ ⟨rfl, trivial⟩) ?_)))
  clear hK K
  refine AW.lpX h (by first | exact up_then | exact up_to) (S := Int × (List Int)) (V := Nat) (fun a v => ⟨[(1, HV.fptr [HV.int .i64 p0.1, HV.int .i64 p0.2.1, slE eFromLabelTo p0.2.2] 0), (3, HV.ar 28005 v eInt.k 0 ((a.2).length)), (4, HV.int .i64 a.1)], [(28005, v, .arr eInt.k 3 (eInt.E a.2))]⟩) ?_ (X := (List Int)) (W := Nat) (fun a v => ⟨[(3, HV.ar 28005 v eInt.k 0 ((a).length))], [(28005, v, .arr eInt.k 3 (eInt.E a))]⟩) (fun a8 w9 h => ?_) (fun a2 w3 st4 h => ?_)
  · exact to_le (s' := ⟨[(1, HV.fptr [HV.int .i64 p0.1, HV.int .i64 p0.2.1, slE eFromLabelTo p0.2.2] 0), (3, HV.ar 28005 v1 eInt.k 0 0), (4, HV.int .i64 0)], [(28005, v1, .arr eInt.k 3 [])]⟩) (AS.le_of ⟨rfl, rfl, rfl, trivial⟩ ⟨rfl, trivial⟩) ⟨v1, rfl⟩
  · refine AW.rgs rfl fun K hK => ?_
    refine mv rfl rfl ?_
    refine mv rfl rfl ?_
    refine b_nil (hK _ (AW.to (to_le (s' := ⟨[(2, HV.ar 28005 w9 eInt.k 0 ((a8).length))], [(28005, w9, .arr eInt.k 3 (eInt.E a8))]⟩) (AS.le_of ⟨rfl, trivial⟩ ⟨rfl, trivial⟩) ?_)))
    clear hK K
    refine AW.to (to_frz 2 [(28005, w9, .arr eInt.k 3 (eInt.E a8))] ⟨[(2, slE eInt a8)], []⟩ ⟨⟨_, rfl, frz_slE eInt (l := a8) rfl fun _ _ => rfl⟩, trivial⟩ trivial ⟨rfl, trivial⟩ ⟨rfl, trivial⟩ ?_)
    refine AW.ret ?_
    have h := Option.some.inj h
    subst h
    exact ret_pure (hs := [slE eInt a8]) (q := slE eInt a8) (.inr rfl) (resT rfl rfl) rfl (clean_slE fun _ _ => ⟨trivial, trivial⟩)
  · refine AW.seq ?_
    refine AW.rgs rfl fun K hK => ?_
    refine mv rfl rfl ?_
    refine bv rfl (v_fieldAddrF fo24_1 rfl) ?_
    refine bv rfl (v_loadF ty3 rfl (l_lit rfl rfl)) ?_
    refine bv rfl (v_bin rfl rfl b_lss) ?_
    refine b_nil (hK _ (AW.to (to_le (s' := ⟨[(1, HV.fptr [HV.int .i64 p0.1, HV.int .i64 p0.2.1, slE eFromLabelTo p0.2.2] 0), (3, HV.ar 28005 w3 eInt.k 0 ((a2.2).length)), (4, HV.int .i64 a2.1), (9, HV.bool (decide (a2.1 < p0.2.1)))], [(28005, w3, .arr eInt.k 3 (eInt.E a2.2))]⟩) (AS.le_of ⟨rfl, rfl, rfl, rfl, trivial⟩ ⟨rfl, trivial⟩) ?_)))
    clear hK K
    refine AW.cond rfl (fun hc => ?_) (fun hc => ?_)
    · have hc := of_decide_eq_true hc
      have h := ifT hc h
      refine AW.skip ?_
      refine AW.seq (AW.block ?_)
      refine AW.rg rfl fun K hK => ?_
      refine mv rfl rfl ?_
      refine mv rfl rfl ?_
      refine b_op rfl (o_bsl rfl rfl (as_of (cs := [HV.int .i64 a2.1]) ty25 ty3 rfl rfl rfl rfl rfl) ?_)
      obtain ⟨h7, h⟩ := ifN h
      refine b_op rfl (o_appE eInt (l := a2.2) (m := [a2.1]) rfl rfl ty25 ty25 ty3 rfl rfl rfl rfl rfl h7 (fun v6 => ?_))
      refine mv rfl rfl ?_
      refine b_nil (hK _ (AW.to (to_le (s' := ⟨[(1, HV.fptr [HV.int .i64 p0.1, HV.int .i64 p0.2.1, slE eFromLabelTo p0.2.2] 0), (3, HV.ar 28005 v6 eInt.k 0 ((a2.2 ++ [a2.1]).length)), (4, HV.int .i64 a2.1)], [(28005, v6, .arr eInt.k 3 (eInt.E (a2.2 ++ [a2.1])))]⟩) (AS.le_of ⟨rfl, rfl, rfl, trivial⟩ ⟨rfl, trivial⟩) ?_)))
      clear hK K
      refine AW.rg rfl fun K hK => ?_
      refine mv rfl rfl ?_
      refine bv rfl (v_bin rfl rfl b_add) ?_
      refine mv rfl rfl ?_
      refine b_nil (hK _ ?_)
      clear hK K
      exact to_le (s' := ⟨[(1, HV.fptr [HV.int .i64 p0.1, HV.int .i64 p0.2.1, slE eFromLabelTo p0.2.2] 0), (3, HV.ar 28005 v6 eInt.k 0 ((a2.2 ++ [a2.1]).length)), (4, HV.int .i64 (IntKind.wrap .i64 (a2.1 + 1)))], [(28005, v6, .arr eInt.k 3 (eInt.E (a2.2 ++ [a2.1])))]⟩) (AS.le_of ⟨rfl, rfl, rfl, trivial⟩ ⟨rfl, trivial⟩) ⟨(IntKind.wrap .i64 (a2.1 + 1), a2.2 ++ [a2.1]), v6, h, rfl⟩
    · have hc := of_decide_eq_false hc
      have h := ifF hc h
      refine AW.exit ?_
      exact to_le (s' := ⟨[(3, HV.ar 28005 w3 eInt.k 0 ((a2.2).length))], [(28005, w3, .arr eInt.k 3 (eInt.E a2.2))]⟩) (AS.le_of ⟨rfl, trivial⟩ ⟨rfl, trivial⟩) ⟨a2.2, w3, h, rfl⟩

set_option maxHeartbeats 1600000 in
set_option maxRecDepth 100000 in
theorem w_ref11_Accepts {p0 : TLabelsStatesEdges} {p1 : List UInt8} {r : Bool × Int} (h : m_ref11_Accepts p0 p1 = some r) : Pure Tryz.prog 7 [HV.agg [HV.int .i64 p0.1, HV.int .i64 p0.2.1, slE eFromLabelTo p0.2.2], HV.str p1] (· = HV.tup [HV.bool r.1, HV.int .i64 r.2]) := by
  unfold m_ref11_Accepts at h
  refine Pure.of_body Tryz.func7 rfl rfl (Nat.le_of_ble_eq_true rfl) fun hf => ?_
  unfold Tryz.f7
  dsimp only [enumS, Nat.reduceAdd]
  refine AW.rgs rfl fun K hK => ?_
  refine b_op rfl (o_box rfl rfl rfl ?_)
  refine mv rfl rfl ?_
  refine mv rfl rfl ?_
  refine b_nil (hK _ (AW.to (to_le (s' := ⟨[(1, HV.str p1), (2, HV.fptr [HV.int .i64 p0.1, HV.int .i64 p0.2.1, slE eFromLabelTo p0.2.2] 0)], []⟩) (AS.le_of ⟨rfl, rfl, trivial⟩ trivial) ?_)))
  clear hK K
  refine AW.seq ?_
  refine AW.rgs rfl fun K hK => ?_
  refine bv rfl (v_loadF ty24 rfl (l_litA rfl (Nat.le_of_ble_eq_true rfl) rfl)) ?_
  refine mv rfl rfl ?_
  obtain ⟨x1, h2, h⟩ := bS h
  refine b_op rfl (o_call rfl rfl rfl rfl (ACallD.pure0 (w_ref11_checkWord h2)) ?_)
  refine mv rfl rfl ?_
  refine b_nil (hK _ (AW.to (to_le (s' := ⟨[(1, HV.str p1), (2, HV.fptr [HV.int .i64 p0.1, HV.int .i64 p0.2.1, slE eFromLabelTo p0.2.2] 0), (6, HV.int .i64 x1)], []⟩) (AS.le_of ⟨rfl, rfl, rfl, trivial⟩ trivial) ?_)))
  clear hK K
  refine AW.rgs rfl fun K hK => ?_
  refine mv rfl rfl ?_
  refine bv rfl (v_bin rfl rfl b_neq) ?_
  refine b_nil (hK _ (AW.to (to_le (s' := ⟨[(1, HV.str p1), (2, HV.fptr [HV.int .i64 p0.1, HV.int .i64 p0.2.1, slE eFromLabelTo p0.2.2] 0), (6, HV.int .i64 x1), (11, HV.bool (decide (x1 ≠ 0)))], []⟩) (AS.le_of ⟨rfl, rfl, rfl, rfl, trivial⟩ trivial) ?_)))
  clear hK K
  refine AW.cond rfl (fun hc => ?_) (fun hc => ?_)
  · have hc := of_decide_eq_true hc
    have h := ifT hc h
    refine AW.rgs rfl fun K hK => ?_
    refine mv rfl rfl ?_
    refine mv rfl rfl ?_
    refine mv rfl rfl ?_
    refine b_nil (hK _ (AW.to (to_le (s' := ⟨[(4, HV.bool false), (5, HV.int .i64 x1)], []⟩) (AS.le_of ⟨rfl, rfl, trivial⟩ trivial) ?_)))
    clear hK K
    refine AW.ret ?_
    have h := Option.some.inj h
    subst h
    exact ret_pure (hs := [HV.bool false, HV.int .i64 x1]) (q := HV.tup [HV.bool false, HV.int .i64 x1]) (.inr rfl) (resT rfl (resT rfl rfl)) rfl ⟨trivial, trivial, trivial⟩
  · have hc := of_decide_eq_false hc
    have h := ifF hc h
    refine AW.skip ?_
    refine AW.dgs 9 follows rfl rfl fun K hK => ?_
    refine sv rfl (v_loadF ty24 rfl (l_litA rfl (Nat.le_of_ble_eq_true rfl) rfl)) ?_
    refine sv rfl (v_loadF ty24 rfl (l_litA rfl (Nat.le_of_ble_eq_true rfl) rfl)) ?_
    obtain ⟨x3, h4, h⟩ := bS h
    refine s_op rfl rfl (ops_call rfl rfl rfl rfl (ACallD.pure0 (w_ref11_All h4)) ?_)
    refine sm rfl rfl ?_
    obtain ⟨x5, h6, h⟩ := bS h
    refine s_op rfl rfl (ops_call rfl rfl rfl rfl (ACallD.pure0 (w_ref11_ends h6)) ?_)
    refine sv rfl (v_lenF rfl rfl ty25 rfl) ?_
    refine sv rfl (v_bin rfl rfl b_gtr) ?_
    refine sm rfl rfl ?_
    refine sm rfl rfl ?_
    refine s_nil ?_
    refine b_nil (hK _ (AW.to (to_le (s' := ⟨[(4, HV.bool (decide (0 < ((x5).length : Int)))), (5, HV.int .i64 0)], []⟩) (AS.le_of ⟨rfl, rfl, trivial⟩ trivial) ?_)))
    clear hK K
    refine AW.ret ?_
    have h := Option.some.inj h
    subst h
    exact ret_pure (hs := [HV.bool (decide (0 < ((x5).length : Int))), HV.int .i64 0]) (q := HV.tup [HV.bool (decide (0 < ((x5).length : Int))), HV.int .i64 0]) (.inr rfl) (resT rfl (resT rfl rfl)) rfl ⟨trivial, trivial, trivial⟩

set_option maxHeartbeats 1600000 in
set_option maxRecDepth 100000 in
theorem w_language_Ends {p0 : TLabelsStatesEdges} {p1 : List (Int)} {p2 : List UInt8} {r : (List (Int)) × Int} (h : m_language_Ends p0 p1 p2 = some r) : Pure Tryz.prog 8 [HV.agg [HV.int .i64 p0.1, HV.int .i64 p0.2.1, slE eFromLabelTo p0.2.2], slE eInt p1, HV.str p2] (· = HV.tup [slE eInt r.1, HV.int .i64 r.2]) := by
  unfold m_language_Ends at h
  refine Pure.of_body Tryz.func8 rfl rfl (Nat.le_of_ble_eq_true rfl) fun hf => ?_
  unfold Tryz.f8
  dsimp only [enumS, Nat.reduceAdd]
  refine AW.rgs rfl fun K hK => ?_
  refine b_op rfl (o_box rfl rfl rfl ?_)
  refine mv rfl rfl ?_
  refine mv rfl rfl ?_
  refine b_nil (hK _ (AW.to (to_le (s' := ⟨[(1, slE eInt p1), (2, HV.str p2), (3, HV.fptr [HV.int .i64 p0.1, HV.int .i64 p0.2.1, slE eFromLabelTo p0.2.2] 0)], []⟩) (AS.le_of ⟨rfl, rfl, rfl, trivial⟩ trivial) ?_)))
  clear hK K
  refine AW.seq ?_
  refine AW.rgs rfl fun K hK => ?_
  refine bv rfl (v_loadF ty24 rfl (l_litA rfl (Nat.le_of_ble_eq_true rfl) rfl)) ?_
  refine mv rfl rfl ?_
  obtain ⟨x1, h2, h⟩ := bS h
  refine b_op rfl (o_call rfl rfl rfl rfl (ACallD.pure0 (w_language_spells h2)) ?_)
  refine mv rfl rfl ?_
  refine b_nil (hK _ (AW.to (to_le (s' := ⟨[(1, slE eInt p1), (2, HV.str p2), (3, HV.fptr [HV.int .i64 p0.1, HV.int .i64 p0.2.1, slE eFromLabelTo p0.2.2] 0), (8, HV.int .i64 x1)], []⟩) (AS.le_of ⟨rfl, rfl, rfl, rfl, trivial⟩ trivial) ?_)))
  clear hK K
  refine AW.rgs rfl fun K hK => ?_
  refine mv rfl rfl ?_
  refine bv rfl (v_bin rfl rfl b_neq) ?_
  refine b_nil (hK _ (AW.to (to_le (s' := ⟨[(1, slE eInt p1), (2, HV.str p2), (3, HV.fptr [HV.int .i64 p0.1, HV.int .i64 p0.2.1, slE eFromLabelTo p0.2.2] 0), (8, HV.int .i64 x1), (17, HV.bool (decide (x1 ≠ 0)))], []⟩) (AS.le_of ⟨rfl, rfl, rfl, rfl, rfl, trivial⟩ trivial) ?_)))
  clear hK K
  refine AW.cond rfl (fun hc => ?_) (fun hc => ?_)
  · have hc := of_decide_eq_true hc
    have h := ifT hc h
    refine AW.rgs rfl fun K hK => ?_
    refine mv rfl rfl ?_
    refine mv rfl rfl ?_
    refine mv rfl rfl ?_
    refine b_nil (hK _ (AW.to (to_le (s' := ⟨[(6, HV.v (.slice none 0 0)), (7, HV.int .i64 x1)], []⟩) (AS.le_of ⟨rfl, rfl, trivial⟩ trivial) ?_)))
    clear hK K
    refine AW.to (to_weak ⟨[(6, slE eInt ([] : List Int)), (7, HV.int .i64 x1)], []⟩ ⟨⟨_, rfl, .nil _⟩, ⟨_, rfl, .refl _⟩, trivial⟩ trivial ?_)
    refine AW.ret ?_
    have h := Option.some.inj h
    subst h
    exact ret_pure (hs := [slE eInt ([] : List Int), HV.int .i64 x1]) (q := HV.tup [slE eInt ([] : List Int), HV.int .i64 x1]) (.inr rfl) (resT rfl (resT rfl rfl)) rfl ⟨(clean_slE fun _ _ => ⟨trivial, trivial⟩), trivial, trivial⟩
  · have hc := of_decide_eq_false hc
    have h := ifF hc h
    refine AW.skip ?_
    refine AW.seq ?_
    refine AW.rgs rfl fun K hK => ?_
    refine mv rfl rfl ?_
    refine bv rfl (v_lenF rfl rfl ty25 rfl) ?_
    refine mv rfl rfl ?_
    refine b_nil (hK _ (AW.to (to_le (s' := ⟨[(1, slE eInt p1), (2, HV.str p2), (3, HV.fptr [HV.int .i64 p0.1, HV.int .i64 p0.2.1, slE eFromLabelTo p0.2.2] 0), (19, slE eInt p1), (20, HV.int .i64 ((p1).length : Int)), (21, HV.int .i64 0)], []⟩) (AS.le_of ⟨rfl, rfl, rfl, rfl, rfl, rfl, trivial⟩ trivial) ?_)))
    clear hK K
    refine AW.lpR h (by first | exact up_then | exact up_to) (S := Int) (V := Unit) (fun a v => ⟨[(1, slE eInt p1), (2, HV.str p2), (3, HV.fptr [HV.int .i64 p0.1, HV.int .i64 p0.2.1, slE eFromLabelTo p0.2.2] 0), (19, slE eInt p1), (20, HV.int .i64 ((p1).length : Int)), (21, HV.int .i64 a)], []⟩) ?_ (X := Unit) (W := Unit) (fun a v => ⟨[(1, slE eInt p1), (2, HV.str p2), (3, HV.fptr [HV.int .i64 p0.1, HV.int .i64 p0.2.1, slE eFromLabelTo p0.2.2] 0)], []⟩) (fun a13 w14 h => ?_) (fun a3 w4 st5 h hr6=> ?_)
    · exact to_le (s' := ⟨[(1, slE eInt p1), (2, HV.str p2), (3, HV.fptr [HV.int .i64 p0.1, HV.int .i64 p0.2.1, slE eFromLabelTo p0.2.2] 0), (19, slE eInt p1), (20, HV.int .i64 ((p1).length : Int)), (21, HV.int .i64 0)], []⟩) (AS.le_of ⟨rfl, rfl, rfl, rfl, rfl, rfl, trivial⟩ trivial) ⟨(), rfl⟩
    · refine AW.seq ?_
      refine AW.rgs rfl fun K hK => ?_
      refine mv rfl rfl ?_
      refine bv rfl (v_lenF rfl rfl ty25 rfl) ?_
      refine mv rfl rfl ?_
      refine b_nil (hK _ (AW.to (to_le (s' := ⟨[(1, slE eInt p1), (2, HV.str p2), (3, HV.fptr [HV.int .i64 p0.1, HV.int .i64 p0.2.1, slE eFromLabelTo p0.2.2] 0), (34, slE eInt p1), (35, HV.int .i64 ((p1).length : Int)), (36, HV.int .i64 0)], []⟩) (AS.le_of ⟨rfl, rfl, rfl, rfl, rfl, rfl, trivial⟩ trivial) ?_)))
      clear hK K
      refine AW.lpR h (by first | exact up_then | exact up_to) (S := Int) (V := Unit) (fun a v => ⟨[(1, slE eInt p1), (2, HV.str p2), (3, HV.fptr [HV.int .i64 p0.1, HV.int .i64 p0.2.1, slE eFromLabelTo p0.2.2] 0), (34, slE eInt p1), (35, HV.int .i64 ((p1).length : Int)), (36, HV.int .i64 a)], []⟩) ?_ (X := Unit) (W := Unit) (fun a v => ⟨[(1, slE eInt p1), (2, HV.str p2), (3, HV.fptr [HV.int .i64 p0.1, HV.int .i64 p0.2.1, slE eFromLabelTo p0.2.2] 0)], []⟩) (fun a27 w28 h => ?_) (fun a15 w16 st17 h hr18=> ?_)
      · exact to_le (s' := ⟨[(1, slE eInt p1), (2, HV.str p2), (3, HV.fptr [HV.int .i64 p0.1, HV.int .i64 p0.2.1, slE eFromLabelTo p0.2.2] 0), (34, slE eInt p1), (35, HV.int .i64 ((p1).length : Int)), (36, HV.int .i64 0)], []⟩) (AS.le_of ⟨rfl, rfl, rfl, rfl, rfl, rfl, trivial⟩ trivial) ⟨(), rfl⟩
      · refine AW.rgs rfl fun K hK => ?_
        refine bv rfl (v_loadF ty24 rfl (l_litA rfl (Nat.le_of_ble_eq_true rfl) rfl)) ?_
        refine mv rfl rfl ?_
        refine mv rfl rfl ?_
        obtain ⟨x29, h30, h⟩ := bS h
        refine b_op rfl (o_call rfl rfl rfl rfl (ACallD.pure0 (w_language_ends h30)) ?_)
        obtain ⟨x31, h32, h⟩ := bS h
        refine b_op rfl (o_call rfl rfl rfl rfl (ACallD.pure0 (w_slices_Clone_Lint_int h32)) ?_)
        refine mv rfl rfl ?_
        refine mv rfl rfl ?_
        refine b_nil (hK _ (AW.to (to_le (s' := ⟨[(6, slE eInt x31), (7, HV.int .i64 0)], []⟩) (AS.le_of ⟨rfl, rfl, trivial⟩ trivial) ?_)))
        clear hK K
        refine AW.ret ?_
        have h := Option.some.inj h
        subst h
        exact ret_pure (hs := [slE eInt x31, HV.int .i64 0]) (q := HV.tup [slE eInt x31, HV.int .i64 0]) (.inr rfl) (resT rfl (resT rfl rfl)) rfl ⟨(clean_slE fun _ _ => ⟨trivial, trivial⟩), trivial, trivial⟩
      · refine AW.rgs rfl fun K hK => ?_
        refine bv rfl (v_bin rfl rfl b_lss) ?_
        refine b_nil (hK _ (AW.to (to_le (s' := ⟨[(1, slE eInt p1), (2, HV.str p2), (3, HV.fptr [HV.int .i64 p0.1, HV.int .i64 p0.2.1, slE eFromLabelTo p0.2.2] 0), (34, slE eInt p1), (35, HV.int .i64 ((p1).length : Int)), (36, HV.int .i64 a15), (37, HV.bool (decide (a15 < ((p1).length : Int))))], []⟩) (AS.le_of ⟨rfl, rfl, rfl, rfl, rfl, rfl, rfl, trivial⟩ trivial) ?_)))
        clear hK K
        refine AW.cseq rfl (fun hc => ?_) (fun hc => ?_)
        · have hc := of_decide_eq_true hc
          have h := ifT hc h
          refine AW.skip ?_
          refine AW.seq (AW.block ?_)
          refine AW.rgs rfl fun K hK => ?_
          refine mv rfl rfl ?_
          obtain ⟨x19, h20, h⟩ := bS h
          refine bv rfl (v_idxF ty25 es25 rfl rfl (idx_lt h20)) ?_
          refine bv rfl (v_loadF ty3 rfl (l_cell eInt h20 (o := 0) rfl rfl)) ?_
          refine mv rfl rfl ?_
          refine mv rfl rfl ?_
          refine b_nil (hK _ (AW.to (to_le (s' := ⟨[(1, slE eInt p1), (2, HV.str p2), (3, HV.fptr [HV.int .i64 p0.1, HV.int .i64 p0.2.1, slE eFromLabelTo p0.2.2] 0), (11, HV.int .i64 a15), (12, HV.int .i64 x19), (34, slE eInt p1), (35, HV.int .i64 ((p1).length : Int)), (36, HV.int .i64 a15)], []⟩) (AS.le_of ⟨rfl, rfl, rfl, rfl, rfl, rfl, rfl, rfl, trivial⟩ trivial) ?_)))
          clear hK K
          refine AW.seqJ h (S := Bool) (V := Unit) (fun a v => ⟨[(1, slE eInt p1), (2, HV.str p2), (3, HV.fptr [HV.int .i64 p0.1, HV.int .i64 p0.2.1, slE eFromLabelTo p0.2.2] 0), (34, slE eInt p1), (35, HV.int .i64 ((p1).length : Int)), (36, HV.int .i64 a15), (51, HV.bool a)], []⟩) (fun a21 w22 h => ?_) (fun k23 h => ?_)
          · refine AW.cond rfl (fun hc => ?_) (fun hc => ?_)
            · have h := ifT hc h
              refine AW.rgs rfl fun K hK => ?_
              refine mv rfl rfl ?_
              refine mv rfl rfl ?_
              refine b_nil (hK _ (AW.to (to_le (s' := ⟨[(6, HV.v (.slice none 0 0)), (7, HV.int .i64 10)], []⟩) (AS.le_of ⟨rfl, rfl, trivial⟩ trivial) ?_)))
              clear hK K
              have h := hr18 _ h
              refine AW.to (to_weak ⟨[(6, slE eInt ([] : List Int)), (7, HV.int .i64 10)], []⟩ ⟨⟨_, rfl, .nil _⟩, ⟨_, rfl, .refl _⟩, trivial⟩ trivial ?_)
              refine AW.ret ?_
              have h := Option.some.inj h
              subst h
              exact ret_pure (hs := [slE eInt ([] : List Int), HV.int .i64 10]) (q := HV.tup [slE eInt ([] : List Int), HV.int .i64 10]) (.inr rfl) (resT rfl (resT rfl rfl)) rfl ⟨(clean_slE fun _ _ => ⟨trivial, trivial⟩), trivial, trivial⟩
            · have h := ifF (bF' hc) h
              refine AW.skip ?_
              refine AW.rg rfl fun K hK => ?_
              refine bv rfl (v_bin rfl rfl b_add) ?_
              refine mv rfl rfl ?_
              refine b_nil (hK _ ?_)
              clear hK K
              exact to_le (s' := ⟨[(1, slE eInt p1), (2, HV.str p2), (3, HV.fptr [HV.int .i64 p0.1, HV.int .i64 p0.2.1, slE eFromLabelTo p0.2.2] 0), (34, slE eInt p1), (35, HV.int .i64 ((p1).length : Int)), (36, HV.int .i64 (IntKind.wrap .i64 (a15 + 1)))], []⟩) (AS.le_of ⟨rfl, rfl, rfl, rfl, rfl, rfl, trivial⟩ trivial) ⟨IntKind.wrap .i64 (a15 + 1), (), h, rfl⟩
          · refine AW.rg rfl fun K hK => ?_
            refine mv rfl rfl ?_
            refine bv rfl (v_bin rfl rfl b_gtr) ?_
            refine mv rfl rfl ?_
            by_cases hg26 : 0 < a15
            · have h := ifT hg26 h
              refine b_T rfl rfl rfl rfl (decide_eq_true hg26) (o_val rfl (mv_val rfl rfl).2 ?_)
              refine b_T rfl rfl rfl rfl rfl (o_val rfl (mv_val rfl rfl).2 ?_)
              refine b_T rfl rfl rfl rfl rfl (o_val rfl (mv_val rfl rfl).2 ?_)
              refine b_T rfl rfl rfl rfl rfl (o_val rfl (v_bin rfl rfl b_sub) ?_)
              obtain ⟨x24, h25, h⟩ := bS h
              refine b_T rfl rfl rfl rfl rfl (o_val rfl (v_idxF ty25 es25 rfl rfl (idx_lt h25)) ?_)
              refine b_T rfl rfl rfl rfl rfl (o_val rfl (v_loadF ty3 rfl (l_cell eInt h25 (o := 0) rfl rfl)) ?_)
              refine b_T rfl rfl rfl rfl rfl (o_val rfl (v_bin rfl rfl b_leq) ?_)
              refine bv rfl (v_pickT rfl rfl rfl) ?_
              refine b_nil (hK _ ?_)
              clear hK K
              exact to_le (s' := ⟨[(1, slE eInt p1), (2, HV.str p2), (3, HV.fptr [HV.int .i64 p0.1, HV.int .i64 p0.2.1, slE eFromLabelTo p0.2.2] 0), (34, slE eInt p1), (35, HV.int .i64 ((p1).length : Int)), (36, HV.int .i64 a15), (51, HV.bool (decide (x19 ≤ x24)))], []⟩) (AS.le_of ⟨rfl, rfl, rfl, rfl, rfl, rfl, rfl, trivial⟩ trivial) ⟨decide (x19 ≤ x24), (), h, rfl⟩
            · have h := ifF hg26 h
              refine b_F rfl rfl rfl rfl rfl (decide_eq_false hg26) ?_
              refine b_F rfl rfl rfl rfl rfl rfl ?_
              refine b_F rfl rfl rfl rfl rfl rfl ?_
              refine b_F rfl rfl rfl rfl rfl rfl ?_
              refine b_F rfl rfl rfl rfl rfl rfl ?_
              refine b_F rfl rfl rfl rfl rfl rfl ?_
              refine b_F rfl rfl rfl rfl rfl rfl ?_
              refine bv rfl (v_pickF rfl rfl rfl) ?_
              refine b_nil (hK _ ?_)
              clear hK K
              exact to_le (s' := ⟨[(1, slE eInt p1), (2, HV.str p2), (3, HV.fptr [HV.int .i64 p0.1, HV.int .i64 p0.2.1, slE eFromLabelTo p0.2.2] 0), (34, slE eInt p1), (35, HV.int .i64 ((p1).length : Int)), (36, HV.int .i64 a15), (51, HV.bool false)], []⟩) (AS.le_of ⟨rfl, rfl, rfl, rfl, rfl, rfl, rfl, trivial⟩ trivial) ⟨false, (), h, rfl⟩
        · have hc := of_decide_eq_false hc
          have h := ifF hc h
          refine AW.exit ?_
          exact to_le (s' := ⟨[(1, slE eInt p1), (2, HV.str p2), (3, HV.fptr [HV.int .i64 p0.1, HV.int .i64 p0.2.1, slE eFromLabelTo p0.2.2] 0)], []⟩) (AS.le_of ⟨rfl, rfl, rfl, trivial⟩ trivial) ⟨(), (), h, rfl⟩
    · refine AW.rgs rfl fun K hK => ?_
      refine bv rfl (v_bin rfl rfl b_lss) ?_
      refine b_nil (hK _ (AW.to (to_le (s' := ⟨[(1, slE eInt p1), (2, HV.str p2), (3, HV.fptr [HV.int .i64 p0.1, HV.int .i64 p0.2.1, slE eFromLabelTo p0.2.2] 0), (19, slE eInt p1), (20, HV.int .i64 ((p1).length : Int)), (21, HV.int .i64 a3), (22, HV.bool (decide (a3 < ((p1).length : Int))))], []⟩) (AS.le_of ⟨rfl, rfl, rfl, rfl, rfl, rfl, rfl, trivial⟩ trivial) ?_)))
      clear hK K
      refine AW.cseq rfl (fun hc => ?_) (fun hc => ?_)
      · have hc := of_decide_eq_true hc
        have h := ifT hc h
        refine AW.skip ?_
        refine AW.seq (AW.block ?_)
        refine AW.rgs rfl fun K hK => ?_
        obtain ⟨x7, h8, h⟩ := bS h
        refine bv rfl (v_idxF ty25 es25 rfl rfl (idx_lt h8)) ?_
        refine bv rfl (v_loadF ty3 rfl (l_cell eInt h8 (o := 0) rfl rfl)) ?_
        refine mv rfl rfl ?_
        refine b_nil (hK _ (AW.to (to_le (s' := ⟨[(1, slE eInt p1), (2, HV.str p2), (3, HV.fptr [HV.int .i64 p0.1, HV.int .i64 p0.2.1, slE eFromLabelTo p0.2.2] 0), (10, HV.int .i64 x7), (19, slE eInt p1), (20, HV.int .i64 ((p1).length : Int)), (21, HV.int .i64 a3)], []⟩) (AS.le_of ⟨rfl, rfl, rfl, rfl, rfl, rfl, rfl, trivial⟩ trivial) ?_)))
        clear hK K
        refine AW.seqJ h (S := Bool) (V := Unit) (fun a v => ⟨[(1, slE eInt p1), (2, HV.str p2), (3, HV.fptr [HV.int .i64 p0.1, HV.int .i64 p0.2.1, slE eFromLabelTo p0.2.2] 0), (19, slE eInt p1), (20, HV.int .i64 ((p1).length : Int)), (21, HV.int .i64 a3), (32, HV.bool a)], []⟩) (fun a9 w10 h => ?_) (fun k11 h => ?_)
        · refine AW.cond rfl (fun hc => ?_) (fun hc => ?_)
          · have h := ifT hc h
            refine AW.rgs rfl fun K hK => ?_
            refine mv rfl rfl ?_
            refine mv rfl rfl ?_
            refine b_nil (hK _ (AW.to (to_le (s' := ⟨[(6, HV.v (.slice none 0 0)), (7, HV.int .i64 25)], []⟩) (AS.le_of ⟨rfl, rfl, trivial⟩ trivial) ?_)))
            clear hK K
            have h := hr6 _ h
            refine AW.to (to_weak ⟨[(6, slE eInt ([] : List Int)), (7, HV.int .i64 25)], []⟩ ⟨⟨_, rfl, .nil _⟩, ⟨_, rfl, .refl _⟩, trivial⟩ trivial ?_)
            refine AW.ret ?_
            have h := Option.some.inj h
            subst h
            exact ret_pure (hs := [slE eInt ([] : List Int), HV.int .i64 25]) (q := HV.tup [slE eInt ([] : List Int), HV.int .i64 25]) (.inr rfl) (resT rfl (resT rfl rfl)) rfl ⟨(clean_slE fun _ _ => ⟨trivial, trivial⟩), trivial, trivial⟩
          · have h := ifF (bF' hc) h
            refine AW.skip ?_
            refine AW.rg rfl fun K hK => ?_
            refine bv rfl (v_bin rfl rfl b_add) ?_
            refine mv rfl rfl ?_
            refine b_nil (hK _ ?_)
            clear hK K
            exact to_le (s' := ⟨[(1, slE eInt p1), (2, HV.str p2), (3, HV.fptr [HV.int .i64 p0.1, HV.int .i64 p0.2.1, slE eFromLabelTo p0.2.2] 0), (19, slE eInt p1), (20, HV.int .i64 ((p1).length : Int)), (21, HV.int .i64 (IntKind.wrap .i64 (a3 + 1)))], []⟩) (AS.le_of ⟨rfl, rfl, rfl, rfl, rfl, rfl, trivial⟩ trivial) ⟨IntKind.wrap .i64 (a3 + 1), (), h, rfl⟩
        · refine AW.rg rfl fun K hK => ?_
          refine mv rfl rfl ?_
          refine bv rfl (v_bin rfl rfl b_lss) ?_
          refine mv rfl rfl ?_
          by_cases hg12 : x7 < 0
          · have h := ifT hg12 h
            refine b_F rfl rfl rfl rfl rfl (decide_eq_true hg12) ?_
            refine b_F rfl rfl rfl rfl rfl rfl ?_
            refine b_F rfl rfl rfl rfl rfl rfl ?_
            refine b_F rfl rfl rfl rfl rfl rfl ?_
            refine bv rfl (v_pickT rfl rfl rfl) ?_
            refine b_nil (hK _ ?_)
            clear hK K
            exact to_le (s' := ⟨[(1, slE eInt p1), (2, HV.str p2), (3, HV.fptr [HV.int .i64 p0.1, HV.int .i64 p0.2.1, slE eFromLabelTo p0.2.2] 0), (19, slE eInt p1), (20, HV.int .i64 ((p1).length : Int)), (21, HV.int .i64 a3), (32, HV.bool true)], []⟩) (AS.le_of ⟨rfl, rfl, rfl, rfl, rfl, rfl, rfl, trivial⟩ trivial) ⟨true, (), h, rfl⟩
          · have h := ifF hg12 h
            refine b_T rfl rfl rfl rfl (decide_eq_false hg12) (o_val rfl (mv_val rfl rfl).2 ?_)
            refine b_T rfl rfl rfl rfl rfl (o_val rfl (v_fieldAddrF fo24_1 rfl) ?_)
            refine b_T rfl rfl rfl rfl rfl (o_val rfl (v_loadF ty3 rfl (l_lit rfl rfl)) ?_)
            refine b_T rfl rfl rfl rfl rfl (o_val rfl (v_bin rfl rfl b_geq) ?_)
            refine bv rfl (v_pickF rfl rfl rfl) ?_
            refine b_nil (hK _ ?_)
            clear hK K
            exact to_le (s' := ⟨[(1, slE eInt p1), (2, HV.str p2), (3, HV.fptr [HV.int .i64 p0.1, HV.int .i64 p0.2.1, slE eFromLabelTo p0.2.2] 0), (19, slE eInt p1), (20, HV.int .i64 ((p1).length : Int)), (21, HV.int .i64 a3), (32, HV.bool (decide (p0.2.1 ≤ x7)))], []⟩) (AS.le_of ⟨rfl, rfl, rfl, rfl, rfl, rfl, rfl, trivial⟩ trivial) ⟨decide (p0.2.1 ≤ x7), (), h, rfl⟩
      · have hc := of_decide_eq_false hc
        have h := ifF hc h
        refine AW.exit ?_
        exact to_le (s' := ⟨[(1, slE eInt p1), (2, HV.str p2), (3, HV.fptr [HV.int .i64 p0.1, HV.int .i64 p0.2.1, slE eFromLabelTo p0.2.2] 0)], []⟩) (AS.le_of ⟨rfl, rfl, rfl, trivial⟩ trivial) ⟨(), (), h, rfl⟩

end Go.AW

namespace Go.AW
open Go Go.Proofs
set_option linter.unusedVariables false
set_option maxHeartbeats 1600000 in
set_option maxRecDepth 100000 in
theorem w_ref11_Ends {p0 : TLabelsStatesEdges} {p1 : List (Int)} {p2 : List UInt8} {r : (List (Int)) × Int} (h : m_ref11_Ends p0 p1 p2 = some r) : Pure Tryz.prog 9 [HV.agg [HV.int .i64 p0.1, HV.int .i64 p0.2.1, slE eFromLabelTo p0.2.2], slE eInt p1, HV.str p2] (· = HV.tup [slE eInt r.1, HV.int .i64 r.2]) := by
  unfold m_ref11_Ends at h
  refine Pure.of_body Tryz.func9 rfl rfl (Nat.le_of_ble_eq_true rfl) fun hf => ?_
  unfold Tryz.f9
  dsimp only [enumS, Nat.reduceAdd]
  refine AW.rgs rfl fun K hK => ?_
  refine b_op rfl (o_box rfl rfl rfl ?_)
  refine mv rfl rfl ?_
  refine mv rfl rfl ?_
  refine b_nil (hK _ (AW.to (to_le (s' := ⟨[(1, slE eInt p1), (2, HV.str p2), (3, HV.fptr [HV.int .i64 p0.1, HV.int .i64 p0.2.1, slE eFromLabelTo p0.2.2] 0)], []⟩) (AS.le_of ⟨rfl, rfl, rfl, trivial⟩ trivial) ?_)))
  clear hK K
  refine AW.seq ?_
  refine AW.rgs rfl fun K hK => ?_
  refine bv rfl (v_loadF ty24 rfl (l_litA rfl (Nat.le_of_ble_eq_true rfl) rfl)) ?_
  refine mv rfl rfl ?_
  obtain ⟨x1, h2, h⟩ := bS h
  refine b_op rfl (o_call rfl rfl rfl rfl (ACallD.pure0 (w_ref11_checkWord h2)) ?_)
  refine mv rfl rfl ?_
  refine b_nil (hK _ (AW.to (to_le (s' := ⟨[(1, slE eInt p1), (2, HV.str p2), (3, HV.fptr [HV.int .i64 p0.1, HV.int .i64 p0.2.1, slE eFromLabelTo p0.2.2] 0), (8, HV.int .i64 x1)], []⟩) (AS.le_of ⟨rfl, rfl, rfl, rfl, trivial⟩ trivial) ?_)))
  clear hK K
  refine AW.rgs rfl fun K hK => ?_
  refine mv rfl rfl ?_
  refine bv rfl (v_bin rfl rfl b_neq) ?_
  refine b_nil (hK _ (AW.to (to_le (s' := ⟨[(1, slE eInt p1), (2, HV.str p2), (3, HV.fptr [HV.int .i64 p0.1, HV.int .i64 p0.2.1, slE eFromLabelTo p0.2.2] 0), (8, HV.int .i64 x1), (15, HV.bool (decide (x1 ≠ 0)))], []⟩) (AS.le_of ⟨rfl, rfl, rfl, rfl, rfl, trivial⟩ trivial) ?_)))
  clear hK K
  refine AW.cond rfl (fun hc => ?_) (fun hc => ?_)
  · have hc := of_decide_eq_true hc
    have h := ifT hc h
    refine AW.rgs rfl fun K hK => ?_
    refine mv rfl rfl ?_
    refine mv rfl rfl ?_
    refine mv rfl rfl ?_
    refine b_nil (hK _ (AW.to (to_le (s' := ⟨[(6, HV.v (.slice none 0 0)), (7, HV.int .i64 x1)], []⟩) (AS.le_of ⟨rfl, rfl, trivial⟩ trivial) ?_)))
    clear hK K
    refine AW.to (to_weak ⟨[(6, slE eInt ([] : List Int)), (7, HV.int .i64 x1)], []⟩ ⟨⟨_, rfl, .nil _⟩, ⟨_, rfl, .refl _⟩, trivial⟩ trivial ?_)
    refine AW.ret ?_
    have h := Option.some.inj h
    subst h
    exact ret_pure (hs := [slE eInt ([] : List Int), HV.int .i64 x1]) (q := HV.tup [slE eInt ([] : List Int), HV.int .i64 x1]) (.inr rfl) (resT rfl (resT rfl rfl)) rfl ⟨(clean_slE fun _ _ => ⟨trivial, trivial⟩), trivial, trivial⟩
  · have hc := of_decide_eq_false hc
    have h := ifF hc h
    refine AW.skip ?_
    refine AW.seq ?_
    refine AW.rgs rfl fun K hK => ?_
    refine mv rfl rfl ?_
    refine b_nil (hK _ (AW.to (to_le (s' := ⟨[(1, slE eInt p1), (2, HV.str p2), (3, HV.fptr [HV.int .i64 p0.1, HV.int .i64 p0.2.1, slE eFromLabelTo p0.2.2] 0), (9, HV.int .i64 0)], []⟩) (AS.le_of ⟨rfl, rfl, rfl, rfl, trivial⟩ trivial) ?_)))
    clear hK K
    refine AW.lpR h (by first | exact up_then | exact up_to) (S := Int) (V := Unit) (fun a v => ⟨[(1, slE eInt p1), (2, HV.str p2), (3, HV.fptr [HV.int .i64 p0.1, HV.int .i64 p0.2.1, slE eFromLabelTo p0.2.2] 0), (9, HV.int .i64 a)], []⟩) ?_ (X := Unit) (W := Unit) (fun a v => ⟨[(1, slE eInt p1), (2, HV.str p2), (3, HV.fptr [HV.int .i64 p0.1, HV.int .i64 p0.2.1, slE eFromLabelTo p0.2.2] 0)], []⟩) (fun a15 w16 h => ?_) (fun a3 w4 st5 h hr6=> ?_)
    · exact to_le (s' := ⟨[(1, slE eInt p1), (2, HV.str p2), (3, HV.fptr [HV.int .i64 p0.1, HV.int .i64 p0.2.1, slE eFromLabelTo p0.2.2] 0), (9, HV.int .i64 0)], []⟩) (AS.le_of ⟨rfl, rfl, rfl, rfl, trivial⟩ trivial) ⟨(), rfl⟩
    · refine AW.seq ?_
      refine AW.rgs rfl fun K hK => ?_
      refine mv rfl rfl ?_
      refine b_nil (hK _ (AW.to (to_le (s' := ⟨[(1, slE eInt p1), (2, HV.str p2), (3, HV.fptr [HV.int .i64 p0.1, HV.int .i64 p0.2.1, slE eFromLabelTo p0.2.2] 0), (10, HV.int .i64 1)], []⟩) (AS.le_of ⟨rfl, rfl, rfl, rfl, trivial⟩ trivial) ?_)))
      clear hK K
      refine AW.lpR h (by first | exact up_then | exact up_to) (S := Int) (V := Unit) (fun a v => ⟨[(1, slE eInt p1), (2, HV.str p2), (3, HV.fptr [HV.int .i64 p0.1, HV.int .i64 p0.2.1, slE eFromLabelTo p0.2.2] 0), (10, HV.int .i64 a)], []⟩) ?_ (X := Unit) (W := Unit) (fun a v => ⟨[(1, slE eInt p1), (2, HV.str p2), (3, HV.fptr [HV.int .i64 p0.1, HV.int .i64 p0.2.1, slE eFromLabelTo p0.2.2] 0)], []⟩) (fun a25 w26 h => ?_) (fun a17 w18 st19 h hr20=> ?_)
      · exact to_le (s' := ⟨[(1, slE eInt p1), (2, HV.str p2), (3, HV.fptr [HV.int .i64 p0.1, HV.int .i64 p0.2.1, slE eFromLabelTo p0.2.2] 0), (10, HV.int .i64 1)], []⟩) (AS.le_of ⟨rfl, rfl, rfl, rfl, trivial⟩ trivial) ⟨(), rfl⟩
      · refine AW.dls follows fun K hK F hF => ?_
        obtain ⟨h270302, h⟩ := ifN h
        obtain ⟨x270503, h270504, h⟩ := bS h
        refine l_go (L' := []) hF rfl (s' := ⟨[(1, slE eInt p1), (2, HV.str p2), (3, HV.fptr [HV.int .i64 p0.1, HV.int .i64 p0.2.1, slE eFromLabelTo p0.2.2] 0)], []⟩) ?_ (AS.le_of ⟨rfl, rfl, rfl, trivial⟩ trivial)
        have g27_0_1_2_3_4_5_6_7 : F [0, 1, 2, 3, 4, 5, 6, 7] ⟨[(1, slE eInt p1), (2, HV.str p2), (3, HV.fptr [HV.int .i64 p0.1, HV.int .i64 p0.2.1, slE eFromLabelTo p0.2.2] 0), (6, slE eInt x270503), (7, HV.int .i64 0), (53, HV.agg [HV.int .i64 p0.1, HV.int .i64 p0.2.1, slE eFromLabelTo p0.2.2]), (55, slE eInt p1), (56, slE eInt (([] : List Int) ++ p1)), (57, HV.str p2), (58, slE eInt x270503)], []⟩ := by
          refine l_done hF rfl rfl (hK _ (AW.to (to_le (s' := ⟨[(6, slE eInt x270503), (7, HV.int .i64 0)], []⟩) (AS.le_of ⟨rfl, rfl, trivial⟩ trivial) ?_)))
          clear hF F hK K
          refine AW.ret ?_
          have h := Option.some.inj h
          subst h
          exact ret_pure (hs := [slE eInt x270503, HV.int .i64 0]) (q := HV.tup [slE eInt x270503, HV.int .i64 0]) (.inr rfl) (resT rfl (resT rfl rfl)) rfl ⟨(clean_slE fun _ _ => ⟨trivial, trivial⟩), trivial, trivial⟩
        have g27_0_1_2_3_4_5_6 : F [0, 1, 2, 3, 4, 5, 6] ⟨[(1, slE eInt p1), (2, HV.str p2), (3, HV.fptr [HV.int .i64 p0.1, HV.int .i64 p0.2.1, slE eFromLabelTo p0.2.2] 0), (6, slE eInt x270503), (53, HV.agg [HV.int .i64 p0.1, HV.int .i64 p0.2.1, slE eFromLabelTo p0.2.2]), (55, slE eInt p1), (56, slE eInt (([] : List Int) ++ p1)), (57, HV.str p2), (58, slE eInt x270503)], []⟩ := by
          refine l_step hF rfl [7] rfl rfl ⟨?_, trivial⟩
          · refine l_op rfl rfl rfl (o_val rfl (mv_val rfl rfl).2 ?_)
            exact b_nil (l_go hF rfl (g27_0_1_2_3_4_5_6_7) (AS.le_of ⟨rfl, rfl, rfl, rfl, rfl, rfl, rfl, rfl, rfl, rfl, trivial⟩ trivial))
        have g27_0_1_2_3_4_5 : F [0, 1, 2, 3, 4, 5] ⟨[(1, slE eInt p1), (2, HV.str p2), (3, HV.fptr [HV.int .i64 p0.1, HV.int .i64 p0.2.1, slE eFromLabelTo p0.2.2] 0), (53, HV.agg [HV.int .i64 p0.1, HV.int .i64 p0.2.1, slE eFromLabelTo p0.2.2]), (55, slE eInt p1), (56, slE eInt (([] : List Int) ++ p1)), (57, HV.str p2), (58, slE eInt x270503)], []⟩ := by
          refine l_step hF rfl [6] rfl rfl ⟨?_, trivial⟩
          · refine l_op rfl rfl rfl (o_val rfl (mv_val rfl rfl).2 ?_)
            exact b_nil (l_go hF rfl (g27_0_1_2_3_4_5_6) (AS.le_of ⟨rfl, rfl, rfl, rfl, rfl, rfl, rfl, rfl, rfl, trivial⟩ trivial))
        have g27_0_1_2_3_4 : ∀ (v270101 : Nat) (v270301 : Nat), F [0, 1, 2, 3, 4] ⟨[(1, slE eInt p1), (2, HV.str p2), (3, HV.fptr [HV.int .i64 p0.1, HV.int .i64 p0.2.1, slE eFromLabelTo p0.2.2] 0), (53, HV.agg [HV.int .i64 p0.1, HV.int .i64 p0.2.1, slE eFromLabelTo p0.2.2]), (54, HV.ar 9054 v270101 eInt.k 0 0), (55, slE eInt p1), (56, HV.ar 9054 v270301 eInt.k 0 ((([] : List Int) ++ p1).length)), (57, HV.str p2)], [(9054, v270301, .arr eInt.k 3 (eInt.E (([] : List Int) ++ p1)))]⟩ := by
          intro v270101 v270301
          refine l_step hF rfl [5] rfl rfl ⟨?_, trivial⟩
          · refine aopI_to (to_frz 2 [(9054, v270301, .arr eInt.k 3 (eInt.E (([] : List Int) ++ p1)))] ⟨[(1, slE eInt p1), (2, HV.str p2), (3, HV.fptr [HV.int .i64 p0.1, HV.int .i64 p0.2.1, slE eFromLabelTo p0.2.2] 0), (53, HV.agg [HV.int .i64 p0.1, HV.int .i64 p0.2.1, slE eFromLabelTo p0.2.2]), (55, slE eInt p1), (56, slE eInt (([] : List Int) ++ p1)), (57, HV.str p2)], []⟩ ⟨⟨_, rfl, rfl⟩, ⟨_, rfl, rfl⟩, ⟨_, rfl, rfl⟩, ⟨_, rfl, rfl⟩, ⟨_, rfl, rfl⟩, ⟨_, rfl, frz_slE eInt (l := ([] : List Int) ++ p1) rfl fun _ _ => rfl⟩, ⟨_, rfl, rfl⟩, trivial⟩ trivial ⟨rfl, trivial⟩ ⟨rfl, trivial⟩ ?_)
            refine l_op rfl rfl rfl (o_call rfl rfl rfl rfl (ACallD.pure0 (w_ref11_ends h270504)) ?_)
            exact b_nil (l_go hF rfl (g27_0_1_2_3_4_5) (AS.le_of ⟨rfl, rfl, rfl, rfl, rfl, rfl, rfl, rfl, trivial⟩ trivial))
        have g27_0_1_2_4 : ∀ (v270101 : Nat), F [0, 1, 2, 4] ⟨[(1, slE eInt p1), (2, HV.str p2), (3, HV.fptr [HV.int .i64 p0.1, HV.int .i64 p0.2.1, slE eFromLabelTo p0.2.2] 0), (53, HV.agg [HV.int .i64 p0.1, HV.int .i64 p0.2.1, slE eFromLabelTo p0.2.2]), (54, HV.ar 9054 v270101 eInt.k 0 0), (55, slE eInt p1), (57, HV.str p2)], [(9054, v270101, .arr eInt.k 3 [])]⟩ := by
          intro v270101
          refine l_step hF rfl [3] rfl rfl ⟨?_, trivial⟩
          · refine l_op rfl rfl rfl (o_appE eInt (l := []) (m := p1) rfl rfl ty25 ty25 ty3 rfl rfl rfl rfl rfl h270302 (fun v270301 => ?_))
            exact b_nil (l_go hF rfl (g27_0_1_2_3_4 v270101 v270301) (AS.le_of ⟨rfl, rfl, rfl, rfl, rfl, rfl, rfl, rfl, trivial⟩ ⟨rfl, trivial⟩))
        have g27_1_2_3_4 : ∀ (v270101 : Nat) (v270301 : Nat), F [1, 2, 3, 4] ⟨[(1, slE eInt p1), (2, HV.str p2), (3, HV.fptr [HV.int .i64 p0.1, HV.int .i64 p0.2.1, slE eFromLabelTo p0.2.2] 0), (54, HV.ar 9054 v270101 eInt.k 0 0), (55, slE eInt p1), (56, HV.ar 9054 v270301 eInt.k 0 ((([] : List Int) ++ p1).length)), (57, HV.str p2)], [(9054, v270301, .arr eInt.k 3 (eInt.E (([] : List Int) ++ p1)))]⟩ := by
          intro v270101 v270301
          refine l_step hF rfl [0] rfl rfl ⟨?_, trivial⟩
          · refine l_op rfl rfl rfl (o_val rfl (v_loadF ty24 rfl (l_litA rfl (Nat.le_of_ble_eq_true rfl) rfl)) ?_)
            exact b_nil (l_go hF rfl (g27_0_1_2_3_4 v270101 v270301) (AS.le_of ⟨rfl, rfl, rfl, rfl, rfl, rfl, rfl, rfl, trivial⟩ ⟨rfl, trivial⟩))
        have g27_0_1_2_3 : ∀ (v270101 : Nat) (v270301 : Nat), F [0, 1, 2, 3] ⟨[(1, slE eInt p1), (2, HV.str p2), (3, HV.fptr [HV.int .i64 p0.1, HV.int .i64 p0.2.1, slE eFromLabelTo p0.2.2] 0), (53, HV.agg [HV.int .i64 p0.1, HV.int .i64 p0.2.1, slE eFromLabelTo p0.2.2]), (54, HV.ar 9054 v270101 eInt.k 0 0), (55, slE eInt p1), (56, HV.ar 9054 v270301 eInt.k 0 ((([] : List Int) ++ p1).length))], [(9054, v270301, .arr eInt.k 3 (eInt.E (([] : List Int) ++ p1)))]⟩ := by
          intro v270101 v270301
          refine l_step hF rfl [4] rfl rfl ⟨?_, trivial⟩
          · refine l_op rfl rfl rfl (o_val rfl (mv_val rfl rfl).2 ?_)
            exact b_nil (l_go hF rfl (g27_0_1_2_3_4 v270101 v270301) (AS.le_of ⟨rfl, rfl, rfl, rfl, rfl, rfl, rfl, rfl, trivial⟩ ⟨rfl, trivial⟩))
        have g27_0_2_4 : F [0, 2, 4] ⟨[(1, slE eInt p1), (2, HV.str p2), (3, HV.fptr [HV.int .i64 p0.1, HV.int .i64 p0.2.1, slE eFromLabelTo p0.2.2] 0), (53, HV.agg [HV.int .i64 p0.1, HV.int .i64 p0.2.1, slE eFromLabelTo p0.2.2]), (55, slE eInt p1), (57, HV.str p2)], []⟩ := by
          refine l_step hF rfl [1] rfl rfl ⟨?_, trivial⟩
          · refine l_op rfl rfl rfl (o_bslM (fid := 9) 9054 rfl rfl rfl (as_of (cs := []) ty25 ty3 rfl rfl rfl rfl rfl) (fun v270101 => ?_))
            exact b_nil (l_go hF rfl (g27_0_1_2_4 v270101) (AS.le_of ⟨rfl, rfl, rfl, rfl, rfl, rfl, rfl, trivial⟩ ⟨rfl, trivial⟩))
        have g27_1_2_4 : ∀ (v270101 : Nat), F [1, 2, 4] ⟨[(1, slE eInt p1), (2, HV.str p2), (3, HV.fptr [HV.int .i64 p0.1, HV.int .i64 p0.2.1, slE eFromLabelTo p0.2.2] 0), (54, HV.ar 9054 v270101 eInt.k 0 0), (55, slE eInt p1), (57, HV.str p2)], [(9054, v270101, .arr eInt.k 3 [])]⟩ := by
          intro v270101
          refine l_step hF rfl [0, 3] rfl rfl ⟨?_, ?_, trivial⟩
          · refine l_op rfl rfl rfl (o_val rfl (v_loadF ty24 rfl (l_litA rfl (Nat.le_of_ble_eq_true rfl) rfl)) ?_)
            exact b_nil (l_go hF rfl (g27_0_1_2_4 v270101) (AS.le_of ⟨rfl, rfl, rfl, rfl, rfl, rfl, rfl, trivial⟩ ⟨rfl, trivial⟩))
          · refine l_op rfl rfl rfl (o_appE eInt (l := []) (m := p1) rfl rfl ty25 ty25 ty3 rfl rfl rfl rfl rfl h270302 (fun v270301 => ?_))
            exact b_nil (l_go hF rfl (g27_1_2_3_4 v270101 v270301) (AS.le_of ⟨rfl, rfl, rfl, rfl, rfl, rfl, rfl, trivial⟩ ⟨rfl, trivial⟩))
        have g27_0_1_4 : ∀ (v270101 : Nat), F [0, 1, 4] ⟨[(1, slE eInt p1), (2, HV.str p2), (3, HV.fptr [HV.int .i64 p0.1, HV.int .i64 p0.2.1, slE eFromLabelTo p0.2.2] 0), (53, HV.agg [HV.int .i64 p0.1, HV.int .i64 p0.2.1, slE eFromLabelTo p0.2.2]), (54, HV.ar 9054 v270101 eInt.k 0 0), (57, HV.str p2)], [(9054, v270101, .arr eInt.k 3 [])]⟩ := by
          intro v270101
          refine l_step hF rfl [2] rfl rfl ⟨?_, trivial⟩
          · refine l_op rfl rfl rfl (o_val rfl (mv_val rfl rfl).2 ?_)
            exact b_nil (l_go hF rfl (g27_0_1_2_4 v270101) (AS.le_of ⟨rfl, rfl, rfl, rfl, rfl, rfl, rfl, trivial⟩ ⟨rfl, trivial⟩))
        have g27_0_1_2 : ∀ (v270101 : Nat), F [0, 1, 2] ⟨[(1, slE eInt p1), (2, HV.str p2), (3, HV.fptr [HV.int .i64 p0.1, HV.int .i64 p0.2.1, slE eFromLabelTo p0.2.2] 0), (53, HV.agg [HV.int .i64 p0.1, HV.int .i64 p0.2.1, slE eFromLabelTo p0.2.2]), (54, HV.ar 9054 v270101 eInt.k 0 0), (55, slE eInt p1)], [(9054, v270101, .arr eInt.k 3 [])]⟩ := by
          intro v270101
          refine l_step hF rfl [3, 4] rfl rfl ⟨?_, ?_, trivial⟩
          · refine l_op rfl rfl rfl (o_appE eInt (l := []) (m := p1) rfl rfl ty25 ty25 ty3 rfl rfl rfl rfl rfl h270302 (fun v270301 => ?_))
            exact b_nil (l_go hF rfl (g27_0_1_2_3 v270101 v270301) (AS.le_of ⟨rfl, rfl, rfl, rfl, rfl, rfl, rfl, trivial⟩ ⟨rfl, trivial⟩))
          · refine l_op rfl rfl rfl (o_val rfl (mv_val rfl rfl).2 ?_)
            exact b_nil (l_go hF rfl (g27_0_1_2_4 v270101) (AS.le_of ⟨rfl, rfl, rfl, rfl, rfl, rfl, rfl, trivial⟩ ⟨rfl, trivial⟩))
        have g27_1_2_3 : ∀ (v270101 : Nat) (v270301 : Nat), F [1, 2, 3] ⟨[(1, slE eInt p1), (2, HV.str p2), (3, HV.fptr [HV.int .i64 p0.1, HV.int .i64 p0.2.1, slE eFromLabelTo p0.2.2] 0), (54, HV.ar 9054 v270101 eInt.k 0 0), (55, slE eInt p1), (56, HV.ar 9054 v270301 eInt.k 0 ((([] : List Int) ++ p1).length))], [(9054, v270301, .arr eInt.k 3 (eInt.E (([] : List Int) ++ p1)))]⟩ := by
          intro v270101 v270301
          refine l_step hF rfl [0, 4] rfl rfl ⟨?_, ?_, trivial⟩
          · refine l_op rfl rfl rfl (o_val rfl (v_loadF ty24 rfl (l_litA rfl (Nat.le_of_ble_eq_true rfl) rfl)) ?_)
            exact b_nil (l_go hF rfl (g27_0_1_2_3 v270101 v270301) (AS.le_of ⟨rfl, rfl, rfl, rfl, rfl, rfl, rfl, trivial⟩ ⟨rfl, trivial⟩))
          · refine l_op rfl rfl rfl (o_val rfl (mv_val rfl rfl).2 ?_)
            exact b_nil (l_go hF rfl (g27_1_2_3_4 v270101 v270301) (AS.le_of ⟨rfl, rfl, rfl, rfl, rfl, rfl, rfl, trivial⟩ ⟨rfl, trivial⟩))
        have g27_0_4 : F [0, 4] ⟨[(1, slE eInt p1), (2, HV.str p2), (3, HV.fptr [HV.int .i64 p0.1, HV.int .i64 p0.2.1, slE eFromLabelTo p0.2.2] 0), (53, HV.agg [HV.int .i64 p0.1, HV.int .i64 p0.2.1, slE eFromLabelTo p0.2.2]), (57, HV.str p2)], []⟩ := by
          refine l_step hF rfl [1, 2] rfl rfl ⟨?_, ?_, trivial⟩
          · refine l_op rfl rfl rfl (o_bslM (fid := 9) 9054 rfl rfl rfl (as_of (cs := []) ty25 ty3 rfl rfl rfl rfl rfl) (fun v270101 => ?_))
            exact b_nil (l_go hF rfl (g27_0_1_4 v270101) (AS.le_of ⟨rfl, rfl, rfl, rfl, rfl, rfl, trivial⟩ ⟨rfl, trivial⟩))
          · refine l_op rfl rfl rfl (o_val rfl (mv_val rfl rfl).2 ?_)
            exact b_nil (l_go hF rfl (g27_0_2_4) (AS.le_of ⟨rfl, rfl, rfl, rfl, rfl, rfl, trivial⟩ trivial))
        have g27_1_4 : ∀ (v270101 : Nat), F [1, 4] ⟨[(1, slE eInt p1), (2, HV.str p2), (3, HV.fptr [HV.int .i64 p0.1, HV.int .i64 p0.2.1, slE eFromLabelTo p0.2.2] 0), (54, HV.ar 9054 v270101 eInt.k 0 0), (57, HV.str p2)], [(9054, v270101, .arr eInt.k 3 [])]⟩ := by
          intro v270101
          refine l_step hF rfl [0, 2] rfl rfl ⟨?_, ?_, trivial⟩
          · refine l_op rfl rfl rfl (o_val rfl (v_loadF ty24 rfl (l_litA rfl (Nat.le_of_ble_eq_true rfl) rfl)) ?_)
            exact b_nil (l_go hF rfl (g27_0_1_4 v270101) (AS.le_of ⟨rfl, rfl, rfl, rfl, rfl, rfl, trivial⟩ ⟨rfl, trivial⟩))
          · refine l_op rfl rfl rfl (o_val rfl (mv_val rfl rfl).2 ?_)
            exact b_nil (l_go hF rfl (g27_1_2_4 v270101) (AS.le_of ⟨rfl, rfl, rfl, rfl, rfl, rfl, trivial⟩ ⟨rfl, trivial⟩))
        have g27_2_4 : F [2, 4] ⟨[(1, slE eInt p1), (2, HV.str p2), (3, HV.fptr [HV.int .i64 p0.1, HV.int .i64 p0.2.1, slE eFromLabelTo p0.2.2] 0), (55, slE eInt p1), (57, HV.str p2)], []⟩ := by
          refine l_step hF rfl [0, 1] rfl rfl ⟨?_, ?_, trivial⟩
          · refine l_op rfl rfl rfl (o_val rfl (v_loadF ty24 rfl (l_litA rfl (Nat.le_of_ble_eq_true rfl) rfl)) ?_)
            exact b_nil (l_go hF rfl (g27_0_2_4) (AS.le_of ⟨rfl, rfl, rfl, rfl, rfl, rfl, trivial⟩ trivial))
          · refine l_op rfl rfl rfl (o_bslM (fid := 9) 9054 rfl rfl rfl (as_of (cs := []) ty25 ty3 rfl rfl rfl rfl rfl) (fun v270101 => ?_))
            exact b_nil (l_go hF rfl (g27_1_2_4 v270101) (AS.le_of ⟨rfl, rfl, rfl, rfl, rfl, rfl, trivial⟩ ⟨rfl, trivial⟩))
        have g27_0_2 : F [0, 2] ⟨[(1, slE eInt p1), (2, HV.str p2), (3, HV.fptr [HV.int .i64 p0.1, HV.int .i64 p0.2.1, slE eFromLabelTo p0.2.2] 0), (53, HV.agg [HV.int .i64 p0.1, HV.int .i64 p0.2.1, slE eFromLabelTo p0.2.2]), (55, slE eInt p1)], []⟩ := by
          refine l_step hF rfl [1, 4] rfl rfl ⟨?_, ?_, trivial⟩
          · refine l_op rfl rfl rfl (o_bslM (fid := 9) 9054 rfl rfl rfl (as_of (cs := []) ty25 ty3 rfl rfl rfl rfl rfl) (fun v270101 => ?_))
            exact b_nil (l_go hF rfl (g27_0_1_2 v270101) (AS.le_of ⟨rfl, rfl, rfl, rfl, rfl, rfl, trivial⟩ ⟨rfl, trivial⟩))
          · refine l_op rfl rfl rfl (o_val rfl (mv_val rfl rfl).2 ?_)
            exact b_nil (l_go hF rfl (g27_0_2_4) (AS.le_of ⟨rfl, rfl, rfl, rfl, rfl, rfl, trivial⟩ trivial))
        have g27_1_2 : ∀ (v270101 : Nat), F [1, 2] ⟨[(1, slE eInt p1), (2, HV.str p2), (3, HV.fptr [HV.int .i64 p0.1, HV.int .i64 p0.2.1, slE eFromLabelTo p0.2.2] 0), (54, HV.ar 9054 v270101 eInt.k 0 0), (55, slE eInt p1)], [(9054, v270101, .arr eInt.k 3 [])]⟩ := by
          intro v270101
          refine l_step hF rfl [0, 3, 4] rfl rfl ⟨?_, ?_, ?_, trivial⟩
          · refine l_op rfl rfl rfl (o_val rfl (v_loadF ty24 rfl (l_litA rfl (Nat.le_of_ble_eq_true rfl) rfl)) ?_)
            exact b_nil (l_go hF rfl (g27_0_1_2 v270101) (AS.le_of ⟨rfl, rfl, rfl, rfl, rfl, rfl, trivial⟩ ⟨rfl, trivial⟩))
          · refine l_op rfl rfl rfl (o_appE eInt (l := []) (m := p1) rfl rfl ty25 ty25 ty3 rfl rfl rfl rfl rfl h270302 (fun v270301 => ?_))
            exact b_nil (l_go hF rfl (g27_1_2_3 v270101 v270301) (AS.le_of ⟨rfl, rfl, rfl, rfl, rfl, rfl, trivial⟩ ⟨rfl, trivial⟩))
          · refine l_op rfl rfl rfl (o_val rfl (mv_val rfl rfl).2 ?_)
            exact b_nil (l_go hF rfl (g27_1_2_4 v270101) (AS.le_of ⟨rfl, rfl, rfl, rfl, rfl, rfl, trivial⟩ ⟨rfl, trivial⟩))
        have g27_0_1 : ∀ (v270101 : Nat), F [0, 1] ⟨[(1, slE eInt p1), (2, HV.str p2), (3, HV.fptr [HV.int .i64 p0.1, HV.int .i64 p0.2.1, slE eFromLabelTo p0.2.2] 0), (53, HV.agg [HV.int .i64 p0.1, HV.int .i64 p0.2.1, slE eFromLabelTo p0.2.2]), (54, HV.ar 9054 v270101 eInt.k 0 0)], [(9054, v270101, .arr eInt.k 3 [])]⟩ := by
          intro v270101
          refine l_step hF rfl [2, 4] rfl rfl ⟨?_, ?_, trivial⟩
          · refine l_op rfl rfl rfl (o_val rfl (mv_val rfl rfl).2 ?_)
            exact b_nil (l_go hF rfl (g27_0_1_2 v270101) (AS.le_of ⟨rfl, rfl, rfl, rfl, rfl, rfl, trivial⟩ ⟨rfl, trivial⟩))
          · refine l_op rfl rfl rfl (o_val rfl (mv_val rfl rfl).2 ?_)
            exact b_nil (l_go hF rfl (g27_0_1_4 v270101) (AS.le_of ⟨rfl, rfl, rfl, rfl, rfl, rfl, trivial⟩ ⟨rfl, trivial⟩))
        have g27_0 : F [0] ⟨[(1, slE eInt p1), (2, HV.str p2), (3, HV.fptr [HV.int .i64 p0.1, HV.int .i64 p0.2.1, slE eFromLabelTo p0.2.2] 0), (53, HV.agg [HV.int .i64 p0.1, HV.int .i64 p0.2.1, slE eFromLabelTo p0.2.2])], []⟩ := by
          refine l_step hF rfl [1, 2, 4] rfl rfl ⟨?_, ?_, ?_, trivial⟩
          · refine l_op rfl rfl rfl (o_bslM (fid := 9) 9054 rfl rfl rfl (as_of (cs := []) ty25 ty3 rfl rfl rfl rfl rfl) (fun v270101 => ?_))
            exact b_nil (l_go hF rfl (g27_0_1 v270101) (AS.le_of ⟨rfl, rfl, rfl, rfl, rfl, trivial⟩ ⟨rfl, trivial⟩))
          · refine l_op rfl rfl rfl (o_val rfl (mv_val rfl rfl).2 ?_)
            exact b_nil (l_go hF rfl (g27_0_2) (AS.le_of ⟨rfl, rfl, rfl, rfl, rfl, trivial⟩ trivial))
          · refine l_op rfl rfl rfl (o_val rfl (mv_val rfl rfl).2 ?_)
            exact b_nil (l_go hF rfl (g27_0_4) (AS.le_of ⟨rfl, rfl, rfl, rfl, rfl, trivial⟩ trivial))
        have g27_1 : ∀ (v270101 : Nat), F [1] ⟨[(1, slE eInt p1), (2, HV.str p2), (3, HV.fptr [HV.int .i64 p0.1, HV.int .i64 p0.2.1, slE eFromLabelTo p0.2.2] 0), (54, HV.ar 9054 v270101 eInt.k 0 0)], [(9054, v270101, .arr eInt.k 3 [])]⟩ := by
          intro v270101
          refine l_step hF rfl [0, 2, 4] rfl rfl ⟨?_, ?_, ?_, trivial⟩
          · refine l_op rfl rfl rfl (o_val rfl (v_loadF ty24 rfl (l_litA rfl (Nat.le_of_ble_eq_true rfl) rfl)) ?_)
            exact b_nil (l_go hF rfl (g27_0_1 v270101) (AS.le_of ⟨rfl, rfl, rfl, rfl, rfl, trivial⟩ ⟨rfl, trivial⟩))
          · refine l_op rfl rfl rfl (o_val rfl (mv_val rfl rfl).2 ?_)
            exact b_nil (l_go hF rfl (g27_1_2 v270101) (AS.le_of ⟨rfl, rfl, rfl, rfl, rfl, trivial⟩ ⟨rfl, trivial⟩))
          · refine l_op rfl rfl rfl (o_val rfl (mv_val rfl rfl).2 ?_)
            exact b_nil (l_go hF rfl (g27_1_4 v270101) (AS.le_of ⟨rfl, rfl, rfl, rfl, rfl, trivial⟩ ⟨rfl, trivial⟩))
        have g27_2 : F [2] ⟨[(1, slE eInt p1), (2, HV.str p2), (3, HV.fptr [HV.int .i64 p0.1, HV.int .i64 p0.2.1, slE eFromLabelTo p0.2.2] 0), (55, slE eInt p1)], []⟩ := by
          refine l_step hF rfl [0, 1, 4] rfl rfl ⟨?_, ?_, ?_, trivial⟩
          · refine l_op rfl rfl rfl (o_val rfl (v_loadF ty24 rfl (l_litA rfl (Nat.le_of_ble_eq_true rfl) rfl)) ?_)
            exact b_nil (l_go hF rfl (g27_0_2) (AS.le_of ⟨rfl, rfl, rfl, rfl, rfl, trivial⟩ trivial))
          · refine l_op rfl rfl rfl (o_bslM (fid := 9) 9054 rfl rfl rfl (as_of (cs := []) ty25 ty3 rfl rfl rfl rfl rfl) (fun v270101 => ?_))
            exact b_nil (l_go hF rfl (g27_1_2 v270101) (AS.le_of ⟨rfl, rfl, rfl, rfl, rfl, trivial⟩ ⟨rfl, trivial⟩))
          · refine l_op rfl rfl rfl (o_val rfl (mv_val rfl rfl).2 ?_)
            exact b_nil (l_go hF rfl (g27_2_4) (AS.le_of ⟨rfl, rfl, rfl, rfl, rfl, trivial⟩ trivial))
        have g27_4 : F [4] ⟨[(1, slE eInt p1), (2, HV.str p2), (3, HV.fptr [HV.int .i64 p0.1, HV.int .i64 p0.2.1, slE eFromLabelTo p0.2.2] 0), (57, HV.str p2)], []⟩ := by
          refine l_step hF rfl [0, 1, 2] rfl rfl ⟨?_, ?_, ?_, trivial⟩
          · refine l_op rfl rfl rfl (o_val rfl (v_loadF ty24 rfl (l_litA rfl (Nat.le_of_ble_eq_true rfl) rfl)) ?_)
            exact b_nil (l_go hF rfl (g27_0_4) (AS.le_of ⟨rfl, rfl, rfl, rfl, rfl, trivial⟩ trivial))
          · refine l_op rfl rfl rfl (o_bslM (fid := 9) 9054 rfl rfl rfl (as_of (cs := []) ty25 ty3 rfl rfl rfl rfl rfl) (fun v270101 => ?_))
            exact b_nil (l_go hF rfl (g27_1_4 v270101) (AS.le_of ⟨rfl, rfl, rfl, rfl, rfl, trivial⟩ ⟨rfl, trivial⟩))
          · refine l_op rfl rfl rfl (o_val rfl (mv_val rfl rfl).2 ?_)
            exact b_nil (l_go hF rfl (g27_2_4) (AS.le_of ⟨rfl, rfl, rfl, rfl, rfl, trivial⟩ trivial))
        have g27_e : F [] ⟨[(1, slE eInt p1), (2, HV.str p2), (3, HV.fptr [HV.int .i64 p0.1, HV.int .i64 p0.2.1, slE eFromLabelTo p0.2.2] 0)], []⟩ := by
          refine l_step hF rfl [0, 1, 2, 4] rfl rfl ⟨?_, ?_, ?_, ?_, trivial⟩
          · refine l_op rfl rfl rfl (o_val rfl (v_loadF ty24 rfl (l_litA rfl (Nat.le_of_ble_eq_true rfl) rfl)) ?_)
            exact b_nil (l_go hF rfl (g27_0) (AS.le_of ⟨rfl, rfl, rfl, rfl, trivial⟩ trivial))
          · refine l_op rfl rfl rfl (o_bslM (fid := 9) 9054 rfl rfl rfl (as_of (cs := []) ty25 ty3 rfl rfl rfl rfl rfl) (fun v270101 => ?_))
            exact b_nil (l_go hF rfl (g27_1 v270101) (AS.le_of ⟨rfl, rfl, rfl, rfl, trivial⟩ ⟨rfl, trivial⟩))
          · refine l_op rfl rfl rfl (o_val rfl (mv_val rfl rfl).2 ?_)
            exact b_nil (l_go hF rfl (g27_2) (AS.le_of ⟨rfl, rfl, rfl, rfl, trivial⟩ trivial))
          · refine l_op rfl rfl rfl (o_val rfl (mv_val rfl rfl).2 ?_)
            exact b_nil (l_go hF rfl (g27_4) (AS.le_of ⟨rfl, rfl, rfl, rfl, trivial⟩ trivial))
        exact g27_e
      · refine AW.seq ?_
        refine AW.rgs rfl fun K hK => ?_
        refine mv rfl rfl ?_
        refine mv rfl rfl ?_
        refine bv rfl (v_lenF rfl rfl ty25 rfl) ?_
        refine bv rfl (v_bin rfl rfl b_lss) ?_
        refine b_nil (hK _ (AW.to (to_le (s' := ⟨[(1, slE eInt p1), (2, HV.str p2), (3, HV.fptr [HV.int .i64 p0.1, HV.int .i64 p0.2.1, slE eFromLabelTo p0.2.2] 0), (10, HV.int .i64 a17), (40, HV.bool (decide (a17 < ((p1).length : Int))))], []⟩) (AS.le_of ⟨rfl, rfl, rfl, rfl, rfl, trivial⟩ trivial) ?_)))
        clear hK K
        refine AW.cond rfl (fun hc => ?_) (fun hc => ?_)
        · have hc := of_decide_eq_true hc
          have h := ifT hc h
          refine AW.skip ?_
          refine AW.seq (AW.block ?_)
          refine AW.dgs 10 follows rfl rfl fun K hK => ?_
          refine sm rfl rfl ?_
          refine sm rfl rfl ?_
          refine sv rfl (v_bin rfl rfl b_sub) ?_
          obtain ⟨x21, h22, h⟩ := bS h
          refine sv rfl (v_idxF ty25 es25 rfl rfl (idx_lt h22)) ?_
          refine sv rfl (v_loadF ty3 rfl (l_cell eInt h22 (o := 0) rfl rfl)) ?_
          refine sm rfl rfl ?_
          refine sm rfl rfl ?_
          obtain ⟨x23, h24, h⟩ := bS h
          refine sv rfl (v_idxF ty25 es25 rfl rfl (idx_lt h24)) ?_
          refine sv rfl (v_loadF ty3 rfl (l_cell eInt h24 (o := 0) rfl rfl)) ?_
          refine sv rfl (v_bin rfl rfl b_geq) ?_
          refine s_nil ?_
          refine b_nil (hK _ (AW.to (to_le (s' := ⟨[(1, slE eInt p1), (2, HV.str p2), (3, HV.fptr [HV.int .i64 p0.1, HV.int .i64 p0.2.1, slE eFromLabelTo p0.2.2] 0), (10, HV.int .i64 a17), (52, HV.bool (decide (x23 ≤ x21)))], []⟩) (AS.le_of ⟨rfl, rfl, rfl, rfl, rfl, trivial⟩ trivial) ?_)))
          clear hK K
          refine AW.cond rfl (fun hc => ?_) (fun hc => ?_)
          · have hc := of_decide_eq_true hc
            have h := ifT hc h
            refine AW.rgs rfl fun K hK => ?_
            refine mv rfl rfl ?_
            refine mv rfl rfl ?_
            refine b_nil (hK _ (AW.to (to_le (s' := ⟨[(6, HV.v (.slice none 0 0)), (7, HV.int .i64 10)], []⟩) (AS.le_of ⟨rfl, rfl, trivial⟩ trivial) ?_)))
            clear hK K
            have h := hr20 _ h
            refine AW.to (to_weak ⟨[(6, slE eInt ([] : List Int)), (7, HV.int .i64 10)], []⟩ ⟨⟨_, rfl, .nil _⟩, ⟨_, rfl, .refl _⟩, trivial⟩ trivial ?_)
            refine AW.ret ?_
            have h := Option.some.inj h
            subst h
            exact ret_pure (hs := [slE eInt ([] : List Int), HV.int .i64 10]) (q := HV.tup [slE eInt ([] : List Int), HV.int .i64 10]) (.inr rfl) (resT rfl (resT rfl rfl)) rfl ⟨(clean_slE fun _ _ => ⟨trivial, trivial⟩), trivial, trivial⟩
          · have hc := of_decide_eq_false hc
            have h := ifF hc h
            refine AW.skip ?_
            refine AW.rg rfl fun K hK => ?_
            refine mv rfl rfl ?_
            refine bv rfl (v_bin rfl rfl b_add) ?_
            refine mv rfl rfl ?_
            refine b_nil (hK _ ?_)
            clear hK K
            exact to_le (s' := ⟨[(1, slE eInt p1), (2, HV.str p2), (3, HV.fptr [HV.int .i64 p0.1, HV.int .i64 p0.2.1, slE eFromLabelTo p0.2.2] 0), (10, HV.int .i64 (IntKind.wrap .i64 (a17 + 1)))], []⟩) (AS.le_of ⟨rfl, rfl, rfl, rfl, trivial⟩ trivial) ⟨IntKind.wrap .i64 (a17 + 1), (), h, rfl⟩
        · have hc := of_decide_eq_false hc
          have h := ifF hc h
          refine AW.exit ?_
          exact to_le (s' := ⟨[(1, slE eInt p1), (2, HV.str p2), (3, HV.fptr [HV.int .i64 p0.1, HV.int .i64 p0.2.1, slE eFromLabelTo p0.2.2] 0)], []⟩) (AS.le_of ⟨rfl, rfl, rfl, trivial⟩ trivial) ⟨(), (), h, rfl⟩
    · refine AW.seq ?_
      refine AW.rgs rfl fun K hK => ?_
      refine mv rfl rfl ?_
      refine mv rfl rfl ?_
      refine bv rfl (v_lenF rfl rfl ty25 rfl) ?_
      refine bv rfl (v_bin rfl rfl b_lss) ?_
      refine b_nil (hK _ (AW.to (to_le (s' := ⟨[(1, slE eInt p1), (2, HV.str p2), (3, HV.fptr [HV.int .i64 p0.1, HV.int .i64 p0.2.1, slE eFromLabelTo p0.2.2] 0), (9, HV.int .i64 a3), (20, HV.bool (decide (a3 < ((p1).length : Int))))], []⟩) (AS.le_of ⟨rfl, rfl, rfl, rfl, rfl, trivial⟩ trivial) ?_)))
      clear hK K
      refine AW.cond rfl (fun hc => ?_) (fun hc => ?_)
      · have hc := of_decide_eq_true hc
        have h := ifT hc h
        refine AW.skip ?_
        refine AW.seq (AW.block ?_)
        refine AW.seqJ h (S := Bool) (V := Unit) (fun a v => ⟨[(1, slE eInt p1), (2, HV.str p2), (3, HV.fptr [HV.int .i64 p0.1, HV.int .i64 p0.2.1, slE eFromLabelTo p0.2.2] 0), (9, HV.int .i64 a3), (36, HV.bool a)], []⟩) (fun a7 w8 h => ?_) (fun k9 h => ?_)
        · refine AW.cond rfl (fun hc => ?_) (fun hc => ?_)
          · have h := ifT hc h
            refine AW.rgs rfl fun K hK => ?_
            refine mv rfl rfl ?_
            refine mv rfl rfl ?_
            refine b_nil (hK _ (AW.to (to_le (s' := ⟨[(6, HV.v (.slice none 0 0)), (7, HV.int .i64 25)], []⟩) (AS.le_of ⟨rfl, rfl, trivial⟩ trivial) ?_)))
            clear hK K
            have h := hr6 _ h
            refine AW.to (to_weak ⟨[(6, slE eInt ([] : List Int)), (7, HV.int .i64 25)], []⟩ ⟨⟨_, rfl, .nil _⟩, ⟨_, rfl, .refl _⟩, trivial⟩ trivial ?_)
            refine AW.ret ?_
            have h := Option.some.inj h
            subst h
            exact ret_pure (hs := [slE eInt ([] : List Int), HV.int .i64 25]) (q := HV.tup [slE eInt ([] : List Int), HV.int .i64 25]) (.inr rfl) (resT rfl (resT rfl rfl)) rfl ⟨(clean_slE fun _ _ => ⟨trivial, trivial⟩), trivial, trivial⟩
          · have h := ifF (bF' hc) h
            refine AW.skip ?_
            refine AW.rg rfl fun K hK => ?_
            refine mv rfl rfl ?_
            refine bv rfl (v_bin rfl rfl b_add) ?_
            refine mv rfl rfl ?_
            refine b_nil (hK _ ?_)
            clear hK K
            exact to_le (s' := ⟨[(1, slE eInt p1), (2, HV.str p2), (3, HV.fptr [HV.int .i64 p0.1, HV.int .i64 p0.2.1, slE eFromLabelTo p0.2.2] 0), (9, HV.int .i64 (IntKind.wrap .i64 (a3 + 1)))], []⟩) (AS.le_of ⟨rfl, rfl, rfl, rfl, trivial⟩ trivial) ⟨IntKind.wrap .i64 (a3 + 1), (), h, rfl⟩
        · refine AW.dg 14 follows rfl rfl fun K hK => ?_
          refine sm rfl rfl ?_
          refine sm rfl rfl ?_
          obtain ⟨x10, h11, h⟩ := bS h
          refine sv rfl (v_idxF ty25 es25 rfl rfl (idx_lt h11)) ?_
          refine sv rfl (v_loadF ty3 rfl (l_cell eInt h11 (o := 0) rfl rfl)) ?_
          refine sv rfl (v_bin rfl rfl b_lss) ?_
          refine sm rfl rfl ?_
          by_cases hg14 : x10 < 0
          · have h := ifT hg14 h
            refine s_F rfl rfl rfl rfl rfl (decide_eq_true hg14) ?_
            refine s_F rfl rfl rfl rfl rfl rfl ?_
            refine s_F rfl rfl rfl rfl rfl rfl ?_
            refine s_F rfl rfl rfl rfl rfl rfl ?_
            refine s_F rfl rfl rfl rfl rfl rfl ?_
            refine s_F rfl rfl rfl rfl rfl rfl ?_
            refine s_F rfl rfl rfl rfl rfl rfl ?_
            refine sv rfl (v_pickT rfl rfl rfl) ?_
            refine s_nil ?_
            refine b_nil (hK _ ?_)
            clear hK K
            exact to_le (s' := ⟨[(1, slE eInt p1), (2, HV.str p2), (3, HV.fptr [HV.int .i64 p0.1, HV.int .i64 p0.2.1, slE eFromLabelTo p0.2.2] 0), (9, HV.int .i64 a3), (36, HV.bool true)], []⟩) (AS.le_of ⟨rfl, rfl, rfl, rfl, rfl, trivial⟩ trivial) ⟨true, (), h, rfl⟩
          · have h := ifF hg14 h
            refine s_T rfl rfl rfl rfl rfl (decide_eq_false hg14) (ops_val rfl (mv_val rfl rfl).2 ?_)
            refine s_T rfl rfl rfl rfl rfl rfl (ops_val rfl (mv_val rfl rfl).2 ?_)
            obtain ⟨x12, h13, h⟩ := bS h
            refine s_T rfl rfl rfl rfl rfl rfl (ops_val rfl (v_idxF ty25 es25 rfl rfl (idx_lt h13)) ?_)
            refine s_T rfl rfl rfl rfl rfl rfl (ops_val rfl (v_loadF ty3 rfl (l_cell eInt h13 (o := 0) rfl rfl)) ?_)
            refine s_T rfl rfl rfl rfl rfl rfl (ops_val rfl (v_fieldAddrF fo24_1 rfl) ?_)
            refine s_T rfl rfl rfl rfl rfl rfl (ops_val rfl (v_loadF ty3 rfl (l_lit rfl rfl)) ?_)
            refine s_T rfl rfl rfl rfl rfl rfl (ops_val rfl (v_bin rfl rfl b_geq) ?_)
            refine sv rfl (v_pickF rfl rfl rfl) ?_
            refine s_nil ?_
            refine b_nil (hK _ ?_)
            clear hK K
            exact to_le (s' := ⟨[(1, slE eInt p1), (2, HV.str p2), (3, HV.fptr [HV.int .i64 p0.1, HV.int .i64 p0.2.1, slE eFromLabelTo p0.2.2] 0), (9, HV.int .i64 a3), (36, HV.bool (decide (p0.2.1 ≤ x12)))], []⟩) (AS.le_of ⟨rfl, rfl, rfl, rfl, rfl, trivial⟩ trivial) ⟨decide (p0.2.1 ≤ x12), (), h, rfl⟩
      · have hc := of_decide_eq_false hc
        have h := ifF hc h
        refine AW.exit ?_
        exact to_le (s' := ⟨[(1, slE eInt p1), (2, HV.str p2), (3, HV.fptr [HV.int .i64 p0.1, HV.int .i64 p0.2.1, slE eFromLabelTo p0.2.2] 0)], []⟩) (AS.le_of ⟨rfl, rfl, rfl, trivial⟩ trivial) ⟨(), (), h, rfl⟩

set_option maxHeartbeats 1600000 in
set_option maxRecDepth 100000 in
theorem w_language_Letters {p0 : TLabelsStatesEdges} {p1 : List UInt8} {r : (List UInt8) × Int} (h : m_language_Letters p0 p1 = some r) : Pure Tryz.prog 10 [HV.agg [HV.int .i64 p0.1, HV.int .i64 p0.2.1, slE eFromLabelTo p0.2.2], HV.str p1] (· = HV.tup [HV.str r.1, HV.int .i64 r.2]) := by
  unfold m_language_Letters at h
  refine Pure.of_body Tryz.func10 rfl rfl (Nat.le_of_ble_eq_true rfl) fun hf => ?_
  unfold Tryz.f10
  dsimp only [enumS, Nat.reduceAdd]
  refine AW.rgs rfl fun K hK => ?_
  refine b_op rfl (o_box rfl rfl rfl ?_)
  refine mv rfl rfl ?_
  refine mv rfl rfl ?_
  refine b_nil (hK _ (AW.to (to_le (s' := ⟨[(1, HV.str p1), (2, HV.fptr [HV.int .i64 p0.1, HV.int .i64 p0.2.1, slE eFromLabelTo p0.2.2] 0)], []⟩) (AS.le_of ⟨rfl, rfl, trivial⟩ trivial) ?_)))
  clear hK K
  refine AW.seq ?_
  refine AW.rgs rfl fun K hK => ?_
  refine bv rfl (v_loadF ty24 rfl (l_litA rfl (Nat.le_of_ble_eq_true rfl) rfl)) ?_
  refine mv rfl rfl ?_
  obtain ⟨x1, h2, h⟩ := bS h
  refine b_op rfl (o_call rfl rfl rfl rfl (ACallD.pure0 (w_language_spells h2)) ?_)
  refine mv rfl rfl ?_
  refine b_nil (hK _ (AW.to (to_le (s' := ⟨[(1, HV.str p1), (2, HV.fptr [HV.int .i64 p0.1, HV.int .i64 p0.2.1, slE eFromLabelTo p0.2.2] 0), (6, HV.int .i64 x1)], []⟩) (AS.le_of ⟨rfl, rfl, rfl, trivial⟩ trivial) ?_)))
  clear hK K
  refine AW.rgs rfl fun K hK => ?_
  refine mv rfl rfl ?_
  refine bv rfl (v_bin rfl rfl b_neq) ?_
  refine b_nil (hK _ (AW.to (to_le (s' := ⟨[(1, HV.str p1), (2, HV.fptr [HV.int .i64 p0.1, HV.int .i64 p0.2.1, slE eFromLabelTo p0.2.2] 0), (6, HV.int .i64 x1), (12, HV.bool (decide (x1 ≠ 0)))], []⟩) (AS.le_of ⟨rfl, rfl, rfl, rfl, trivial⟩ trivial) ?_)))
  clear hK K
  refine AW.cond rfl (fun hc => ?_) (fun hc => ?_)
  · have hc := of_decide_eq_true hc
    have h := ifT hc h
    refine AW.rgs rfl fun K hK => ?_
    refine mv rfl rfl ?_
    refine mv rfl rfl ?_
    refine mv rfl rfl ?_
    refine b_nil (hK _ (AW.to (to_le (s' := ⟨[(4, HV.str ([] : List UInt8)), (5, HV.int .i64 x1)], []⟩) (AS.le_of ⟨rfl, rfl, trivial⟩ trivial) ?_)))
    clear hK K
    refine AW.ret ?_
    have h := Option.some.inj h
    subst h
    exact ret_pure (hs := [HV.str ([] : List UInt8), HV.int .i64 x1]) (q := HV.tup [HV.str ([] : List UInt8), HV.int .i64 x1]) (.inr rfl) (resT rfl (resT rfl rfl)) rfl ⟨trivial, trivial, trivial⟩
  · have hc := of_decide_eq_false hc
    have h := ifF hc h
    refine AW.skip ?_
    refine AW.rgs rfl fun K hK => ?_
    refine b_op rfl (o_alloc (fid := 10) (zs := [HV.v (.pointer none), HV.v (.slice none 0 0)]) 10007 rfl rfl ty56 rfl (fun v3 => ?_))
    refine b_to (to_ownC 10507 10007 v3 2 1 1 5 56 rfl rfl (by decide) fun v4 => ?_)
    refine b_nil (hK _ (AW.to (to_le (s' := ⟨[(1, HV.str p1), (2, HV.fptr [HV.int .i64 p0.1, HV.int .i64 p0.2.1, slE eFromLabelTo p0.2.2] 0), (7, HV.ptr 10007 v3 0)], [(10007, v3, bldO 10007 v3 10507 v4 false ([] : List UInt8)), (10507, v4, bytO ([] : List UInt8))]⟩) (AS.le_of ⟨rfl, rfl, rfl, trivial⟩ ⟨rfl, rfl, trivial⟩) ?_)))
    clear hK K
    refine AW.dgs 7 follows rfl rfl fun K hK => ?_
    refine sv rfl (v_loadF ty24 rfl (l_litA rfl (Nat.le_of_ble_eq_true rfl) rfl)) ?_
    refine sv rfl (v_loadF ty24 rfl (l_litA rfl (Nat.le_of_ble_eq_true rfl) rfl)) ?_
    refine sv rfl (v_loadF ty24 rfl (l_litA rfl (Nat.le_of_ble_eq_true rfl) rfl)) ?_
    obtain ⟨x5, h6, h⟩ := bS h
    refine s_op rfl rfl (ops_call rfl rfl rfl rfl (ACallD.pure0 (w_language_states h6)) ?_)
    refine sm rfl rfl ?_
    obtain ⟨x7, h8, h⟩ := bS h
    refine s_op rfl rfl (ops_call rfl rfl rfl rfl (ACallD.pure0 (w_language_ends h8)) ?_)
    refine sv rfl (v_func rfl rfl) ?_
    refine s_nil ?_
    obtain ⟨x10, h11, h⟩ := bS h
    obtain ⟨h12, h⟩ := ifN h
    refine b_op rfl (o_callA rfl rfl rfl rfl (c_collect (id := 10007) (ver := v3) (aid := 10507) (aver := v4) (u := false) (l := ([] : List UInt8)) (by decide) rfl rfl h11 h12 fun v13 v9 => ?_) )
    refine b_nil (hK _ (AW.to (to_le (s' := ⟨[(7, HV.ptr 10007 v3 0)], [(10007, v3, bldO 10007 v3 10507 v9 v13 (([] : List UInt8) ++ x10)), (10507, v9, bytO (([] : List UInt8) ++ x10))]⟩) (AS.le_of ⟨rfl, trivial⟩ ⟨rfl, rfl, trivial⟩) ?_)))
    clear hK K
    refine AW.rgs rfl fun K hK => ?_
    refine b_op rfl (o_callA rfl rfl rfl rfl (c_String (id := 10007) (ver := v3) (aid := 10507) (aver := v9) (u := v13) (l := ([] : List UInt8) ++ x10) rfl rfl fun v14 => ?_) )
    refine mv rfl rfl ?_
    refine mv rfl rfl ?_
    refine b_nil (hK _ (AW.to (to_le (s' := ⟨[(4, HV.str (([] : List UInt8) ++ x10)), (5, HV.int .i64 0)], []⟩) (AS.le_of ⟨rfl, rfl, trivial⟩ trivial) ?_)))
    clear hK K
    refine AW.ret ?_
    have h := Option.some.inj h
    subst h
    exact ret_pure (hs := [HV.str (([] : List UInt8) ++ x10), HV.int .i64 0]) (q := HV.tup [HV.str (([] : List UInt8) ++ x10), HV.int .i64 0]) (.inr rfl) (resT rfl (resT rfl rfl)) rfl ⟨trivial, trivial, trivial⟩

set_option maxHeartbeats 1600000 in
set_option maxRecDepth 100000 in
theorem w_ref11_Letters {p0 : TLabelsStatesEdges} {p1 : List UInt8} {r : (List UInt8) × Int} (h : m_ref11_Letters p0 p1 = some r) : Pure Tryz.prog 11 [HV.agg [HV.int .i64 p0.1, HV.int .i64 p0.2.1, slE eFromLabelTo p0.2.2], HV.str p1] (· = HV.tup [HV.str r.1, HV.int .i64 r.2]) := by
  unfold m_ref11_Letters at h
  refine Pure.of_body Tryz.func11 rfl rfl (Nat.le_of_ble_eq_true rfl) fun hf => ?_
  unfold Tryz.f11
  dsimp only [enumS, Nat.reduceAdd]
  refine AW.rgs rfl fun K hK => ?_
  refine b_op rfl (o_box rfl rfl rfl ?_)
  refine mv rfl rfl ?_
  refine mv rfl rfl ?_
  refine b_nil (hK _ (AW.to (to_le (s' := ⟨[(1, HV.str p1), (2, HV.fptr [HV.int .i64 p0.1, HV.int .i64 p0.2.1, slE eFromLabelTo p0.2.2] 0)], []⟩) (AS.le_of ⟨rfl, rfl, trivial⟩ trivial) ?_)))
  clear hK K
  refine AW.seq ?_
  refine AW.rgs rfl fun K hK => ?_
  refine bv rfl (v_loadF ty24 rfl (l_litA rfl (Nat.le_of_ble_eq_true rfl) rfl)) ?_
  refine mv rfl rfl ?_
  obtain ⟨x1, h2, h⟩ := bS h
  refine b_op rfl (o_call rfl rfl rfl rfl (ACallD.pure0 (w_ref11_checkWord h2)) ?_)
  refine mv rfl rfl ?_
  refine b_nil (hK _ (AW.to (to_le (s' := ⟨[(1, HV.str p1), (2, HV.fptr [HV.int .i64 p0.1, HV.int .i64 p0.2.1, slE eFromLabelTo p0.2.2] 0), (6, HV.int .i64 x1)], []⟩) (AS.le_of ⟨rfl, rfl, rfl, trivial⟩ trivial) ?_)))
  clear hK K
  refine AW.rgs rfl fun K hK => ?_
  refine mv rfl rfl ?_
  refine bv rfl (v_bin rfl rfl b_neq) ?_
  refine b_nil (hK _ (AW.to (to_le (s' := ⟨[(1, HV.str p1), (2, HV.fptr [HV.int .i64 p0.1, HV.int .i64 p0.2.1, slE eFromLabelTo p0.2.2] 0), (6, HV.int .i64 x1), (14, HV.bool (decide (x1 ≠ 0)))], []⟩) (AS.le_of ⟨rfl, rfl, rfl, rfl, trivial⟩ trivial) ?_)))
  clear hK K
  refine AW.cond rfl (fun hc => ?_) (fun hc => ?_)
  · have hc := of_decide_eq_true hc
    have h := ifT hc h
    refine AW.rgs rfl fun K hK => ?_
    refine mv rfl rfl ?_
    refine mv rfl rfl ?_
    refine mv rfl rfl ?_
    refine b_nil (hK _ (AW.to (to_le (s' := ⟨[(4, HV.str ([] : List UInt8)), (5, HV.int .i64 x1)], []⟩) (AS.le_of ⟨rfl, rfl, trivial⟩ trivial) ?_)))
    clear hK K
    refine AW.ret ?_
    have h := Option.some.inj h
    subst h
    exact ret_pure (hs := [HV.str ([] : List UInt8), HV.int .i64 x1]) (q := HV.tup [HV.str ([] : List UInt8), HV.int .i64 x1]) (.inr rfl) (resT rfl (resT rfl rfl)) rfl ⟨trivial, trivial, trivial⟩
  · have hc := of_decide_eq_false hc
    have h := ifF hc h
    refine AW.skip ?_
    refine AW.dgs 6 follows rfl rfl fun K hK => ?_
    refine sv rfl (v_loadF ty24 rfl (l_litA rfl (Nat.le_of_ble_eq_true rfl) rfl)) ?_
    refine sv rfl (v_loadF ty24 rfl (l_litA rfl (Nat.le_of_ble_eq_true rfl) rfl)) ?_
    obtain ⟨x3, h4, h⟩ := bS h
    refine s_op rfl rfl (ops_call rfl rfl rfl rfl (ACallD.pure0 (w_ref11_All h4)) ?_)
    refine sm rfl rfl ?_
    obtain ⟨x5, h6, h⟩ := bS h
    refine s_op rfl rfl (ops_call rfl rfl rfl rfl (ACallD.pure0 (w_ref11_ends h6)) ?_)
    refine sm rfl rfl ?_
    refine s_nil ?_
    refine b_nil (hK _ (AW.to (to_le (s' := ⟨[(2, HV.fptr [HV.int .i64 p0.1, HV.int .i64 p0.2.1, slE eFromLabelTo p0.2.2] 0), (7, slE eInt x5)], []⟩) (AS.le_of ⟨rfl, rfl, trivial⟩ trivial) ?_)))
    clear hK K
    refine AW.rgs rfl fun K hK => ?_
    refine mv rfl rfl ?_
    refine b_nil (hK _ (AW.to (to_le (s' := ⟨[(2, HV.fptr [HV.int .i64 p0.1, HV.int .i64 p0.2.1, slE eFromLabelTo p0.2.2] 0), (7, slE eInt x5), (8, HV.str ([] : List UInt8))], []⟩) (AS.le_of ⟨rfl, rfl, rfl, trivial⟩ trivial) ?_)))
    clear hK K
    refine AW.seq ?_
    refine AW.rgs rfl fun K hK => ?_
    refine mv rfl rfl ?_
    refine b_nil (hK _ (AW.to (to_le (s' := ⟨[(2, HV.fptr [HV.int .i64 p0.1, HV.int .i64 p0.2.1, slE eFromLabelTo p0.2.2] 0), (7, slE eInt x5), (8, HV.str ([] : List UInt8)), (9, HV.int .i64 0)], []⟩) (AS.le_of ⟨rfl, rfl, rfl, rfl, trivial⟩ trivial) ?_)))
    clear hK K
    refine AW.lpX h (by first | exact up_then | exact up_to) (S := (List UInt8) × Int) (V := Unit) (fun a v => ⟨[(2, HV.fptr [HV.int .i64 p0.1, HV.int .i64 p0.2.1, slE eFromLabelTo p0.2.2] 0), (7, slE eInt x5), (8, HV.str a.1), (9, HV.int .i64 a.2)], []⟩) ?_ (X := (List UInt8)) (W := Unit) (fun a v => ⟨[(8, HV.str a)], []⟩) (fun a18 w19 h => ?_) (fun a7 w8 st9 h => ?_)
    · exact to_le (s' := ⟨[(2, HV.fptr [HV.int .i64 p0.1, HV.int .i64 p0.2.1, slE eFromLabelTo p0.2.2] 0), (7, slE eInt x5), (8, HV.str ([] : List UInt8)), (9, HV.int .i64 0)], []⟩) (AS.le_of ⟨rfl, rfl, rfl, rfl, trivial⟩ trivial) ⟨(), rfl⟩
    · refine AW.rgs rfl fun K hK => ?_
      refine mv rfl rfl ?_
      refine mv rfl rfl ?_
      refine mv rfl rfl ?_
      refine b_nil (hK _ (AW.to (to_le (s' := ⟨[(4, HV.str a18), (5, HV.int .i64 0)], []⟩) (AS.le_of ⟨rfl, rfl, trivial⟩ trivial) ?_)))
      clear hK K
      refine AW.ret ?_
      have h := Option.some.inj h
      subst h
      exact ret_pure (hs := [HV.str a18, HV.int .i64 0]) (q := HV.tup [HV.str a18, HV.int .i64 0]) (.inr rfl) (resT rfl (resT rfl rfl)) rfl ⟨trivial, trivial, trivial⟩
    · refine AW.seq ?_
      refine AW.rgs rfl fun K hK => ?_
      refine mv rfl rfl ?_
      refine bv rfl (v_fieldAddrF fo24_0 rfl) ?_
      refine bv rfl (v_loadF ty3 rfl (l_lit rfl rfl)) ?_
      refine bv rfl (v_bin rfl rfl b_lss) ?_
      refine b_nil (hK _ (AW.to (to_le (s' := ⟨[(2, HV.fptr [HV.int .i64 p0.1, HV.int .i64 p0.2.1, slE eFromLabelTo p0.2.2] 0), (7, slE eInt x5), (8, HV.str a7.1), (9, HV.int .i64 a7.2), (24, HV.bool (decide (a7.2 < p0.1)))], []⟩) (AS.le_of ⟨rfl, rfl, rfl, rfl, rfl, trivial⟩ trivial) ?_)))
      clear hK K
      refine AW.cond rfl (fun hc => ?_) (fun hc => ?_)
      · have hc := of_decide_eq_true hc
        have h := ifT hc h
        refine AW.skip ?_
        refine AW.seqJ h (S := (List UInt8)) (V := Unit) (fun a v => ⟨[(2, HV.fptr [HV.int .i64 p0.1, HV.int .i64 p0.2.1, slE eFromLabelTo p0.2.2] 0), (7, slE eInt x5), (8, HV.str a), (9, HV.int .i64 a7.2)], []⟩) (fun a11 w12 h => ?_) (fun k13 h => ?_)
        · refine AW.rg rfl fun K hK => ?_
          refine mv rfl rfl ?_
          refine bv rfl (v_bin rfl rfl b_add) ?_
          refine mv rfl rfl ?_
          refine b_nil (hK _ ?_)
          clear hK K
          exact to_le (s' := ⟨[(2, HV.fptr [HV.int .i64 p0.1, HV.int .i64 p0.2.1, slE eFromLabelTo p0.2.2] 0), (7, slE eInt x5), (8, HV.str a11), (9, HV.int .i64 (IntKind.wrap .i64 (a7.2 + 1)))], []⟩) (AS.le_of ⟨rfl, rfl, rfl, rfl, trivial⟩ trivial) ⟨(a11, IntKind.wrap .i64 (a7.2 + 1)), (), h, rfl⟩
        · refine AW.block ?_
          refine AW.rgs rfl fun K hK => ?_
          refine bv rfl (v_loadF ty24 rfl (l_litA rfl (Nat.le_of_ble_eq_true rfl) rfl)) ?_
          refine mv rfl rfl ?_
          refine mv rfl rfl ?_
          obtain ⟨x14, h15, h⟩ := bS h
          refine b_op rfl (o_call rfl rfl rfl rfl (ACallD.pure0 (w_ref11_Step h15)) ?_)
          refine bv rfl (v_lenF rfl rfl ty25 rfl) ?_
          refine bv rfl (v_bin rfl rfl b_gtr) ?_
          refine b_nil (hK _ (AW.to (to_le (s' := ⟨[(2, HV.fptr [HV.int .i64 p0.1, HV.int .i64 p0.2.1, slE eFromLabelTo p0.2.2] 0), (7, slE eInt x5), (8, HV.str a7.1), (9, HV.int .i64 a7.2), (32, HV.bool (decide (0 < ((x14).length : Int))))], []⟩) (AS.le_of ⟨rfl, rfl, rfl, rfl, rfl, trivial⟩ trivial) ?_)))
          clear hK K
          refine AW.cond rfl (fun hc => ?_) (fun hc => ?_)
          · have hc := of_decide_eq_true hc
            have h := ifT hc h
            refine AW.rg rfl fun K hK => ?_
            refine mv rfl rfl ?_
            refine mv rfl rfl ?_
            refine mv rfl rfl ?_
            refine bv rfl (v_bin rfl rfl b_add) ?_
            obtain ⟨h16, h⟩ := ifN h
            refine bv rfl (v_sliceS ty9 rfl rfl rfl h16) ?_
            obtain ⟨h17, h⟩ := ifN h
            refine bv rfl (v_bin rfl rfl (b_sadd h17)) ?_
            refine mv rfl rfl ?_
            refine b_nil (hK _ ?_)
            clear hK K
            exact to_le (s' := ⟨[(2, HV.fptr [HV.int .i64 p0.1, HV.int .i64 p0.2.1, slE eFromLabelTo p0.2.2] 0), (7, slE eInt x5), (8, HV.str (a7.1 ++ ((([48, 49, 50, 51, 52, 53, 54, 55, 56, 57, 97, 98, 99, 100, 101, 102] : List UInt8).take (IntKind.wrap .i64 (a7.2 + 1)).toNat).drop (a7.2).toNat))), (9, HV.int .i64 a7.2)], []⟩) (AS.le_of ⟨rfl, rfl, rfl, rfl, trivial⟩ trivial) ⟨a7.1 ++ ((([48, 49, 50, 51, 52, 53, 54, 55, 56, 57, 97, 98, 99, 100, 101, 102] : List UInt8).take (IntKind.wrap .i64 (a7.2 + 1)).toNat).drop (a7.2).toNat), (), h, rfl⟩
          · have hc := of_decide_eq_false hc
            have h := ifF hc h
            refine AW.skip ?_
            exact to_le (s' := ⟨[(2, HV.fptr [HV.int .i64 p0.1, HV.int .i64 p0.2.1, slE eFromLabelTo p0.2.2] 0), (7, slE eInt x5), (8, HV.str a7.1), (9, HV.int .i64 a7.2)], []⟩) (AS.le_of ⟨rfl, rfl, rfl, rfl, trivial⟩ trivial) ⟨a7.1, (), h, rfl⟩
      · have hc := of_decide_eq_false hc
        have h := ifF hc h
        refine AW.exit ?_
        exact to_le (s' := ⟨[(8, HV.str a7.1)], []⟩) (AS.le_of ⟨rfl, trivial⟩ trivial) ⟨a7.1, (), h, rfl⟩

end Go.AW

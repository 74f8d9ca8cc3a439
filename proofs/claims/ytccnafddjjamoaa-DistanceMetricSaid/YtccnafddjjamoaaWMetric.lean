import Derived.Test.YtccnafddjjamoaaAwZ
import Derived.Test.YtccnafddjjamoaaWAwake46
import Derived.Test.YtccnafddjjamoaaWList
namespace Go.AW
open Go Go.Proofs

theorem ham_self : ∀ u : List UInt8, ham u u = 0
  | [] => rfl
  | a :: u => by simp [ham, ham_self u]
theorem ham_comm : ∀ u v : List UInt8, ham u v = ham v u
  | [], [] => rfl
  | [], _ :: _ => rfl
  | _ :: _, [] => rfl
  | a :: u, b :: v => by
    simp only [ham, ham_comm u v]
    by_cases h : a = b
    · simp [h]
    · simp [h, Ne.symm h]
theorem ham_zero : ∀ u v : List UInt8, u.length = v.length → (ham u v = 0 ↔ u = v)
  | [], [], _ => by simp [ham]
  | a :: u, b :: v, h => by
    simp only [List.length_cons, Nat.add_right_cancel_iff] at h
    have := ham_zero u v h
    simp only [ham, List.cons.injEq]
    by_cases hab : a = b
    · simp [hab, this]
    · simp [hab]
theorem ham_tri : ∀ u v w : List UInt8, u.length = v.length → u.length = w.length → ham u v ≤ ham u w + ham w v
  | [], [], [], _, _ => by simp [ham]
  | a :: u, b :: v, c :: w, h, h' => by
    simp only [List.length_cons, Nat.add_right_cancel_iff] at h h'
    have := ham_tri u v w h h'
    simp only [ham]
    by_cases h1 : a = b
    · rw [if_pos h1]
      omega
    · by_cases h2 : a = c
      · have h3 : ¬ c = b := fun e => h1 (h2.trans e)
        rw [if_neg h1, if_neg h3]
        omega
      · rw [if_neg h1, if_neg h2]
        omega

set_option linter.unusedSimpArgs false
set_option maxHeartbeats 2000000 in
set_option maxRecDepth 100000 in
theorem w4 (u v w : List UInt8) : Pure Try.prog 4 [.str u, .str v, .str w] (· = .bool true) := by
  refine Pure.of_body Try.func4 rfl rfl (Nat.le_of_ble_eq_true rfl) fun hf => ?_
  have hm : u.length ≤ 9223372036854775807 := hf.1
  unfold Try.f4
  dsimp only [enumS, Nat.reduceAdd]
  refine AW.rseq (fid := 4) (mt := []) [0, 1, 2] rfl fun K hK => ?_
  simp only [go_sem, reduceIte, Nat.reduceEqDiff, Int.reduceLE]
  refine hK _ ?_
  clear hK K
  refine AW.seq ?_
  by_cases hok : u.length ≤ 20 ∧ v.length = u.length ∧ w.length = u.length
  · obtain ⟨h1, h2, h3⟩ := hok
    have d1 : decide ((20 : Int) < (u.length : Int)) = false := decide_eq_false (by omega)
    have d2 : decide ((v.length : Int) ≠ (u.length : Int)) = false := by rw [h2]; simp
    have d3 : decide ((w.length : Int) ≠ (u.length : Int)) = false := by rw [h3]; simp
    refine AW.rseqD (fid := 4) (mt := []) [(3, 18), (10, 25)] [0, 1, 2, 31] rfl rfl fun K hK => ?_
    refine aopsD_cut 9 fun G hG => ?_
    dsimp only [List.take]
    simp only [go_sem, reduceIte, Nat.reduceEqDiff, Int.reduceLE, d1, d2, d3, Bool.not_true, Bool.not_false, cond_false, cond_true]
    refine hG _ ?_
    clear hG G
    dsimp only [List.drop]
    simp only [go_sem, reduceIte, Nat.reduceEqDiff, Int.reduceLE, d1, d2, d3, Bool.not_true, Bool.not_false, cond_false, cond_true]
    refine hK _ ?_
    clear hK K
    refine AW.cond rfl (fun hc => by cases hc) (fun _ => ?_)
    refine AW.skip ?_
    have e1 : hammingE u v = ((ham u v : Int), 0) := by simp [hammingE, h2]
    have e2 : hammingE v u = ((ham v u : Int), 0) := by simp [hammingE, h2]
    have e3 : hammingE u w = ((ham u w : Int), 0) := by simp [hammingE, h3]
    have e4 : hammingE w v = ((ham w v : Int), 0) := by simp [hammingE, h2, h3]
    refine AW.rseq (fid := 4) (mt := []) [0, 1, 2, 7, 8] rfl fun K hK => ?_
    simp only [go_sem, reduceIte, Nat.reduceEqDiff, Int.reduceLE]
    refine (w21 u v).use fun r hr => ?_
    subst hr
    simp only [pairOf, e1, go_sem, reduceIte, Nat.reduceEqDiff, List.getElem?_cons_zero, List.getElem?_cons_succ]
    refine hK _ ?_
    clear hK K
    refine AW.rseq (fid := 4) (mt := []) [0, 1, 2, 7, 8, 9, 10] rfl fun K hK => ?_
    simp only [go_sem, reduceIte, Nat.reduceEqDiff, Int.reduceLE]
    refine (w21 v u).use fun r hr => ?_
    subst hr
    simp only [pairOf, e2, go_sem, reduceIte, Nat.reduceEqDiff, List.getElem?_cons_zero, List.getElem?_cons_succ]
    refine hK _ ?_
    clear hK K
    refine AW.rseq (fid := 4) (mt := []) [0, 1, 2, 7, 8, 9, 10, 11, 12] rfl fun K hK => ?_
    simp only [go_sem, reduceIte, Nat.reduceEqDiff, Int.reduceLE]
    refine (w21 u w).use fun r hr => ?_
    subst hr
    simp only [pairOf, e3, go_sem, reduceIte, Nat.reduceEqDiff, List.getElem?_cons_zero, List.getElem?_cons_succ]
    refine hK _ ?_
    clear hK K
    refine AW.rseq (fid := 4) (mt := []) [0, 1, 7, 8, 9, 10, 11, 12, 13, 14] rfl fun K hK => ?_
    simp only [go_sem, reduceIte, Nat.reduceEqDiff, Int.reduceLE]
    refine (w21 w v).use fun r hr => ?_
    subst hr
    simp only [pairOf, e4, go_sem, reduceIte, Nat.reduceEqDiff, List.getElem?_cons_zero, List.getElem?_cons_succ]
    refine hK _ ?_
    clear hK K
    have hl1 := ham_le u v
    have hl3 := ham_le u w
    have hl4 := ham_le w v
    have c1 : decide ((0 : Int) ≤ (ham u v : Int)) = true := decide_eq_true (by omega)
    have c2 : decide ((ham u v : Int) ≤ (u.length : Int)) = true := decide_eq_true (by omega)
    have c3 : (decide ((ham u v : Int) = 0) == decide (u = v)) = true := by
      have := ham_zero u v h2.symm
      by_cases huv : u = v
      · simp [huv, ham_self]
      · have h0 : ¬ (ham u v : Int) = 0 := by
          intro h0
          exact huv (this.1 (by omega))
        rw [decide_eq_false h0, decide_eq_false huv]; rfl
    have c4 : decide ((ham u v : Int) = (ham v u : Int)) = true := by rw [ham_comm]; simp
    have c5 : decide ((ham u v : Int) ≤ IntKind.wrap .i64 ((ham u w : Int) + (ham w v : Int))) = true := by
      have := ham_tri u v w h2.symm h3.symm
      rw [w64 (by omega) (by omega)]
      exact decide_eq_true (by omega)
    refine AW.rseqD (fid := 4) (mt := []) [(2, 59), (6, 63), (10, 67), (14, 71), (18, 75), (24, 81), (32, 89), (37, 94), (44, 101)] [6] rfl rfl fun K hK => ?_
    refine aopsD_cut 10 fun G hG => ?_
    dsimp only [List.take]
    simp only [go_sem, reduceIte, Nat.reduceEqDiff, Int.reduceLE, c1, c2, c3, c4, c5, Bool.not_true, Bool.not_false, cond_false, cond_true]
    refine hG _ ?_
    clear hG G
    dsimp only [List.drop]
    refine aopsD_cut 9 fun G hG => ?_
    dsimp only [List.take]
    simp only [go_sem, reduceIte, Nat.reduceEqDiff, Int.reduceLE, c1, c2, c3, c4, c5, Bool.not_true, Bool.not_false, cond_false, cond_true]
    refine hG _ ?_
    clear hG G
    dsimp only [List.drop]
    refine aopsD_cut 9 fun G hG => ?_
    dsimp only [List.take]
    simp only [go_sem, reduceIte, Nat.reduceEqDiff, Int.reduceLE, c1, c2, c3, c4, c5, Bool.not_true, Bool.not_false, cond_false, cond_true]
    refine hG _ ?_
    clear hG G
    dsimp only [List.drop]
    refine aopsD_cut 10 fun G hG => ?_
    dsimp only [List.take]
    simp only [go_sem, reduceIte, Nat.reduceEqDiff, Int.reduceLE, c1, c2, c3, c4, c5, Bool.not_true, Bool.not_false, cond_false, cond_true]
    refine hG _ ?_
    clear hG G
    dsimp only [List.drop]
    refine aopsD_cut 7 fun G hG => ?_
    dsimp only [List.take]
    simp only [go_sem, reduceIte, Nat.reduceEqDiff, Int.reduceLE, c1, c2, c3, c4, c5, Bool.not_true, Bool.not_false, cond_false, cond_true]
    refine hG _ ?_
    clear hG G
    dsimp only [List.drop]
    refine aopsD_cut 1 fun G hG => ?_
    dsimp only [List.take]
    simp only [go_sem, reduceIte, Nat.reduceEqDiff, Int.reduceLE, c1, c2, c3, c4, c5, Bool.not_true, Bool.not_false, cond_false, cond_true]
    refine w15.pure.use fun r hr => ?_
    subst hr
    refine hG _ ?_
    clear hG G
    dsimp only [List.drop]
    simp only [go_sem, reduceIte, Nat.reduceEqDiff, Int.reduceLE, c1, c2, c3, c4, c5, Bool.not_true, Bool.not_false, cond_false, cond_true]
    refine hK _ ?_
    clear hK K
    refine AW.ret ⟨.inr rfl, ?_⟩
    simp only [go_sem, reduceIte, Nat.reduceEqDiff]
    exact ⟨_, _, Conv.refl _ _, rfl, trivial, rfl⟩
  · have hbad : decide ((20 : Int) < (u.length : Int)) = true ∨ (decide ((20 : Int) < (u.length : Int)) = false ∧ decide ((v.length : Int) ≠ (u.length : Int)) = true) ∨
        (decide ((20 : Int) < (u.length : Int)) = false ∧ decide ((v.length : Int) ≠ (u.length : Int)) = false ∧ decide ((w.length : Int) ≠ (u.length : Int)) = true) := by
      by_cases h1 : u.length ≤ 20
      · have d1 : decide ((20 : Int) < (u.length : Int)) = false := decide_eq_false (by omega)
        by_cases h2 : v.length = u.length
        · refine .inr (.inr ⟨d1, by rw [h2]; simp, decide_eq_true fun h => hok ⟨h1, h2, by omega⟩⟩)
        · exact .inr (.inl ⟨d1, decide_eq_true fun h => h2 (by omega)⟩)
      · exact .inl (decide_eq_true (by omega))
    have anc : ∀ {Q : Exit → AS → Prop} {x y : Code}, AW Try.prog none 104 x Q ⟨[(31, .bool true)], []⟩ → AW Try.prog none 104 (.cond (.tmp 31) x y) Q ⟨[(31, .bool true)], []⟩ := fun h => AW.cond rfl (fun _ => h) (fun hc => by cases hc)
    rcases hbad with d1 | ⟨d1, d2⟩ | ⟨d1, d2, d3⟩
    · refine AW.rseqD (fid := 4) (mt := []) [(3, 18), (10, 25)] [31] rfl rfl fun K hK => ?_
      refine aopsD_cut 9 fun G hG => ?_
      dsimp only [List.take]
      simp only [go_sem, reduceIte, Nat.reduceEqDiff, Int.reduceLE, d1, Bool.not_true, Bool.not_false, cond_false, cond_true]
      refine hG _ ?_
      clear hG G
      dsimp only [List.drop]
      simp only [go_sem, reduceIte, Nat.reduceEqDiff, Int.reduceLE, d1, Bool.not_true, Bool.not_false, cond_false, cond_true]
      refine hK _ ?_
      clear hK K
      refine anc ?_
      refine AW.rseq (fid := 4) (mt := []) [6] rfl fun K hK => ?_
      simp only [go_sem, reduceIte, Nat.reduceEqDiff, Int.reduceLE]
      refine w15.pure.use fun r hr => ?_
      subst hr
      refine hK _ ?_
      clear hK K
      refine AW.ret ⟨.inr rfl, ?_⟩
      simp only [go_sem, reduceIte, Nat.reduceEqDiff]
      exact ⟨_, _, Conv.refl _ _, rfl, trivial, rfl⟩
    · refine AW.rseqD (fid := 4) (mt := []) [(3, 18), (10, 25)] [31] rfl rfl fun K hK => ?_
      refine aopsD_cut 9 fun G hG => ?_
      dsimp only [List.take]
      simp only [go_sem, reduceIte, Nat.reduceEqDiff, Int.reduceLE, d1, d2, Bool.not_true, Bool.not_false, cond_false, cond_true]
      refine hG _ ?_
      clear hG G
      dsimp only [List.drop]
      simp only [go_sem, reduceIte, Nat.reduceEqDiff, Int.reduceLE, d1, d2, Bool.not_true, Bool.not_false, cond_false, cond_true]
      refine hK _ ?_
      clear hK K
      refine anc ?_
      refine AW.rseq (fid := 4) (mt := []) [6] rfl fun K hK => ?_
      simp only [go_sem, reduceIte, Nat.reduceEqDiff, Int.reduceLE]
      refine w15.pure.use fun r hr => ?_
      subst hr
      refine hK _ ?_
      clear hK K
      refine AW.ret ⟨.inr rfl, ?_⟩
      simp only [go_sem, reduceIte, Nat.reduceEqDiff]
      exact ⟨_, _, Conv.refl _ _, rfl, trivial, rfl⟩
    · refine AW.rseqD (fid := 4) (mt := []) [(3, 18), (10, 25)] [31] rfl rfl fun K hK => ?_
      refine aopsD_cut 9 fun G hG => ?_
      dsimp only [List.take]
      simp only [go_sem, reduceIte, Nat.reduceEqDiff, Int.reduceLE, d1, d2, d3, Bool.not_true, Bool.not_false, cond_false, cond_true]
      refine hG _ ?_
      clear hG G
      dsimp only [List.drop]
      simp only [go_sem, reduceIte, Nat.reduceEqDiff, Int.reduceLE, d1, d2, d3, Bool.not_true, Bool.not_false, cond_false, cond_true]
      refine hK _ ?_
      clear hK K
      refine anc ?_
      refine AW.rseq (fid := 4) (mt := []) [6] rfl fun K hK => ?_
      simp only [go_sem, reduceIte, Nat.reduceEqDiff, Int.reduceLE]
      refine w15.pure.use fun r hr => ?_
      subst hr
      refine hK _ ?_
      clear hK K
      refine AW.ret ⟨.inr rfl, ?_⟩
      simp only [go_sem, reduceIte, Nat.reduceEqDiff]
      exact ⟨_, _, Conv.refl _ _, rfl, trivial, rfl⟩
end Go.AW

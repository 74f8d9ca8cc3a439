import Derived.Test.YtccnafddjjamoaaWLeast
namespace Go.AW
open Go Go.Proofs
set_option linter.unusedSimpArgs false

theorem w23 (l : List (List UInt8)) : Pure Try.prog 23 [strs l] (· = pairOf (leastE l)) := by
  refine Pure.of_body Try.func23 rfl rfl (Nat.le_of_ble_eq_true rfl) fun hf => ?_
  unfold Try.f23
  dsimp only [enumS]
  refine AW.rseq (fid := 23) (mt := []) [0] rfl fun K hK => ?_
  simp only [go_sem, reduceIte, Nat.reduceEqDiff, Int.reduceLE]
  refine hK _ ?_
  clear hK K
  refine AW.seq ?_
  refine AW.rseq (fid := 23) (mt := []) [0, 4] rfl fun K hK => ?_
  simp only [go_sem, reduceIte, Nat.reduceEqDiff, Int.reduceLE]
  refine (w71 l).use fun r hr => ?_
  subst hr
  refine hK _ ?_
  clear hK K
  refine AW.rseq (fid := 23) (mt := []) [0, 4, 8] rfl fun K hK => ?_
  simp only [go_sem, reduceIte, Nat.reduceEqDiff, Int.reduceLE]
  refine hK _ ?_
  clear hK K
  refine AW.cond rfl (fun hc => ?_) (fun hc => ?_)
  · have hne : listedE l ≠ 0 := by simpa using hc
    refine AW.rseq (fid := 23) (mt := []) [2, 3] rfl fun K hK => ?_
    simp only [go_sem, reduceIte, Nat.reduceEqDiff, Int.reduceLE]
    refine hK _ ?_
    clear hK K
    refine AW.ret ⟨.inr rfl, ?_⟩
    simp only [go_sem, reduceIte, Nat.reduceEqDiff]
    exact ⟨_, _, Conv.refl _ _, by simp [pairOf, leastE, hne], ⟨trivial, trivial, trivial⟩, rfl⟩
  · have heq : listedE l = 0 := by simpa using hc
    refine AW.skip ?_
    refine AW.seq ?_
    refine AW.rseq (fid := 23) (mt := []) [0, 12] rfl fun K hK => ?_
    simp only [go_sem, reduceIte, Nat.reduceEqDiff, Int.reduceLE, strs]
    refine hK _ ?_
    clear hK K
    refine AW.cond rfl (fun hc => ?_) (fun hc => ?_)
    · have h2 : l.length < 2 := by have := of_decide_eq_true hc; omega
      refine AW.rseq (fid := 23) (mt := []) [2, 3] rfl fun K hK => ?_
      simp only [go_sem, reduceIte, Nat.reduceEqDiff, Int.reduceLE]
      refine hK _ ?_
      clear hK K
      refine AW.ret ⟨.inr rfl, ?_⟩
      simp only [go_sem, reduceIte, Nat.reduceEqDiff]
      exact ⟨_, _, Conv.refl _ _, by simp [pairOf, leastE, heq, h2], ⟨trivial, trivial, trivial⟩, rfl⟩
    · have h2 : ¬ l.length < 2 := by have := of_decide_eq_false hc; omega
      refine AW.skip ?_
      refine AW.rseq (fid := 23) (mt := []) [2, 3] rfl fun K hK => ?_
      simp only [go_sem, reduceIte, Nat.reduceEqDiff, Int.reduceLE]
      refine (w72 l (by omega) (same_len heq)).use fun r hr => ?_
      subst hr
      refine hK _ ?_
      clear hK K
      refine AW.ret ⟨.inr rfl, ?_⟩
      simp only [go_sem, reduceIte, Nat.reduceEqDiff]
      exact ⟨_, _, Conv.refl _ _, by simp [pairOf, leastE, heq, h2], ⟨trivial, trivial, trivial⟩, rfl⟩

end Go.AW

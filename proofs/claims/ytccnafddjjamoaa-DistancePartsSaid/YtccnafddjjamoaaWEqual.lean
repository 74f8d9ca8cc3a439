import Derived.Test.YtccnafddjjamoaaWBase
namespace Go.AW
open Go Go.Proofs

/-- slices.Equal of texts -/
theorem w20 (u v : List (List UInt8)) : Pure Try.prog 20 [strs u, strs v] (· = .bool (decide (u = v))) := by
  refine Pure.of_body Try.func20 rfl rfl (Nat.le_of_ble_eq_true rfl) fun hf => ?_
  have hm : u.length ≤ 9223372036854775807 := hf.1.1
  unfold Try.f20
  dsimp only [enumS, strs]
  refine AW.rseq (fid := 20) (mt := []) [0, 1] rfl fun K hK => ?_
  simp only [go_sem, reduceIte, Nat.reduceEqDiff, Int.reduceLE]
  refine hK _ ?_
  clear hK K
  refine AW.seq ?_
  refine AW.rseq (fid := 20) (mt := []) [0, 1, 10] rfl fun K hK => ?_
  simp only [go_sem, reduceIte, Nat.reduceEqDiff, Int.reduceLE]
  refine hK _ ?_
  clear hK K
  refine AW.cond rfl (fun hc => ?_) (fun hc => ?_)
  · have hne : u ≠ v := fun e => by subst e; simp at hc
    refine AW.rseq (fid := 20) (mt := []) [4] rfl fun K hK => ?_
    simp only [go_sem, reduceIte, Nat.reduceEqDiff, Int.reduceLE]
    refine hK _ ?_
    clear hK K
    refine AW.ret ⟨.inr rfl, ?_⟩
    simp only [go_sem, reduceIte, Nat.reduceEqDiff]
    exact ⟨_, _, Conv.refl _ _, by simp [hne], trivial, rfl⟩
  · have hl : u.length = v.length := nat_eq_of hc
    refine AW.skip ?_
    refine AW.seq ?_
    refine AW.rseq (fid := 20) (mt := []) [0, 1, 12, 13] rfl fun K hK => ?_
    simp only [go_sem, reduceIte, Nat.reduceEqDiff, Int.reduceLE]
    refine hK _ ?_
    clear hK K
    refine AW.block ?_
    refine AW.loopS (fun i : Nat => ⟨[(0, .sl 1 u.length (u.map .str)), (1, .sl 1 v.length (v.map .str)), (12, .int .i64 u.length), (13, .int .i64 i)], []⟩) (fun i => i ≤ u.length ∧ u.take i = v.take i) (fun i => u.length - i) 0 (AS.le_refl _) ⟨Nat.zero_le _, rfl⟩ ?_
    rintro i ⟨hi, hp⟩
    refine AW.rseq (fid := 20) (mt := []) [0, 1, 12, 13, 14] rfl fun K hK => ?_
    simp only [go_sem, reduceIte, Nat.reduceEqDiff, Int.reduceLE]
    refine hK _ ?_
    clear hK K
    refine AW.cseq rfl (fun hc => ?_) (fun hc => ?_)
    · have hi' := cnt_lt hc
      refine AW.skip ?_
      refine AW.seq (AW.block ?_)
      refine AW.rseq (fid := 20) (mt := []) [0, 1, 5, 12, 13] rfl fun K hK => ?_
      simp only [go_sem, reduceIte, Nat.reduceEqDiff, Int.reduceLE]
      refine hK _ ?_
      clear hK K
      refine AW.dseq (fid := 20) (mt := []) 9 [0, 1, 12, 13, 24] follows rfl rfl fun K hK => ?_
      dsimp only [List.take, List.drop]
      simp only [go_sem, reduceIte, Nat.reduceEqDiff, Int.reduceLE]
      simp only [strs_at hi', strs_at (hl ▸ hi')]
      refine ⟨by omega, by omega, by omega, by omega, hK _ ?_⟩
      clear hK K
      refine AW.cond rfl (fun hc => ?_) (fun hc => ?_)
      · have hne : u ≠ v := fun e => by subst e; simp at hc
        refine AW.rseq (fid := 20) (mt := []) [4] rfl fun K hK => ?_
        simp only [go_sem, reduceIte, Nat.reduceEqDiff, Int.reduceLE]
        refine hK _ ?_
        clear hK K
        refine AW.ret ⟨.inr rfl, ?_⟩
        simp only [go_sem, reduceIte, Nat.reduceEqDiff]
        exact ⟨_, _, Conv.refl _ _, by simp [hne], trivial, rfl⟩
      · have he : u[i] = v[i]'(hl ▸ hi') := by simpa using hc
        refine AW.skip ?_
        refine AW.region (fid := 20) (mt := []) [0, 1, 12, 13] rfl fun K hK => ?_
        simp only [go_sem, reduceIte, Nat.reduceEqDiff, Int.reduceLE]
        refine hK _ ?_
        clear hK K
        refine ⟨i + 1, ⟨by omega, ?_⟩, by omega, ?_⟩
        · rw [List.take_add_one, List.take_add_one, hp, List.getElem?_eq_getElem hi', List.getElem?_eq_getElem (hl ▸ hi'), he]
        · rw [cnt_next hm hi']
          exact AS.le_refl _
    · have hi' := cnt_ge hc hi
      subst hi'
      have hv : u = v := by
        have h1 := hp
        rw [List.take_length, hl, List.take_length] at h1
        exact h1
      refine AW.exit ?_
      refine AW.rseq (fid := 20) (mt := []) [4] rfl fun K hK => ?_
      simp only [go_sem, reduceIte, Nat.reduceEqDiff, Int.reduceLE]
      refine hK _ ?_
      clear hK K
      refine AW.ret ⟨.inr rfl, ?_⟩
      simp only [go_sem, reduceIte, Nat.reduceEqDiff]
      exact ⟨_, _, Conv.refl _ _, by simp [hv], trivial, rfl⟩

/-- slices.Equal of numbers -/
theorem w32 (u v : List Int) : Pure Try.prog 32 [ints u, ints v] (· = .bool (decide (u = v))) := by
  refine Pure.of_body Try.func32 rfl rfl (Nat.le_of_ble_eq_true rfl) fun hf => ?_
  have hm : u.length ≤ 9223372036854775807 := hf.1.1
  unfold Try.f32
  dsimp only [enumS, ints]
  refine AW.rseq (fid := 32) (mt := []) [0, 1] rfl fun K hK => ?_
  simp only [go_sem, reduceIte, Nat.reduceEqDiff, Int.reduceLE]
  refine hK _ ?_
  clear hK K
  refine AW.seq ?_
  refine AW.rseq (fid := 32) (mt := []) [0, 1, 10] rfl fun K hK => ?_
  simp only [go_sem, reduceIte, Nat.reduceEqDiff, Int.reduceLE]
  refine hK _ ?_
  clear hK K
  refine AW.cond rfl (fun hc => ?_) (fun hc => ?_)
  · have hne : u ≠ v := fun e => by subst e; simp at hc
    refine AW.rseq (fid := 32) (mt := []) [4] rfl fun K hK => ?_
    simp only [go_sem, reduceIte, Nat.reduceEqDiff, Int.reduceLE]
    refine hK _ ?_
    clear hK K
    refine AW.ret ⟨.inr rfl, ?_⟩
    simp only [go_sem, reduceIte, Nat.reduceEqDiff]
    exact ⟨_, _, Conv.refl _ _, by simp [hne], trivial, rfl⟩
  · have hl : u.length = v.length := nat_eq_of hc
    refine AW.skip ?_
    refine AW.seq ?_
    refine AW.rseq (fid := 32) (mt := []) [0, 1, 12, 13] rfl fun K hK => ?_
    simp only [go_sem, reduceIte, Nat.reduceEqDiff, Int.reduceLE]
    refine hK _ ?_
    clear hK K
    refine AW.block ?_
    refine AW.loopS (fun i : Nat => ⟨[(0, .sl 1 u.length (u.map (.int .i64))), (1, .sl 1 v.length (v.map (.int .i64))), (12, .int .i64 u.length), (13, .int .i64 i)], []⟩) (fun i => i ≤ u.length ∧ u.take i = v.take i) (fun i => u.length - i) 0 (AS.le_refl _) ⟨Nat.zero_le _, rfl⟩ ?_
    rintro i ⟨hi, hp⟩
    refine AW.rseq (fid := 32) (mt := []) [0, 1, 12, 13, 14] rfl fun K hK => ?_
    simp only [go_sem, reduceIte, Nat.reduceEqDiff, Int.reduceLE]
    refine hK _ ?_
    clear hK K
    refine AW.cseq rfl (fun hc => ?_) (fun hc => ?_)
    · have hi' := cnt_lt hc
      refine AW.skip ?_
      refine AW.seq (AW.block ?_)
      refine AW.rseq (fid := 32) (mt := []) [0, 1, 5, 12, 13] rfl fun K hK => ?_
      simp only [go_sem, reduceIte, Nat.reduceEqDiff, Int.reduceLE]
      refine hK _ ?_
      clear hK K
      refine AW.dseq (fid := 32) (mt := []) 9 [0, 1, 12, 13, 24] follows rfl rfl fun K hK => ?_
      dsimp only [List.take, List.drop]
      simp only [go_sem, reduceIte, Nat.reduceEqDiff, Int.reduceLE]
      simp only [ints_at hi', ints_at (hl ▸ hi'), true_and]
      refine ⟨by omega, by omega, by omega, by omega, hK _ ?_⟩
      clear hK K
      refine AW.cond rfl (fun hc => ?_) (fun hc => ?_)
      · have hne : u ≠ v := fun e => by subst e; simp at hc
        refine AW.rseq (fid := 32) (mt := []) [4] rfl fun K hK => ?_
        simp only [go_sem, reduceIte, Nat.reduceEqDiff, Int.reduceLE]
        refine hK _ ?_
        clear hK K
        refine AW.ret ⟨.inr rfl, ?_⟩
        simp only [go_sem, reduceIte, Nat.reduceEqDiff]
        exact ⟨_, _, Conv.refl _ _, by simp [hne], trivial, rfl⟩
      · have he : u[i] = v[i]'(hl ▸ hi') := by simpa using hc
        refine AW.skip ?_
        refine AW.region (fid := 32) (mt := []) [0, 1, 12, 13] rfl fun K hK => ?_
        simp only [go_sem, reduceIte, Nat.reduceEqDiff, Int.reduceLE]
        refine hK _ ?_
        clear hK K
        refine ⟨i + 1, ⟨by omega, ?_⟩, by omega, ?_⟩
        · rw [List.take_add_one, List.take_add_one, hp, List.getElem?_eq_getElem hi', List.getElem?_eq_getElem (hl ▸ hi'), he]
        · rw [cnt_next hm hi']
          exact AS.le_refl _
    · have hi' := cnt_ge hc hi
      subst hi'
      have hv : u = v := by
        have h1 := hp
        rw [List.take_length, hl, List.take_length] at h1
        exact h1
      refine AW.exit ?_
      refine AW.rseq (fid := 32) (mt := []) [4] rfl fun K hK => ?_
      simp only [go_sem, reduceIte, Nat.reduceEqDiff, Int.reduceLE]
      refine hK _ ?_
      clear hK K
      refine AW.ret ⟨.inr rfl, ?_⟩
      simp only [go_sem, reduceIte, Nat.reduceEqDiff]
      exact ⟨_, _, Conv.refl _ _, by simp [hv], trivial, rfl⟩
end Go.AW

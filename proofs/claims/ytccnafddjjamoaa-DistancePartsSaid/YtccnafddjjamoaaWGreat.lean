import Derived.Test.YtccnafddjjamoaaWDel
import Derived.Test.YtccnafddjjamoaaAwZ
namespace Go.AW
open Go Go.Proofs
set_option linter.unusedSimpArgs false

set_option maxRecDepth 100000 in
set_option maxHeartbeats 2000000 in
theorem w22 (l : List (List UInt8)) : Pure Try.prog 22 [strs l] (fun r => ∃ b, r = .bool b ∧ (b = false → l.length ≤ 4099)) := by
  refine Pure.of_body Try.func22 rfl rfl (Nat.le_of_ble_eq_true rfl) fun hf => ?_
  have hm : l.length ≤ 9223372036854775807 := hf.1.1
  unfold strs at *
  unfold Try.f22
  dsimp only [enumS]
  refine AW.rseq (fid := 22) (mt := []) [0, 28, 29, 30, 31, 32, 33, 34, 37, 38, 39] rfl fun K hK => ?_
  simp only [go_sem, reduceIte, Nat.reduceEqDiff, Int.reduceLE]
  refine hK _ ?_
  clear hK K
  refine AW.rseq (fid := 22) (mt := []) [0, 3, 28, 29, 30, 31, 32, 33, 34, 37, 38, 39] rfl fun K hK => ?_
  simp only [go_sem, reduceIte, Nat.reduceEqDiff, Int.reduceLE]
  refine hK _ ?_
  clear hK K
  refine AW.seq ?_
  refine AW.rseq (fid := 22) (mt := []) [0, 3, 4, 28, 29, 30, 31, 32, 33, 34, 37, 38, 39] rfl fun K hK => ?_
  simp only [go_sem, reduceIte, Nat.reduceEqDiff, Int.reduceLE]
  refine hK _ ?_
  clear hK K
  refine AW.block ?_
  refine AW.loopS (fun p : Nat × Int => ⟨[(0, .sl 1 l.length (l.map .str)), (3, .int .i64 p.2), (4, .int .i64 p.1)], []⟩)
    (fun p => p.1 ≤ l.length) (fun p => l.length - p.1) (0, 0) (AS.le_refl _) (Nat.zero_le _) ?_
  rintro ⟨i, sum⟩ hi
  dsimp only at hi ⊢
  refine AW.seq ?_
  refine AW.rseq (fid := 22) (mt := []) [0, 3, 4, 8, 28, 29, 30, 31, 32, 33, 34, 37, 38, 39] rfl fun K hK => ?_
  simp only [go_sem, reduceIte, Nat.reduceEqDiff, Int.reduceLE]
  refine hK _ ?_
  clear hK K
  refine AW.cond rfl (fun hc => ?_) (fun hc => ?_)
  · have hi' := cnt_lt hc
    refine AW.skip ?_
    refine AW.seq (AW.block ?_)
    refine AW.rseq (fid := 22) (mt := []) [0, 3, 4, 28, 29, 30, 31, 32, 33, 34, 37, 38, 39] rfl fun K hK => ?_
    simp only [go_sem, reduceIte, Nat.reduceEqDiff, Int.reduceLE, strs_at hi']
    refine ⟨by omega, by omega, hK _ ?_⟩
    clear hK K
    refine AW.rseq (fid := 22) (mt := []) [0, 3, 4, 23, 28, 29, 30, 31, 32, 33, 34, 37, 38, 39] rfl fun K hK => ?_
    simp only [go_sem, reduceIte, Nat.reduceEqDiff, Int.reduceLE, strs_at hi']
    refine ⟨by omega, by omega, hK _ ?_⟩
    clear hK K
    refine AW.cond rfl (fun hc => ?_) (fun hc => ?_)
    · skip
      refine AW.rseq (fid := 22) (mt := []) [2] rfl fun K hK => ?_
      simp only [go_sem, reduceIte, Nat.reduceEqDiff, Int.reduceLE]
      refine hK _ ?_
      clear hK K
      refine AW.ret ⟨.inr rfl, ?_⟩
      simp only [go_sem, reduceIte, Nat.reduceEqDiff]
      exact ⟨_, _, Conv.refl _ _, ⟨true, rfl, fun h => by cases h⟩, trivial, rfl⟩
    · skip
      refine AW.skip ?_
      refine AW.region (fid := 22) (mt := []) [0, 3, 4, 28, 29, 30, 31, 32, 33, 34, 37, 38, 39] rfl fun K hK => ?_
      simp only [go_sem, reduceIte, Nat.reduceEqDiff, Int.reduceLE]
      refine hK _ ?_
      clear hK K
      refine ⟨(i + 1, IntKind.wrap .i64 (sum + (l[i].length : Int))), by dsimp only; omega, by dsimp only; omega, ?_⟩
      dsimp only
      rw [cnt_next hm hi']
      exact AS.le_refl _
  · skip
    refine AW.exit ?_
    have hcase : (decide ((12 : Int) < (l.length : Int)) = false ∧ decide ((4099 : Int) < (l.length : Int)) = false ∧ True ∧ True) ∨ (decide ((12 : Int) < (l.length : Int)) = true ∧ decide ((l.length : Int) ≤ 4096) = true ∧ True ∧ True) ∨
        (decide ((12 : Int) < (l.length : Int)) = true ∧ decide ((l.length : Int) ≤ 4096) = false ∧ decide ((0 : Int) < sum) = true ∧ True) ∨
        (decide ((12 : Int) < (l.length : Int)) = true ∧ decide ((l.length : Int) ≤ 4096) = false ∧ decide ((0 : Int) < sum) = false ∧ decide ((4099 : Int) < (l.length : Int)) = false) ∨
        (decide ((12 : Int) < (l.length : Int)) = true ∧ decide ((l.length : Int) ≤ 4096) = false ∧ decide ((0 : Int) < sum) = false ∧ decide ((4099 : Int) < (l.length : Int)) = true) := by
      rcases Nat.lt_or_ge 12 l.length with h1 | h1
      · rcases Nat.lt_or_ge 4096 l.length with h2 | h2
        · have d1 := decide_eq_true (p := (12 : Int) < (l.length : Int)) (by omega)
          have d2 := decide_eq_false (p := (l.length : Int) ≤ 4096) (by omega)
          by_cases h3 : (0 : Int) < sum
          · exact .inr (.inr (.inl ⟨d1, d2, decide_eq_true h3, trivial⟩))
          · rcases Nat.lt_or_ge 4099 l.length with h4 | h4
            · exact .inr (.inr (.inr (.inr ⟨d1, d2, decide_eq_false h3, decide_eq_true (by omega)⟩)))
            · exact .inr (.inr (.inr (.inl ⟨d1, d2, decide_eq_false h3, decide_eq_false (by omega)⟩)))
        · exact .inr (.inl ⟨decide_eq_true (by omega), decide_eq_true (by omega), trivial, trivial⟩)
      · exact .inl ⟨decide_eq_false (by omega), decide_eq_false (by omega), trivial, trivial⟩
    rcases hcase with ⟨e1, e4, e2, e3⟩ | ⟨e1, e2, e3, e4⟩ | ⟨e1, e2, e3, e4⟩ | ⟨e1, e2, e3, e4⟩ | ⟨e1, e2, e3, e4⟩
    all_goals
      refine AW.rseqD (fid := 22) (mt := []) [(3, 27), (7, 31), (12, 36)] [2] rfl rfl fun K hK => ?_
      refine aopsD_cut 9 fun G hG => ?_
      dsimp only [List.take]
      simp only [go_sem, reduceIte, Nat.reduceEqDiff, Int.reduceLE, e1, e2, e3, e4, Bool.not_true, Bool.not_false, cond_false, cond_true]
      refine hG _ ?_
      clear hG G
      dsimp only [List.drop]
      simp only [go_sem, reduceIte, Nat.reduceEqDiff, Int.reduceLE, e1, e2, e3, e4, Bool.not_true, Bool.not_false, cond_false, cond_true]
      refine hK _ ?_
      clear hK K
      refine AW.ret ⟨.inr rfl, ?_⟩
      simp only [go_sem, reduceIte, Nat.reduceEqDiff]
      exact ⟨_, _, Conv.refl _ _, ⟨_, rfl, fun h => by first | (cases h; done) | (have := of_decide_eq_false e4; omega)⟩, trivial, rfl⟩

end Go.AW

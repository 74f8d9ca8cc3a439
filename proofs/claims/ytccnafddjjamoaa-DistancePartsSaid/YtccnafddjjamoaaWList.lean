import Derived.Test.YtccnafddjjamoaaWHam
import Derived.Test.YtccnafddjjamoaaWEqual
namespace Go.AW
open Go Go.Proofs

/-- the check of a list: at most 4096 texts, of one length -/
def listedE (l : List (List UInt8)) : Int := if 4096 < l.length then 4 else if ∀ w ∈ l, w.length = (l.headD []).length then 0 else 11

def pairOf (r : Int × Int) : HV := .tup [.int .i64 r.1, .int .i64 r.2]
def hammingE (u v : List UInt8) : Int × Int := if u.length = v.length then ((ham u v : Int), 0) else (0, 11)

theorem w21 (u v : List UInt8) : Pure Try.prog 21 [.str u, .str v] (· = pairOf (hammingE u v)) := by
  refine Pure.of_body Try.func21 rfl rfl (Nat.le_of_ble_eq_true rfl) fun hf => ?_
  unfold Try.f21
  dsimp only [enumS]
  refine AW.rseq (fid := 21) (mt := []) [0, 1] rfl fun K hK => ?_
  simp only [go_sem, reduceIte, Nat.reduceEqDiff, Int.reduceLE]
  refine hK _ ?_
  clear hK K
  refine AW.seq ?_
  refine AW.rseq (fid := 21) (mt := []) [0, 1, 10] rfl fun K hK => ?_
  simp only [go_sem, reduceIte, Nat.reduceEqDiff, Int.reduceLE]
  refine hK _ ?_
  clear hK K
  refine AW.cond rfl (fun hc => ?_) (fun hc => ?_)
  · have hne := nat_ne_of hc
    refine AW.rseq (fid := 21) (mt := []) [4, 5] rfl fun K hK => ?_
    simp only [go_sem, reduceIte, Nat.reduceEqDiff, Int.reduceLE]
    refine hK _ ?_
    clear hK K
    refine AW.ret ⟨.inr rfl, ?_⟩
    simp only [go_sem, reduceIte, Nat.reduceEqDiff]
    exact ⟨_, _, Conv.refl _ _, by simp [pairOf, hammingE, hne], ⟨trivial, trivial, trivial⟩, rfl⟩
  · have heq := nat_eq_of hc
    refine AW.skip ?_
    refine AW.rseq (fid := 21) (mt := []) [4, 5] rfl fun K hK => ?_
    simp only [go_sem, reduceIte, Nat.reduceEqDiff, Int.reduceLE]
    refine (w69 u v (by omega)).use fun r hr => ?_
    subst hr
    refine hK _ ?_
    clear hK K
    refine AW.ret ⟨.inr rfl, ?_⟩
    simp only [go_sem, reduceIte, Nat.reduceEqDiff]
    exact ⟨_, _, Conv.refl _ _, by simp [pairOf, hammingE, heq], ⟨trivial, trivial, trivial⟩, rfl⟩

theorem w71 (l : List (List UInt8)) : Pure Try.prog 71 [strs l] (· = .int .i64 (listedE l)) := by
  refine Pure.of_body Try.func71 rfl rfl (Nat.le_of_ble_eq_true rfl) fun hf => ?_
  have hm : l.length ≤ 9223372036854775807 := hf.1.1
  unfold strs at *
  unfold Try.f71
  dsimp only [enumS]
  refine AW.rseq (fid := 71) (mt := []) [0] rfl fun K hK => ?_
  simp only [go_sem, reduceIte, Nat.reduceEqDiff, Int.reduceLE]
  refine hK _ ?_
  clear hK K
  refine AW.seq ?_
  refine AW.rseq (fid := 71) (mt := []) [0, 7] rfl fun K hK => ?_
  simp only [go_sem, reduceIte, Nat.reduceEqDiff, Int.reduceLE]
  refine hK _ ?_
  clear hK K
  refine AW.cond rfl (fun hc => ?_) (fun hc => ?_)
  · have h1 : 4096 < l.length := by have := of_decide_eq_true hc; omega
    refine AW.rseq (fid := 71) (mt := []) [2] rfl fun K hK => ?_
    simp only [go_sem, reduceIte, Nat.reduceEqDiff, Int.reduceLE]
    refine hK _ ?_
    clear hK K
    refine AW.ret ⟨.inr rfl, ?_⟩
    simp only [go_sem, reduceIte, Nat.reduceEqDiff]
    exact ⟨_, _, Conv.refl _ _, by simp [listedE, h1], trivial, rfl⟩
  · have h1 : ¬ 4096 < l.length := by have := of_decide_eq_false hc; omega
    refine AW.skip ?_
    refine AW.seq ?_
    refine AW.rseq (fid := 71) (mt := []) [0, 8, 9, 10] rfl fun K hK => ?_
    simp only [go_sem, reduceIte, Nat.reduceEqDiff, Int.reduceLE]
    refine hK _ ?_
    clear hK K
    refine AW.block ?_
    refine AW.loopS (fun i : Nat => ⟨[(0, .sl 1 l.length (l.map .str)), (8, .sl 1 l.length (l.map .str)), (9, .int .i64 l.length), (10, .int .i64 i)], []⟩)
      (fun i => i ≤ l.length ∧ ∀ w ∈ l.take i, w.length = (l.headD []).length) (fun i => l.length - i) 0 (AS.le_refl _) ⟨Nat.zero_le _, by simp⟩ ?_
    rintro i ⟨hi, hp⟩
    refine AW.rseq (fid := 71) (mt := []) [0, 8, 9, 10, 11] rfl fun K hK => ?_
    simp only [go_sem, reduceIte, Nat.reduceEqDiff, Int.reduceLE]
    refine hK _ ?_
    clear hK K
    refine AW.cseq rfl (fun hc => ?_) (fun hc => ?_)
    · have hi' := cnt_lt hc
      have h0 : 0 < l.length := by omega
      have hhd : l.headD [] = l[0] := by cases l with
        | nil => simp at h0
        | cons x xs => rfl
      refine AW.skip ?_
      refine AW.seq (AW.block ?_)
      refine AW.rseq (fid := 71) (mt := []) [0, 4, 8, 9, 10] rfl fun K hK => ?_
      simp only [go_sem, reduceIte, Nat.reduceEqDiff, Int.reduceLE, strs_at hi']
      refine ⟨by omega, by omega, hK _ ?_⟩
      clear hK K
      refine AW.rseq (fid := 71) (mt := []) [0, 8, 9, 10, 20] rfl fun K hK => ?_
      simp only [go_sem, reduceIte, Nat.reduceEqDiff, Int.reduceLE, strs_at h0, Nat.zero_mul, Int.toNat_zero]
      first | refine hK _ ?_ | refine ⟨by omega, hK _ ?_⟩ | refine ⟨by omega, by omega, hK _ ?_⟩ | refine ⟨by omega, by omega, by omega, hK _ ?_⟩ | refine ⟨by omega, by omega, by omega, by omega, hK _ ?_⟩
      clear hK K
      refine AW.cond rfl (fun hc => ?_) (fun hc => ?_)
      · have hne := nat_ne_of hc
        have hno : ¬ ∀ w ∈ l, w.length = (l.headD []).length := fun h => hne (by rw [h _ (List.getElem_mem hi'), hhd])
        refine AW.rseq (fid := 71) (mt := []) [2] rfl fun K hK => ?_
        simp only [go_sem, reduceIte, Nat.reduceEqDiff, Int.reduceLE]
        refine hK _ ?_
        clear hK K
        refine AW.ret ⟨.inr rfl, ?_⟩
        simp only [go_sem, reduceIte, Nat.reduceEqDiff]
        exact ⟨_, _, Conv.refl _ _, by simp only [listedE, if_neg h1, if_neg hno], trivial, rfl⟩
      · have heq := nat_eq_of hc
        refine AW.skip ?_
        refine AW.region (fid := 71) (mt := []) [0, 8, 9, 10] rfl fun K hK => ?_
        simp only [go_sem, reduceIte, Nat.reduceEqDiff, Int.reduceLE]
        refine hK _ ?_
        clear hK K
        refine ⟨i + 1, ⟨by omega, fun w hw => ?_⟩, by omega, ?_⟩
        · rw [List.take_add_one, List.getElem?_eq_getElem hi', List.mem_append] at hw
          rcases hw with hw | hw
          · exact hp w hw
          · simp only [Option.toList_some, List.mem_singleton] at hw
            rw [hw, hhd, heq]
        · rw [cnt_next hm hi']
          exact AS.le_refl _
    · have hi2 := cnt_ge hc hi
      subst hi2
      rw [List.take_length] at hp
      refine AW.exit ?_
      refine AW.rseq (fid := 71) (mt := []) [2] rfl fun K hK => ?_
      simp only [go_sem, reduceIte, Nat.reduceEqDiff, Int.reduceLE]
      refine hK _ ?_
      clear hK K
      refine AW.ret ⟨.inr rfl, ?_⟩
      simp only [go_sem, reduceIte, Nat.reduceEqDiff]
      exact ⟨_, _, Conv.refl _ _, by simp only [listedE, if_neg h1, if_pos hp], trivial, rfl⟩

end Go.AW

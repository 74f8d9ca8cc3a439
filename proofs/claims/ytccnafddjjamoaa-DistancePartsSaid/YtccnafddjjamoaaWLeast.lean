import Derived.Test.YtccnafddjjamoaaWPairs
import Derived.Test.YtccnafddjjamoaaWKeys
namespace Go.AW
open Go Go.Proofs

def leastN (l : List (List UInt8)) : Int := (pairsL l).foldl min ((l.headD []).length : Int)

theorem w72 (l : List (List UInt8)) (h0 : 0 < l.length) (hlen : ∀ u ∈ l, ∀ v ∈ l, u.length = v.length) : Pure Try.prog 72 [strs l] (· = .int .i64 (leastN l)) := by
  refine Pure.of_body Try.func72 rfl rfl (Nat.le_of_ble_eq_true rfl) fun hf => ?_
  have hm : l.length ≤ 9223372036854775807 := hf.1.1
  have hhd : l.headD [] = l[0] := by cases l with
    | nil => simp at h0
    | cons x xs => rfl
  obtain ⟨f, _⟩ : ∃ f : Nat, True := ⟨72, trivial⟩
  unfold Try.f72
  dsimp only [enumS]
  refine AW.rseq (fid := f) (mt := []) [0] rfl fun K hK => ?_
  simp only [go_sem, reduceIte, Nat.reduceEqDiff, Int.reduceLE]
  refine hK _ ?_
  clear hK K
  refine AW.rseq (fid := f) (mt := []) [0, 3] rfl fun K hK => ?_
  simp only [go_sem, strs, reduceIte, Nat.reduceEqDiff, Int.reduceLE, Int.toNat_zero, Nat.zero_mul, strs_at h0, HV.one]
  refine ⟨by omega, fun v1 => ⟨rfl, by simp, hK _ ?_⟩⟩
  clear hK K
  refine AW.seq ?_
  refine AW.rseq (fid := f) (mt := []) [3, 10] rfl fun K hK => ?_
  simp only [go_sem, reduceIte, Nat.reduceEqDiff, Int.reduceLE]
  refine (w74 l).use fun r hr => ?_
  subst hr
  refine hK _ ?_
  clear hK K
  refine AW.block ?_
  have n1 : f * 1000 + 900 ≠ f * 1000 + 3 := by simp
  refine AW.rangeFuncL (f * 1000 + 900) rfl fun fn lver L hL => ?_
  dsimp only [List.set, List.length_cons, List.length_nil, Nat.reduceAdd] at hL ⊢
  refine w123 hm hlen (fun pre H => hget H (f * 1000 + 3) = some (v1, .arr 1 3 [.int .i64 (pre.foldl min (l[0].length : Int))]) ∧ hget H (f * 1000 + 900) = some (lver, L .ready none)) (fun _ => False) ⟨?_, ?_⟩ ?_ ?_ (fun _ h => h.elim)
  · rw [hget_hset, if_neg (Ne.symm n1)]; exact hget_0
  · rw [hget_hset, if_pos rfl]
  · rintro pre x rest H1 hx ⟨ha, hlp⟩
    rw [hL] at hlp
    refine ⟨_, _, _, _, _, _, hlp, rfl, by simp, fun ll => ?_⟩
    dsimp only [setPs]
    refine AW.region (fid := f) (mt := []) [3, 4] rfl fun K hK => ?_
    simp only [go_sem, reduceIte, Nat.reduceEqDiff, Int.reduceLE]
    refine hK _ ?_
    clear hK K
    refine ⟨rfl, hlp, ?_⟩
    refine AW.block ?_
    refine AW.region (fid := f) (mt := []) [3] rfl fun K hK => ?_
    simp only [go_sem, reduceIte, Nat.reduceEqDiff, Int.reduceLE, hget_hset, Nat.add_left_cancel_iff, ha, List.getElem?_cons_zero, Nat.add_zero, HV.one, List.length_cons, List.length_nil, Nat.zero_add, Nat.reduceAdd, Nat.reduceLeDiff, List.set_cons_zero]
    refine ⟨.inl trivial, hK _ ?_⟩
    clear hK K
    refine ⟨?_, true, rfl, fun _ => ⟨?_, ?_⟩, fun e => by cases e⟩
    · rw [hget_hset, if_neg n1, hget_hset, if_pos rfl]
    · rw [hget_hset, if_neg (Ne.symm n1), hget_hset, if_pos rfl, List.foldl_append]
      rfl
    · rw [hget_hset, if_pos rfl, hL]
  · rintro H1 ⟨ha, hlp⟩
    refine ⟨.ready, none, hlp, by simp, ?_⟩
    dsimp only [blockQ, thenQ]
    clear hL
    refine AW.rseq (fid := f) (mt := []) [2] rfl fun K hK => ?_
    simp only [go_sem, reduceIte, Nat.reduceEqDiff, Int.reduceLE, hget_hset, Nat.add_left_cancel_iff, ha, List.getElem?_cons_zero, Nat.add_zero]
    refine hK _ ?_
    clear hK K
    refine AW.ret ⟨.inr rfl, ?_⟩
    simp only [go_sem, reduceIte, Nat.reduceEqDiff]
    exact ⟨_, [], Conv.drop (fun _ _ h => by cases h), by simp only [leastN, hhd], trivial, rfl⟩

def leastE (l : List (List UInt8)) : Int × Int := if listedE l ≠ 0 then (0, listedE l) else if l.length < 2 then (0, 5) else (leastN l, 0)

theorem same_len {l : List (List UInt8)} (h : listedE l = 0) : ∀ u ∈ l, ∀ v ∈ l, u.length = v.length := by
  unfold listedE at h
  split at h
  · cases h
  · split at h
    · rename_i hw
      intro u hu v hv
      rw [hw u hu, hw v hv]
    · cases h
end Go.AW

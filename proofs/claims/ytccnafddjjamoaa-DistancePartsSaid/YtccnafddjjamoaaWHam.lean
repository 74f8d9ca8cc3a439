import Derived.Test.YtccnafddjjamoaaWBase
namespace Go.AW
open Go Go.Proofs

/-- the Hamming distance -/
def ham : List UInt8 → List UInt8 → Nat
  | a :: u, b :: v => (if a = b then 0 else 1) + ham u v
  | _, _ => 0

theorem ham_take : ∀ (u v : List UInt8) (i : Nat) (h : i < u.length) (h' : i < v.length), ham (u.take (i + 1)) (v.take (i + 1)) = ham (u.take i) (v.take i) + (if u[i] = v[i] then 0 else 1)
  | a :: u, b :: v, 0, _, _ => by simp [ham]
  | a :: u, b :: v, i + 1, h, h' => by
    have := ham_take u v i (by simpa using h) (by simpa using h')
    simp only [List.take_succ_cons, ham, List.getElem_cons_succ]
    omega

theorem ham_le : ∀ (u v : List UInt8), ham u v ≤ u.length
  | [], _ => Nat.zero_le _
  | a :: u, [] => Nat.zero_le _
  | a :: u, b :: v => by have := ham_le u v; simp only [ham, List.length_cons]; split <;> omega

theorem ham_take_left : ∀ (u v : List UInt8), ham u (v.take u.length) = ham u v
  | [], _ => rfl
  | a :: u, [] => rfl
  | a :: u, b :: v => by simp [ham, ham_take_left u v]

theorem w69 (u v : List UInt8) (hl : u.length ≤ v.length) : Pure Try.prog 69 [.str u, .str v] (· = .int .i64 (ham u v)) := by
  refine Pure.of_body Try.func69 rfl rfl (Nat.le_of_ble_eq_true rfl) fun hf => ?_
  have hm : u.length ≤ maxLen := hf.1
  unfold Try.f69
  dsimp only [enumS]
  refine AW.rseq (fid := 69) (mt := []) [0,1] rfl fun K hK => ?_
  simp only [go_sem, reduceIte, Nat.reduceEqDiff, Int.reduceLE]
  refine hK _ ?_
  clear hK K
  refine AW.rseq (fid := 69) (mt := []) [0,1,5] rfl fun K hK => ?_
  simp only [go_sem, reduceIte, Nat.reduceEqDiff, Int.reduceLE]
  refine hK _ ?_
  clear hK K
  refine AW.seq (AW.rseq (fid := 69) (mt := []) [0,1,5,8,9] rfl fun K hK => ?_)
  simp only [go_sem, reduceIte, Nat.reduceEqDiff, Int.reduceLE]
  refine hK _ ?_
  clear hK K
  refine AW.block (AW.loop (fun s => ∃ i : Nat, i ≤ u.length ∧ s = ⟨[(0, .str u), (1, .str v), (5, .int .i64 (ham (u.take i) (v.take i))), (8, .int .i64 u.length), (9, .int .i64 i)], []⟩)
    (fun s => match sget s.slots 9 with | some (.int _ i) => (u.length - i).toNat | _ => 0) ⟨_, AS.le_refl _, 0, Nat.zero_le _, rfl⟩ ?_)
  rintro s ⟨i, hi, rfl⟩
  refine AW.rseq (fid := 69) (mt := []) [0,1,5,8,9,10] rfl fun K hK => ?_
  simp only [go_sem, reduceIte, Nat.reduceEqDiff, Int.reduceLE]
  refine hK _ ?_
  clear hK K
  refine AW.cseq rfl (fun hc => ?_) (fun hc => ?_)
  · refine AW.skip ?_
    have hi' : i < u.length := by simpa using hc
    simp only [maxLen] at hm
    refine AW.seq (AW.block ?_)
    refine AW.rseq (fid := 69) (mt := []) [0,1,5,6,8,9] rfl fun K hK => ?_
    simp only [go_sem, reduceIte, Nat.reduceEqDiff, Int.reduceLE]
    refine hK _ ?_
    clear hK K
    have e1 : u[i]? = some u[i] := List.getElem?_eq_getElem hi'
    have e2 : v[i]? = some v[i] := List.getElem?_eq_getElem (by omega)
    refine AW.dseq (fid := 69) (mt := []) 7 [0,1,5,8,9,18] follows rfl rfl fun K hK => ?_
    dsimp only [List.take, List.drop]
    simp only [go_sem, reduceIte, Nat.reduceEqDiff, Int.reduceLE]
    simp only [Int.toNat_natCast, e1, e2]
    refine ⟨by omega, by omega, hK _ ?_⟩
    clear hK K
    refine AW.cond rfl (fun hd => ?_) (fun hd => ?_)
    · have hle := ham_le (u.take i) (v.take i)
      have hst := ham_take u v i hi' (by omega)
      simp only [List.length_take] at hle
      refine AW.region (fid := 69) (mt := []) [0,1,5,8,9] rfl fun K hK => ?_
      simp only [go_sem, reduceIte, Nat.reduceEqDiff, Int.reduceLE]
      refine hK _ ?_
      clear hK K
      refine AW.region (fid := 69) (mt := []) [0,1,5,8,9] rfl fun K hK => ?_
      simp only [go_sem, reduceIte, Nat.reduceEqDiff, Int.reduceLE]
      refine hK _ ?_
      clear hK K
      refine ⟨_, AS.le_refl _, ⟨i + 1, by omega, ?_⟩, ?_⟩
      · rw [w64 (by omega) (by omega), w64 (by omega) (by omega), hst, if_neg (by simpa using hd)]
        simp
      · simp only [sget, reduceIte, Nat.reduceEqDiff, w64 (n := (i : Int) + 1) (by omega) (by omega)]
        omega
    · have hst := ham_take u v i hi' (by omega)
      refine AW.skip ?_
      refine AW.region (fid := 69) (mt := []) [0,1,5,8,9] rfl fun K hK => ?_
      simp only [go_sem, reduceIte, Nat.reduceEqDiff, Int.reduceLE]
      refine hK _ ?_
      clear hK K
      refine ⟨_, AS.le_refl _, ⟨i + 1, by omega, ?_⟩, ?_⟩
      · rw [w64 (by omega) (by omega), hst, if_pos (by simpa using hd)]
        simp
      · simp only [sget, reduceIte, Nat.reduceEqDiff, w64 (n := (i : Int) + 1) (by omega) (by omega)]
        omega
  · refine AW.exit ?_
    have hi' : i = u.length := by have : ¬ (i < u.length) := by simpa using hc
                                  omega
    subst hi'
    rw [List.take_length, ham_take_left]
    refine AW.rseq (fid := 69) (mt := []) [4] rfl fun K hK => ?_
    simp only [go_sem, reduceIte, Nat.reduceEqDiff, Int.reduceLE]
    refine hK _ ?_
    clear hK K
    refine AW.ret ?_
    refine ⟨.inr rfl, ?_⟩
    simp only [go_sem, reduceIte, Nat.reduceEqDiff, Int.reduceLE]
    exact ⟨_, _, Conv.refl _ _, rfl, trivial, rfl⟩

end Go.AW

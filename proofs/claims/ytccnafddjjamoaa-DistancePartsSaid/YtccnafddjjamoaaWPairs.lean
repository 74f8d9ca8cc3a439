import Derived.Test.YtccnafddjjamoaaWList
namespace Go.AW
open Go Go.Proofs

/-- the distances of the pairs, row by row -/
def prow (l : List (List UInt8)) (i : Nat) : List Int := (List.range i).map fun k => (ham (l.getD i []) (l.getD k []) : Int)
def prows (l : List (List UInt8)) (i : Nat) : List Int := (List.range i).flatMap (prow l)
def pairsL (l : List (List UInt8)) : List Int := prows l l.length

theorem prows_succ (l : List (List UInt8)) (i : Nat) : prows l (i + 1) = prows l i ++ prow l i := by
  simp [prows, List.range_succ]
theorem getD_at {l : List (List UInt8)} {i : Nat} (h : i < l.length) : l.getD i [] = l[i] := by simp [List.getD, h]
theorem row_take (l : List (List UInt8)) {i k : Nat} (hk : k < i) : (prow l i).take (k + 1) = (prow l i).take k ++ [(ham (l.getD i []) (l.getD k []) : Int)] := by
  rw [List.take_add_one]
  simp [prow, hk]

theorem prows_split (l : List (List UInt8)) {i : Nat} : ∀ {n : Nat}, i < n → ∃ rest, prows l n = prows l i ++ (prow l i ++ rest)
  | n + 1, h => by
    rcases Nat.lt_or_ge i n with h' | h'
    · obtain ⟨rest, hr⟩ := prows_split l h'
      exact ⟨rest ++ prow l n, by rw [prows_succ, hr]; simp⟩
    · have : i = n := by omega
      subst this
      exact ⟨[], by rw [prows_succ]; simp⟩
theorem row_split (l : List (List UInt8)) {i k : Nat} (hk : k < i) : prow l i = (prow l i).take k ++ (ham (l.getD i []) (l.getD k []) : Int) :: (prow l i).drop (k + 1) := by
  have hl : k < (prow l i).length := by simpa [prow] using hk
  have : (prow l i)[k] = (ham (l.getD i []) (l.getD k []) : Int) := by simp [prow]
  rw [← this, ← List.drop_eq_getElem_cons hl, List.take_append_drop]
theorem pairs_at (l : List (List UInt8)) {i k : Nat} (hi : i < l.length) (hk : k < i) : ∃ rest, pairsL l = (prows l i ++ (prow l i).take k) ++ (ham l[i] (l[k]'(by omega)) : Int) :: rest := by
  obtain ⟨rest, hr⟩ := prows_split l hi
  refine ⟨(prow l i).drop (k + 1) ++ rest, ?_⟩
  have hx : (ham l[i] (l[k]'(by omega)) : Int) = ham (l.getD i []) (l.getD k []) := by rw [getD_at hi, getD_at (Nat.lt_trans hk hi)]
  rw [pairsL, hr, hx]
  conv => lhs; rw [row_split l hk]
  simp

theorem w74 (l : List (List UInt8)) : Pure Try.prog 74 [strs l] (· = .fn (.func 123) [] [.fptr [strs l] 0]) := by
  refine Pure.of_body Try.func74 rfl rfl (Nat.le_of_ble_eq_true rfl) fun hf => ?_
  unfold Try.f74 strs
  dsimp only [enumS]
  refine AW.rseq (fid := 74) (mt := []) [1] rfl fun K hK => ?_
  simp only [go_sem, reduceIte, Nat.reduceEqDiff, Int.reduceLE, HV.one]
  refine hK _ ?_
  clear hK K
  refine AW.rseq (fid := 74) (mt := []) [2] rfl fun K hK => ?_
  simp only [go_sem, reduceIte, Nat.reduceEqDiff, Int.reduceLE, List.mapM_nil, List.mapM_cons]
  refine hK _ ?_
  clear hK K
  refine AW.ret ⟨.inr rfl, ?_⟩
  simp only [go_sem, reduceIte, Nat.reduceEqDiff]
  exact ⟨_, _, Conv.refl _ _, rfl, ⟨trivial, ⟨clean_strs l, trivial⟩, trivial⟩, rfl⟩

theorem w123 {l : List (List UInt8)} (hm : l.length ≤ 9223372036854775807) (hlen : ∀ u ∈ l, ∀ v ∈ l, u.length = v.length) {id ver : Nat} {H : Heap} {K : HV → Heap → Prop} (J : List Int → Heap → Prop) (Stop : Heap → Prop)
    (h0 : J [] H) (hstep : ∀ pre x rest H, pairsL l = pre ++ x :: rest → J pre H → YCall Try.prog id ver [.int .i64 x] H fun r H' => ∃ b, r = .bool b ∧ (b = true → J (pre ++ [x]) H') ∧ (b = false → Stop H'))
    (hdone : ∀ H, J (pairsL l) H → K (.tup []) H) (hstop : ∀ H, Stop H → K (.tup []) H) : ACall Try.prog 123 [.yl id ver, .fptr [strs l] 0] H K := by
  refine ACall.of_body Try.func123 rfl rfl (Nat.le_of_ble_eq_true rfl) ?_
  unfold strs
  unfold Try.f123
  dsimp only [enumS]
  refine AW.rseq (fid := 123) (mt := []) [0, 1, 6, 7] rfl fun K hK => ?_
  simp only [go_sem, reduceIte, Nat.reduceEqDiff, Int.reduceLE, List.getElem?_cons_zero]
  refine hK _ ?_
  clear hK K
  refine AW.block ?_
  refine AW.loopS (fun p : Nat × Heap => ⟨[(0, .yl id ver), (1, .fptr [.sl 1 l.length (l.map .str)] 0), (6, .int .i64 l.length), (7, .int .i64 p.1)], p.2⟩)
    (fun p => p.1 ≤ l.length ∧ J (prows l p.1) p.2) (fun p => l.length - p.1) (0, H) (AS.le_refl _) ⟨Nat.zero_le _, h0⟩ ?_
  rintro ⟨i, H1⟩ ⟨hi, hj⟩
  dsimp only at hi hj ⊢
  refine AW.rseq (fid := 123) (mt := []) [0, 1, 6, 7, 8] rfl fun K hK => ?_
  simp only [go_sem, reduceIte, Nat.reduceEqDiff, Int.reduceLE]
  refine hK _ ?_
  clear hK K
  refine AW.cseq rfl (fun hc => ?_) (fun hc => ?_)
  · have hi' := cnt_lt hc
    refine AW.skip ?_
    refine AW.seq (AW.block ?_)
    refine AW.rseq (fid := 123) (mt := []) [0, 1, 3, 6, 7] rfl fun K hK => ?_
    simp only [go_sem, reduceIte, Nat.reduceEqDiff, Int.reduceLE]
    refine hK _ ?_
    clear hK K
    refine AW.rseq (fid := 123) (mt := []) [0, 1, 3, 6, 7, 10, 11] rfl fun K hK => ?_
    simp only [go_sem, reduceIte, Nat.reduceEqDiff, Int.reduceLE]
    refine hK _ ?_
    clear hK K
    refine AW.block ?_
    refine AW.loopS (fun p : Nat × Heap => ⟨[(0, .yl id ver), (1, .fptr [.sl 1 l.length (l.map .str)] 0), (6, .int .i64 l.length), (7, .int .i64 i), (3, .int .i64 i), (10, .int .i64 i), (11, .int .i64 p.1)], p.2⟩)
      (fun p => p.1 ≤ i ∧ J (prows l i ++ (prow l i).take p.1) p.2) (fun p => i - p.1) (0, H1) (AS.le_refl _) ⟨Nat.zero_le _, by simpa using hj⟩ ?_
    rintro ⟨k, H2⟩ ⟨hk, hj2⟩
    dsimp only at hk hj2 ⊢
    refine AW.rseq (fid := 123) (mt := []) [0, 1, 3, 6, 7, 10, 11, 12] rfl fun K hK => ?_
    simp only [go_sem, reduceIte, Nat.reduceEqDiff, Int.reduceLE]
    refine hK _ ?_
    clear hK K
    refine AW.cseq rfl (fun hc => ?_) (fun hc => ?_)
    · have hk' := cnt_lt hc
      refine AW.skip ?_
      refine AW.seq (AW.block ?_)
      refine AW.rseq (fid := 123) (mt := []) [0, 1, 3, 4, 6, 7, 10, 11] rfl fun K hK => ?_
      simp only [go_sem, reduceIte, Nat.reduceEqDiff, Int.reduceLE]
      refine hK _ ?_
      clear hK K
      refine AW.dseq (fid := 123) (mt := []) 10 [0, 1, 3, 6, 7, 10, 11, 25] follows rfl rfl fun K hK => ?_
      dsimp only [List.take, List.drop]
      simp only [go_sem, reduceIte, Nat.reduceEqDiff, Int.reduceLE, List.getElem?_cons_zero, strs_at hi', strs_at (Nat.lt_trans hk' hi')]
      refine ⟨by omega, by omega, by omega, by omega, _, ACallD.pure0 (w69 _ _ (by rw [hlen _ (List.getElem_mem hi') _ (List.getElem_mem (Nat.lt_trans hk' hi'))]; exact Nat.le_refl _)), ?_⟩
      obtain ⟨rest, hr⟩ := pairs_at l hi' hk'
      refine (hstep _ _ rest H2 hr hj2).mono ?_
      rintro r H3 ⟨b, rfl, h3, h4⟩
      simp only [go_sem, reduceIte, Nat.reduceEqDiff]
      refine hK _ ?_
      clear hK K
      refine AW.cond rfl (fun hc => ?_) (fun hc => ?_)
      · have hb : b = false := by simpa using hc
        refine AW.ret ⟨.inr rfl, ?_⟩
        simp only [go_sem, reduceIte, Nat.reduceEqDiff]
        exact ⟨_, _, Conv.refl _ _, hstop _ (h4 hb)⟩
      · have hb : b = true := by simpa using hc
        refine AW.skip ?_
        refine AW.region (fid := 123) (mt := []) [0, 1, 3, 6, 7, 10, 11] rfl fun K hK => ?_
        simp only [go_sem, reduceIte, Nat.reduceEqDiff, Int.reduceLE]
        refine hK _ ?_
        clear hK K
        refine ⟨(k + 1, H3), ⟨by dsimp only; omega, ?_⟩, by dsimp only; omega, ?_⟩
        · dsimp only
          rw [row_take l hk', ← List.append_assoc, getD_at hi', getD_at (Nat.lt_trans hk' hi')]
          exact h3 hb
        · dsimp only
          rw [cnt_next (by omega) hk']
          exact AS.le_refl _
    · have hk2 := cnt_ge hc hk
      subst hk2
      refine AW.exit ?_
      refine AW.region (fid := 123) (mt := []) [0, 1, 6, 7] rfl fun K hK => ?_
      simp only [go_sem, reduceIte, Nat.reduceEqDiff, Int.reduceLE]
      refine hK _ ?_
      clear hK K
      refine ⟨(k + 1, H2), ⟨by dsimp only; omega, ?_⟩, by dsimp only; omega, ?_⟩
      · dsimp only
        rw [prows_succ]
        have : (prow l k).take k = prow l k := by rw [List.take_of_length_le (by simp [prow])]
        rw [← this]
        exact hj2
      · dsimp only
        rw [cnt_next hm hi']
        exact AS.le_refl _
  · have hi2 := cnt_ge hc hi
    subst hi2
    refine AW.exit ?_
    refine ⟨.inl rfl, ?_⟩
    simp only [go_sem, reduceIte, Nat.reduceEqDiff]
    exact ⟨_, _, Conv.refl _ _, hdone _ hj⟩

end Go.AW

import Derived.Test.YtccnafddjjamoaaWPartsL
import Derived.Test.YtccnafddjjamoaaWGreat
import Derived.Test.YtccnafddjjamoaaWDel
import Derived.Test.YtccnafddjjamoaaAwZ
import Derived.Test.YtccnafddjjamoaaWAwake46
namespace Go.AW
open Go Go.Proofs
set_option linter.unusedSimpArgs false

theorem rem_nat (a b : Nat) : Int.tmod (a : Int) (b : Int) = ((a % b : Nat) : Int) := Int.ofNat_tmod a b |>.symm ▸ rfl

theorem frz_row {H : Heap} {id ver : Nat} {e : TypeId} {l d : List (List UInt8)} {n : Nat} (hg : hget H id = some (ver, .arr 1 e ((l ++ d).map .str))) (hn : n = l.length) : [HV.ar id ver 1 0 n].map (frz 2 H) = [strs l] := by
  subst hn
  have hm : (l.map HV.str).map (frz 1 H) = l.map HV.str := by
    rw [List.map_map]; exact List.map_congr_left fun x _ => rfl
  have : frz 2 H (HV.ar id ver 1 0 l.length) = .sl 1 l.length (((((l ++ d).map HV.str).drop 0).take (l.length * 1)).map (frz 1 H)) := by
    rw [frz, hg]
    exact if_pos ⟨rfl, by simp⟩
  rw [List.map_cons, this, List.drop_zero, Nat.mul_one, List.map_append, List.take_left' (List.length_map _), hm]
  rfl

set_option maxHeartbeats 2000000 in
set_option maxRecDepth 100000 in
theorem w5 (l : List (List UInt8)) (b : UInt8) : Pure Try.prog 5 [strs l, .int .u8 (b.toNat : Int)] (· = .bool true) := by
  refine Pure.of_body Try.func5 rfl rfl (Nat.le_of_ble_eq_true rfl) fun hf => ?_
  have hm : l.length ≤ 9223372036854775807 := hf.1.1
  unfold Try.f5
  dsimp only [enumS]
  refine AW.rseq (fid := 5) (mt := []) [0, 1] rfl fun K hK => ?_
  simp only [go_sem, reduceIte, Nat.reduceEqDiff, Int.reduceLE]
  refine hK _ ?_
  clear hK K
  refine AW.seq ?_
  rcases Nat.lt_or_ge l.length 3 with h3 | h3
  · have d1 : decide ((l.length : Int) < 3) = true := decide_eq_true (by omega)
    refine AW.rseqD (fid := 5) (mt := []) [(2, 12)] [16] rfl rfl fun K hK => ?_
    simp only [go_sem, reduceIte, Nat.reduceEqDiff, Int.reduceLE]
    refine (w22 l).use fun r hr => ?_
    obtain ⟨c, rfl, hc⟩ := hr
    cases c
    all_goals
      simp only [go_sem, reduceIte, Nat.reduceEqDiff, Int.reduceLE, d1]
      refine hK _ ?_
      clear hK K
      refine AW.cond rfl (fun hc => ?_) (fun hc => by first | cases hc | (rw [d1] at hc; cases hc))
      refine AW.rseq (fid := 5) (mt := []) [4] rfl fun K hK => ?_
      simp only [go_sem, reduceIte, Nat.reduceEqDiff, Int.reduceLE]
      refine w15.pure.use fun r hr => ?_
      subst hr
      refine hK _ ?_
      clear hK K
      refine AW.ret ⟨.inr rfl, ?_⟩
      simp only [go_sem, reduceIte, Nat.reduceEqDiff]
      exact ⟨_, _, Conv.refl _ _, rfl, trivial, rfl⟩
  · have d1 : decide ((l.length : Int) < 3) = false := decide_eq_false (by omega)
    have hk := Nat.mod_lt b.toNat (by omega : 0 < l.length)
    have hrem : Int.tmod (b.toNat : Int) (l.length : Int) = ((b.toNat % l.length : Nat) : Int) := (Int.ofNat_tmod _ _).symm
    generalize b.toNat % l.length = k at hk hrem
    have hb : b.toNat < 256 := b.toNat_lt
    have hw1 : IntKind.wrap .i64 (b.toNat : Int) = (b.toNat : Int) := w64 (by omega) (by omega)
    have hlne : l ≠ [] := fun e => by rw [e] at h3; cases h3
    refine AW.rseqD (fid := 5) (mt := []) [(2, 12)] [0, 1, 16] rfl rfl fun K hK => ?_
    simp only [go_sem, reduceIte, Nat.reduceEqDiff, Int.reduceLE]
    refine (w22 l).use fun r hr => ?_
    obtain ⟨c, rfl, hc⟩ := hr
    cases c
    · have hlen := hc rfl
      simp only [go_sem, reduceIte, Nat.reduceEqDiff, Int.reduceLE, d1]
      refine hK _ ?_
      clear hK K
      refine AW.cond rfl (fun hc => by rw [d1] at hc; cases hc) (fun hc => ?_)
      refine AW.skip ?_
      refine AW.rseq (fid := 5) (mt := []) [0, 5] rfl fun K hK => ?_
      simp only [go_sem, reduceIte, Nat.reduceEqDiff, Int.reduceLE, strs, hw1, hrem]
      refine ⟨by omega, hK _ ?_⟩
      clear hK K
      refine AW.rseq (fid := 5) (mt := []) [0, 5, 6, 7] rfl fun K hK => ?_
      simp only [go_sem, reduceIte, Nat.reduceEqDiff, Int.reduceLE]
      refine (w23 l).use fun r hr => ?_
      subst hr
      simp only [pairOf, go_sem, reduceIte, Nat.reduceEqDiff, List.getElem?_cons_zero, List.getElem?_cons_succ]
      refine hK _ ?_
      clear hK K
      obtain ⟨f, _⟩ : ∃ f : Nat, True := ⟨5, trivial⟩
      refine AW.rseq (fid := f) (mt := []) [6, 7, 8, 9] rfl fun K hK => ?_
      simp only [go_sem, reduceIte, Nat.reduceEqDiff, Int.reduceLE]
      refine w25 0 hlne (by omega) fun ver => ?_
      rw [cnt_next hm hk]
      refine w24 (i := k) (j := k + 1) (l := l) (e := 9) (id := 0) (ver := ver) (by rw [hget_hset, if_pos rfl]) (by omega) (by omega) hlne ?_
      have hc2 : (cutL l k).length = l.length - (k + 1 - k) := by rw [cutL_len hk]; omega
      refine ((w23 (cutL l k)).fresh ⟨trivial, trivial, trivial⟩ rfl).call 2 (frz_row (by rw [hget_hset, if_pos rfl]; rfl) hc2.symm) ?_
      generalize hset _ 0 ver _ = H2
      simp only [pairOf, go_sem, reduceIte, Nat.reduceEqDiff, List.getElem?_cons_zero, List.getElem?_cons_succ]
      refine hK _ ?_
      clear hK K
      refine AW.seq ?_
      refine AW.rseq (fid := 5) (mt := []) [6, 8, 9, 39] rfl fun K hK => ?_
      simp only [go_sem, reduceIte, Nat.reduceEqDiff, Int.reduceLE]
      refine hK _ ?_
      clear hK K
      refine AW.cond rfl (fun hc => ?_) (fun hc => ?_)
      · skip
        refine AW.rseq (fid := 5) (mt := []) [4] rfl fun K hK => ?_
        simp only [go_sem, reduceIte, Nat.reduceEqDiff, Int.reduceLE]
        refine (w15.call 1 rfl ?_)
        refine hK _ ?_
        clear hK K
        refine AW.ret ⟨.inr rfl, ?_⟩
        simp only [go_sem, reduceIte, Nat.reduceEqDiff]
        exact ⟨_, [], Conv.drop (fun _ _ h => by cases h), rfl, trivial, rfl⟩
      · skip
        refine AW.skip ?_
        have hok : listedE l = 0 := by
          by_cases h0 : listedE l = 0
          · exact h0
          · have hl2 : (leastE l).2 = 0 := by
              by_cases h1 : (leastE l).2 = 0
              · exact h1
              · rw [decide_eq_true h1] at hc; cases hc
            have : leastE l = (0, listedE l) := by unfold leastE; rw [if_pos h0]
            rw [this] at hl2
            exact hl2
        obtain ⟨f1, f2, f3⟩ := least_cut hk h3 hok
        have d2 : decide ((leastE (cutL l k)).2 = 0) = true := decide_eq_true f1
        have d3 : decide ((leastE l).1 ≤ (leastE (cutL l k)).1) = true := decide_eq_true f2
        refine AW.rseqD (fid := 5) (mt := []) [(2, 43), (7, 48)] [4] rfl rfl fun K hK => ?_
        refine aopsD_cut 8 fun G hG => ?_
        dsimp only [List.take]
        simp only [go_sem, reduceIte, Nat.reduceEqDiff, Int.reduceLE, d2, d3]
        refine hG _ ?_
        clear hG G
        dsimp only [List.drop]
        refine aopsD_cut 1 fun G hG => ?_
        dsimp only [List.take]
        simp only [go_sem, reduceIte, Nat.reduceEqDiff, Int.reduceLE, d2, d3]
        refine (w15.call 1 rfl ?_)
        refine hG _ ?_
        clear hG G
        dsimp only [List.drop]
        simp only [go_sem, reduceIte, Nat.reduceEqDiff, Int.reduceLE, d2, d3]
        refine hK _ ?_
        clear hK K
        refine AW.ret ⟨.inr rfl, ?_⟩
        simp only [go_sem, reduceIte, Nat.reduceEqDiff]
        exact ⟨_, [], Conv.drop (fun _ _ h => by cases h), rfl, trivial, rfl⟩
    · simp only [go_sem, reduceIte, Nat.reduceEqDiff, Int.reduceLE, d1]
      refine hK _ ?_
      clear hK K
      refine AW.cond rfl (fun hc => ?_) (fun hc => by first | cases hc | (rw [d1] at hc; cases hc))
      refine AW.rseq (fid := 5) (mt := []) [4] rfl fun K hK => ?_
      simp only [go_sem, reduceIte, Nat.reduceEqDiff, Int.reduceLE]
      refine w15.pure.use fun r hr => ?_
      subst hr
      refine hK _ ?_
      clear hK K
      refine AW.ret ⟨.inr rfl, ?_⟩
      simp only [go_sem, reduceIte, Nat.reduceEqDiff]
      exact ⟨_, _, Conv.refl _ _, rfl, trivial, rfl⟩

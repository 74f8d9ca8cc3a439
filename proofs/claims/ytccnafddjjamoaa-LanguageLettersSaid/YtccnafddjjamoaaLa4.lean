import Derived.Test.YtccnafddjjamoaaLa3
import Derived.Shelf.Bits.Mul64
import Derived.Shelf.SlicesE.Clone
import Derived.Test.YtccnafddjjamoaaChecked
namespace Go.AW
open Go Go.Proofs
theorem fw24_0 : fieldOf Try.prog 24 0 = some (0, { desc := TypeDesc.int .i64, size := 1, bytes := 8, zero := Value.int .i64 0 }) := by kernel_rfl
theorem fw24_1 : fieldOf Try.prog 24 1 = some (1, { desc := TypeDesc.int .i64, size := 1, bytes := 8, zero := Value.int .i64 0 }) := by kernel_rfl
theorem fw24_2 : fieldOf Try.prog 24 2 = some (2, { desc := TypeDesc.slice 66, size := 1, bytes := 24, zero := Value.slice none 0 0 }) := by kernel_rfl
theorem fw66_0 : fieldOf Try.prog 66 0 = some (0, { desc := TypeDesc.int .i64, size := 1, bytes := 8, zero := Value.int .i64 0 }) := by kernel_rfl
theorem fw66_1 : fieldOf Try.prog 66 1 = some (1, { desc := TypeDesc.int .i64, size := 1, bytes := 8, zero := Value.int .i64 0 }) := by kernel_rfl
theorem fw66_2 : fieldOf Try.prog 66 2 = some (2, { desc := TypeDesc.int .i64, size := 1, bytes := 8, zero := Value.int .i64 0 }) := by kernel_rfl
attribute [go_sem high] fw24_0 fw24_1 fw24_2 fw66_0 fw66_1 fw66_2
end Go.AW

namespace Go.AW
open Go Go.Proofs

theorem hget_0 {id v : Nat} {o : AObj} {H : Heap} : hget ((id, v, o) :: H) id = some (v, o) := by simp [hget]

set_option linter.unusedSimpArgs false
set_option maxHeartbeats 1000000 in
/-- language.list: the words of n letters, each with its ends -/
theorem w79 {L n : Nat} {gS gE : HV} {stp : List Int → UInt8 → List Int} {set : List Int} {A : List Int → Prop} (hL : L ≤ 16) (h1g : gS.one = true) (h1e : gE.one = true) (hA0 : A set) (hA : ∀ a c, A a → c ∈ letters.take L → A (stp a c))
    (hstep : ∀ a c, A a → c ∈ letters.take L → Pure Try.prog 125 [.agg [num L, gS, gE], ints a, .int .u8 c.toNat] (· = ints (stp a c))) :
    ACall Try.prog 79 [.agg [num L, gS, gE], ints set, num n] [] fun r H' =>
      ((∀ j, 1 ≤ j → j ≤ n → (lvl stp (letters.take L) set j).length ≤ 4096) ∧ ∃ id ver es, r = .tup [.mp id ver, .bool true] ∧ H' = [(id, ver, .map es)] ∧ es.Perm ((lvl stp (letters.take L) set n).map ent)) ∨
      (∃ j, 1 ≤ j ∧ j ≤ n ∧ 4096 < (lvl stp (letters.take L) set j).length ∧ r = .tup [.v (.map none), .bool false] ∧ H' = []) := by
  refine ACall.facts (enters' Try.func79 rfl rfl) fun hf => ?_
  have hn : n ≤ 9223372036854775807 := by
    have := fact_num hf.2.2.1
    omega
  refine ACall.of_body Try.func79 rfl rfl (Nat.le_of_ble_eq_true rfl) ?_
  unfold Try.f79
  dsimp only [enumS, Nat.reduceAdd]
  simp only [num] at *
  refine AW.rseq (fid := 79) (mt := []) [1, 2, 3] rfl fun K hK => ?_
  simp only [go_sem, reduceIte, Nat.reduceEqDiff, Int.reduceLE]
  refine hK _ ?_
  clear hK K
  refine AW.rseq (fid := 79) (mt := []) [1, 2, 3, 8] rfl fun K hK => ?_
  simp only [go_sem, reduceIte, Nat.reduceEqDiff, Int.reduceLE]
  intro v0
  refine hK _ ?_
  clear hK K
  refine AW.seq ?_
  refine AW.rseq (fid := 79) (mt := []) [1, 2, 3, 8, 18] rfl fun K hK => ?_
  simp only [go_sem, ints, reduceIte, Nat.reduceEqDiff, Int.reduceLE]
  refine hK _ ?_
  clear hK K
  have h00 : ((0 : Nat) : Int) = 0 := rfl
  refine AW.cjoin2 (fun es : List (List UInt8 × HV) => ⟨[(2, .int .i64 n), (3, .fptr [.int .i64 L, gS, gE] 0), (8, .mp (79 * 1000 + 15) v0)], [(79 * 1000 + 15, v0, .map es)]⟩) (fun es => es = (lvl stp (letters.take L) set 0).map ent) rfl (fun hc => ?_) (fun hc => ?_) ?_
  · have hc : 0 < set.length := by simpa using hc
    refine AW.region (fid := 79) (mt := []) [2, 3, 8] rfl fun K hK => ?_
    simp only [go_sem, reduceIte, Nat.reduceEqDiff, Int.reduceLE, List.length_nil, Nat.zero_le, mput]
    refine hK _ ?_
    clear hK K
    have hne : set ≠ [] := by rintro rfl; simp at hc
    refine ⟨[([], ints set)], by simp [lvl, hne, ent], AS.le_of ⟨rfl, rfl, rfl, trivial⟩ ⟨hget_0, trivial⟩⟩
  · have hc : set = [] := by
      have : ¬ 0 < set.length := by simpa using hc
      exact List.eq_nil_of_length_eq_zero (by omega)
    refine AW.skip ⟨[], by simp [lvl, hc], AS.le_of ⟨rfl, rfl, rfl, trivial⟩ ⟨hget_0, trivial⟩⟩
  rintro es0 rfl
  refine AW.seq ?_
  refine AW.rseq (fid := 79) (mt := []) [3, 8, 21, 22] rfl fun K hK => ?_
  simp only [go_sem, reduceIte, Nat.reduceEqDiff, Int.reduceLE]
  refine hK _ ?_
  clear hK K
  refine AW.block ?_
  refine AW.loopS (fun p : Nat × Nat × Nat × List (List UInt8 × HV) => ⟨[(3, .fptr [.int .i64 L, gS, gE] 0), (8, .mp p.2.1 p.2.2.1), (21, .int .i64 n), (22, .int .i64 p.1)], [(p.2.1, p.2.2.1, .map p.2.2.2)]⟩)
    (fun p => p.1 ≤ n ∧ p.2.2.2.Perm ((lvl stp (letters.take L) set p.1).map ent) ∧ ∀ j, 1 ≤ j → j ≤ p.1 → (lvl stp (letters.take L) set j).length ≤ 4096) (fun p => n - p.1) (0, _, _, _)
    (AS.le_of ⟨rfl, rfl, rfl, rfl, trivial⟩ ⟨rfl, trivial⟩) ⟨Nat.zero_le _, List.Perm.refl _, fun j h1 h2 => by dsimp only at h2; omega⟩ ?_
  rintro ⟨i, aid, av, es⟩ ⟨hi, hes, hsz⟩
  dsimp only at hi hes hsz ⊢
  refine AW.rseq (fid := 79) (mt := []) [3, 8, 21, 22, 23] rfl fun K hK => ?_
  simp only [go_sem, reduceIte, Nat.reduceEqDiff, Int.reduceLE]
  refine hK _ ?_
  clear hK K
  refine AW.cseq rfl (fun hc => ?_) (fun hc => ?_)
  · have hi' := dec_lt hc
    obtain ⟨f, hf1, hf2⟩ : ∃ f : Nat, f * 1000 + 24 ≠ aid ∧ f * 1000 + 26 ≠ aid := ⟨aid + 1, by omega, by omega⟩
    have hf3 := Ne.symm hf1
    have hf4 := Ne.symm hf2
    refine AW.skip ?_
    refine AW.seq (AW.block ?_)
    refine AW.rseq (fid := f) (mt := []) [3, 8, 9, 21, 22] rfl fun K hK => ?_
    simp only [go_sem, reduceIte, Nat.reduceEqDiff, Int.reduceLE, hf1, hf2, hf3, hf4]
    intro nv
    refine hK _ ?_
    clear hK K
    refine AW.seq ?_
    refine AW.rseq (fid := f) (mt := []) [3, 9, 21, 22, 26] rfl fun K hK => ?_
    simp only [go_sem, reduceIte, Nat.reduceEqDiff, Int.reduceLE, hf1, hf2, hf3, hf4, Nat.add_left_cancel_iff]
    refine ⟨hf2, fun iv => hK _ ?_⟩
    clear hK K
    refine AW.block ?_
    have hlk := lvl_keys (stp := stp) (set := set) (cs := letters.take L) (letters_nodup.sublist (List.take_sublist _ _)) i
    refine AW.loopS (fun p : List WS × List WS × List (List UInt8 × HV) × Bool => ⟨[(3, .fptr [.int .i64 L, gS, gE] 0), (9, .mp (f * 1000 + 24) nv), (21, .int .i64 n), (22, .int .i64 i), (26, .it (f * 1000 + 26) iv)],
        [(aid, av, .map es), (f * 1000 + 24, nv, .map p.2.2.1), (f * 1000 + 26, iv, .iter aid av (p.1.map (·.1)) p.2.2.2)]⟩)
      (fun p => (p.1 ++ p.2.1).Perm (lvl stp (letters.take L) set i) ∧ p.2.2.1.Perm ((p.1.flatMap (ext1 stp (letters.take L))).map ent) ∧ (p.1.flatMap (ext1 stp (letters.take L))).length ≤ 4096) (fun p => p.2.1.length) ([], lvl stp (letters.take L) set i, [], false)
      (AS.le_of ⟨rfl, rfl, rfl, rfl, rfl, trivial⟩ ⟨hget_0, by simp [hget, hf1, hf2, hf3, hf4], by simp [hget, hf1, hf2, hf3, hf4], trivial⟩) ⟨List.Perm.refl _, List.Perm.refl _, Nat.zero_le _⟩ ?_
    rintro ⟨vis, rest, es', cur⟩ ⟨hvr, hes', hlen⟩
    dsimp only at hvr hes' hlen ⊢
    refine AW.rseq (fid := f) (mt := []) [3, 9, 21, 22, 26, 28] rfl fun K hK => ?_
    simp only [go_sem, reduceIte, Nat.reduceEqDiff, Int.reduceLE, hf1, hf2, hf3, hf4, Nat.add_left_cancel_iff]
    refine ⟨fun hall => hK _ ?_, fun k v hkv hks => hK _ ?_⟩
    · clear hK K
      have hr := rest_nil hlk hvr hes hall
      subst hr
      rw [List.append_nil] at hvr
      have hnx : es'.Perm ((lvl stp (letters.take L) set (i + 1)).map ent) := hes'.trans ((perm_flat hvr).map ent)
      have hln : (lvl stp (letters.take L) set (i + 1)).length ≤ 4096 := by
        have := (perm_flat (stp := stp) (cs := letters.take L) hvr).length_eq
        show ((lvl stp (letters.take L) set i).flatMap _).length ≤ 4096
        omega
      have hsz' : ∀ j, 1 ≤ j → j ≤ i + 1 → (lvl stp (letters.take L) set j).length ≤ 4096 := fun j h1 h2 => by
        rcases Nat.lt_or_ge i j with h | h
        · have : j = i + 1 := by omega
          subst this; exact hln
        · exact hsz j h1 h
      refine AW.cseq rfl (fun hc => by cases hc) (fun _ => ?_)
      refine AW.exit ?_
      refine AW.rseq (fid := f) (mt := []) [3, 8, 21, 22] rfl fun K hK => ?_
      simp only [go_sem, reduceIte, Nat.reduceEqDiff, Int.reduceLE, hf1, hf2, hf3, hf4, Nat.add_left_cancel_iff]
      refine hK _ ?_
      clear hK K
      refine AW.rseq (fid := f) (mt := []) [3, 8, 21, 22, 59] rfl fun K hK => ?_
      simp only [go_sem, reduceIte, Nat.reduceEqDiff, Int.reduceLE, hf1, hf2, hf3, hf4, Nat.add_left_cancel_iff]
      refine ⟨by rw [hes'.length_eq, List.length_map]; simp only [maxLen]; omega, hK _ ?_⟩
      clear hK K
      refine AW.cond rfl (fun hc => ?_) (fun hc => ?_)
      · have h0 : es' = [] := by
          have : (es'.length : Int) = 0 := by simpa using hc
          exact List.eq_nil_of_length_eq_zero (by omega)
        subst h0
        have hl0 : lvl stp (letters.take L) set (i + 1) = [] := by
          have := hnx.length_eq
          simp only [List.length_nil, List.length_map] at this
          exact List.eq_nil_of_length_eq_zero this.symm
        have hlj := @lvl_nil stp (letters.take L) set (i + 1) hl0
        refine AW.exit ?_
        refine AW.rseq (fid := 79) (mt := []) [6, 7] rfl fun K hK => ?_
        simp only [go_sem, reduceIte, Nat.reduceEqDiff, Int.reduceLE, hf1, hf2, hf3, hf4, Nat.add_left_cancel_iff]
        refine hK _ ?_
        clear hK K
        refine AW.ret ⟨.inr rfl, ?_⟩
        simp only [go_sem, reduceIte, Nat.reduceEqDiff]
        refine ⟨_, [(f * 1000 + 24, nv, .map [])], Conv.drop (leH_get ⟨by simp [hget, hf1, hf2, hf3, hf4], trivial⟩), .inl ⟨fun j h1 h2 => ?_, _, _, _, rfl, rfl, ?_⟩⟩
        · rcases Nat.lt_or_ge (i + 1) j with h | h
          · rw [hlj (by omega)]; simp
          · exact hsz' j h1 h
        · rw [hlj (by omega)]; exact List.Perm.refl _
      · refine AW.skip ?_
        refine AW.region (fid := 79) (mt := []) [3, 8, 21, 22] rfl fun K hK => ?_
        simp only [go_sem, reduceIte, Nat.reduceEqDiff, Int.reduceLE]
        refine hK _ ?_
        clear hK K
        refine ⟨(i + 1, f * 1000 + 24, nv, es'), ⟨by dsimp only; omega, hnx, hsz'⟩, by dsimp only; omega, ?_⟩
        dsimp only
        rw [cnt_next hn hi']
        exact AS.le_of ⟨rfl, rfl, rfl, rfl, trivial⟩ ⟨by simp [hget, hf1, hf2, hf3, hf4], trivial⟩
    · clear hK K
      obtain ⟨x, l1, l2, rfl, hx, hvr'⟩ := next_pick hvr hes hkv hks
      cases hx
      have hxl : x ∈ lvl stp (letters.take L) set i := hvr'.mem_iff.1 (by simp)
      have hxA : A x.2 := lvl_all hA0 hA i x hxl
      have hxn : x.1.length = i := lvl_len i x hxl
      refine AW.cseq rfl (fun _ => ?_) (fun hc => by cases hc)
      refine AW.skip ?_
      refine AW.block ?_
      refine AW.rseq (fid := f) (mt := []) [3, 9, 10, 11, 21, 22, 26] rfl fun K hK => ?_
      simp only [go_sem, reduceIte, Nat.reduceEqDiff, Int.reduceLE, hf1, hf2, hf3, hf4, Nat.add_left_cancel_iff]
      refine ⟨_, alook_mem (perm_keys hes hlk) hkv, hK _ ?_⟩
      clear hK K
      refine AW.seq ?_
      refine AW.rseq (fid := f) (mt := []) [3, 9, 10, 11, 21, 22, 26, 33, 34] rfl fun K hK => ?_
      simp only [go_sem, reduceIte, Nat.reduceEqDiff, Int.reduceLE, List.getElem?_cons_zero, Nat.add_zero]
      refine hK _ ?_
      clear hK K
      refine AW.block ?_
      refine AW.loopS (fun p : Nat × List (List UInt8 × HV) => ⟨[(3, .fptr [.int .i64 L, gS, gE] 0), (9, .mp (f * 1000 + 24) nv), (10, .str x.1), (11, ints x.2), (21, .int .i64 n), (22, .int .i64 i), (26, .it (f * 1000 + 26) iv), (33, .int .i64 L), (34, .int .i64 p.1)],
          [(aid, av, .map es), (f * 1000 + 24, nv, .map p.2), (f * 1000 + 26, iv, .iter aid av (x.1 :: vis.map (·.1)) true)]⟩)
        (fun p => p.1 ≤ L ∧ p.2.Perm ((vis.flatMap (ext1 stp (letters.take L)) ++ ext1 stp ((letters.take L).take p.1) x).map ent)) (fun p => L - p.1) (0, es')
        (AS.le_of ⟨rfl, rfl, rfl, rfl, rfl, rfl, rfl, rfl, rfl, trivial⟩ ⟨hget_0, by simp [hget, hf1, hf2, hf3, hf4], by simp [hget, hf1, hf2, hf3, hf4], trivial⟩) ⟨Nat.zero_le _, by simpa [ext1] using hes'⟩ ?_
      rintro ⟨j, es2⟩ ⟨hj, hes2⟩
      dsimp only at hj hes2 ⊢
      refine AW.rseq (fid := f) (mt := []) [3, 9, 10, 11, 21, 22, 26, 33, 34, 35] rfl fun K hK => ?_
      simp only [go_sem, reduceIte, Nat.reduceEqDiff, Int.reduceLE]
      refine hK _ ?_
      clear hK K
      refine AW.cseq rfl (fun hc => ?_) (fun hc => ?_)
      · have hj' := dec_lt hc
        have hjl : j < letters.length := by show j < 16; omega
        have hjt : j < (letters.take L).length := by rw [List.length_take]; exact Nat.lt_min.2 ⟨hj', hjl⟩
        have hcj : (letters.take L)[j] = letters[j] := List.getElem_take
        have hmem : letters[j] ∈ letters.take L := hcj ▸ List.getElem_mem hjt
        refine AW.skip ?_
        refine AW.seq (AW.block ?_)
        refine AW.rseq (fid := f) (mt := []) [3, 9, 10, 11, 12, 21, 22, 26, 33, 34] rfl fun K hK => ?_
        simp only [go_sem, reduceIte, Nat.reduceEqDiff, Int.reduceLE]
        refine hK _ ?_
        clear hK K
        have hlj : ([48, 49, 50, 51, 52, 53, 54, 55, 56, 57, 97, 98, 99, 100, 101, 102] : List UInt8)[j]? = some letters[j] := List.getElem?_eq_getElem (l := letters) hjl
        refine AW.rseq (fid := f) (mt := []) [3, 9, 10, 11, 13, 21, 22, 26, 33, 34] rfl fun K hK => ?_
        simp only [go_sem, reduceIte, Nat.reduceEqDiff, Int.reduceLE, List.length_nil, List.length_cons, Nat.reduceAdd, Nat.reduceLeDiff, hlj]
        refine ⟨by omega, hK _ ?_⟩
        clear hK K
        refine AW.rseq (fid := f) (mt := []) [3, 9, 10, 11, 13, 14, 21, 22, 26, 33, 34] rfl fun K hK => ?_
        simp only [go_sem, reduceIte, Nat.reduceEqDiff, Int.reduceLE, List.length_nil, List.length_cons, Nat.reduceAdd, Nat.reduceLeDiff, List.drop_zero, List.take_succ_cons, List.take_zero]
        refine (hstep x.2 letters[j] hxA hmem).use fun r hr => ?_
        subst hr
        refine hK _ ?_
        clear hK K
        refine AW.rseq (fid := f) (mt := []) [3, 9, 10, 11, 13, 14, 21, 22, 26, 33, 34, 45] rfl fun K hK => ?_
        simp only [go_sem, ints, reduceIte, Nat.reduceEqDiff, Int.reduceLE]
        refine hK _ ?_
        clear hK K
        have hxk : x.1 ∉ vis.map (·.1) := hks
        have htake := ext1_take (stp := stp) x hjt
        rw [hcj] at htake
        refine AW.cond rfl (fun hc => ?_) (fun hc => ?_)
        · have hne : stp x.2 letters[j] ≠ [] := by
            intro h0
            rw [h0] at hc
            simp at hc
          rw [if_neg hne] at htake
          have hnew : alook (x.1 ++ [letters[j]]) es2 = none := hcj ▸ key_new (letters_nodup.sublist (List.take_sublist _ _)) hxk hjt hes2
          refine AW.region (fid := f) (mt := []) [3, 9, 10, 11, 21, 22, 26, 33, 34] rfl fun K hK => ?_
          simp only [go_sem, reduceIte, Nat.reduceEqDiff, Int.reduceLE, hf1, hf2, hf3, hf4, Nat.add_left_cancel_iff, utf_letters _ (List.getElem_mem hjl)]
          refine ⟨by simp only [List.length_cons, List.length_nil, maxLen, hxn]; omega, hf3, hK _ ?_⟩
          clear hK K
          refine AW.region (fid := f) (mt := []) [3, 9, 10, 11, 21, 22, 26, 33, 34] rfl fun K hK => ?_
          simp only [go_sem, reduceIte, Nat.reduceEqDiff, Int.reduceLE]
          refine hK _ ?_
          clear hK K
          refine ⟨(j + 1, mput (x.1 ++ [letters[j]]) (ints (stp x.2 letters[j])) es2), ⟨by dsimp only; omega, ?_⟩, by dsimp only; omega, ?_⟩
          · dsimp only
            rw [mput_new hnew, htake, ← List.append_assoc, List.map_append]
            exact hes2.append (List.Perm.refl _)
          · dsimp only
            rw [cnt_next (by omega) hj']
            exact AS.le_of ⟨rfl, rfl, rfl, rfl, rfl, rfl, rfl, rfl, rfl, trivial⟩ ⟨hget_0, by simp [hget, hf1, hf2, hf3, hf4, ints], by simp [hget, hf1, hf2, hf3, hf4], trivial⟩
        · have he : stp x.2 letters[j] = [] := by
            have : ¬ 0 < (stp x.2 letters[j]).length := by simpa using hc
            exact List.eq_nil_of_length_eq_zero (by omega)
          rw [if_pos he, List.append_nil] at htake
          refine AW.skip ?_
          refine AW.region (fid := f) (mt := []) [3, 9, 10, 11, 21, 22, 26, 33, 34] rfl fun K hK => ?_
          simp only [go_sem, reduceIte, Nat.reduceEqDiff, Int.reduceLE]
          refine hK _ ?_
          clear hK K
          refine ⟨(j + 1, es2), ⟨by dsimp only; omega, ?_⟩, by dsimp only; omega, ?_⟩
          · dsimp only
            rw [htake]
            exact hes2
          · dsimp only
            rw [cnt_next (by omega) hj']
            exact AS.le_of ⟨rfl, rfl, rfl, rfl, rfl, rfl, rfl, rfl, rfl, trivial⟩ ⟨hget_0, by simp [hget, hf1, hf2, hf3, hf4], by simp [hget, hf1, hf2, hf3, hf4], trivial⟩
      · have hj2 := cnt_ge hc hj
        subst hj2
        have htk : (letters.take j).take j = letters.take j := by rw [List.take_take, Nat.min_self]
        rw [htk] at hes2
        have hes3 : es2.Perm (((x :: vis).flatMap (ext1 stp (letters.take j))).map ent) := by
          refine hes2.trans (List.Perm.map _ ?_)
          rw [List.flatMap_cons]
          exact List.perm_append_comm
        refine AW.exit ?_
        refine AW.rseq (fid := f) (mt := []) [3, 9, 21, 22, 26, 55] rfl fun K hK => ?_
        simp only [go_sem, reduceIte, Nat.reduceEqDiff, Int.reduceLE, hf1, hf2, hf3, hf4, Nat.add_left_cancel_iff]
        have hle2 : es2.length = ((x :: vis).flatMap (ext1 stp (letters.take j))).length := by rw [hes3.length_eq, List.length_map]
        have htot : ((x :: vis).flatMap (ext1 stp (letters.take j))).length ≤ (lvl stp (letters.take j) set (i + 1)).length := by
          have := (perm_flat (stp := stp) (cs := letters.take j) hvr').length_eq
          rw [List.flatMap_append, List.length_append] at this
          show _ ≤ ((lvl stp (letters.take j) set i).flatMap _).length
          omega
        have hsmall : es2.length ≤ maxLen := by
          have hb : ∀ (y : WS), (ext1 stp (letters.take j) y).length ≤ 16 := fun y => by
            refine Nat.le_trans (List.length_filterMap_le _ _) ?_
            rw [List.length_take]
            exact Nat.le_trans (Nat.min_le_left _ _) hL
          rw [hle2, List.flatMap_cons, List.length_append]
          have := hb x
          simp only [maxLen]
          omega
        refine ⟨hsmall, hK _ ?_⟩
        clear hK K
        refine AW.cond rfl (fun hc => ?_) (fun hc => ?_)
        · have hbig : 4096 < es2.length := by
            have : (4096 : Int) < es2.length := by simpa using hc
            omega
          refine AW.rseq (fid := 79) (mt := []) [6, 7] rfl fun K hK => ?_
          simp only [go_sem, reduceIte, Nat.reduceEqDiff, Int.reduceLE]
          refine hK _ ?_
          clear hK K
          refine AW.ret ⟨.inr rfl, ?_⟩
          simp only [go_sem, reduceIte, Nat.reduceEqDiff]
          exact ⟨_, [], Conv.drop (fun _ _ h => by cases h), .inr ⟨i + 1, by omega, by omega, by omega, rfl, rfl⟩⟩
        · have hsm : es2.length ≤ 4096 := by
            have : ¬ (4096 : Int) < es2.length := by simpa using hc
            omega
          refine AW.skip ?_
          refine ⟨(x :: vis, l1 ++ l2, es2, true), ⟨hvr', hes3, by dsimp only; omega⟩, by simp, ?_⟩
          exact AS.le_of ⟨rfl, rfl, rfl, rfl, rfl, trivial⟩ ⟨hget_0, by simp [hget, hf1, hf2, hf3, hf4], by simp [hget, hf1, hf2, hf3, hf4], trivial⟩
  · have hi2 := cnt_ge hc hi
    subst hi2
    refine AW.exit ?_
    refine AW.rseq (fid := 79) (mt := []) [6, 7] rfl fun K hK => ?_
    simp only [go_sem, reduceIte, Nat.reduceEqDiff, Int.reduceLE]
    refine hK _ ?_
    clear hK K
    refine AW.ret ⟨.inr rfl, ?_⟩
    simp only [go_sem, reduceIte, Nat.reduceEqDiff]
    exact ⟨_, _, Conv.refl _ _, .inl ⟨hsz, _, _, _, rfl, rfl, hes⟩⟩
end Go.AW

/- The iterators of graphs: leaving. -/
namespace Go.AW
open Go Go.Proofs
set_option linter.unusedVariables false
theorem le_slH {l l' : List (Nat × HV)} {H : Heap} (h : leS l l') : (⟨l, H⟩ : AS).le ⟨l', H⟩ := ⟨leS_get h, fun _ _ h => h⟩
set_option maxRecDepth 100000 in
theorem iy_graph_leaving {g : TLabelsStatesEdges} {s : Int} {L : List (Int × TFromLabelTo)} (h : y_graph_leaving g s = some L) : Yields Try.prog 186 [] [HV.fptr [HV.int .i64 g.1, HV.int .i64 g.2.1, slE eFromLabelTo g.2.2] 0, HV.fptr [HV.int .i64 s] 0] (L.map fun x => [HV.int .i64 x.1, HV.agg [HV.int .i64 x.2.1, HV.int .i64 x.2.2.1, HV.int .i64 x.2.2.2]]) := by
  unfold y_graph_leaving at h
  split at h
  · rename_i hm
    cases h
    obtain ⟨gl, gs, es⟩ := g
    dsimp only at hm ⊢
    intro id ver H J Stop K hmn h0 hstep hdone hstop
    refine ACall.of_body Try.func186 rfl rfl (Nat.le_of_ble_eq_true rfl) ?_
    unfold Try.f186
    dsimp only [enumS, Nat.reduceAdd]
    refine AW.rgs rfl fun K1 hK => ?_
    refine bv rfl (v_fieldAddrF fo24_2 rfl) ?_
    refine bv rfl (v_loadF ty22 rfl (l_lit rfl rfl)) ?_
    refine bv rfl (v_lenF rfl rfl ty22 rfl) ?_
    refine mv rfl rfl ?_
    refine b_nil (hK _ (AW.to (to_le (s' := ⟨[(0, .yl id ver), (2, HV.fptr [HV.int .i64 s] 0), (7, slE eFromLabelTo es), (8, .int .i64 (es.length : Int)), (9, .int .i64 ((0 : Nat) : Int))], H⟩) (le_slH ⟨rfl, rfl, rfl, rfl, rfl, trivial⟩) ?_)))
    clear hK K1
    refine AW.block ?_
    refine AW.loopS (fun p : Nat × Heap => ⟨[(0, .yl id ver), (2, HV.fptr [HV.int .i64 s] 0), (7, slE eFromLabelTo es), (8, .int .i64 (es.length : Int)), (9, .int .i64 (p.1 : Int))], p.2⟩)
      (fun p => p.1 ≤ es.length ∧ J (leaveL (es.take p.1) s).length p.2) (fun p => es.length - p.1) (0, H) (AS.le_refl _) ⟨Nat.zero_le _, h0⟩ ?_
    rintro ⟨i, H1⟩ ⟨hi, hj⟩
    dsimp only at hi hj ⊢
    refine AW.rgs rfl fun K1 hK => ?_
    refine bv rfl (v_bin rfl rfl b_lss) ?_
    refine b_nil (hK _ ?_)
    clear hK K1
    refine AW.cseq rfl (fun hc => ?_) (fun hc => ?_)
    · have hi' : i < es.length := by have := of_decide_eq_true hc; omega
      have hx : idx es (i : Int) = some es[i] := ix hi'
      obtain ⟨f, hf⟩ := fresh_id H1 5
      refine AW.skip ?_
      refine AW.seq (AW.block ?_)
      refine AW.rgs rfl fun K1 hK => ?_
      refine mv rfl rfl ?_
      refine bv rfl (v_idxF ty22 es22 rfl rfl (idx_lt hx)) ?_
      refine bv rfl (v_loadF ty66 rfl (l_agg eFromLabelTo hx rfl rfl)) ?_
      refine b_op rfl (o_alloc (fid := f) (zs := [HV.int .i64 0, HV.int .i64 0, HV.int .i64 0]) (f * 1000 + 5) rfl rfl ty66 rfl (fun ov => ?_))
      refine mv rfl rfl ?_
      refine b_op rfl (o_store (cs := cFromLabelTo es[i]) (zs := cFromLabelTo es[i]) rfl rfl rfl ty66 rfl hget_0 rfl rfl rfl ?_)
      refine b_nil (hK _ (AW.to (to_le (s' := ⟨[(0, .yl id ver), (2, HV.fptr [HV.int .i64 s] 0), (4, .int .i64 (i : Int)), (5, .ptr (f * 1000 + 5) ov 0), (7, slE eFromLabelTo es), (8, .int .i64 (es.length : Int)), (9, .int .i64 (i : Int))], (f * 1000 + 5, ov, .arr 3 66 (cFromLabelTo es[i])) :: H1⟩) ⟨leS_get ⟨rfl, rfl, rfl, rfl, rfl, rfl, rfl, trivial⟩, fun j x hx => ?_⟩ ?_)))
      · simp only [hget] at hx ⊢
        split <;> rename_i hij
        · rw [if_pos hij] at hx; exact hx
        · first | exact hx | (rw [if_neg hij] at hx; first | exact hx | (rw [if_neg hij]; exact hx)) | (rw [if_neg hij]; exact hx)
      clear hK K1
      have hJ1 := hmn _ _ _ hj (cons_le (ver := ov) (ob := .arr 3 66 (cFromLabelTo es[i])) hf)
      refine AW.rgs rfl fun K1 hK => ?_
      refine bv rfl (v_fieldAddrP fo66_0 rfl hget_0) ?_
      refine bv rfl (v_loadP ty3 rfl hget_0 (l_lit rfl rfl)) ?_
      refine bv rfl (v_loadF ty3 rfl (l_lit rfl rfl)) ?_
      refine bv rfl (v_bin rfl rfl b_eql) ?_
      refine mv rfl rfl ?_
      have htk := leaveL_take es s hi'
      by_cases hs : es[i].1 = s
      · rw [if_pos hs] at htk
        obtain ⟨rest, hr⟩ := leaveL_split es s (i + 1)
        rw [htk] at hr
        refine b_T rfl rfl rfl rfl (decide_eq_true hs) (o_val rfl (mv_val rfl rfl).2 ?_)
        refine b_T rfl rfl rfl rfl rfl (o_val rfl (mv_val rfl rfl).2 ?_)
        refine b_T rfl rfl rfl rfl rfl (o_val rfl (v_loadP ty66 rfl hget_0 (l_litA (ds := cFromLabelTo es[i]) rfl (Nat.le_of_ble_eq_true rfl) rfl)) ?_)
        refine b_T rfl rfl rfl rfl rfl (o_yield (hs := [HV.int .i64 (i : Int), HV.agg (cFromLabelTo es[i])]) rfl rfl rfl ?_)
        refine (hstep (leaveL (es.take i) s).length [HV.int .i64 (i : Int), HV.agg (cFromLabelTo es[i])] _ ?_ hJ1).mono ?_
        · rw [List.getElem?_map, hr, List.append_assoc, List.getElem?_append_right (Nat.le_refl _), Nat.sub_self]
          rfl
        rintro r H2 ⟨b, rfl, h3, h4⟩
        refine b_T rfl rfl rfl rfl rfl (o_val rfl (v_not rfl) ?_)
        refine bv rfl (v_pickT rfl rfl rfl) ?_
        refine b_nil (hK _ (AW.to (to_le (s' := ⟨[(0, .yl id ver), (2, HV.fptr [HV.int .i64 s] 0), (7, slE eFromLabelTo es), (8, .int .i64 (es.length : Int)), (9, .int .i64 (i : Int)), (24, .bool (!b))], H2⟩) (le_slH ⟨rfl, rfl, rfl, rfl, rfl, rfl, trivial⟩) ?_)))
        clear hK K1
        refine AW.cond rfl (fun hc => ?_) (fun hc => ?_)
        · have hb : b = false := by simpa using hc
          refine AW.ret ⟨.inr rfl, ?_⟩
          simp only [go_sem, reduceIte, Nat.reduceEqDiff]
          exact ⟨_, _, Conv.refl _ _, hstop _ (h4 hb)⟩
        · have hb : b = true := by simpa using hc
          refine AW.skip ?_
          refine AW.region (fid := f) (mt := []) [0, 2, 7, 8, 9] rfl fun K hK => ?_
          simp only [go_sem, reduceIte, Nat.reduceEqDiff, Int.reduceLE]
          refine hK _ ?_
          clear hK K
          refine ⟨(i + 1, H2), ⟨by dsimp only; omega, ?_⟩, by dsimp only; omega, ?_⟩
          · dsimp only
            rw [htk, List.length_append]
            exact h3 hb
          · dsimp only
            rw [cnt_next hm hi']
            exact AS.le_refl _
      · rw [if_neg hs, List.append_nil] at htk
        refine b_F rfl rfl rfl rfl rfl (decide_eq_false hs) ?_
        refine b_F rfl rfl rfl rfl rfl rfl ?_
        refine b_F rfl rfl rfl rfl rfl rfl ?_
        refine b_F rfl rfl rfl rfl rfl rfl ?_
        refine b_F rfl rfl rfl rfl rfl rfl ?_
        refine bv rfl (v_pickF rfl rfl rfl) ?_
        refine b_nil (hK _ (AW.to (to_le (s' := ⟨[(0, .yl id ver), (2, HV.fptr [HV.int .i64 s] 0), (7, slE eFromLabelTo es), (8, .int .i64 (es.length : Int)), (9, .int .i64 (i : Int)), (24, .bool false)], _⟩) (le_slH ⟨rfl, rfl, rfl, rfl, rfl, rfl, trivial⟩) ?_)))
        clear hK K1
        refine AW.cond rfl (fun hc => by cases hc) (fun _ => ?_)
        refine AW.skip ?_
        refine AW.region (fid := f) (mt := []) [0, 2, 7, 8, 9] rfl fun K hK => ?_
        simp only [go_sem, reduceIte, Nat.reduceEqDiff, Int.reduceLE]
        refine hK _ ?_
        clear hK K
        refine ⟨(i + 1, (f * 1000 + 5, ov, .arr 3 66 (cFromLabelTo es[i])) :: H1), ⟨by dsimp only; omega, ?_⟩, by dsimp only; omega, ?_⟩
        · dsimp only
          rw [htk]
          exact hJ1
        · dsimp only
          rw [cnt_next hm hi']
          exact AS.le_refl _
    · have hi2 : es.length ≤ i := by have := of_decide_eq_false hc; omega
      have hie : i = es.length := by omega
      subst hie
      rw [List.take_length] at hj
      refine AW.exit ?_
      refine ⟨.inl rfl, ?_⟩
      simp only [go_sem, reduceIte, Nat.reduceEqDiff]
      exact ⟨_, _, Conv.refl _ _, hdone _ (by rw [List.length_map]; exact hj)⟩
  · cases h
end Go.AW

namespace Go.AW
open Go Go.Proofs
set_option linter.unusedVariables false
set_option maxHeartbeats 1600000 in
set_option maxRecDepth 100000 in
theorem w_graph_list {p0 : TFromLabelTo} {r : (List (Int))} (h : m_graph_list p0 = some r) : Pure Try.prog 130 [HV.agg [HV.int .i64 p0.1, HV.int .i64 p0.2.1, HV.int .i64 p0.2.2]] (· = slE eInt r) := by
  unfold m_graph_list at h
  refine Pure.of_body Try.func130 rfl rfl (Nat.le_of_ble_eq_true rfl) fun hf => ?_
  unfold Try.f130
  dsimp only [enumS, Nat.reduceAdd]
  refine AW.rgs rfl fun K hK => ?_
  refine b_op rfl (o_box rfl rfl rfl ?_)
  refine mv rfl rfl ?_
  refine b_nil (hK _ (AW.to (to_le (s' := ⟨[(1, HV.fptr [HV.int .i64 p0.1, HV.int .i64 p0.2.1, HV.int .i64 p0.2.2] 0)], []⟩) (AS.le_of ⟨rfl, trivial⟩ trivial) ?_)))
  clear hK K
  refine AW.rgs rfl fun K hK => ?_
  refine bv rfl (v_fieldAddrF fo66_0 rfl) ?_
  refine bv rfl (v_loadF ty3 rfl (l_lit rfl rfl)) ?_
  refine bv rfl (v_fieldAddrF fo66_1 rfl) ?_
  refine bv rfl (v_loadF ty3 rfl (l_lit rfl rfl)) ?_
  refine bv rfl (v_fieldAddrF fo66_2 rfl) ?_
  refine bv rfl (v_loadF ty3 rfl (l_lit rfl rfl)) ?_
  refine b_op rfl (o_bsl rfl rfl (as_of (cs := [HV.int .i64 p0.1, HV.int .i64 p0.2.1, HV.int .i64 p0.2.2]) ty42 ty3 rfl rfl rfl rfl rfl) ?_)
  refine mv rfl rfl ?_
  refine b_nil (hK _ (AW.to (to_le (s' := ⟨[(2, slE eInt [p0.1, p0.2.1, p0.2.2])], []⟩) (AS.le_of ⟨rfl, trivial⟩ trivial) ?_)))
  clear hK K
  refine AW.ret ?_
  have h := Option.some.inj h
  subst h
  exact ret_pure (hs := [slE eInt [p0.1, p0.2.1, p0.2.2]]) (q := slE eInt [p0.1, p0.2.1, p0.2.2]) (.inr rfl) (resT rfl rfl) rfl (clean_slE fun _ _ => ⟨trivial, trivial⟩)

set_option maxHeartbeats 1600000 in
set_option maxRecDepth 100000 in
theorem w_cmp_isNaN_int {p0 : Int} {r : Bool} (h : m_cmp_isNaN_int p0 = some r) : Pure Try.prog 188 [HV.int .i64 p0] (· = HV.bool r) := by
  unfold m_cmp_isNaN_int at h
  refine Pure.of_body Try.func188 rfl rfl (Nat.le_of_ble_eq_true rfl) fun hf => ?_
  unfold Try.f188
  dsimp only [enumS, Nat.reduceAdd]
  refine AW.rgs rfl fun K hK => ?_
  refine mv rfl rfl ?_
  refine b_nil (hK _ (AW.to (to_le (s' := ⟨[(0, HV.int .i64 p0)], []⟩) (AS.le_of ⟨rfl, trivial⟩ trivial) ?_)))
  clear hK K
  refine AW.rgs rfl fun K hK => ?_
  refine mv rfl rfl ?_
  refine mv rfl rfl ?_
  refine bv rfl (v_bin rfl rfl b_neq) ?_
  refine mv rfl rfl ?_
  refine b_nil (hK _ (AW.to (to_le (s' := ⟨[(2, HV.bool (decide (p0 ≠ p0)))], []⟩) (AS.le_of ⟨rfl, trivial⟩ trivial) ?_)))
  clear hK K
  refine AW.ret ?_
  have h := Option.some.inj h
  subst h
  exact ret_pure (hs := [HV.bool (decide (p0 ≠ p0))]) (q := HV.bool (decide (p0 ≠ p0))) (.inr rfl) (resT rfl rfl) rfl trivial

set_option maxHeartbeats 1600000 in
set_option maxRecDepth 100000 in
theorem w_cmp_Compare_int {p0 : Int} {p1 : Int} {r : Int} (h : m_cmp_Compare_int p0 p1 = some r) : Pure Try.prog 181 [HV.int .i64 p0, HV.int .i64 p1] (· = HV.int .i64 r) := by
  unfold m_cmp_Compare_int at h
  refine Pure.of_body Try.func181 rfl rfl (Nat.le_of_ble_eq_true rfl) fun hf => ?_
  unfold Try.f181
  dsimp only [enumS, Nat.reduceAdd]
  refine AW.rgs rfl fun K hK => ?_
  refine mv rfl rfl ?_
  refine b_nil (hK _ (AW.to (to_le (s' := ⟨[(0, HV.int .i64 p0), (1, HV.int .i64 p1)], []⟩) (AS.le_of ⟨rfl, rfl, trivial⟩ trivial) ?_)))
  clear hK K
  refine AW.rgs rfl fun K hK => ?_
  refine mv rfl rfl ?_
  obtain ⟨x1, h2, h⟩ := bS h
  refine b_op rfl (o_call rfl rfl rfl rfl (ACallD.pure0 (w_cmp_isNaN_int h2)) ?_)
  refine mv rfl rfl ?_
  refine b_nil (hK _ (AW.to (to_le (s' := ⟨[(0, HV.int .i64 p0), (1, HV.int .i64 p1), (5, HV.bool x1)], []⟩) (AS.le_of ⟨rfl, rfl, rfl, trivial⟩ trivial) ?_)))
  clear hK K
  refine AW.rgs rfl fun K hK => ?_
  refine mv rfl rfl ?_
  obtain ⟨x3, h4, h⟩ := bS h
  refine b_op rfl (o_call rfl rfl rfl rfl (ACallD.pure0 (w_cmp_isNaN_int h4)) ?_)
  refine mv rfl rfl ?_
  refine b_nil (hK _ (AW.to (to_le (s' := ⟨[(0, HV.int .i64 p0), (1, HV.int .i64 p1), (5, HV.bool x1), (6, HV.bool x3)], []⟩) (AS.le_of ⟨rfl, rfl, rfl, rfl, trivial⟩ trivial) ?_)))
  clear hK K
  refine AW.seq ?_
  refine AW.rgs rfl fun K hK => ?_
  refine mv rfl rfl ?_
  refine b_nil (hK _ (AW.to (to_le (s' := ⟨[(0, HV.int .i64 p0), (1, HV.int .i64 p1), (6, HV.bool x3), (11, HV.bool x1)], []⟩) (AS.le_of ⟨rfl, rfl, rfl, rfl, trivial⟩ trivial) ?_)))
  clear hK K
  refine AW.cond rfl (fun hc => ?_) (fun hc => ?_)
  · have h := ifT hc h
    refine AW.seq ?_
    refine AW.rgs rfl fun K hK => ?_
    refine mv rfl rfl ?_
    refine b_nil (hK _ (AW.to (to_le (s' := ⟨[(12, HV.bool x3)], []⟩) (AS.le_of ⟨rfl, trivial⟩ trivial) ?_)))
    clear hK K
    refine AW.cond rfl (fun hc => ?_) (fun hc => ?_)
    · have h := ifT hc h
      refine AW.rgs rfl fun K hK => ?_
      refine mv rfl rfl ?_
      refine b_nil (hK _ (AW.to (to_le (s' := ⟨[(4, HV.int .i64 0)], []⟩) (AS.le_of ⟨rfl, trivial⟩ trivial) ?_)))
      clear hK K
      refine AW.ret ?_
      have h := Option.some.inj h
      subst h
      exact ret_pure (hs := [HV.int .i64 0]) (q := HV.int .i64 0) (.inr rfl) (resT rfl rfl) rfl trivial
    · have h := ifF (bF' hc) h
      refine AW.skip ?_
      refine AW.rgs rfl fun K hK => ?_
      refine mv rfl rfl ?_
      refine b_nil (hK _ (AW.to (to_le (s' := ⟨[(4, HV.int .i64 (-1))], []⟩) (AS.le_of ⟨rfl, trivial⟩ trivial) ?_)))
      clear hK K
      refine AW.ret ?_
      have h := Option.some.inj h
      subst h
      exact ret_pure (hs := [HV.int .i64 (-1)]) (q := HV.int .i64 (-1)) (.inr rfl) (resT rfl rfl) rfl trivial
  · have h := ifF (bF' hc) h
    refine AW.skip ?_
    refine AW.seq ?_
    refine AW.rgs rfl fun K hK => ?_
    refine mv rfl rfl ?_
    refine b_nil (hK _ (AW.to (to_le (s' := ⟨[(0, HV.int .i64 p0), (1, HV.int .i64 p1), (13, HV.bool x3)], []⟩) (AS.le_of ⟨rfl, rfl, rfl, trivial⟩ trivial) ?_)))
    clear hK K
    refine AW.cond rfl (fun hc => ?_) (fun hc => ?_)
    · have h := ifT hc h
      refine AW.rgs rfl fun K hK => ?_
      refine mv rfl rfl ?_
      refine b_nil (hK _ (AW.to (to_le (s' := ⟨[(4, HV.int .i64 1)], []⟩) (AS.le_of ⟨rfl, trivial⟩ trivial) ?_)))
      clear hK K
      refine AW.ret ?_
      have h := Option.some.inj h
      subst h
      exact ret_pure (hs := [HV.int .i64 1]) (q := HV.int .i64 1) (.inr rfl) (resT rfl rfl) rfl trivial
    · have h := ifF (bF' hc) h
      refine AW.skip ?_
      refine AW.seq ?_
      refine AW.rgs rfl fun K hK => ?_
      refine mv rfl rfl ?_
      refine mv rfl rfl ?_
      refine bv rfl (v_bin rfl rfl b_lss) ?_
      refine b_nil (hK _ (AW.to (to_le (s' := ⟨[(0, HV.int .i64 p0), (1, HV.int .i64 p1), (16, HV.bool (decide (p0 < p1)))], []⟩) (AS.le_of ⟨rfl, rfl, rfl, trivial⟩ trivial) ?_)))
      clear hK K
      refine AW.cond rfl (fun hc => ?_) (fun hc => ?_)
      · have hc := of_decide_eq_true hc
        have h := ifT hc h
        refine AW.rgs rfl fun K hK => ?_
        refine mv rfl rfl ?_
        refine b_nil (hK _ (AW.to (to_le (s' := ⟨[(4, HV.int .i64 (-1))], []⟩) (AS.le_of ⟨rfl, trivial⟩ trivial) ?_)))
        clear hK K
        refine AW.ret ?_
        have h := Option.some.inj h
        subst h
        exact ret_pure (hs := [HV.int .i64 (-1)]) (q := HV.int .i64 (-1)) (.inr rfl) (resT rfl rfl) rfl trivial
      · have hc := of_decide_eq_false hc
        have h := ifF hc h
        refine AW.skip ?_
        refine AW.seq ?_
        refine AW.rgs rfl fun K hK => ?_
        refine mv rfl rfl ?_
        refine mv rfl rfl ?_
        refine bv rfl (v_bin rfl rfl b_gtr) ?_
        refine b_nil (hK _ (AW.to (to_le (s' := ⟨[(19, HV.bool (decide (p1 < p0)))], []⟩) (AS.le_of ⟨rfl, trivial⟩ trivial) ?_)))
        clear hK K
        refine AW.cond rfl (fun hc => ?_) (fun hc => ?_)
        · have hc := of_decide_eq_true hc
          have h := ifT hc h
          refine AW.rgs rfl fun K hK => ?_
          refine mv rfl rfl ?_
          refine b_nil (hK _ (AW.to (to_le (s' := ⟨[(4, HV.int .i64 1)], []⟩) (AS.le_of ⟨rfl, trivial⟩ trivial) ?_)))
          clear hK K
          refine AW.ret ?_
          have h := Option.some.inj h
          subst h
          exact ret_pure (hs := [HV.int .i64 1]) (q := HV.int .i64 1) (.inr rfl) (resT rfl rfl) rfl trivial
        · have hc := of_decide_eq_false hc
          have h := ifF hc h
          refine AW.skip ?_
          refine AW.rgs rfl fun K hK => ?_
          refine mv rfl rfl ?_
          refine b_nil (hK _ (AW.to (to_le (s' := ⟨[(4, HV.int .i64 0)], []⟩) (AS.le_of ⟨rfl, trivial⟩ trivial) ?_)))
          clear hK K
          refine AW.ret ?_
          have h := Option.some.inj h
          subst h
          exact ret_pure (hs := [HV.int .i64 0]) (q := HV.int .i64 0) (.inr rfl) (resT rfl rfl) rfl trivial

set_option maxHeartbeats 1600000 in
set_option maxRecDepth 100000 in
theorem w_slices_Compare_Lint_int {p0 : List (Int)} {p1 : List (Int)} {r : Int} (h : m_slices_Compare_Lint_int p0 p1 = some r) : Pure Try.prog 162 [slE eInt p0, slE eInt p1] (· = HV.int .i64 r) := by
  unfold m_slices_Compare_Lint_int at h
  refine Pure.of_body Try.func162 rfl rfl (Nat.le_of_ble_eq_true rfl) fun hf => ?_
  unfold Try.f162
  dsimp only [enumS, Nat.reduceAdd]
  refine AW.rgs rfl fun K hK => ?_
  refine mv rfl rfl ?_
  refine b_nil (hK _ (AW.to (to_le (s' := ⟨[(0, slE eInt p0), (1, slE eInt p1)], []⟩) (AS.le_of ⟨rfl, rfl, trivial⟩ trivial) ?_)))
  clear hK K
  refine AW.seq ?_
  refine AW.rgs rfl fun K hK => ?_
  refine mv rfl rfl ?_
  refine bv rfl (v_lenF rfl rfl ty42 rfl) ?_
  refine mv rfl rfl ?_
  refine b_nil (hK _ (AW.to (to_le (s' := ⟨[(0, slE eInt p0), (1, slE eInt p1), (9, slE eInt p0), (10, HV.int .i64 ((p0).length : Int)), (11, HV.int .i64 0)], []⟩) (AS.le_of ⟨rfl, rfl, rfl, rfl, rfl, trivial⟩ trivial) ?_)))
  clear hK K
  refine AW.lpR h (by first | exact up_then | exact up_to) (S := Int) (V := Unit) (fun a v => ⟨[(0, slE eInt p0), (1, slE eInt p1), (9, slE eInt p0), (10, HV.int .i64 ((p0).length : Int)), (11, HV.int .i64 a)], []⟩) ?_ (X := Unit) (W := Unit) (fun a v => ⟨[(0, slE eInt p0), (1, slE eInt p1)], []⟩) (fun a11 w12 h => ?_) (fun a1 w2 st3 h hr4=> ?_)
  · exact to_le (s' := ⟨[(0, slE eInt p0), (1, slE eInt p1), (9, slE eInt p0), (10, HV.int .i64 ((p0).length : Int)), (11, HV.int .i64 0)], []⟩) (AS.le_of ⟨rfl, rfl, rfl, rfl, rfl, trivial⟩ trivial) ⟨(), rfl⟩
  · refine AW.seq ?_
    refine AW.rgs rfl fun K hK => ?_
    refine mv rfl rfl ?_
    refine bv rfl (v_lenF rfl rfl ty42 rfl) ?_
    refine mv rfl rfl ?_
    refine bv rfl (v_lenF rfl rfl ty42 rfl) ?_
    refine bv rfl (v_bin rfl rfl b_lss) ?_
    refine b_nil (hK _ (AW.to (to_le (s' := ⟨[(35, HV.bool (decide (((p0).length : Int) < ((p1).length : Int))))], []⟩) (AS.le_of ⟨rfl, trivial⟩ trivial) ?_)))
    clear hK K
    refine AW.cond rfl (fun hc => ?_) (fun hc => ?_)
    · have hc := of_decide_eq_true hc
      have h := ifT hc h
      refine AW.rgs rfl fun K hK => ?_
      refine mv rfl rfl ?_
      refine b_nil (hK _ (AW.to (to_le (s' := ⟨[(4, HV.int .i64 (-1))], []⟩) (AS.le_of ⟨rfl, trivial⟩ trivial) ?_)))
      clear hK K
      refine AW.ret ?_
      have h := Option.some.inj h
      subst h
      exact ret_pure (hs := [HV.int .i64 (-1)]) (q := HV.int .i64 (-1)) (.inr rfl) (resT rfl rfl) rfl trivial
    · have hc := of_decide_eq_false hc
      have h := ifF hc h
      refine AW.skip ?_
      refine AW.rgs rfl fun K hK => ?_
      refine mv rfl rfl ?_
      refine b_nil (hK _ (AW.to (to_le (s' := ⟨[(4, HV.int .i64 0)], []⟩) (AS.le_of ⟨rfl, trivial⟩ trivial) ?_)))
      clear hK K
      refine AW.ret ?_
      have h := Option.some.inj h
      subst h
      exact ret_pure (hs := [HV.int .i64 0]) (q := HV.int .i64 0) (.inr rfl) (resT rfl rfl) rfl trivial
  · refine AW.rgs rfl fun K hK => ?_
    refine bv rfl (v_bin rfl rfl b_lss) ?_
    refine b_nil (hK _ (AW.to (to_le (s' := ⟨[(0, slE eInt p0), (1, slE eInt p1), (9, slE eInt p0), (10, HV.int .i64 ((p0).length : Int)), (11, HV.int .i64 a1), (12, HV.bool (decide (a1 < ((p0).length : Int))))], []⟩) (AS.le_of ⟨rfl, rfl, rfl, rfl, rfl, rfl, trivial⟩ trivial) ?_)))
    clear hK K
    refine AW.cseq rfl (fun hc => ?_) (fun hc => ?_)
    · have hc := of_decide_eq_true hc
      have h := ifT hc h
      refine AW.skip ?_
      refine AW.seq (AW.block ?_)
      refine AW.rgs rfl fun K hK => ?_
      refine mv rfl rfl ?_
      obtain ⟨x5, h6, h⟩ := bS h
      refine bv rfl (v_idxF ty42 es42 rfl rfl (idx_lt h6)) ?_
      refine bv rfl (v_loadF ty3 rfl (l_cell eInt h6 (o := 0) rfl rfl)) ?_
      refine mv rfl rfl ?_
      refine mv rfl rfl ?_
      refine b_nil (hK _ (AW.to (to_le (s' := ⟨[(0, slE eInt p0), (1, slE eInt p1), (5, HV.int .i64 a1), (6, HV.int .i64 x5), (9, slE eInt p0), (10, HV.int .i64 ((p0).length : Int)), (11, HV.int .i64 a1)], []⟩) (AS.le_of ⟨rfl, rfl, rfl, rfl, rfl, rfl, rfl, trivial⟩ trivial) ?_)))
      clear hK K
      refine AW.seq ?_
      refine AW.rgs rfl fun K hK => ?_
      refine mv rfl rfl ?_
      refine mv rfl rfl ?_
      refine bv rfl (v_lenF rfl rfl ty42 rfl) ?_
      refine bv rfl (v_bin rfl rfl b_geq) ?_
      refine b_nil (hK _ (AW.to (to_le (s' := ⟨[(0, slE eInt p0), (1, slE eInt p1), (5, HV.int .i64 a1), (6, HV.int .i64 x5), (9, slE eInt p0), (10, HV.int .i64 ((p0).length : Int)), (11, HV.int .i64 a1), (19, HV.bool (decide (((p1).length : Int) ≤ a1)))], []⟩) (AS.le_of ⟨rfl, rfl, rfl, rfl, rfl, rfl, rfl, rfl, trivial⟩ trivial) ?_)))
      clear hK K
      refine AW.cond rfl (fun hc => ?_) (fun hc => ?_)
      · have hc := of_decide_eq_true hc
        have h := ifT hc h
        refine AW.rgs rfl fun K hK => ?_
        refine mv rfl rfl ?_
        refine b_nil (hK _ (AW.to (to_le (s' := ⟨[(4, HV.int .i64 1)], []⟩) (AS.le_of ⟨rfl, trivial⟩ trivial) ?_)))
        clear hK K
        have h := hr4 _ h
        refine AW.ret ?_
        have h := Option.some.inj h
        subst h
        exact ret_pure (hs := [HV.int .i64 1]) (q := HV.int .i64 1) (.inr rfl) (resT rfl rfl) rfl trivial
      · have hc := of_decide_eq_false hc
        have h := ifF hc h
        refine AW.skip ?_
        refine AW.rgs rfl fun K hK => ?_
        refine mv rfl rfl ?_
        refine mv rfl rfl ?_
        obtain ⟨x7, h8, h⟩ := bS h
        refine bv rfl (v_idxF ty42 es42 rfl rfl (idx_lt h8)) ?_
        refine bv rfl (v_loadF ty3 rfl (l_cell eInt h8 (o := 0) rfl rfl)) ?_
        refine mv rfl rfl ?_
        refine b_nil (hK _ (AW.to (to_le (s' := ⟨[(0, slE eInt p0), (1, slE eInt p1), (6, HV.int .i64 x5), (7, HV.int .i64 x7), (9, slE eInt p0), (10, HV.int .i64 ((p0).length : Int)), (11, HV.int .i64 a1)], []⟩) (AS.le_of ⟨rfl, rfl, rfl, rfl, rfl, rfl, rfl, trivial⟩ trivial) ?_)))
        clear hK K
        refine AW.rgs rfl fun K hK => ?_
        refine mv rfl rfl ?_
        refine mv rfl rfl ?_
        obtain ⟨x9, h10, h⟩ := bS h
        refine b_op rfl (o_call rfl rfl rfl rfl (ACallD.pure0 (w_cmp_Compare_int h10)) ?_)
        refine mv rfl rfl ?_
        refine b_nil (hK _ (AW.to (to_le (s' := ⟨[(0, slE eInt p0), (1, slE eInt p1), (8, HV.int .i64 x9), (9, slE eInt p0), (10, HV.int .i64 ((p0).length : Int)), (11, HV.int .i64 a1)], []⟩) (AS.le_of ⟨rfl, rfl, rfl, rfl, rfl, rfl, trivial⟩ trivial) ?_)))
        clear hK K
        refine AW.rgs rfl fun K hK => ?_
        refine mv rfl rfl ?_
        refine bv rfl (v_bin rfl rfl b_neq) ?_
        refine b_nil (hK _ (AW.to (to_le (s' := ⟨[(0, slE eInt p0), (1, slE eInt p1), (8, HV.int .i64 x9), (9, slE eInt p0), (10, HV.int .i64 ((p0).length : Int)), (11, HV.int .i64 a1), (28, HV.bool (decide (x9 ≠ 0)))], []⟩) (AS.le_of ⟨rfl, rfl, rfl, rfl, rfl, rfl, rfl, trivial⟩ trivial) ?_)))
        clear hK K
        refine AW.cond rfl (fun hc => ?_) (fun hc => ?_)
        · have hc := of_decide_eq_true hc
          have h := ifT hc h
          refine AW.rgs rfl fun K hK => ?_
          refine mv rfl rfl ?_
          refine mv rfl rfl ?_
          refine b_nil (hK _ (AW.to (to_le (s' := ⟨[(4, HV.int .i64 x9)], []⟩) (AS.le_of ⟨rfl, trivial⟩ trivial) ?_)))
          clear hK K
          have h := hr4 _ h
          refine AW.ret ?_
          have h := Option.some.inj h
          subst h
          exact ret_pure (hs := [HV.int .i64 x9]) (q := HV.int .i64 x9) (.inr rfl) (resT rfl rfl) rfl trivial
        · have hc := of_decide_eq_false hc
          have h := ifF hc h
          refine AW.skip ?_
          refine AW.rg rfl fun K hK => ?_
          refine bv rfl (v_bin rfl rfl b_add) ?_
          refine mv rfl rfl ?_
          refine b_nil (hK _ ?_)
          clear hK K
          exact to_le (s' := ⟨[(0, slE eInt p0), (1, slE eInt p1), (9, slE eInt p0), (10, HV.int .i64 ((p0).length : Int)), (11, HV.int .i64 (IntKind.wrap .i64 (a1 + 1)))], []⟩) (AS.le_of ⟨rfl, rfl, rfl, rfl, rfl, trivial⟩ trivial) ⟨IntKind.wrap .i64 (a1 + 1), (), h, rfl⟩
    · have hc := of_decide_eq_false hc
      have h := ifF hc h
      refine AW.exit ?_
      exact to_le (s' := ⟨[(0, slE eInt p0), (1, slE eInt p1)], []⟩) (AS.le_of ⟨rfl, rfl, trivial⟩ trivial) ⟨(), (), h, rfl⟩

set_option maxHeartbeats 1600000 in
set_option maxRecDepth 100000 in
theorem w_graph_by_api_Edge_1 {p0 : TFromLabelTo} {p1 : TFromLabelTo} {r : Int} (h : m_graph_by_api_Edge_1 p0 p1 = some r) : Pure Try.prog 161 [HV.agg [HV.int .i64 p0.1, HV.int .i64 p0.2.1, HV.int .i64 p0.2.2], HV.agg [HV.int .i64 p1.1, HV.int .i64 p1.2.1, HV.int .i64 p1.2.2], HV.fptr [HV.fn (.func 130) [] []] 0] (· = HV.int .i64 r) := by
  unfold m_graph_by_api_Edge_1 at h
  refine Pure.of_body Try.func161 rfl rfl (Nat.le_of_ble_eq_true rfl) fun hf => ?_
  unfold Try.f161
  dsimp only [enumS, Nat.reduceAdd]
  refine AW.rgs rfl fun K hK => ?_
  refine b_op rfl (o_box rfl rfl rfl ?_)
  refine b_op rfl (o_box rfl rfl rfl ?_)
  refine mv rfl rfl ?_
  refine b_nil (hK _ (AW.to (to_le (s' := ⟨[(2, HV.fptr [HV.fn (.func 130) [] []] 0), (3, HV.fptr [HV.int .i64 p0.1, HV.int .i64 p0.2.1, HV.int .i64 p0.2.2] 0), (4, HV.fptr [HV.int .i64 p1.1, HV.int .i64 p1.2.1, HV.int .i64 p1.2.2] 0)], []⟩) (AS.le_of ⟨rfl, rfl, rfl, trivial⟩ trivial) ?_)))
  clear hK K
  refine AW.dgs 8 follows rfl rfl fun K hK => ?_
  refine sv rfl (v_loadF ty166 rfl (l_lit rfl rfl)) ?_
  refine sv rfl (v_loadF ty66 rfl (l_litA rfl (Nat.le_of_ble_eq_true rfl) rfl)) ?_
  obtain ⟨x1, h2, h⟩ := bS h
  refine s_op rfl rfl (ops_call rfl rfl rfl rfl (ACallD.pure0 (w_graph_list h2)) ?_)
  refine sv rfl (v_loadF ty166 rfl (l_lit rfl rfl)) ?_
  refine sv rfl (v_loadF ty66 rfl (l_litA rfl (Nat.le_of_ble_eq_true rfl) rfl)) ?_
  obtain ⟨x3, h4, h⟩ := bS h
  refine s_op rfl rfl (ops_call rfl rfl rfl rfl (ACallD.pure0 (w_graph_list h4)) ?_)
  obtain ⟨x5, h6, h⟩ := bS h
  refine s_op rfl rfl (ops_call rfl rfl rfl rfl (ACallD.pure0 (w_slices_Compare_Lint_int h6)) ?_)
  refine sm rfl rfl ?_
  refine s_nil ?_
  refine b_nil (hK _ (AW.to (to_le (s' := ⟨[(5, HV.int .i64 x5)], []⟩) (AS.le_of ⟨rfl, trivial⟩ trivial) ?_)))
  clear hK K
  refine AW.ret ?_
  have h := Option.some.inj h
  subst h
  exact ret_pure (hs := [HV.int .i64 x5]) (q := HV.int .i64 x5) (.inr rfl) (resT rfl rfl) rfl trivial

set_option maxHeartbeats 1600000 in
set_option maxRecDepth 100000 in
theorem w_graph_by_api_Edge  : Pure Try.prog 129 [HV.fn (.func 130) [] []] (· = HV.fn (.func 161) [] [HV.fptr [HV.fn (.func 130) [] []] 0]) := by
  refine Pure.of_body Try.func129 rfl rfl (Nat.le_of_ble_eq_true rfl) fun hf => ?_
  unfold Try.f129
  dsimp only [enumS, Nat.reduceAdd]
  refine AW.rgs rfl fun K hK => ?_
  refine b_op rfl (o_box rfl rfl rfl ?_)
  refine mv rfl rfl ?_
  refine b_nil (hK _ (AW.to (to_le (s' := ⟨[(1, HV.fptr [HV.fn (.func 130) [] []] 0)], []⟩) (AS.le_of ⟨rfl, trivial⟩ trivial) ?_)))
  clear hK K
  refine AW.rgs rfl fun K hK => ?_
  refine bv rfl (v_func rfl rfl) ?_
  refine mv rfl rfl ?_
  refine b_nil (hK _ (AW.to (to_le (s' := ⟨[(2, HV.fn (.func 161) [] [HV.fptr [HV.fn (.func 130) [] []] 0])], []⟩) (AS.le_of ⟨rfl, trivial⟩ trivial) ?_)))
  clear hK K
  refine AW.ret ?_
  exact ret_pure (hs := [HV.fn (.func 161) [] [HV.fptr [HV.fn (.func 130) [] []] 0]]) (q := HV.fn (.func 161) [] [HV.fptr [HV.fn (.func 130) [] []] 0]) (.inr rfl) (resT rfl rfl) rfl ⟨trivial, ⟨⟨⟨trivial, trivial⟩, trivial⟩, trivial⟩⟩

set_option maxHeartbeats 1600000 in
set_option maxRecDepth 100000 in
theorem w_graph_Check {p0 : TLabelsStatesEdges} {r : Int} (h : m_graph_Check p0 = some r) : Pure Try.prog 86 [HV.agg [HV.int .i64 p0.1, HV.int .i64 p0.2.1, slE eFromLabelTo p0.2.2]] (· = HV.int .i64 r) := by
  unfold m_graph_Check at h
  refine Pure.of_body Try.func86 rfl rfl (Nat.le_of_ble_eq_true rfl) fun hf => ?_
  unfold Try.f86
  dsimp only [enumS, Nat.reduceAdd]
  refine AW.rgs rfl fun K hK => ?_
  refine b_op rfl (o_box rfl rfl rfl ?_)
  refine mv rfl rfl ?_
  refine b_nil (hK _ (AW.to (to_le (s' := ⟨[(1, HV.fptr [HV.int .i64 p0.1, HV.int .i64 p0.2.1, slE eFromLabelTo p0.2.2] 0)], []⟩) (AS.le_of ⟨rfl, trivial⟩ trivial) ?_)))
  clear hK K
  refine AW.seq (AW.block ?_)
  refine AW.seqJ h (S := Bool) (V := Unit) (fun a v => ⟨[(1, HV.fptr [HV.int .i64 p0.1, HV.int .i64 p0.2.1, slE eFromLabelTo p0.2.2] 0), (6, HV.bool a)], []⟩) (fun a1 w2 h => ?_) (fun k3 h => ?_)
  · refine AW.cond rfl (fun hc => ?_) (fun hc => ?_)
    · have h := ifT hc h
      refine AW.rgs rfl fun K hK => ?_
      refine mv rfl rfl ?_
      refine b_nil (hK _ (AW.to (to_le (s' := ⟨[(2, HV.int .i64 12)], []⟩) (AS.le_of ⟨rfl, trivial⟩ trivial) ?_)))
      clear hK K
      refine AW.ret ?_
      have h := Option.some.inj h
      subst h
      exact ret_pure (hs := [HV.int .i64 12]) (q := HV.int .i64 12) (.inr rfl) (resT rfl rfl) rfl trivial
    · have h := ifF (bF' hc) h
      refine AW.rgs rfl fun K hK => ?_
      refine bv rfl (v_fieldAddrF fo24_1 rfl) ?_
      refine bv rfl (v_loadF ty3 rfl (l_lit rfl rfl)) ?_
      refine bv rfl (v_bin rfl rfl b_lss) ?_
      refine mv rfl rfl ?_
      refine b_nil (hK _ (AW.to (to_le (s' := ⟨[(1, HV.fptr [HV.int .i64 p0.1, HV.int .i64 p0.2.1, slE eFromLabelTo p0.2.2] 0), (15, HV.bool (decide (p0.2.1 < 0)))], []⟩) (AS.le_of ⟨rfl, rfl, trivial⟩ trivial) ?_)))
      clear hK K
      refine AW.cond rfl (fun hc => ?_) (fun hc => ?_)
      · have hc := of_decide_eq_true hc
        have h := ifT hc h
        refine AW.rgs rfl fun K hK => ?_
        refine mv rfl rfl ?_
        refine b_nil (hK _ (AW.to (to_le (s' := ⟨[(2, HV.int .i64 2)], []⟩) (AS.le_of ⟨rfl, trivial⟩ trivial) ?_)))
        clear hK K
        refine AW.ret ?_
        have h := Option.some.inj h
        subst h
        exact ret_pure (hs := [HV.int .i64 2]) (q := HV.int .i64 2) (.inr rfl) (resT rfl rfl) rfl trivial
      · have hc := of_decide_eq_false hc
        have h := ifF hc h
        refine AW.seqJ h (S := Bool) (V := Unit) (fun a v => ⟨[(1, HV.fptr [HV.int .i64 p0.1, HV.int .i64 p0.2.1, slE eFromLabelTo p0.2.2] 0), (19, HV.bool a)], []⟩) (fun a4 w5 h => ?_) (fun k6 h => ?_)
        · refine AW.cond rfl (fun hc => ?_) (fun hc => ?_)
          · have h := ifT hc h
            refine AW.rgs rfl fun K hK => ?_
            refine mv rfl rfl ?_
            refine b_nil (hK _ (AW.to (to_le (s' := ⟨[(2, HV.int .i64 4)], []⟩) (AS.le_of ⟨rfl, trivial⟩ trivial) ?_)))
            clear hK K
            refine AW.ret ?_
            have h := Option.some.inj h
            subst h
            exact ret_pure (hs := [HV.int .i64 4]) (q := HV.int .i64 4) (.inr rfl) (resT rfl rfl) rfl trivial
          · have h := ifF (bF' hc) h
            refine AW.skip ?_
            refine AW.rgs rfl fun K hK => ?_
            refine b_op rfl (o_call rfl rfl rfl rfl (ACallD.pure0 (w_graph_by_api_Edge )) ?_)
            refine mv rfl rfl ?_
            refine b_nil (hK _ (AW.to (to_le (s' := ⟨[(1, HV.fptr [HV.int .i64 p0.1, HV.int .i64 p0.2.1, slE eFromLabelTo p0.2.2] 0), (3, HV.fn (.func 161) [] [HV.fptr [HV.fn (.func 130) [] []] 0])], []⟩) (AS.le_of ⟨rfl, rfl, trivial⟩ trivial) ?_)))
            clear hK K
            refine AW.seq ?_
            refine AW.rgs rfl fun K hK => ?_
            refine bv rfl (v_fieldAddrF fo24_2 rfl) ?_
            refine bv rfl (v_loadF ty22 rfl (l_lit rfl rfl)) ?_
            refine bv rfl (v_lenF rfl rfl ty22 rfl) ?_
            refine mv rfl rfl ?_
            refine b_nil (hK _ (AW.to (to_le (s' := ⟨[(1, HV.fptr [HV.int .i64 p0.1, HV.int .i64 p0.2.1, slE eFromLabelTo p0.2.2] 0), (3, HV.fn (.func 161) [] [HV.fptr [HV.fn (.func 130) [] []] 0]), (31, slE eFromLabelTo p0.2.2), (32, HV.int .i64 ((p0.2.2).length : Int)), (33, HV.int .i64 0)], []⟩) (AS.le_of ⟨rfl, rfl, rfl, rfl, rfl, trivial⟩ trivial) ?_)))
            clear hK K
            refine AW.lpR h (by first | exact up_then | exact up_to) (S := Int) (V := Unit) (fun a v => ⟨[(1, HV.fptr [HV.int .i64 p0.1, HV.int .i64 p0.2.1, slE eFromLabelTo p0.2.2] 0), (3, HV.fn (.func 161) [] [HV.fptr [HV.fn (.func 130) [] []] 0]), (31, slE eFromLabelTo p0.2.2), (32, HV.int .i64 ((p0.2.2).length : Int)), (33, HV.int .i64 a)], []⟩) ?_ (X := Unit) (W := Unit) (fun a v => ⟨[], []⟩) (fun a27 w28 h => ?_) (fun a7 w8 st9 h hr10=> ?_)
            · exact to_le (s' := ⟨[(1, HV.fptr [HV.int .i64 p0.1, HV.int .i64 p0.2.1, slE eFromLabelTo p0.2.2] 0), (3, HV.fn (.func 161) [] [HV.fptr [HV.fn (.func 130) [] []] 0]), (31, slE eFromLabelTo p0.2.2), (32, HV.int .i64 ((p0.2.2).length : Int)), (33, HV.int .i64 0)], []⟩) (AS.le_of ⟨rfl, rfl, rfl, rfl, rfl, trivial⟩ trivial) ⟨(), rfl⟩
            · refine AW.rgs rfl fun K hK => ?_
              refine mv rfl rfl ?_
              refine b_nil (hK _ (AW.to (to_le (s' := ⟨[(2, HV.int .i64 0)], []⟩) (AS.le_of ⟨rfl, trivial⟩ trivial) ?_)))
              clear hK K
              refine AW.ret ?_
              have h := Option.some.inj h
              subst h
              exact ret_pure (hs := [HV.int .i64 0]) (q := HV.int .i64 0) (.inr rfl) (resT rfl rfl) rfl trivial
            · refine AW.rgs rfl fun K hK => ?_
              refine bv rfl (v_bin rfl rfl b_lss) ?_
              refine b_nil (hK _ (AW.to (to_le (s' := ⟨[(1, HV.fptr [HV.int .i64 p0.1, HV.int .i64 p0.2.1, slE eFromLabelTo p0.2.2] 0), (3, HV.fn (.func 161) [] [HV.fptr [HV.fn (.func 130) [] []] 0]), (31, slE eFromLabelTo p0.2.2), (32, HV.int .i64 ((p0.2.2).length : Int)), (33, HV.int .i64 a7), (34, HV.bool (decide (a7 < ((p0.2.2).length : Int))))], []⟩) (AS.le_of ⟨rfl, rfl, rfl, rfl, rfl, rfl, trivial⟩ trivial) ?_)))
              clear hK K
              refine AW.cseq rfl (fun hc => ?_) (fun hc => ?_)
              · have hc := of_decide_eq_true hc
                have h := ifT hc h
                refine AW.skip ?_
                refine AW.seq (AW.block ?_)
                refine AW.rgs rfl fun K hK => ?_
                refine mv rfl rfl ?_
                obtain ⟨x11, h12, h⟩ := bS h
                refine bv rfl (v_idxF ty22 es22 rfl rfl (idx_lt h12)) ?_
                refine bv rfl (v_loadF ty66 rfl (l_agg eFromLabelTo h12 rfl rfl)) ?_
                refine b_op rfl (o_alloc (fid := 86) (zs := [HV.int .i64 0, HV.int .i64 0, HV.int .i64 0]) 86005 rfl rfl ty66 rfl (fun v13 => ?_))
                refine mv rfl rfl ?_
                refine b_op rfl (o_store (cs := [HV.int .i64 x11.1, HV.int .i64 x11.2.1, HV.int .i64 x11.2.2]) (zs := [HV.int .i64 x11.1, HV.int .i64 x11.2.1, HV.int .i64 x11.2.2]) rfl rfl rfl ty66 rfl rfl rfl rfl rfl ?_)
                refine b_nil (hK _ (AW.to (to_le (s' := ⟨[(1, HV.fptr [HV.int .i64 p0.1, HV.int .i64 p0.2.1, slE eFromLabelTo p0.2.2] 0), (3, HV.fn (.func 161) [] [HV.fptr [HV.fn (.func 130) [] []] 0]), (4, HV.int .i64 a7), (5, HV.ptr 86005 v13 0), (31, slE eFromLabelTo p0.2.2), (32, HV.int .i64 ((p0.2.2).length : Int)), (33, HV.int .i64 a7)], [(86005, v13, .arr 3 66 [HV.int .i64 x11.1, HV.int .i64 x11.2.1, HV.int .i64 x11.2.2])]⟩) (AS.le_of ⟨rfl, rfl, rfl, rfl, rfl, rfl, rfl, trivial⟩ ⟨rfl, trivial⟩) ?_)))
                clear hK K
                refine AW.seq ?_
                refine AW.seqJ h (S := Bool) (V := Unit) (fun a v => ⟨[(1, HV.fptr [HV.int .i64 p0.1, HV.int .i64 p0.2.1, slE eFromLabelTo p0.2.2] 0), (3, HV.fn (.func 161) [] [HV.fptr [HV.fn (.func 130) [] []] 0]), (4, HV.int .i64 a7), (5, HV.ptr 86005 v13 0), (31, slE eFromLabelTo p0.2.2), (32, HV.int .i64 ((p0.2.2).length : Int)), (33, HV.int .i64 a7), (62, HV.bool a)], [(86005, v13, .arr 3 66 [HV.int .i64 x11.1, HV.int .i64 x11.2.1, HV.int .i64 x11.2.2])]⟩) (fun a14 w15 h => ?_) (fun k16 h => ?_)
                · refine AW.cond rfl (fun hc => ?_) (fun hc => ?_)
                  · have h := ifT hc h
                    refine AW.rgs rfl fun K hK => ?_
                    refine mv rfl rfl ?_
                    refine b_nil (hK _ (AW.to (to_le (s' := ⟨[(2, HV.int .i64 2)], []⟩) (AS.le_of ⟨rfl, trivial⟩ trivial) ?_)))
                    clear hK K
                    have h := hr10 _ h
                    refine AW.ret ?_
                    have h := Option.some.inj h
                    subst h
                    exact ret_pure (hs := [HV.int .i64 2]) (q := HV.int .i64 2) (.inr rfl) (resT rfl rfl) rfl trivial
                  · have h := ifF (bF' hc) h
                    refine AW.skip ?_
                    refine AW.seqJ h (S := Bool) (V := Unit) (fun a v => ⟨[(1, HV.fptr [HV.int .i64 p0.1, HV.int .i64 p0.2.1, slE eFromLabelTo p0.2.2] 0), (3, HV.fn (.func 161) [] [HV.fptr [HV.fn (.func 130) [] []] 0]), (31, slE eFromLabelTo p0.2.2), (32, HV.int .i64 ((p0.2.2).length : Int)), (33, HV.int .i64 a7), (76, HV.bool a)], []⟩) (fun a17 w18 h => ?_) (fun k19 h => ?_)
                    · refine AW.cond rfl (fun hc => ?_) (fun hc => ?_)
                      · have h := ifT hc h
                        refine AW.rgs rfl fun K hK => ?_
                        refine mv rfl rfl ?_
                        refine b_nil (hK _ (AW.to (to_le (s' := ⟨[(2, HV.int .i64 10)], []⟩) (AS.le_of ⟨rfl, trivial⟩ trivial) ?_)))
                        clear hK K
                        have h := hr10 _ h
                        refine AW.ret ?_
                        have h := Option.some.inj h
                        subst h
                        exact ret_pure (hs := [HV.int .i64 10]) (q := HV.int .i64 10) (.inr rfl) (resT rfl rfl) rfl trivial
                      · have h := ifF (bF' hc) h
                        refine AW.skip ?_
                        refine AW.rg rfl fun K hK => ?_
                        refine bv rfl (v_bin rfl rfl b_add) ?_
                        refine mv rfl rfl ?_
                        refine b_nil (hK _ ?_)
                        clear hK K
                        exact to_le (s' := ⟨[(1, HV.fptr [HV.int .i64 p0.1, HV.int .i64 p0.2.1, slE eFromLabelTo p0.2.2] 0), (3, HV.fn (.func 161) [] [HV.fptr [HV.fn (.func 130) [] []] 0]), (31, slE eFromLabelTo p0.2.2), (32, HV.int .i64 ((p0.2.2).length : Int)), (33, HV.int .i64 (IntKind.wrap .i64 (a7 + 1)))], []⟩) (AS.le_of ⟨rfl, rfl, rfl, rfl, rfl, trivial⟩ trivial) ⟨IntKind.wrap .i64 (a7 + 1), (), h, rfl⟩
                    · refine AW.dg 14 follows rfl rfl fun K hK => ?_
                      refine sm rfl rfl ?_
                      refine sv rfl (v_bin rfl rfl b_gtr) ?_
                      refine sm rfl rfl ?_
                      by_cases hg24 : 0 < a7
                      · have h := ifT hg24 h
                        refine s_T rfl rfl rfl rfl rfl (decide_eq_true hg24) (ops_val rfl (mv_val rfl rfl).2 ?_)
                        refine s_T rfl rfl rfl rfl rfl rfl (ops_val rfl (v_fieldAddrF fo24_2 rfl) ?_)
                        refine s_T rfl rfl rfl rfl rfl rfl (ops_val rfl (v_loadF ty22 rfl (l_lit rfl rfl)) ?_)
                        refine s_T rfl rfl rfl rfl rfl rfl (ops_val rfl (mv_val rfl rfl).2 ?_)
                        refine s_T rfl rfl rfl rfl rfl rfl (ops_val rfl (v_bin rfl rfl b_sub) ?_)
                        obtain ⟨x20, h21, h⟩ := bS h
                        refine s_T rfl rfl rfl rfl rfl rfl (ops_val rfl (v_idxF ty22 es22 rfl rfl (idx_lt h21)) ?_)
                        refine s_T rfl rfl rfl rfl rfl rfl (ops_val rfl (v_loadF ty66 rfl (l_agg eFromLabelTo h21 rfl rfl)) ?_)
                        refine s_T rfl rfl rfl rfl rfl rfl (ops_val rfl (v_loadP ty66 rfl rfl (l_litA rfl (Nat.le_of_ble_eq_true rfl) rfl)) ?_)
                        obtain ⟨x22, h23, h⟩ := bS h
                        refine s_T rfl rfl rfl rfl rfl rfl (ops_call rfl rfl rfl rfl (ACallD.pure0 (w_graph_by_api_Edge_1 h23)) ?_)
                        refine s_T rfl rfl rfl rfl rfl rfl (ops_val rfl (v_bin rfl rfl b_geq) ?_)
                        refine sv rfl (v_pickT rfl rfl rfl) ?_
                        refine s_nil ?_
                        refine b_nil (hK _ ?_)
                        clear hK K
                        exact to_le (s' := ⟨[(1, HV.fptr [HV.int .i64 p0.1, HV.int .i64 p0.2.1, slE eFromLabelTo p0.2.2] 0), (3, HV.fn (.func 161) [] [HV.fptr [HV.fn (.func 130) [] []] 0]), (31, slE eFromLabelTo p0.2.2), (32, HV.int .i64 ((p0.2.2).length : Int)), (33, HV.int .i64 a7), (76, HV.bool (decide (0 ≤ x22)))], []⟩) (AS.le_of ⟨rfl, rfl, rfl, rfl, rfl, rfl, trivial⟩ trivial) ⟨decide (0 ≤ x22), (), h, rfl⟩
                      · have h := ifF hg24 h
                        refine s_F rfl rfl rfl rfl rfl (decide_eq_false hg24) ?_
                        refine s_F rfl rfl rfl rfl rfl rfl ?_
                        refine s_F rfl rfl rfl rfl rfl rfl ?_
                        refine s_F rfl rfl rfl rfl rfl rfl ?_
                        refine s_F rfl rfl rfl rfl rfl rfl ?_
                        refine s_F rfl rfl rfl rfl rfl rfl ?_
                        refine s_F rfl rfl rfl rfl rfl rfl ?_
                        refine s_F rfl rfl rfl rfl rfl rfl ?_
                        refine s_F rfl rfl rfl rfl rfl rfl ?_
                        refine s_F rfl rfl rfl rfl rfl rfl ?_
                        refine sv rfl (v_pickF rfl rfl rfl) ?_
                        refine s_nil ?_
                        refine b_nil (hK _ ?_)
                        clear hK K
                        exact to_le (s' := ⟨[(1, HV.fptr [HV.int .i64 p0.1, HV.int .i64 p0.2.1, slE eFromLabelTo p0.2.2] 0), (3, HV.fn (.func 161) [] [HV.fptr [HV.fn (.func 130) [] []] 0]), (31, slE eFromLabelTo p0.2.2), (32, HV.int .i64 ((p0.2.2).length : Int)), (33, HV.int .i64 a7), (76, HV.bool false)], []⟩) (AS.le_of ⟨rfl, rfl, rfl, rfl, rfl, rfl, trivial⟩ trivial) ⟨false, (), h, rfl⟩
                · refine AW.rg rfl fun K hK => ?_
                  refine bv rfl (v_fieldAddrP fo66_0 rfl rfl) ?_
                  refine bv rfl (v_loadP ty3 rfl rfl (l_lit rfl rfl)) ?_
                  refine bv rfl (v_fieldAddrP fo66_1 rfl rfl) ?_
                  refine bv rfl (v_loadP ty3 rfl rfl (l_lit rfl rfl)) ?_
                  refine bv rfl (v_fieldAddrP fo66_2 rfl rfl) ?_
                  refine bv rfl (v_loadP ty3 rfl rfl (l_lit rfl rfl)) ?_
                  refine bv rfl (v_min3 rfl rfl rfl rfl) ?_
                  refine bv rfl (v_bin rfl rfl b_lss) ?_
                  refine mv rfl rfl ?_
                  by_cases hg26 : (min (min x11.1 x11.2.1) x11.2.2) < 0
                  · have h := ifT hg26 h
                    refine b_F rfl rfl rfl rfl rfl (decide_eq_true hg26) ?_
                    refine b_F rfl rfl rfl rfl rfl rfl ?_
                    refine b_F rfl rfl rfl rfl rfl rfl ?_
                    refine b_F rfl rfl rfl rfl rfl rfl ?_
                    refine b_F rfl rfl rfl rfl rfl rfl ?_
                    refine b_F rfl rfl rfl rfl rfl rfl ?_
                    refine b_F rfl rfl rfl rfl rfl rfl ?_
                    refine b_F rfl rfl rfl rfl rfl rfl ?_
                    refine bv rfl (v_pickT rfl rfl rfl) ?_
                    refine mv rfl rfl ?_
                    refine b_F rfl rfl rfl rfl rfl rfl ?_
                    refine b_F rfl rfl rfl rfl rfl rfl ?_
                    refine b_F rfl rfl rfl rfl rfl rfl ?_
                    refine b_F rfl rfl rfl rfl rfl rfl ?_
                    refine b_F rfl rfl rfl rfl rfl rfl ?_
                    refine bv rfl (v_pickT rfl rfl rfl) ?_
                    refine b_nil (hK _ ?_)
                    clear hK K
                    exact to_le (s' := ⟨[(1, HV.fptr [HV.int .i64 p0.1, HV.int .i64 p0.2.1, slE eFromLabelTo p0.2.2] 0), (3, HV.fn (.func 161) [] [HV.fptr [HV.fn (.func 130) [] []] 0]), (4, HV.int .i64 a7), (5, HV.ptr 86005 v13 0), (31, slE eFromLabelTo p0.2.2), (32, HV.int .i64 ((p0.2.2).length : Int)), (33, HV.int .i64 a7), (62, HV.bool true)], [(86005, v13, .arr 3 66 [HV.int .i64 x11.1, HV.int .i64 x11.2.1, HV.int .i64 x11.2.2])]⟩) (AS.le_of ⟨rfl, rfl, rfl, rfl, rfl, rfl, rfl, rfl, trivial⟩ ⟨rfl, trivial⟩) ⟨true, (), h, rfl⟩
                  · have h := ifF hg26 h
                    refine b_T rfl rfl rfl rfl (decide_eq_false hg26) (o_val rfl (v_fieldAddrP fo66_0 rfl rfl) ?_)
                    refine b_T rfl rfl rfl rfl rfl (o_val rfl (v_loadP ty3 rfl rfl (l_lit rfl rfl)) ?_)
                    refine b_T rfl rfl rfl rfl rfl (o_val rfl (v_fieldAddrP fo66_2 rfl rfl) ?_)
                    refine b_T rfl rfl rfl rfl rfl (o_val rfl (v_loadP ty3 rfl rfl (l_lit rfl rfl)) ?_)
                    refine b_T rfl rfl rfl rfl rfl (o_val rfl (v_max rfl rfl rfl) ?_)
                    refine b_T rfl rfl rfl rfl rfl (o_val rfl (v_fieldAddrF fo24_1 rfl) ?_)
                    refine b_T rfl rfl rfl rfl rfl (o_val rfl (v_loadF ty3 rfl (l_lit rfl rfl)) ?_)
                    refine b_T rfl rfl rfl rfl rfl (o_val rfl (v_bin rfl rfl b_geq) ?_)
                    refine bv rfl (v_pickF rfl rfl rfl) ?_
                    refine mv rfl rfl ?_
                    by_cases hg25 : p0.2.1 ≤ (max x11.1 x11.2.2)
                    · have h := ifT hg25 h
                      refine b_F rfl rfl rfl rfl rfl (decide_eq_true hg25) ?_
                      refine b_F rfl rfl rfl rfl rfl rfl ?_
                      refine b_F rfl rfl rfl rfl rfl rfl ?_
                      refine b_F rfl rfl rfl rfl rfl rfl ?_
                      refine b_F rfl rfl rfl rfl rfl rfl ?_
                      refine bv rfl (v_pickT rfl rfl rfl) ?_
                      refine b_nil (hK _ ?_)
                      clear hK K
                      exact to_le (s' := ⟨[(1, HV.fptr [HV.int .i64 p0.1, HV.int .i64 p0.2.1, slE eFromLabelTo p0.2.2] 0), (3, HV.fn (.func 161) [] [HV.fptr [HV.fn (.func 130) [] []] 0]), (4, HV.int .i64 a7), (5, HV.ptr 86005 v13 0), (31, slE eFromLabelTo p0.2.2), (32, HV.int .i64 ((p0.2.2).length : Int)), (33, HV.int .i64 a7), (62, HV.bool true)], [(86005, v13, .arr 3 66 [HV.int .i64 x11.1, HV.int .i64 x11.2.1, HV.int .i64 x11.2.2])]⟩) (AS.le_of ⟨rfl, rfl, rfl, rfl, rfl, rfl, rfl, rfl, trivial⟩ ⟨rfl, trivial⟩) ⟨true, (), h, rfl⟩
                    · have h := ifF hg25 h
                      refine b_T rfl rfl rfl rfl (decide_eq_false hg25) (o_val rfl (v_fieldAddrP fo66_1 rfl rfl) ?_)
                      refine b_T rfl rfl rfl rfl rfl (o_val rfl (v_loadP ty3 rfl rfl (l_lit rfl rfl)) ?_)
                      refine b_T rfl rfl rfl rfl rfl (o_val rfl (v_fieldAddrF fo24_0 rfl) ?_)
                      refine b_T rfl rfl rfl rfl rfl (o_val rfl (v_loadF ty3 rfl (l_lit rfl rfl)) ?_)
                      refine b_T rfl rfl rfl rfl rfl (o_val rfl (v_bin rfl rfl b_geq) ?_)
                      refine bv rfl (v_pickF rfl rfl rfl) ?_
                      refine b_nil (hK _ ?_)
                      clear hK K
                      exact to_le (s' := ⟨[(1, HV.fptr [HV.int .i64 p0.1, HV.int .i64 p0.2.1, slE eFromLabelTo p0.2.2] 0), (3, HV.fn (.func 161) [] [HV.fptr [HV.fn (.func 130) [] []] 0]), (4, HV.int .i64 a7), (5, HV.ptr 86005 v13 0), (31, slE eFromLabelTo p0.2.2), (32, HV.int .i64 ((p0.2.2).length : Int)), (33, HV.int .i64 a7), (62, HV.bool (decide (p0.1 ≤ x11.2.1)))], [(86005, v13, .arr 3 66 [HV.int .i64 x11.1, HV.int .i64 x11.2.1, HV.int .i64 x11.2.2])]⟩) (AS.le_of ⟨rfl, rfl, rfl, rfl, rfl, rfl, rfl, rfl, trivial⟩ ⟨rfl, trivial⟩) ⟨decide (p0.1 ≤ x11.2.1), (), h, rfl⟩
              · have hc := of_decide_eq_false hc
                have h := ifF hc h
                refine AW.exit ?_
                exact to_le (s' := ⟨[], []⟩) (AS.le_of trivial trivial) ⟨(), (), h, rfl⟩
        · refine AW.rg rfl fun K hK => ?_
          refine bv rfl (v_fieldAddrF fo24_1 rfl) ?_
          refine bv rfl (v_loadF ty3 rfl (l_lit rfl rfl)) ?_
          refine bv rfl (v_bin rfl rfl b_gtr) ?_
          refine mv rfl rfl ?_
          by_cases hg29 : 64 < p0.2.1
          · have h := ifT hg29 h
            refine b_F rfl rfl rfl rfl rfl (decide_eq_true hg29) ?_
            refine b_F rfl rfl rfl rfl rfl rfl ?_
            refine b_F rfl rfl rfl rfl rfl rfl ?_
            refine b_F rfl rfl rfl rfl rfl rfl ?_
            refine bv rfl (v_pickT rfl rfl rfl) ?_
            refine mv rfl rfl ?_
            refine b_nil (hK _ ?_)
            clear hK K
            exact to_le (s' := ⟨[(1, HV.fptr [HV.int .i64 p0.1, HV.int .i64 p0.2.1, slE eFromLabelTo p0.2.2] 0), (19, HV.bool true)], []⟩) (AS.le_of ⟨rfl, rfl, trivial⟩ trivial) ⟨true, (), h, rfl⟩
          · have h := ifF hg29 h
            refine b_T rfl rfl rfl rfl (decide_eq_false hg29) (o_val rfl (v_fieldAddrF fo24_2 rfl) ?_)
            refine b_T rfl rfl rfl rfl rfl (o_val rfl (v_loadF ty22 rfl (l_lit rfl rfl)) ?_)
            refine b_T rfl rfl rfl rfl rfl (o_val rfl (v_lenF rfl rfl ty22 rfl) ?_)
            refine b_T rfl rfl rfl rfl rfl (o_val rfl (v_bin rfl rfl b_gtr) ?_)
            refine bv rfl (v_pickF rfl rfl rfl) ?_
            refine mv rfl rfl ?_
            refine b_nil (hK _ ?_)
            clear hK K
            exact to_le (s' := ⟨[(1, HV.fptr [HV.int .i64 p0.1, HV.int .i64 p0.2.1, slE eFromLabelTo p0.2.2] 0), (19, HV.bool (decide (1024 < ((p0.2.2).length : Int))))], []⟩) (AS.le_of ⟨rfl, rfl, trivial⟩ trivial) ⟨decide (1024 < ((p0.2.2).length : Int)), (), h, rfl⟩
  · refine AW.rg rfl fun K hK => ?_
    refine bv rfl (v_fieldAddrF fo24_0 rfl) ?_
    refine bv rfl (v_loadF ty3 rfl (l_lit rfl rfl)) ?_
    refine bv rfl (v_bin rfl rfl b_lss) ?_
    refine mv rfl rfl ?_
    by_cases hg30 : p0.1 < 1
    · have h := ifT hg30 h
      refine b_F rfl rfl rfl rfl rfl (decide_eq_true hg30) ?_
      refine b_F rfl rfl rfl rfl rfl rfl ?_
      refine b_F rfl rfl rfl rfl rfl rfl ?_
      refine bv rfl (v_pickT rfl rfl rfl) ?_
      refine mv rfl rfl ?_
      refine b_nil (hK _ ?_)
      clear hK K
      exact to_le (s' := ⟨[(1, HV.fptr [HV.int .i64 p0.1, HV.int .i64 p0.2.1, slE eFromLabelTo p0.2.2] 0), (6, HV.bool true)], []⟩) (AS.le_of ⟨rfl, rfl, trivial⟩ trivial) ⟨true, (), h, rfl⟩
    · have h := ifF hg30 h
      refine b_T rfl rfl rfl rfl (decide_eq_false hg30) (o_val rfl (v_fieldAddrF fo24_0 rfl) ?_)
      refine b_T rfl rfl rfl rfl rfl (o_val rfl (v_loadF ty3 rfl (l_lit rfl rfl)) ?_)
      refine b_T rfl rfl rfl rfl rfl (o_val rfl (v_bin rfl rfl b_gtr) ?_)
      refine bv rfl (v_pickF rfl rfl rfl) ?_
      refine mv rfl rfl ?_
      refine b_nil (hK _ ?_)
      clear hK K
      exact to_le (s' := ⟨[(1, HV.fptr [HV.int .i64 p0.1, HV.int .i64 p0.2.1, slE eFromLabelTo p0.2.2] 0), (6, HV.bool (decide (256 < p0.1)))], []⟩) (AS.le_of ⟨rfl, rfl, trivial⟩ trivial) ⟨decide (256 < p0.1), (), h, rfl⟩

set_option maxHeartbeats 1600000 in
set_option maxRecDepth 100000 in
theorem w_graph_checkSet {p0 : TLabelsStatesEdges} {p1 : List (Int)} {r : Int} (h : m_graph_checkSet p0 p1 = some r) : Pure Try.prog 177 [HV.agg [HV.int .i64 p0.1, HV.int .i64 p0.2.1, slE eFromLabelTo p0.2.2], slE eInt p1] (· = HV.int .i64 r) := by
  unfold m_graph_checkSet at h
  refine Pure.of_body Try.func177 rfl rfl (Nat.le_of_ble_eq_true rfl) fun hf => ?_
  unfold Try.f177
  dsimp only [enumS, Nat.reduceAdd]
  refine AW.rgs rfl fun K hK => ?_
  refine b_op rfl (o_box rfl rfl rfl ?_)
  refine mv rfl rfl ?_
  refine b_nil (hK _ (AW.to (to_le (s' := ⟨[(1, slE eInt p1), (2, HV.fptr [HV.int .i64 p0.1, HV.int .i64 p0.2.1, slE eFromLabelTo p0.2.2] 0)], []⟩) (AS.le_of ⟨rfl, rfl, trivial⟩ trivial) ?_)))
  clear hK K
  refine AW.seq ?_
  refine AW.rgs rfl fun K hK => ?_
  refine mv rfl rfl ?_
  refine bv rfl (v_lenF rfl rfl ty42 rfl) ?_
  refine mv rfl rfl ?_
  refine b_nil (hK _ (AW.to (to_le (s' := ⟨[(1, slE eInt p1), (2, HV.fptr [HV.int .i64 p0.1, HV.int .i64 p0.2.1, slE eFromLabelTo p0.2.2] 0), (7, slE eInt p1), (8, HV.int .i64 ((p1).length : Int)), (9, HV.int .i64 0)], []⟩) (AS.le_of ⟨rfl, rfl, rfl, rfl, rfl, trivial⟩ trivial) ?_)))
  clear hK K
  refine AW.lpR h (by first | exact up_then | exact up_to) (S := Int) (V := Unit) (fun a v => ⟨[(1, slE eInt p1), (2, HV.fptr [HV.int .i64 p0.1, HV.int .i64 p0.2.1, slE eFromLabelTo p0.2.2] 0), (7, slE eInt p1), (8, HV.int .i64 ((p1).length : Int)), (9, HV.int .i64 a)], []⟩) ?_ (X := Unit) (W := Unit) (fun a v => ⟨[], []⟩) (fun a17 w18 h => ?_) (fun a1 w2 st3 h hr4=> ?_)
  · exact to_le (s' := ⟨[(1, slE eInt p1), (2, HV.fptr [HV.int .i64 p0.1, HV.int .i64 p0.2.1, slE eFromLabelTo p0.2.2] 0), (7, slE eInt p1), (8, HV.int .i64 ((p1).length : Int)), (9, HV.int .i64 0)], []⟩) (AS.le_of ⟨rfl, rfl, rfl, rfl, rfl, trivial⟩ trivial) ⟨(), rfl⟩
  · refine AW.rgs rfl fun K hK => ?_
    refine mv rfl rfl ?_
    refine b_nil (hK _ (AW.to (to_le (s' := ⟨[(4, HV.int .i64 0)], []⟩) (AS.le_of ⟨rfl, trivial⟩ trivial) ?_)))
    clear hK K
    refine AW.ret ?_
    have h := Option.some.inj h
    subst h
    exact ret_pure (hs := [HV.int .i64 0]) (q := HV.int .i64 0) (.inr rfl) (resT rfl rfl) rfl trivial
  · refine AW.rgs rfl fun K hK => ?_
    refine bv rfl (v_bin rfl rfl b_lss) ?_
    refine b_nil (hK _ (AW.to (to_le (s' := ⟨[(1, slE eInt p1), (2, HV.fptr [HV.int .i64 p0.1, HV.int .i64 p0.2.1, slE eFromLabelTo p0.2.2] 0), (7, slE eInt p1), (8, HV.int .i64 ((p1).length : Int)), (9, HV.int .i64 a1), (10, HV.bool (decide (a1 < ((p1).length : Int))))], []⟩) (AS.le_of ⟨rfl, rfl, rfl, rfl, rfl, rfl, trivial⟩ trivial) ?_)))
    clear hK K
    refine AW.cseq rfl (fun hc => ?_) (fun hc => ?_)
    · have hc := of_decide_eq_true hc
      have h := ifT hc h
      refine AW.skip ?_
      refine AW.seq (AW.block ?_)
      refine AW.rgs rfl fun K hK => ?_
      refine mv rfl rfl ?_
      obtain ⟨x5, h6, h⟩ := bS h
      refine bv rfl (v_idxF ty42 es42 rfl rfl (idx_lt h6)) ?_
      refine bv rfl (v_loadF ty3 rfl (l_cell eInt h6 (o := 0) rfl rfl)) ?_
      refine mv rfl rfl ?_
      refine mv rfl rfl ?_
      refine b_nil (hK _ (AW.to (to_le (s' := ⟨[(1, slE eInt p1), (2, HV.fptr [HV.int .i64 p0.1, HV.int .i64 p0.2.1, slE eFromLabelTo p0.2.2] 0), (5, HV.int .i64 a1), (6, HV.int .i64 x5), (7, slE eInt p1), (8, HV.int .i64 ((p1).length : Int)), (9, HV.int .i64 a1)], []⟩) (AS.le_of ⟨rfl, rfl, rfl, rfl, rfl, rfl, rfl, trivial⟩ trivial) ?_)))
      clear hK K
      refine AW.seq ?_
      refine AW.seqJ h (S := Bool) (V := Unit) (fun a v => ⟨[(1, slE eInt p1), (2, HV.fptr [HV.int .i64 p0.1, HV.int .i64 p0.2.1, slE eFromLabelTo p0.2.2] 0), (5, HV.int .i64 a1), (6, HV.int .i64 x5), (7, slE eInt p1), (8, HV.int .i64 ((p1).length : Int)), (9, HV.int .i64 a1), (21, HV.bool a)], []⟩) (fun a7 w8 h => ?_) (fun k9 h => ?_)
      · refine AW.cond rfl (fun hc => ?_) (fun hc => ?_)
        · have h := ifT hc h
          refine AW.rgs rfl fun K hK => ?_
          refine mv rfl rfl ?_
          refine b_nil (hK _ (AW.to (to_le (s' := ⟨[(4, HV.int .i64 25)], []⟩) (AS.le_of ⟨rfl, trivial⟩ trivial) ?_)))
          clear hK K
          have h := hr4 _ h
          refine AW.ret ?_
          have h := Option.some.inj h
          subst h
          exact ret_pure (hs := [HV.int .i64 25]) (q := HV.int .i64 25) (.inr rfl) (resT rfl rfl) rfl trivial
        · have h := ifF (bF' hc) h
          refine AW.skip ?_
          refine AW.seqJ h (S := Bool) (V := Unit) (fun a v => ⟨[(1, slE eInt p1), (2, HV.fptr [HV.int .i64 p0.1, HV.int .i64 p0.2.1, slE eFromLabelTo p0.2.2] 0), (7, slE eInt p1), (8, HV.int .i64 ((p1).length : Int)), (9, HV.int .i64 a1), (32, HV.bool a)], []⟩) (fun a10 w11 h => ?_) (fun k12 h => ?_)
          · refine AW.cond rfl (fun hc => ?_) (fun hc => ?_)
            · have h := ifT hc h
              refine AW.rgs rfl fun K hK => ?_
              refine mv rfl rfl ?_
              refine b_nil (hK _ (AW.to (to_le (s' := ⟨[(4, HV.int .i64 10)], []⟩) (AS.le_of ⟨rfl, trivial⟩ trivial) ?_)))
              clear hK K
              have h := hr4 _ h
              refine AW.ret ?_
              have h := Option.some.inj h
              subst h
              exact ret_pure (hs := [HV.int .i64 10]) (q := HV.int .i64 10) (.inr rfl) (resT rfl rfl) rfl trivial
            · have h := ifF (bF' hc) h
              refine AW.skip ?_
              refine AW.rg rfl fun K hK => ?_
              refine bv rfl (v_bin rfl rfl b_add) ?_
              refine mv rfl rfl ?_
              refine b_nil (hK _ ?_)
              clear hK K
              exact to_le (s' := ⟨[(1, slE eInt p1), (2, HV.fptr [HV.int .i64 p0.1, HV.int .i64 p0.2.1, slE eFromLabelTo p0.2.2] 0), (7, slE eInt p1), (8, HV.int .i64 ((p1).length : Int)), (9, HV.int .i64 (IntKind.wrap .i64 (a1 + 1)))], []⟩) (AS.le_of ⟨rfl, rfl, rfl, rfl, rfl, trivial⟩ trivial) ⟨IntKind.wrap .i64 (a1 + 1), (), h, rfl⟩
          · refine AW.rg rfl fun K hK => ?_
            refine mv rfl rfl ?_
            refine bv rfl (v_bin rfl rfl b_gtr) ?_
            refine mv rfl rfl ?_
            by_cases hg15 : 0 < a1
            · have h := ifT hg15 h
              refine b_T rfl rfl rfl rfl (decide_eq_true hg15) (o_val rfl (mv_val rfl rfl).2 ?_)
              refine b_T rfl rfl rfl rfl rfl (o_val rfl (mv_val rfl rfl).2 ?_)
              refine b_T rfl rfl rfl rfl rfl (o_val rfl (mv_val rfl rfl).2 ?_)
              refine b_T rfl rfl rfl rfl rfl (o_val rfl (v_bin rfl rfl b_sub) ?_)
              obtain ⟨x13, h14, h⟩ := bS h
              refine b_T rfl rfl rfl rfl rfl (o_val rfl (v_idxF ty42 es42 rfl rfl (idx_lt h14)) ?_)
              refine b_T rfl rfl rfl rfl rfl (o_val rfl (v_loadF ty3 rfl (l_cell eInt h14 (o := 0) rfl rfl)) ?_)
              refine b_T rfl rfl rfl rfl rfl (o_val rfl (v_bin rfl rfl b_leq) ?_)
              refine bv rfl (v_pickT rfl rfl rfl) ?_
              refine b_nil (hK _ ?_)
              clear hK K
              exact to_le (s' := ⟨[(1, slE eInt p1), (2, HV.fptr [HV.int .i64 p0.1, HV.int .i64 p0.2.1, slE eFromLabelTo p0.2.2] 0), (7, slE eInt p1), (8, HV.int .i64 ((p1).length : Int)), (9, HV.int .i64 a1), (32, HV.bool (decide (x5 ≤ x13)))], []⟩) (AS.le_of ⟨rfl, rfl, rfl, rfl, rfl, rfl, trivial⟩ trivial) ⟨decide (x5 ≤ x13), (), h, rfl⟩
            · have h := ifF hg15 h
              refine b_F rfl rfl rfl rfl rfl (decide_eq_false hg15) ?_
              refine b_F rfl rfl rfl rfl rfl rfl ?_
              refine b_F rfl rfl rfl rfl rfl rfl ?_
              refine b_F rfl rfl rfl rfl rfl rfl ?_
              refine b_F rfl rfl rfl rfl rfl rfl ?_
              refine b_F rfl rfl rfl rfl rfl rfl ?_
              refine b_F rfl rfl rfl rfl rfl rfl ?_
              refine bv rfl (v_pickF rfl rfl rfl) ?_
              refine b_nil (hK _ ?_)
              clear hK K
              exact to_le (s' := ⟨[(1, slE eInt p1), (2, HV.fptr [HV.int .i64 p0.1, HV.int .i64 p0.2.1, slE eFromLabelTo p0.2.2] 0), (7, slE eInt p1), (8, HV.int .i64 ((p1).length : Int)), (9, HV.int .i64 a1), (32, HV.bool false)], []⟩) (AS.le_of ⟨rfl, rfl, rfl, rfl, rfl, rfl, trivial⟩ trivial) ⟨false, (), h, rfl⟩
      · refine AW.rg rfl fun K hK => ?_
        refine mv rfl rfl ?_
        refine bv rfl (v_bin rfl rfl b_lss) ?_
        refine mv rfl rfl ?_
        by_cases hg16 : x5 < 0
        · have h := ifT hg16 h
          refine b_F rfl rfl rfl rfl rfl (decide_eq_true hg16) ?_
          refine b_F rfl rfl rfl rfl rfl rfl ?_
          refine b_F rfl rfl rfl rfl rfl rfl ?_
          refine b_F rfl rfl rfl rfl rfl rfl ?_
          refine bv rfl (v_pickT rfl rfl rfl) ?_
          refine b_nil (hK _ ?_)
          clear hK K
          exact to_le (s' := ⟨[(1, slE eInt p1), (2, HV.fptr [HV.int .i64 p0.1, HV.int .i64 p0.2.1, slE eFromLabelTo p0.2.2] 0), (5, HV.int .i64 a1), (6, HV.int .i64 x5), (7, slE eInt p1), (8, HV.int .i64 ((p1).length : Int)), (9, HV.int .i64 a1), (21, HV.bool true)], []⟩) (AS.le_of ⟨rfl, rfl, rfl, rfl, rfl, rfl, rfl, rfl, trivial⟩ trivial) ⟨true, (), h, rfl⟩
        · have h := ifF hg16 h
          refine b_T rfl rfl rfl rfl (decide_eq_false hg16) (o_val rfl (mv_val rfl rfl).2 ?_)
          refine b_T rfl rfl rfl rfl rfl (o_val rfl (v_fieldAddrF fo24_1 rfl) ?_)
          refine b_T rfl rfl rfl rfl rfl (o_val rfl (v_loadF ty3 rfl (l_lit rfl rfl)) ?_)
          refine b_T rfl rfl rfl rfl rfl (o_val rfl (v_bin rfl rfl b_geq) ?_)
          refine bv rfl (v_pickF rfl rfl rfl) ?_
          refine b_nil (hK _ ?_)
          clear hK K
          exact to_le (s' := ⟨[(1, slE eInt p1), (2, HV.fptr [HV.int .i64 p0.1, HV.int .i64 p0.2.1, slE eFromLabelTo p0.2.2] 0), (5, HV.int .i64 a1), (6, HV.int .i64 x5), (7, slE eInt p1), (8, HV.int .i64 ((p1).length : Int)), (9, HV.int .i64 a1), (21, HV.bool (decide (p0.2.1 ≤ x5)))], []⟩) (AS.le_of ⟨rfl, rfl, rfl, rfl, rfl, rfl, rfl, rfl, trivial⟩ trivial) ⟨decide (p0.2.1 ≤ x5), (), h, rfl⟩
    · have hc := of_decide_eq_false hc
      have h := ifF hc h
      refine AW.exit ?_
      exact to_le (s' := ⟨[], []⟩) (AS.le_of trivial trivial) ⟨(), (), h, rfl⟩

set_option maxHeartbeats 1600000 in
set_option maxRecDepth 100000 in
theorem w_graph_leaving (p0 : TLabelsStatesEdges) (p1 : Int) : Pure Try.prog 178 [HV.agg [HV.int .i64 p0.1, HV.int .i64 p0.2.1, slE eFromLabelTo p0.2.2], HV.int .i64 p1] (· = HV.fn (.func 186) [] [HV.fptr [HV.int .i64 p0.1, HV.int .i64 p0.2.1, slE eFromLabelTo p0.2.2] 0, HV.fptr [HV.int .i64 p1] 0]) := by
  refine Pure.of_body Try.func178 rfl rfl (Nat.le_of_ble_eq_true rfl) fun hf => ?_
  unfold Try.f178
  dsimp only [enumS, Nat.reduceAdd]
  refine AW.rgs rfl fun K hK => ?_
  refine b_op rfl (o_box rfl rfl rfl ?_)
  refine b_op rfl (o_box rfl rfl rfl ?_)
  refine mv rfl rfl ?_
  refine b_nil (hK _ (AW.to (to_le (s' := ⟨[(2, HV.fptr [HV.int .i64 p0.1, HV.int .i64 p0.2.1, slE eFromLabelTo p0.2.2] 0), (3, HV.fptr [HV.int .i64 p1] 0)], []⟩) (AS.le_of ⟨rfl, rfl, trivial⟩ trivial) ?_)))
  clear hK K
  refine AW.rgs rfl fun K hK => ?_
  refine bv rfl (v_func rfl rfl) ?_
  refine mv rfl rfl ?_
  refine b_nil (hK _ (AW.to (to_le (s' := ⟨[(4, HV.fn (.func 186) [] [HV.fptr [HV.int .i64 p0.1, HV.int .i64 p0.2.1, slE eFromLabelTo p0.2.2] 0, HV.fptr [HV.int .i64 p1] 0])], []⟩) (AS.le_of ⟨rfl, trivial⟩ trivial) ?_)))
  clear hK K
  refine AW.ret ?_
  exact ret_pure (hs := [HV.fn (.func 186) [] [HV.fptr [HV.int .i64 p0.1, HV.int .i64 p0.2.1, slE eFromLabelTo p0.2.2] 0, HV.fptr [HV.int .i64 p1] 0]]) (q := HV.fn (.func 186) [] [HV.fptr [HV.int .i64 p0.1, HV.int .i64 p0.2.1, slE eFromLabelTo p0.2.2] 0, HV.fptr [HV.int .i64 p1] 0]) (.inr rfl) (resT rfl rfl) rfl ⟨trivial, ⟨⟨trivial, trivial, (clean_slE fun _ _ => ⟨trivial, trivial, trivial, trivial⟩), trivial⟩, ⟨trivial, trivial⟩, trivial⟩⟩

end Go.AW

namespace Go.AW
open Go Go.Proofs
set_option linter.unusedVariables false
set_option maxHeartbeats 1600000 in
set_option maxRecDepth 100000 in
theorem w_graph_Step {p0 : TLabelsStatesEdges} {p1 : List (Int)} {p2 : Int} {r : (List (Int)) × Int} (h : m_graph_Step p0 p1 p2 = some r) : Pure Try.prog 159 [HV.agg [HV.int .i64 p0.1, HV.int .i64 p0.2.1, slE eFromLabelTo p0.2.2], slE eInt p1, HV.int .i64 p2] (· = HV.tup [slE eInt r.1, HV.int .i64 r.2]) := by
  unfold m_graph_Step at h
  refine Pure.of_body Try.func159 rfl rfl (Nat.le_of_ble_eq_true rfl) fun hf => ?_
  unfold Try.f159
  dsimp only [enumS, Nat.reduceAdd]
  refine AW.rgs rfl fun K hK => ?_
  refine b_op rfl (o_box rfl rfl rfl ?_)
  refine b_op rfl (o_box rfl rfl rfl ?_)
  refine mv rfl rfl ?_
  refine mv rfl rfl ?_
  refine b_nil (hK _ (AW.to (to_le (s' := ⟨[(1, slE eInt p1), (3, HV.fptr [HV.int .i64 p0.1, HV.int .i64 p0.2.1, slE eFromLabelTo p0.2.2] 0), (5, HV.fptr [HV.int .i64 p2] 0)], []⟩) (AS.le_of ⟨rfl, rfl, rfl, trivial⟩ trivial) ?_)))
  clear hK K
  refine AW.seq ?_
  refine AW.rgs rfl fun K hK => ?_
  refine bv rfl (v_loadF ty24 rfl (l_litA rfl (Nat.le_of_ble_eq_true rfl) rfl)) ?_
  obtain ⟨x1, h2, h⟩ := bS h
  refine b_op rfl (o_call rfl rfl rfl rfl (ACallD.pure0 (w_graph_Check h2)) ?_)
  refine bv rfl (v_bin rfl rfl b_neq) ?_
  refine b_nil (hK _ (AW.to (to_le (s' := ⟨[(1, slE eInt p1), (3, HV.fptr [HV.int .i64 p0.1, HV.int .i64 p0.2.1, slE eFromLabelTo p0.2.2] 0), (5, HV.fptr [HV.int .i64 p2] 0), (16, HV.bool (decide (x1 ≠ 0)))], []⟩) (AS.le_of ⟨rfl, rfl, rfl, rfl, trivial⟩ trivial) ?_)))
  clear hK K
  refine AW.cond rfl (fun hc => ?_) (fun hc => ?_)
  · have hc := of_decide_eq_true hc
    have h := ifT hc h
    refine AW.rgs rfl fun K hK => ?_
    refine mv rfl rfl ?_
    refine mv rfl rfl ?_
    refine b_nil (hK _ (AW.to (to_le (s' := ⟨[(6, HV.v (.slice none 0 0)), (7, HV.int .i64 1)], []⟩) (AS.le_of ⟨rfl, rfl, trivial⟩ trivial) ?_)))
    clear hK K
    refine AW.to (to_weak ⟨[(6, slE eInt ([] : List Int)), (7, HV.int .i64 1)], []⟩ ⟨⟨_, rfl, .nil _⟩, ⟨_, rfl, .refl _⟩, trivial⟩ trivial ?_)
    refine AW.ret ?_
    have h := Option.some.inj h
    subst h
    exact ret_pure (hs := [slE eInt ([] : List Int), HV.int .i64 1]) (q := HV.tup [slE eInt ([] : List Int), HV.int .i64 1]) (.inr rfl) (resT rfl (resT rfl rfl)) rfl ⟨(clean_slE fun _ _ => ⟨trivial, trivial⟩), trivial, trivial⟩
  · have hc := of_decide_eq_false hc
    have h := ifF hc h
    refine AW.skip ?_
    refine AW.seq ?_
    refine AW.rgs rfl fun K hK => ?_
    refine bv rfl (v_loadF ty24 rfl (l_litA rfl (Nat.le_of_ble_eq_true rfl) rfl)) ?_
    refine mv rfl rfl ?_
    obtain ⟨x3, h4, h⟩ := bS h
    refine b_op rfl (o_call rfl rfl rfl rfl (ACallD.pure0 (w_graph_checkSet h4)) ?_)
    refine mv rfl rfl ?_
    refine b_nil (hK _ (AW.to (to_le (s' := ⟨[(1, slE eInt p1), (3, HV.fptr [HV.int .i64 p0.1, HV.int .i64 p0.2.1, slE eFromLabelTo p0.2.2] 0), (5, HV.fptr [HV.int .i64 p2] 0), (8, HV.int .i64 x3)], []⟩) (AS.le_of ⟨rfl, rfl, rfl, rfl, trivial⟩ trivial) ?_)))
    clear hK K
    refine AW.rgs rfl fun K hK => ?_
    refine mv rfl rfl ?_
    refine bv rfl (v_bin rfl rfl b_neq) ?_
    refine b_nil (hK _ (AW.to (to_le (s' := ⟨[(1, slE eInt p1), (3, HV.fptr [HV.int .i64 p0.1, HV.int .i64 p0.2.1, slE eFromLabelTo p0.2.2] 0), (5, HV.fptr [HV.int .i64 p2] 0), (8, HV.int .i64 x3), (21, HV.bool (decide (x3 ≠ 0)))], []⟩) (AS.le_of ⟨rfl, rfl, rfl, rfl, rfl, trivial⟩ trivial) ?_)))
    clear hK K
    refine AW.cond rfl (fun hc => ?_) (fun hc => ?_)
    · have hc := of_decide_eq_true hc
      have h := ifT hc h
      refine AW.rgs rfl fun K hK => ?_
      refine mv rfl rfl ?_
      refine mv rfl rfl ?_
      refine mv rfl rfl ?_
      refine b_nil (hK _ (AW.to (to_le (s' := ⟨[(6, HV.v (.slice none 0 0)), (7, HV.int .i64 x3)], []⟩) (AS.le_of ⟨rfl, rfl, trivial⟩ trivial) ?_)))
      clear hK K
      refine AW.to (to_weak ⟨[(6, slE eInt ([] : List Int)), (7, HV.int .i64 x3)], []⟩ ⟨⟨_, rfl, .nil _⟩, ⟨_, rfl, .refl _⟩, trivial⟩ trivial ?_)
      refine AW.ret ?_
      have h := Option.some.inj h
      subst h
      exact ret_pure (hs := [slE eInt ([] : List Int), HV.int .i64 x3]) (q := HV.tup [slE eInt ([] : List Int), HV.int .i64 x3]) (.inr rfl) (resT rfl (resT rfl rfl)) rfl ⟨(clean_slE fun _ _ => ⟨trivial, trivial⟩), trivial, trivial⟩
    · have hc := of_decide_eq_false hc
      have h := ifF hc h
      refine AW.skip ?_
      refine AW.seq ?_
      refine AW.seqJ h (S := Bool) (V := Unit) (fun a v => ⟨[(1, slE eInt p1), (3, HV.fptr [HV.int .i64 p0.1, HV.int .i64 p0.2.1, slE eFromLabelTo p0.2.2] 0), (5, HV.fptr [HV.int .i64 p2] 0), (30, HV.bool a)], []⟩) (fun a5 w6 h => ?_) (fun k7 h => ?_)
      · refine AW.cond rfl (fun hc => ?_) (fun hc => ?_)
        · have h := ifT hc h
          refine AW.rgs rfl fun K hK => ?_
          refine mv rfl rfl ?_
          refine mv rfl rfl ?_
          refine b_nil (hK _ (AW.to (to_le (s' := ⟨[(6, HV.v (.slice none 0 0)), (7, HV.int .i64 2)], []⟩) (AS.le_of ⟨rfl, rfl, trivial⟩ trivial) ?_)))
          clear hK K
          refine AW.to (to_weak ⟨[(6, slE eInt ([] : List Int)), (7, HV.int .i64 2)], []⟩ ⟨⟨_, rfl, .nil _⟩, ⟨_, rfl, .refl _⟩, trivial⟩ trivial ?_)
          refine AW.ret ?_
          have h := Option.some.inj h
          subst h
          exact ret_pure (hs := [slE eInt ([] : List Int), HV.int .i64 2]) (q := HV.tup [slE eInt ([] : List Int), HV.int .i64 2]) (.inr rfl) (resT rfl (resT rfl rfl)) rfl ⟨(clean_slE fun _ _ => ⟨trivial, trivial⟩), trivial, trivial⟩
        · have h := ifF (bF' hc) h
          refine AW.skip ?_
          refine AW.rgs rfl fun K hK => ?_
          refine b_op rfl (o_alloc (fid := 159) (zs := [HV.v (.slice none 0 0)]) 159009 rfl rfl ty42 rfl (fun v8 => ?_))
          refine b_nil (hK _ (AW.to (to_le (s' := ⟨[(1, slE eInt p1), (3, HV.fptr [HV.int .i64 p0.1, HV.int .i64 p0.2.1, slE eFromLabelTo p0.2.2] 0), (5, HV.fptr [HV.int .i64 p2] 0), (9, HV.ptr 159009 v8 0)], [(159009, v8, .arr 1 42 [HV.v (.slice none 0 0)])]⟩) (AS.le_of ⟨rfl, rfl, rfl, rfl, trivial⟩ ⟨rfl, trivial⟩) ?_)))
          clear hK K
          refine AW.seq ?_
          refine AW.rgs rfl fun K hK => ?_
          refine mv rfl rfl ?_
          refine bv rfl (v_lenF rfl rfl ty42 rfl) ?_
          refine mv rfl rfl ?_
          refine b_nil (hK _ (AW.to (to_le (s' := ⟨[(3, HV.fptr [HV.int .i64 p0.1, HV.int .i64 p0.2.1, slE eFromLabelTo p0.2.2] 0), (5, HV.fptr [HV.int .i64 p2] 0), (9, HV.ptr 159009 v8 0), (31, slE eInt p1), (32, HV.int .i64 ((p1).length : Int)), (33, HV.int .i64 0)], [(159009, v8, .arr 1 42 [HV.v (.slice none 0 0)])]⟩) (AS.le_of ⟨rfl, rfl, rfl, rfl, rfl, rfl, trivial⟩ ⟨rfl, trivial⟩) ?_)))
          clear hK K
          refine AW.lpX h (by first | exact up_then | exact up_to) (S := Int × (List Int)) (V := Nat) (fun a v => ⟨[(3, HV.fptr [HV.int .i64 p0.1, HV.int .i64 p0.2.1, slE eFromLabelTo p0.2.2] 0), (5, HV.fptr [HV.int .i64 p2] 0), (9, HV.ptr 159009 v8 0), (31, slE eInt p1), (32, HV.int .i64 ((p1).length : Int)), (33, HV.int .i64 a.1)], [(159009, v8, .arr 1 42 [HV.ar 159050 v eInt.k 0 ((a.2).length)]), (159050, v, .arr eInt.k 3 (eInt.E a.2))]⟩) ?_ (X := (List Int)) (W := Nat) (fun a v => ⟨[(9, HV.ptr 159009 v8 0)], [(159009, v8, .arr 1 42 [HV.ar 159050 v eInt.k 0 ((a).length)]), (159050, v, .arr eInt.k 3 (eInt.E a))]⟩) (fun a31 w32 h => ?_) (fun a9 w10 st11 h => ?_)
          · refine to_bind (to_ownC 159050 159009 v8 1 0 eInt.k 3 42 rfl rfl (by decide) fun v30 => ?_)
            exact to_le (s' := ⟨[(3, HV.fptr [HV.int .i64 p0.1, HV.int .i64 p0.2.1, slE eFromLabelTo p0.2.2] 0), (5, HV.fptr [HV.int .i64 p2] 0), (9, HV.ptr 159009 v8 0), (31, slE eInt p1), (32, HV.int .i64 ((p1).length : Int)), (33, HV.int .i64 0)], [(159009, v8, .arr 1 42 [HV.ar 159050 v30 eInt.k 0 ((([] : List Int)).length)]), (159050, v30, .arr eInt.k 3 (eInt.E ([] : List Int)))]⟩) (AS.le_of ⟨rfl, rfl, rfl, rfl, rfl, rfl, trivial⟩ ⟨hle rfl (by first | rfl | simp only [List.length_set, sortI_len, sortS_len]), rfl, trivial⟩) ⟨v30, rfl⟩
          · refine AW.rgs rfl fun K hK => ?_
            refine bv rfl (v_loadP ty42 rfl rfl (l_lit rfl rfl)) ?_
            obtain ⟨h33, h⟩ := ifN h
            refine b_op rfl (o_sortI c_sortI (l := a31) rfl rfl rfl rfl h33 ?_)
            refine b_nil (hK _ (AW.to (to_le (s' := ⟨[(9, HV.ptr 159009 v8 0)], [(159009, v8, .arr 1 42 [HV.ar 159050 w32 eInt.k 0 ((sortI a31).length)]), (159050, w32, .arr eInt.k 3 (eInt.E (sortI a31)))]⟩) (AS.le_of ⟨rfl, trivial⟩ ⟨hle rfl (by first | rfl | simp only [List.length_set, sortI_len, sortS_len]), rfl, trivial⟩) ?_)))
            clear hK K
            refine AW.rgs rfl fun K hK => ?_
            refine bv rfl (v_loadP ty42 rfl rfl (l_lit rfl rfl)) ?_
            refine b_op rfl (o_callK (q := slE eInt (compact_ (sortI a31))) [(159009, v8, .arr 1 42 [HV.ar 159050 w32 eInt.k 0 ((sortI a31).length)])] rfl rfl rfl rfl (fun K hK => c_compactI (H' := [(159009, v8, .arr 1 42 [HV.ar 159050 w32 eInt.k 0 ((sortI a31).length)])]) (l := sortI a31) rfl rfl (leH_get ⟨rfl, trivial⟩) rfl hK) ?_)
            refine mv rfl rfl ?_
            refine mv rfl rfl ?_
            refine b_nil (hK _ (AW.to (to_le (s' := ⟨[(6, slE eInt (compact_ (sortI a31))), (7, HV.int .i64 0)], []⟩) (AS.le_of ⟨rfl, rfl, trivial⟩ trivial) ?_)))
            clear hK K
            refine AW.ret ?_
            have h := Option.some.inj h
            subst h
            exact ret_pure (hs := [slE eInt (compact_ (sortI a31)), HV.int .i64 0]) (q := HV.tup [slE eInt (compact_ (sortI a31)), HV.int .i64 0]) (.inr rfl) (resT rfl (resT rfl rfl)) rfl ⟨(clean_slE fun _ _ => ⟨trivial, trivial⟩), trivial, trivial⟩
          · refine AW.rgs rfl fun K hK => ?_
            refine bv rfl (v_bin rfl rfl b_lss) ?_
            refine b_nil (hK _ (AW.to (to_le (s' := ⟨[(3, HV.fptr [HV.int .i64 p0.1, HV.int .i64 p0.2.1, slE eFromLabelTo p0.2.2] 0), (5, HV.fptr [HV.int .i64 p2] 0), (9, HV.ptr 159009 v8 0), (31, slE eInt p1), (32, HV.int .i64 ((p1).length : Int)), (33, HV.int .i64 a9.1), (34, HV.bool (decide (a9.1 < ((p1).length : Int))))], [(159009, v8, .arr 1 42 [HV.ar 159050 w10 eInt.k 0 ((a9.2).length)]), (159050, w10, .arr eInt.k 3 (eInt.E a9.2))]⟩) (AS.le_of ⟨rfl, rfl, rfl, rfl, rfl, rfl, rfl, trivial⟩ ⟨rfl, rfl, trivial⟩) ?_)))
            clear hK K
            refine AW.cseq rfl (fun hc => ?_) (fun hc => ?_)
            · have hc := of_decide_eq_true hc
              have h := ifT hc h
              refine AW.skip ?_
              refine AW.seq (AW.block ?_)
              refine AW.rgs rfl fun K hK => ?_
              obtain ⟨x13, h14, h⟩ := bS h
              refine bv rfl (v_idxF ty42 es42 rfl rfl (idx_lt h14)) ?_
              refine bv rfl (v_loadF ty3 rfl (l_cell eInt h14 (o := 0) rfl rfl)) ?_
              refine mv rfl rfl ?_
              refine b_nil (hK _ (AW.to (to_le (s' := ⟨[(3, HV.fptr [HV.int .i64 p0.1, HV.int .i64 p0.2.1, slE eFromLabelTo p0.2.2] 0), (5, HV.fptr [HV.int .i64 p2] 0), (9, HV.ptr 159009 v8 0), (11, HV.int .i64 x13), (31, slE eInt p1), (32, HV.int .i64 ((p1).length : Int)), (33, HV.int .i64 a9.1)], [(159009, v8, .arr 1 42 [HV.ar 159050 w10 eInt.k 0 ((a9.2).length)]), (159050, w10, .arr eInt.k 3 (eInt.E a9.2))]⟩) (AS.le_of ⟨rfl, rfl, rfl, rfl, rfl, rfl, rfl, trivial⟩ ⟨rfl, rfl, trivial⟩) ?_)))
              clear hK K
              refine AW.rgs rfl fun K hK => ?_
              refine bv rfl (v_loadF ty24 rfl (l_litA rfl (Nat.le_of_ble_eq_true rfl) rfl)) ?_
              refine mv rfl rfl ?_
              refine b_op rfl (o_call rfl rfl rfl rfl (ACallD.pure0 (w_graph_leaving p0 x13)) ?_)
              refine b_nil (hK _ (AW.to (to_le (s' := ⟨[(3, HV.fptr [HV.int .i64 p0.1, HV.int .i64 p0.2.1, slE eFromLabelTo p0.2.2] 0), (5, HV.fptr [HV.int .i64 p2] 0), (9, HV.ptr 159009 v8 0), (31, slE eInt p1), (32, HV.int .i64 ((p1).length : Int)), (33, HV.int .i64 a9.1), (39, HV.fn (.func 186) [] [HV.fptr [HV.int .i64 p0.1, HV.int .i64 p0.2.1, slE eFromLabelTo p0.2.2] 0, HV.fptr [HV.int .i64 x13] 0])], [(159009, v8, .arr 1 42 [HV.ar 159050 w10 eInt.k 0 ((a9.2).length)]), (159050, w10, .arr eInt.k 3 (eInt.E a9.2))]⟩) (AS.le_of ⟨rfl, rfl, rfl, rfl, rfl, rfl, rfl, trivial⟩ ⟨rfl, rfl, trivial⟩) ?_)))
              clear hK K
              refine AW.block ?_
              refine AW.to (to_le (s' := ⟨[(3, HV.fptr [HV.int .i64 p0.1, HV.int .i64 p0.2.1, slE eFromLabelTo p0.2.2] 0), (5, HV.fptr [HV.int .i64 p2] 0), (9, HV.ptr 159009 v8 0), (31, slE eInt p1), (32, HV.int .i64 ((p1).length : Int)), (33, HV.int .i64 a9.1), (39, HV.fn (.func 186) [] [HV.fptr [HV.int .i64 p0.1, HV.int .i64 p0.2.1, slE eFromLabelTo p0.2.2] 0, HV.fptr [HV.int .i64 x13] 0])], [(159009, v8, .arr 1 42 [HV.ar 159050 w10 eInt.k 0 ((a9.2).length)]), (159050, w10, .arr eInt.k 3 (eInt.E a9.2))]⟩) (AS.le_of ⟨rfl, rfl, rfl, rfl, rfl, rfl, rfl, trivial⟩ ⟨rfl, rfl, trivial⟩) ?_)
              obtain ⟨L15, h16, h⟩ := bS h
              refine AW.rangeY (c := .ret) 159915 (fun x => [HV.int .i64 x.1, HV.agg [HV.int .i64 x.2.1, HV.int .i64 x.2.2.1, HV.int .i64 x.2.2.2]]) h (by first | exact up_then | exact up_to) rfl (iy_graph_leaving h16) (S := (List Int)) (V := Nat) (fun a v => [(159009, v8, .arr 1 42 [HV.ar 159050 v eInt.k 0 ((a).length)]), (159050, v, .arr eInt.k 3 (eInt.E a))]) w10 (X := Unit) (W := Unit) (fun _ _ => []) (fun _ _ => rfl) (fun _ _ => rfl) rfl (fun _ => rfl) (fun a26 w27 h => ?_) (fun a28 w29 h => ?_) (fun Lo l22 v20 a17 x19 w18 st21 h => ?_)
              · refine AW.rg rfl fun K hK => ?_
                refine bv rfl (v_bin rfl rfl b_add) ?_
                refine mv rfl rfl ?_
                refine b_nil (hK _ ?_)
                clear hK K
                exact to_le (s' := ⟨[(3, HV.fptr [HV.int .i64 p0.1, HV.int .i64 p0.2.1, slE eFromLabelTo p0.2.2] 0), (5, HV.fptr [HV.int .i64 p2] 0), (9, HV.ptr 159009 v8 0), (31, slE eInt p1), (32, HV.int .i64 ((p1).length : Int)), (33, HV.int .i64 (IntKind.wrap .i64 (a9.1 + 1)))], [(159009, v8, .arr 1 42 [HV.ar 159050 w27 eInt.k 0 ((a26).length)]), (159050, w27, .arr eInt.k 3 (eInt.E a26))]⟩) (AS.le_of ⟨rfl, rfl, rfl, rfl, rfl, rfl, trivial⟩ ⟨rfl, rfl, trivial⟩) ⟨(IntKind.wrap .i64 (a9.1 + 1), a26), w27, h, rfl⟩
              · cases h
              · refine AW.rg rfl fun K hK => ?_
                refine b_op rfl (o_alloc (fid := 159) (zs := [HV.int .i64 0, HV.int .i64 0, HV.int .i64 0]) 159013 rfl rfl ty66 rfl (fun v23 => ?_))
                refine b_op rfl (o_store (cs := [HV.int .i64 x19.2.1, HV.int .i64 x19.2.2.1, HV.int .i64 x19.2.2.2]) (zs := [HV.int .i64 x19.2.1, HV.int .i64 x19.2.2.1, HV.int .i64 x19.2.2.2]) rfl rfl rfl ty66 rfl rfl rfl rfl rfl ?_)
                refine b_nil (hK _ ?_)
                clear hK K
                refine ⟨rfl, rfl, ?_⟩
                refine AW.block ?_
                refine AW.rgs rfl fun K hK => ?_
                refine bv rfl (v_fieldAddrP fo66_1 rfl rfl) ?_
                refine bv rfl (v_loadP ty3 rfl rfl (l_lit rfl rfl)) ?_
                refine bv rfl (v_loadF ty3 rfl (l_lit rfl rfl)) ?_
                refine bv rfl (v_bin rfl rfl b_eql) ?_
                refine b_nil (hK _ (AW.to (to_le (s' := ⟨[(3, HV.fptr [HV.int .i64 p0.1, HV.int .i64 p0.2.1, slE eFromLabelTo p0.2.2] 0), (5, HV.fptr [HV.int .i64 p2] 0), (9, HV.ptr 159009 v8 0), (13, HV.ptr 159013 v23 0), (31, slE eInt p1), (32, HV.int .i64 ((p1).length : Int)), (33, HV.int .i64 a9.1), (41, HV.agg [HV.int .i64 x19.2.1, HV.int .i64 x19.2.2.1, HV.int .i64 x19.2.2.2]), (45, HV.bool (decide (x19.2.2.1 = p2)))], [(159915, v20, Lo .busy none), (159009, v8, .arr 1 42 [HV.ar 159050 w18 eInt.k 0 ((a17).length)]), (159050, w18, .arr eInt.k 3 (eInt.E a17)), (159013, v23, .arr 3 66 [HV.int .i64 x19.2.1, HV.int .i64 x19.2.2.1, HV.int .i64 x19.2.2.2])]⟩) (AS.le_of ⟨rfl, rfl, rfl, rfl, rfl, rfl, rfl, rfl, rfl, trivial⟩ ⟨rfl, rfl, rfl, rfl, trivial⟩) ?_)))
                clear hK K
                refine AW.cond rfl (fun hc => ?_) (fun hc => ?_)
                · have hc := of_decide_eq_true hc
                  have h := ifT hc h
                  refine AW.rg rfl fun K hK => ?_
                  refine bv rfl (v_loadP ty42 rfl rfl (l_lit rfl rfl)) ?_
                  refine bv rfl (v_fieldAddrP fo66_2 rfl rfl) ?_
                  refine bv rfl (v_loadP ty3 rfl rfl (l_lit rfl rfl)) ?_
                  refine b_op rfl (o_bsl rfl rfl (as_of (cs := [HV.int .i64 x19.2.2.2]) ty42 ty3 rfl rfl rfl rfl rfl) ?_)
                  obtain ⟨h25, h⟩ := ifN h
                  refine b_op rfl (o_appE eInt (l := a17) (m := [x19.2.2.2]) rfl rfl ty42 ty42 ty3 rfl rfl rfl rfl rfl h25 (fun v24 => ?_))
                  refine b_op rfl (o_store (cs := [HV.ar 159050 v24 eInt.k 0 ((a17 ++ [x19.2.2.2]).length)]) (zs := [HV.ar 159050 v24 eInt.k 0 ((a17 ++ [x19.2.2.2]).length)]) rfl rfl rfl ty42 rfl rfl rfl rfl rfl ?_)
                  refine b_nil (hK _ ?_)
                  clear hK K
                  exact ⟨a17 ++ [x19.2.2.2], v24, h, (AS.le_of trivial ⟨rfl, rfl, rfl, trivial⟩)⟩
                · have hc := of_decide_eq_false hc
                  have h := ifF hc h
                  refine AW.skip ?_
                  exact ⟨a17, w18, h, (AS.le_of trivial ⟨rfl, rfl, rfl, trivial⟩)⟩
            · have hc := of_decide_eq_false hc
              have h := ifF hc h
              refine AW.exit ?_
              exact to_le (s' := ⟨[(9, HV.ptr 159009 v8 0)], [(159009, v8, .arr 1 42 [HV.ar 159050 w10 eInt.k 0 ((a9.2).length)]), (159050, w10, .arr eInt.k 3 (eInt.E a9.2))]⟩) (AS.le_of ⟨rfl, trivial⟩ ⟨rfl, rfl, trivial⟩) ⟨a9.2, w10, h, rfl⟩
      · refine AW.rg rfl fun K hK => ?_
        refine bv rfl (v_loadF ty3 rfl (l_lit rfl rfl)) ?_
        refine bv rfl (v_bin rfl rfl b_lss) ?_
        refine mv rfl rfl ?_
        by_cases hg34 : p2 < 0
        · have h := ifT hg34 h
          refine b_F rfl rfl rfl rfl rfl (decide_eq_true hg34) ?_
          refine b_F rfl rfl rfl rfl rfl rfl ?_
          refine b_F rfl rfl rfl rfl rfl rfl ?_
          refine b_F rfl rfl rfl rfl rfl rfl ?_
          refine bv rfl (v_pickT rfl rfl rfl) ?_
          refine b_nil (hK _ ?_)
          clear hK K
          exact to_le (s' := ⟨[(1, slE eInt p1), (3, HV.fptr [HV.int .i64 p0.1, HV.int .i64 p0.2.1, slE eFromLabelTo p0.2.2] 0), (5, HV.fptr [HV.int .i64 p2] 0), (30, HV.bool true)], []⟩) (AS.le_of ⟨rfl, rfl, rfl, rfl, trivial⟩ trivial) ⟨true, (), h, rfl⟩
        · have h := ifF hg34 h
          refine b_T rfl rfl rfl rfl (decide_eq_false hg34) (o_val rfl (v_loadF ty3 rfl (l_lit rfl rfl)) ?_)
          refine b_T rfl rfl rfl rfl rfl (o_val rfl (v_fieldAddrF fo24_0 rfl) ?_)
          refine b_T rfl rfl rfl rfl rfl (o_val rfl (v_loadF ty3 rfl (l_lit rfl rfl)) ?_)
          refine b_T rfl rfl rfl rfl rfl (o_val rfl (v_bin rfl rfl b_geq) ?_)
          refine bv rfl (v_pickF rfl rfl rfl) ?_
          refine b_nil (hK _ ?_)
          clear hK K
          exact to_le (s' := ⟨[(1, slE eInt p1), (3, HV.fptr [HV.int .i64 p0.1, HV.int .i64 p0.2.1, slE eFromLabelTo p0.2.2] 0), (5, HV.fptr [HV.int .i64 p2] 0), (30, HV.bool (decide (p0.1 ≤ p2)))], []⟩) (AS.le_of ⟨rfl, rfl, rfl, rfl, trivial⟩ trivial) ⟨decide (p0.1 ≤ p2), (), h, rfl⟩

set_option maxHeartbeats 1600000 in
set_option maxRecDepth 100000 in
theorem w_language_step {p0 : TLabelsStatesEdges} {p1 : List (Int)} {p2 : Int} {r : (List (Int))} (h : m_language_step p0 p1 p2 = some r) : Pure Try.prog 125 [HV.agg [HV.int .i64 p0.1, HV.int .i64 p0.2.1, slE eFromLabelTo p0.2.2], slE eInt p1, HV.int .u8 p2] (· = slE eInt r) := by
  unfold m_language_step at h
  refine Pure.of_body Try.func125 rfl rfl (Nat.le_of_ble_eq_true rfl) fun hf => ?_
  unfold Try.f125
  dsimp only [enumS, Nat.reduceAdd]
  refine AW.rgs rfl fun K hK => ?_
  refine b_op rfl (o_box rfl rfl rfl ?_)
  refine mv rfl rfl ?_
  refine b_nil (hK _ (AW.to (to_le (s' := ⟨[(1, slE eInt p1), (2, HV.int .u8 p2), (3, HV.fptr [HV.int .i64 p0.1, HV.int .i64 p0.2.1, slE eFromLabelTo p0.2.2] 0)], []⟩) (AS.le_of ⟨rfl, rfl, rfl, trivial⟩ trivial) ?_)))
  clear hK K
  refine AW.dgs 10 follows rfl rfl fun K hK => ?_
  refine sv rfl (v_loadF ty24 rfl (l_litA rfl (Nat.le_of_ble_eq_true rfl) rfl)) ?_
  refine sm rfl rfl ?_
  refine sm rfl rfl ?_
  obtain ⟨x1, h2, h⟩ := bS h
  refine s_op rfl rfl (ops_call rfl rfl rfl rfl (ACallD.pure0 (w_strings_IndexByte h2)) ?_)
  obtain ⟨x3, h4, h⟩ := bS h
  refine s_op rfl rfl (ops_call rfl rfl rfl rfl (ACallD.pure0 (w_graph_Step h4)) ?_)
  refine sm rfl rfl ?_
  refine sv rfl (v_extract rfl rfl) ?_
  refine sv rfl (v_extract rfl rfl) ?_
  refine sm rfl rfl ?_
  refine sm rfl rfl ?_
  refine s_nil ?_
  refine b_nil (hK _ (AW.to (to_le (s' := ⟨[(7, slE eInt x3.1)], []⟩) (AS.le_of ⟨rfl, trivial⟩ trivial) ?_)))
  clear hK K
  refine AW.rgs rfl fun K hK => ?_
  refine mv rfl rfl ?_
  refine mv rfl rfl ?_
  refine b_nil (hK _ (AW.to (to_le (s' := ⟨[(6, slE eInt x3.1)], []⟩) (AS.le_of ⟨rfl, trivial⟩ trivial) ?_)))
  clear hK K
  refine AW.ret ?_
  have h := Option.some.inj h
  subst h
  exact ret_pure (hs := [slE eInt x3.1]) (q := slE eInt x3.1) (.inr rfl) (resT rfl rfl) rfl (clean_slE fun _ _ => ⟨trivial, trivial⟩)

set_option maxHeartbeats 1600000 in
set_option maxRecDepth 100000 in
theorem w_language_states {p0 : TLabelsStatesEdges} {r : (List (Int))} (h : m_language_states p0 = some r) : Pure Try.prog 80 [HV.agg [HV.int .i64 p0.1, HV.int .i64 p0.2.1, slE eFromLabelTo p0.2.2]] (· = slE eInt r) := by
  unfold m_language_states at h
  refine Pure.of_body Try.func80 rfl rfl (Nat.le_of_ble_eq_true rfl) fun hf => ?_
  unfold Try.f80
  dsimp only [enumS, Nat.reduceAdd]
  refine AW.rgs rfl fun K hK => ?_
  refine b_op rfl (o_box rfl rfl rfl ?_)
  refine mv rfl rfl ?_
  refine b_nil (hK _ (AW.to (to_le (s' := ⟨[(1, HV.fptr [HV.int .i64 p0.1, HV.int .i64 p0.2.1, slE eFromLabelTo p0.2.2] 0)], []⟩) (AS.le_of ⟨rfl, trivial⟩ trivial) ?_)))
  clear hK K
  refine AW.rgs rfl fun K hK => ?_
  refine bv rfl (v_fieldAddrF fo24_1 rfl) ?_
  refine bv rfl (v_loadF ty3 rfl (l_lit rfl rfl)) ?_
  obtain ⟨h2, h⟩ := ifN h
  refine b_op rfl (o_makeE (fid := 80) eInt (0 : Int) 80007 rfl rfl ty42 rfl rfl ty3 rfl rfl h2 (fun v1 => ?_))
  refine mv rfl rfl ?_
  refine b_nil (hK _ (AW.to (to_le (s' := ⟨[(3, HV.ar 80007 v1 eInt.k 0 ((List.replicate (p0.2.1).toNat (0 : Int)).length))], [(80007, v1, .arr eInt.k 3 (eInt.E (List.replicate (p0.2.1).toNat (0 : Int))))]⟩) (AS.le_of ⟨rfl, trivial⟩ ⟨rfl, trivial⟩) ?_)))
  clear hK K
  refine AW.seq ?_
  refine AW.rgs rfl fun K hK => ?_
  refine mv rfl rfl ?_
  refine bv rfl (v_lenA rfl rfl ty42 rfl rfl) ?_
  refine mv rfl rfl ?_
  refine b_nil (hK _ (AW.to (to_le (s' := ⟨[(3, HV.ar 80007 v1 eInt.k 0 ((List.replicate (p0.2.1).toNat (0 : Int)).length)), (9, HV.int .i64 (((List.replicate (p0.2.1).toNat (0 : Int)).length : Nat) : Int)), (10, HV.int .i64 0)], [(80007, v1, .arr eInt.k 3 (eInt.E (List.replicate (p0.2.1).toNat (0 : Int))))]⟩) (AS.le_of ⟨rfl, rfl, rfl, trivial⟩ ⟨rfl, trivial⟩) ?_)))
  clear hK K
  refine AW.lpX h (by first | exact up_then | exact up_to) (S := Int × (List Int)) (V := Unit) (fun a v => ⟨[(3, HV.ar 80007 v1 eInt.k 0 ((a.2).length)), (9, HV.int .i64 (((List.replicate (p0.2.1).toNat (0 : Int)).length : Nat) : Int)), (10, HV.int .i64 a.1)], [(80007, v1, .arr eInt.k 3 (eInt.E a.2))]⟩) ?_ (X := (List Int)) (W := Unit) (fun a v => ⟨[(3, HV.ar 80007 v1 eInt.k 0 ((a).length))], [(80007, v1, .arr eInt.k 3 (eInt.E a))]⟩) (fun a9 w10 h => ?_) (fun a3 w4 st5 h => ?_)
  · exact to_le (s' := ⟨[(3, HV.ar 80007 v1 eInt.k 0 ((List.replicate (p0.2.1).toNat (0 : Int)).length)), (9, HV.int .i64 (((List.replicate (p0.2.1).toNat (0 : Int)).length : Nat) : Int)), (10, HV.int .i64 0)], [(80007, v1, .arr eInt.k 3 (eInt.E (List.replicate (p0.2.1).toNat (0 : Int))))]⟩) (AS.le_of ⟨rfl, rfl, rfl, trivial⟩ ⟨rfl, trivial⟩) ⟨(), rfl⟩
  · refine AW.rgs rfl fun K hK => ?_
    refine mv rfl rfl ?_
    refine mv rfl rfl ?_
    refine b_nil (hK _ (AW.to (to_le (s' := ⟨[(2, HV.ar 80007 v1 eInt.k 0 ((a9).length))], [(80007, v1, .arr eInt.k 3 (eInt.E a9))]⟩) (AS.le_of ⟨rfl, trivial⟩ ⟨rfl, trivial⟩) ?_)))
    clear hK K
    refine AW.to (to_frz 2 [(80007, v1, .arr eInt.k 3 (eInt.E a9))] ⟨[(2, slE eInt a9)], []⟩ ⟨⟨_, rfl, frz_slE eInt (l := a9) rfl fun _ _ => rfl⟩, trivial⟩ trivial ⟨rfl, trivial⟩ ⟨rfl, trivial⟩ ?_)
    refine AW.ret ?_
    have h := Option.some.inj h
    subst h
    exact ret_pure (hs := [slE eInt a9]) (q := slE eInt a9) (.inr rfl) (resT rfl rfl) rfl (clean_slE fun _ _ => ⟨trivial, trivial⟩)
  · refine AW.rgs rfl fun K hK => ?_
    refine bv rfl (v_bin rfl rfl b_lss) ?_
    refine b_nil (hK _ (AW.to (to_le (s' := ⟨[(3, HV.ar 80007 v1 eInt.k 0 ((a3.2).length)), (9, HV.int .i64 (((List.replicate (p0.2.1).toNat (0 : Int)).length : Nat) : Int)), (10, HV.int .i64 a3.1), (11, HV.bool (decide (a3.1 < (((List.replicate (p0.2.1).toNat (0 : Int)).length : Nat) : Int))))], [(80007, v1, .arr eInt.k 3 (eInt.E a3.2))]⟩) (AS.le_of ⟨rfl, rfl, rfl, rfl, trivial⟩ ⟨rfl, trivial⟩) ?_)))
    clear hK K
    refine AW.cseq rfl (fun hc => ?_) (fun hc => ?_)
    · have hc := of_decide_eq_true hc
      have h := ifT hc h
      refine AW.skip ?_
      refine AW.seq (AW.block ?_)
      refine AW.rgs rfl fun K hK => ?_
      refine mv rfl rfl ?_
      refine mv rfl rfl ?_
      refine b_nil (hK _ (AW.to (to_le (s' := ⟨[(3, HV.ar 80007 v1 eInt.k 0 ((a3.2).length)), (4, HV.int .i64 a3.1), (9, HV.int .i64 (((List.replicate (p0.2.1).toNat (0 : Int)).length : Nat) : Int)), (10, HV.int .i64 a3.1)], [(80007, v1, .arr eInt.k 3 (eInt.E a3.2))]⟩) (AS.le_of ⟨rfl, rfl, rfl, rfl, trivial⟩ ⟨rfl, trivial⟩) ?_)))
      clear hK K
      refine AW.rg rfl fun K hK => ?_
      refine mv rfl rfl ?_
      refine mv rfl rfl ?_
      refine mv rfl rfl ?_
      obtain ⟨x7, h8, h⟩ := bS h
      refine bv rfl (v_idxA ty42 es42 rfl rfl (idx_lt h8) rfl) ?_
      refine b_op rfl (o_storeE eInt (l := a3.2) (j := a3.1) (v := a3.1) rfl rfl rfl ty3 rfl rfl rfl (idx_lt h8) ?_)
      refine b_nil (hK _ (AW.to (to_le (s' := ⟨[(3, HV.ar 80007 v1 eInt.k 0 (((a3.2).set (a3.1).toNat a3.1).length)), (9, HV.int .i64 (((List.replicate (p0.2.1).toNat (0 : Int)).length : Nat) : Int)), (10, HV.int .i64 a3.1)], [(80007, v1, .arr eInt.k 3 (eInt.E ((a3.2).set (a3.1).toNat a3.1)))]⟩) (AS.le_of ⟨arl (by first | rfl | simp only [List.length_set, sortI_len, sortS_len]), rfl, rfl, trivial⟩ ⟨rfl, trivial⟩) ?_)))
      clear hK K
      refine AW.rg rfl fun K hK => ?_
      refine bv rfl (v_bin rfl rfl b_add) ?_
      refine mv rfl rfl ?_
      refine b_nil (hK _ ?_)
      clear hK K
      exact to_le (s' := ⟨[(3, HV.ar 80007 v1 eInt.k 0 (((a3.2).set (a3.1).toNat a3.1).length)), (9, HV.int .i64 (((List.replicate (p0.2.1).toNat (0 : Int)).length : Nat) : Int)), (10, HV.int .i64 (IntKind.wrap .i64 (a3.1 + 1)))], [(80007, v1, .arr eInt.k 3 (eInt.E ((a3.2).set (a3.1).toNat a3.1)))]⟩) (AS.le_of ⟨rfl, rfl, rfl, trivial⟩ ⟨rfl, trivial⟩) ⟨(IntKind.wrap .i64 (a3.1 + 1), (a3.2).set (a3.1).toNat a3.1), (), h, rfl⟩
    · have hc := of_decide_eq_false hc
      have h := ifF hc h
      refine AW.exit ?_
      exact to_le (s' := ⟨[(3, HV.ar 80007 v1 eInt.k 0 ((a3.2).length))], [(80007, v1, .arr eInt.k 3 (eInt.E a3.2))]⟩) (AS.le_of ⟨rfl, trivial⟩ ⟨rfl, trivial⟩) ⟨a3.2, (), h, rfl⟩

set_option maxHeartbeats 1600000 in
set_option maxRecDepth 100000 in
theorem w_language_check {p0 : TLabelsStatesEdges} {r : Int} (h : m_language_check p0 = some r) : Pure Try.prog 124 [HV.agg [HV.int .i64 p0.1, HV.int .i64 p0.2.1, slE eFromLabelTo p0.2.2]] (· = HV.int .i64 r) := by
  unfold m_language_check at h
  refine Pure.of_body Try.func124 rfl rfl (Nat.le_of_ble_eq_true rfl) fun hf => ?_
  unfold Try.f124
  dsimp only [enumS, Nat.reduceAdd]
  refine AW.rgs rfl fun K hK => ?_
  refine b_op rfl (o_box rfl rfl rfl ?_)
  refine mv rfl rfl ?_
  refine b_nil (hK _ (AW.to (to_le (s' := ⟨[(1, HV.fptr [HV.int .i64 p0.1, HV.int .i64 p0.2.1, slE eFromLabelTo p0.2.2] 0)], []⟩) (AS.le_of ⟨rfl, trivial⟩ trivial) ?_)))
  clear hK K
  refine AW.seq (AW.block ?_)
  refine AW.rgs rfl fun K hK => ?_
  refine bv rfl (v_loadF ty24 rfl (l_litA rfl (Nat.le_of_ble_eq_true rfl) rfl)) ?_
  obtain ⟨x1, h2, h⟩ := bS h
  refine b_op rfl (o_call rfl rfl rfl rfl (ACallD.pure0 (w_graph_Check h2)) ?_)
  refine bv rfl (v_bin rfl rfl b_neq) ?_
  refine mv rfl rfl ?_
  refine b_nil (hK _ (AW.to (to_le (s' := ⟨[(1, HV.fptr [HV.int .i64 p0.1, HV.int .i64 p0.2.1, slE eFromLabelTo p0.2.2] 0), (3, HV.bool (decide (x1 ≠ 0)))], []⟩) (AS.le_of ⟨rfl, rfl, trivial⟩ trivial) ?_)))
  clear hK K
  refine AW.cond rfl (fun hc => ?_) (fun hc => ?_)
  · have hc := of_decide_eq_true hc
    have h := ifT hc h
    refine AW.rgs rfl fun K hK => ?_
    refine mv rfl rfl ?_
    refine b_nil (hK _ (AW.to (to_le (s' := ⟨[(2, HV.int .i64 1)], []⟩) (AS.le_of ⟨rfl, trivial⟩ trivial) ?_)))
    clear hK K
    refine AW.ret ?_
    have h := Option.some.inj h
    subst h
    exact ret_pure (hs := [HV.int .i64 1]) (q := HV.int .i64 1) (.inr rfl) (resT rfl rfl) rfl trivial
  · have hc := of_decide_eq_false hc
    have h := ifF hc h
    refine AW.rgs rfl fun K hK => ?_
    refine bv rfl (v_fieldAddrF fo24_0 rfl) ?_
    refine bv rfl (v_loadF ty3 rfl (l_lit rfl rfl)) ?_
    refine bv rfl (v_bin rfl rfl b_gtr) ?_
    refine mv rfl rfl ?_
    refine b_nil (hK _ (AW.to (to_le (s' := ⟨[(7, HV.bool (decide (16 < p0.1)))], []⟩) (AS.le_of ⟨rfl, trivial⟩ trivial) ?_)))
    clear hK K
    refine AW.cond rfl (fun hc => ?_) (fun hc => ?_)
    · have hc := of_decide_eq_true hc
      have h := ifT hc h
      refine AW.rgs rfl fun K hK => ?_
      refine mv rfl rfl ?_
      refine b_nil (hK _ (AW.to (to_le (s' := ⟨[(2, HV.int .i64 12)], []⟩) (AS.le_of ⟨rfl, trivial⟩ trivial) ?_)))
      clear hK K
      refine AW.ret ?_
      have h := Option.some.inj h
      subst h
      exact ret_pure (hs := [HV.int .i64 12]) (q := HV.int .i64 12) (.inr rfl) (resT rfl rfl) rfl trivial
    · have hc := of_decide_eq_false hc
      have h := ifF hc h
      refine AW.skip ?_
      refine AW.rgs rfl fun K hK => ?_
      refine mv rfl rfl ?_
      refine b_nil (hK _ (AW.to (to_le (s' := ⟨[(2, HV.int .i64 0)], []⟩) (AS.le_of ⟨rfl, trivial⟩ trivial) ?_)))
      clear hK K
      refine AW.ret ?_
      have h := Option.some.inj h
      subst h
      exact ret_pure (hs := [HV.int .i64 0]) (q := HV.int .i64 0) (.inr rfl) (resT rfl rfl) rfl trivial

set_option maxHeartbeats 1600000 in
set_option maxRecDepth 100000 in
theorem w_language_lengths {p0 : TLabelsStatesEdges} {p1 : Int} {r : Int} (h : m_language_lengths p0 p1 = some r) : Pure Try.prog 78 [HV.agg [HV.int .i64 p0.1, HV.int .i64 p0.2.1, slE eFromLabelTo p0.2.2], HV.int .i64 p1] (· = HV.int .i64 r) := by
  unfold m_language_lengths at h
  refine Pure.of_body Try.func78 rfl rfl (Nat.le_of_ble_eq_true rfl) fun hf => ?_
  unfold Try.f78
  dsimp only [enumS, Nat.reduceAdd]
  refine AW.rgs rfl fun K hK => ?_
  refine b_op rfl (o_box rfl rfl rfl ?_)
  refine mv rfl rfl ?_
  refine b_nil (hK _ (AW.to (to_le (s' := ⟨[(1, HV.int .i64 p1), (2, HV.fptr [HV.int .i64 p0.1, HV.int .i64 p0.2.1, slE eFromLabelTo p0.2.2] 0)], []⟩) (AS.le_of ⟨rfl, rfl, trivial⟩ trivial) ?_)))
  clear hK K
  refine AW.seq ?_
  refine AW.rgs rfl fun K hK => ?_
  refine bv rfl (v_loadF ty24 rfl (l_litA rfl (Nat.le_of_ble_eq_true rfl) rfl)) ?_
  obtain ⟨x1, h2, h⟩ := bS h
  refine b_op rfl (o_call rfl rfl rfl rfl (ACallD.pure0 (w_language_check h2)) ?_)
  refine mv rfl rfl ?_
  refine b_nil (hK _ (AW.to (to_le (s' := ⟨[(1, HV.int .i64 p1), (5, HV.int .i64 x1)], []⟩) (AS.le_of ⟨rfl, rfl, trivial⟩ trivial) ?_)))
  clear hK K
  refine AW.rgs rfl fun K hK => ?_
  refine mv rfl rfl ?_
  refine bv rfl (v_bin rfl rfl b_neq) ?_
  refine b_nil (hK _ (AW.to (to_le (s' := ⟨[(1, HV.int .i64 p1), (5, HV.int .i64 x1), (9, HV.bool (decide (x1 ≠ 0)))], []⟩) (AS.le_of ⟨rfl, rfl, rfl, trivial⟩ trivial) ?_)))
  clear hK K
  refine AW.cond rfl (fun hc => ?_) (fun hc => ?_)
  · have hc := of_decide_eq_true hc
    have h := ifT hc h
    refine AW.rgs rfl fun K hK => ?_
    refine mv rfl rfl ?_
    refine mv rfl rfl ?_
    refine b_nil (hK _ (AW.to (to_le (s' := ⟨[(4, HV.int .i64 x1)], []⟩) (AS.le_of ⟨rfl, trivial⟩ trivial) ?_)))
    clear hK K
    refine AW.ret ?_
    have h := Option.some.inj h
    subst h
    exact ret_pure (hs := [HV.int .i64 x1]) (q := HV.int .i64 x1) (.inr rfl) (resT rfl rfl) rfl trivial
  · have hc := of_decide_eq_false hc
    have h := ifF hc h
    refine AW.skip ?_
    refine AW.seq ?_
    refine AW.seqJ h (S := Bool) (V := Unit) (fun a v => ⟨[(16, HV.bool a)], []⟩) (fun a3 w4 h => ?_) (fun k5 h => ?_)
    · refine AW.cond rfl (fun hc => ?_) (fun hc => ?_)
      · have h := ifT hc h
        refine AW.rgs rfl fun K hK => ?_
        refine mv rfl rfl ?_
        refine b_nil (hK _ (AW.to (to_le (s' := ⟨[(4, HV.int .i64 2)], []⟩) (AS.le_of ⟨rfl, trivial⟩ trivial) ?_)))
        clear hK K
        refine AW.ret ?_
        have h := Option.some.inj h
        subst h
        exact ret_pure (hs := [HV.int .i64 2]) (q := HV.int .i64 2) (.inr rfl) (resT rfl rfl) rfl trivial
      · have h := ifF (bF' hc) h
        refine AW.skip ?_
        refine AW.rgs rfl fun K hK => ?_
        refine mv rfl rfl ?_
        refine b_nil (hK _ (AW.to (to_le (s' := ⟨[(4, HV.int .i64 0)], []⟩) (AS.le_of ⟨rfl, trivial⟩ trivial) ?_)))
        clear hK K
        refine AW.ret ?_
        have h := Option.some.inj h
        subst h
        exact ret_pure (hs := [HV.int .i64 0]) (q := HV.int .i64 0) (.inr rfl) (resT rfl rfl) rfl trivial
    · refine AW.rg rfl fun K hK => ?_
      refine mv rfl rfl ?_
      refine bv rfl (v_bin rfl rfl b_lss) ?_
      refine mv rfl rfl ?_
      by_cases hg6 : p1 < 0
      · have h := ifT hg6 h
        refine b_F rfl rfl rfl rfl rfl (decide_eq_true hg6) ?_
        refine b_F rfl rfl rfl rfl rfl rfl ?_
        refine bv rfl (v_pickT rfl rfl rfl) ?_
        refine b_nil (hK _ ?_)
        clear hK K
        exact to_le (s' := ⟨[(16, HV.bool true)], []⟩) (AS.le_of ⟨rfl, trivial⟩ trivial) ⟨true, (), h, rfl⟩
      · have h := ifF hg6 h
        refine b_T rfl rfl rfl rfl (decide_eq_false hg6) (o_val rfl (mv_val rfl rfl).2 ?_)
        refine b_T rfl rfl rfl rfl rfl (o_val rfl (v_bin rfl rfl b_gtr) ?_)
        refine bv rfl (v_pickF rfl rfl rfl) ?_
        refine b_nil (hK _ ?_)
        clear hK K
        exact to_le (s' := ⟨[(16, HV.bool (decide (4096 < p1)))], []⟩) (AS.le_of ⟨rfl, trivial⟩ trivial) ⟨decide (4096 < p1), (), h, rfl⟩

set_option maxHeartbeats 1600000 in
set_option maxRecDepth 100000 in
theorem w_word_known {p0 : Int} {r : Bool} (h : m_word_known p0 = some r) : Pure Try.prog 94 [HV.int .i64 p0] (· = HV.bool r) := by
  unfold m_word_known at h
  refine Pure.of_body Try.func94 rfl rfl (Nat.le_of_ble_eq_true rfl) fun hf => ?_
  unfold Try.f94
  dsimp only [enumS, Nat.reduceAdd]
  refine AW.rgs rfl fun K hK => ?_
  refine mv rfl rfl ?_
  refine b_nil (hK _ (AW.to (to_le (s' := ⟨[(0, HV.int .i64 p0)], []⟩) (AS.le_of ⟨rfl, trivial⟩ trivial) ?_)))
  clear hK K
  refine AW.seqJ h (S := Bool) (V := Unit) (fun a v => ⟨[(2, HV.bool a)], []⟩) (fun a1 w2 h => ?_) (fun k3 h => ?_)
  · refine AW.ret ?_
    have h := Option.some.inj h
    subst h
    exact ret_pure (hs := [HV.bool a1]) (q := HV.bool a1) (.inr rfl) (resT rfl rfl) rfl trivial
  · refine AW.rg rfl fun K hK => ?_
    refine mv rfl rfl ?_
    refine bv rfl (v_bin rfl rfl b_geq) ?_
    refine mv rfl rfl ?_
    by_cases hg4 : 1 ≤ p0
    · have h := ifT hg4 h
      refine b_T rfl rfl rfl rfl (decide_eq_true hg4) (o_val rfl (mv_val rfl rfl).2 ?_)
      refine b_T rfl rfl rfl rfl rfl (o_val rfl (v_bin rfl rfl b_leq) ?_)
      refine bv rfl (v_pickT rfl rfl rfl) ?_
      refine mv rfl rfl ?_
      refine b_nil (hK _ ?_)
      clear hK K
      exact to_le (s' := ⟨[(2, HV.bool (decide (p0 ≤ 16)))], []⟩) (AS.le_of ⟨rfl, trivial⟩ trivial) ⟨decide (p0 ≤ 16), (), h, rfl⟩
    · have h := ifF hg4 h
      refine b_F rfl rfl rfl rfl rfl (decide_eq_false hg4) ?_
      refine b_F rfl rfl rfl rfl rfl rfl ?_
      refine bv rfl (v_pickF rfl rfl rfl) ?_
      refine mv rfl rfl ?_
      refine b_nil (hK _ ?_)
      clear hK K
      exact to_le (s' := ⟨[(2, HV.bool false)], []⟩) (AS.le_of ⟨rfl, trivial⟩ trivial) ⟨false, (), h, rfl⟩

set_option maxHeartbeats 1600000 in
set_option maxRecDepth 100000 in
theorem w_word_Check {p0 : Int} {p1 : List UInt8} {r : Int} (h : m_word_Check p0 p1 = some r) : Pure Try.prog 47 [HV.int .i64 p0, HV.str p1] (· = HV.int .i64 r) := by
  unfold m_word_Check at h
  refine Pure.of_body Try.func47 rfl rfl (Nat.le_of_ble_eq_true rfl) fun hf => ?_
  unfold Try.f47
  dsimp only [enumS, Nat.reduceAdd]
  refine AW.rgs rfl fun K hK => ?_
  refine mv rfl rfl ?_
  refine b_nil (hK _ (AW.to (to_le (s' := ⟨[(0, HV.int .i64 p0), (1, HV.str p1)], []⟩) (AS.le_of ⟨rfl, rfl, trivial⟩ trivial) ?_)))
  clear hK K
  refine AW.seq (AW.block ?_)
  refine AW.rgs rfl fun K hK => ?_
  refine mv rfl rfl ?_
  obtain ⟨x1, h2, h⟩ := bS h
  refine b_op rfl (o_call rfl rfl rfl rfl (ACallD.pure0 (w_word_known h2)) ?_)
  refine bv rfl (v_not rfl) ?_
  refine mv rfl rfl ?_
  refine b_nil (hK _ (AW.to (to_le (s' := ⟨[(0, HV.int .i64 p0), (1, HV.str p1), (6, HV.bool (!x1))], []⟩) (AS.le_of ⟨rfl, rfl, rfl, trivial⟩ trivial) ?_)))
  clear hK K
  refine AW.cond rfl (fun hc => ?_) (fun hc => ?_)
  · have h := ifT hc h
    refine AW.rgs rfl fun K hK => ?_
    refine mv rfl rfl ?_
    refine b_nil (hK _ (AW.to (to_le (s' := ⟨[(4, HV.int .i64 12)], []⟩) (AS.le_of ⟨rfl, trivial⟩ trivial) ?_)))
    clear hK K
    refine AW.ret ?_
    have h := Option.some.inj h
    subst h
    exact ret_pure (hs := [HV.int .i64 12]) (q := HV.int .i64 12) (.inr rfl) (resT rfl rfl) rfl trivial
  · have h := ifF (bF' hc) h
    refine AW.rgs rfl fun K hK => ?_
    refine mv rfl rfl ?_
    refine bv rfl (v_lenS rfl rfl ty9 rfl) ?_
    refine bv rfl (v_bin rfl rfl b_gtr) ?_
    refine mv rfl rfl ?_
    refine b_nil (hK _ (AW.to (to_le (s' := ⟨[(0, HV.int .i64 p0), (1, HV.str p1), (10, HV.bool (decide (65536 < ((p1).length : Int))))], []⟩) (AS.le_of ⟨rfl, rfl, rfl, trivial⟩ trivial) ?_)))
    clear hK K
    refine AW.cond rfl (fun hc => ?_) (fun hc => ?_)
    · have hc := of_decide_eq_true hc
      have h := ifT hc h
      refine AW.rgs rfl fun K hK => ?_
      refine mv rfl rfl ?_
      refine b_nil (hK _ (AW.to (to_le (s' := ⟨[(4, HV.int .i64 4)], []⟩) (AS.le_of ⟨rfl, trivial⟩ trivial) ?_)))
      clear hK K
      refine AW.ret ?_
      have h := Option.some.inj h
      subst h
      exact ret_pure (hs := [HV.int .i64 4]) (q := HV.int .i64 4) (.inr rfl) (resT rfl rfl) rfl trivial
    · have hc := of_decide_eq_false hc
      have h := ifF hc h
      refine AW.skip ?_
      refine AW.seq ?_
      refine AW.rgs rfl fun K hK => ?_
      refine mv rfl rfl ?_
      refine bv rfl (v_lenS rfl rfl ty9 rfl) ?_
      refine mv rfl rfl ?_
      refine b_nil (hK _ (AW.to (to_le (s' := ⟨[(0, HV.int .i64 p0), (1, HV.str p1), (15, HV.int .i64 ((p1).length : Int)), (16, HV.int .i64 0)], []⟩) (AS.le_of ⟨rfl, rfl, rfl, rfl, trivial⟩ trivial) ?_)))
      clear hK K
      refine AW.lpR h (by first | exact up_then | exact up_to) (S := Int) (V := Unit) (fun a v => ⟨[(0, HV.int .i64 p0), (1, HV.str p1), (15, HV.int .i64 ((p1).length : Int)), (16, HV.int .i64 a)], []⟩) ?_ (X := Unit) (W := Unit) (fun a v => ⟨[], []⟩) (fun a12 w13 h => ?_) (fun a3 w4 st5 h hr6=> ?_)
      · exact to_le (s' := ⟨[(0, HV.int .i64 p0), (1, HV.str p1), (15, HV.int .i64 ((p1).length : Int)), (16, HV.int .i64 0)], []⟩) (AS.le_of ⟨rfl, rfl, rfl, rfl, trivial⟩ trivial) ⟨(), rfl⟩
      · refine AW.rgs rfl fun K hK => ?_
        refine mv rfl rfl ?_
        refine b_nil (hK _ (AW.to (to_le (s' := ⟨[(4, HV.int .i64 0)], []⟩) (AS.le_of ⟨rfl, trivial⟩ trivial) ?_)))
        clear hK K
        refine AW.ret ?_
        have h := Option.some.inj h
        subst h
        exact ret_pure (hs := [HV.int .i64 0]) (q := HV.int .i64 0) (.inr rfl) (resT rfl rfl) rfl trivial
      · refine AW.rgs rfl fun K hK => ?_
        refine bv rfl (v_bin rfl rfl b_lss) ?_
        refine b_nil (hK _ (AW.to (to_le (s' := ⟨[(0, HV.int .i64 p0), (1, HV.str p1), (15, HV.int .i64 ((p1).length : Int)), (16, HV.int .i64 a3), (17, HV.bool (decide (a3 < ((p1).length : Int))))], []⟩) (AS.le_of ⟨rfl, rfl, rfl, rfl, rfl, trivial⟩ trivial) ?_)))
        clear hK K
        refine AW.cseq rfl (fun hc => ?_) (fun hc => ?_)
        · have hc := of_decide_eq_true hc
          have h := ifT hc h
          refine AW.skip ?_
          refine AW.seq (AW.block ?_)
          refine AW.rgs rfl fun K hK => ?_
          refine mv rfl rfl ?_
          refine mv rfl rfl ?_
          refine b_nil (hK _ (AW.to (to_le (s' := ⟨[(0, HV.int .i64 p0), (1, HV.str p1), (5, HV.int .i64 a3), (15, HV.int .i64 ((p1).length : Int)), (16, HV.int .i64 a3)], []⟩) (AS.le_of ⟨rfl, rfl, rfl, rfl, rfl, trivial⟩ trivial) ?_)))
          clear hK K
          refine AW.dgs 7 follows rfl rfl fun K hK => ?_
          refine sm rfl rfl ?_
          obtain ⟨h7, h⟩ := ifN h
          refine sv rfl (v_sliceS ty9 rfl rfl rfl h7) ?_
          refine sm rfl rfl ?_
          refine sm rfl rfl ?_
          obtain ⟨x8, h9, h⟩ := bS h
          refine sv rfl (v_idxS ty9 rfl rfl h9) ?_
          obtain ⟨x10, h11, h⟩ := bS h
          refine s_op rfl rfl (ops_call rfl rfl rfl rfl (ACallD.pure0 (w_strings_IndexByte h11)) ?_)
          refine sv rfl (v_bin rfl rfl b_lss) ?_
          refine s_nil ?_
          refine b_nil (hK _ (AW.to (to_le (s' := ⟨[(0, HV.int .i64 p0), (1, HV.str p1), (15, HV.int .i64 ((p1).length : Int)), (16, HV.int .i64 a3), (25, HV.bool (decide (x10 < 0)))], []⟩) (AS.le_of ⟨rfl, rfl, rfl, rfl, rfl, trivial⟩ trivial) ?_)))
          clear hK K
          refine AW.cond rfl (fun hc => ?_) (fun hc => ?_)
          · have hc := of_decide_eq_true hc
            have h := ifT hc h
            refine AW.rgs rfl fun K hK => ?_
            refine mv rfl rfl ?_
            refine b_nil (hK _ (AW.to (to_le (s' := ⟨[(4, HV.int .i64 13)], []⟩) (AS.le_of ⟨rfl, trivial⟩ trivial) ?_)))
            clear hK K
            have h := hr6 _ h
            refine AW.ret ?_
            have h := Option.some.inj h
            subst h
            exact ret_pure (hs := [HV.int .i64 13]) (q := HV.int .i64 13) (.inr rfl) (resT rfl rfl) rfl trivial
          · have hc := of_decide_eq_false hc
            have h := ifF hc h
            refine AW.skip ?_
            refine AW.rg rfl fun K hK => ?_
            refine bv rfl (v_bin rfl rfl b_add) ?_
            refine mv rfl rfl ?_
            refine b_nil (hK _ ?_)
            clear hK K
            exact to_le (s' := ⟨[(0, HV.int .i64 p0), (1, HV.str p1), (15, HV.int .i64 ((p1).length : Int)), (16, HV.int .i64 (IntKind.wrap .i64 (a3 + 1)))], []⟩) (AS.le_of ⟨rfl, rfl, rfl, rfl, trivial⟩ trivial) ⟨IntKind.wrap .i64 (a3 + 1), (), h, rfl⟩
        · have hc := of_decide_eq_false hc
          have h := ifF hc h
          refine AW.exit ?_
          exact to_le (s' := ⟨[], []⟩) (AS.le_of trivial trivial) ⟨(), (), h, rfl⟩

set_option maxHeartbeats 1600000 in
set_option maxRecDepth 100000 in
theorem w_language_spells {p0 : TLabelsStatesEdges} {p1 : List UInt8} {r : Int} (h : m_language_spells p0 p1 = some r) : Pure Try.prog 95 [HV.agg [HV.int .i64 p0.1, HV.int .i64 p0.2.1, slE eFromLabelTo p0.2.2], HV.str p1] (· = HV.int .i64 r) := by
  unfold m_language_spells at h
  refine Pure.of_body Try.func95 rfl rfl (Nat.le_of_ble_eq_true rfl) fun hf => ?_
  unfold Try.f95
  dsimp only [enumS, Nat.reduceAdd]
  refine AW.rgs rfl fun K hK => ?_
  refine b_op rfl (o_box rfl rfl rfl ?_)
  refine mv rfl rfl ?_
  refine b_nil (hK _ (AW.to (to_le (s' := ⟨[(1, HV.str p1), (2, HV.fptr [HV.int .i64 p0.1, HV.int .i64 p0.2.1, slE eFromLabelTo p0.2.2] 0)], []⟩) (AS.le_of ⟨rfl, rfl, trivial⟩ trivial) ?_)))
  clear hK K
  refine AW.seq ?_
  refine AW.rgs rfl fun K hK => ?_
  refine bv rfl (v_loadF ty24 rfl (l_litA rfl (Nat.le_of_ble_eq_true rfl) rfl)) ?_
  obtain ⟨x1, h2, h⟩ := bS h
  refine b_op rfl (o_call rfl rfl rfl rfl (ACallD.pure0 (w_language_check h2)) ?_)
  refine mv rfl rfl ?_
  refine b_nil (hK _ (AW.to (to_le (s' := ⟨[(1, HV.str p1), (2, HV.fptr [HV.int .i64 p0.1, HV.int .i64 p0.2.1, slE eFromLabelTo p0.2.2] 0), (5, HV.int .i64 x1)], []⟩) (AS.le_of ⟨rfl, rfl, rfl, trivial⟩ trivial) ?_)))
  clear hK K
  refine AW.rgs rfl fun K hK => ?_
  refine mv rfl rfl ?_
  refine bv rfl (v_bin rfl rfl b_neq) ?_
  refine b_nil (hK _ (AW.to (to_le (s' := ⟨[(1, HV.str p1), (2, HV.fptr [HV.int .i64 p0.1, HV.int .i64 p0.2.1, slE eFromLabelTo p0.2.2] 0), (5, HV.int .i64 x1), (9, HV.bool (decide (x1 ≠ 0)))], []⟩) (AS.le_of ⟨rfl, rfl, rfl, rfl, trivial⟩ trivial) ?_)))
  clear hK K
  refine AW.cond rfl (fun hc => ?_) (fun hc => ?_)
  · have hc := of_decide_eq_true hc
    have h := ifT hc h
    refine AW.rgs rfl fun K hK => ?_
    refine mv rfl rfl ?_
    refine mv rfl rfl ?_
    refine b_nil (hK _ (AW.to (to_le (s' := ⟨[(4, HV.int .i64 x1)], []⟩) (AS.le_of ⟨rfl, trivial⟩ trivial) ?_)))
    clear hK K
    refine AW.ret ?_
    have h := Option.some.inj h
    subst h
    exact ret_pure (hs := [HV.int .i64 x1]) (q := HV.int .i64 x1) (.inr rfl) (resT rfl rfl) rfl trivial
  · have hc := of_decide_eq_false hc
    have h := ifF hc h
    refine AW.skip ?_
    refine AW.rgs rfl fun K hK => ?_
    refine bv rfl (v_fieldAddrF fo24_0 rfl) ?_
    refine bv rfl (v_loadF ty3 rfl (l_lit rfl rfl)) ?_
    refine mv rfl rfl ?_
    obtain ⟨x3, h4, h⟩ := bS h
    refine b_op rfl (o_call rfl rfl rfl rfl (ACallD.pure0 (w_word_Check h4)) ?_)
    refine mv rfl rfl ?_
    refine b_nil (hK _ (AW.to (to_le (s' := ⟨[(4, HV.int .i64 x3)], []⟩) (AS.le_of ⟨rfl, trivial⟩ trivial) ?_)))
    clear hK K
    refine AW.ret ?_
    have h := Option.some.inj h
    subst h
    exact ret_pure (hs := [HV.int .i64 x3]) (q := HV.int .i64 x3) (.inr rfl) (resT rfl rfl) rfl trivial

end Go.AW

namespace Go.AW
open Go Go.Proofs
set_option linter.unusedVariables false
end Go.AW

namespace Go.AW
open Go Go.Proofs
set_option linter.unusedVariables false
end Go.AW



/- slices.Clone of numbers (laid as the kit's contract asks). -/
namespace Go.Proofs
open Go
def Try.cloneI_ren : Go.Shelf.Ren := ⟨fun | 41 => 97 | n => n, fun | 22 => 42 | 23 => 3 | 4 => 4 | n => n, fun | n => n⟩
end Go.Proofs

namespace Go.AW
open Go Go.Proofs Go.Sort Go.Lib

end Go.AW

namespace Go.Proofs
open Go
def Try.mul_ren : Go.Shelf.Ren := ⟨fun | 212 => 142 | 263 => 168 | 264 => 169 | n => n, fun | 46 => 121 | 51 => 149 | 146 => 201 | 53 => 147 | 148 => 203 | n => n, fun | n => n⟩
theorem Try.mul : Go.Proofs.Lays.n212 Try.prog Try.mul_ren where
  mixed := by kernel_rfl
  f212 := Try.func142.trans (congrArg some (by kernel_rfl))
  f263 := Try.func168.trans (congrArg some (by kernel_rfl))
  f264 := Try.func169.trans (congrArg some (by kernel_rfl))
  t46 := Try.underlying121
  a46 := Try.isAgg121
  z46 := Try.sizeOf121
  v46 := Try.zeroValue121
  t51 := Try.underlying149
  a51 := Try.isAgg149
  z51 := Try.sizeOf149
  v51 := Try.zeroValue149
  t53 := Try.underlying147
  a53 := Try.isAgg147
  z53 := Try.sizeOf147
  v53 := Try.zeroValue147
  t146 := Try.underlying201
  a146 := Try.isAgg201
  z146 := Try.sizeOf201
  v146 := Try.zeroValue201
  t148 := Try.underlying203
  a148 := Try.isAgg203
  z148 := Try.sizeOf203
  v148 := Try.zeroValue203
end Go.Proofs

/- Regions that draw their order, with one operation that may be done late. -/
namespace Go.AW
open Go

section
variable {P : Program} {ro : Option Nat} {N : Nat} {s : AS}

/-- the first q operations are done; operation z perhaps not -/
def AnyAtZ (P : Program) (ro : Option Nat) (N : Nat) (ops : Array Oper) (Q : Exit → AS → Prop) (q z : Nat) (s : AS) : Prop :=
  ∀ (w0 : World) (μ0 : Mu) (fuel : Nat) (listed : Array Bool) (μ1 : Mu) (a1 : Act) (w1 : World) (s1 : AS), listed.size = ops.size → cnt listed ≤ fuel → (∀ i, i < ops.size → i ≠ z → listed.getD i false = decide (i < q)) →
    s1.heap = s.heap → (∀ t, dstOf ops z ≠ some t → sget s1.slots t = sget s.slots t) → (listed.getD z false = true → ∀ t, sget s1.slots t = sget s.slots t) →
    SRel ro N w0.heap.size μ1 s1 a1 w1 → Evo w0 μ0 w1 μ1 → wpAnyIn (fence ro) 0 P .any ops (Post ro N Q w0 μ0) fuel listed a1 w1

/-- all operations from p on wait on those from q to p, but z -/
def waitOkZ (ops : Array Oper) (q p z : Nat) : Bool := (List.range ops.size).all fun i => decide (i < p) || ((List.range p).all fun k => decide (k < q) || ((k == z) || (clos ops i).contains k))
theorem waitOkZ_spec {ops : Array Oper} {q p z : Nat} (h : waitOkZ ops q p z = true) : ∀ i, p ≤ i → i < ops.size → ∀ k, q ≤ k → k < p → k ≠ z → k ∈ clos ops i := by
  simp only [waitOkZ, List.all_eq_true, List.mem_range, Bool.or_eq_true, decide_eq_true_eq, List.contains_iff_mem, beq_iff_eq] at h
  intro i hpi hi k hqk hkp hkz
  exact (((h i hi).resolve_left (by omega) k hkp).resolve_left (by omega)).resolve_left hkz

/-- operations that change nothing, in whatever order; one of them (z) may still be to do behind them -/
theorem AnyAt.steadyZ {ops : Array Oper} {Q : Exit → AS → Prop} {q : Nat} (p z : Nat) (tail : AS → Prop) (hok : ops.toList.all (fun o => okd N o.dst) = true) (hda : daOk ops = true) (hqp : q ≤ p) (hp : p ≤ ops.size) (hw : waitOkZ ops q p z = true) (hseg : segOk ops q p = true)
    (htail : ∀ s1, tail s1 → AnyAtZ P ro N ops Q p z s1) (h : asteps P ops.toList ((ops.toList.drop q).take (p - q)) tail s) : AnyAt P ro N ops Q q s := by
  have hda' := daOk_spec hda
  have hchain := waitOkZ_spec hw
  simp only [segOk, Bool.and_eq_true, Bool.or_eq_true, decide_eq_true_eq, List.all_eq_true, List.mem_range] at hseg
  obtain ⟨hdis, hlook⟩ := hseg
  obtain ⟨plan, St, hS0, hK, hplan⟩ := asteps_plan (ro := ro) hok ((ops.toList.drop q).take (p - q)) q s (fun k hk => by
    simp at hk
    rw [List.getElem?_take_of_lt (by omega), List.getElem?_drop, Array.getElem?_toList]) h
  have hlen : ((ops.toList.drop q).take (p - q)).length = p - q := by simp; omega
  rw [hlen] at hK hplan
  have hqpp : q + (p - q) = p := by omega
  rw [hqpp] at hK
  have hdis' : ∀ i k, q ≤ i → i < p → q ≤ k → k < p → k ≠ i → ∀ d, dstOf ops i = some d → dstOf ops k ≠ some d := fun i k hqi hi hqk hk hki d hdi => by
    have := ((hdis i hi).resolve_left (by omega) k hk).resolve_left (by omega)
    rw [hdi] at this
    simp only [beq_iff_eq, bne_iff_ne] at this
    exact this.resolve_left fun e => hki e.symm
  have hplan' : ∀ i, q ≤ i → i < p → ∃ o, ops[i]? = some o ∧ PureAt P ro N ops i o (plan i) (St i) ∧ ((St i).put o.dst (plan i)).eqv (St (i + 1)) := fun i hqi hi => by
    have := hplan (i - q) (by omega)
    rw [show q + (i - q) = i by omega] at this
    exact this
  have hJ : ∀ j, q ≤ j → j ≤ p → JQ ops q p plan (St q) (fun i => q ≤ i ∧ i < j) (St j) := by
    intro j hqj
    obtain ⟨d, rfl⟩ : ∃ d, j = q + d := ⟨j - q, by omega⟩
    clear hqj
    induction d with
    | zero => exact fun _ => ⟨rfl, fun _ _ _ _ hx => by omega, fun _ _ => rfl⟩
    | succ d ih =>
      intro hj
      obtain ⟨o, ho, _, he⟩ := hplan' (q + d) (by omega) (by omega)
      exact (ih (by omega)).step ho (by omega) (by omega) (fun k hqk hk hkj => hdis' (q + d) k (by omega) (by omega) hqk hk hkj) (fun k => by omega) he
  intro w0 μ0
  have main : ∀ (fuel : Nat) (listed : Array Bool) (s1 : AS) (μ1 : Mu) (a1 : Act) (w1 : World), listed.size = ops.size → cnt listed ≤ fuel → (∀ i, i < ops.size → listed.getD i false = true → ∀ k ∈ da ops i, listed.getD k false = true) →
      (∀ i, i < q → listed.getD i false = true) → (∀ i, p ≤ i → i < ops.size → listed.getD i false = false) → JQ ops q p plan (St q) (fun i => listed.getD i false = true) s1 → SRel ro N w0.heap.size μ1 s1 a1 w1 → Evo w0 μ0 w1 μ1 →
      wpAnyIn (fence ro) 0 P .any ops (Post ro N Q w0 μ0) fuel listed a1 w1 := by
    intro fuel
    have fin : ∀ (fuel : Nat) (listed : Array Bool) (s1 : AS) (μ1 : Mu) (a1 : Act) (w1 : World), listed.size = ops.size → cnt listed ≤ fuel → (∀ i, i < p → i ≠ z → listed.getD i false = true) →
        (∀ i, p ≤ i → i < ops.size → listed.getD i false = false) → JQ ops q p plan (St q) (fun i => listed.getD i false = true) s1 → SRel ro N w0.heap.size μ1 s1 a1 w1 → Evo w0 μ0 w1 μ1 →
        wpAnyIn (fence ro) 0 P .any ops (Post ro N Q w0 μ0) fuel listed a1 w1 := by
      intro fuel listed s1 μ1 a1 w1 hl hc hall htl hj hs1 hE1
      have hp1 := hJ p hqp (Nat.le_refl _)
      refine htail _ hK w0 μ0 fuel listed μ1 a1 w1 s1 hl hc (fun i hi hiz => ?_) (hj.1.trans hp1.1.symm) (fun t ht => ?_) (fun hlz t => ?_) hs1 hE1
      · by_cases hip : i < p
        · rw [hall i hip hiz]; simp [hip]
        · rw [htl i (by omega) hi]; simp [hip]
      · by_cases hx : ∃ i, q ≤ i ∧ i < p ∧ dstOf ops i = some t
        · obtain ⟨i, hqi, hi, hdi⟩ := hx
          have hiz : i ≠ z := fun e => ht (by rw [← e]; exact hdi)
          rw [hp1.2.1 i t hqi hi ⟨hqi, hi⟩ hdi, hj.2.1 i t hqi hi (hall i hi hiz) hdi]
        · rw [hp1.2.2 t (fun i hqi hi _ hdi => hx ⟨i, hqi, hi, hdi⟩), hj.2.2 t (fun i hqi hi _ hdi => hx ⟨i, hqi, hi, hdi⟩)]
      · have hall' : ∀ i, i < p → listed.getD i false = true := fun i hi => by
          by_cases e : i = z
          · rw [e]; exact hlz
          · exact hall i hi e
        by_cases hx : ∃ i, q ≤ i ∧ i < p ∧ dstOf ops i = some t
        · obtain ⟨i, hqi, hi, hdi⟩ := hx
          rw [hp1.2.1 i t hqi hi ⟨hqi, hi⟩ hdi, hj.2.1 i t hqi hi (hall' i hi) hdi]
        · rw [hp1.2.2 t (fun i hqi hi _ hdi => hx ⟨i, hqi, hi, hdi⟩), hj.2.2 t (fun i hqi hi _ hdi => hx ⟨i, hqi, hi, hdi⟩)]
    induction fuel with
    | zero =>
      intro listed s1 μ1 a1 w1 hl hc hcl hold htl hj hs1 hE1
      refine fin 0 listed s1 μ1 a1 w1 hl hc (fun i hi _ => ?_) htl hj hs1 hE1
      cases hh : listed.getD i false with
      | true => rfl
      | false =>
        have := cnt_pos (listed := listed) (i := i) (by rw [getD_tf (by omega)]; exact hh)
        omega
    | succ fuel ih =>
      intro listed s1 μ1 a1 w1 hl hc hcl hold htl hj hs1 hE1
      by_cases hall : ∀ i, i < p → i ≠ z → listed.getD i false = true
      · exact fin (fuel + 1) listed s1 μ1 a1 w1 hl hc hall htl hj hs1 hE1
      · refine ⟨fun hr => ?_, fun i hi => ?_⟩
        · exfalso
          obtain ⟨j, ⟨hjp, hjl⟩, hmin⟩ := least (fun j => j < p ∧ listed.getD j false = false) (by
            refine Classical.byContradiction fun hno => hall fun i hi _ => ?_
            cases hh : listed.getD i false with
            | true => rfl
            | false => exact absurd ⟨i, hi, hh⟩ hno)
          have := ready_of hda' hl (by omega : j < ops.size) hjl fun k hk => by
            cases hh : listed.getD k false with
            | true => rfl
            | false => have := hmin k ⟨by omega, hh⟩; omega
          rw [hr] at this
          cases this
        · have hdone := deps_done hi
          obtain ⟨h0, o, ho, hwait⟩ := mem_ready.1 hi
          have his := (Array.getElem?_eq_some_iff.1 ho).1
          have hil : listed.getD i false = false := by rw [← getD_tf (by omega)]; exact h0
          have hqi : q ≤ i := by
            rcases Nat.lt_or_ge i q with h | h
            · have := hold i h; rw [hil] at this; cases this
            · exact h
          have hip : i < p := by
            rcases Nat.lt_or_ge i p with h | h
            · exact h
            · exfalso
              refine hall fun k hk hkz => ?_
              rcases Nat.lt_or_ge k q with hkq | hkq
              · exact hold k hkq
              · refine clos_ind (fun k => listed.getD k false = true) hdone (fun k hki hkl m hm => ?_) k (hchain i h his k hkq hk hkz)
                exact hcl k (by omega) hkl m hm
          obtain ⟨o', ho', hpure, _⟩ := hplan' i hqi hip
          rw [ho] at ho'
          cases ho'
          have hSi := hJ i hqi (by omega)
          have hagree : ∀ t ∈ o.looksAt ops, sget s1.slots t = sget (St i).slots t := by
            intro t ht
            by_cases hx : ∃ k, q ≤ k ∧ k < p ∧ dstOf ops k = some t
            · obtain ⟨k, hqk, hk, hdk⟩ := hx
              have hc2 := ((hlook i hip).resolve_left (by omega) k hk).resolve_left (by omega)
              rw [hdk, ho] at hc2
              simp only [Bool.or_eq_true, Bool.not_eq_true', List.contains_eq_mem, decide_eq_false_iff_not] at hc2
              have hc3 := hc2.resolve_left (fun hn => hn ht)
              by_cases hki : k < i
              · rw [if_pos hki] at hc3
                have hkd : k ∈ da ops i := by simpa using hc3
                rw [hSi.2.1 k t hqk hk ⟨hqk, hki⟩ hdk, hj.2.1 k t hqk hk (hdone k hkd) hdk]
              · rw [if_neg hki] at hc3
                have hkn : listed.getD k false = false := by
                  rcases (by simpa using hc3 : k = i ∨ i ∈ da ops k) with e | hik
                  · rw [e]; exact hil
                  · cases hh : listed.getD k false with
                    | false => rfl
                    | true =>
                      have := hcl k (by omega) hh i hik
                      rw [hil] at this
                      cases this
                rw [hSi.2.2 t (fun m hqm hm hmi hdm => ?_), hj.2.2 t (fun m hqm hm hml hdm => ?_)]
                · by_cases hmk : m = k
                  · subst hmk
                    have hml' : listed.getD m false = true := hml
                    rw [hkn] at hml'
                    cases hml'
                  · exact hdis' k m hqk hk hqm hm hmk t hdk hdm
                · by_cases hmk : m = k
                  · subst hmk; omega
                  · exact hdis' k m hqk hk hqm hm hmk t hdk hdm
            · rw [hSi.2.2 t (fun m hqm hm _ hdm => hx ⟨m, hqm, hm, hdm⟩), hj.2.2 t (fun m hqm hm _ hdm => hx ⟨m, hqm, hm, hdm⟩)]
          refine hpure s1 (hj.1.trans hSi.1.symm) hagree (fun s2 => s2 = s1.put o.dst (plan i)) rfl w0 μ0 μ1 a1 w1 _ _ hs1 hE1 ?_
          rintro μ2 s2 a2 w2 rfl hs2 hE2
          have hset : ∀ k, (listed.setIfInBounds i true).getD k false = true ↔ listed.getD k false = true ∨ k = i := fun k => by
            by_cases hki : i = k
            · subst hki
              have : i < listed.size := by omega
              simp [this]
            · rw [getD_set_ne false hki]
              exact ⟨.inl, fun h => h.resolve_right fun e => hki e.symm⟩
          have hcnt := cnt_set (listed := listed) (i := i) h0
          refine ih (listed.setIfInBounds i true) _ μ2 a2 w2 (by simp [hl]) (by omega) (fun j hj hlj k hk => ?_) (fun j hjq => (hset j).2 (.inl (hold j hjq))) (fun j hpj hjs => ?_) (hj.step ho hqi hip (fun k hqk hk hki => hdis' i k hqi hip hqk hk hki) (fun k => hset k) (AS.eqv.refl _)) hs2 hE2
          · rcases (hset j).1 hlj with h | rfl
            · exact (hset k).2 (.inl (hcl j hj h k hk))
            · exact (hset k).2 (.inl (hdone k hk))
          · cases hh : (listed.setIfInBounds i true).getD j false with
            | false => rfl
            | true =>
              rcases (hset j).1 hh with h | h
              · rw [htl j hpj hjs] at h; cases h
              · omega
  intro fuel listed μ1 a1 w1 hl hc hlist hs hE
  have hs' : SRel ro N w0.heap.size μ1 (St q) a1 w1 := hs.eqv hS0
  refine main fuel listed (St q) μ1 a1 w1 hl hc (fun i hi hli k hk => ?_) (fun i hi => ?_) (fun i hpi hi => ?_) ⟨rfl, fun i t hqi hi hli => ?_, fun t _ => rfl⟩ hs' hE
  · have hki := hda' i hi k hk
    rw [hlist i hi] at hli
    rw [hlist k (by omega)]
    simp at hli ⊢
    omega
  · rw [hlist i (by omega)]; simp [hi]
  · rw [hlist i hi]; simp; omega
  · have hli' : listed.getD i false = true := hli
    rw [hlist i (by omega)] at hli'
    simp at hli'
    omega


/-- an operation that changes something, before which z may not be done yet; all behind it wait on both -/
theorem AnyAtZ.op {ops : Array Oper} {Q : Exit → AS → Prop} {q z : Nat} {t : AS} (hda : daOk ops = true) (hq : q < ops.size) (hzq : z < q) (hw : waitOk ops q (q + 1) = true) (hwz : ∀ i, q < i → i < ops.size → z ∈ clos ops i) (hno : ∀ k, k ≤ q → k ≠ z → ¬ z ∈ da ops k)
    (hz0 : ∀ s1 : AS, s1.heap = s.heap → (∀ u, dstOf ops z ≠ some u → sget s1.slots u = sget s.slots u) → AOpI P ro N ops z (fun s2 => s2.heap = s.heap ∧ ∀ u, sget s2.slots u = sget s.slots u) s1)
    (hz1 : ∀ s1 : AS, s1.heap = t.heap → (∀ u, dstOf ops z ≠ some u → sget s1.slots u = sget t.slots u) → AOpI P ro N ops z (fun s2 => s2.heap = t.heap ∧ ∀ u, sget s2.slots u = sget t.slots u) s1)
    (hop : ∀ s1 : AS, s1.heap = s.heap → (∀ u, dstOf ops z ≠ some u → sget s1.slots u = sget s.slots u) → AOpI P ro N ops q (fun s2 => s2.heap = t.heap ∧ (∀ u, dstOf ops z ≠ some u → sget s2.slots u = sget t.slots u) ∧ ((∀ u, sget s1.slots u = sget s.slots u) → ∀ u, sget s2.slots u = sget t.slots u)) s1)
    (h : AnyAt P ro N ops Q (q + 1) t) : AnyAtZ P ro N ops Q q z s := by
  intro w0 μ0 fuel listed μ1 a1 w1 s1 hl hc hlist hh hsl hall hs hE
  have hda' := daOk_spec hda
  -- when z is done
  have done : ∀ (fuel : Nat) (listed : Array Bool) (μ1 : Mu) (a1 : Act) (w1 : World) (s1 : AS), listed.size = ops.size → cnt listed ≤ fuel → (∀ i, i < ops.size → listed.getD i false = decide (i < q)) → s1.heap = s.heap → (∀ u, sget s1.slots u = sget s.slots u) →
      SRel ro N w0.heap.size μ1 s1 a1 w1 → Evo w0 μ0 w1 μ1 → wpAnyIn (fence ro) 0 P .any ops (Post ro N Q w0 μ0) fuel listed a1 w1 := by
    intro fuel listed μ1 a1 w1 s1 hl hc hlist hh hsl hs hE
    refine AnyAt.op (s := s1) hda hq hw ?_ w0 μ0 fuel listed μ1 a1 w1 hl hc hlist hs hE
    have hk := hop s1 hh (fun u _ => hsl u)
    intro w0 μ0 μ a w next Q' hs hE hK
    refine hk w0 μ0 μ a w next Q' hs hE fun μ2 s2 a2 w2 hk2 hs2 hE2 => hK μ2 s2 a2 w2 ?_ hs2 hE2
    intro w3 μ3 fuel3 listed3 μ4 a4 w4 h1 h2 h3 h4 h5
    exact h w3 μ3 fuel3 listed3 μ4 a4 w4 h1 h2 h3 (h4.eqv ⟨hk2.1.symm, fun u => (hk2.2.2 hsl u).symm⟩) h5
  by_cases hlz : listed.getD z false = true
  · refine done fuel listed μ1 a1 w1 s1 hl hc (fun i hi => ?_) hh (hall hlz) hs hE
    by_cases e : i = z
    · rw [e, hlz]; simp [hzq]
    · exact hlist i hi e
  · have hzf : listed.getD z false = false := by simpa using hlz
    have hqn : listed.getD q false = false := by rw [hlist q hq (by omega)]; simp
    cases fuel with
    | zero =>
      have := cnt_pos (listed := listed) (i := q) (by rw [getD_tf (by omega)]; exact hqn)
      omega
    | succ fuel =>
      refine ⟨fun hr => ?_, fun i hi => ?_⟩
      · exfalso
        have := ready_of hda' hl (by omega : z < ops.size) hzf fun k hk => by rw [hlist k (by omega) (by omega)]; simp; omega
        rw [hr] at this
        cases this
      · have hdone := deps_done hi
        obtain ⟨h0, o, ho, _⟩ := mem_ready.1 hi
        have his := (Array.getElem?_eq_some_iff.1 ho).1
        by_cases hiz : i = z
        · subst hiz
          refine hz0 s1 hh hsl w0 μ0 μ1 a1 w1 _ _ hs hE fun μ2 s2 a2 w2 hk hs2 hE2 => done fuel _ μ2 a2 w2 s2 (by simp [hl]) ?_ (fun k hk => ?_) hk.1 hk.2 hs2 hE2
          · have := cnt_set (listed := listed) (i := i) h0
            omega
          · by_cases hki : i = k
            · subst hki
              have : i < listed.size := by omega
              simp [this, hzq]
            · rw [getD_set_ne false hki, hlist k hk (fun e => hki e.symm)]
        · rw [getD_tf (by omega), hlist i his hiz] at h0
          have hqi : q ≤ i := by simpa using h0
          have hiq : i = q := by
            rcases Nat.lt_or_ge q i with hlt | hge
            · exfalso
              have hc := waitOk_spec hw i hlt his q (Nat.le_refl _) (Nat.lt_succ_self _)
              have := clos_ind (fun k => k < q) (fun k hk => by
                have hd := hdone k hk
                by_cases e : k = z
                · omega
                · rw [hlist k (Nat.lt_trans (hda' i his k hk) his) e] at hd
                  simpa using hd) (fun k hki hkq m hm => Nat.lt_trans (hda' k (by omega) m hm) hkq) q hc
              omega
            · omega
          subst hiq
          refine hop s1 hh hsl w0 μ0 μ1 a1 w1 _ _ hs hE fun μ2 s2 a2 w2 hk hs2 hE2 => ?_
          -- now z alone is ready
          have hl2 : (listed.setIfInBounds i true).size = ops.size := by simp [hl]
          have hc2 := cnt_set (listed := listed) (i := i) (by rw [getD_tf (by omega)]; exact hqn)
          have hz2 : (listed.setIfInBounds i true).getD z false = false := by rw [getD_set_ne false hiz]; exact hzf
          have hlist2 : ∀ k, k < ops.size → k ≠ z → (listed.setIfInBounds i true).getD k false = decide (k < i + 1) := fun k hk hkz => by
            by_cases hki : i = k
            · subst hki
              have : i < listed.size := by omega
              simp [this]
            · rw [getD_set_ne false hki, hlist k hk hkz]
              congr 1
              apply propext
              omega
          cases fuel with
          | zero =>
            have := cnt_pos (listed := listed.setIfInBounds i true) (i := z) (by rw [getD_tf (by omega)]; exact hz2)
            omega
          | succ fuel =>
            refine ⟨fun hr => ?_, fun j hj => ?_⟩
            · exfalso
              have := ready_of hda' hl2 (by omega : z < ops.size) hz2 fun k hk => by rw [hlist2 k (by omega) (by omega)]; simp; omega
              rw [hr] at this
              cases this
            · have hdone2 := deps_done hj
              obtain ⟨h02, o2, ho2, _⟩ := mem_ready.1 hj
              have hjs := (Array.getElem?_eq_some_iff.1 ho2).1
              have hjz : j = z := by
                apply Classical.byContradiction
                intro hjz
                rw [getD_tf (by omega), hlist2 j hjs hjz] at h02
                have hij : i + 1 ≤ j := by simpa using h02
                have hcz := hwz j (by omega) hjs
                have := clos_ind (fun k => k ≠ z ∧ k < i + 1) (fun k hk => by
                  have hd := hdone2 k hk
                  have hkz : k ≠ z := fun e => by rw [e, hz2] at hd; cases hd
                  rw [hlist2 k (Nat.lt_trans (hda' j hjs k hk) hjs) hkz] at hd
                  exact ⟨hkz, by simpa using hd⟩) (fun k hkj hkz m hm => ?_) z hcz
                · exact this.1 rfl
                · have hmk := hda' k (by omega) m hm
                  refine ⟨fun e => ?_, by omega⟩
                  -- an operation that is done waits on z: it would not be done
                  exact absurd e (by intro e; exact hno k (by omega) hkz.1 (by rw [← e]; exact hm))
              subst hjz
              refine hz1 s2 hk.1 hk.2.1 w0 μ0 μ2 a2 w2 _ _ hs2 hE2 fun μ3 s3 a3 w3 hk3 hs3 hE3 => h w0 μ0 fuel _ μ3 a3 w3 (by simp [hl]) ?_ (fun k hk => ?_) (hs3.eqv ⟨hk3.1.symm, fun u => (hk3.2 u).symm⟩) hE3
              · have := cnt_set (listed := listed.setIfInBounds i true) (i := j) h02
                omega
              · by_cases hkj : j = k
                · subst hkj
                  have : j < (listed.setIfInBounds i true).size := by omega
                  simp only [Array.getD_eq_getD_getElem?]
                  rw [Array.getElem?_setIfInBounds_self_of_lt this]
                  simp; omega
                · rw [getD_set_ne false hkj, hlist2 k hk (fun e => hkj e.symm)]
end
end Go.AW

/- copy in lockstep; a region with an operation that may be done late. -/
namespace Go.AW
open Go
section
variable {P : Program} {ro : Option Nat} {N : Nat} {s : AS} {ops : Array Oper} {o : Oper} {sl : List (Nat × HV)} {H : Heap} {all : Array Oper} {rest : List Oper} {K : AS → Prop}

/-- copy of frozen or owned elements into an owned array -/
theorem o_copy {d : Nat} {t xt e : TypeId} {a b : Nat} {z : Value} {aa : Array Operand} {ts : Array TypeId} {x y : Operand} {id ver k n off m k' : Nat} {e' : TypeId} {xs ds zs : List HV} {hy : HV} {Te : TyI} (h0 : (o.dst, o.op) = (some d, .call ⟨.builtin .copy, aa, ts⟩)) (has : aa.toList = [x, y]) (hts : ts.toList = [t, xt])
    (hT : ty P t = some ⟨.slice e, a, b, z⟩) (hTe : ty P e = some Te) (hx : s.ev x = some (.ar id ver k off n)) (hy' : s.ev y = some hy) (hst : isStr hy = false) (hg : hget s.heap id = some (ver, .arr k' e' xs)) (hfit : off + n * Te.size ≤ xs.length) (hs : asrc P s xt Te.size hy fun m' ds' => m' = m ∧ ds' = ds)
    (hz : xs.take off ++ ds.take (min m n * Te.size) ++ xs.drop (off + min m n * Te.size) = zs)
    (kk : bops P ro N all rest K ⟨(d, .int .i64 ((min m n : Nat) : Int)) :: s.slots, (id, ver, .arr k' e' zs) :: s.heap⟩) : aop P 0 [] o (fun s' => bops P ro N all rest K s') s := by
  obtain ⟨h1, h2⟩ := Prod.mk.inj h0
  simp only [aop, h2, has, hts, hT, hx, hy', hTe, hg]
  refine ⟨trivial, hst, hfit, asrc_mono hs fun m' ds' ⟨e1, e2⟩ => ?_⟩
  subst e1 e2
  rw [h1, hz]
  exact bops_le (putH_le id ver _ d _) kk

/-- a slice of an owned array -/
theorem v_sliceA {t e : TypeId} {sz by' : Nat} {z : Value} {x : Operand} {lo hi : Option Operand} {id ver k off n : Nat} {ob : AObj} {a b : Int} (hT : ty P t = some ⟨.slice e, sz, by', z⟩) (hE : elemSize P t = some k) (hx : s.ev x = some (.ar id ver k off n)) (ha : asl s lo 0 = some a) (hb : asl s hi n = some b) (h : 0 ≤ a ∧ a ≤ b ∧ b ≤ n ∧ (a = 0 ∨ a < n)) (hg : hget s.heap id = some (ver, ob)) :
    aval P (.slice t x lo hi none) s (· = .ar id ver k (off + a.toNat * k) (b.toNat - a.toNat)) := by
  simp only [aval, hT, hE, hx, ha, hb]
  exact ⟨trivial, h.1, h.2.1, h.2.2.1, h.2.2.2, by simp only [alive, hg], trivial⟩

theorem AnyAtZ.eqc {Q : Exit → AS → Prop} {q z : Nat} : Eqc (AnyAtZ P ro N ops Q q z) := fun _ _ he h w0 μ0 fuel listed μ1 a1 w1 s1 h1 h2 h3 h4 h5 h6 h7 h8 =>
  h w0 μ0 fuel listed μ1 a1 w1 s1 h1 h2 h3 (h4.trans he.1.symm) (fun t ht => (h5 t ht).trans (he.2 t).symm) (fun hl t => (h6 hl t).trans (he.2 t).symm) h7 h8
theorem y_stZ {q : Nat} (p z : Nat) (hok : ops.toList.all (fun o => okd N o.dst) = true) (hc : (daOk ops && Nat.ble q p && Nat.ble p ops.size && waitOkZ ops q p z && segOk ops q p) = true)
    (h : stops P ops.toList ((ops.toList.drop q).take (p - q)) (AnyAtZ P ro N ops (fun e s' => e = .normal ∧ K s') p z) s) : nyops P ro N ops K q s := by
  simp only [Bool.and_eq_true] at hc
  obtain ⟨⟨⟨⟨h1, h2⟩, h3⟩, h4⟩, h5⟩ := hc
  exact AnyAt.steadyZ p z _ hok h1 (Nat.le_of_ble_eq_true h2) (Nat.le_of_ble_eq_true h3) h4 h5 (fun _ h => h) (h.go AnyAtZ.eqc)

/-- what is asked of the places of the operations q and z -/
def lateOk (ops : Array Oper) (q z : Nat) : Bool := daOk ops && Nat.ble (q + 1) ops.size && Nat.ble (z + 1) q && waitOk ops q (q + 1) && ((List.range ops.size).all fun i => decide (i ≤ q) || (clos ops i).contains z) && ((List.range (q + 1)).all fun k => (k == z) || !((da ops k).contains z))

/-- a move that may be done behind operation q, which changes an object and sets its slot -/
theorem y_late {q z dz dq : Nat} {oz oq : Oper} {x : Operand} {v vq : HV} {H' : Heap} (hc : lateOk ops q z = true) (hoz : ops[z]? = some oz) (hz : (oz.guard, oz.dst, mvOf oz.op) = (none, some dz, some x)) (hoq : ops[q]? = some oq) (hq : (oq.guard, oq.dst) = (none, some dq)) (hN : (okd N oz.dst && okd N oq.dst) = true)
    (hv : sget sl dz = some v) (hne : dz ≠ dq)
    (hx : ∀ sl' H2, (∀ u, u ≠ dz → sget sl' u = sget sl u) → (⟨sl', H2⟩ : AS).ev x = some v) (hx2 : ∀ sl' H2, (∀ u, u ≠ dz → sget sl' u = sget ((dq, vq) :: sl) u) → (⟨sl', H2⟩ : AS).ev x = some v)
    (hop : ∀ sl' : List (Nat × HV), (∀ u, u ≠ dz → sget sl' u = sget sl u) → ∀ K' : AS → Prop, K' ⟨(dq, vq) :: sl', H'⟩ → (∀ s s' : AS, s.heap = s'.heap → (∀ u, sget s.slots u = sget s'.slots u) → K' s' → K' s) → AOp P ro N oq K' ⟨sl', H⟩)
    (h : nyops P ro N ops K (q + 1) ⟨(dq, vq) :: sl, H'⟩) : AnyAtZ P ro N ops (fun e s' => e = .normal ∧ K s') q z ⟨sl, H⟩ := by
  simp only [lateOk, Bool.and_eq_true, List.all_eq_true, List.mem_range, Bool.or_eq_true, decide_eq_true_eq, List.contains_iff_mem, beq_iff_eq, Bool.not_eq_true'] at hc
  obtain ⟨⟨⟨⟨⟨h1, h2⟩, h3⟩, h4⟩, h5⟩, h6⟩ := hc
  obtain ⟨g1, g2⟩ := Prod.mk.inj hz
  obtain ⟨g2, g3⟩ := Prod.mk.inj g2
  obtain ⟨k1, k2⟩ := Prod.mk.inj hq
  simp only [Bool.and_eq_true] at hN
  have hdz : dstOf ops z = some dz := by simp [dstOf, hoz, g2]
  have hzo : ∀ (sl' : List (Nat × HV)) (H2 : Heap) (K' : AS → Prop), (⟨sl', H2⟩ : AS).ev x = some v → K' ((⟨sl', H2⟩ : AS).put (some dz) v) → AOpI P ro N ops z K' ⟨sl', H2⟩ := fun sl' H2 K' hx hK => by
    refine AOpI.plain hoz g1 ?_
    refine aop_sound (fid := 0) (mt := []) hN.1 ?_
    obtain ⟨m1, m2⟩ := mv_val g3 hx
    refine op_val m1 m2 ?_
    rw [g2]
    exact hK
  have hput : ∀ (sl' sl0 : List (Nat × HV)) (H2 : Heap), sget sl0 dz = some v → (∀ u, u ≠ dz → sget sl' u = sget sl0 u) → ∀ u, sget ((⟨sl', H2⟩ : AS).put (some dz) v).slots u = sget sl0 u := fun sl' sl0 H2 hv0 hl u => by
    simp only [AS.put, sget_sset]
    by_cases e : u = dz
    · rw [if_pos e, e, hv0]
    · rw [if_neg e, hl u e]
  refine AnyAtZ.op (t := ⟨(dq, vq) :: sl, H'⟩) h1 (Nat.le_of_ble_eq_true h2) (Nat.le_of_ble_eq_true h3) h4 (fun i hi his => (h5 i his).resolve_left (by omega)) (fun k hk hkz hm => by have h7 := (h6 k (by omega)).resolve_left hkz; rw [List.contains_eq_mem, decide_eq_false_iff_not] at h7; exact h7 hm) ?_ ?_ ?_ h
  · rintro ⟨sl', H2⟩ hh hl
    cases hh
    have hl' : ∀ u, u ≠ dz → sget sl' u = sget sl u := fun u hu => hl u (by rw [hdz]; intro e; cases e; exact hu rfl)
    exact hzo sl' H _ (hx sl' H hl') ⟨rfl, hput sl' sl H hv hl'⟩
  · rintro ⟨sl', H2⟩ hh hl
    cases hh
    have hl' : ∀ u, u ≠ dz → sget sl' u = sget ((dq, vq) :: sl) u := fun u hu => hl u (by rw [hdz]; intro e; cases e; exact hu rfl)
    refine hzo sl' H' _ (hx2 sl' H' hl') ⟨rfl, hput sl' _ H' ?_ hl'⟩
    simp only [sget]
    rw [if_neg hne]
    exact hv
  · rintro ⟨sl', H2⟩ hh hl
    cases hh
    have hl' : ∀ u, u ≠ dz → sget sl' u = sget sl u := fun u hu => hl u (by rw [hdz]; intro e; cases e; exact hu rfl)
    refine AOpI.plain hoq k1 (hop sl' hl' _ ⟨rfl, fun u hu => ?_, fun ha u => ?_⟩ ?_)
    · simp only [sget]
      split
      · rfl
      · exact hl u hu
    · simp only [sget]
      split
      · rfl
      · exact ha u
    · rintro s1 s2 e1 e2 ⟨f1, f2, f3⟩
      exact ⟨e1.trans f1, fun u hu => (e2 u).trans (f2 u hu), fun ha u => (e2 u).trans (f3 ha u)⟩
end
end Go.AW

/- slices.Repeat of one truth value; math/bits.Mul by the kit's contract. -/
namespace Go.AW
open Go Go.Proofs

def u64 (n : Nat) : HV := .int .u64 n
theorem mul1 (n : Nat) (hn : n ≤ 1000000) : Fresh Try.prog 142 [u64 1, u64 n] (.tup [u64 0, u64 n]) := by
  refine Pure.fresh ⟨enters' Try.func142 rfl rfl, fun μ w vs hs hr => ?_⟩ ⟨trivial, trivial, trivial⟩ rfl
  obtain ⟨x, xs, rfl, ⟨rfl, _⟩, y, ys, rfl, ⟨rfl, _⟩, hn'⟩ := hr
  cases hn'
  refine (Any.bits_Mul Try.mul 1 n (by omega) (by omega) w).mono ?_
  rintro e w' ⟨rfl, rfl⟩
  have e1 : 1 * n / 18446744073709551616 = 0 := by omega
  have e2 : 1 * n % 18446744073709551616 = n := by omega
  refine ⟨_, .tup [u64 0, u64 n], [], μ, by rw [e1, e2], ⟨rfl, ⟨trivial, trivial, trivial⟩, rfl⟩, hs, ⟨_, rfl, _, _, rfl, ⟨rfl, by decide⟩, _, _, rfl, ⟨rfl, ?_⟩, rfl⟩, Evo.refl _ _⟩
  simp only [Lit.wf, IntKind.min, IntKind.max, IntKind.signed, IntKind.bits, Bool.and_eq_true, decide_eq_true_eq]
  simp
  omega


theorem mul1' (n : Nat) (hn : n ≤ 1000000) : Pure Try.prog 142 [HV.int .u64 (IntKind.wrap .u64 ((([true] : List Bool).length : Int))), HV.int .u64 (IntKind.wrap .u64 (n : Int))] (· = .tup [HV.int .u64 0, HV.int .u64 n]) := by
  have e : IntKind.wrap .u64 (n : Int) = (n : Int) := by simp only [IntKind.wrap_u64]; omega
  rw [e]
  exact (mul1 n hn).pure

/-- the array at the beginning, and behind a round -/
theorem rep_first (n : Nat) : ((List.replicate n false).map HV.bool).take 0 ++ ([HV.bool true]).take (min 1 n * 1) ++ ((List.replicate n false).map HV.bool).drop (0 + min 1 n * 1) = (List.replicate (min 1 n) true ++ List.replicate (n - min 1 n) false).map HV.bool := by
  cases n with
  | zero => rfl
  | succ n =>
    have e : min 1 (n + 1) = 1 := by omega
    simp [e]
theorem rep_half {n m : Nat} {xs : List HV} (hx : xs = (List.replicate m true ++ List.replicate (n - m) false).map HV.bool) (h : m ≤ n) : xs.take (0 + m * 1) ++ ((xs.drop (0 + 0 * 1)).take ((m - 0) * 1)).take (min (m - 0) (n - m) * 1) ++ xs.drop (0 + m * 1 + min (m - 0) (n - m) * 1)
    = (List.replicate (m + min m (n - m)) true ++ List.replicate (n - (m + min m (n - m))) false).map HV.bool := by
  subst hx
  simp only [Nat.mul_one, Nat.zero_mul, Nat.zero_add, List.drop_zero, List.map_append, List.map_replicate, Nat.sub_zero]
  rw [List.take_left' (by simp), List.take_replicate, Nat.min_eq_left (Nat.min_le_left _ _), ← List.drop_drop, List.drop_left' (by simp), List.drop_replicate, List.replicate_append_replicate]
  congr 2
  omega

set_option maxRecDepth 100000 in
set_option maxHeartbeats 1000000 in
theorem rep_n {n : Nat} (hn : n ≤ 1000000) : Pure Try.prog 98 [slE eBool [true], HV.int .i64 (n : Int)] (· = slE eBool (List.replicate n true)) := by
  refine Pure.of_body Try.func98 rfl rfl (Nat.le_of_ble_eq_true rfl) fun hf => ?_
  unfold Try.f98
  dsimp only [enumS, Nat.reduceAdd]
  refine AW.rgs rfl fun K hK => ?_
  refine mv rfl rfl ?_
  refine b_nil (hK _ (AW.to (to_le (s' := ⟨[(0, slE eBool [true]), (1, HV.int .i64 (n : Int))], []⟩) (AS.le_of ⟨rfl, rfl, trivial⟩ trivial) ?_)))
  clear hK K
  refine AW.seq ?_
  refine AW.rgs rfl fun K hK => ?_
  refine mv rfl rfl ?_
  refine bv rfl (v_bin rfl rfl b_lss) ?_
  refine b_nil (hK _ (AW.to (to_le (s' := ⟨[(0, slE eBool [true]), (1, HV.int .i64 (n : Int)), (10, HV.bool (decide ((n : Int) < 0)))], []⟩) (AS.le_of ⟨rfl, rfl, rfl, trivial⟩ trivial) ?_)))
  clear hK K
  refine AW.cond rfl (fun hc => ?_) (fun hc => ?_)
  · have := of_decide_eq_true hc
    omega
  · clear hc
    refine AW.skip ?_
    refine AW.rgs rfl fun K hK => ?_
    refine mv rfl rfl ?_
    refine bv rfl (v_lenF rfl rfl ty127 rfl) ?_
    refine bv rfl (v_convI ty3 ty121 rfl) ?_
    refine mv rfl rfl ?_
    refine bv rfl (v_convI ty3 ty121 rfl) ?_
    refine b_op rfl (o_call rfl rfl rfl rfl (ACallD.pure0 (mul1' n hn)) ?_)
    refine mv rfl rfl ?_
    refine bv rfl (v_extract rfl rfl) ?_
    refine bv rfl (v_extract rfl rfl) ?_
    refine mv rfl rfl ?_
    refine mv rfl rfl ?_
    refine b_nil (hK _ (AW.to (to_le (s' := ⟨[(0, slE eBool [true]), (5, HV.int .u64 0), (6, HV.int .u64 (n : Int))], []⟩) (AS.le_of ⟨rfl, rfl, rfl, trivial⟩ trivial) ?_)))
    clear hK K
    refine AW.seq ?_
    refine AW.rgs rfl fun K hK => ?_
    refine mv rfl rfl ?_
    refine bv rfl (v_bin rfl rfl b_gtr) ?_
    refine mv rfl rfl ?_
    refine b_T rfl rfl rfl rfl (decide_eq_false (by decide)) (o_val rfl (mv_val rfl rfl).2 ?_)
    refine b_T rfl rfl rfl rfl rfl (o_val rfl (v_bin rfl rfl b_gtr) ?_)
    refine bv rfl (v_pickF rfl rfl rfl) ?_
    refine b_nil (hK _ (AW.to (to_le (s' := ⟨[(0, slE eBool [true]), (6, HV.int .u64 (n : Int)), (26, HV.bool (decide ((9223372036854775807 : Int) < (n : Int))))], []⟩) (AS.le_of ⟨rfl, rfl, rfl, trivial⟩ trivial) ?_)))
    clear hK K
    refine AW.cond rfl (fun hc => ?_) (fun hc => ?_)
    · have := of_decide_eq_true hc
      omega
    · clear hc
      refine AW.skip ?_
      refine AW.rgs rfl fun K hK => ?_
      refine mv rfl rfl ?_
      refine bv rfl (v_convI ty121 ty3 rfl) ?_
      rw [w64 (n := (n : Int)) (by omega) (by omega)]
      refine b_op rfl (o_makeE (fid := 98) eBool (false : Bool) 98030 rfl rfl ty127 rfl rfl ty4 rfl rfl (show 0 ≤ (n : Int) ∧ (n : Int) ≤ (n : Int) ∧ (n : Int) * (1 : Nat) ≤ 281474976710656 by omega) (fun v6 => ?_))
      refine mv rfl rfl ?_
      refine b_nil (hK _ (AW.to (to_le (s' := ⟨[(0, slE eBool [true]), (7, HV.ar 98030 v6 eBool.k 0 ((List.replicate (n : Int).toNat (false : Bool)).length))], [(98030, v6, .arr eBool.k 4 (eBool.E (List.replicate (n : Int).toNat (false : Bool))))]⟩) (AS.le_of ⟨rfl, rfl, trivial⟩ ⟨rfl, trivial⟩) ?_)))
      clear hK K
      simp only [Int.toNat_natCast, List.length_replicate]
      refine AW.rgs rfl fun K hK => ?_
      refine mv rfl rfl ?_
      refine mv rfl rfl ?_
      refine b_op rfl (o_copy (m := 1) (n := n) (off := 0) (ds := [HV.bool true]) (zs := (List.replicate (min 1 n) true ++ List.replicate (n - min 1 n) false).map HV.bool) rfl rfl rfl ty127 ty4 rfl rfl rfl rfl ?_ ?_ ?_ ?_)
      · show 0 + n * 1 ≤ ((List.replicate n false).map HV.bool).length
        simp
      · simp only [asrc, ty127]
        trivial
      · exact rep_first n
      refine mv rfl rfl ?_
      refine b_nil (hK _ (AW.to (to_le (s' := ⟨[(7, HV.ar 98030 v6 1 0 n), (8, HV.int .i64 ((min 1 n : Nat) : Int))], [(98030, v6, .arr 1 4 ((List.replicate (min 1 n) true ++ List.replicate (n - min 1 n) false).map HV.bool))]⟩) (AS.le_of ⟨rfl, rfl, trivial⟩ ⟨rfl, trivial⟩) ?_)))
      clear hK K
      refine AW.seq (AW.block ?_)
      refine AW.loopS (fun m : Nat => ⟨[(7, HV.ar 98030 v6 1 0 n), (8, HV.int .i64 (m : Int))], [(98030, v6, .arr 1 4 ((List.replicate m true ++ List.replicate (n - m) false).map HV.bool))]⟩)
        (fun m => m ≤ n ∧ (m = 0 → n = 0)) (fun m => n - m) (min 1 n) (AS.le_refl _) ⟨by omega, by omega⟩ ?_
      rintro m ⟨hm, hm0⟩
      refine AW.seq ?_
      refine AW.rgs rfl fun K hK => ?_
      refine mv rfl rfl ?_
      refine mv rfl rfl ?_
      refine bv rfl (v_lenA rfl rfl ty127 rfl rfl) ?_
      refine bv rfl (v_bin rfl rfl b_lss) ?_
      refine b_nil (hK _ (AW.to (to_le (s' := ⟨[(7, HV.ar 98030 v6 1 0 n), (8, HV.int .i64 (m : Int)), (37, HV.bool (decide ((m : Int) < (n : Int))))], [(98030, v6, .arr 1 4 ((List.replicate m true ++ List.replicate (n - m) false).map HV.bool))]⟩) (AS.le_of ⟨rfl, rfl, rfl, trivial⟩ ⟨rfl, trivial⟩) ?_)))
      clear hK K
      refine AW.cond rfl (fun hc => ?_) (fun hc => ?_)
      · have hlt : m < n := by have := of_decide_eq_true hc; omega
        refine AW.skip ?_
        refine AW.block ?_
        refine AW.dy follows fun K hK => ?_
        have hcells : ((List.replicate m true ++ List.replicate (n - m) false).map HV.bool).length = n := by simp; omega
        refine y_stZ 7 0 rfl rfl ?_
        refine sm rfl rfl ?_
        refine sm rfl rfl ?_
        refine sm rfl rfl ?_
        refine sv rfl (hv := HV.ar 98030 v6 1 (0 + m * 1) (n - m)) (v_sliceA (k := 1) (n := n) (a := (m : Int)) (b := (n : Int)) ty127 es127 rfl rfl rfl (by omega) rfl) ?_
        refine sm rfl rfl ?_
        refine sm rfl rfl ?_
        refine sv rfl (hv := HV.ar 98030 v6 1 (0 + 0 * 1) (m - 0)) (v_sliceA (k := 1) (n := n) (a := (0 : Int)) (b := (m : Int)) ty127 es127 rfl rfl rfl (by omega) rfl) ?_
        refine s_nil ?_
        refine y_late (dz := 38) (dq := 45) (x := .tmp 8) (v := .int .i64 (m : Int)) (vq := .int .i64 ((min (m - 0) (n - m) : Nat) : Int)) (H' := [(98030, v6, .arr 1 4 ((List.replicate (m + min m (n - m)) true ++ List.replicate (n - (m + min m (n - m))) false).map HV.bool))]) rfl rfl rfl rfl rfl rfl rfl (by decide) (fun sl' H2 hl => ?_) (fun sl' H2 hl => ?_) (fun sl' hl K' hK' hc => ?_) ?_
        · show sget sl' 8 = _
          rw [hl 8 (by decide)]; rfl
        · show sget sl' 8 = _
          rw [hl 8 (by decide)]; rfl
        · have e41 : (⟨sl', [(98030, v6, .arr 1 4 ((List.replicate m true ++ List.replicate (n - m) false).map HV.bool))]⟩ : AS).ev (.tmp 41) = some (.ar 98030 v6 1 (0 + m * 1) (n - m)) := by
            show sget sl' 41 = _
            rw [hl 41 (by decide)]; rfl
          have e44 : (⟨sl', [(98030, v6, .arr 1 4 ((List.replicate m true ++ List.replicate (n - m) false).map HV.bool))]⟩ : AS).ev (.tmp 44) = some (.ar 98030 v6 1 (0 + 0 * 1) (m - 0)) := by
            show sget sl' 44 = _
            rw [hl 44 (by decide)]; rfl
          refine AOp.copy (t := 127) (xt := 127) (x := .tmp 41) (y := .tmp 44) (k := 1) (off := 0 + m * 1) (n := n - m) (m := m - 0) (ds := (((List.replicate m true ++ List.replicate (n - m) false).map HV.bool).drop (0 + 0 * 1)).take ((m - 0) * 1)) rfl rfl ty127 rfl ty4 e41 e44 (fun l e => by cases e) hget_0 ?_ ?_ ?_
          · simp only [asrc, ty127, hget, if_pos]
            refine ⟨trivial, trivial, ?_, trivial, ?_⟩
            · rw [hcells]
              show 0 + 0 * 1 + (m - 0) * 1 ≤ n
              omega
            · trivial
          · rw [hcells]
            show 0 + m * 1 + (n - m) * 1 ≤ n
            omega
          · refine hc _ _ ?_ (fun u => ?_) hK'
            · show hset _ _ _ _ = _
              rw [show ∀ ob : AObj, hset [(98030, v6, .arr 1 4 ((List.replicate m true ++ List.replicate (n - m) false).map HV.bool))] 98030 v6 ob = [(98030, v6, ob)] from fun ob => by simp [hset]]
              have := rep_half (n := n) (m := m) rfl hm
              exact congrArg (fun xs => [(98030, v6, AObj.arr 1 4 xs)]) this
            · show sget (AS.put _ (some 45) _).slots u = _
              simp only [AS.put, sget_sset, sget]
        · have hw : IntKind.wrap .i64 ((m : Int) + ((min (m - 0) (n - m) : Nat) : Int)) = ((m + min m (n - m) : Nat) : Int) := by
            rw [w64 (by omega) (by omega)]; omega
          refine y_op rfl rfl rfl rfl (o_val rfl (v_bin rfl rfl b_add) ?_)
          refine b_nil ?_
          refine y_op rfl rfl rfl rfl (o_val rfl (mv_val rfl rfl).2 ?_)
          refine b_nil ?_
          refine y_nil rfl (hK _ ?_)
          rw [hw]
          exact ⟨m + min m (n - m), ⟨by omega, by omega⟩, by omega, AS.le_of ⟨rfl, rfl, trivial⟩ ⟨rfl, trivial⟩⟩
      · have hge : m = n := by have := of_decide_eq_false hc; omega
        subst hge
        refine AW.exit ?_
        have e0 : List.replicate m true ++ List.replicate (m - m) false = List.replicate m true := by simp
        rw [e0]
        refine AW.rgs rfl fun K hK => ?_
        refine mv rfl rfl ?_
        refine mv rfl rfl ?_
        refine b_nil (hK _ (AW.to (to_le (s' := ⟨[(4, HV.ar 98030 v6 eBool.k 0 ((List.replicate m true).length))], [(98030, v6, .arr eBool.k 4 (eBool.E (List.replicate m true)))]⟩) (AS.le_of ⟨arl (by simp), trivial⟩ ⟨rfl, trivial⟩) ?_)))
        clear hK K
        refine AW.to (to_frz 2 [(98030, v6, .arr eBool.k 4 (eBool.E (List.replicate m true)))] ⟨[(4, slE eBool (List.replicate m true))], []⟩ ⟨⟨_, rfl, frz_slE eBool (l := List.replicate m true) rfl fun _ _ => rfl⟩, trivial⟩ trivial ⟨rfl, trivial⟩ ⟨rfl, trivial⟩ ?_)
        refine AW.ret ?_
        exact ret_pure (hs := [slE eBool (List.replicate m true)]) (q := slE eBool (List.replicate m true)) (.inr rfl) (resT rfl rfl) rfl (clean_slE fun _ _ => ⟨trivial, trivial⟩)

theorem w_slices_Repeat_Lbool_bool {x r : List Bool} {n : Int} (h : m_slices_Repeat_Lbool_bool x n = some r) : Pure Try.prog 98 [slE eBool x, .int .i64 n] (· = slE eBool r) := by
  unfold m_slices_Repeat_Lbool_bool at h
  split at h
  · rename_i hc
    obtain ⟨rfl, h0, h8⟩ := hc
    cases h
    obtain ⟨m, rfl⟩ := Int.eq_ofNat_of_zero_le h0
    exact rep_n (by omega)
  · cases h
end Go.AW

/- Arrays of arrays in lockstep: an owned array in a place of an owned array of frozen ones (a place that is filled later). -/
namespace Go.AW
open Go

theorem SR.frzH {w : World} {μ : Mu} {H D H' : Heap} (n : Nat) (h : SR w μ H) (hD : ∀ id x, hget D id = some x → hget H id = some x ∧ hget H' id = none)
    (hs : ∀ id ver o, hget H' id = some (ver, o) → hget H id = some (ver, o) ∨ ∃ k e cs, hget H id = some (ver, .arr k e cs) ∧ o = .arr k e (cs.map (frz n D))) : SR w (μ.cut H') H' where
  ok := fun id ver b hb => h.ok id ver b (Mu.cut_some hb)
  has := fun id ver o ho => by
    rcases hs id ver o ho with h1 | ⟨k, e, cs, h1, rfl⟩
    · obtain ⟨l, hl, hor⟩ := h.has id ver o h1
      exact ⟨l, by simp [Mu.cut, ho, hl], hor.evo (Evo.cut w μ H') h.ok (fun _ _ => rfl) (fun _ _ _ _ _ _ _ _ => rfl)⟩
    · obtain ⟨l, hl, hor⟩ := h.has id ver _ h1
      refine ⟨l, by simp [Mu.cut, ho, hl], ?_⟩
      cases l with
      | none =>
        have : cs = [] := hor
        subst this
        exact (rfl : ([] : List HV).map (frz n D) = [])
      | some b =>
        obtain ⟨h0, cur, vs, rest, hrow, hcl, hrl⟩ := hor
        exact ⟨ones_frz h0, cur, vs, rest, hrow, hcl, RepL.mapF (fun c x _ => frz_rep h hD n c x) hrl⟩
  only := fun id x hx => by
    simp only [Mu.cut] at hx
    split at hx
    · rename_i hi; exact Option.isSome_iff_exists.1 hi
    · cases hx
  inj := fun i j v u b hi hj => h.inj i j v u b (Mu.cut_some hi) (Mu.cut_some hj)
  held := fun b hb => ⟨(h.held b hb).1, fun ⟨id, ver, hl⟩ => (h.held b hb).2 ⟨id, ver, Mu.cut_some hl⟩⟩

def leO (n : Nat) (D : Heap) (l : Heap) : Heap → Prop
  | [] => True
  | (i, v, o) :: l' => (hget l i = some (v, o) ∨ ∃ k e cs, hget l i = some (v, .arr k e cs) ∧ o = .arr k e (cs.map (frz n D))) ∧ leO n D l l'
theorem leO_get {n : Nat} {D l : Heap} : ∀ {l' : Heap}, leO n D l l' → ∀ t v o, hget l' t = some (v, o) → hget l t = some (v, o) ∨ ∃ k e cs, hget l t = some (v, .arr k e cs) ∧ o = .arr k e (cs.map (frz n D))
  | [], _, _, _, _, h => by cases h
  | (i, g, u) :: l', h, t, v, o, ht => by
    simp only [hget] at ht
    split at ht
    · rename_i e; subst e; cases ht; exact h.1
    · exact leO_get h.2 t v o ht

/-- arrays are frozen, where they lie in other arrays too -/
theorem to_fill {s : AS} {G : AS → Prop} (n : Nat) (D : Heap) (s' : AS) (h1 : leF n D s.slots s'.slots) (h2 : leO n D s.heap s'.heap) (h3 : leH s.heap D) (h4 : noneH s'.heap D) (h : G s') : s.to G := by
  intro ro N B μ a w hs
  have hD : ∀ id x, hget D id = some x → hget s.heap id = some x ∧ hget s'.heap id = none := fun id x hx => ⟨leH_get h3 id x hx, noneH_get h4 id x hx⟩
  refine ⟨μ.cut s'.heap, s', h, ⟨hs.size, hs.sr.frzH n hD (leO_get h2), fun t hv ht => ?_, hs.marks.evo (Evo.cut w μ s'.heap), hs.ro.evo (Evo.cut w μ s'.heap)⟩, Evo.cut w μ s'.heap⟩
  obtain ⟨g, hg, rfl⟩ := leF_get h1 t hv ht
  exact ⟨(hs.slot t g hg).1, frz_rep hs.sr hD n g _ (hs.slot t g hg).2⟩

theorem fill_obj {α : Type} {c : EncL α} {D : Heap} {C ver n i : Nat} {e e2 : TypeId} {L : List (List α)} {m : List α} (hg : hget D C = some (ver, .arr c.k e2 (c.E m))) (hn : n = m.length) (hc : ∀ x, (c.C x).map (frz 1 D) = c.C x) :
    (AObj.arr (eSl c).k e ((eSl c).E (L.set i m))) = .arr (eSl c).k e ((((eSl c).E L).set i (.ar C ver c.k 0 n)).map (frz 2 D)) := by
  congr 1
  show (L.set i m).map (slE c) = ((L.map (slE c)).set i _).map (frz 2 D)
  rw [List.map_set, List.map_set, hn, frz_slE c hg fun x _ => hc x, List.map_map]
  congr 1

theorem LeL.ones : ∀ {aa bs : List HV} (_ : LeL aa bs), ones aa → ones bs
  | _, _, .nil, h => h
  | _, _, .cons h h', h0 => fun c hc => by
    rcases List.mem_cons.1 hc with rfl | hc
    · have := h0 _ (List.mem_cons_self ..)
      cases h with
      | refl => exact this
      | nil => rfl
      | empty => rfl
    · exact LeL.ones h' (fun d hd => h0 d (List.mem_cons_of_mem _ hd)) c hc

theorem to_cells {s : AS} {G : AS → Prop} (id ver : Nat) {k : Nat} {e : TypeId} {cs ds : List HV} (hg : hget s.heap id = some (ver, .arr k e cs)) (hl : LeL cs ds) (h : G ⟨s.slots, (id, ver, .arr k e ds) :: s.heap⟩) : s.to G := by
  intro ro N B μ a w hs
  have h1 := hs.sr.reobj (o' := .arr k e ds) hg fun l _ hor => by
    cases l with
    | none =>
      have : cs = [] := hor
      subst this
      cases hl
      exact hor
    | some b =>
      obtain ⟨h0, cur, vs, rest, hrow, hcl, hrl⟩ := hor
      exact ⟨hl.ones h0, cur, vs, rest, hrow, hcl, hl.rep hrl⟩
  refine ⟨μ, _, h, ⟨hs.size, h1.le fun j x => ?_, hs.slot, hs.marks, hs.ro⟩, Evo.refl w μ⟩
  simp only [hget, hget_hset]

section
variable {P : Program} {ro : Option Nat} {N : Nat} {all : Array Oper} {s : AS} {rest : List Oper} {o : Oper} {K : AS → Prop} {fid : Nat} {sl : List (Nat × HV)} {H : Heap}

theorem AOps.to {is : List Nat} (h : s.to (AOps P ro N all is K)) : AOps P ro N all is K s := fun w0 μ0 μ a w Q hs hE hK => by
  obtain ⟨μ1, t, ht, hs1, E1⟩ := h ro N w0.heap.size μ a w hs
  exact ht w0 μ0 μ1 a w Q hs1 (hE.trans E1) hK
theorem b_to {l : List Oper} (h : s.to (bops P ro N all l K)) : bops P ro N all l K s := fun hok i hi => AOps.to (to_mono h fun t ht => ht hok i hi)

theorem leL_nils {α : Type} (c : EncL α) (n : Nat) : LeL ((encM fun _ : Unit => HV.v (.slice none 0 0)).E (List.replicate n ())) ((eSl c).E (List.replicate n ([] : List α))) := by
  show LeL ((List.replicate n ()).map _) ((List.replicate n ([] : List α)).map (slE c))
  rw [List.map_replicate, List.map_replicate]
  have : slE c [] = HV.sl c.k 0 [] := by show HV.sl c.k 0 (c.E []) = _; rw [c.nil]
  rw [this]
  induction n with
  | zero => exact .nil
  | succ n ih => exact .cons (.nil c.k) ih

/-- make of an array of nil slices -/
theorem o_makeN {α : Type} (c : EncL α) {d : Nat} {t e : TypeId} {a b : Nat} {z : Value} {x y : Operand} {l m : Int} {Te : TyI} (id : Nat) (h0 : (o.dst, o.op) = (some d, .makeSlice t x y)) (hid : fid * 1000 + d = id) (hT : ty P t = some ⟨.slice e, a, b, z⟩) (hx : (⟨sl, H⟩ : AS).ev x = some (.int .i64 l)) (hy : (⟨sl, H⟩ : AS).ev y = some (.int .i64 m)) (hTe : ty P e = some Te)
    (hz : zcells Te.zero = some [.v (.slice none 0 0)]) (h1 : Te.size = 1) (h2 : 0 ≤ l ∧ l ≤ m ∧ m * Te.bytes ≤ 281474976710656)
    (k : ∀ ver, bops P ro N all rest K ⟨(d, .ar id ver (eSl c).k 0 (List.replicate l.toNat ([] : List α)).length) :: sl, (id, ver, .arr (eSl c).k e ((eSl c).E (List.replicate l.toNat []))) :: H⟩) : aop P fid [] o (fun s' => bops P ro N all rest K s') ⟨sl, H⟩ := by
  refine o_makeE (encM fun _ : Unit => HV.v (.slice none 0 0)) () id h0 hid hT hx hy hTe hz h1 h2 fun ver => ?_
  refine b_to (to_cells (k := (eSl c).k) (e := e) (cs := (encM fun _ : Unit => HV.v (.slice none 0 0)).E (List.replicate l.toNat ())) (ds := (eSl c).E (List.replicate l.toNat [])) id ver (by simp only [hget, if_pos]; rfl) (leL_nils c l.toNat) ?_)
  refine bops_le ?_ (k ver)
  refine ⟨fun t hv ht => ?_, fun j x hj => ?_⟩
  · simp only [sget] at ht ⊢
    split at ht
    · rename_i e'
      rw [if_pos e']
      cases ht
      simp only [List.length_replicate]
      rfl
    · rename_i e'
      rw [if_neg e']
      exact ht
  · simp only [hget] at hj ⊢
    split at hj
    · rename_i e'
      rw [if_pos e']
      exact hj
    · rename_i e'
      rw [if_neg e', if_neg e']
      exact hj

theorem splice_one {xs : List HV} {i : Nat} (v : HV) (h : i < xs.length) : splice xs i [v] = xs.set i v := by
  rw [splice_eq (by show i + 1 ≤ _; omega), List.set_eq_take_append_cons_drop, if_pos h]
  simp

/-- an owned array into a place -/
theorem o_storeH {α : Type} (c : EncL α) {t : TypeId} {x y : Operand} {id ver : Nat} {e : TypeId} {hv : HV} {T : TyI} {L : List (List α)} {j : Int} (h0 : (o.dst, o.op) = (none, .store t x y)) (hx : (⟨sl, H⟩ : AS).ev x = some (.ptr id ver (j.toNat * (eSl c).k))) (hy : (⟨sl, H⟩ : AS).ev y = some hv) (hT : ty P t = some T) (hc : hv.cells? = some [hv])
    (hg : hget H id = some (ver, .arr (eSl c).k e ((eSl c).E L))) (h1 : T.size = 1) (hj : 0 ≤ j ∧ j < L.length) (kk : bops P ro N all rest K ⟨sl, (id, ver, .arr (eSl c).k e (((eSl c).E L).set j.toNat hv)) :: H⟩) : aop P 0 [] o (fun s' => bops P ro N all rest K s') ⟨sl, H⟩ := by
  have hl : ((eSl c).E L).length = L.length := by show (L.map (slE c)).length = _; rw [List.length_map]
  have hlt : j.toNat < ((eSl c).E L).length := by rw [hl]; omega
  have e1 : (eSl c).k = 1 := rfl
  refine o_store_z (s := ⟨sl, H⟩) (cs := [hv]) (zs := ((eSl c).E L).set j.toNat hv) h0 hx hy hT hc hg h1 ?_ ?_ kk
  · rw [e1, Nat.mul_one]
    exact Nat.ble_eq_true_of_le (by show j.toNat + 1 ≤ _; omega)
  · rw [e1, Nat.mul_one]
    exact splice_one hv hlt

theorem l_hole {α : Type} (c : EncL α) {T : TyI} {L : List (List α)} {j : Int} {x : List α} (v : HV) (h : idx L j = some x) (ha : aggD T.desc = false) : loadK T (((eSl c).E L).set j.toNat v) (j.toNat * (eSl c).k) (· = v) := by
  refine l_lit ha ?_
  have := idx_lt h
  show ((L.map (slE c)).set j.toNat v)[j.toNat * 1]? = some v
  rw [Nat.mul_one, List.getElem?_set_self]
  rw [List.length_map]; omega
theorem l_holeN {α : Type} (c : EncL α) {T : TyI} {L : List (List α)} {j : Int} {i : Nat} {x : List α} (v : HV) (h : idx L j = some x) (hn : j.toNat ≠ i) (ha : aggD T.desc = false) : loadK T (((eSl c).E L).set i v) (j.toNat * (eSl c).k) (· = slE c x) := by
  refine l_lit ha ?_
  show ((L.map (slE c)).set i v)[j.toNat * 1]? = some _
  rw [Nat.mul_one, List.getElem?_set_ne (Ne.symm hn), List.getElem?_map, idx_get h]
  rfl
end
end Go.AW

namespace Go.AW
open Go Go.Proofs
set_option linter.unusedVariables false
set_option maxHeartbeats 1600000 in
set_option maxRecDepth 100000 in
theorem w_slices_Index_Lbool_bool {p0 : List (Bool)} {p1 : Bool} {r : Int} (h : m_slices_Index_Lbool_bool p0 p1 = some r) : Pure Try.prog 143 [slE eBool p0, HV.bool p1] (· = HV.int .i64 r) := by
  unfold m_slices_Index_Lbool_bool at h
  refine Pure.of_body Try.func143 rfl rfl (Nat.le_of_ble_eq_true rfl) fun hf => ?_
  unfold Try.f143
  dsimp only [enumS, Nat.reduceAdd]
  refine AW.rgs rfl fun K hK => ?_
  refine mv rfl rfl ?_
  refine b_nil (hK _ (AW.to (to_le (s' := ⟨[(0, slE eBool p0), (1, HV.bool p1)], []⟩) (AS.le_of ⟨rfl, rfl, trivial⟩ trivial) ?_)))
  clear hK K
  refine AW.seq ?_
  refine AW.rgs rfl fun K hK => ?_
  refine mv rfl rfl ?_
  refine bv rfl (v_lenF rfl rfl ty127 rfl) ?_
  refine mv rfl rfl ?_
  refine b_nil (hK _ (AW.to (to_le (s' := ⟨[(0, slE eBool p0), (1, HV.bool p1), (7, HV.int .i64 ((p0).length : Int)), (8, HV.int .i64 0)], []⟩) (AS.le_of ⟨rfl, rfl, rfl, rfl, trivial⟩ trivial) ?_)))
  clear hK K
  refine AW.lpR h (by first | exact up_then | exact up_to) (S := Int) (V := Unit) (fun a v => ⟨[(0, slE eBool p0), (1, HV.bool p1), (7, HV.int .i64 ((p0).length : Int)), (8, HV.int .i64 a)], []⟩) ?_ (X := Unit) (W := Unit) (fun a v => ⟨[], []⟩) (fun a7 w8 h => ?_) (fun a1 w2 st3 h hr4=> ?_)
  · exact to_le (s' := ⟨[(0, slE eBool p0), (1, HV.bool p1), (7, HV.int .i64 ((p0).length : Int)), (8, HV.int .i64 0)], []⟩) (AS.le_of ⟨rfl, rfl, rfl, rfl, trivial⟩ trivial) ⟨(), rfl⟩
  · refine AW.rgs rfl fun K hK => ?_
    refine mv rfl rfl ?_
    refine b_nil (hK _ (AW.to (to_le (s' := ⟨[(4, HV.int .i64 (-1))], []⟩) (AS.le_of ⟨rfl, trivial⟩ trivial) ?_)))
    clear hK K
    refine AW.ret ?_
    have h := Option.some.inj h
    subst h
    exact ret_pure (hs := [HV.int .i64 (-1)]) (q := HV.int .i64 (-1)) (.inr rfl) (resT rfl rfl) rfl trivial
  · refine AW.rgs rfl fun K hK => ?_
    refine bv rfl (v_bin rfl rfl b_lss) ?_
    refine b_nil (hK _ (AW.to (to_le (s' := ⟨[(0, slE eBool p0), (1, HV.bool p1), (7, HV.int .i64 ((p0).length : Int)), (8, HV.int .i64 a1), (9, HV.bool (decide (a1 < ((p0).length : Int))))], []⟩) (AS.le_of ⟨rfl, rfl, rfl, rfl, rfl, trivial⟩ trivial) ?_)))
    clear hK K
    refine AW.cseq rfl (fun hc => ?_) (fun hc => ?_)
    · have hc := of_decide_eq_true hc
      have h := ifT hc h
      refine AW.skip ?_
      refine AW.seq (AW.block ?_)
      refine AW.rgs rfl fun K hK => ?_
      refine mv rfl rfl ?_
      refine mv rfl rfl ?_
      refine b_nil (hK _ (AW.to (to_le (s' := ⟨[(0, slE eBool p0), (1, HV.bool p1), (5, HV.int .i64 a1), (7, HV.int .i64 ((p0).length : Int)), (8, HV.int .i64 a1)], []⟩) (AS.le_of ⟨rfl, rfl, rfl, rfl, rfl, trivial⟩ trivial) ?_)))
      clear hK K
      refine AW.rgs rfl fun K hK => ?_
      refine mv rfl rfl ?_
      refine mv rfl rfl ?_
      refine mv rfl rfl ?_
      obtain ⟨x5, h6, h⟩ := bS h
      refine bv rfl (v_idxF ty127 es127 rfl rfl (idx_lt h6)) ?_
      refine bv rfl (v_loadF ty4 rfl (l_cell eBool h6 (o := 0) rfl rfl)) ?_
      refine bv rfl (v_bin rfl rfl (b_eqB ty4)) ?_
      refine b_nil (hK _ (AW.to (to_le (s' := ⟨[(0, slE eBool p0), (1, HV.bool p1), (5, HV.int .i64 a1), (7, HV.int .i64 ((p0).length : Int)), (8, HV.int .i64 a1), (16, HV.bool (p1 == x5))], []⟩) (AS.le_of ⟨rfl, rfl, rfl, rfl, rfl, rfl, trivial⟩ trivial) ?_)))
      clear hK K
      refine AW.cond rfl (fun hc => ?_) (fun hc => ?_)
      · have h := ifT hc h
        refine AW.rgs rfl fun K hK => ?_
        refine mv rfl rfl ?_
        refine mv rfl rfl ?_
        refine b_nil (hK _ (AW.to (to_le (s' := ⟨[(4, HV.int .i64 a1)], []⟩) (AS.le_of ⟨rfl, trivial⟩ trivial) ?_)))
        clear hK K
        have h := hr4 _ h
        refine AW.ret ?_
        have h := Option.some.inj h
        subst h
        exact ret_pure (hs := [HV.int .i64 a1]) (q := HV.int .i64 a1) (.inr rfl) (resT rfl rfl) rfl trivial
      · have h := ifF (bF' hc) h
        refine AW.skip ?_
        refine AW.rg rfl fun K hK => ?_
        refine bv rfl (v_bin rfl rfl b_add) ?_
        refine mv rfl rfl ?_
        refine b_nil (hK _ ?_)
        clear hK K
        exact to_le (s' := ⟨[(0, slE eBool p0), (1, HV.bool p1), (7, HV.int .i64 ((p0).length : Int)), (8, HV.int .i64 (IntKind.wrap .i64 (a1 + 1)))], []⟩) (AS.le_of ⟨rfl, rfl, rfl, rfl, trivial⟩ trivial) ⟨IntKind.wrap .i64 (a1 + 1), (), h, rfl⟩
    · have hc := of_decide_eq_false hc
      have h := ifF hc h
      refine AW.exit ?_
      exact to_le (s' := ⟨[], []⟩) (AS.le_of trivial trivial) ⟨(), (), h, rfl⟩

set_option maxHeartbeats 1600000 in
set_option maxRecDepth 100000 in
theorem w_slices_Contains_Lbool_bool {p0 : List (Bool)} {p1 : Bool} {r : Bool} (h : m_slices_Contains_Lbool_bool p0 p1 = some r) : Pure Try.prog 99 [slE eBool p0, HV.bool p1] (· = HV.bool r) := by
  unfold m_slices_Contains_Lbool_bool at h
  refine Pure.of_body Try.func99 rfl rfl (Nat.le_of_ble_eq_true rfl) fun hf => ?_
  unfold Try.f99
  dsimp only [enumS, Nat.reduceAdd]
  refine AW.rgs rfl fun K hK => ?_
  refine mv rfl rfl ?_
  refine b_nil (hK _ (AW.to (to_le (s' := ⟨[(0, slE eBool p0), (1, HV.bool p1)], []⟩) (AS.le_of ⟨rfl, rfl, trivial⟩ trivial) ?_)))
  clear hK K
  refine AW.rgs rfl fun K hK => ?_
  refine mv rfl rfl ?_
  refine mv rfl rfl ?_
  obtain ⟨x1, h2, h⟩ := bS h
  refine b_op rfl (o_call rfl rfl rfl rfl (ACallD.pure0 (w_slices_Index_Lbool_bool h2)) ?_)
  refine bv rfl (v_bin rfl rfl b_geq) ?_
  refine mv rfl rfl ?_
  refine b_nil (hK _ (AW.to (to_le (s' := ⟨[(4, HV.bool (decide (0 ≤ x1)))], []⟩) (AS.le_of ⟨rfl, trivial⟩ trivial) ?_)))
  clear hK K
  refine AW.ret ?_
  have h := Option.some.inj h
  subst h
  exact ret_pure (hs := [HV.bool (decide (0 ≤ x1))]) (q := HV.bool (decide (0 ≤ x1))) (.inr rfl) (resT rfl rfl) rfl trivial

set_option maxHeartbeats 1600000 in
set_option maxRecDepth 100000 in
theorem w_language_Path {p0 : TLabelsStatesEdges} {p1 : List UInt8} {r : (List (Int)) × Int} (h : m_language_Path p0 p1 = some r) : Pure Try.prog 50 [HV.agg [HV.int .i64 p0.1, HV.int .i64 p0.2.1, slE eFromLabelTo p0.2.2], HV.str p1] (· = HV.tup [slE eInt r.1, HV.int .i64 r.2]) := by
  unfold m_language_Path at h
  refine Pure.of_body Try.func50 rfl rfl (Nat.le_of_ble_eq_true rfl) fun hf => ?_
  unfold Try.f50
  dsimp only [enumS, Nat.reduceAdd]
  refine AW.rgs rfl fun K hK => ?_
  refine b_op rfl (o_box rfl rfl rfl ?_)
  refine mv rfl rfl ?_
  refine mv rfl rfl ?_
  refine b_nil (hK _ (AW.to (to_le (s' := ⟨[(1, HV.str p1), (2, HV.fptr [HV.int .i64 p0.1, HV.int .i64 p0.2.1, slE eFromLabelTo p0.2.2] 0)], []⟩) (AS.le_of ⟨rfl, rfl, trivial⟩ trivial) ?_)))
  clear hK K
  refine AW.seq ?_
  refine AW.rgs rfl fun K hK => ?_
  refine bv rfl (v_loadF ty24 rfl (l_litA rfl (Nat.le_of_ble_eq_true rfl) rfl)) ?_
  refine mv rfl rfl ?_
  obtain ⟨x1, h2, h⟩ := bS h
  refine b_op rfl (o_call rfl rfl rfl rfl (ACallD.pure0 (w_language_spells h2)) ?_)
  refine mv rfl rfl ?_
  refine b_nil (hK _ (AW.to (to_le (s' := ⟨[(1, HV.str p1), (2, HV.fptr [HV.int .i64 p0.1, HV.int .i64 p0.2.1, slE eFromLabelTo p0.2.2] 0), (6, HV.int .i64 x1)], []⟩) (AS.le_of ⟨rfl, rfl, rfl, trivial⟩ trivial) ?_)))
  clear hK K
  refine AW.rgs rfl fun K hK => ?_
  refine mv rfl rfl ?_
  refine bv rfl (v_bin rfl rfl b_neq) ?_
  refine b_nil (hK _ (AW.to (to_le (s' := ⟨[(1, HV.str p1), (2, HV.fptr [HV.int .i64 p0.1, HV.int .i64 p0.2.1, slE eFromLabelTo p0.2.2] 0), (6, HV.int .i64 x1), (19, HV.bool (decide (x1 ≠ 0)))], []⟩) (AS.le_of ⟨rfl, rfl, rfl, rfl, trivial⟩ trivial) ?_)))
  clear hK K
  refine AW.cond rfl (fun hc => ?_) (fun hc => ?_)
  · have hc := of_decide_eq_true hc
    have h := ifT hc h
    refine AW.rgs rfl fun K hK => ?_
    refine mv rfl rfl ?_
    refine mv rfl rfl ?_
    refine mv rfl rfl ?_
    refine b_nil (hK _ (AW.to (to_le (s' := ⟨[(4, HV.v (.slice none 0 0)), (5, HV.int .i64 x1)], []⟩) (AS.le_of ⟨rfl, rfl, trivial⟩ trivial) ?_)))
    clear hK K
    refine AW.to (to_weak ⟨[(4, slE eInt ([] : List Int)), (5, HV.int .i64 x1)], []⟩ ⟨⟨_, rfl, .nil _⟩, ⟨_, rfl, .refl _⟩, trivial⟩ trivial ?_)
    refine AW.ret ?_
    have h := Option.some.inj h
    subst h
    exact ret_pure (hs := [slE eInt ([] : List Int), HV.int .i64 x1]) (q := HV.tup [slE eInt ([] : List Int), HV.int .i64 x1]) (.inr rfl) (resT rfl (resT rfl rfl)) rfl ⟨(clean_slE fun _ _ => ⟨trivial, trivial⟩), trivial, trivial⟩
  · have hc := of_decide_eq_false hc
    have h := ifF hc h
    refine AW.skip ?_
    refine AW.rgs rfl fun K hK => ?_
    refine mv rfl rfl ?_
    refine bv rfl (v_lenS rfl rfl ty9 rfl) ?_
    refine bv rfl (v_bin rfl rfl b_add) ?_
    obtain ⟨h4, h⟩ := ifN h
    refine b_op rfl (o_makeN (fid := 50) eBool 50024 rfl rfl ty126 rfl rfl ty127 rfl rfl h4 (fun v3 => ?_))
    refine mv rfl rfl ?_
    refine b_nil (hK _ (AW.to (to_le (s' := ⟨[(1, HV.str p1), (2, HV.fptr [HV.int .i64 p0.1, HV.int .i64 p0.2.1, slE eFromLabelTo p0.2.2] 0), (7, HV.ar 50024 v3 (eSl eBool).k 0 ((List.replicate (IntKind.wrap .i64 (((p1).length : Int) + 1)).toNat ([] : List (Bool))).length))], [(50024, v3, .arr (eSl eBool).k 127 ((eSl eBool).E (List.replicate (IntKind.wrap .i64 (((p1).length : Int) + 1)).toNat ([] : List (Bool)))))]⟩) (AS.le_of ⟨rfl, rfl, rfl, trivial⟩ ⟨rfl, trivial⟩) ?_)))
    clear hK K
    refine AW.rgs rfl fun K hK => ?_
    refine mv rfl rfl ?_
    refine mv rfl rfl ?_
    refine bv rfl (v_lenS rfl rfl ty9 rfl) ?_
    refine b_op rfl (o_bsl rfl rfl (as_of (cs := [HV.bool true]) ty127 ty4 rfl rfl rfl rfl rfl) ?_)
    refine bv rfl (v_fieldAddrF fo24_1 rfl) ?_
    refine bv rfl (v_loadF ty3 rfl (l_lit rfl rfl)) ?_
    obtain ⟨x5, h6, h⟩ := bS h
    refine b_op rfl (o_call rfl rfl rfl rfl (ACallD.pure0 (w_slices_Repeat_Lbool_bool h6)) ?_)
    obtain ⟨x7, h8, h⟩ := bS h
    refine bv rfl (v_idxA ty126 es126 rfl rfl (idx_lt h8) rfl) ?_
    refine b_op rfl (o_storeE (eSl eBool) (l := (List.replicate (IntKind.wrap .i64 (((p1).length : Int) + 1)).toNat ([] : List (Bool)))) (j := ((p1).length : Int)) (v := x5) rfl rfl rfl ty127 rfl rfl rfl (idx_lt h8) ?_)
    refine b_nil (hK _ (AW.to (to_le (s' := ⟨[(1, HV.str p1), (2, HV.fptr [HV.int .i64 p0.1, HV.int .i64 p0.2.1, slE eFromLabelTo p0.2.2] 0), (7, HV.ar 50024 v3 (eSl eBool).k 0 (((List.replicate (IntKind.wrap .i64 (((p1).length : Int) + 1)).toNat ([] : List (Bool))).set (((p1).length : Int)).toNat x5).length))], [(50024, v3, .arr (eSl eBool).k 127 ((eSl eBool).E ((List.replicate (IntKind.wrap .i64 (((p1).length : Int) + 1)).toNat ([] : List (Bool))).set (((p1).length : Int)).toNat x5)))]⟩) (AS.le_of ⟨rfl, rfl, arl (by first | rfl | simp only [List.length_set, sortI_len, sortS_len]), trivial⟩ ⟨rfl, trivial⟩) ?_)))
    clear hK K
    refine AW.seq ?_
    refine AW.rgs rfl fun K hK => ?_
    refine mv rfl rfl ?_
    refine bv rfl (v_lenS rfl rfl ty9 rfl) ?_
    refine bv rfl (v_bin rfl rfl b_sub) ?_
    refine mv rfl rfl ?_
    refine b_nil (hK _ (AW.to (to_le (s' := ⟨[(1, HV.str p1), (2, HV.fptr [HV.int .i64 p0.1, HV.int .i64 p0.2.1, slE eFromLabelTo p0.2.2] 0), (7, HV.ar 50024 v3 (eSl eBool).k 0 (((List.replicate (IntKind.wrap .i64 (((p1).length : Int) + 1)).toNat ([] : List (Bool))).set (((p1).length : Int)).toNat x5).length)), (8, HV.int .i64 (IntKind.wrap .i64 (((p1).length : Int) - 1)))], [(50024, v3, .arr (eSl eBool).k 127 ((eSl eBool).E ((List.replicate (IntKind.wrap .i64 (((p1).length : Int) + 1)).toNat ([] : List (Bool))).set (((p1).length : Int)).toNat x5)))]⟩) (AS.le_of ⟨rfl, rfl, rfl, rfl, trivial⟩ ⟨rfl, trivial⟩) ?_)))
    clear hK K
    refine AW.lpX h (by first | exact up_then | exact up_to) (S := Int × (List (List (Bool)))) (V := Unit) (fun a v => ⟨[(1, HV.str p1), (2, HV.fptr [HV.int .i64 p0.1, HV.int .i64 p0.2.1, slE eFromLabelTo p0.2.2] 0), (7, HV.ar 50024 v3 (eSl eBool).k 0 ((a.2).length)), (8, HV.int .i64 a.1)], [(50024, v3, .arr (eSl eBool).k 127 ((eSl eBool).E a.2))]⟩) ?_ (X := (List (List (Bool)))) (W := Unit) (fun a v => ⟨[(1, HV.str p1), (2, HV.fptr [HV.int .i64 p0.1, HV.int .i64 p0.2.1, slE eFromLabelTo p0.2.2] 0), (7, HV.ar 50024 v3 (eSl eBool).k 0 ((a).length))], [(50024, v3, .arr (eSl eBool).k 127 ((eSl eBool).E a))]⟩) (fun a48 w49 h => ?_) (fun a9 w10 st11 h => ?_)
    · exact to_le (s' := ⟨[(1, HV.str p1), (2, HV.fptr [HV.int .i64 p0.1, HV.int .i64 p0.2.1, slE eFromLabelTo p0.2.2] 0), (7, HV.ar 50024 v3 (eSl eBool).k 0 (((List.replicate (IntKind.wrap .i64 (((p1).length : Int) + 1)).toNat ([] : List (Bool))).set (((p1).length : Int)).toNat x5).length)), (8, HV.int .i64 (IntKind.wrap .i64 (((p1).length : Int) - 1)))], [(50024, v3, .arr (eSl eBool).k 127 ((eSl eBool).E ((List.replicate (IntKind.wrap .i64 (((p1).length : Int) + 1)).toNat ([] : List (Bool))).set (((p1).length : Int)).toNat x5)))]⟩) (AS.le_of ⟨rfl, rfl, rfl, rfl, trivial⟩ ⟨rfl, trivial⟩) ⟨(), rfl⟩
    · refine AW.seq ?_
      refine AW.rgs rfl fun K hK => ?_
      refine mv rfl rfl ?_
      obtain ⟨x50, h51, h⟩ := bS h
      refine bv rfl (v_idxA ty126 es126 rfl rfl (idx_lt h51) rfl) ?_
      obtain ⟨x52, h53, h⟩ := bS h
      refine bv rfl (v_loadP ty127 rfl rfl (l_cell (eSl eBool) h53 (o := 0) rfl rfl)) ?_
      obtain ⟨x54, h55, h⟩ := bS h
      refine b_op rfl (o_call rfl rfl rfl rfl (ACallD.pure0 (w_slices_Contains_Lbool_bool h55)) ?_)
      refine bv rfl (v_not rfl) ?_
      refine b_nil (hK _ (AW.to (to_le (s' := ⟨[(1, HV.str p1), (2, HV.fptr [HV.int .i64 p0.1, HV.int .i64 p0.2.1, slE eFromLabelTo p0.2.2] 0), (7, HV.ar 50024 v3 (eSl eBool).k 0 ((a48).length)), (83, HV.bool (!x54))], [(50024, v3, .arr (eSl eBool).k 127 ((eSl eBool).E a48))]⟩) (AS.le_of ⟨rfl, rfl, rfl, rfl, trivial⟩ ⟨rfl, trivial⟩) ?_)))
      clear hK K
      refine AW.cond rfl (fun hc => ?_) (fun hc => ?_)
      · have h := ifT hc h
        refine AW.rgs rfl fun K hK => ?_
        refine mv rfl rfl ?_
        refine mv rfl rfl ?_
        refine b_nil (hK _ (AW.to (to_le (s' := ⟨[(4, HV.v (.slice none 0 0)), (5, HV.int .i64 13)], []⟩) (AS.le_of ⟨rfl, rfl, trivial⟩ trivial) ?_)))
        clear hK K
        refine AW.to (to_weak ⟨[(4, slE eInt ([] : List Int)), (5, HV.int .i64 13)], []⟩ ⟨⟨_, rfl, .nil _⟩, ⟨_, rfl, .refl _⟩, trivial⟩ trivial ?_)
        refine AW.ret ?_
        have h := Option.some.inj h
        subst h
        exact ret_pure (hs := [slE eInt ([] : List Int), HV.int .i64 13]) (q := HV.tup [slE eInt ([] : List Int), HV.int .i64 13]) (.inr rfl) (resT rfl (resT rfl rfl)) rfl ⟨(clean_slE fun _ _ => ⟨trivial, trivial⟩), trivial, trivial⟩
      · have h := ifF (bF' hc) h
        refine AW.skip ?_
        refine AW.rgs rfl fun K hK => ?_
        refine mv rfl rfl ?_
        refine b_nil (hK _ (AW.to (to_le (s' := ⟨[(1, HV.str p1), (2, HV.fptr [HV.int .i64 p0.1, HV.int .i64 p0.2.1, slE eFromLabelTo p0.2.2] 0), (7, HV.ar 50024 v3 (eSl eBool).k 0 ((a48).length)), (11, HV.v (.slice none 0 0))], [(50024, v3, .arr (eSl eBool).k 127 ((eSl eBool).E a48))]⟩) (AS.le_of ⟨rfl, rfl, rfl, rfl, trivial⟩ ⟨rfl, trivial⟩) ?_)))
        clear hK K
        refine AW.seq ?_
        refine AW.rgs rfl fun K hK => ?_
        refine mv rfl rfl ?_
        refine bv rfl (v_lenS rfl rfl ty9 rfl) ?_
        refine mv rfl rfl ?_
        refine b_nil (hK _ (AW.to (to_le (s' := ⟨[(1, HV.str p1), (2, HV.fptr [HV.int .i64 p0.1, HV.int .i64 p0.2.1, slE eFromLabelTo p0.2.2] 0), (7, HV.ar 50024 v3 (eSl eBool).k 0 ((a48).length)), (11, HV.v (.slice none 0 0)), (85, HV.int .i64 ((p1).length : Int)), (86, HV.int .i64 0)], [(50024, v3, .arr (eSl eBool).k 127 ((eSl eBool).E a48))]⟩) (AS.le_of ⟨rfl, rfl, rfl, rfl, rfl, rfl, trivial⟩ ⟨rfl, trivial⟩) ?_)))
        clear hK K
        refine AW.lpX h (by first | exact up_then | exact up_to) (S := Int × (List Int)) (V := Nat) (fun a v => ⟨[(1, HV.str p1), (2, HV.fptr [HV.int .i64 p0.1, HV.int .i64 p0.2.1, slE eFromLabelTo p0.2.2] 0), (7, HV.ar 50024 v3 (eSl eBool).k 0 ((a48).length)), (11, HV.ar 50137 v eInt.k 0 ((a.2).length)), (85, HV.int .i64 ((p1).length : Int)), (86, HV.int .i64 a.1)], [(50024, v3, .arr (eSl eBool).k 127 ((eSl eBool).E a48)), (50137, v, .arr eInt.k 3 (eInt.E a.2))]⟩) ?_ (X := (List Int)) (W := Nat) (fun a v => ⟨[(11, HV.ar 50137 v eInt.k 0 ((a).length))], [(50137, v, .arr eInt.k 3 (eInt.E a))]⟩) (fun a94 w95 h => ?_) (fun a56 w57 st58 h => ?_)
        · refine to_bind (to_own 50137 11 eInt.k 3 rfl fun v93 => ?_)
          exact to_le (s' := ⟨[(1, HV.str p1), (2, HV.fptr [HV.int .i64 p0.1, HV.int .i64 p0.2.1, slE eFromLabelTo p0.2.2] 0), (7, HV.ar 50024 v3 (eSl eBool).k 0 ((a48).length)), (11, HV.ar 50137 v93 eInt.k 0 ((([] : List Int)).length)), (85, HV.int .i64 ((p1).length : Int)), (86, HV.int .i64 0)], [(50024, v3, .arr (eSl eBool).k 127 ((eSl eBool).E a48)), (50137, v93, .arr eInt.k 3 (eInt.E ([] : List Int)))]⟩) (AS.le_of ⟨rfl, rfl, rfl, arl (by first | rfl | simp only [List.length_set, sortI_len, sortS_len]), rfl, rfl, trivial⟩ ⟨rfl, rfl, trivial⟩) ⟨v93, rfl⟩
        · refine AW.rgs rfl fun K hK => ?_
          refine mv rfl rfl ?_
          refine mv rfl rfl ?_
          refine mv rfl rfl ?_
          refine b_nil (hK _ (AW.to (to_le (s' := ⟨[(4, HV.ar 50137 w95 eInt.k 0 ((a94).length)), (5, HV.int .i64 0)], [(50137, w95, .arr eInt.k 3 (eInt.E a94))]⟩) (AS.le_of ⟨rfl, rfl, trivial⟩ ⟨rfl, trivial⟩) ?_)))
          clear hK K
          refine AW.to (to_frz 2 [(50137, w95, .arr eInt.k 3 (eInt.E a94))] ⟨[(4, slE eInt a94), (5, HV.int .i64 0)], []⟩ ⟨⟨_, rfl, frz_slE eInt (l := a94) rfl fun _ _ => rfl⟩, ⟨_, rfl, rfl⟩, trivial⟩ trivial ⟨rfl, trivial⟩ ⟨rfl, trivial⟩ ?_)
          refine AW.ret ?_
          have h := Option.some.inj h
          subst h
          exact ret_pure (hs := [slE eInt a94, HV.int .i64 0]) (q := HV.tup [slE eInt a94, HV.int .i64 0]) (.inr rfl) (resT rfl (resT rfl rfl)) rfl ⟨(clean_slE fun _ _ => ⟨trivial, trivial⟩), trivial, trivial⟩
        · refine AW.rgs rfl fun K hK => ?_
          refine bv rfl (v_bin rfl rfl b_lss) ?_
          refine b_nil (hK _ (AW.to (to_le (s' := ⟨[(1, HV.str p1), (2, HV.fptr [HV.int .i64 p0.1, HV.int .i64 p0.2.1, slE eFromLabelTo p0.2.2] 0), (7, HV.ar 50024 v3 (eSl eBool).k 0 ((a48).length)), (11, HV.ar 50137 w57 eInt.k 0 ((a56.2).length)), (85, HV.int .i64 ((p1).length : Int)), (86, HV.int .i64 a56.1), (87, HV.bool (decide (a56.1 < ((p1).length : Int))))], [(50024, v3, .arr (eSl eBool).k 127 ((eSl eBool).E a48)), (50137, w57, .arr eInt.k 3 (eInt.E a56.2))]⟩) (AS.le_of ⟨rfl, rfl, rfl, rfl, rfl, rfl, rfl, trivial⟩ ⟨rfl, rfl, trivial⟩) ?_)))
          clear hK K
          refine AW.cseq rfl (fun hc => ?_) (fun hc => ?_)
          · have hc := of_decide_eq_true hc
            have h := ifT hc h
            refine AW.skip ?_
            refine AW.seq (AW.block ?_)
            refine AW.rgs rfl fun K hK => ?_
            refine mv rfl rfl ?_
            refine mv rfl rfl ?_
            refine b_nil (hK _ (AW.to (to_le (s' := ⟨[(1, HV.str p1), (2, HV.fptr [HV.int .i64 p0.1, HV.int .i64 p0.2.1, slE eFromLabelTo p0.2.2] 0), (7, HV.ar 50024 v3 (eSl eBool).k 0 ((a48).length)), (11, HV.ar 50137 w57 eInt.k 0 ((a56.2).length)), (12, HV.int .i64 a56.1), (85, HV.int .i64 ((p1).length : Int)), (86, HV.int .i64 a56.1)], [(50024, v3, .arr (eSl eBool).k 127 ((eSl eBool).E a48)), (50137, w57, .arr eInt.k 3 (eInt.E a56.2))]⟩) (AS.le_of ⟨rfl, rfl, rfl, rfl, rfl, rfl, rfl, trivial⟩ ⟨rfl, rfl, trivial⟩) ?_)))
            clear hK K
            refine AW.rgs rfl fun K hK => ?_
            refine bv rfl (v_fieldAddrF fo24_2 rfl) ?_
            refine bv rfl (v_loadF ty22 rfl (l_lit rfl rfl)) ?_
            refine bv rfl (v_lenF rfl rfl ty22 rfl) ?_
            refine mv rfl rfl ?_
            refine b_nil (hK _ (AW.to (to_le (s' := ⟨[(1, HV.str p1), (2, HV.fptr [HV.int .i64 p0.1, HV.int .i64 p0.2.1, slE eFromLabelTo p0.2.2] 0), (7, HV.ar 50024 v3 (eSl eBool).k 0 ((a48).length)), (11, HV.ar 50137 w57 eInt.k 0 ((a56.2).length)), (12, HV.int .i64 a56.1), (85, HV.int .i64 ((p1).length : Int)), (86, HV.int .i64 a56.1), (90, slE eFromLabelTo p0.2.2), (91, HV.int .i64 ((p0.2.2).length : Int)), (92, HV.int .i64 0)], [(50024, v3, .arr (eSl eBool).k 127 ((eSl eBool).E a48)), (50137, w57, .arr eInt.k 3 (eInt.E a56.2))]⟩) (AS.le_of ⟨rfl, rfl, rfl, rfl, rfl, rfl, rfl, rfl, rfl, rfl, trivial⟩ ⟨rfl, rfl, trivial⟩) ?_)))
            clear hK K
            refine AW.lpX h (by first | exact up_then | exact up_to) (S := Int) (V := Unit) (fun a v => ⟨[(1, HV.str p1), (2, HV.fptr [HV.int .i64 p0.1, HV.int .i64 p0.2.1, slE eFromLabelTo p0.2.2] 0), (7, HV.ar 50024 v3 (eSl eBool).k 0 ((a48).length)), (11, HV.ar 50137 w57 eInt.k 0 ((a56.2).length)), (12, HV.int .i64 a56.1), (85, HV.int .i64 ((p1).length : Int)), (86, HV.int .i64 a56.1), (90, slE eFromLabelTo p0.2.2), (91, HV.int .i64 ((p0.2.2).length : Int)), (92, HV.int .i64 a)], [(50024, v3, .arr (eSl eBool).k 127 ((eSl eBool).E a48)), (50137, w57, .arr eInt.k 3 (eInt.E a56.2))]⟩) ?_ (X := (List Int)) (W := Nat) (fun a v => ⟨[(1, HV.str p1), (2, HV.fptr [HV.int .i64 p0.1, HV.int .i64 p0.2.1, slE eFromLabelTo p0.2.2] 0), (7, HV.ar 50024 v3 (eSl eBool).k 0 ((a48).length)), (11, HV.ar 50137 v eInt.k 0 ((a).length)), (85, HV.int .i64 ((p1).length : Int)), (86, HV.int .i64 a56.1)], [(50024, v3, .arr (eSl eBool).k 127 ((eSl eBool).E a48)), (50137, v, .arr eInt.k 3 (eInt.E a))]⟩) (fun a91 w92 h => ?_) (fun a60 w61 st62 h => ?_)
            · exact to_le (s' := ⟨[(1, HV.str p1), (2, HV.fptr [HV.int .i64 p0.1, HV.int .i64 p0.2.1, slE eFromLabelTo p0.2.2] 0), (7, HV.ar 50024 v3 (eSl eBool).k 0 ((a48).length)), (11, HV.ar 50137 w57 eInt.k 0 ((a56.2).length)), (12, HV.int .i64 a56.1), (85, HV.int .i64 ((p1).length : Int)), (86, HV.int .i64 a56.1), (90, slE eFromLabelTo p0.2.2), (91, HV.int .i64 ((p0.2.2).length : Int)), (92, HV.int .i64 0)], [(50024, v3, .arr (eSl eBool).k 127 ((eSl eBool).E a48)), (50137, w57, .arr eInt.k 3 (eInt.E a56.2))]⟩) (AS.le_of ⟨rfl, rfl, rfl, rfl, rfl, rfl, rfl, rfl, rfl, rfl, trivial⟩ ⟨rfl, rfl, trivial⟩) ⟨(), rfl⟩
            · refine AW.rg rfl fun K hK => ?_
              refine bv rfl (v_bin rfl rfl b_add) ?_
              refine mv rfl rfl ?_
              refine b_nil (hK _ ?_)
              clear hK K
              exact to_le (s' := ⟨[(1, HV.str p1), (2, HV.fptr [HV.int .i64 p0.1, HV.int .i64 p0.2.1, slE eFromLabelTo p0.2.2] 0), (7, HV.ar 50024 v3 (eSl eBool).k 0 ((a48).length)), (11, HV.ar 50137 w92 eInt.k 0 ((a91).length)), (85, HV.int .i64 ((p1).length : Int)), (86, HV.int .i64 (IntKind.wrap .i64 (a56.1 + 1)))], [(50024, v3, .arr (eSl eBool).k 127 ((eSl eBool).E a48)), (50137, w92, .arr eInt.k 3 (eInt.E a91))]⟩) (AS.le_of ⟨rfl, rfl, rfl, rfl, rfl, rfl, trivial⟩ ⟨rfl, rfl, trivial⟩) ⟨(IntKind.wrap .i64 (a56.1 + 1), a91), w92, h, rfl⟩
            · refine AW.rgs rfl fun K hK => ?_
              refine bv rfl (v_bin rfl rfl b_lss) ?_
              refine b_nil (hK _ (AW.to (to_le (s' := ⟨[(1, HV.str p1), (2, HV.fptr [HV.int .i64 p0.1, HV.int .i64 p0.2.1, slE eFromLabelTo p0.2.2] 0), (7, HV.ar 50024 v3 (eSl eBool).k 0 ((a48).length)), (11, HV.ar 50137 w57 eInt.k 0 ((a56.2).length)), (12, HV.int .i64 a56.1), (85, HV.int .i64 ((p1).length : Int)), (86, HV.int .i64 a56.1), (90, slE eFromLabelTo p0.2.2), (91, HV.int .i64 ((p0.2.2).length : Int)), (92, HV.int .i64 a60), (93, HV.bool (decide (a60 < ((p0.2.2).length : Int))))], [(50024, v3, .arr (eSl eBool).k 127 ((eSl eBool).E a48)), (50137, w57, .arr eInt.k 3 (eInt.E a56.2))]⟩) (AS.le_of ⟨rfl, rfl, rfl, rfl, rfl, rfl, rfl, rfl, rfl, rfl, rfl, trivial⟩ ⟨rfl, rfl, trivial⟩) ?_)))
              clear hK K
              refine AW.cseq rfl (fun hc => ?_) (fun hc => ?_)
              · have hc := of_decide_eq_true hc
                have h := ifT hc h
                refine AW.skip ?_
                refine AW.seq (AW.block ?_)
                refine AW.rgs rfl fun K hK => ?_
                refine mv rfl rfl ?_
                obtain ⟨x64, h65, h⟩ := bS h
                refine bv rfl (v_idxF ty22 es22 rfl rfl (idx_lt h65)) ?_
                refine bv rfl (v_loadF ty66 rfl (l_agg eFromLabelTo h65 rfl rfl)) ?_
                refine b_op rfl (o_alloc (fid := 50) (zs := [HV.int .i64 0, HV.int .i64 0, HV.int .i64 0]) 50014 rfl rfl ty66 rfl (fun v66 => ?_))
                refine mv rfl rfl ?_
                refine b_op rfl (o_store (cs := [HV.int .i64 x64.1, HV.int .i64 x64.2.1, HV.int .i64 x64.2.2]) (zs := [HV.int .i64 x64.1, HV.int .i64 x64.2.1, HV.int .i64 x64.2.2]) rfl rfl rfl ty66 rfl rfl rfl rfl rfl ?_)
                refine b_nil (hK _ (AW.to (to_le (s' := ⟨[(1, HV.str p1), (2, HV.fptr [HV.int .i64 p0.1, HV.int .i64 p0.2.1, slE eFromLabelTo p0.2.2] 0), (7, HV.ar 50024 v3 (eSl eBool).k 0 ((a48).length)), (11, HV.ar 50137 w57 eInt.k 0 ((a56.2).length)), (12, HV.int .i64 a56.1), (13, HV.int .i64 a60), (14, HV.ptr 50014 v66 0), (85, HV.int .i64 ((p1).length : Int)), (86, HV.int .i64 a56.1), (90, slE eFromLabelTo p0.2.2), (91, HV.int .i64 ((p0.2.2).length : Int)), (92, HV.int .i64 a60)], [(50024, v3, .arr (eSl eBool).k 127 ((eSl eBool).E a48)), (50137, w57, .arr eInt.k 3 (eInt.E a56.2)), (50014, v66, .arr 3 66 [HV.int .i64 x64.1, HV.int .i64 x64.2.1, HV.int .i64 x64.2.2])]⟩) (AS.le_of ⟨rfl, rfl, rfl, rfl, rfl, rfl, rfl, rfl, rfl, rfl, rfl, rfl, trivial⟩ ⟨rfl, rfl, rfl, trivial⟩) ?_)))
                clear hK K
                refine AW.seqJ h (S := Bool) (V := Unit) (fun a v => ⟨[(1, HV.str p1), (2, HV.fptr [HV.int .i64 p0.1, HV.int .i64 p0.2.1, slE eFromLabelTo p0.2.2] 0), (7, HV.ar 50024 v3 (eSl eBool).k 0 ((a48).length)), (11, HV.ar 50137 w57 eInt.k 0 ((a56.2).length)), (12, HV.int .i64 a56.1), (13, HV.int .i64 a60), (85, HV.int .i64 ((p1).length : Int)), (86, HV.int .i64 a56.1), (90, slE eFromLabelTo p0.2.2), (91, HV.int .i64 ((p0.2.2).length : Int)), (92, HV.int .i64 a60), (133, HV.bool a)], [(50024, v3, .arr (eSl eBool).k 127 ((eSl eBool).E a48)), (50137, w57, .arr eInt.k 3 (eInt.E a56.2))]⟩) (fun a67 w68 h => ?_) (fun k69 h => ?_)
                · refine AW.cond rfl (fun hc => ?_) (fun hc => ?_)
                  · have h := ifT hc h
                    refine AW.rgs rfl fun K hK => ?_
                    refine mv rfl rfl ?_
                    refine mv rfl rfl ?_
                    refine b_op rfl (o_bsl rfl rfl (as_of (cs := [HV.int .i64 a60]) ty42 ty3 rfl rfl rfl rfl rfl) ?_)
                    obtain ⟨h71, h⟩ := ifN h
                    refine b_op rfl (o_appE eInt (l := a56.2) (m := [a60]) rfl rfl ty42 ty42 ty3 rfl rfl rfl rfl rfl h71 (fun v70 => ?_))
                    refine mv rfl rfl ?_
                    refine b_nil (hK _ (AW.to (to_le (s' := ⟨[(1, HV.str p1), (2, HV.fptr [HV.int .i64 p0.1, HV.int .i64 p0.2.1, slE eFromLabelTo p0.2.2] 0), (7, HV.ar 50024 v3 (eSl eBool).k 0 ((a48).length)), (11, HV.ar 50137 v70 eInt.k 0 ((a56.2 ++ [a60]).length)), (85, HV.int .i64 ((p1).length : Int)), (86, HV.int .i64 a56.1)], [(50024, v3, .arr (eSl eBool).k 127 ((eSl eBool).E a48)), (50137, v70, .arr eInt.k 3 (eInt.E (a56.2 ++ [a60])))]⟩) (AS.le_of ⟨rfl, rfl, rfl, rfl, rfl, rfl, trivial⟩ ⟨rfl, rfl, trivial⟩) ?_)))
                    clear hK K
                    refine AW.exit ?_
                    exact to_le (s' := ⟨[(1, HV.str p1), (2, HV.fptr [HV.int .i64 p0.1, HV.int .i64 p0.2.1, slE eFromLabelTo p0.2.2] 0), (7, HV.ar 50024 v3 (eSl eBool).k 0 ((a48).length)), (11, HV.ar 50137 v70 eInt.k 0 ((a56.2 ++ [a60]).length)), (85, HV.int .i64 ((p1).length : Int)), (86, HV.int .i64 a56.1)], [(50024, v3, .arr (eSl eBool).k 127 ((eSl eBool).E a48)), (50137, v70, .arr eInt.k 3 (eInt.E (a56.2 ++ [a60])))]⟩) (AS.le_of ⟨rfl, rfl, rfl, rfl, rfl, rfl, trivial⟩ ⟨rfl, rfl, trivial⟩) ⟨a56.2 ++ [a60], v70, h, rfl⟩
                  · have h := ifF (bF' hc) h
                    refine AW.skip ?_
                    refine AW.rg rfl fun K hK => ?_
                    refine bv rfl (v_bin rfl rfl b_add) ?_
                    refine mv rfl rfl ?_
                    refine b_nil (hK _ ?_)
                    clear hK K
                    exact to_le (s' := ⟨[(1, HV.str p1), (2, HV.fptr [HV.int .i64 p0.1, HV.int .i64 p0.2.1, slE eFromLabelTo p0.2.2] 0), (7, HV.ar 50024 v3 (eSl eBool).k 0 ((a48).length)), (11, HV.ar 50137 w57 eInt.k 0 ((a56.2).length)), (12, HV.int .i64 a56.1), (85, HV.int .i64 ((p1).length : Int)), (86, HV.int .i64 a56.1), (90, slE eFromLabelTo p0.2.2), (91, HV.int .i64 ((p0.2.2).length : Int)), (92, HV.int .i64 (IntKind.wrap .i64 (a60 + 1)))], [(50024, v3, .arr (eSl eBool).k 127 ((eSl eBool).E a48)), (50137, w57, .arr eInt.k 3 (eInt.E a56.2))]⟩) (AS.le_of ⟨rfl, rfl, rfl, rfl, rfl, rfl, rfl, rfl, rfl, rfl, trivial⟩ ⟨rfl, rfl, trivial⟩) ⟨IntKind.wrap .i64 (a60 + 1), (), h, rfl⟩
                · refine AW.dg 37 follows rfl rfl fun K hK => ?_
                  refine sv rfl (v_fieldAddrP fo66_1 rfl rfl) ?_
                  refine sv rfl (v_loadP ty3 rfl rfl (l_lit rfl rfl)) ?_
                  obtain ⟨x72, h73, h⟩ := bS h
                  refine sv rfl (v_idxS ty9 rfl rfl h73) ?_
                  refine sm rfl rfl ?_
                  refine sm rfl rfl ?_
                  obtain ⟨x74, h75, h⟩ := bS h
                  refine sv rfl (v_idxS ty9 rfl rfl h75) ?_
                  refine sv rfl (v_bin rfl rfl b_eql) ?_
                  refine sm rfl rfl ?_
                  by_cases hg90 : (x72.toNat : Int) = (x74.toNat : Int)
                  · have h := ifT hg90 h
                    refine s_T rfl rfl rfl rfl rfl (decide_eq_true hg90) (ops_val rfl (mv_val rfl rfl).2 ?_)
                    refine s_T rfl rfl rfl rfl rfl rfl (ops_val rfl (mv_val rfl rfl).2 ?_)
                    refine s_T rfl rfl rfl rfl rfl rfl (ops_val rfl (v_bin rfl rfl b_add) ?_)
                    obtain ⟨x76, h77, h⟩ := bS h
                    refine s_T rfl rfl rfl rfl rfl rfl (ops_val rfl (v_idxA ty126 es126 rfl rfl (idx_lt h77) rfl) ?_)
                    obtain ⟨x78, h79, h⟩ := bS h
                    refine s_T rfl rfl rfl rfl rfl rfl (ops_val rfl (v_loadP ty127 rfl rfl (l_cell (eSl eBool) h79 (o := 0) rfl rfl)) ?_)
                    refine s_T rfl rfl rfl rfl rfl rfl (ops_val rfl (v_fieldAddrP fo66_2 rfl rfl) ?_)
                    refine s_T rfl rfl rfl rfl rfl rfl (ops_val rfl (v_loadP ty3 rfl rfl (l_lit rfl rfl)) ?_)
                    obtain ⟨x80, h81, h⟩ := bS h
                    refine s_T rfl rfl rfl rfl rfl rfl (ops_val rfl (v_idxF ty127 es127 rfl rfl (idx_lt h81)) ?_)
                    refine s_T rfl rfl rfl rfl rfl rfl (ops_val rfl (v_loadF ty4 rfl (l_cell eBool h81 (o := 0) rfl rfl)) ?_)
                    refine sv rfl (v_pickT rfl rfl rfl) ?_
                    refine sm rfl rfl ?_
                    by_cases hg89 : x80 = true
                    · have h := ifT hg89 h
                      refine s_T rfl rfl rfl rfl rfl hg89 (ops_val rfl (mv_val rfl rfl).2 ?_)
                      refine s_T rfl rfl rfl rfl rfl rfl (ops_val rfl (v_bin rfl rfl b_eql) ?_)
                      refine s_T rfl rfl rfl rfl rfl rfl (ops_val rfl (mv_val rfl rfl).2 ?_)
                      by_cases hg88 : a56.1 = 0
                      · have h := ifT hg88 h
                        refine s_F rfl rfl rfl rfl rfl (decide_eq_true hg88) ?_
                        refine s_F rfl rfl rfl rfl rfl rfl ?_
                        refine s_F rfl rfl rfl rfl rfl rfl ?_
                        refine s_F rfl rfl rfl rfl rfl rfl ?_
                        refine s_F rfl rfl rfl rfl rfl rfl ?_
                        refine s_F rfl rfl rfl rfl rfl rfl ?_
                        refine s_F rfl rfl rfl rfl rfl rfl ?_
                        refine s_F rfl rfl rfl rfl rfl rfl ?_
                        refine s_F rfl rfl rfl rfl rfl rfl ?_
                        refine s_F rfl rfl rfl rfl rfl rfl ?_
                        refine s_F rfl rfl rfl rfl rfl rfl ?_
                        refine s_F rfl rfl rfl rfl rfl rfl ?_
                        refine s_F rfl rfl rfl rfl rfl rfl ?_
                        refine s_T rfl rfl rfl rfl rfl rfl (ops_val rfl (v_pickT rfl rfl rfl) ?_)
                        refine sv rfl (v_pickT rfl rfl rfl) ?_
                        refine s_nil ?_
                        refine b_nil (hK _ ?_)
                        clear hK K
                        exact to_le (s' := ⟨[(1, HV.str p1), (2, HV.fptr [HV.int .i64 p0.1, HV.int .i64 p0.2.1, slE eFromLabelTo p0.2.2] 0), (7, HV.ar 50024 v3 (eSl eBool).k 0 ((a48).length)), (11, HV.ar 50137 w57 eInt.k 0 ((a56.2).length)), (12, HV.int .i64 a56.1), (13, HV.int .i64 a60), (85, HV.int .i64 ((p1).length : Int)), (86, HV.int .i64 a56.1), (90, slE eFromLabelTo p0.2.2), (91, HV.int .i64 ((p0.2.2).length : Int)), (92, HV.int .i64 a60), (133, HV.bool true)], [(50024, v3, .arr (eSl eBool).k 127 ((eSl eBool).E a48)), (50137, w57, .arr eInt.k 3 (eInt.E a56.2))]⟩) (AS.le_of ⟨rfl, rfl, rfl, rfl, rfl, rfl, rfl, rfl, rfl, rfl, rfl, rfl, trivial⟩ ⟨rfl, rfl, trivial⟩) ⟨true, (), h, rfl⟩
                      · have h := ifF hg88 h
                        refine s_T rfl rfl rfl rfl rfl (decide_eq_false hg88) (ops_val rfl (v_fieldAddrP fo66_0 rfl rfl) ?_)
                        refine s_T rfl rfl rfl rfl rfl rfl (ops_val rfl (v_loadP ty3 rfl rfl (l_lit rfl rfl)) ?_)
                        refine s_T rfl rfl rfl rfl rfl rfl (ops_val rfl (v_fieldAddrF fo24_2 rfl) ?_)
                        refine s_T rfl rfl rfl rfl rfl rfl (ops_val rfl (v_loadF ty22 rfl (l_lit rfl rfl)) ?_)
                        refine s_T rfl rfl rfl rfl rfl rfl (ops_val rfl (mv_val rfl rfl).2 ?_)
                        refine s_T rfl rfl rfl rfl rfl rfl (ops_val rfl (mv_val rfl rfl).2 ?_)
                        refine s_T rfl rfl rfl rfl rfl rfl (ops_val rfl (v_bin rfl rfl b_sub) ?_)
                        obtain ⟨x82, h83, h⟩ := bS h
                        refine s_T rfl rfl rfl rfl rfl rfl (ops_val rfl (v_idxA ty42 es42 rfl rfl (idx_lt h83) rfl) ?_)
                        obtain ⟨x84, h85, h⟩ := bS h
                        refine s_T rfl rfl rfl rfl rfl rfl (ops_val rfl (v_loadP ty3 rfl rfl (l_cell eInt h85 (o := 0) rfl rfl)) ?_)
                        obtain ⟨x86, h87, h⟩ := bS h
                        refine s_T rfl rfl rfl rfl rfl rfl (ops_val rfl (v_idxF ty22 es22 rfl rfl (idx_lt h87)) ?_)
                        refine s_T rfl rfl rfl rfl rfl rfl (ops_val rfl (v_fieldAddrF fo66_2 rfl) ?_)
                        refine s_T rfl rfl rfl rfl rfl rfl (ops_val rfl (v_loadF ty3 rfl (l_cell eFromLabelTo h87 (o := 2) rfl rfl)) ?_)
                        refine s_T rfl rfl rfl rfl rfl rfl (ops_val rfl (v_bin rfl rfl b_eql) ?_)
                        refine s_T rfl rfl rfl rfl rfl rfl (ops_val rfl (v_pickF rfl rfl rfl) ?_)
                        refine sv rfl (v_pickT rfl rfl rfl) ?_
                        refine s_nil ?_
                        refine b_nil (hK _ ?_)
                        clear hK K
                        exact to_le (s' := ⟨[(1, HV.str p1), (2, HV.fptr [HV.int .i64 p0.1, HV.int .i64 p0.2.1, slE eFromLabelTo p0.2.2] 0), (7, HV.ar 50024 v3 (eSl eBool).k 0 ((a48).length)), (11, HV.ar 50137 w57 eInt.k 0 ((a56.2).length)), (12, HV.int .i64 a56.1), (13, HV.int .i64 a60), (85, HV.int .i64 ((p1).length : Int)), (86, HV.int .i64 a56.1), (90, slE eFromLabelTo p0.2.2), (91, HV.int .i64 ((p0.2.2).length : Int)), (92, HV.int .i64 a60), (133, HV.bool (decide (x64.1 = x86.2.2)))], [(50024, v3, .arr (eSl eBool).k 127 ((eSl eBool).E a48)), (50137, w57, .arr eInt.k 3 (eInt.E a56.2))]⟩) (AS.le_of ⟨rfl, rfl, rfl, rfl, rfl, rfl, rfl, rfl, rfl, rfl, rfl, rfl, trivial⟩ ⟨rfl, rfl, trivial⟩) ⟨decide (x64.1 = x86.2.2), (), h, rfl⟩
                    · have h := ifF hg89 h
                      refine s_F rfl rfl rfl rfl rfl (bF hg89) ?_
                      refine s_F rfl rfl rfl rfl rfl rfl ?_
                      refine s_F rfl rfl rfl rfl rfl rfl ?_
                      refine s_U rfl rfl rfl rfl rfl ?_
                      refine s_U rfl rfl rfl rfl rfl ?_
                      refine s_U rfl rfl rfl rfl rfl ?_
                      refine s_U rfl rfl rfl rfl rfl ?_
                      refine s_U rfl rfl rfl rfl rfl ?_
                      refine s_U rfl rfl rfl rfl rfl ?_
                      refine s_U rfl rfl rfl rfl rfl ?_
                      refine s_U rfl rfl rfl rfl rfl ?_
                      refine s_U rfl rfl rfl rfl rfl ?_
                      refine s_U rfl rfl rfl rfl rfl ?_
                      refine s_U rfl rfl rfl rfl rfl ?_
                      refine s_U rfl rfl rfl rfl rfl ?_
                      refine s_U rfl rfl rfl rfl rfl ?_
                      refine s_F rfl rfl rfl rfl rfl rfl ?_
                      refine sv rfl (v_pickF rfl rfl rfl) ?_
                      refine s_nil ?_
                      refine b_nil (hK _ ?_)
                      clear hK K
                      exact to_le (s' := ⟨[(1, HV.str p1), (2, HV.fptr [HV.int .i64 p0.1, HV.int .i64 p0.2.1, slE eFromLabelTo p0.2.2] 0), (7, HV.ar 50024 v3 (eSl eBool).k 0 ((a48).length)), (11, HV.ar 50137 w57 eInt.k 0 ((a56.2).length)), (12, HV.int .i64 a56.1), (13, HV.int .i64 a60), (85, HV.int .i64 ((p1).length : Int)), (86, HV.int .i64 a56.1), (90, slE eFromLabelTo p0.2.2), (91, HV.int .i64 ((p0.2.2).length : Int)), (92, HV.int .i64 a60), (133, HV.bool false)], [(50024, v3, .arr (eSl eBool).k 127 ((eSl eBool).E a48)), (50137, w57, .arr eInt.k 3 (eInt.E a56.2))]⟩) (AS.le_of ⟨rfl, rfl, rfl, rfl, rfl, rfl, rfl, rfl, rfl, rfl, rfl, rfl, trivial⟩ ⟨rfl, rfl, trivial⟩) ⟨false, (), h, rfl⟩
                  · have h := ifF hg90 h
                    refine s_F rfl rfl rfl rfl rfl (decide_eq_false hg90) ?_
                    refine s_F rfl rfl rfl rfl rfl rfl ?_
                    refine s_F rfl rfl rfl rfl rfl rfl ?_
                    refine s_F rfl rfl rfl rfl rfl rfl ?_
                    refine s_F rfl rfl rfl rfl rfl rfl ?_
                    refine s_F rfl rfl rfl rfl rfl rfl ?_
                    refine s_F rfl rfl rfl rfl rfl rfl ?_
                    refine s_F rfl rfl rfl rfl rfl rfl ?_
                    refine s_F rfl rfl rfl rfl rfl rfl ?_
                    refine sv rfl (v_pickF rfl rfl rfl) ?_
                    refine sm rfl rfl ?_
                    refine s_F rfl rfl rfl rfl rfl rfl ?_
                    refine s_F rfl rfl rfl rfl rfl rfl ?_
                    refine s_F rfl rfl rfl rfl rfl rfl ?_
                    refine s_U rfl rfl rfl rfl rfl ?_
                    refine s_U rfl rfl rfl rfl rfl ?_
                    refine s_U rfl rfl rfl rfl rfl ?_
                    refine s_U rfl rfl rfl rfl rfl ?_
                    refine s_U rfl rfl rfl rfl rfl ?_
                    refine s_U rfl rfl rfl rfl rfl ?_
                    refine s_U rfl rfl rfl rfl rfl ?_
                    refine s_U rfl rfl rfl rfl rfl ?_
                    refine s_U rfl rfl rfl rfl rfl ?_
                    refine s_U rfl rfl rfl rfl rfl ?_
                    refine s_U rfl rfl rfl rfl rfl ?_
                    refine s_U rfl rfl rfl rfl rfl ?_
                    refine s_U rfl rfl rfl rfl rfl ?_
                    refine s_F rfl rfl rfl rfl rfl rfl ?_
                    refine sv rfl (v_pickF rfl rfl rfl) ?_
                    refine s_nil ?_
                    refine b_nil (hK _ ?_)
                    clear hK K
                    exact to_le (s' := ⟨[(1, HV.str p1), (2, HV.fptr [HV.int .i64 p0.1, HV.int .i64 p0.2.1, slE eFromLabelTo p0.2.2] 0), (7, HV.ar 50024 v3 (eSl eBool).k 0 ((a48).length)), (11, HV.ar 50137 w57 eInt.k 0 ((a56.2).length)), (12, HV.int .i64 a56.1), (13, HV.int .i64 a60), (85, HV.int .i64 ((p1).length : Int)), (86, HV.int .i64 a56.1), (90, slE eFromLabelTo p0.2.2), (91, HV.int .i64 ((p0.2.2).length : Int)), (92, HV.int .i64 a60), (133, HV.bool false)], [(50024, v3, .arr (eSl eBool).k 127 ((eSl eBool).E a48)), (50137, w57, .arr eInt.k 3 (eInt.E a56.2))]⟩) (AS.le_of ⟨rfl, rfl, rfl, rfl, rfl, rfl, rfl, rfl, rfl, rfl, rfl, rfl, trivial⟩ ⟨rfl, rfl, trivial⟩) ⟨false, (), h, rfl⟩
              · have hc := of_decide_eq_false hc
                have h := ifF hc h
                refine AW.exit ?_
                exact to_le (s' := ⟨[(1, HV.str p1), (2, HV.fptr [HV.int .i64 p0.1, HV.int .i64 p0.2.1, slE eFromLabelTo p0.2.2] 0), (7, HV.ar 50024 v3 (eSl eBool).k 0 ((a48).length)), (11, HV.ar 50137 w57 eInt.k 0 ((a56.2).length)), (85, HV.int .i64 ((p1).length : Int)), (86, HV.int .i64 a56.1)], [(50024, v3, .arr (eSl eBool).k 127 ((eSl eBool).E a48)), (50137, w57, .arr eInt.k 3 (eInt.E a56.2))]⟩) (AS.le_of ⟨rfl, rfl, rfl, rfl, rfl, rfl, trivial⟩ ⟨rfl, rfl, trivial⟩) ⟨a56.2, w57, h, rfl⟩
          · have hc := of_decide_eq_false hc
            have h := ifF hc h
            refine AW.exit ?_
            exact to_le (s' := ⟨[(11, HV.ar 50137 w57 eInt.k 0 ((a56.2).length))], [(50137, w57, .arr eInt.k 3 (eInt.E a56.2))]⟩) (AS.le_of ⟨rfl, trivial⟩ ⟨rfl, trivial⟩) ⟨a56.2, w57, h, rfl⟩
    · refine AW.seq ?_
      refine AW.rgs rfl fun K hK => ?_
      refine mv rfl rfl ?_
      refine bv rfl (v_bin rfl rfl b_geq) ?_
      refine b_nil (hK _ (AW.to (to_le (s' := ⟨[(1, HV.str p1), (2, HV.fptr [HV.int .i64 p0.1, HV.int .i64 p0.2.1, slE eFromLabelTo p0.2.2] 0), (7, HV.ar 50024 v3 (eSl eBool).k 0 ((a9.2).length)), (8, HV.int .i64 a9.1), (37, HV.bool (decide (0 ≤ a9.1)))], [(50024, v3, .arr (eSl eBool).k 127 ((eSl eBool).E a9.2))]⟩) (AS.le_of ⟨rfl, rfl, rfl, rfl, rfl, trivial⟩ ⟨rfl, trivial⟩) ?_)))
      clear hK K
      refine AW.cond rfl (fun hc => ?_) (fun hc => ?_)
      · have hc := of_decide_eq_true hc
        have h := ifT hc h
        refine AW.skip ?_
        refine AW.seq (AW.block ?_)
        refine AW.rgs rfl fun K hK => ?_
        refine mv rfl rfl ?_
        refine mv rfl rfl ?_
        refine bv rfl (v_fieldAddrF fo24_1 rfl) ?_
        refine bv rfl (v_loadF ty3 rfl (l_lit rfl rfl)) ?_
        obtain ⟨h14, h⟩ := ifN h
        refine b_op rfl (o_makeE (fid := 50) eBool (false : Bool) 50044 rfl rfl ty127 rfl rfl ty4 rfl rfl h14 (fun v13 => ?_))
        obtain ⟨x15, h16, h⟩ := bS h
        refine bv rfl (v_idxA ty126 es126 rfl rfl (idx_lt h16) rfl) ?_
        refine b_op rfl (o_storeH eBool (L := a9.2) (j := a9.1) rfl rfl rfl ty127 rfl rfl rfl (idx_lt h16) ?_)
        refine b_nil (hK _ (AW.to (to_le (s' := ⟨[(1, HV.str p1), (2, HV.fptr [HV.int .i64 p0.1, HV.int .i64 p0.2.1, slE eFromLabelTo p0.2.2] 0), (7, HV.ar 50024 v3 (eSl eBool).k 0 ((a9.2).length)), (8, HV.int .i64 a9.1)], [(50024, v3, .arr (eSl eBool).k 127 (((eSl eBool).E a9.2).set (a9.1).toNat (HV.ar 50044 v13 eBool.k 0 ((List.replicate (p0.2.1).toNat (false : Bool)).length)))), (50044, v13, .arr eBool.k 4 (eBool.E (List.replicate (p0.2.1).toNat (false : Bool))))]⟩) (AS.le_of ⟨rfl, rfl, rfl, rfl, trivial⟩ ⟨rfl, rfl, trivial⟩) ?_)))
        clear hK K
        refine AW.rgs rfl fun K hK => ?_
        refine bv rfl (v_fieldAddrF fo24_2 rfl) ?_
        refine bv rfl (v_loadF ty22 rfl (l_lit rfl rfl)) ?_
        refine bv rfl (v_lenF rfl rfl ty22 rfl) ?_
        refine mv rfl rfl ?_
        refine b_nil (hK _ (AW.to (to_le (s' := ⟨[(1, HV.str p1), (2, HV.fptr [HV.int .i64 p0.1, HV.int .i64 p0.2.1, slE eFromLabelTo p0.2.2] 0), (7, HV.ar 50024 v3 (eSl eBool).k 0 ((a9.2).length)), (8, HV.int .i64 a9.1), (47, slE eFromLabelTo p0.2.2), (48, HV.int .i64 ((p0.2.2).length : Int)), (49, HV.int .i64 0)], [(50024, v3, .arr (eSl eBool).k 127 (((eSl eBool).E a9.2).set (a9.1).toNat (HV.ar 50044 v13 eBool.k 0 ((List.replicate (p0.2.1).toNat (false : Bool)).length)))), (50044, v13, .arr eBool.k 4 (eBool.E (List.replicate (p0.2.1).toNat (false : Bool))))]⟩) (AS.le_of ⟨rfl, rfl, rfl, rfl, rfl, rfl, rfl, trivial⟩ ⟨rfl, rfl, trivial⟩) ?_)))
        clear hK K
        refine AW.lpX h (by first | exact up_then | exact up_to) (S := Int × (List Bool)) (V := Unit) (fun a v => ⟨[(1, HV.str p1), (2, HV.fptr [HV.int .i64 p0.1, HV.int .i64 p0.2.1, slE eFromLabelTo p0.2.2] 0), (7, HV.ar 50024 v3 (eSl eBool).k 0 ((a9.2).length)), (8, HV.int .i64 a9.1), (47, slE eFromLabelTo p0.2.2), (48, HV.int .i64 ((p0.2.2).length : Int)), (49, HV.int .i64 a.1)], [(50024, v3, .arr (eSl eBool).k 127 (((eSl eBool).E a9.2).set (a9.1).toNat (HV.ar 50044 v13 eBool.k 0 ((a.2).length)))), (50044, v13, .arr eBool.k 4 (eBool.E a.2))]⟩) ?_ (X := (List Bool)) (W := Unit) (fun a v => ⟨[(1, HV.str p1), (2, HV.fptr [HV.int .i64 p0.1, HV.int .i64 p0.2.1, slE eFromLabelTo p0.2.2] 0), (7, HV.ar 50024 v3 (eSl eBool).k 0 ((a9.2).length)), (8, HV.int .i64 a9.1)], [(50024, v3, .arr (eSl eBool).k 127 (((eSl eBool).E a9.2).set (a9.1).toNat (HV.ar 50044 v13 eBool.k 0 ((a).length)))), (50044, v13, .arr eBool.k 4 (eBool.E a))]⟩) (fun a46 w47 h => ?_) (fun a17 w18 st19 h => ?_)
        · exact to_le (s' := ⟨[(1, HV.str p1), (2, HV.fptr [HV.int .i64 p0.1, HV.int .i64 p0.2.1, slE eFromLabelTo p0.2.2] 0), (7, HV.ar 50024 v3 (eSl eBool).k 0 ((a9.2).length)), (8, HV.int .i64 a9.1), (47, slE eFromLabelTo p0.2.2), (48, HV.int .i64 ((p0.2.2).length : Int)), (49, HV.int .i64 0)], [(50024, v3, .arr (eSl eBool).k 127 (((eSl eBool).E a9.2).set (a9.1).toNat (HV.ar 50044 v13 eBool.k 0 ((List.replicate (p0.2.1).toNat (false : Bool)).length)))), (50044, v13, .arr eBool.k 4 (eBool.E (List.replicate (p0.2.1).toNat (false : Bool))))]⟩) (AS.le_of ⟨rfl, rfl, rfl, rfl, rfl, rfl, rfl, trivial⟩ ⟨rfl, rfl, trivial⟩) ⟨(), rfl⟩
        · refine AW.rg rfl fun K hK => ?_
          refine mv rfl rfl ?_
          refine bv rfl (v_bin rfl rfl b_sub) ?_
          refine mv rfl rfl ?_
          refine b_nil (hK _ ?_)
          clear hK K
          refine to_bind (to_fill 2 [(50044, v13, .arr eBool.k 4 (eBool.E a46))] ⟨[(1, HV.str p1), (2, HV.fptr [HV.int .i64 p0.1, HV.int .i64 p0.2.1, slE eFromLabelTo p0.2.2] 0), (7, HV.ar 50024 v3 (eSl eBool).k 0 ((a9.2).length)), (8, HV.int .i64 (IntKind.wrap .i64 (a9.1 - 1)))], [(50024, v3, .arr (eSl eBool).k 127 ((eSl eBool).E ((a9.2).set (a9.1).toNat a46)))]⟩ ⟨⟨_, rfl, rfl⟩, ⟨_, rfl, rfl⟩, ⟨_, rfl, rfl⟩, ⟨_, rfl, rfl⟩, trivial⟩ ⟨.inr ⟨_, _, _, rfl, fill_obj (c := eBool) rfl rfl fun _ => rfl⟩, trivial⟩ ⟨rfl, trivial⟩ ⟨rfl, trivial⟩ ?_)
          exact to_le (s' := ⟨[(1, HV.str p1), (2, HV.fptr [HV.int .i64 p0.1, HV.int .i64 p0.2.1, slE eFromLabelTo p0.2.2] 0), (7, HV.ar 50024 v3 (eSl eBool).k 0 (((a9.2).set (a9.1).toNat a46).length)), (8, HV.int .i64 (IntKind.wrap .i64 (a9.1 - 1)))], [(50024, v3, .arr (eSl eBool).k 127 ((eSl eBool).E ((a9.2).set (a9.1).toNat a46)))]⟩) (AS.le_of ⟨rfl, rfl, arl (by first | rfl | simp only [List.length_set, sortI_len, sortS_len]), rfl, trivial⟩ ⟨rfl, trivial⟩) ⟨(IntKind.wrap .i64 (a9.1 - 1), (a9.2).set (a9.1).toNat a46), (), h, rfl⟩
        · refine AW.rgs rfl fun K hK => ?_
          refine bv rfl (v_bin rfl rfl b_lss) ?_
          refine b_nil (hK _ (AW.to (to_le (s' := ⟨[(1, HV.str p1), (2, HV.fptr [HV.int .i64 p0.1, HV.int .i64 p0.2.1, slE eFromLabelTo p0.2.2] 0), (7, HV.ar 50024 v3 (eSl eBool).k 0 ((a9.2).length)), (8, HV.int .i64 a9.1), (47, slE eFromLabelTo p0.2.2), (48, HV.int .i64 ((p0.2.2).length : Int)), (49, HV.int .i64 a17.1), (50, HV.bool (decide (a17.1 < ((p0.2.2).length : Int))))], [(50024, v3, .arr (eSl eBool).k 127 (((eSl eBool).E a9.2).set (a9.1).toNat (HV.ar 50044 v13 eBool.k 0 ((a17.2).length)))), (50044, v13, .arr eBool.k 4 (eBool.E a17.2))]⟩) (AS.le_of ⟨rfl, rfl, rfl, rfl, rfl, rfl, rfl, rfl, trivial⟩ ⟨rfl, rfl, trivial⟩) ?_)))
          clear hK K
          refine AW.cseq rfl (fun hc => ?_) (fun hc => ?_)
          · have hc := of_decide_eq_true hc
            have h := ifT hc h
            refine AW.skip ?_
            refine AW.seqJ h (S := (List Bool)) (V := Unit) (fun a v => ⟨[(1, HV.str p1), (2, HV.fptr [HV.int .i64 p0.1, HV.int .i64 p0.2.1, slE eFromLabelTo p0.2.2] 0), (7, HV.ar 50024 v3 (eSl eBool).k 0 ((a9.2).length)), (8, HV.int .i64 a9.1), (47, slE eFromLabelTo p0.2.2), (48, HV.int .i64 ((p0.2.2).length : Int)), (49, HV.int .i64 a17.1)], [(50024, v3, .arr (eSl eBool).k 127 (((eSl eBool).E a9.2).set (a9.1).toNat (HV.ar 50044 v13 eBool.k 0 ((a).length)))), (50044, v13, .arr eBool.k 4 (eBool.E a))]⟩) (fun a21 w22 h => ?_) (fun k23 h => ?_)
            · refine AW.rg rfl fun K hK => ?_
              refine bv rfl (v_bin rfl rfl b_add) ?_
              refine mv rfl rfl ?_
              refine b_nil (hK _ ?_)
              clear hK K
              exact to_le (s' := ⟨[(1, HV.str p1), (2, HV.fptr [HV.int .i64 p0.1, HV.int .i64 p0.2.1, slE eFromLabelTo p0.2.2] 0), (7, HV.ar 50024 v3 (eSl eBool).k 0 ((a9.2).length)), (8, HV.int .i64 a9.1), (47, slE eFromLabelTo p0.2.2), (48, HV.int .i64 ((p0.2.2).length : Int)), (49, HV.int .i64 (IntKind.wrap .i64 (a17.1 + 1)))], [(50024, v3, .arr (eSl eBool).k 127 (((eSl eBool).E a9.2).set (a9.1).toNat (HV.ar 50044 v13 eBool.k 0 ((a21).length)))), (50044, v13, .arr eBool.k 4 (eBool.E a21))]⟩) (AS.le_of ⟨rfl, rfl, rfl, rfl, rfl, rfl, rfl, trivial⟩ ⟨rfl, rfl, trivial⟩) ⟨(IntKind.wrap .i64 (a17.1 + 1), a21), (), h, rfl⟩
            · refine AW.block ?_
              refine AW.rgs rfl fun K hK => ?_
              obtain ⟨x24, h25, h⟩ := bS h
              refine bv rfl (v_idxF ty22 es22 rfl rfl (idx_lt h25)) ?_
              refine bv rfl (v_loadF ty66 rfl (l_agg eFromLabelTo h25 rfl rfl)) ?_
              refine b_op rfl (o_alloc (fid := 50) (zs := [HV.int .i64 0, HV.int .i64 0, HV.int .i64 0]) 50010 rfl rfl ty66 rfl (fun v26 => ?_))
              refine b_op rfl (o_store (cs := [HV.int .i64 x24.1, HV.int .i64 x24.2.1, HV.int .i64 x24.2.2]) (zs := [HV.int .i64 x24.1, HV.int .i64 x24.2.1, HV.int .i64 x24.2.2]) rfl rfl rfl ty66 rfl rfl rfl rfl rfl ?_)
              refine b_nil (hK _ (AW.to (to_le (s' := ⟨[(1, HV.str p1), (2, HV.fptr [HV.int .i64 p0.1, HV.int .i64 p0.2.1, slE eFromLabelTo p0.2.2] 0), (7, HV.ar 50024 v3 (eSl eBool).k 0 ((a9.2).length)), (8, HV.int .i64 a9.1), (10, HV.ptr 50010 v26 0), (47, slE eFromLabelTo p0.2.2), (48, HV.int .i64 ((p0.2.2).length : Int)), (49, HV.int .i64 a17.1)], [(50024, v3, .arr (eSl eBool).k 127 (((eSl eBool).E a9.2).set (a9.1).toNat (HV.ar 50044 v13 eBool.k 0 ((a17.2).length)))), (50044, v13, .arr eBool.k 4 (eBool.E a17.2)), (50010, v26, .arr 3 66 [HV.int .i64 x24.1, HV.int .i64 x24.2.1, HV.int .i64 x24.2.2])]⟩) (AS.le_of ⟨rfl, rfl, rfl, rfl, rfl, rfl, rfl, rfl, trivial⟩ ⟨rfl, rfl, rfl, trivial⟩) ?_)))
              clear hK K
              refine AW.seqJ h (S := Bool) (V := Unit) (fun a v => ⟨[(1, HV.str p1), (2, HV.fptr [HV.int .i64 p0.1, HV.int .i64 p0.2.1, slE eFromLabelTo p0.2.2] 0), (7, HV.ar 50024 v3 (eSl eBool).k 0 ((a9.2).length)), (8, HV.int .i64 a9.1), (10, HV.ptr 50010 v26 0), (47, slE eFromLabelTo p0.2.2), (48, HV.int .i64 ((p0.2.2).length : Int)), (49, HV.int .i64 a17.1), (70, HV.bool a)], [(50024, v3, .arr (eSl eBool).k 127 (((eSl eBool).E a9.2).set (a9.1).toNat (HV.ar 50044 v13 eBool.k 0 ((a17.2).length)))), (50010, v26, .arr 3 66 [HV.int .i64 x24.1, HV.int .i64 x24.2.1, HV.int .i64 x24.2.2]), (50044, v13, .arr eBool.k 4 (eBool.E a17.2))]⟩) (fun a27 w28 h => ?_) (fun k29 h => ?_)
              · refine AW.cond rfl (fun hc => ?_) (fun hc => ?_)
                · have h := ifT hc h
                  refine AW.dg 7 follows rfl rfl fun K hK => ?_
                  refine sm rfl rfl ?_
                  refine sm rfl rfl ?_
                  obtain ⟨x30, h31, h⟩ := bS h
                  refine sv rfl (v_idxA ty126 es126 rfl rfl (idx_lt h31) rfl) ?_
                  refine sv rfl (v_loadP ty127 rfl rfl (l_hole eBool _ h31 rfl)) ?_
                  refine sv rfl (v_fieldAddrP fo66_0 rfl rfl) ?_
                  refine sv rfl (v_loadP ty3 rfl rfl (l_lit rfl rfl)) ?_
                  obtain ⟨x32, h33, h⟩ := bS h
                  refine sv rfl (v_idxA ty127 es127 rfl rfl (idx_lt h33) rfl) ?_
                  refine s_nil ?_
                  refine b_op rfl (o_storeE eBool (l := a17.2) (j := x24.1) (v := true) rfl rfl rfl ty4 rfl rfl rfl (idx_lt h33) ?_)
                  refine b_nil (hK _ ?_)
                  clear hK K
                  exact to_le (s' := ⟨[(1, HV.str p1), (2, HV.fptr [HV.int .i64 p0.1, HV.int .i64 p0.2.1, slE eFromLabelTo p0.2.2] 0), (7, HV.ar 50024 v3 (eSl eBool).k 0 ((a9.2).length)), (8, HV.int .i64 a9.1), (47, slE eFromLabelTo p0.2.2), (48, HV.int .i64 ((p0.2.2).length : Int)), (49, HV.int .i64 a17.1)], [(50024, v3, .arr (eSl eBool).k 127 (((eSl eBool).E a9.2).set (a9.1).toNat (HV.ar 50044 v13 eBool.k 0 (((a17.2).set (x24.1).toNat true).length)))), (50044, v13, .arr eBool.k 4 (eBool.E ((a17.2).set (x24.1).toNat true)))]⟩) (AS.le_of ⟨rfl, rfl, rfl, rfl, rfl, rfl, rfl, trivial⟩ ⟨hle rfl (by first | rfl | simp only [List.length_set, sortI_len, sortS_len]), rfl, trivial⟩) ⟨(a17.2).set (x24.1).toNat true, (), h, rfl⟩
                · have h := ifF (bF' hc) h
                  refine AW.skip ?_
                  exact to_le (s' := ⟨[(1, HV.str p1), (2, HV.fptr [HV.int .i64 p0.1, HV.int .i64 p0.2.1, slE eFromLabelTo p0.2.2] 0), (7, HV.ar 50024 v3 (eSl eBool).k 0 ((a9.2).length)), (8, HV.int .i64 a9.1), (47, slE eFromLabelTo p0.2.2), (48, HV.int .i64 ((p0.2.2).length : Int)), (49, HV.int .i64 a17.1)], [(50024, v3, .arr (eSl eBool).k 127 (((eSl eBool).E a9.2).set (a9.1).toNat (HV.ar 50044 v13 eBool.k 0 ((a17.2).length)))), (50044, v13, .arr eBool.k 4 (eBool.E a17.2))]⟩) (AS.le_of ⟨rfl, rfl, rfl, rfl, rfl, rfl, rfl, trivial⟩ ⟨rfl, rfl, trivial⟩) ⟨a17.2, (), h, rfl⟩
              · refine AW.dg 18 follows rfl rfl fun K hK => ?_
                refine sv rfl (v_fieldAddrP fo66_1 rfl rfl) ?_
                refine sv rfl (v_loadP ty3 rfl rfl (l_lit rfl rfl)) ?_
                obtain ⟨x34, h35, h⟩ := bS h
                refine sv rfl (v_idxS ty9 rfl rfl h35) ?_
                refine sm rfl rfl ?_
                refine sm rfl rfl ?_
                obtain ⟨x36, h37, h⟩ := bS h
                refine sv rfl (v_idxS ty9 rfl rfl h37) ?_
                refine sv rfl (v_bin rfl rfl b_eql) ?_
                refine sm rfl rfl ?_
                by_cases hg45 : (x34.toNat : Int) = (x36.toNat : Int)
                · have h := ifT hg45 h
                  refine s_T rfl rfl rfl rfl rfl (decide_eq_true hg45) (ops_val rfl (mv_val rfl rfl).2 ?_)
                  refine s_T rfl rfl rfl rfl rfl rfl (ops_val rfl (mv_val rfl rfl).2 ?_)
                  refine s_T rfl rfl rfl rfl rfl rfl (ops_val rfl (v_bin rfl rfl b_add) ?_)
                  obtain ⟨x38, h39, h⟩ := bS h
                  refine s_T rfl rfl rfl rfl rfl rfl (ops_val rfl (v_idxA ty126 es126 rfl rfl (idx_lt h39) rfl) ?_)
                  obtain ⟨h42, h⟩ := ifN h
                  obtain ⟨x40, h41, h⟩ := bS h
                  refine s_T rfl rfl rfl rfl rfl rfl (ops_val rfl (v_loadP ty127 rfl rfl (l_holeN eBool _ h41 h42 rfl)) ?_)
                  refine s_T rfl rfl rfl rfl rfl rfl (ops_val rfl (v_fieldAddrP fo66_2 rfl rfl) ?_)
                  refine s_T rfl rfl rfl rfl rfl rfl (ops_val rfl (v_loadP ty3 rfl rfl (l_lit rfl rfl)) ?_)
                  obtain ⟨x43, h44, h⟩ := bS h
                  refine s_T rfl rfl rfl rfl rfl rfl (ops_val rfl (v_idxF ty127 es127 rfl rfl (idx_lt h44)) ?_)
                  refine s_T rfl rfl rfl rfl rfl rfl (ops_val rfl (v_loadF ty4 rfl (l_cell eBool h44 (o := 0) rfl rfl)) ?_)
                  refine sv rfl (v_pickT rfl rfl rfl) ?_
                  refine s_nil ?_
                  refine b_nil (hK _ ?_)
                  clear hK K
                  exact to_le (s' := ⟨[(1, HV.str p1), (2, HV.fptr [HV.int .i64 p0.1, HV.int .i64 p0.2.1, slE eFromLabelTo p0.2.2] 0), (7, HV.ar 50024 v3 (eSl eBool).k 0 ((a9.2).length)), (8, HV.int .i64 a9.1), (10, HV.ptr 50010 v26 0), (47, slE eFromLabelTo p0.2.2), (48, HV.int .i64 ((p0.2.2).length : Int)), (49, HV.int .i64 a17.1), (70, HV.bool x43)], [(50024, v3, .arr (eSl eBool).k 127 (((eSl eBool).E a9.2).set (a9.1).toNat (HV.ar 50044 v13 eBool.k 0 ((a17.2).length)))), (50010, v26, .arr 3 66 [HV.int .i64 x24.1, HV.int .i64 x24.2.1, HV.int .i64 x24.2.2]), (50044, v13, .arr eBool.k 4 (eBool.E a17.2))]⟩) (AS.le_of ⟨rfl, rfl, rfl, rfl, rfl, rfl, rfl, rfl, rfl, trivial⟩ ⟨rfl, rfl, rfl, trivial⟩) ⟨x43, (), h, rfl⟩
                · have h := ifF hg45 h
                  refine s_F rfl rfl rfl rfl rfl (decide_eq_false hg45) ?_
                  refine s_F rfl rfl rfl rfl rfl rfl ?_
                  refine s_F rfl rfl rfl rfl rfl rfl ?_
                  refine s_F rfl rfl rfl rfl rfl rfl ?_
                  refine s_F rfl rfl rfl rfl rfl rfl ?_
                  refine s_F rfl rfl rfl rfl rfl rfl ?_
                  refine s_F rfl rfl rfl rfl rfl rfl ?_
                  refine s_F rfl rfl rfl rfl rfl rfl ?_
                  refine s_F rfl rfl rfl rfl rfl rfl ?_
                  refine sv rfl (v_pickF rfl rfl rfl) ?_
                  refine s_nil ?_
                  refine b_nil (hK _ ?_)
                  clear hK K
                  exact to_le (s' := ⟨[(1, HV.str p1), (2, HV.fptr [HV.int .i64 p0.1, HV.int .i64 p0.2.1, slE eFromLabelTo p0.2.2] 0), (7, HV.ar 50024 v3 (eSl eBool).k 0 ((a9.2).length)), (8, HV.int .i64 a9.1), (10, HV.ptr 50010 v26 0), (47, slE eFromLabelTo p0.2.2), (48, HV.int .i64 ((p0.2.2).length : Int)), (49, HV.int .i64 a17.1), (70, HV.bool false)], [(50024, v3, .arr (eSl eBool).k 127 (((eSl eBool).E a9.2).set (a9.1).toNat (HV.ar 50044 v13 eBool.k 0 ((a17.2).length)))), (50010, v26, .arr 3 66 [HV.int .i64 x24.1, HV.int .i64 x24.2.1, HV.int .i64 x24.2.2]), (50044, v13, .arr eBool.k 4 (eBool.E a17.2))]⟩) (AS.le_of ⟨rfl, rfl, rfl, rfl, rfl, rfl, rfl, rfl, rfl, trivial⟩ ⟨rfl, rfl, rfl, trivial⟩) ⟨false, (), h, rfl⟩
          · have hc := of_decide_eq_false hc
            have h := ifF hc h
            refine AW.exit ?_
            exact to_le (s' := ⟨[(1, HV.str p1), (2, HV.fptr [HV.int .i64 p0.1, HV.int .i64 p0.2.1, slE eFromLabelTo p0.2.2] 0), (7, HV.ar 50024 v3 (eSl eBool).k 0 ((a9.2).length)), (8, HV.int .i64 a9.1)], [(50024, v3, .arr (eSl eBool).k 127 (((eSl eBool).E a9.2).set (a9.1).toNat (HV.ar 50044 v13 eBool.k 0 ((a17.2).length)))), (50044, v13, .arr eBool.k 4 (eBool.E a17.2))]⟩) (AS.le_of ⟨rfl, rfl, rfl, rfl, trivial⟩ ⟨rfl, rfl, trivial⟩) ⟨a17.2, (), h, rfl⟩
      · have hc := of_decide_eq_false hc
        have h := ifF hc h
        refine AW.exit ?_
        exact to_le (s' := ⟨[(1, HV.str p1), (2, HV.fptr [HV.int .i64 p0.1, HV.int .i64 p0.2.1, slE eFromLabelTo p0.2.2] 0), (7, HV.ar 50024 v3 (eSl eBool).k 0 ((a9.2).length))], [(50024, v3, .arr (eSl eBool).k 127 ((eSl eBool).E a9.2))]⟩) (AS.le_of ⟨rfl, rfl, rfl, trivial⟩ ⟨rfl, trivial⟩) ⟨a9.2, (), h, rfl⟩

end Go.AW

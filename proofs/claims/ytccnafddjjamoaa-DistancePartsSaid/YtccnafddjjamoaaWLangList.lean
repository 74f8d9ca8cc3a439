import Derived.Test.YtccnafddjjamoaaWLvl
namespace Go.AW
open Go Go.Proofs

theorem hget_0 {id v : Nat} {o : AObj} {H : Heap} : hget ((id, v, o) :: H) id = some (v, o) := by simp [hget]

set_option linter.unusedSimpArgs false
set_option maxHeartbeats 1000000 in
/-- language.list: the words of n letters, each with its ends -/
theorem w79 {L n : Nat} {gS gE : HV} {stp : List Int → UInt8 → List Int} {set : List Int} {A : List Int → Prop} (hL : L ≤ 16) (h1g : gS.one = true) (h1e : gE.one = true) (hA0 : A set) (hA : ∀ a c, A a → c ∈ letters.take L → A (stp a c))
    (hstep : ∀ a c, A a → c ∈ letters.take L → Pure Try.prog 125 [.agg [num L, gS, gE], ints a, .int .u8 c.toNat] (· = ints (stp a c))) :
    ACall Try.prog 79 [.agg [num L, gS, gE], ints set, num n] [] fun r H' =>
      ((∀ j, 1 ≤ j → j ≤ n → (lvl stp (letters.take L) set j).length ≤ 4096) ∧ ∃ id ver es, r = .tup [.mp id ver, .bool true] ∧ H' = [(id, ver, .map es)] ∧ es.Perm ((lvl stp (letters.take L) set n).map ent)) ∨
      (∃ j, 1 ≤ j ∧ j ≤ n ∧ 4096 < (lvl stp (letters.take L) set j).length ∧ r = .tup [.v (.map none), .bool false] ∧ H' = []) := by
  refine ACall.facts (enters' Try.func79 rfl rfl) fun hf => ?_
  have hn : n ≤ 9223372036854775807 := by
    have := fact_num hf.2.2.1
    omega
  refine ACall.of_body Try.func79 rfl rfl (Nat.le_of_ble_eq_true rfl) ?_
  unfold Try.f79
  dsimp only [enumS, Nat.reduceAdd]
  simp only [num] at *
  refine AW.rseq (fid := 79) (mt := []) [1, 2, 3] rfl fun K hK => ?_
  simp only [go_sem, reduceIte, Nat.reduceEqDiff, Int.reduceLE]
  refine hK _ ?_
  clear hK K
  refine AW.rseq (fid := 79) (mt := []) [1, 2, 3, 8] rfl fun K hK => ?_
  simp only [go_sem, reduceIte, Nat.reduceEqDiff, Int.reduceLE]
  intro v0
  refine hK _ ?_
  clear hK K
  refine AW.seq ?_
  refine AW.rseq (fid := 79) (mt := []) [1, 2, 3, 8, 18] rfl fun K hK => ?_
  simp only [go_sem, ints, reduceIte, Nat.reduceEqDiff, Int.reduceLE]
  refine hK _ ?_
  clear hK K
  have h00 : ((0 : Nat) : Int) = 0 := rfl
  refine AW.cjoin2 (fun es : List (List UInt8 × HV) => ⟨[(2, .int .i64 n), (3, .fptr [.int .i64 L, gS, gE] 0), (8, .mp (79 * 1000 + 15) v0)], [(79 * 1000 + 15, v0, .map es)]⟩) (fun es => es = (lvl stp (letters.take L) set 0).map ent) rfl (fun hc => ?_) (fun hc => ?_) ?_
  · have hc : 0 < set.length := by simpa using hc
    refine AW.region (fid := 79) (mt := []) [2, 3, 8] rfl fun K hK => ?_
    simp only [go_sem, reduceIte, Nat.reduceEqDiff, Int.reduceLE, List.length_nil, Nat.zero_le, mput]
    refine hK _ ?_
    clear hK K
    have hne : set ≠ [] := by rintro rfl; simp at hc
    refine ⟨[([], ints set)], by simp [lvl, hne, ent], AS.le_of ⟨rfl, rfl, rfl, trivial⟩ ⟨hget_0, trivial⟩⟩
  · have hc : set = [] := by
      have : ¬ 0 < set.length := by simpa using hc
      exact List.eq_nil_of_length_eq_zero (by omega)
    refine AW.skip ⟨[], by simp [lvl, hc], AS.le_of ⟨rfl, rfl, rfl, trivial⟩ ⟨hget_0, trivial⟩⟩
  rintro es0 rfl
  refine AW.seq ?_
  refine AW.rseq (fid := 79) (mt := []) [3, 8, 21, 22] rfl fun K hK => ?_
  simp only [go_sem, reduceIte, Nat.reduceEqDiff, Int.reduceLE]
  refine hK _ ?_
  clear hK K
  refine AW.block ?_
  refine AW.loopS (fun p : Nat × Nat × Nat × List (List UInt8 × HV) => ⟨[(3, .fptr [.int .i64 L, gS, gE] 0), (8, .mp p.2.1 p.2.2.1), (21, .int .i64 n), (22, .int .i64 p.1)], [(p.2.1, p.2.2.1, .map p.2.2.2)]⟩)
    (fun p => p.1 ≤ n ∧ p.2.2.2.Perm ((lvl stp (letters.take L) set p.1).map ent) ∧ ∀ j, 1 ≤ j → j ≤ p.1 → (lvl stp (letters.take L) set j).length ≤ 4096) (fun p => n - p.1) (0, _, _, _)
    (AS.le_of ⟨rfl, rfl, rfl, rfl, trivial⟩ ⟨rfl, trivial⟩) ⟨Nat.zero_le _, List.Perm.refl _, fun j h1 h2 => by dsimp only at h2; omega⟩ ?_
  rintro ⟨i, aid, av, es⟩ ⟨hi, hes, hsz⟩
  dsimp only at hi hes hsz ⊢
  refine AW.rseq (fid := 79) (mt := []) [3, 8, 21, 22, 23] rfl fun K hK => ?_
  simp only [go_sem, reduceIte, Nat.reduceEqDiff, Int.reduceLE]
  refine hK _ ?_
  clear hK K
  refine AW.cseq rfl (fun hc => ?_) (fun hc => ?_)
  · have hi' := dec_lt hc
    obtain ⟨f, hf1, hf2⟩ : ∃ f : Nat, f * 1000 + 24 ≠ aid ∧ f * 1000 + 26 ≠ aid := ⟨aid + 1, by omega, by omega⟩
    have hf3 := Ne.symm hf1
    have hf4 := Ne.symm hf2
    refine AW.skip ?_
    refine AW.seq (AW.block ?_)
    refine AW.rseq (fid := f) (mt := []) [3, 8, 9, 21, 22] rfl fun K hK => ?_
    simp only [go_sem, reduceIte, Nat.reduceEqDiff, Int.reduceLE, hf1, hf2, hf3, hf4]
    intro nv
    refine hK _ ?_
    clear hK K
    refine AW.seq ?_
    refine AW.rseq (fid := f) (mt := []) [3, 9, 21, 22, 26] rfl fun K hK => ?_
    simp only [go_sem, reduceIte, Nat.reduceEqDiff, Int.reduceLE, hf1, hf2, hf3, hf4, Nat.add_left_cancel_iff]
    refine ⟨hf2, fun iv => hK _ ?_⟩
    clear hK K
    refine AW.block ?_
    have hlk := lvl_keys (stp := stp) (set := set) (cs := letters.take L) (letters_nodup.sublist (List.take_sublist _ _)) i
    refine AW.loopS (fun p : List WS × List WS × List (List UInt8 × HV) × Bool => ⟨[(3, .fptr [.int .i64 L, gS, gE] 0), (9, .mp (f * 1000 + 24) nv), (21, .int .i64 n), (22, .int .i64 i), (26, .it (f * 1000 + 26) iv)],
        [(aid, av, .map es), (f * 1000 + 24, nv, .map p.2.2.1), (f * 1000 + 26, iv, .iter aid av (p.1.map (·.1)) p.2.2.2)]⟩)
      (fun p => (p.1 ++ p.2.1).Perm (lvl stp (letters.take L) set i) ∧ p.2.2.1.Perm ((p.1.flatMap (ext1 stp (letters.take L))).map ent) ∧ (p.1.flatMap (ext1 stp (letters.take L))).length ≤ 4096) (fun p => p.2.1.length) ([], lvl stp (letters.take L) set i, [], false)
      (AS.le_of ⟨rfl, rfl, rfl, rfl, rfl, trivial⟩ ⟨hget_0, by simp [hget, hf1, hf2, hf3, hf4], by simp [hget, hf1, hf2, hf3, hf4], trivial⟩) ⟨List.Perm.refl _, List.Perm.refl _, Nat.zero_le _⟩ ?_
    rintro ⟨vis, rest, es', cur⟩ ⟨hvr, hes', hlen⟩
    dsimp only at hvr hes' hlen ⊢
    refine AW.rseq (fid := f) (mt := []) [3, 9, 21, 22, 26, 28] rfl fun K hK => ?_
    simp only [go_sem, reduceIte, Nat.reduceEqDiff, Int.reduceLE, hf1, hf2, hf3, hf4, Nat.add_left_cancel_iff]
    refine ⟨fun hall => hK _ ?_, fun k v hkv hks => hK _ ?_⟩
    · clear hK K
      have hr := rest_nil hlk hvr hes hall
      subst hr
      rw [List.append_nil] at hvr
      have hnx : es'.Perm ((lvl stp (letters.take L) set (i + 1)).map ent) := hes'.trans ((perm_flat hvr).map ent)
      have hln : (lvl stp (letters.take L) set (i + 1)).length ≤ 4096 := by
        have := (perm_flat (stp := stp) (cs := letters.take L) hvr).length_eq
        show ((lvl stp (letters.take L) set i).flatMap _).length ≤ 4096
        omega
      have hsz' : ∀ j, 1 ≤ j → j ≤ i + 1 → (lvl stp (letters.take L) set j).length ≤ 4096 := fun j h1 h2 => by
        rcases Nat.lt_or_ge i j with h | h
        · have : j = i + 1 := by omega
          subst this; exact hln
        · exact hsz j h1 h
      refine AW.cseq rfl (fun hc => by cases hc) (fun _ => ?_)
      refine AW.exit ?_
      refine AW.rseq (fid := f) (mt := []) [3, 8, 21, 22] rfl fun K hK => ?_
      simp only [go_sem, reduceIte, Nat.reduceEqDiff, Int.reduceLE, hf1, hf2, hf3, hf4, Nat.add_left_cancel_iff]
      refine hK _ ?_
      clear hK K
      refine AW.rseq (fid := f) (mt := []) [3, 8, 21, 22, 59] rfl fun K hK => ?_
      simp only [go_sem, reduceIte, Nat.reduceEqDiff, Int.reduceLE, hf1, hf2, hf3, hf4, Nat.add_left_cancel_iff]
      refine ⟨by rw [hes'.length_eq, List.length_map]; simp only [maxLen]; omega, hK _ ?_⟩
      clear hK K
      refine AW.cond rfl (fun hc => ?_) (fun hc => ?_)
      · have h0 : es' = [] := by
          have : (es'.length : Int) = 0 := by simpa using hc
          exact List.eq_nil_of_length_eq_zero (by omega)
        subst h0
        have hl0 : lvl stp (letters.take L) set (i + 1) = [] := by
          have := hnx.length_eq
          simp only [List.length_nil, List.length_map] at this
          exact List.eq_nil_of_length_eq_zero this.symm
        have hlj := @lvl_nil stp (letters.take L) set (i + 1) hl0
        refine AW.exit ?_
        refine AW.rseq (fid := 79) (mt := []) [6, 7] rfl fun K hK => ?_
        simp only [go_sem, reduceIte, Nat.reduceEqDiff, Int.reduceLE, hf1, hf2, hf3, hf4, Nat.add_left_cancel_iff]
        refine hK _ ?_
        clear hK K
        refine AW.ret ⟨.inr rfl, ?_⟩
        simp only [go_sem, reduceIte, Nat.reduceEqDiff]
        refine ⟨_, [(f * 1000 + 24, nv, .map [])], Conv.drop (leH_get ⟨by simp [hget, hf1, hf2, hf3, hf4], trivial⟩), .inl ⟨fun j h1 h2 => ?_, _, _, _, rfl, rfl, ?_⟩⟩
        · rcases Nat.lt_or_ge (i + 1) j with h | h
          · rw [hlj (by omega)]; simp
          · exact hsz' j h1 h
        · rw [hlj (by omega)]; exact List.Perm.refl _
      · refine AW.skip ?_
        refine AW.region (fid := 79) (mt := []) [3, 8, 21, 22] rfl fun K hK => ?_
        simp only [go_sem, reduceIte, Nat.reduceEqDiff, Int.reduceLE]
        refine hK _ ?_
        clear hK K
        refine ⟨(i + 1, f * 1000 + 24, nv, es'), ⟨by dsimp only; omega, hnx, hsz'⟩, by dsimp only; omega, ?_⟩
        dsimp only
        rw [cnt_next hn hi']
        exact AS.le_of ⟨rfl, rfl, rfl, rfl, trivial⟩ ⟨by simp [hget, hf1, hf2, hf3, hf4], trivial⟩
    · clear hK K
      obtain ⟨x, l1, l2, rfl, hx, hvr'⟩ := next_pick hvr hes hkv hks
      cases hx
      have hxl : x ∈ lvl stp (letters.take L) set i := hvr'.mem_iff.1 (by simp)
      have hxA : A x.2 := lvl_all hA0 hA i x hxl
      have hxn : x.1.length = i := lvl_len i x hxl
      refine AW.cseq rfl (fun _ => ?_) (fun hc => by cases hc)
      refine AW.skip ?_
      refine AW.block ?_
      refine AW.rseq (fid := f) (mt := []) [3, 9, 10, 11, 21, 22, 26] rfl fun K hK => ?_
      simp only [go_sem, reduceIte, Nat.reduceEqDiff, Int.reduceLE, hf1, hf2, hf3, hf4, Nat.add_left_cancel_iff]
      refine ⟨_, alook_mem (perm_keys hes hlk) hkv, hK _ ?_⟩
      clear hK K
      refine AW.seq ?_
      refine AW.rseq (fid := f) (mt := []) [3, 9, 10, 11, 21, 22, 26, 33, 34] rfl fun K hK => ?_
      simp only [go_sem, reduceIte, Nat.reduceEqDiff, Int.reduceLE, List.getElem?_cons_zero, Nat.add_zero]
      refine hK _ ?_
      clear hK K
      refine AW.block ?_
      refine AW.loopS (fun p : Nat × List (List UInt8 × HV) => ⟨[(3, .fptr [.int .i64 L, gS, gE] 0), (9, .mp (f * 1000 + 24) nv), (10, .str x.1), (11, ints x.2), (21, .int .i64 n), (22, .int .i64 i), (26, .it (f * 1000 + 26) iv), (33, .int .i64 L), (34, .int .i64 p.1)],
          [(aid, av, .map es), (f * 1000 + 24, nv, .map p.2), (f * 1000 + 26, iv, .iter aid av (x.1 :: vis.map (·.1)) true)]⟩)
        (fun p => p.1 ≤ L ∧ p.2.Perm ((vis.flatMap (ext1 stp (letters.take L)) ++ ext1 stp ((letters.take L).take p.1) x).map ent)) (fun p => L - p.1) (0, es')
        (AS.le_of ⟨rfl, rfl, rfl, rfl, rfl, rfl, rfl, rfl, rfl, trivial⟩ ⟨hget_0, by simp [hget, hf1, hf2, hf3, hf4], by simp [hget, hf1, hf2, hf3, hf4], trivial⟩) ⟨Nat.zero_le _, by simpa [ext1] using hes'⟩ ?_
      rintro ⟨j, es2⟩ ⟨hj, hes2⟩
      dsimp only at hj hes2 ⊢
      refine AW.rseq (fid := f) (mt := []) [3, 9, 10, 11, 21, 22, 26, 33, 34, 35] rfl fun K hK => ?_
      simp only [go_sem, reduceIte, Nat.reduceEqDiff, Int.reduceLE]
      refine hK _ ?_
      clear hK K
      refine AW.cseq rfl (fun hc => ?_) (fun hc => ?_)
      · have hj' := dec_lt hc
        have hjl : j < letters.length := by show j < 16; omega
        have hjt : j < (letters.take L).length := by rw [List.length_take]; exact Nat.lt_min.2 ⟨hj', hjl⟩
        have hcj : (letters.take L)[j] = letters[j] := List.getElem_take
        have hmem : letters[j] ∈ letters.take L := hcj ▸ List.getElem_mem hjt
        refine AW.skip ?_
        refine AW.seq (AW.block ?_)
        refine AW.rseq (fid := f) (mt := []) [3, 9, 10, 11, 12, 21, 22, 26, 33, 34] rfl fun K hK => ?_
        simp only [go_sem, reduceIte, Nat.reduceEqDiff, Int.reduceLE]
        refine hK _ ?_
        clear hK K
        have hlj : ([48, 49, 50, 51, 52, 53, 54, 55, 56, 57, 97, 98, 99, 100, 101, 102] : List UInt8)[j]? = some letters[j] := List.getElem?_eq_getElem (l := letters) hjl
        refine AW.rseq (fid := f) (mt := []) [3, 9, 10, 11, 13, 21, 22, 26, 33, 34] rfl fun K hK => ?_
        simp only [go_sem, reduceIte, Nat.reduceEqDiff, Int.reduceLE, List.length_nil, List.length_cons, Nat.reduceAdd, Nat.reduceLeDiff, hlj]
        refine ⟨by omega, hK _ ?_⟩
        clear hK K
        refine AW.rseq (fid := f) (mt := []) [3, 9, 10, 11, 13, 14, 21, 22, 26, 33, 34] rfl fun K hK => ?_
        simp only [go_sem, reduceIte, Nat.reduceEqDiff, Int.reduceLE, List.length_nil, List.length_cons, Nat.reduceAdd, Nat.reduceLeDiff, List.drop_zero, List.take_succ_cons, List.take_zero]
        refine (hstep x.2 letters[j] hxA hmem).use fun r hr => ?_
        subst hr
        refine hK _ ?_
        clear hK K
        refine AW.rseq (fid := f) (mt := []) [3, 9, 10, 11, 13, 14, 21, 22, 26, 33, 34, 45] rfl fun K hK => ?_
        simp only [go_sem, ints, reduceIte, Nat.reduceEqDiff, Int.reduceLE]
        refine hK _ ?_
        clear hK K
        have hxk : x.1 ∉ vis.map (·.1) := hks
        have htake := ext1_take (stp := stp) x hjt
        rw [hcj] at htake
        refine AW.cond rfl (fun hc => ?_) (fun hc => ?_)
        · have hne : stp x.2 letters[j] ≠ [] := by
            intro h0
            rw [h0] at hc
            simp at hc
          rw [if_neg hne] at htake
          have hnew : alook (x.1 ++ [letters[j]]) es2 = none := hcj ▸ key_new (letters_nodup.sublist (List.take_sublist _ _)) hxk hjt hes2
          refine AW.region (fid := f) (mt := []) [3, 9, 10, 11, 21, 22, 26, 33, 34] rfl fun K hK => ?_
          simp only [go_sem, reduceIte, Nat.reduceEqDiff, Int.reduceLE, hf1, hf2, hf3, hf4, Nat.add_left_cancel_iff, utf_letters _ (List.getElem_mem hjl)]
          refine ⟨by simp only [List.length_cons, List.length_nil, maxLen, hxn]; omega, hf3, hK _ ?_⟩
          clear hK K
          refine AW.region (fid := f) (mt := []) [3, 9, 10, 11, 21, 22, 26, 33, 34] rfl fun K hK => ?_
          simp only [go_sem, reduceIte, Nat.reduceEqDiff, Int.reduceLE]
          refine hK _ ?_
          clear hK K
          refine ⟨(j + 1, mput (x.1 ++ [letters[j]]) (ints (stp x.2 letters[j])) es2), ⟨by dsimp only; omega, ?_⟩, by dsimp only; omega, ?_⟩
          · dsimp only
            rw [mput_new hnew, htake, ← List.append_assoc, List.map_append]
            exact hes2.append (List.Perm.refl _)
          · dsimp only
            rw [cnt_next (by omega) hj']
            exact AS.le_of ⟨rfl, rfl, rfl, rfl, rfl, rfl, rfl, rfl, rfl, trivial⟩ ⟨hget_0, by simp [hget, hf1, hf2, hf3, hf4, ints], by simp [hget, hf1, hf2, hf3, hf4], trivial⟩
        · have he : stp x.2 letters[j] = [] := by
            have : ¬ 0 < (stp x.2 letters[j]).length := by simpa using hc
            exact List.eq_nil_of_length_eq_zero (by omega)
          rw [if_pos he, List.append_nil] at htake
          refine AW.skip ?_
          refine AW.region (fid := f) (mt := []) [3, 9, 10, 11, 21, 22, 26, 33, 34] rfl fun K hK => ?_
          simp only [go_sem, reduceIte, Nat.reduceEqDiff, Int.reduceLE]
          refine hK _ ?_
          clear hK K
          refine ⟨(j + 1, es2), ⟨by dsimp only; omega, ?_⟩, by dsimp only; omega, ?_⟩
          · dsimp only
            rw [htake]
            exact hes2
          · dsimp only
            rw [cnt_next (by omega) hj']
            exact AS.le_of ⟨rfl, rfl, rfl, rfl, rfl, rfl, rfl, rfl, rfl, trivial⟩ ⟨hget_0, by simp [hget, hf1, hf2, hf3, hf4], by simp [hget, hf1, hf2, hf3, hf4], trivial⟩
      · have hj2 := cnt_ge hc hj
        subst hj2
        have htk : (letters.take j).take j = letters.take j := by rw [List.take_take, Nat.min_self]
        rw [htk] at hes2
        have hes3 : es2.Perm (((x :: vis).flatMap (ext1 stp (letters.take j))).map ent) := by
          refine hes2.trans (List.Perm.map _ ?_)
          rw [List.flatMap_cons]
          exact List.perm_append_comm
        refine AW.exit ?_
        refine AW.rseq (fid := f) (mt := []) [3, 9, 21, 22, 26, 55] rfl fun K hK => ?_
        simp only [go_sem, reduceIte, Nat.reduceEqDiff, Int.reduceLE, hf1, hf2, hf3, hf4, Nat.add_left_cancel_iff]
        have hle2 : es2.length = ((x :: vis).flatMap (ext1 stp (letters.take j))).length := by rw [hes3.length_eq, List.length_map]
        have htot : ((x :: vis).flatMap (ext1 stp (letters.take j))).length ≤ (lvl stp (letters.take j) set (i + 1)).length := by
          have := (perm_flat (stp := stp) (cs := letters.take j) hvr').length_eq
          rw [List.flatMap_append, List.length_append] at this
          show _ ≤ ((lvl stp (letters.take j) set i).flatMap _).length
          omega
        have hsmall : es2.length ≤ maxLen := by
          have hb : ∀ (y : WS), (ext1 stp (letters.take j) y).length ≤ 16 := fun y => by
            refine Nat.le_trans (List.length_filterMap_le _ _) ?_
            rw [List.length_take]
            exact Nat.le_trans (Nat.min_le_left _ _) hL
          rw [hle2, List.flatMap_cons, List.length_append]
          have := hb x
          simp only [maxLen]
          omega
        refine ⟨hsmall, hK _ ?_⟩
        clear hK K
        refine AW.cond rfl (fun hc => ?_) (fun hc => ?_)
        · have hbig : 4096 < es2.length := by
            have : (4096 : Int) < es2.length := by simpa using hc
            omega
          refine AW.rseq (fid := 79) (mt := []) [6, 7] rfl fun K hK => ?_
          simp only [go_sem, reduceIte, Nat.reduceEqDiff, Int.reduceLE]
          refine hK _ ?_
          clear hK K
          refine AW.ret ⟨.inr rfl, ?_⟩
          simp only [go_sem, reduceIte, Nat.reduceEqDiff]
          exact ⟨_, [], Conv.drop (fun _ _ h => by cases h), .inr ⟨i + 1, by omega, by omega, by omega, rfl, rfl⟩⟩
        · have hsm : es2.length ≤ 4096 := by
            have : ¬ (4096 : Int) < es2.length := by simpa using hc
            omega
          refine AW.skip ?_
          refine ⟨(x :: vis, l1 ++ l2, es2, true), ⟨hvr', hes3, by dsimp only; omega⟩, by simp, ?_⟩
          exact AS.le_of ⟨rfl, rfl, rfl, rfl, rfl, trivial⟩ ⟨hget_0, by simp [hget, hf1, hf2, hf3, hf4], by simp [hget, hf1, hf2, hf3, hf4], trivial⟩
  · have hi2 := cnt_ge hc hi
    subst hi2
    refine AW.exit ?_
    refine AW.rseq (fid := 79) (mt := []) [6, 7] rfl fun K hK => ?_
    simp only [go_sem, reduceIte, Nat.reduceEqDiff, Int.reduceLE]
    refine hK _ ?_
    clear hK K
    refine AW.ret ⟨.inr rfl, ?_⟩
    simp only [go_sem, reduceIte, Nat.reduceEqDiff]
    exact ⟨_, _, Conv.refl _ _, .inl ⟨hsz, _, _, _, rfl, rfl, hes⟩⟩
end Go.AW

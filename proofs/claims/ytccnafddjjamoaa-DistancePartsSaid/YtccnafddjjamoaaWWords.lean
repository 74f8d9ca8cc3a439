import Derived.Test.YtccnafddjjamoaaWKeys
import Derived.Test.YtccnafddjjamoaaAwO
namespace Go.AW
open Go Go.Proofs

def nilS : HV := .v (.slice none 0 0)
/-- a list of texts as the code makes it: nil if there is none -/
def strsN (l : List (List UInt8)) : HV := if l = [] then nilS else strs l

set_option linter.unusedSimpArgs false
theorem w126 {f mid mver : Nat} {es : List (List UInt8 × HV)} (hn : (es.map (·.1)).Nodup) (hbig : es.length ≤ 1099511627776) (h2 : f * 1000 + 2 ≠ mid) (h5 : f * 1000 + 5 ≠ mid) (h11 : f * 1000 + 11 ≠ mid) (h9 : f * 1000 + 900 ≠ mid) :
    ACall Try.prog 126 [.fn (.func 127) [] [.fptr [.mp mid mver] 0]] [(mid, mver, .map es)] fun r H' => ∃ l, l.Perm (es.map (·.1)) ∧ ((l = [] ∧ r = .v (.slice none 0 0) ∧ H' = []) ∨
      ∃ id av, l ≠ [] ∧ r = .ar id av 1 0 l.length ∧ H' = [(id, av, .arr 1 9 (l.map .str))]) := by
  refine ACall.of_body Try.func126 rfl rfl (Nat.le_of_ble_eq_true rfl) ?_
  unfold Try.f126
  dsimp only [enumS, Nat.reduceAdd]
  refine AW.rseq (fid := f) (mt := []) [0] rfl fun K hK => ?_
  simp only [go_sem, reduceIte, Nat.reduceEqDiff, Int.reduceLE]
  refine hK _ ?_
  clear hK K
  refine AW.rseq (fid := f) (mt := []) [2] rfl fun K hK => ?_
  simp only [go_sem, reduceIte, Nat.reduceEqDiff, Int.reduceLE]
  refine (w160 hn hbig h2 h5 h11 h9).mono ?_
  rintro r H' hr
  refine hK _ ?_
  clear hK K
  refine AW.ret ⟨.inr rfl, ?_⟩
  simp only [go_sem, reduceIte, Nat.reduceEqDiff]
  exact ⟨_, _, Conv.refl _ _, hr⟩

/-- slices.Sorted of a map's keys -/
theorem w81 {f mid mver : Nat} {es : List (List UInt8 × HV)} (hn : (es.map (·.1)).Nodup) (hbig : es.length ≤ 1099511627776) (h2 : f * 1000 + 2 ≠ mid) (h5 : f * 1000 + 5 ≠ mid) (h11 : f * 1000 + 11 ≠ mid) (h9 : f * 1000 + 900 ≠ mid) :
    ACall Try.prog 81 [.fn (.func 127) [] [.fptr [.mp mid mver] 0]] [(mid, mver, .map es)] fun r H' => (es = [] ∧ r = nilS ∧ H' = []) ∨
      ∃ id av, es ≠ [] ∧ r = .ar id av 1 0 es.length ∧ H' = [(id, av, .arr 1 9 ((sortS (es.map (·.1))).map .str))] := by
  refine ACall.of_body Try.func81 rfl rfl (Nat.le_of_ble_eq_true rfl) ?_
  unfold Try.f81
  dsimp only [enumS, Nat.reduceAdd]
  refine AW.rseq (fid := f) (mt := []) [0] rfl fun K hK => ?_
  simp only [go_sem, reduceIte, Nat.reduceEqDiff, Int.reduceLE]
  refine hK _ ?_
  clear hK K
  refine AW.rseq (fid := f) (mt := []) [3] rfl fun K hK => ?_
  simp only [go_sem, reduceIte, Nat.reduceEqDiff, Int.reduceLE]
  refine (w126 hn hbig h2 h5 h11 h9).mono ?_
  rintro r H' ⟨l, hp, ⟨rfl, rfl, rfl⟩ | ⟨id, av, hln, rfl, rfl⟩⟩
  · refine hK _ ?_
    clear hK K
    have he : es = [] := by
      have := hp.length_eq
      simp only [List.length_nil, List.length_map] at this
      exact List.eq_nil_of_length_eq_zero this.symm
    refine AW.rseq (fid := f) (mt := []) [3] rfl fun K hK => ?_
    simp only [go_sem, reduceIte, Nat.reduceEqDiff, Int.reduceLE]
    refine w45n ?_
    refine hK _ ?_
    clear hK K
    refine AW.rseq (fid := f) (mt := []) [2] rfl fun K hK => ?_
    simp only [go_sem, reduceIte, Nat.reduceEqDiff, Int.reduceLE]
    refine hK _ ?_
    clear hK K
    refine AW.ret ⟨.inr rfl, ?_⟩
    simp only [go_sem, reduceIte, Nat.reduceEqDiff]
    exact ⟨_, _, Conv.refl _ _, .inl ⟨he, rfl, rfl⟩⟩
  · refine hK _ ?_
    clear hK K
    have hlen := hp.length_eq
    rw [List.length_map] at hlen
    refine AW.rseq (fid := f) (mt := []) [3] rfl fun K hK => ?_
    simp only [go_sem, reduceIte, Nat.reduceEqDiff, Int.reduceLE]
    refine w45 hget_0 (by omega) ?_
    simp only [go_sem, reduceIte, Nat.reduceEqDiff, Int.reduceLE]
    refine hK _ ?_
    clear hK K
    refine AW.rseq (fid := f) (mt := []) [2] rfl fun K hK => ?_
    simp only [go_sem, reduceIte, Nat.reduceEqDiff, Int.reduceLE]
    refine hK _ ?_
    clear hK K
    refine AW.ret ⟨.inr rfl, ?_⟩
    simp only [go_sem, reduceIte, Nat.reduceEqDiff]
    exact ⟨_, _, Conv.refl _ _, .inr ⟨id, av, by rintro rfl; exact hln (List.eq_nil_of_length_eq_zero hlen), by rw [hlen], by rw [sortS_perm hp]⟩⟩

/-- maps.Keys -/
theorem w82 {id ver : Nat} {H : Heap} {K : HV → Heap → Prop} (hK : K (.fn (.func 127) [] [.fptr [.mp id ver] 0]) H) : ACall Try.prog 82 [.mp id ver] H K := by
  refine ACall.of_body Try.func82 rfl rfl (Nat.le_of_ble_eq_true rfl) ?_
  unfold Try.f82
  dsimp only [enumS, Nat.reduceAdd]
  refine AW.rseq (fid := 82) (mt := []) [1] rfl fun K1 hK1 => ?_
  simp only [go_sem, reduceIte, Nat.reduceEqDiff, Int.reduceLE, HV.one]
  refine hK1 _ ?_
  clear hK1 K1
  refine AW.rseq (fid := 82) (mt := []) [2] rfl fun K1 hK1 => ?_
  simp only [go_sem, reduceIte, Nat.reduceEqDiff, Int.reduceLE]
  refine hK1 _ ?_
  clear hK1 K1
  refine AW.ret ⟨.inr rfl, ?_⟩
  simp only [go_sem, reduceIte, Nat.reduceEqDiff]
  exact ⟨_, _, Conv.refl _ _, hK⟩

/-- there are not too many words on the way -/
def okLvl (stp : List Int → UInt8 → List Int) (cs : List UInt8) (set : List Int) (n : Nat) : Bool := (List.range n).all fun j => decide ((lvl stp cs set (j + 1)).length ≤ 4096)

theorem okLvl_iff {stp : List Int → UInt8 → List Int} {cs : List UInt8} {set : List Int} {n : Nat} : okLvl stp cs set n = true ↔ ∀ j, 1 ≤ j → j ≤ n → (lvl stp cs set j).length ≤ 4096 := by
  simp only [okLvl, List.all_eq_true, List.mem_range, decide_eq_true_eq]
  constructor
  · intro h j h1 h2
    have := h (j - 1) (by omega)
    rwa [show j - 1 + 1 = j by omega] at this
  · exact fun h j hj => h (j + 1) (by omega) (by omega)

def wordsR (stp : List Int → UInt8 → List Int) (cs : List UInt8) (set : List Int) (n : Nat) : HV :=
  if okLvl stp cs set n = true then .tup [strsN (sortS ((lvl stp cs set n).map (·.1))), .int .i64 0] else .tup [nilS, .int .i64 4]

theorem clean_wordsR (stp : List Int → UInt8 → List Int) (cs : List UInt8) (set : List Int) (n : Nat) : clean (wordsR stp cs set n) := by
  unfold wordsR strsN
  split
  · split
    · exact ⟨trivial, trivial, trivial⟩
    · exact ⟨clean_strs _, trivial, trivial⟩
  · exact ⟨trivial, trivial, trivial⟩

set_option maxHeartbeats 1000000 in
/-- language.Words -/
theorem w36 {L n : Nat} {gS gE : HV} {stp : List Int → UInt8 → List Int} {set : List Int} {A : List Int → Prop} (hL : L ≤ 16) (h1g : gS.one = true) (h1e : gE.one = true) (hA0 : A set) (hA : ∀ a c, A a → c ∈ letters.take L → A (stp a c))
    (hstep : ∀ a c, A a → c ∈ letters.take L → Pure Try.prog 125 [.agg [num L, gS, gE], ints a, .int .u8 c.toNat] (· = ints (stp a c))) (h78 : Pure Try.prog 78 [.agg [num L, gS, gE], num n] (· = .int .i64 0)) (h80 : Pure Try.prog 80 [.agg [num L, gS, gE]] (· = ints set)) :
    Fresh Try.prog 36 [.agg [num L, gS, gE], num n] (wordsR stp (letters.take L) set n) := by
  refine Fresh.of_body 2 Try.func36 rfl rfl (Nat.le_of_ble_eq_true rfl) (clean_wordsR _ _ _ _) fun hf => ?_
  have h79 := w79 (n := n) hL h1g h1e hA0 hA hstep
  unfold Try.f36
  dsimp only [enumS, Nat.reduceAdd]
  simp only [num] at h78 h80 h79 ⊢
  refine AW.rseq (fid := 36) (mt := []) [1, 2] rfl fun K hK => ?_
  simp only [go_sem, reduceIte, Nat.reduceEqDiff, Int.reduceLE]
  refine hK _ ?_
  clear hK K
  refine AW.seq ?_
  refine AW.rseq (fid := 36) (mt := []) [1, 2, 6] rfl fun K hK => ?_
  simp only [go_sem, reduceIte, Nat.reduceEqDiff, Int.reduceLE, List.length_nil, List.length_cons, Nat.reduceAdd, Nat.reduceLeDiff, List.drop_zero, List.take_succ_cons, List.take_zero]
  refine h78.use fun r hr => ?_
  subst hr
  refine hK _ ?_
  clear hK K
  refine AW.rseq (fid := 36) (mt := []) [1, 2, 6, 13] rfl fun K hK => ?_
  simp only [go_sem, reduceIte, Nat.reduceEqDiff, Int.reduceLE]
  refine hK _ ?_
  clear hK K
  refine AW.cond rfl (fun hc => by simp at hc) (fun _ => ?_)
  refine AW.skip ?_
  refine AW.seq (AW.any follows ?_)
  refine AnyAt.steady (q := 0) 4 (AnyAt _ _ _ _ _ 4) rfl rfl (by decide) (by decide) rfl rfl (fun _ h => h) ?_
  dsimp only [List.take, List.drop, Nat.sub_zero]
  simp only [go_sem, reduceIte, Nat.reduceEqDiff, Int.reduceLE, List.length_nil, List.length_cons, Nat.reduceAdd, Nat.reduceLeDiff, List.drop_zero, List.take_succ_cons, List.take_zero]
  refine ⟨_, ACallD.pure0 h80, ?_⟩
  refine AnyAt.op rfl (by decide) rfl (AOpI.plain rfl rfl (aop_sound (fid := 36) (mt := []) rfl ?_))
  dsimp only [List.getElem_toArray, List.getElem_cons_succ, List.getElem_cons_zero]
  simp only [go_sem, ints, reduceIte, Nat.reduceEqDiff, Int.reduceLE, List.length_nil, List.length_cons, Nat.reduceAdd, Nat.reduceLeDiff, List.drop_zero, List.take_succ_cons, List.take_zero, List.getElem?_cons_zero, List.getElem?_cons_succ]
  simp only [ints] at h79
  refine h79.mono ?_
  rintro r H' (⟨hok, id, ver, es, rfl, rfl, hes⟩ | ⟨j, h1, h2, h3, rfl, rfl⟩)
  · have hok' := okLvl_iff.2 hok
    refine AnyAt.steady (q := 5) 10 (AnyAt _ _ _ _ _ 10) rfl rfl (by decide) (by decide) rfl rfl (fun _ h => h) ?_
    dsimp only [Nat.reduceSub, List.take, List.drop]
    simp only [go_sem, reduceIte, Nat.reduceEqDiff, Int.reduceLE, Nat.reduceSub, List.length_nil, List.length_cons, Nat.reduceAdd, Nat.reduceLeDiff, List.drop_zero, List.take_succ_cons, List.take_zero, List.getElem?_cons_zero, List.getElem?_cons_succ]
    refine AnyAt.done rfl ?_
    refine AW.seq ?_
    refine AW.rseq (fid := 36) (mt := []) [7, 24] rfl fun K hK => ?_
    simp only [go_sem, reduceIte, Nat.reduceEqDiff, Int.reduceLE]
    refine hK _ ?_
    clear hK K
    refine AW.cond rfl (fun hc => by simp at hc) (fun _ => ?_)
    refine AW.skip ?_
    refine AW.rseq (fid := 36) (mt := []) [4, 5] rfl fun K hK => ?_
    simp only [go_sem, reduceIte, Nat.reduceEqDiff, Int.reduceLE]
    refine w82 ?_
    have hkn : (es.map (·.1)).Nodup := perm_keys hes (lvl_keys (letters_nodup.sublist (List.take_sublist _ _)) n)
    have hlen : es.length = (lvl stp (letters.take L) set n).length := by rw [hes.length_eq, List.length_map]
    have hbig : es.length ≤ 1099511627776 := by
      rw [hlen]
      cases n with
      | zero => simp only [lvl]; split <;> simp
      | succ n => have := hok (n + 1) (by omega) (Nat.le_refl _); omega
    have hsk : sortS (es.map (·.1)) = sortS ((lvl stp (letters.take L) set n).map (·.1)) := by
      refine sortS_perm ?_
      have := hes.map (·.1)
      rw [List.map_map] at this
      exact this
    refine (w81 (f := id + 1) hkn hbig (by omega) (by omega) (by omega) (by omega)).mono ?_
    rintro r H' (⟨he, rfl, rfl⟩ | ⟨id', av, hen, rfl, rfl⟩)
    · refine hK _ ?_
      clear hK K
      refine AW.ret ⟨.inr rfl, ?_⟩
      simp only [go_sem, reduceIte, Nat.reduceEqDiff]
      have hl0 : lvl stp (letters.take L) set n = [] := List.eq_nil_of_length_eq_zero (by rw [← hlen, he]; rfl)
      refine ⟨_, _, Conv.refl _ _, rfl, rfl, ?_⟩
      simp only [wordsR, hok', if_true, hl0, List.map_nil, sortS, List.mergeSort_nil, strsN, frz, List.map_cons]
      rfl
    · refine hK _ ?_
      clear hK K
      refine AW.ret ⟨.inr rfl, ?_⟩
      simp only [go_sem, reduceIte, Nat.reduceEqDiff]
      refine ⟨_, _, Conv.refl _ _, rfl, ?_, ?_⟩
      · simp only [nfH, nfO, Bool.and_true]
        have : ∀ l : List (List UInt8), nfL (l.map HV.str) = true := fun l => by
          induction l with
          | nil => rfl
          | cons a l ih => simp only [List.map_cons, nfL, nf, ih, Bool.and_self]
        exact this _
      · have hne : sortS ((lvl stp (letters.take L) set n).map (·.1)) ≠ [] := by
          intro h0
          have h1 := congrArg List.length h0
          rw [sortS_len, List.length_map, ← hlen] at h1
          exact hen (List.eq_nil_of_length_eq_zero h1)
        have hll : (sortS (es.map (·.1))).length = es.length := by rw [sortS_len, List.length_map]
        have hfr : frz 2 [(id', av, AObj.arr 1 9 ((sortS (es.map (·.1))).map HV.str))] (.tup [.ar id' av 1 0 es.length, .int .i64 0]) = .tup [.sl 1 es.length ((sortS (es.map (·.1))).map HV.str), .int .i64 0] := by
          have h5 : ((sortS (es.map (·.1))).map HV.str).length = es.length := by rw [List.length_map, hll]
          simp only [frz, List.map_cons, List.map_nil, hget_0, Nat.zero_add, Nat.mul_one, h5, Nat.le_refl, and_self, if_true, List.drop_zero]
          rw [← h5, List.take_length]
          rw [List.map_id']
        refine hfr.trans ?_
        rw [hsk] at hll ⊢
        simp only [wordsR, hok', if_true, strsN, if_neg hne, strs]
        rw [hll]
  · have hok' : ¬ okLvl stp (letters.take L) set n = true := fun h => by
      have := okLvl_iff.1 h j h1 h2
      omega
    refine AnyAt.steady (q := 5) 10 (AnyAt _ _ _ _ _ 10) rfl rfl (by decide) (by decide) rfl rfl (fun _ h => h) ?_
    dsimp only [Nat.reduceSub, List.take, List.drop]
    simp only [go_sem, reduceIte, Nat.reduceEqDiff, Int.reduceLE, Nat.reduceSub, List.length_nil, List.length_cons, Nat.reduceAdd, Nat.reduceLeDiff, List.drop_zero, List.take_succ_cons, List.take_zero, List.getElem?_cons_zero, List.getElem?_cons_succ]
    refine AnyAt.done rfl ?_
    refine AW.seq ?_
    refine AW.rseq (fid := 36) (mt := []) [7, 24] rfl fun K hK => ?_
    simp only [go_sem, reduceIte, Nat.reduceEqDiff, Int.reduceLE]
    refine hK _ ?_
    clear hK K
    refine AW.cond rfl (fun _ => ?_) (fun hc => by simp at hc)
    refine AW.rseq (fid := 36) (mt := []) [4, 5] rfl fun K hK => ?_
    simp only [go_sem, reduceIte, Nat.reduceEqDiff, Int.reduceLE]
    refine hK _ ?_
    clear hK K
    refine AW.ret ⟨.inr rfl, ?_⟩
    simp only [go_sem, reduceIte, Nat.reduceEqDiff]
    refine ⟨_, _, Conv.refl _ _, rfl, rfl, ?_⟩
    simp only [wordsR, if_neg hok', frz, List.map_cons]
    rfl
end Go.AW

import Derived.Test.YtccnafddjjamoaaWSort
import Derived.Test.YtccnafddjjamoaaWLangList
namespace Go.AW
open Go Go.Proofs

theorem pick_key {vis rest ks : List (List UInt8)} {k : List UInt8} (hp : (vis ++ rest).Perm ks) (hm : k ∈ ks) (hk : k ∉ vis) : ∃ l1 l2, rest = l1 ++ k :: l2 ∧ ((k :: vis) ++ (l1 ++ l2)).Perm ks := by
  have hx : k ∈ rest := (List.mem_append.1 (hp.mem_iff.2 hm)).resolve_left hk
  obtain ⟨l1, l2, rfl⟩ := List.append_of_mem hx
  refine ⟨l1, l2, rfl, List.Perm.trans ?_ hp⟩
  have e1 : (k :: vis) ++ (l1 ++ l2) = k :: ((vis ++ l1) ++ l2) := by simp
  have e2 : vis ++ (l1 ++ k :: l2) = (vis ++ l1) ++ k :: l2 := by simp
  rw [e1, e2]
  exact List.perm_middle.symm

theorem no_rest {vis rest ks : List (List UInt8)} (hn : ks.Nodup) (hp : (vis ++ rest).Perm ks) (hall : ∀ k ∈ ks, k ∈ vis) : rest = [] := by
  cases rest with
  | nil => rfl
  | cons x rest =>
    have h1 := hp.nodup_iff.2 hn
    have hx : x ∈ vis := hall x (hp.mem_iff.1 (by simp))
    exact absurd rfl ((List.nodup_append.1 h1).2.2 x hx x (List.mem_cons_self ..))

set_option linter.unusedSimpArgs false
/-- the iterator over a map's keys -/
theorem w127 {f mid mver lid lver : Nat} {es : List (List UInt8 × HV)} {H : Heap} {K : HV → Heap → Prop} (hn : (es.map (·.1)).Nodup) (hne : f * 1000 + 5 ≠ mid) (hm : hget H mid = some (mver, .map es)) (J : Nat → List (List UInt8) → Heap → Prop)
    (hJm : ∀ iv vis H, J iv vis H → hget H mid = some (mver, .map es)) (hJi : ∀ iv vis H, J iv vis H → ∃ cur, hget H (f * 1000 + 5) = some (iv, .iter mid mver vis cur))
    (h0 : ∀ iv, J iv [] (hset H (f * 1000 + 5) iv (.iter mid mver [] false)))
    (hstep : ∀ iv vis k H, J iv vis H → k ∈ es.map (·.1) → k ∉ vis → vis.length < es.length → YCall Try.prog lid lver [.str k] (hset H (f * 1000 + 5) iv (.iter mid mver (k :: vis) true)) fun r H' => r = .bool true ∧ J iv (k :: vis) H')
    (hdone : ∀ iv vis H, J iv vis H → vis.Perm (es.map (·.1)) → K (.tup []) H) : ACall Try.prog 127 [.yl lid lver, .fptr [.mp mid mver] 0] H K := by
  refine ACall.of_body Try.func127 rfl rfl (Nat.le_of_ble_eq_true rfl) ?_
  unfold Try.f127
  dsimp only [enumS, Nat.reduceAdd]
  refine AW.rseq (fid := f) (mt := []) [0, 5] rfl fun K1 hK1 => ?_
  simp only [go_sem, reduceIte, Nat.reduceEqDiff, Int.reduceLE, List.getElem?_cons_zero, hm]
  refine ⟨hne, fun iv => hK1 _ ?_⟩
  clear hK1 K1
  refine AW.block ?_
  refine AW.loopS (fun p : List (List UInt8) × List (List UInt8) × Heap => ⟨[(0, .yl lid lver), (5, .it (f * 1000 + 5) iv)], p.2.2⟩) (fun p => (p.1 ++ p.2.1).Perm (es.map (·.1)) ∧ J iv p.1 p.2.2) (fun p => p.2.1.length) ([], es.map (·.1), _)
    (AS.le_refl _) ⟨List.Perm.refl _, h0 iv⟩ ?_
  rintro ⟨vis, rest, H1⟩ ⟨hp, hj⟩
  dsimp only at hp hj ⊢
  have hm1 := hJm _ _ _ hj
  obtain ⟨cur, hi1⟩ := hJi _ _ _ hj
  refine AW.rseq (fid := f) (mt := []) [0, 5, 7] rfl fun K1 hK1 => ?_
  simp only [go_sem, reduceIte, Nat.reduceEqDiff, Int.reduceLE, hi1, hm1, List.getElem?_cons_zero]
  refine ⟨fun hall => hK1 _ ?_, fun k v hkv hks => hK1 _ ?_⟩
  · clear hK1 K1
    have hr := no_rest hn hp fun k hk => by
      obtain ⟨q, hq, rfl⟩ := List.mem_map.1 hk
      exact hall q hq
    subst hr
    rw [List.append_nil] at hp
    refine AW.cseq rfl (fun hc => by cases hc) (fun _ => ?_)
    refine AW.exit ?_
    refine ⟨.inl rfl, ?_⟩
    simp only [go_sem, reduceIte, Nat.reduceEqDiff]
    exact ⟨_, _, Conv.refl _ _, hdone _ _ _ hj hp⟩
  · clear hK1 K1
    have hk : k ∈ es.map (·.1) := List.mem_map.2 ⟨_, hkv, rfl⟩
    obtain ⟨l1, l2, rfl, hp'⟩ := pick_key hp hk hks
    refine AW.cseq rfl (fun _ => ?_) (fun hc => by cases hc)
    refine AW.skip ?_
    refine AW.block ?_
    refine AW.rseq (fid := f) (mt := []) [0, 3, 5] rfl fun K1 hK1 => ?_
    simp only [go_sem, reduceIte, Nat.reduceEqDiff, Int.reduceLE, hget_hset, hm1, if_neg (Ne.symm hne), List.getElem?_cons_zero]
    refine ⟨v, alook_mem hn hkv, hK1 _ ?_⟩
    clear hK1 K1
    refine AW.rseq (fid := f) (mt := []) [0, 5, 13] rfl fun K1 hK1 => ?_
    simp only [go_sem, reduceIte, Nat.reduceEqDiff, Int.reduceLE]
    refine (hstep iv vis k H1 hj hk hks (by have := hp.length_eq; simp at this; omega)).mono ?_
    rintro r H2 ⟨rfl, hj2⟩
    simp only [go_sem, reduceIte, Nat.reduceEqDiff, Int.reduceLE]
    refine hK1 _ ?_
    clear hK1 K1
    refine AW.cond rfl (fun hc => by cases hc) (fun _ => ?_)
    refine AW.skip ?_
    exact ⟨(k :: vis, l1 ++ l2, H2), ⟨hp', hj2⟩, by simp, ⟨leS_get ⟨rfl, rfl, trivial⟩, fun _ _ h => h⟩⟩

/-- a range over a function, with its record named -/
theorem AW.rangeFuncL {P : Program} {N : Nat} {s : AS} {Q : Exit → AS → Prop} {g : Operand} {ps : Array Tmp} {assign body : Code} {f : FuncId} {fs cs : List HV} (id : Nat) (hg : s.ev g = some (.fn (.func f) fs cs))
    (h : ∀ fn ver (L : LoopState → Option Code → AObj), (∀ st pend, L st pend = .loop st pend fn N s.slots ps assign body) → ACall P f (fs ++ [.yl id ver] ++ cs) (hset s.heap id ver (L .ready none)) fun _ H' =>
      ∃ st pend, hget H' id = some (ver, L st pend) ∧ st ≠ .busy ∧ match pend with
        | none => Q .normal { s with heap := hset H' id ver (L .exhausted none) }
        | some c => AW P none N c Q { s with heap := hset H' id ver (L .exhausted (some c)) }) :
    AW P none N (.rangeFunc g ps assign body) Q s :=
  AW.rangeFunc id hg fun fn ver => h fn ver (fun st pend => .loop st pend fn N s.slots ps assign body) fun _ _ => rfl

set_option maxHeartbeats 1000000 in
/-- slices.AppendSeq of a map's keys to nothing -/
theorem w160 {f mid mver : Nat} {es : List (List UInt8 × HV)} (hn : (es.map (·.1)).Nodup) (hbig : es.length ≤ 1099511627776) (h2 : f * 1000 + 2 ≠ mid) (h5 : f * 1000 + 5 ≠ mid) (h11 : f * 1000 + 11 ≠ mid) (h9 : f * 1000 + 900 ≠ mid) :
    ACall Try.prog 160 [.v (.slice none 0 0), .fn (.func 127) [] [.fptr [.mp mid mver] 0]] [(mid, mver, .map es)] fun r H' => ∃ l, l.Perm (es.map (·.1)) ∧ ((l = [] ∧ r = .v (.slice none 0 0) ∧ H' = []) ∨
      ∃ id av, l ≠ [] ∧ r = .ar id av 1 0 l.length ∧ H' = [(id, av, .arr 1 9 (l.map .str))]) := by
  refine ACall.of_body Try.func160 rfl rfl (Nat.le_of_ble_eq_true rfl) ?_
  unfold Try.f160
  dsimp only [enumS, Nat.reduceAdd]
  refine AW.rseq (fid := f) (mt := [2]) [1, 2] rfl fun K hK => ?_
  simp only [go_sem, reduceIte, Nat.reduceEqDiff, Int.reduceLE, h2]
  intro bv
  refine hK _ ?_
  clear hK K
  refine AW.seq ?_
  refine AW.rseq (fid := f) (mt := [2]) [2, 6] rfl fun K hK => ?_
  simp only [go_sem, reduceIte, Nat.reduceEqDiff, Int.reduceLE]
  refine hK _ ?_
  clear hK K
  refine AW.block ?_
  have n95 : f * 1000 + 900 ≠ f * 1000 + 5 := by simp
  have n92 : f * 1000 + 900 ≠ f * 1000 + 2 := by simp
  have n911 : f * 1000 + 900 ≠ f * 1000 + 11 := by simp
  have n52 : f * 1000 + 5 ≠ f * 1000 + 2 := by simp
  have n511 : f * 1000 + 5 ≠ f * 1000 + 11 := by simp
  have n112 : f * 1000 + 11 ≠ f * 1000 + 2 := by simp
  refine AW.rangeFuncL (f * 1000 + 900) rfl fun fn lver L hL => ?_
  dsimp only [List.length_cons, List.length_nil, Nat.reduceAdd] at hL ⊢
  refine w127 (f := f) hn h5 (by rw [hget_hset, if_neg (Ne.symm h9)]; exact hget_0) (fun iv vis H => hget H mid = some (mver, .map es) ∧ (∃ cur, hget H (f * 1000 + 5) = some (iv, .iter mid mver vis cur)) ∧
    hget H (f * 1000 + 900) = some (lver, L .ready none) ∧
    ((vis = [] ∧ hget H (f * 1000 + 2) = some (bv, .arr 1 30 [.v (.slice none 0 0)])) ∨
      ∃ av, vis ≠ [] ∧ hget H (f * 1000 + 2) = some (bv, .arr 1 30 [.ar (f * 1000 + 11) av 1 0 vis.length]) ∧ hget H (f * 1000 + 11) = some (av, .arr 1 9 (vis.reverse.map .str)))) (fun _ _ _ h => h.1) (fun _ _ _ h => h.2.1) (fun iv => ?_) ?_ ?_
  · simp [hget_hset, hget, hset, h2, h5, h9, h11, Ne.symm h2, Ne.symm h5, Ne.symm h9, Ne.symm h11]
  · rintro iv vis k H1 ⟨hm, ⟨cur, hi⟩, hlp, hac⟩ hk hks hlt
    rw [hL] at hlp
    refine ⟨_, _, _, _, _, _, (by rw [hget_hset, if_neg n95]; exact hlp), rfl, by simp, fun l => ?_⟩
    dsimp only [setPs]
    refine AW.region (fid := f) (mt := [2]) [2, 5] rfl fun K hK => ?_
    simp only [go_sem, reduceIte, Nat.reduceEqDiff, Int.reduceLE]
    refine hK _ ?_
    clear hK K
    refine ⟨rfl, by rw [hget_hset, if_neg n95]; exact hlp, ?_⟩
    refine AW.block ?_
    have fin : ∀ (av : Nat) (H2 : Heap) (o : AObj), o = L .ready none → hget H2 mid = some (mver, .map es) → hget H2 (f * 1000 + 5) = some (iv, .iter mid mver (k :: vis) true) →
        hget H2 (f * 1000 + 2) = some (bv, .arr 1 30 [.ar (f * 1000 + 11) av 1 0 (vis.length + 1)]) → hget H2 (f * 1000 + 11) = some (av, .arr 1 9 ((k :: vis).reverse.map .str)) →
        HV.bool true = .bool true ∧ hget (hset H2 (f * 1000 + 900) lver o) mid = some (mver, .map es) ∧ (∃ cur, hget (hset H2 (f * 1000 + 900) lver o) (f * 1000 + 5) = some (iv, .iter mid mver (k :: vis) cur)) ∧
    hget (hset H2 (f * 1000 + 900) lver o) (f * 1000 + 900) = some (lver, L .ready none) ∧
    ((k :: vis = [] ∧ hget (hset H2 (f * 1000 + 900) lver o) (f * 1000 + 2) = some (bv, .arr 1 30 [.v (.slice none 0 0)])) ∨
      ∃ av, k :: vis ≠ [] ∧ hget (hset H2 (f * 1000 + 900) lver o) (f * 1000 + 2) = some (bv, .arr 1 30 [.ar (f * 1000 + 11) av 1 0 (k :: vis).length]) ∧ hget (hset H2 (f * 1000 + 900) lver o) (f * 1000 + 11) = some (av, .arr 1 9 ((k :: vis).reverse.map .str))) := by
      intro av H2 o ho g1 g2 g4 g5
      refine ⟨rfl, ?_, ⟨true, ?_⟩, ?_, .inr ⟨av, by simp, ?_, ?_⟩⟩
      · rw [hget_hset, if_neg (Ne.symm h9)]; exact g1
      · rw [hget_hset, if_neg (Ne.symm n95)]; exact g2
      · rw [hget_hset, if_pos rfl, ho]
      · rw [hget_hset, if_neg (Ne.symm n92)]; exact g4
      · rw [hget_hset, if_neg (Ne.symm n911)]; exact g5
    have hm2 : maxLen = 9223372036854775807 := rfl
    rcases hac with ⟨rfl, hb⟩ | ⟨av, _, hb, ha⟩
    · refine AW.region (fid := f) (mt := [2]) [2, 5] rfl fun K hK => ?_
      simp only [go_sem, reduceIte, Nat.reduceEqDiff, Int.reduceLE, hget_hset, Nat.add_left_cancel_iff, hb, List.getElem?_cons_zero, Nat.add_zero, List.length_nil, List.length_cons, Nat.zero_le, HV.one, zrep, List.replicate_succ, List.replicate_zero, List.flatten_cons, List.flatten_nil,
        List.set_cons_zero, Option.any_some, Nat.reduceAdd, Nat.reduceMul, Nat.reduceLeDiff, Nat.reduceBEq, Bool.or_false, BEq.rfl, List.take_succ_cons, List.take_zero, List.drop_zero]
      refine ⟨by simp [maxLen], fun av' => hK _ ?_⟩
      clear hK K
      refine ⟨?_, fin av' _ _ (hL _ _).symm ?_ ?_ ?_ ?_⟩
      · rw [hget_hset, if_neg n92, hget_hset, if_neg n911, hget_hset, if_pos rfl]
      · rw [hget_hset, if_neg (Ne.symm h2), hget_hset, if_neg (Ne.symm h11), hget_hset, if_neg (Ne.symm h9), hget_hset, if_neg (Ne.symm h5)]; exact hm
      · rw [hget_hset, if_neg n52, hget_hset, if_neg n511, hget_hset, if_neg (Ne.symm n95), hget_hset, if_pos rfl]
      · rw [hget_hset, if_pos rfl]; rfl
      · rw [hget_hset, if_neg n112, hget_hset, if_pos rfl]; simp
    · refine AW.region (fid := f) (mt := [2]) [2, 5] rfl fun K hK => ?_
      simp only [go_sem, reduceIte, Nat.reduceEqDiff, Int.reduceLE, hget_hset, Nat.add_left_cancel_iff, hb, ha, List.getElem?_cons_zero, Nat.add_zero, List.length_nil, List.length_cons, Nat.zero_le, HV.one, zrep, List.replicate_succ, List.replicate_zero, List.flatten_cons, List.flatten_nil,
        List.set_cons_zero, Option.any_some, Nat.reduceAdd, Nat.reduceMul, Nat.reduceLeDiff, Nat.reduceBEq, Bool.or_false, BEq.rfl, List.take_succ_cons, List.take_zero, List.drop_zero]
      have hb1 : (vis.length + 1) * 16 ≤ 140737488355328 := by clear fin hL hlp; omega
      have hb2 : vis.length + 1 ≤ maxLen := by clear fin hL hlp; omega
      refine ⟨by simp, hb1, hb2, fun av' => hK _ ?_⟩
      clear hK K
      refine ⟨?_, fin av' _ _ (hL _ _).symm ?_ ?_ ?_ ?_⟩
      · rw [hget_hset, if_neg n92, hget_hset, if_neg n911, hget_hset, if_pos rfl]
      · rw [hget_hset, if_neg (Ne.symm h2), hget_hset, if_neg (Ne.symm h11), hget_hset, if_neg (Ne.symm h9), hget_hset, if_neg (Ne.symm h5)]; exact hm
      · rw [hget_hset, if_neg n52, hget_hset, if_neg n511, hget_hset, if_neg (Ne.symm n95), hget_hset, if_pos rfl]
      · rw [hget_hset, if_pos rfl]
      · rw [hget_hset, if_neg n112, hget_hset, if_pos rfl, List.take_of_length_le (by simp)]; simp
  · rintro iv vis H1 ⟨hm, _, hlp, ⟨hv0, hb⟩ | ⟨av, hvn, hb, ha⟩⟩ hp
    · refine ⟨.ready, none, hlp, by simp, ?_⟩
      dsimp only [blockQ, thenQ]
      clear hL
      refine AW.rseq (fid := f) (mt := [2]) [4] rfl fun K hK => ?_
      simp only [go_sem, reduceIte, Nat.reduceEqDiff, Int.reduceLE, hget_hset, Nat.add_left_cancel_iff, hb, List.getElem?_cons_zero]
      refine hK _ ?_
      clear hK K
      refine AW.ret ⟨.inr rfl, ?_⟩
      simp only [go_sem, reduceIte, Nat.reduceEqDiff]
      exact ⟨_, [], Conv.drop (fun _ _ h => by cases h), [], hv0 ▸ hp, .inl ⟨rfl, rfl, rfl⟩⟩
    · refine ⟨.ready, none, hlp, by simp, ?_⟩
      dsimp only [blockQ, thenQ]
      clear hL
      refine AW.rseq (fid := f) (mt := [2]) [4] rfl fun K hK => ?_
      simp only [go_sem, reduceIte, Nat.reduceEqDiff, Int.reduceLE, hget_hset, Nat.add_left_cancel_iff, hb, List.getElem?_cons_zero]
      refine hK _ ?_
      clear hK K
      refine AW.ret ⟨.inr rfl, ?_⟩
      simp only [go_sem, reduceIte, Nat.reduceEqDiff]
      refine ⟨_, [(f * 1000 + 11, av, .arr 1 9 (vis.reverse.map .str))], Conv.drop (leH_get ⟨?_, trivial⟩), vis.reverse, (List.reverse_perm vis).trans hp, .inr ⟨_, av, by simpa using hvn, by rw [List.length_reverse], rfl⟩⟩
      rw [hget_hset, if_neg (Ne.symm n911)]; exact ha
end Go.AW

import Derived.Test.YtnjepajbbkejeaaGreatPr4
import Derived.Laws.Externs
import Derived.Lib.Builder
import Derived.Lib.UnsafeStr
import Derived.Shelf.RegionOpenPlain
import Derived.WalkKit
/- syncmark.newSearch: a search with the edges by their beginnings. -/
namespace Go.AW
open Go Go.Proofs
set_option linter.unusedVariables false
abbrev cellsS (L0 : Int) (Sn : Nat) (E : List TFromLabelTo) (mark : List UInt8) (vn mw : Nat) : List HV := [HV.int .i64 L0, HV.int .i64 (Sn : Int), slE eFromLabelTo E, HV.str mark, HV.sl 16 ((ftabL mark).length / 16) (eInt.E (ftabL mark)), HV.ar 57014 vn 1 0 Sn, HV.mp 57015 mw]
abbrev hS (L0 : Int) (Sn : Nat) (E : List TFromLabelTo) (mark : List UInt8) (vs vn mw : Nat) (hd : List HV) (rs : RwsE TFromLabelTo) : Heap := (57017, vs, .arr 7 91 (cellsS L0 Sn E mark vn mw)) :: (57014, vn, .arr 1 22 hd) :: (57015, mw, .map []) :: rowsOE eFromLabelTo 44 0 rs
theorem hS_rid {L0 : Int} {Sn : Nat} {E : List TFromLabelTo} {mark : List UInt8} {vs vn mw : Nat} {hd : List HV} {rs : RwsE TFromLabelTo} (i : Nat) : hget (hS L0 Sn E mark vs vn mw hd rs) (rid i) = hget (rowsOE eFromLabelTo 44 0 rs) (rid i) := by
  rw [hget_tl (by unfold rid; omega), hget_tl (by unfold rid; omega), hget_tl (by unfold rid; omega)]
abbrev hX (L0 : Int) (Sn : Nat) (E : List TFromLabelTo) (mark : List UInt8) (v7 vs vn mw : Nat) (e : TFromLabelTo) (hd : List HV) (rs : RwsE TFromLabelTo) : Heap := (57007, v7, .arr 3 44 (cFromLabelTo e)) :: hS L0 Sn E mark vs vn mw hd rs
theorem hX_rid {L0 : Int} {Sn : Nat} {E : List TFromLabelTo} {mark : List UInt8} {v7 vs vn mw : Nat} {e : TFromLabelTo} {hd : List HV} {rs : RwsE TFromLabelTo} (i : Nat) : hget (hX L0 Sn E mark v7 vs vn mw e hd rs) (rid i) = hget (rowsOE eFromLabelTo 44 0 rs) (rid i) := by
  rw [hget_tl (by unfold rid; omega), hS_rid]
def val1 (L0 : Int) (Sn : Nat) (E : List TFromLabelTo) (mark : List UInt8) (vn mw vs : Nat) : Nat → HV
  | 0 => HV.agg [HV.int .i64 L0, HV.int .i64 (Sn : Int), slE eFromLabelTo E]
  | 1 | 2 => HV.str mark
  | 3 => HV.sl 16 ((ftabL mark).length / 16) (eInt.E (ftabL mark))
  | 4 => HV.fptr [HV.int .i64 L0, HV.int .i64 (Sn : Int), slE eFromLabelTo E] 1
  | 5 => HV.int .i64 (Sn : Int)
  | 6 => HV.ar 57014 vn 1 0 Sn
  | 7 => HV.mp 57015 mw
  | 8 => HV.agg (cellsS L0 Sn E mark vn mw)
  | _ => HV.ptr 57017 vs 0
def slot1 (k : Nat) : Nat := if k = 10 then 5 else 8 + k
structure Inv1 (base : List (Nat × HV)) (val : Nat → HV) (nils cells : List HV) (vn mw vs : Nat) (L : List Nat) (s : AS) : Prop where
  base : ∀ p ∈ base, sget s.slots p.1 = some p.2
  val : ∀ k ∈ L, k < 11 → sget s.slots (slot1 k) = some (val k)
  h6 : 6 ∈ L → hget s.heap 57014 = some (vn, .arr 1 22 nils)
  h7 : 7 ∈ L → hget s.heap 57015 = some (mw, .map [])
  h9 : 9 ∈ L → hget s.heap 57017 = some (vs, .arr 7 91 cells)
  cl : (8 ∈ L → 6 ∈ L ∧ 7 ∈ L) ∧ (9 ∈ L → 8 ∈ L) ∧ (10 ∈ L → 9 ∈ L)
theorem Inv1.add {base : List (Nat × HV)} {val val2 : Nat → HV} {nils cells cells2 : List HV} {vn mw vs vn2 mw2 vs2 : Nat} {L : List Nat} {sl : List (Nat × HV)} {H H2 : Heap} (h : Inv1 base val nils cells vn mw vs L ⟨sl, H⟩) (hb : ∀ p ∈ base, p.1 < 5) {i : Nat} (hi : i < 11) (hiL : i ∉ L) {hv : HV} (hval : val2 i = hv) (hsame : ∀ k ∈ L, k < 11 → val2 k = val k)
    (h6 : 6 ∈ i :: L → hget H2 57014 = some (vn2, .arr 1 22 nils)) (h7 : 7 ∈ i :: L → hget H2 57015 = some (mw2, .map [])) (h9 : 9 ∈ i :: L → hget H2 57017 = some (vs2, .arr 7 91 cells2)) (c8 : i = 8 → 6 ∈ L ∧ 7 ∈ L) (c9 : i = 9 → 8 ∈ L) (c10 : i = 10 → 9 ∈ L) :
    Inv1 base val2 nils cells2 vn2 mw2 vs2 (i :: L) ⟨(slot1 i, hv) :: sl, H2⟩ where
  base := fun p hp => by
    have := hb p hp
    show sget ((slot1 i, hv) :: sl) p.1 = _
    simp only [sget]
    rw [if_neg (by unfold slot1; split <;> omega)]
    exact h.base p hp
  val := fun k hk hk8 => by
    show sget ((slot1 i, hv) :: sl) (slot1 k) = _
    simp only [sget]
    by_cases e : k = i
    · subst e
      rw [if_pos rfl, hval]
    · rw [if_neg (by unfold slot1; split <;> split <;> omega)]
      rcases List.mem_cons.1 hk with h1 | h1
      · exact absurd h1 e
      · rw [hsame k h1 hk8]
        exact h.val k h1 hk8
  h6 := h6
  h7 := h7
  h9 := h9
  cl := by
    obtain ⟨e8, e9, e10⟩ := h.cl
    refine ⟨fun hm => ?_, fun hm => ?_, fun hm => ?_⟩
    · rcases List.mem_cons.1 hm with h1 | h1
      · exact ⟨.tail _ (c8 h1.symm).1, .tail _ (c8 h1.symm).2⟩
      · exact ⟨.tail _ (e8 h1).1, .tail _ (e8 h1).2⟩
    · rcases List.mem_cons.1 hm with h1 | h1
      · exact .tail _ (c9 h1.symm)
      · exact .tail _ (e9 h1)
    · rcases List.mem_cons.1 hm with h1 | h1
      · exact .tail _ (c10 h1.symm)
      · exact .tail _ (e10 h1)
theorem Inv1.put {base : List (Nat × HV)} {val : Nat → HV} {nils cells : List HV} {vn mw vs : Nat} {L : List Nat} {sl : List (Nat × HV)} {H : Heap} (h : Inv1 base val nils cells vn mw vs L ⟨sl, H⟩) (hb : ∀ p ∈ base, p.1 < 5) {i : Nat} (hi : i < 11) (hiL : i ∉ L) (hn : i ≠ 6 ∧ i ≠ 7 ∧ i ≠ 9) (c8 : i = 8 → 6 ∈ L ∧ 7 ∈ L) (c10 : i = 10 → 9 ∈ L) {hv : HV} (hval : val i = hv) : Inv1 base val nils cells vn mw vs (i :: L) ⟨(slot1 i, hv) :: sl, H⟩ :=
  h.add hb hi hiL hval (fun _ _ _ => rfl) (fun hm => h.h6 ((List.mem_cons.1 hm).resolve_left fun e => hn.1 e.symm)) (fun hm => h.h7 ((List.mem_cons.1 hm).resolve_left fun e => hn.2.1 e.symm)) (fun hm => h.h9 ((List.mem_cons.1 hm).resolve_left fun e => hn.2.2 e.symm)) c8 (fun e => absurd e hn.2.2) c10
def valS (v7 vs vn v' : Nat) (n : Nat) (e : TFromLabelTo) (rv : Nat) (l : List TFromLabelTo) : Nat → HV
  | 0 | 1 | 6 | 7 => HV.ptr 57017 vs 0
  | 2 | 8 => HV.ptr 57017 vs 5
  | 3 | 9 => HV.ar 57014 vn 1 0 n
  | 4 | 10 => HV.ptr 57007 v7 0
  | 5 | 11 => HV.int .i64 e.1
  | 12 => HV.ptr 57014 vn (e.1.toNat * 1)
  | 13 => HV.ar (rid e.1.toNat) rv 3 0 l.length
  | 14 => HV.agg (cFromLabelTo e)
  | 15 => HV.sl 3 1 (cFromLabelTo e)
  | 16 => HV.ar (rid e.1.toNat) v' 3 0 (l ++ [e]).length
  | _ => HV.bool false
theorem leav_succ (E : List TFromLabelTo) {k : Nat} (h : k < E.length) (i : Nat) : leav (E.take (k + 1)) (i : Int) = leav (E.take k) (i : Int) ++ if E[k].1 = (i : Int) then [E[k]] else [] := by
  unfold leav
  rw [← List.take_append_getElem h, List.filter_append]
  congr 1
  by_cases e : E[k].1 = (i : Int)
  · rw [if_pos e, List.filter_cons, if_pos (by simpa using e)]; rfl
  · rw [if_neg e, List.filter_cons, if_neg (by simpa using e)]; rfl
def nextE (g : TLabelsStatesEdges) : List (List TFromLabelTo) := (List.range g.2.1.toNat).map fun i : Nat => leav g.2.2 (i : Int)
set_option maxHeartbeats 8000000 in
set_option maxRecDepth 100000 in
theorem c_newSearch {g : TLabelsStatesEdges} {mark : List UInt8} (hs : 0 ≤ g.2.1 ∧ g.2.1 ≤ 64) (hel : g.2.2.length ≤ 1024) (hed : ∀ x ∈ g.2.2, 0 ≤ x.1 ∧ x.1 < g.2.1) (hmk : mark.length ≤ 1000000) :
    ACall Tryz.prog 57 [HV.agg [HV.int .i64 g.1, HV.int .i64 g.2.1, slE eFromLabelTo g.2.2], HV.str mark] [] (fun r H' => ∃ mw, r = SH g mark (ftabL mark) (nextE g) mw ∧ ∀ j x, hget [(57015, mw, .kmap [])] j = some x → hget H' j = some x) := by
  obtain ⟨L0, SS, E⟩ := g
  obtain ⟨hs0, hs1⟩ := hs
  simp only at hs0 hs1 hel hed ⊢
  obtain ⟨Sn, rfl⟩ := Int.eq_ofNat_of_zero_le hs0
  refine ACall.of_body Tryz.func57 rfl rfl (Nat.le_of_ble_eq_true rfl) ?_
  unfold Tryz.f57
  dsimp only [enumS, Nat.reduceAdd]
  refine AW.rgs rfl fun K hK => ?_
  refine b_op rfl (o_box rfl rfl rfl ?_)
  refine mv rfl rfl ?_
  refine b_nil (hK _ (AW.to (to_le (s' := ⟨[(1, HV.str mark), (2, HV.fptr [HV.int .i64 L0, HV.int .i64 (Sn : Int), slE eFromLabelTo E] 0)], []⟩) ⟨leS_get ⟨rfl, rfl, trivial⟩, fun _ _ h => h⟩ ?_)))
  clear hK K
  refine AW.dls follows fun K hK F hF => ?_
  have hfin : ∀ vn mw vs, F (List.range 11) ⟨(5, HV.ptr 57017 vs 0) :: [(2, HV.fptr [HV.int .i64 L0, HV.int .i64 (Sn : Int), slE eFromLabelTo E] 0)], [(57017, vs, .arr 7 91 (cellsS L0 Sn E mark vn mw)), (57014, vn, .arr 1 22 (List.replicate Sn (HV.v (.slice none 0 0)))), (57015, mw, .map [])]⟩ := by
    intro vn mw vs
    refine l_done hF rfl rfl (hK _ (AW.to (to_le (s' := ⟨[(2, HV.fptr [HV.int .i64 L0, HV.int .i64 (Sn : Int), slE eFromLabelTo E] 0), (5, HV.ptr 57017 vs 0)], (57017, vs, .arr 7 91 (cellsS L0 Sn E mark vn mw)) :: [(57014, vn, .arr 1 22 (List.replicate Sn (HV.v (.slice none 0 0)))), (57015, mw, .map [])]⟩) ⟨leS_get ⟨rfl, rfl, trivial⟩, fun _ _ h => h⟩ ?_)))
    clear hF F hK K
    refine AW.to (to_rowsE (en := eFromLabelTo) (et := 44) 57014 vn 22 [(57017, vs, .arr 7 91 (cellsS L0 Sn E mark vn mw)), (57015, mw, .map [])] Sn (fun i => by unfold rid; omega) (fun i => by rw [hget_tl (by unfold rid; omega), hget_tl (by unfold rid; omega)]; rfl) rfl Sn [] (by simp) (fun i v l hi => by simp at hi) (fun id x hx => leH_get (l' := [(57014, vn, .arr 1 22 (List.replicate Sn (HV.v (.slice none 0 0)))), (57017, vs, .arr 7 91 (cellsS L0 Sn E mark vn mw)), (57015, mw, .map [])]) ⟨rfl, rfl, rfl, trivial⟩ id x hx) (fun rs0 hrl0 hrs0 => ?_))
    refine AW.to (to_le (s' := ⟨[(2, HV.fptr [HV.int .i64 L0, HV.int .i64 (Sn : Int), slE eFromLabelTo E] 0), (5, HV.ptr 57017 vs 0)], hS L0 Sn E mark vs vn mw (hdrE eFromLabelTo 0 rs0) rs0⟩) ⟨leS_get ⟨rfl, rfl, trivial⟩, leH_get ⟨rfl, rfl, rfl, leH_rowsE _ 0 fun i v l hi => ?_⟩⟩ ?_)
    · rw [Nat.zero_add]
      show hget ((57014, vn, .arr 1 22 (hdrE eFromLabelTo 0 rs0)) :: ([(57017, vs, _), (57015, mw, _)] ++ rowsOE eFromLabelTo 44 0 rs0)) (rid i) = _
      rw [hget_tl (by unfold rid; omega)]
      show hget ((57017, vs, _) :: (57015, mw, _) :: rowsOE eFromLabelTo 44 0 rs0) (rid i) = _
      rw [hget_tl (by unfold rid; omega), hget_tl (by unfold rid; omega)]
      have := hget_rowsE (en := eFromLabelTo) (et := 44) 0 hi
      rwa [Nat.zero_add] at this
    refine AW.seq ?_
    refine AW.rgs rfl fun K hK => ?_
    refine bv rfl (v_fieldAddrF fo24_2 rfl) ?_
    refine bv rfl (v_loadF ty22 rfl (l_lit rfl rfl)) ?_
    refine bv rfl (v_lenF rfl rfl ty22 rfl) ?_
    refine mv rfl rfl ?_
    refine b_nil (hK _ (AW.to (to_le (s' := ⟨[(2, HV.fptr [HV.int .i64 L0, HV.int .i64 (Sn : Int), slE eFromLabelTo E] 0), (5, HV.ptr 57017 vs 0), (19, slE eFromLabelTo E), (20, HV.int .i64 (E.length : Int)), (21, HV.int .i64 0)], hS L0 Sn E mark vs vn mw (hdrE eFromLabelTo 0 rs0) rs0⟩) ⟨leS_get ⟨rfl, rfl, rfl, rfl, rfl, trivial⟩, fun _ _ h => h⟩ ?_)))
    clear hK K
    refine AW.block ?_
    refine AW.loopS (fun a : Nat × RwsE TFromLabelTo => ⟨[(2, HV.fptr [HV.int .i64 L0, HV.int .i64 (Sn : Int), slE eFromLabelTo E] 0), (5, HV.ptr 57017 vs 0), (19, slE eFromLabelTo E), (20, HV.int .i64 (E.length : Int)), (21, HV.int .i64 (a.1 : Int))], hS L0 Sn E mark vs vn mw (hdrE eFromLabelTo 0 a.2) a.2⟩)
      (fun a => a.1 ≤ E.length ∧ a.2.length = Sn ∧ ∀ (i v : Nat) (l : List TFromLabelTo), a.2[i]? = some (v, l) → l = leav (E.take a.1) (i : Int) ∧ l.length ≤ a.1) (fun a => E.length - a.1) (0, rs0) (AS.le_refl _) ⟨Nat.zero_le _, hrl0, fun i v l hi => by rw [hrs0 i v l hi]; exact ⟨rfl, Nat.le_refl _⟩⟩ ?_
    clear hrl0 hrs0 rs0
    rintro ⟨k, rs⟩ ⟨hk, hrs, hrw⟩
    simp only at hk hrs hrw
    refine AW.rgs rfl fun K hK => ?_
    refine bv rfl (v_bin rfl rfl b_lss) ?_
    refine b_nil (hK _ (AW.to (to_le (s' := ⟨[(2, HV.fptr [HV.int .i64 L0, HV.int .i64 (Sn : Int), slE eFromLabelTo E] 0), (5, HV.ptr 57017 vs 0), (19, slE eFromLabelTo E), (20, HV.int .i64 (E.length : Int)), (21, HV.int .i64 (k : Int)), (22, HV.bool (decide ((k : Int) < (E.length : Int))))], hS L0 Sn E mark vs vn mw (hdrE eFromLabelTo 0 rs) rs⟩) ⟨leS_get ⟨rfl, rfl, rfl, rfl, rfl, rfl, trivial⟩, fun _ _ h => h⟩ ?_)))
    clear hK K
    refine AW.cseq rfl (fun hc => ?_) (fun hc => ?_)
    · have hc := of_decide_eq_true hc
      have hkl : k < E.length := by omega
      have hnk := leav_succ E hkl
      obtain ⟨he1, he2⟩ := hed _ (List.getElem_mem hkl)
      have hidx : idx E (k : Int) = some E[k] := by rw [idx_nat, List.getElem?_eq_getElem hkl]
      generalize E[k] = e at hnk he1 he2 hidx
      have hfl0 : e.1.toNat < rs.length := by omega
      obtain ⟨⟨rv, l⟩, hrow⟩ : ∃ b, rs[e.1.toNat]? = some b := ⟨_, List.getElem?_eq_getElem hfl0⟩
      obtain ⟨hlk, hlen⟩ := hrw _ _ _ hrow
      refine AW.skip ?_
      refine AW.seq (AW.block ?_)
      refine AW.rgs rfl fun K hK => ?_
      refine bv rfl (v_idxF ty22 es22 rfl rfl (idx_lt hidx)) ?_
      refine bv rfl (v_loadF ty44 rfl (l_agg eFromLabelTo hidx rfl rfl)) ?_
      refine b_op rfl (o_alloc (fid := 57) (zs := [HV.int .i64 0, HV.int .i64 0, HV.int .i64 0]) 57007 rfl rfl ty44 rfl (fun v7 => ?_))
      refine b_op rfl (o_store (cs := cFromLabelTo e) (zs := cFromLabelTo e) rfl rfl rfl ty44 rfl rfl rfl rfl rfl ?_)
      refine b_nil (hK _ (AW.to (to_le (s' := ⟨[(2, HV.fptr [HV.int .i64 L0, HV.int .i64 (Sn : Int), slE eFromLabelTo E] 0), (5, HV.ptr 57017 vs 0), (7, HV.ptr 57007 v7 0), (19, slE eFromLabelTo E), (20, HV.int .i64 (E.length : Int)), (21, HV.int .i64 (k : Int))], hX L0 Sn E mark v7 vs vn mw e (hdrE eFromLabelTo 0 rs) rs⟩) ⟨leS_get ⟨rfl, rfl, rfl, rfl, rfl, rfl, trivial⟩, le_shadow⟩ ?_)))
      clear hK K
      refine AW.dl follows fun K hK F hF => ?_
      have hj : 0 ≤ e.1 ∧ e.1 < (Sn : Int) := ⟨he1, he2⟩
      have hj2 : 0 ≤ e.1 ∧ e.1 < ((hdrE eFromLabelTo 0 rs).length : Int) := by rw [hdr_lenE]; omega
      have hfin : ∀ v', F (List.range 17) ⟨(25 + 3, HV.ar 57014 vn 1 0 Sn) :: (25 + 5, HV.int .i64 e.1) :: (25 + 16, HV.ar (rid e.1.toNat) v' 3 0 (l ++ [e]).length) :: [(2, HV.fptr [HV.int .i64 L0, HV.int .i64 (Sn : Int), slE eFromLabelTo E] 0), (5, HV.ptr 57017 vs 0), (7, HV.ptr 57007 v7 0), (19, slE eFromLabelTo E), (20, HV.int .i64 (E.length : Int)), (21, HV.int .i64 (k : Int))], hX L0 Sn E mark v7 vs vn mw e (hdrE eFromLabelTo 0 rs) (rs.set e.1.toNat (v', l ++ [e]))⟩ := by
        intro v'
        refine l_step hF rfl [17] rfl rfl ⟨?_, trivial⟩
        refine l_op rfl rfl rfl (o_val rfl (v_idxA ty89 es89 rfl rfl hj rfl) (b_nil ?_))
        refine l_step hF rfl [18] rfl rfl ⟨?_, trivial⟩
        refine l_op rfl rfl rfl (o_storeE eHd (l := hdrE eFromLabelTo 0 rs) (j := e.1) (v := HV.ar (rid e.1.toNat) v' 3 0 (l ++ [e]).length) rfl rfl rfl ty22 rfl rfl rfl hj2 (b_nil ?_))
        refine l_done hF rfl rfl (hK _ (AW.to (to_le (s' := ⟨[(2, HV.fptr [HV.int .i64 L0, HV.int .i64 (Sn : Int), slE eFromLabelTo E] 0), (5, HV.ptr 57017 vs 0), (7, HV.ptr 57007 v7 0), (19, slE eFromLabelTo E), (20, HV.int .i64 (E.length : Int)), (21, HV.int .i64 (k : Int))], hX L0 Sn E mark v7 vs vn mw e (hdrE eFromLabelTo 0 (rs.set e.1.toNat (v', l ++ [e]))) (rs.set e.1.toNat (v', l ++ [e]))⟩) ⟨leS_get ⟨rfl, rfl, rfl, rfl, rfl, rfl, trivial⟩, ?_⟩ ?_)))
        · have eh : hdrE eFromLabelTo 0 (rs.set e.1.toNat (v', l ++ [e])) = (hdrE eFromLabelTo 0 rs).set e.1.toNat (HV.ar (rid e.1.toNat) v' 3 0 (l ++ [e]).length) := by rw [hdr_setE, Nat.zero_add]; rfl
          rw [eh]
          refine leH_get ⟨rfl, rfl, rfl, rfl, leH_rowsE _ 0 fun i v m hi => ?_⟩
          show hget ((57014, vn, _) :: hX L0 Sn E mark v7 vs vn mw e (hdrE eFromLabelTo 0 rs) (rs.set e.1.toNat (v', l ++ [e]))) _ = _
          rw [Nat.zero_add, hget_tl (by unfold rid; omega), hX_rid]
          have := hget_rowsE (en := eFromLabelTo) (et := 44) 0 hi
          rwa [Nat.zero_add] at this
        clear hF F hK K
        have hnxt : IntKind.wrap .i64 ((k : Int) + 1) = ((k + 1 : Nat) : Int) := by rw [w64 (by omega) (by omega)]; omega
        refine AW.rg rfl fun K hK => ?_
        refine bv rfl (v_bin rfl rfl b_add) ?_
        refine mv rfl rfl ?_
        refine b_nil (hK _ ?_)
        clear hK K
        refine ⟨(k + 1, (rs.set e.1.toNat (v', l ++ [e]))), ⟨by simp only; omega, by simp only [List.length_set]; exact hrs, ?_⟩, by simp only; omega, ⟨leS_get ⟨rfl, rfl, rfl, rfl, by rw [← hnxt]; rfl, trivial⟩, fun id x hx => ?_⟩⟩
        · intro i v m hi
          simp only at hi ⊢
          rw [hnk]
          by_cases ei : e.1.toNat = i
          · subst ei
            rw [List.getElem?_set_self hfl0] at hi
            cases hi
            rw [if_pos (by omega), ← hlk]
            exact ⟨rfl, by simp; omega⟩
          · rw [List.getElem?_set_ne ei] at hi
            obtain ⟨q1, q2⟩ := hrw _ _ _ hi
            rw [if_neg (by omega), List.append_nil]
            exact ⟨q1, by omega⟩
        · show hget (hX L0 Sn E mark v7 vs vn mw e (hdrE eFromLabelTo 0 (rs.set e.1.toNat (v', l ++ [e]))) (rs.set e.1.toNat (v', l ++ [e]))) id = some x
          by_cases j7 : id = 57007
          · subst j7
            have hno : hget (hS L0 Sn E mark vs vn mw (hdrE eFromLabelTo 0 (rs.set e.1.toNat (v', l ++ [e]))) (rs.set e.1.toNat (v', l ++ [e]))) 57007 = none := by
              rw [hget_tl (by decide), hget_tl (by decide), hget_tl (by decide)]
              exact hget_rows_noE _ _ fun i _ => by unfold rid; omega
            rw [hno] at hx
            cases hx
          · rw [hget_tl j7]; exact hx
      have hlen2 : l.length ≤ 1024 := by omega
      have hfl : e.1.toNat < rs.length := (List.getElem?_eq_some_iff.1 hrow).1
      have hhd : (hdrE eFromLabelTo 0 rs)[e.1.toNat * 1]? = some (HV.ar (rid e.1.toNat) rv 3 0 l.length) := by
        have := hdr_getE (en := eFromLabelTo) 0 hrow
        rw [Nat.zero_add] at this
        rw [Nat.mul_one]
        exact this
      have hinv := l_inv (F := F) hF rfl 17 (by decide) rfl (fun L s => ∃ v', InvG 25 17 16 [(2, HV.fptr [HV.int .i64 L0, HV.int .i64 (Sn : Int), slE eFromLabelTo E] 0), (5, HV.ptr 57017 vs 0), (7, HV.ptr 57007 v7 0), (19, slE eFromLabelTo E), (20, HV.int .i64 (E.length : Int)), (21, HV.int .i64 (k : Int))] (fun v' k => valS v7 vs vn v' Sn e rv l k) (hX L0 Sn E mark v7 vs vn mw e (hdrE eFromLabelTo 0 rs) rs) (fun v' => hX L0 Sn E mark v7 vs vn mw e (hdrE eFromLabelTo 0 rs) (rs.set e.1.toNat (v', l ++ [e]))) v' L s) ?_ ?_ 17 [] ⟨[(2, HV.fptr [HV.int .i64 L0, HV.int .i64 (Sn : Int), slE eFromLabelTo E] 0), (5, HV.ptr 57017 vs 0), (7, HV.ptr 57007 v7 0), (19, slE eFromLabelTo E), (20, HV.int .i64 (E.length : Int)), (21, HV.int .i64 (k : Int))], hX L0 Sn E mark v7 vs vn mw e (hdrE eFromLabelTo 0 rs) rs⟩ ⟨0, ⟨?_, (fun k hk => by cases hk), fun id x h => by rw [if_neg (by simp)] at h; exact h⟩⟩ (fun k hk => by cases hk) List.nodup_nil rfl
      · exact hinv
      · rintro L ⟨sl, H⟩ i ⟨v', hIv⟩ hi hiL hdeps
        have hb25 : ∀ p ∈ ([(2, HV.fptr [HV.int .i64 L0, HV.int .i64 (Sn : Int), slE eFromLabelTo E] 0), (5, HV.ptr 57017 vs 0), (7, HV.ptr 57007 v7 0), (19, slE eFromLabelTo E), (20, HV.int .i64 (E.length : Int)), (21, HV.int .i64 (k : Int))] : List (Nat × HV)), p.1 < 25 := by
          intro p hp
          simp only [List.mem_cons, List.not_mem_nil, or_false] at hp
          rcases hp with rfl | rfl | rfl | rfl | rfl | rfl <;> (dsimp only; omega)
        have h5 : sget sl 5 = some (HV.ptr 57017 vs 0) := hIv.base (5, _) (by simp)
        have h7 : sget sl 7 = some (HV.ptr 57007 v7 0) := hIv.base (7, _) (by simp)
        have gS : hget H 57017 = some (vs, .arr 7 91 (cellsS L0 Sn E mark vn mw)) := by
          refine hIv.heap _ _ ?_
          split <;> rfl
        have gN : hget H 57014 = some (vn, .arr 1 22 (hdrE eFromLabelTo 0 rs)) := by
          refine hIv.heap _ _ ?_
          split <;> rfl
        have gX : hget H 57007 = some (v7, .arr 3 44 (cFromLabelTo e)) := by
          refine hIv.heap _ _ ?_
          split <;> rfl
        have val := hIv.val
        match i, hi with
        | 0, _ => exact l_op rfl rfl rfl (o_val rfl (mv_val rfl (show (⟨sl, H⟩ : AS).ev (.tmp 5) = _ from h5)).2 (b_nil ⟨v', hIv.put hb25 (by decide) rfl⟩))
        | 1, _ =>
          have q := val 0 (hdeps 0 (by decide)) (by decide)
          exact l_op rfl rfl rfl (o_val rfl (v_nilP q gS) (b_nil ⟨v', hIv.put hb25 (by decide) rfl⟩))
        | 2, _ =>
          have q := val 1 (hdeps 1 (by decide)) (by decide)
          exact l_op rfl rfl rfl (o_val rfl (v_fieldAddrP fo91_3 q gS) (b_nil ⟨v', hIv.put hb25 (by decide) rfl⟩))
        | 3, _ =>
          have q := val 2 (hdeps 2 (by decide)) (by decide)
          exact l_op rfl rfl rfl (o_val rfl (v_loadP ty89 q gS (l_lit rfl rfl)) (b_nil ⟨v', hIv.put hb25 (by decide) rfl⟩))
        | 4, _ => exact l_op rfl rfl rfl (o_val rfl (v_fieldAddrP fo44_0 h7 gX) (b_nil ⟨v', hIv.put hb25 (by decide) rfl⟩))
        | 5, _ =>
          have q := val 4 (hdeps 4 (by decide)) (by decide)
          exact l_op rfl rfl rfl (o_val rfl (v_loadP ty3 q gX (l_lit rfl rfl)) (b_nil ⟨v', hIv.put hb25 (by decide) rfl⟩))
        | 6, _ => exact l_op rfl rfl rfl (o_val rfl (mv_val rfl (show (⟨sl, H⟩ : AS).ev (.tmp 5) = _ from h5)).2 (b_nil ⟨v', hIv.put hb25 (by decide) rfl⟩))
        | 7, _ =>
          have q := val 6 (hdeps 6 (by decide)) (by decide)
          exact l_op rfl rfl rfl (o_val rfl (v_nilP q gS) (b_nil ⟨v', hIv.put hb25 (by decide) rfl⟩))
        | 8, _ =>
          have q := val 7 (hdeps 7 (by decide)) (by decide)
          exact l_op rfl rfl rfl (o_val rfl (v_fieldAddrP fo91_3 q gS) (b_nil ⟨v', hIv.put hb25 (by decide) rfl⟩))
        | 9, _ =>
          have q := val 8 (hdeps 8 (by decide)) (by decide)
          exact l_op rfl rfl rfl (o_val rfl (v_loadP ty89 q gS (l_lit rfl rfl)) (b_nil ⟨v', hIv.put hb25 (by decide) rfl⟩))
        | 10, _ => exact l_op rfl rfl rfl (o_val rfl (v_fieldAddrP fo44_0 h7 gX) (b_nil ⟨v', hIv.put hb25 (by decide) rfl⟩))
        | 11, _ =>
          have q := val 10 (hdeps 10 (by decide)) (by decide)
          exact l_op rfl rfl rfl (o_val rfl (v_loadP ty3 q gX (l_lit rfl rfl)) (b_nil ⟨v', hIv.put hb25 (by decide) rfl⟩))
        | 12, _ =>
          have q := val 9 (hdeps 9 (by decide)) (by decide)
          have q2 := val 11 (hdeps 11 (by decide)) (by decide)
          exact l_op rfl rfl rfl (o_val rfl (v_idxA ty89 es89 q q2 hj gN) (b_nil ⟨v', hIv.put hb25 (by decide) rfl⟩))
        | 13, _ =>
          have q := val 12 (hdeps 12 (by decide)) (by decide)
          exact l_op rfl rfl rfl (o_val rfl (v_loadP ty22 q gN (l_lit rfl hhd)) (b_nil ⟨v', hIv.put hb25 (by decide) rfl⟩))
        | 14, _ => exact l_op rfl rfl rfl (o_val rfl (v_loadP ty44 h7 gX (l_litA rfl (Nat.le_of_ble_eq_true rfl) rfl)) (b_nil ⟨v', hIv.put hb25 (by decide) rfl⟩))
        | 15, _ =>
          have q := val 14 (hdeps 14 (by decide)) (by decide)
          have q' : (⟨sl, H⟩ : AS).ev (.tmp 39) = some (HV.agg (cFromLabelTo e)) := q
          exact l_op rfl rfl rfl (o_bsl_z (s := ⟨sl, H⟩) rfl rfl (as_of (cs := cFromLabelTo e) (qs := [(0, HV.agg (cFromLabelTo e))]) ty22 ty44 rfl (by simp only [aparts, List.mapM_cons, List.mapM_nil, q']; rfl) rfl rfl rfl) (b_nil ⟨v', hIv.put hb25 (by decide) rfl⟩))
        | 16, _ =>
          have q := val 13 (hdeps 13 (by decide)) (by decide)
          have q2 := val 15 (hdeps 15 (by decide)) (by decide)
          have hr0 : hget H (rid e.1.toNat) = some (rv, .arr 3 44 (eFromLabelTo.E l)) := by
            refine hIv.heap _ _ ?_
            rw [if_neg hiL, hX_rid]
            have := hget_rowsE (en := eFromLabelTo) (et := 44) 0 hrow
            rwa [Nat.zero_add] at this
          refine l_op rfl rfl rfl (o_appE_z (s := ⟨sl, H⟩) eFromLabelTo (l := l) (m := [e]) rfl rfl ty22 ty22 ty44 q hr0 q2 rfl rfl ⟨by simp; omega, by simp only [maxLen, List.length_singleton]; omega⟩ (fun v2 => b_nil ⟨v2, ?_⟩))
          refine hIv.turn hb25 hiL (fun k hk => ?_) (fun id x hx => ?_)
          · match k, hk with
            | 0, _ | 1, _ | 2, _ | 3, _ | 4, _ | 5, _ | 6, _ | 7, _ | 8, _ | 9, _ | 10, _ | 11, _ | 12, _ | 13, _ | 14, _ | 15, _ => rfl
            | 16, h => exact absurd rfl h
            | k + 17, _ => rfl
          · show hget ((rid e.1.toNat, v2, .arr 3 44 (eFromLabelTo.E (l ++ [e]))) :: H) id = some x
            by_cases ei : id = rid e.1.toNat
            · subst ei
              rw [hX_rid] at hx
              have := rows_putE (en := eFromLabelTo) (et := 44) (v' := v2) (l' := l ++ [e]) hrow _ _ hx
              rw [hget_hd] at this ⊢
              exact this
            · rw [hget_tl ei]
              refine hIv.heap id x ?_
              rw [if_neg hiL]
              by_cases j7 : id = 57007
              · subst j7; exact hx
              by_cases j5 : id = 57017
              · subst j5; exact hx
              by_cases j12 : id = 57014
              · subst j12; exact hx
              by_cases j15 : id = 57015
              · subst j15; exact hx
              rw [hget_tl j7, hget_tl j5, hget_tl j12, hget_tl j15] at hx ⊢
              have := rows_putE (en := eFromLabelTo) (et := 44) (v' := v2) (l' := l ++ [e]) hrow _ _ hx
              rwa [hget_tl ei] at this
        | k + 17, h => exact absurd h (by omega)
      · rintro L ⟨sl, H⟩ ⟨v', hIv⟩ hall
        have hin : ∀ k, k < 17 → k ∈ L := fun k hk => (hall k).1 hk
        refine l_go (L' := List.range 17) hF (all_range hall) (hfin v') ⟨?_, fun id x h => hIv.heap id x (by rw [if_pos (hin 16 (by decide))]; exact h)⟩
        refine leS_get ⟨hIv.val 3 (hin 3 (by decide)) (by decide), hIv.val 5 (hin 5 (by decide)) (by decide), hIv.val 16 (hin 16 (by decide)) (by decide), ?_⟩
        exact ⟨hIv.base _ (.head _), hIv.base _ (.tail _ (.head _)), hIv.base _ (.tail _ (.tail _ (.head _))), hIv.base _ (.tail _ (.tail _ (.tail _ (.head _)))), hIv.base _ (.tail _ (.tail _ (.tail _ (.tail _ (.head _))))), hIv.base _ (.tail _ (.tail _ (.tail _ (.tail _ (.tail _ (.head _)))))), trivial⟩
      · intro p hp
        simp only [List.mem_cons, List.not_mem_nil, or_false] at hp
        rcases hp with rfl | rfl | rfl | rfl | rfl | rfl <;> rfl
    have hc := of_decide_eq_false hc
    have hkE : k = E.length := by omega
    subst hkE
    rw [List.take_length] at hrw
    refine AW.exit ?_
    have hrE : rs.map (·.2) = nextE (L0, (Sn : Int), E) := by
      refine List.ext_getElem (by simp [nextE, hrs]) fun i h1 h2 => ?_
      have hir : i < rs.length := by simpa using h1
      have hget : rs[i]? = some (rs[i].1, rs[i].2) := List.getElem?_eq_getElem hir
      have := (hrw i _ _ hget).1
      simp only [List.getElem_map, nextE, List.getElem_range]
      exact this
    refine AW.rgs rfl fun K hK => ?_
    refine mv rfl rfl ?_
    refine mv rfl rfl ?_
    refine b_nil (hK _ (AW.to (to_frz 5 ((57017, vs, .arr 7 91 (cellsS L0 Sn E mark vn mw)) :: (57014, vn, .arr 1 22 (hdrE eFromLabelTo 0 rs)) :: rowsOE eFromLabelTo 44 0 rs) ⟨[(4, SH (L0, (Sn : Int), E) mark (ftabL mark) (nextE (L0, (Sn : Int), E)) mw)], [(57015, mw, .map [])]⟩ ⟨⟨_, rfl, ?_⟩, trivial⟩ ⟨rfl, trivial⟩ ⟨rfl, rfl, leH_rowsE _ 0 fun i v l hi => ?_⟩ ?_ ?_)))
    · have e1 : hget ((57017, vs, .arr 7 91 (cellsS L0 Sn E mark vn mw)) :: (57014, vn, .arr 1 22 (hdrE eFromLabelTo 0 rs)) :: rowsOE eFromLabelTo 44 0 rs) 57014 = some (vn, .arr 1 22 (hdrE eFromLabelTo 0 rs)) := rfl
      generalize hD : ((57017, vs, .arr 7 91 (cellsS L0 Sn E mark vn mw)) :: (57014, vn, .arr 1 22 (hdrE eFromLabelTo 0 rs)) :: rowsOE eFromLabelTo 44 0 rs : Heap) = D at e1
      have e0 : hget D 57017 = some (vs, .arr 7 91 (cellsS L0 Sn E mark vn mw)) := by rw [← hD]; rfl
      have e2 : ∀ i v l, rs[i]? = some (v, l) → hget D (rid (0 + i)) = some (v, .arr 3 44 (eFromLabelTo.E l)) := fun i v l hi => by
        rw [← hD, hget_tl (by unfold rid; omega), hget_tl (by unfold rid; omega)]
        exact hget_rowsE (en := eFromLabelTo) (et := 44) 0 hi
      have hfr : frz 4 D (HV.ar 57014 vn 1 0 Sn) = slE (eSl eFromLabelTo) (nextE (L0, (Sn : Int), E)) := by
        have hz : (hdrE eFromLabelTo 0 rs).map (frz 3 D) = (rs.map (·.2)).map (slE eFromLabelTo) := frz_rowsN e2 fun _ => rfl
        show (match hget D 57014 with
          | some (ver', .arr _ _ cs) => if vn = ver' ∧ 0 + Sn * 1 ≤ cs.length then HV.sl 1 Sn (((cs.drop 0).take (Sn * 1)).map (frz 3 D)) else _
          | _ => _) = _
        rw [e1]
        simp only
        rw [if_pos ⟨trivial, by rw [hdr_lenE]; omega⟩, List.drop_zero, List.take_of_length_le (by rw [hdr_lenE]; omega), hz, hrE]
        show HV.sl 1 Sn _ = HV.sl 1 (nextE (L0, (Sn : Int), E)).length _
        rw [← hrE, List.length_map, hrs]
        rfl
      show (match hget D 57017 with
        | some (ver', .arr _ _ cs) => if vs = ver' then HV.fptr (cs.map (frz 4 D)) 0 else _
        | _ => _) = _
      rw [e0]
      simp only [if_true]
      show HV.fptr [HV.int .i64 L0, HV.int .i64 (Sn : Int), slE eFromLabelTo E, HV.str mark, HV.sl 16 ((ftabL mark).length / 16) (eInt.E (ftabL mark)), frz 4 D (HV.ar 57014 vn 1 0 Sn), HV.mp 57015 mw] 0 = _
      rw [hfr]
    · rw [Nat.zero_add, hS_rid]
      have := hget_rowsE (en := eFromLabelTo) (et := 44) 0 hi
      rwa [Nat.zero_add] at this
    · refine ⟨rfl, rfl, noneH_rows fun i _ => ?_⟩
      rw [hget_tl (by unfold rid; omega)]
      rfl
    clear hK K
    refine AW.to (to_kmap (id := 57015) (ver := mw) rfl ?_)
    refine AW.ret ?_
    exact ret_A (hs := [SH (L0, (Sn : Int), E) mark (ftabL mark) (nextE (L0, (Sn : Int), E)) mw]) (.inr rfl) (resT rfl rfl) rfl ⟨mw, rfl, leH_get ⟨rfl, trivial⟩⟩
  have hinv := l_inv (F := F) hF rfl 11 (by decide) rfl (fun L s => ∃ vn mw vs, Inv1 [(1, HV.str mark), (2, HV.fptr [HV.int .i64 L0, HV.int .i64 (Sn : Int), slE eFromLabelTo E] 0)] (val1 L0 Sn E mark vn mw vs) (List.replicate Sn (HV.v (.slice none 0 0))) (cellsS L0 Sn E mark vn mw) vn mw vs L s) ?_ ?_ 11 [] ⟨[(1, HV.str mark), (2, HV.fptr [HV.int .i64 L0, HV.int .i64 (Sn : Int), slE eFromLabelTo E] 0)], []⟩ ⟨0, 0, 0, ?_, (fun k hk => by cases hk), (fun h => by cases h), (fun h => by cases h), (fun h => by cases h), (fun h => by cases h), (fun h => by cases h), (fun h => by cases h)⟩ (fun k hk => by cases hk) List.nodup_nil rfl
  · exact hinv
  · rintro L ⟨sl, H⟩ i ⟨vn, mw, vs, hIv⟩ hi hiL hdeps
    have hb8 : ∀ p ∈ ([(1, HV.str mark), (2, HV.fptr [HV.int .i64 L0, HV.int .i64 (Sn : Int), slE eFromLabelTo E] 0)] : List (Nat × HV)), p.1 < 5 := by
      intro p hp
      simp only [List.mem_cons, List.not_mem_nil, or_false] at hp
      rcases hp with rfl | rfl <;> (dsimp only; omega)
    have h1 : sget sl 1 = some (HV.str mark) := hIv.base (1, _) (by simp)
    have h2 : sget sl 2 = some (HV.fptr [HV.int .i64 L0, HV.int .i64 (Sn : Int), slE eFromLabelTo E] 0) := hIv.base (2, _) (by simp)
    have val := hIv.val
    match i, hi with
    | 0, _ => exact l_op rfl rfl rfl (o_val rfl (v_loadF ty24 h2 (l_litA rfl (Nat.le_of_ble_eq_true rfl) rfl)) (b_nil ⟨vn, mw, vs, hIv.put hb8 (by decide) hiL (by decide) (fun h => absurd h (by decide)) (fun h => absurd h (by decide)) rfl⟩))
    | 1, _ => exact l_op rfl rfl rfl (o_val rfl (mv_val rfl (show (⟨sl, H⟩ : AS).ev (.tmp 1) = _ from h1)).2 (b_nil ⟨vn, mw, vs, hIv.put hb8 (by decide) hiL (by decide) (fun h => absurd h (by decide)) (fun h => absurd h (by decide)) rfl⟩))
    | 2, _ => exact l_op rfl rfl rfl (o_val rfl (mv_val rfl (show (⟨sl, H⟩ : AS).ev (.tmp 1) = _ from h1)).2 (b_nil ⟨vn, mw, vs, hIv.put hb8 (by decide) hiL (by decide) (fun h => absurd h (by decide)) (fun h => absurd h (by decide)) rfl⟩))
    | 3, _ =>
      have q := val 2 (hdeps 2 (by decide)) (by decide)
      have q' : (⟨sl, H⟩ : AS).ev (.tmp 10) = some (HV.str mark) := q
      exact l_op rfl rfl rfl (o_call rfl rfl (by simp only [List.mapM_cons, List.mapM_nil, q']; rfl) rfl (ACallD.pure0 (w_syncmark_table hmk)) (b_nil ⟨vn, mw, vs, hIv.put hb8 (by decide) hiL (by decide) (fun h => absurd h (by decide)) (fun h => absurd h (by decide)) rfl⟩))
    | 4, _ => exact l_op rfl rfl rfl (o_val rfl (v_fieldAddrF fo24_1 h2) (b_nil ⟨vn, mw, vs, hIv.put hb8 (by decide) hiL (by decide) (fun h => absurd h (by decide)) (fun h => absurd h (by decide)) rfl⟩))
    | 5, _ =>
      have q := val 4 (hdeps 4 (by decide)) (by decide)
      exact l_op rfl rfl rfl (o_val rfl (v_loadF ty3 q (l_lit rfl rfl)) (b_nil ⟨vn, mw, vs, hIv.put hb8 (by decide) hiL (by decide) (fun h => absurd h (by decide)) (fun h => absurd h (by decide)) rfl⟩))
    | 6, _ =>
      have q := val 5 (hdeps 5 (by decide)) (by decide)
      obtain ⟨e8, e9, e10⟩ := hIv.cl
      have n8 : 8 ∉ L := fun h => hiL (e8 h).1
      have n9 : 9 ∉ L := fun h => n8 (e9 h)
      refine l_op rfl rfl rfl (o_makeE (fid := 57) (encM fun _ : Unit => HV.v (.slice none 0 0)) () 57014 rfl rfl ty89 q q ty22 rfl rfl (show 0 ≤ (Sn : Int) ∧ (Sn : Int) ≤ (Sn : Int) ∧ (Sn : Int) * ((24 : Nat) : Int) ≤ 281474976710656 by omega) (fun vn2 => b_nil ⟨vn2, mw, vs, ?_⟩))
      refine hIv.add (i := 6) hb8 (by decide) hiL (val2 := val1 L0 Sn E mark vn2 mw vs) (by rw [Int.toNat_natCast, List.length_replicate]; rfl) (fun k hk hk8 => ?_) (fun _ => ?_) (fun hm => ?_) (fun hm => ?_) (fun h => absurd h (by decide)) (fun h => absurd h (by decide)) (fun h => absurd h (by decide))
      · match k, hk, hk8 with
        | 0, _, _ | 1, _, _ | 2, _, _ | 3, _, _ | 4, _, _ | 5, _, _ | 7, _, _ | 9, _, _ | 10, _, _ => rfl
        | 6, h, _ => exact absurd h hiL
        | 8, h, _ => exact absurd h n8
        | k + 11, _, h => exact absurd h (by omega)
      · show hget ((57014, vn2, .arr 1 22 ((List.replicate (Sn : Int).toNat ()).map fun _ => HV.v (.slice none 0 0))) :: H) 57014 = _
        rw [hget_hd, Int.toNat_natCast, List.map_replicate]
      · show hget ((57014, _, _) :: H) 57015 = _
        rw [hget_tl (by decide)]
        exact hIv.h7 ((List.mem_cons.1 hm).resolve_left (by decide))
      · exact absurd ((List.mem_cons.1 hm).resolve_left (by decide)) n9
    | 7, _ =>
      obtain ⟨e8, e9, e10⟩ := hIv.cl
      have n8 : 8 ∉ L := fun h => hiL (e8 h).2
      have n9 : 9 ∉ L := fun h => n8 (e9 h)
      refine l_op rfl rfl rfl (o_makeMap (fid := 57) HV.bool 57015 rfl rfl (fun mw2 => b_nil ⟨vn, mw2, vs, ?_⟩))
      refine hIv.add (i := 7) hb8 (by decide) hiL (val2 := val1 L0 Sn E mark vn mw2 vs) rfl (fun k hk hk8 => ?_) (fun hm => ?_) (fun _ => rfl) (fun hm => ?_) (fun h => absurd h (by decide)) (fun h => absurd h (by decide)) (fun h => absurd h (by decide))
      · match k, hk, hk8 with
        | 0, _, _ | 1, _, _ | 2, _, _ | 3, _, _ | 4, _, _ | 5, _, _ | 6, _, _ | 9, _, _ | 10, _, _ => rfl
        | 7, h, _ => exact absurd h hiL
        | 8, h, _ => exact absurd h n8
        | k + 11, _, h => exact absurd h (by omega)
      · show hget ((57015, _, _) :: H) 57014 = _
        rw [hget_tl (by decide)]
        exact hIv.h6 ((List.mem_cons.1 hm).resolve_left (by decide))
      · exact absurd ((List.mem_cons.1 hm).resolve_left (by decide)) n9
    | 8, _ =>
      have q0 := val 0 (hdeps 0 (by decide)) (by decide)
      have q1 := val 1 (hdeps 1 (by decide)) (by decide)
      have q3 := val 3 (hdeps 3 (by decide)) (by decide)
      have q6 := val 6 (hdeps 6 (by decide)) (by decide)
      have q7 := val 7 (hdeps 7 (by decide)) (by decide)
      have p0 : (⟨sl, H⟩ : AS).ev (.tmp 8) = some (HV.agg [HV.int .i64 L0, HV.int .i64 (Sn : Int), slE eFromLabelTo E]) := q0
      have p1 : (⟨sl, H⟩ : AS).ev (.tmp 9) = some (HV.str mark) := q1
      have p3 : (⟨sl, H⟩ : AS).ev (.tmp 11) = some (HV.sl 16 ((ftabL mark).length / 16) (eInt.E (ftabL mark))) := q3
      have p6 : (⟨sl, H⟩ : AS).ev (.tmp 14) = some (HV.ar 57014 vn 1 0 Sn) := q6
      have p7 : (⟨sl, H⟩ : AS).ev (.tmp 15) = some (HV.mp 57015 mw) := q7
      exact l_op rfl rfl rfl (o_build (cs := cellsS L0 Sn E mark vn mw) rfl (bl_of (qs := [(0, HV.agg [HV.int .i64 L0, HV.int .i64 (Sn : Int), slE eFromLabelTo E]), (1, HV.str mark), (2, HV.sl 16 ((ftabL mark).length / 16) (eInt.E (ftabL mark))), (3, HV.ar 57014 vn 1 0 Sn), (4, HV.mp 57015 mw)]) ty91 rfl rfl (by simp only [aparts, List.mapM_cons, List.mapM_nil, p0, p1, p3, p6, p7]; rfl) rfl) (b_nil ⟨vn, mw, vs, hIv.put hb8 (by decide) hiL (by decide) (fun _ => ⟨hdeps 6 (by decide), hdeps 7 (by decide)⟩) (fun h => absurd h (by decide)) rfl⟩))
    | 9, _ =>
      have q8 := val 8 (hdeps 8 (by decide)) (by decide)
      obtain ⟨e8, e9, e10⟩ := hIv.cl
      have n10 : 10 ∉ L := fun h => hiL (e10 h)
      have p8 : (⟨sl, H⟩ : AS).ev (.tmp 16) = some (HV.agg (cellsS L0 Sn E mark vn mw)) := q8
      refine l_op rfl rfl rfl (o_boxM (fid := 57) 57017 rfl rfl p8 rfl fun vs2 => b_nil ⟨vn, mw, vs2, ?_⟩)
      refine hIv.add (i := 9) hb8 (by decide) hiL (val2 := val1 L0 Sn E mark vn mw vs2) rfl (fun k hk hk8 => ?_) (fun hm => ?_) (fun hm => ?_) (fun _ => rfl) (fun h => absurd h (by decide)) (fun _ => hdeps 8 (by decide)) (fun h => absurd h (by decide))
      · match k, hk, hk8 with
        | 0, _, _ | 1, _, _ | 2, _, _ | 3, _, _ | 4, _, _ | 5, _, _ | 6, _, _ | 7, _, _ | 8, _, _ => rfl
        | 9, h, _ => exact absurd h hiL
        | 10, h, _ => exact absurd h n10
        | k + 11, _, h => exact absurd h (by omega)
      · show hget ((57017, _, _) :: H) 57014 = _
        rw [hget_tl (by decide)]
        exact hIv.h6 ((List.mem_cons.1 hm).resolve_left (by decide))
      · show hget ((57017, _, _) :: H) 57015 = _
        rw [hget_tl (by decide)]
        exact hIv.h7 ((List.mem_cons.1 hm).resolve_left (by decide))
    | 10, _ =>
      have q9 := val 9 (hdeps 9 (by decide)) (by decide)
      exact l_op rfl rfl rfl (o_val rfl (mv_val rfl (show (⟨sl, H⟩ : AS).ev (.tmp 17) = _ from q9)).2 (b_nil ⟨vn, mw, vs, hIv.put (i := 10) hb8 (by decide) hiL (by decide) (fun h => absurd h (by decide)) (fun _ => hdeps 9 (by decide)) rfl⟩))
    | k + 11, h => exact absurd h (by omega)
  · rintro L ⟨sl, H⟩ ⟨vn, mw, vs, hIv⟩ hall
    have hin : ∀ k, k < 11 → k ∈ L := fun k hk => (hall k).1 hk
    refine l_go (L' := List.range 11) hF (all_range hall) (hfin vn mw vs) ⟨leS_get ⟨hIv.val 10 (hin 10 (by decide)) (by decide), hIv.base (2, _) (by simp), trivial⟩, leH_get ⟨hIv.h9 (hin 9 (by decide)), hIv.h6 (hin 6 (by decide)), hIv.h7 (hin 7 (by decide)), trivial⟩⟩
  · intro p hp
    simp only [List.mem_cons, List.not_mem_nil, or_false] at hp
    rcases hp with rfl | rfl <;> rfl
end Go.AW

/- strings.Builder: the check for copies. -/
namespace Go.Proofs
open Go

theorem Tryz.bld_lies (n : Nat) (hn : 2 ≤ n) : liesAt Tryz.prog Tryz.prog.depth 86 (n / Tryz.prog.cellsOf 86) 0 86 1 = true := by
  have hc : Tryz.prog.cellsOf 86 = 2 := by kernel_rfl
  have hd : Tryz.prog.depth = (2 * (Tryz.prog.types.size + Made.depth) + 1) + 1 := rfl
  rw [hd]
  simp only [liesAt, Bool.or_eq_true]
  left
  rw [hd]
  have : 1 ≤ n / 2 := by omega
  simp [rowAt, hc, sameLayout, this]

set_option maxHeartbeats 1000000 in
set_option maxRecDepth 100000 in
theorem Tryz.copyCheck_fresh (b n : Nat) (w : World) (h0 : w.cell? ⟨b, 0, none⟩ = some (.pointer none)) (hsh : w.shape? b = some (86, n)) (hn : 2 ≤ n) (hfz : w.frozen? ⟨b, 0, none⟩ = false) :
    Calls Tryz.prog 85 #[.pointer (some ⟨b, 0, none⟩)] w fun e w' => e = .returned (.tuple #[]) ∧ w' = w.setCell ⟨b, 0, none⟩ (.pointer (some ⟨b, 0, none⟩)) := by
  obtain ⟨j, hj, hjs⟩ := Option.map_eq_some_iff.1 (show (Tryz.prog.info? 86).map (·.size) = some 2 by kernel_rfl)
  have hlies := Tryz.bld_lies n hn
  go_enter Tryz.func85, Tryz.ntmps85
  go_wp2
  rw [Lib.run_to_unsafe w ⟨b, 0, none⟩ Tryz.underlying83 Tryz.underlying156 hj (by rw [hjs]; decide) hsh (by show 0 < n; omega)]
  simp only [Result.andThen]
  rw [Oper.upon_value]
  go_wp2
  rw [run_callFunc_extern Tryz.func115 (by kernel_rfl) (by kernel_rfl) (by kernel_rfl) (e := Extern.AbiNoEscape.same) (by kernel_rfl), Lib.run_noEscape]
  simp only [Result.andThen]
  rw [Oper.upon_value]
  go_wp2
  rw [Lib.run_from_unsafe w ⟨b, 0, none⟩ Tryz.underlying156 Tryz.underlying83 hj hsh hlies]
  simp only [Result.andThen]
  rw [Oper.upon_value]
  go_wp2
  go_end0
  exact ⟨rfl, rfl⟩

set_option maxHeartbeats 1000000 in
set_option maxRecDepth 100000 in
theorem Tryz.copyCheck_used (b : Nat) (w : World) (h0 : w.cell? ⟨b, 0, none⟩ = some (.pointer (some ⟨b, 0, none⟩))) :
    Calls Tryz.prog 85 #[.pointer (some ⟨b, 0, none⟩)] w fun e w' => e = .returned (.tuple #[]) ∧ w' = w := by
  obtain ⟨j, hj, _⟩ := Option.map_eq_some_iff.1 (show (Tryz.prog.info? 86).map (·.size) = some 2 by kernel_rfl)
  go_enter Tryz.func85, Tryz.ntmps85
  go_wp2
  rw [Lib.run_neq_ptr_same w _ Tryz.underlying83 hj]
  go_wp2
  go_end0
  exact ⟨rfl, rfl⟩
end Go.Proofs

namespace Go.AW
open Go Go.Proofs Go.Lib

def bldP (u : Bool) (id ver : Nat) : HV := if u then .ptr id ver 0 else .v (.pointer none)

theorem c_copyCheck {H : Heap} {K : HV → Heap → Prop} {id ver : Nat} {u : Bool} {s : HV} (hg : hget H id = some (ver, .arr 2 86 [bldP u id ver, s])) (hK : K (.tup []) ((id, ver, .arr 2 86 [.ptr id ver 0, s]) :: H)) :
    ACall Tryz.prog 85 [.ptr id ver 0] H K := by
  refine ⟨enters' Tryz.func85 rfl rfl, fun μ w vs hs hr _ => ?_⟩
  obtain ⟨x, xs, rfl, hr, hn⟩ := hr
  cases hn
  obtain ⟨lo, hl, hor⟩ := hs.has _ _ _ hg
  have hle : ∀ ob j (y : Nat × AObj), hget ((id, ver, ob) :: H) j = some y ↔ hget (hset H id ver ob) j = some y := fun ob j y => by simp only [hget, hget_hset]
  rcases hr with ⟨b, hl', rfl⟩ | ⟨hd, _⟩
  · rw [hl] at hl'
    cases hl'
    obtain ⟨h1, cur, vs', rest, hrow, hcl, hrl⟩ := hor
    obtain ⟨v0, vs1, rfl, r0, v1, vs2, rfl, r1, hn⟩ := hrl
    cases hn
    have hrow2 := hrow
    obtain ⟨lo', hi', hbk, hfr⟩ := hrow2
    have hsz : 2 ≤ cur.size := by rw [← Array.length_toList, hcl]; simp
    have hc0 : cur[0]? = some v0 := by rw [← Array.getElem?_toList, hcl]; rfl
    have hcell : w.cell? ⟨b, 0, none⟩ = some v0 := by rw [Lib.cell_of_heap hbk]; exact hc0
    cases u with
    | false =>
      obtain rfl : v0 = .pointer none := r0
      refine (Tryz.copyCheck_fresh b cur.size w hcell (by simp [World.shape?, hbk]) hsz (hrow.free (by omega))).mono ?_
      rintro e w' ⟨rfl, rfl⟩
      have hbk' : (w.setCell ⟨b, 0, none⟩ (.pointer (some ⟨b, 0, none⟩))).heap[b]? = some (.cells (cur.setIfInBounds 0 (.pointer (some ⟨b, 0, none⟩))) 86 (lo', hi')) := by
        show (w.heap.modify b _)[b]? = _
        rw [Array.getElem?_modify, if_pos rfl, hbk]
        rfl
      obtain ⟨hsr, hE⟩ := hs.updArr (w' := w.setCell ⟨b, 0, none⟩ (.pointer (some ⟨b, 0, none⟩))) (cs' := [.ptr id ver 0, s]) hg hl ⟨rfl, rfl, rfl⟩ (by show (w.heap.modify b _).size = _; simp) (fun b' hne => by
        show (w.heap.modify b _)[b']? = _
        rw [Array.getElem?_modify, if_neg (fun e => hne e.symm)]) hrow ⟨lo', hi', hbk', by simpa using hfr⟩ (by simp) fun E => by
          refine ⟨fun c hc => ?_, _, [.pointer (some ⟨b, 0, none⟩), v1], rest, ⟨lo', hi', hbk', by simpa using hfr⟩, ?_, ?_⟩
          · rcases List.mem_cons.1 hc with rfl | hc
            · rfl
            · exact h1 c (List.mem_cons_of_mem _ hc)
          · rw [Array.toList_setIfInBounds, hcl]; rfl
          · exact ⟨_, _, rfl, .inl ⟨b, hl, rfl⟩, _, _, rfl, Rep.evo E hs.ok _ _ r1, rfl⟩
      exact ⟨_, .tup [], _, μ, rfl, hK, hsr.le (hle _), ⟨[], rfl, rfl⟩, hE⟩
    | true =>
      rcases r0 with ⟨b', hl2, rfl⟩ | ⟨hd, _⟩
      · rw [hl] at hl2
        cases hl2
        refine (Tryz.copyCheck_used b w hcell).mono ?_
        rintro e w' ⟨rfl, rfl⟩
        exact ⟨_, .tup [], _, μ, rfl, hK, (hs.same hg).le (hle _), ⟨[], rfl, rfl⟩, Evo.refl _ _⟩
      · exact absurd hl (hd.2 _)
  · exact absurd hl (hd.2 _)
end Go.AW

/- strings.Builder: writing. -/
namespace Go.AW
open Go Go.Proofs

def bldO (id ver aid aver : Nat) (u : Bool) (l : List UInt8) : AObj := .arr 2 86 [bldP u id ver, .ar aid aver 1 0 l.length]
def bytO (l : List UInt8) : AObj := .arr 1 5 (eByte.E l)

theorem hget_1 {id v j w : Nat} {o p : AObj} {H : Heap} (h : j ≠ id) (hj : hget H j = some (w, p)) : hget ((id, v, o) :: H) j = some (w, p) := by
  simp only [hget]
  rw [if_neg (by omega)]
  exact hj

end Go.AW

/- strings.Builder: the text. -/
namespace Go.Proofs
open Go

def But (g : Nat) (w w' : World) : Prop := Go.AW.Same w w' ∧ w.heap.size ≤ w'.heap.size ∧ ∀ k, k < w.heap.size → k ≠ g → w'.heap[k]? = w.heap[k]?

set_option maxHeartbeats 2000000 in
set_option maxRecDepth 100000 in
theorem Tryz.bldS_nil (b g : Nat) (w : World) (c0 : w.cell? ⟨b, 1, none⟩ = some (.slice none 0 0)) :
    Calls Tryz.prog 62 #[.pointer (some ⟨b, 0, none⟩)] w fun e w' => e = .returned (.string ⟨#[]⟩) ∧ But g w w' := by
  have hUS : ∀ (W : World) (q : Option Addr), (Builtin.unsafeString_ #[122, 3] 9 #[.pointer q, .int .i64 0]).run Tryz.prog W = .ok (.string .empty) W := fun W q => Lib.run_unsafeString_none W _ _ _ q
  have c1 : w.drew.cell? ⟨b, 1, none⟩ = some (.slice none 0 0) := c0
  have hSD : (Builtin.unsafeSliceData_ #[84] 122 #[.slice none 0 0]).run Tryz.prog w.drew = .ok (.pointer none) w.drew := rfl
  have mixed : Tryz.prog.follows .mixedOrders = true := by kernel_rfl
  go_enter Tryz.func62, Tryz.ntmps62
  go_wp2
  go_region_o
  all_goals (go_wp2; go_ret; exact ⟨rfl, ⟨rfl, rfl, rfl⟩, Nat.le_refl _, fun _ _ _ => rfl⟩)

set_option maxHeartbeats 2000000 in
set_option maxRecDepth 100000 in
theorem Tryz.bldS_room (b g cap : Nat) (w : World) (hc0 : cap ≠ 0) (c0 : w.cell? ⟨b, 1, none⟩ = some (.slice (some ⟨g, 0, none⟩) 0 cap)) :
    Calls Tryz.prog 62 #[.pointer (some ⟨b, 0, none⟩)] w fun e w' => e = .returned (.string ⟨#[]⟩) ∧ But g w w' := by
  have hUS : ∀ (W : World) (q : Option Addr), (Builtin.unsafeString_ #[122, 3] 9 #[.pointer q, .int .i64 0]).run Tryz.prog W = .ok (.string .empty) W := fun W q => Lib.run_unsafeString_none W _ _ _ q
  have c1 : w.drew.cell? ⟨b, 1, none⟩ = some (.slice (some ⟨g, 0, none⟩) 0 cap) := c0
  have hSD : (Builtin.unsafeSliceData_ #[84] 122 #[.slice (some ⟨g, 0, none⟩) 0 cap]).run Tryz.prog w.drew = .ok (.pointer (some ⟨g, 0, none⟩)) w.drew := Lib.run_unsafeSliceData_row _ _ _ _ _ _ hc0
  clear hc0
  have mixed : Tryz.prog.follows .mixedOrders = true := by kernel_rfl
  go_enter Tryz.func62, Tryz.ntmps62
  go_wp2
  go_region_o
  all_goals (go_wp2; go_ret; exact ⟨rfl, ⟨rfl, rfl, rfl⟩, Nat.le_refl _, fun _ _ _ => rfl⟩)

set_option maxHeartbeats 2000000 in
set_option maxRecDepth 100000 in
theorem Tryz.bldS_noroom (b g : Nat) (cur : Array Value) (fr : Nat × Nat) (w : World) (hlt : b < w.heap.size) (c0 : w.cell? ⟨b, 1, none⟩ = some (.slice (some ⟨g, 0, none⟩) 0 0)) (hg : w.heap[g]? = some (.cells cur 5 fr)) :
    Calls Tryz.prog 62 #[.pointer (some ⟨b, 0, none⟩)] w fun e w' => e = .returned (.string ⟨#[]⟩) ∧ But g w w' := by
  have hUS : ∀ (W : World) (q : Option Addr), (Builtin.unsafeString_ #[122, 3] 9 #[.pointer q, .int .i64 0]).run Tryz.prog W = .ok (.string .empty) W := fun W q => Lib.run_unsafeString_none W _ _ _ q
  have c1 : w.drew.cell? ⟨b, 1, none⟩ = some (.slice (some ⟨g, 0, none⟩) 0 0) := c0
  have hSD : (Builtin.unsafeSliceData_ #[84] 122 #[.slice (some ⟨g, 0, none⟩) 0 0]).run Tryz.prog w.drew = .ok (.pointer (some ⟨w.drew.heap.size, 0, none⟩)) (w.drew.alloc (.view ⟨g, 0, none⟩ 5)) :=
    Lib.run_unsafeSliceData_zero w.drew _ _ 5 Tryz.underlying122 ⟨g, 0, none⟩ 0 (5, cur.size) (by have hg' : w.drew.heap[g]? = some (.cells cur 5 fr) := hg; simp [World.shape?, hg'])
  have c2 : (w.drew.alloc (.view ⟨g, 0, none⟩ 5)).cell? ⟨b, 1, none⟩ = some (.slice (some ⟨g, 0, none⟩) 0 0) := by
    have e : (w.drew.alloc (.view ⟨g, 0, none⟩ 5)).heap[b]? = w.heap[b]? := Lib.alloc_old w.drew _ b hlt
    have h1 : (w.drew.alloc (.view ⟨g, 0, none⟩ 5)).cell? ⟨b, 1, none⟩ = w.cell? ⟨b, 1, none⟩ := by simp only [World.cell?, e]
    rw [h1]; exact c0
  have c3 : (w.alloc (.view ⟨g, 0, none⟩ 5)).drew.cell? ⟨b, 1, none⟩ = some (.slice (some ⟨g, 0, none⟩) 0 0) := c2
  have mixed : Tryz.prog.follows .mixedOrders = true := by kernel_rfl
  go_enter Tryz.func62, Tryz.ntmps62
  go_wp2
  go_region_o
  all_goals (go_wp2; go_ret; exact ⟨rfl, ⟨rfl, rfl, rfl⟩, by show w.heap.size ≤ (w.heap.push _).size; rw [Array.size_push]; omega, fun k hk _ => Lib.alloc_old w.drew _ k hk⟩)

set_option maxHeartbeats 2000000 in
set_option maxRecDepth 100000 in
theorem Tryz.bldS_some (b g cap : Nat) (cur : Array Value) (fr : Nat × Nat) (l : List UInt8) (w : World) (h0 : l ≠ []) (c0 : w.cell? ⟨b, 1, none⟩ = some (.slice (some ⟨g, 0, none⟩) l.length cap)) (hg : w.heap[g]? = some (.cells cur 5 fr)) (hcap : l.length ≤ cap) (hsz : cur.size = cap) (hcm : cap ≤ maxLen)
    (hcell : ∀ (j : Nat) (x : UInt8), l[j]? = some x → cur[j]? = some (.int .u8 x.toNat)) :
    Calls Tryz.prog 62 #[.pointer (some ⟨b, 0, none⟩)] w fun e w' => e = .returned (.string ⟨l.toArray⟩) ∧ But g w w' := by
  have hl0 : l.length ≠ 0 := by simpa using h0
  have c1 : w.drew.cell? ⟨b, 1, none⟩ = some (.slice (some ⟨g, 0, none⟩) l.length cap) := c0
  have hSD : (Builtin.unsafeSliceData_ #[84] 122 #[.slice (some ⟨g, 0, none⟩) l.length cap]).run Tryz.prog w.drew = .ok (.pointer (some ⟨g, 0, none⟩)) w.drew := Lib.run_unsafeSliceData_row _ _ _ _ _ _ (by omega)
  have hUS : (Builtin.unsafeString_ #[122, 3] 9 #[.pointer (some ⟨g, 0, none⟩), .int .i64 l.length]).run Tryz.prog w.drew = .ok (.string ⟨l.toArray⟩) (w.drew.freeze ⟨g, 0, none⟩ l.length) := by
    refine Lib.run_unsafeString_row w.drew 122 3 9 5 Tryz.underlying122 (by kernel_rfl) g cur.size (by have hg' : w.drew.heap[g]? = some (.cells cur 5 fr) := hg; simp [World.shape?, hg']) l h0 (by omega) (by unfold maxLen at hcm; omega) ?_
    intro j x hx
    have hg' : w.drew.heap[g]? = some (.cells cur 5 fr) := hg
    rw [Addr.add_lit, Nat.zero_add, Lib.cell_of_heap hg']
    exact hcell j x hx
  have hfz : But g w (w.drew.freeze ⟨g, 0, none⟩ l.length) := by
    unfold World.freeze
    rw [if_neg hl0]
    refine ⟨⟨rfl, rfl, rfl⟩, by show w.heap.size ≤ (w.heap.modify g _).size; simp, fun k hk hne => ?_⟩
    show (w.heap.modify g _)[k]? = _
    rw [Array.getElem?_modify, if_neg (fun e => hne e.symm)]
  clear hcell hsz hcap hcm h0 hl0 hg
  have mixed : Tryz.prog.follows .mixedOrders = true := by kernel_rfl
  go_enter Tryz.func62, Tryz.ntmps62
  go_wp2
  go_region_o
  all_goals (go_wp2; go_ret; exact ⟨rfl, hfz⟩)
end Go.Proofs

/- strings.Builder: the text, and the writing of texts, as contracts. -/
namespace Go.AW
open Go Go.Proofs Go.Lib

theorem repL_byt {w : World} {μ : Mu} : ∀ {l : List UInt8} {vs : List Value}, RepL w μ (l.map fun b => HV.int .u8 (b.toNat : Int)) vs → vs = l.map fun b => Value.int .u8 (b.toNat : Int)
  | [], vs, h => h
  | x :: l, vs, h => by
    obtain ⟨v, vs', rfl, hx, hr⟩ := h
    obtain ⟨rfl, _⟩ := hx
    rw [repL_byt hr]
    rfl

theorem c_String {H : Heap} {K : HV → Heap → Prop} {id ver aid aver : Nat} {u : Bool} {l : List UInt8} (hg : hget H id = some (ver, bldO id ver aid aver u l)) (ha : hget H aid = some (aver, bytO l)) (hK : ∀ av, K (.str l) ((aid, av, .arr 1 5 []) :: H)) :
    ACall Tryz.prog 62 [.ptr id ver 0] H K := by
  refine ⟨enters' Tryz.func62 rfl rfl, fun μ w vs hs hr _ => ?_⟩
  obtain ⟨x, xs, rfl, hr, hn⟩ := hr
  cases hn
  obtain ⟨lo, hl, hor⟩ := hs.has _ _ _ hg
  obtain ⟨la, hla, hora⟩ := hs.has _ _ _ ha
  have hle : ∀ v ob j (y : Nat × AObj), hget ((aid, v, ob) :: H) j = some y ↔ hget (hset H aid v ob) j = some y := fun v ob j y => by simp only [hget, hget_hset]
  have fin : ∀ (g : Nat) (w' : World), (∀ b, μ.loc aid = some (aver, some b) → b = g) → (la = none → w.heap.size ≤ g) → l.length ≤ maxLen → But g w w' → ∃ v r H' μ', Ending.returned (.string ⟨l.toArray⟩) = .returned v ∧ K r H' ∧ SR w' μ' H' ∧ Rep w' μ' r v ∧ Evo w μ w' μ' := by
    intro g w' hb hgn hlen ⟨h1, h2, h3⟩
    have hold : ∀ b, b < w.heap.size → (∀ ver, μ.loc aid ≠ some (ver, some b)) → w'.heap[b]? = w.heap[b]? := fun b hb1 hb2 => by
      by_cases e : b = g
      · cases la with
        | none => exact absurd (hgn rfl) (by omega)
        | some b0 =>
          have := hb b0 hla
          subst this
          subst e
          exact absurd hla (hb2 _)
      · exact h3 b hb1 e
    have hsr := hs.repl aid none (.arr 1 5 []) h1 h2 hold (fun b hb => by cases hb) rfl
    have hE := Evo.repl hs aid none h1 h2 hold (fun b hb => by cases hb)
    exact ⟨_, .str l, _, μ.set aid none, rfl, hK μ.nx, hsr.le (hle _ _), ⟨rfl, hlen⟩, hE⟩
  rcases hr with ⟨b, hl', rfl⟩ | ⟨hd, _⟩
  · rw [hl] at hl'
    cases hl'
    obtain ⟨h1, cur, vs', rest, hrow, hcl, hrl⟩ := hor
    obtain ⟨v0, vs1, rfl, r0, v1, vs2, rfl, r1, hn⟩ := hrl
    cases hn
    have hrow2 := hrow
    obtain ⟨lo', hi', hbk, hfr⟩ := hrow2
    have hc1 : cur[1]? = some v1 := by rw [← Array.getElem?_toList, hcl]; rfl
    have hcell : w.cell? ⟨b, 1, none⟩ = some v1 := by rw [Lib.cell_of_heap hbk]; exact hc1
    have hlt : b < w.heap.size := by
      rcases Nat.lt_or_ge b w.heap.size with h' | h'
      · exact h'
      · simp [Array.getElem?_eq_none h'] at hbk
    rcases r1 with ⟨la', hla', ⟨rfl, rfl, h0, _⟩ | ⟨g, cap, curg, e, rfl, rfl, hnc, hcm, hrowg, hszg⟩⟩ | ⟨hd, _⟩
    · have hln := List.eq_nil_of_length_eq_zero h0
      subst hln
      refine (Tryz.bldS_nil b w.heap.size w hcell).mono ?_
      rintro e w' ⟨rfl, hb⟩
      exact fin _ w' (fun b hb => by rw [hla'] at hb; cases hb) (fun _ => Nat.le_refl _) (Nat.zero_le _) hb
    · rw [hla] at hla'
      cases hla'
      obtain ⟨_, cur2, vs2, rest2, hrow2, hcl2, hrl2⟩ := hora
      obtain ⟨lo2, hi2, hbg, hfr2⟩ := hrow2
      obtain ⟨lo3, hi3, hbg3, hfr3⟩ := hrowg
      rw [hbg] at hbg3
      cases hbg3
      have hvs := repL_byt hrl2
      subst hvs
      have hb1 : ∀ b, μ.loc aid = some (aver, some b) → b = g := fun b hb => by rw [hla] at hb; cases hb; rfl
      by_cases h0 : l = []
      · subst h0
        by_cases hc0 : cap = 0
        · subst hc0
          refine (Tryz.bldS_noroom b g curg _ w hlt hcell hbg).mono ?_
          rintro e w' ⟨rfl, hb⟩
          exact fin g w' hb1 (fun e => by cases e) (Nat.zero_le _) hb
        · refine (Tryz.bldS_room b g cap w hc0 hcell).mono ?_
          rintro e w' ⟨rfl, hb⟩
          exact fin g w' hb1 (fun e => by cases e) (Nat.zero_le _) hb
      · refine (Tryz.bldS_some b g cap curg _ l w h0 hcell hbg hnc (by omega) hcm fun j x hj => ?_).mono ?_
        · rw [← Array.getElem?_toList, hcl2, List.getElem?_append_left (by
            have := (List.getElem?_eq_some_iff.1 hj).1
            simpa using this), List.getElem?_map, hj]
          rfl
        · rintro e w' ⟨rfl, hb⟩
          exact fin g w' hb1 (fun e => by cases e) (by omega) hb
    · exact absurd hla (hd.2 _)
  · exact absurd hl (hd.2 _)
end Go.AW

/- strings.Builder: WriteString. -/
namespace Go.AW
open Go Go.Proofs
set_option linter.unusedVariables false


end Go.AW

/- strings.Builder: writing a byte. -/
namespace Go.AW
open Go Go.Proofs
set_option maxRecDepth 100000 in
theorem c_WriteByte {H : Heap} {K : HV → Heap → Prop} {id ver aid aver : Nat} {u : Bool} {l : List UInt8} {c : UInt8} (hid : aid ≠ id) (hg : hget H id = some (ver, bldO id ver aid aver u l)) (ha : hget H aid = some (aver, bytO l)) (hfit : fits 1 (l.length + 1))
    (hK : ∀ av, K (.v .nilIface) ((id, ver, bldO id ver aid av true (l ++ [c])) :: (aid, av, bytO (l ++ [c])) :: H)) : ACall Tryz.prog 61 [.ptr id ver 0, .int .u8 (c.toNat : Int)] H K := by
  refine ACall.of_body Tryz.func61 rfl rfl (Nat.le_of_ble_eq_true rfl) ?_
  unfold Tryz.f61
  dsimp only [enumS, Nat.reduceAdd]
  refine AW.rgs rfl fun K1 hK1 => ?_
  refine mv rfl rfl ?_
  refine b_nil (hK1 _ (AW.to (to_le (s' := ⟨[(0, .ptr id ver 0), (1, .int .u8 (c.toNat : Int))], H⟩) (le_slH ⟨rfl, rfl, trivial⟩) ?_)))
  clear hK1 K1
  refine AW.rgs rfl fun K1 hK1 => ?_
  refine mv rfl rfl ?_
  refine b_op rfl (o_callA rfl rfl rfl rfl (c_copyCheck hg ?_))
  refine b_nil (hK1 _ (AW.to (to_le (s' := ⟨[(0, .ptr id ver 0), (1, .int .u8 (c.toNat : Int))], (id, ver, .arr 2 86 [.ptr id ver 0, .ar aid aver 1 0 l.length]) :: H⟩) (le_slH ⟨rfl, rfl, trivial⟩) ?_)))
  clear hK1 K1
  have ha1 : hget ((id, ver, AObj.arr 2 86 [.ptr id ver 0, .ar aid aver 1 0 l.length]) :: H) aid = some (aver, .arr eByte.k 5 (eByte.E l)) := hget_1 hid ha
  refine AW.rgs rfl fun K1 hK1 => ?_
  refine mv rfl rfl ?_
  refine mv rfl rfl ?_
  refine bv rfl (v_nilP rfl hget_0) ?_
  refine bv rfl (v_fieldAddrP fo86_1 rfl hget_0) ?_
  refine bv rfl (v_loadP ty84 rfl hget_0 (l_lit rfl rfl)) ?_
  refine mv rfl rfl ?_
  refine b_op rfl (o_bsl rfl rfl (as_of (cs := [HV.int .u8 (c.toNat : Int)]) ty84 ty5 rfl rfl rfl rfl rfl) ?_)
  refine b_op rfl (o_appE eByte (l := l) (m := [c]) rfl rfl ty84 ty84 ty5 rfl ha1 rfl rfl rfl hfit (fun av => ?_))
  refine bv rfl (v_nilP rfl (hget_1 (fun e => hid e.symm) hget_0)) ?_
  refine bv rfl (v_fieldAddrP fo86_1 rfl (hget_1 (fun e => hid e.symm) hget_0)) ?_
  refine b_op rfl (o_store (cs := [.ar aid av 1 0 (l ++ [c]).length]) (zs := [.ptr id ver 0, .ar aid av 1 0 (l ++ [c]).length]) rfl rfl rfl ty84 rfl (hget_1 (fun e => hid e.symm) hget_0) rfl rfl rfl ?_)
  refine b_nil (hK1 _ (AW.to (to_le (s' := ⟨[], (id, ver, .arr 2 86 [.ptr id ver 0, .ar aid av 1 0 (l ++ [c]).length]) :: (aid, av, .arr 1 5 (eByte.E (l ++ [c]))) :: H⟩) ⟨leS_get trivial, fun j x hx => ?_⟩ ?_)))
  · simp only [hget] at hx ⊢
    by_cases h1 : j = id
    · subst h1; simpa using hx
    · rw [if_neg h1] at hx ⊢
      by_cases h2 : j = aid
      · rw [if_pos h2] at hx ⊢; exact hx
      · rw [if_neg h2] at hx
        rw [if_neg h2, if_neg h1]
        exact hx
  clear hK1 K1
  refine AW.rgs rfl fun K1 hK1 => ?_
  refine mv rfl rfl ?_
  refine b_nil (hK1 _ (AW.to (to_le (s' := ⟨[(4, .v .nilIface)], (id, ver, .arr 2 86 [.ptr id ver 0, .ar aid av 1 0 (l ++ [c]).length]) :: (aid, av, .arr 1 5 (eByte.E (l ++ [c]))) :: H⟩) (le_slH ⟨rfl, trivial⟩) ?_)))
  clear hK1 K1
  refine AW.ret ⟨.inr rfl, ?_⟩
  simp only [go_sem]
  exact ⟨_, _, Conv.refl _ _, hK av⟩
end Go.AW

/- What grows: the first letter, step by step. -/
namespace Go.AW
open Go
section
variable {f : TStateReadBadLeft → Bool} {stp : TStateReadBadLeft → TFromLabelTo → TStateReadBadLeft} {lv : Int → List TFromLabelTo} {now : List TStateReadBadLeft}
theorem firstA_none {l : List Int} (h : ∀ b ∈ l, aft f stp lv now b = []) : firstA f stp lv now l = none := by
  induction l with
  | nil => rfl
  | cons a l ih =>
    unfold firstA
    rw [if_neg (fun hn => hn (h a (List.mem_cons_self ..))), ih fun b hb => h b (List.mem_cons_of_mem _ hb)]
theorem firstA_at {a : Nat} (ha : aft f stp lv now (a : Int) ≠ []) : ∀ (k s : Nat), s ≤ a → a < s + k → (∀ b : Nat, s ≤ b → b < a → aft f stp lv now (b : Int) = []) → firstA f stp lv now ((List.range' s k).map Int.ofNat) = some ((a : Int), aft f stp lv now (a : Int))
  | 0, s, h1, h2, _ => by omega
  | k + 1, s, h1, h2, h => by
    rw [List.range'_succ, List.map_cons]
    unfold firstA
    by_cases e : s = a
    · subst e
      exact if_pos ha
    · rw [if_neg (fun hn => hn (h s (Nat.le_refl _) (by omega)))]
      exact firstA_at ha k (s + 1) (by omega) (by omega) fun b hb hb2 => h b (by omega) hb2
theorem growF_none {L : Int} {n : Nat} (h : ∀ b : Nat, b < L.toNat → aft f stp lv now (b : Int) = []) : growF f stp lv L n now = [] := by
  cases n with
  | zero => rfl
  | succ n =>
    unfold growF
    rw [firstA_none (l := (List.range L.toNat).map Int.ofNat)]
    intro b hb
    obtain ⟨k, hk, rfl⟩ := List.mem_map.1 hb
    exact h k (List.mem_range.1 hk)
theorem growF_some {L : Int} {n a : Nat} (hl : a < L.toNat) (ha : aft f stp lv now (a : Int) ≠ []) (h : ∀ b : Nat, b < a → aft f stp lv now (b : Int) = []) : growF f stp lv L (n + 1) now = letB (a : Int) :: growF f stp lv L n (aft f stp lv now (a : Int)) := by
  conv => lhs; unfold growF
  rw [List.range_eq_range', firstA_at ha L.toNat 0 (Nat.zero_le _) (by omega) fun b _ hb => h b hb]
theorem aftP_take {a : Int} {p : TStateReadBadLeft} {l : List TFromLabelTo} {j : Nat} (hj : j < l.length) {acc0 : List TStateReadBadLeft} : (l.take (j + 1)).foldl (aft1 f stp a p) acc0 = aft1 f stp a p ((l.take j).foldl (aft1 f stp a p) acc0) l[j] := by
  rw [← List.take_append_getElem hj, List.foldl_append]; rfl
theorem aft_take {a : Int} {i : Nat} (hi : i < now.length) : (now.take (i + 1)).foldl (aftP f stp lv a) [] = aftP f stp lv a ((now.take i).foldl (aftP f stp lv a) []) now[i] := by
  rw [← List.take_append_getElem hi, List.foldl_append]; rfl
end
end Go.AW

/- syncmark.bad$1: a word grows letter by letter; the closure calls itself. -/
namespace Go.AW
open Go Go.Proofs
set_option linter.unusedVariables false
abbrev ePl : EncL TPl := eStateReadBadLeft
abbrev gcaps (g : TLabelsStatesEdges) (v8 v9 v12 v13 : Nat) : List HV := [HV.ptr 38009 v9 0, HV.fptr [HV.int .i64 g.1, HV.int .i64 g.2.1, slE eFromLabelTo g.2.2] 0, HV.ptr 38008 v8 0, HV.ptr 38012 v12 0, HV.ptr 38013 v13 0]
abbrev hB (g : TLabelsStatesEdges) (mk : List UInt8) (tb : List Int) (nx : List (List TFromLabelTo)) (mw v8 v9 v12 v13 : Nat) (now : List TPl) (w : List UInt8) (u : Bool) (av : Nat) : Heap :=
  [(38009, v9, .arr 1 79 [slE ePl now]), (38008, v8, .arr 1 77 [SH g mk tb nx mw]), (38012, v12, bldO 38012 v12 38512 av u w), (38512, av, bytO w), (38013, v13, .arr 1 1 [HV.fn (.func 59) [] (gcaps g v8 v9 v12 v13)])]
def SOk (acc : List TPl) (es : List (Value × Value)) : Prop := (∀ e ∈ es, ∃ p ∈ acc, e = (plcV p, .bool true)) ∧ ∀ p ∈ acc, (plcV p, .bool true) ∈ es
def AOk (okp : TPl → Prop) (n : Int) (acc : List TPl) : Prop := acc.Nodup ∧ ∀ p ∈ acc, okp p ∧ p.2.2.2 = n
section
variable {g : TLabelsStatesEdges} {mk : List UInt8} {tb : List Int} {nx : List (List TFromLabelTo)} {mw : Nat} {f : TPl → Bool} {stp : TPl → TFromLabelTo → TPl} {lv : Int → List TFromLabelTo} {okp : TPl → Prop}
theorem SOk.lits {s : TGMarkTableNextMemo} (C : CanSpec s f stp lv okp) {acc : List TPl} {es : List (Value × Value)} {n : Int} (h : SOk acc es) (ha : AOk okp n acc) : ∀ e ∈ es, ∃ l, keyOf Tryz.prog 81 e.1 = some l := fun e he => by
  obtain ⟨p, hp, rfl⟩ := h.1 e he
  exact (plc_kv (C.rng p (ha.2 p hp).1).1).lit
theorem SOk.put {acc : List TPl} {es es' : List (Value × Value)} {q : TPl} (h : SOk acc es) (hk : KPut es es' (plcV q) (.bool true)) : SOk (acc ++ [q]) es' := by
  refine ⟨fun e he => ?_, fun p hp => ?_⟩
  · rcases hk.old e he with h1 | h1
    · obtain ⟨p, hp, e1⟩ := h.1 e h1
      exact ⟨p, List.mem_append_left _ hp, e1⟩
    · exact ⟨q, by simp, h1⟩
  · rcases List.mem_append.1 hp with h1 | h1
    · by_cases e : p = q
      · subst e; exact hk.new
      · exact hk.keep _ (h.2 p h1) fun e2 => e (plcV_inj e2)
    · rw [List.mem_singleton.1 h1]
      exact hk.new

set_option maxHeartbeats 16000000 in
set_option maxRecDepth 100000 in
theorem grow_call (C : CanSpec (sr g mk tb nx mw) f stp lv okp) (hL : 0 ≤ g.1 ∧ g.1 ≤ 16) {v8 v9 v12 v13 : Nat} : ∀ (n : Nat) (now : List TPl) (es : List (Value × Value)) (w : List UInt8) (u : Bool) (av : Nat), AOk okp (n : Int) now → now ≠ [] → w.length + n ≤ 1000000 → MOk f okp es →
    ACall Tryz.prog 59 (gcaps g v8 v9 v12 v13) ((57015, mw, .kmap es) :: hB g mk tb nx mw v8 v9 v12 v13 now w u av) (fun r H' => r = HV.tup [] ∧ ∃ u' av', ∀ j x, hget [(38012, v12, bldO 38012 v12 38512 av' u' (w ++ growF f stp lv g.1 n now)), (38512, av', bytO (w ++ growF f stp lv g.1 n now))] j = some x → hget H' j = some x) := by
  intro n
  induction n using Nat.strongRecOn with
  | _ n ih =>
    intro now es w u av hnow hne hwl hm
    obtain ⟨Ln, hLn⟩ := Int.eq_ofNat_of_zero_le hL.1
    have hnl : now.length ≤ 1000000 := C.bnd now n hnow.1 hnow.2
    refine ACall.of_body Tryz.func59 rfl rfl (Nat.le_of_ble_eq_true rfl) ?_
    unfold Tryz.f59
    dsimp only [enumS, Nat.reduceAdd]
    obtain ⟨p0, hp0, hp0m⟩ : ∃ p0, idx now 0 = some p0 ∧ p0 ∈ now := by
      cases now with
      | nil => exact absurd rfl hne
      | cons a l => exact ⟨a, rfl, List.mem_cons_self ..⟩
    have hp0n := (hnow.2 p0 hp0m).2
    refine AW.seq ?_
    refine AW.rgs rfl fun K hK => ?_
    refine bv rfl (v_loadP ty79 rfl rfl (l_lit rfl rfl)) ?_
    refine bv rfl (v_idxF ty79 es79 rfl rfl (idx_lt hp0)) ?_
    refine bv rfl (v_fieldAddrF fo81_3 rfl) ?_
    refine bv rfl (v_loadF ty3 rfl (l_cell ePl hp0 (o := 3) rfl rfl)) ?_
    refine bv rfl (v_bin rfl rfl b_eql) ?_
    refine b_nil (hK _ (AW.to (to_le (s' := ⟨[(0, HV.ptr 38009 v9 0), (1, HV.fptr [HV.int .i64 g.1, HV.int .i64 g.2.1, slE eFromLabelTo g.2.2] 0), (2, HV.ptr 38008 v8 0), (3, HV.ptr 38012 v12 0), (4, HV.ptr 38013 v13 0), (17, HV.bool (decide (p0.2.2.2 = 0)))], (57015, mw, .kmap es) :: hB g mk tb nx mw v8 v9 v12 v13 now w u av⟩) ⟨leS_get ⟨rfl, rfl, rfl, rfl, rfl, rfl, trivial⟩, fun _ _ h => h⟩ ?_)))
    clear hK K
    refine AW.cond rfl (fun hc => ?_) (fun hc => ?_)
    · have hc := of_decide_eq_true hc
      have hn0 : n = 0 := by omega
      subst hn0
      refine AW.ret ?_
      exact ret_A (hs := []) (.inr rfl) (res0 rfl) rfl ⟨rfl, u, av, fun j x hx => leH_get (l' := [(38012, v12, bldO 38012 v12 38512 av u w), (38512, av, bytO w)]) ⟨rfl, rfl, trivial⟩ j x (by rw [show w ++ growF f stp lv g.1 0 now = w from List.append_nil w] at hx; exact hx)⟩
    have hc := of_decide_eq_false hc
    have hn1 : 0 < n := by omega
    obtain ⟨m, rfl⟩ : ∃ m, n = m + 1 := ⟨n - 1, by omega⟩
    have hleft : ∀ p ∈ now, p.2.2.2 ≠ 0 := fun p hp => by have := (hnow.2 p hp).2; omega
    refine AW.skip ?_
    refine AW.rgs rfl fun K hK => ?_
    refine bv rfl (v_fieldAddrF fo24_0 rfl) ?_
    refine bv rfl (v_loadF ty3 rfl (l_lit rfl rfl)) ?_
    refine mv rfl rfl ?_
    refine b_nil (hK _ (AW.to (to_le (s' := ⟨[(0, HV.ptr 38009 v9 0), (1, HV.fptr [HV.int .i64 g.1, HV.int .i64 g.2.1, slE eFromLabelTo g.2.2] 0), (2, HV.ptr 38008 v8 0), (3, HV.ptr 38012 v12 0), (4, HV.ptr 38013 v13 0), (19, HV.int .i64 g.1), (20, HV.int .i64 0)], (57015, mw, .kmap es) :: hB g mk tb nx mw v8 v9 v12 v13 now w u av⟩) ⟨leS_get ⟨rfl, rfl, rfl, rfl, rfl, rfl, rfl, trivial⟩, fun _ _ h => h⟩ ?_)))
    clear hK K
    refine AW.block ?_
    refine AW.loopS (fun s : Nat × List (Value × Value) => ⟨[(0, HV.ptr 38009 v9 0), (1, HV.fptr [HV.int .i64 g.1, HV.int .i64 g.2.1, slE eFromLabelTo g.2.2] 0), (2, HV.ptr 38008 v8 0), (3, HV.ptr 38012 v12 0), (4, HV.ptr 38013 v13 0), (19, HV.int .i64 g.1), (20, HV.int .i64 (s.1 : Int))], (57015, mw, .kmap s.2) :: hB g mk tb nx mw v8 v9 v12 v13 now w u av⟩)
      (fun s => s.1 ≤ Ln ∧ MOk f okp s.2 ∧ ∀ b : Nat, b < s.1 → aft f stp lv now (b : Int) = []) (fun s => Ln - s.1) (0, es) (AS.le_refl _) ⟨Nat.zero_le _, hm, fun b hb => by cases hb⟩ ?_
    clear hm es
    rintro ⟨a, es⟩ ⟨ha, hm, hnone⟩
    simp only at ha hm hnone ⊢
    refine AW.rgs rfl fun K hK => ?_
    refine bv rfl (v_bin rfl rfl b_lss) ?_
    refine b_nil (hK _ (AW.to (to_le (s' := ⟨[(0, HV.ptr 38009 v9 0), (1, HV.fptr [HV.int .i64 g.1, HV.int .i64 g.2.1, slE eFromLabelTo g.2.2] 0), (2, HV.ptr 38008 v8 0), (3, HV.ptr 38012 v12 0), (4, HV.ptr 38013 v13 0), (19, HV.int .i64 g.1), (20, HV.int .i64 (a : Int)), (21, HV.bool (decide ((a : Int) < g.1)))], (57015, mw, .kmap es) :: hB g mk tb nx mw v8 v9 v12 v13 now w u av⟩) ⟨leS_get ⟨rfl, rfl, rfl, rfl, rfl, rfl, rfl, rfl, trivial⟩, fun _ _ h => h⟩ ?_)))
    clear hK K
    refine AW.cseq rfl (fun hc => ?_) (fun hc => ?_)
    · have hc := of_decide_eq_true hc
      have haL : a < Ln := by omega
      have hwa : IntKind.wrap .i64 ((a : Int) + 1) = ((a + 1 : Nat) : Int) := by rw [w64 (by omega) (by omega)]; omega
      refine AW.skip ?_
      refine AW.seq (AW.block ?_)
      refine AW.rgs rfl fun K hK => ?_
      refine mv rfl rfl ?_
      refine mv rfl rfl ?_
      refine b_nil (hK _ (AW.to (to_le (s' := ⟨[(0, HV.ptr 38009 v9 0), (1, HV.fptr [HV.int .i64 g.1, HV.int .i64 g.2.1, slE eFromLabelTo g.2.2] 0), (2, HV.ptr 38008 v8 0), (3, HV.ptr 38012 v12 0), (4, HV.ptr 38013 v13 0), (5, HV.int .i64 (a : Int)), (19, HV.int .i64 g.1), (20, HV.int .i64 (a : Int))], (57015, mw, .kmap es) :: hB g mk tb nx mw v8 v9 v12 v13 now w u av⟩) ⟨leS_get ⟨rfl, rfl, rfl, rfl, rfl, rfl, rfl, rfl, trivial⟩, fun _ _ h => h⟩ ?_)))
      clear hK K
      refine AW.rgs rfl fun K hK => ?_
      refine mv rfl rfl ?_
      refine b_nil (hK _ (AW.to (to_le (s' := ⟨[(0, HV.ptr 38009 v9 0), (1, HV.fptr [HV.int .i64 g.1, HV.int .i64 g.2.1, slE eFromLabelTo g.2.2] 0), (2, HV.ptr 38008 v8 0), (3, HV.ptr 38012 v12 0), (4, HV.ptr 38013 v13 0), (5, HV.int .i64 (a : Int)), (6, HV.v (.slice none 0 0)), (19, HV.int .i64 g.1), (20, HV.int .i64 (a : Int))], (57015, mw, .kmap es) :: hB g mk tb nx mw v8 v9 v12 v13 now w u av⟩) ⟨leS_get ⟨rfl, rfl, rfl, rfl, rfl, rfl, rfl, rfl, rfl, trivial⟩, fun _ _ h => h⟩ ?_)))
      clear hK K
      refine AW.to (to_own 59006 6 4 81 rfl fun vA => ?_)
      refine AW.to (to_le (s' := ⟨[(0, HV.ptr 38009 v9 0), (1, HV.fptr [HV.int .i64 g.1, HV.int .i64 g.2.1, slE eFromLabelTo g.2.2] 0), (2, HV.ptr 38008 v8 0), (3, HV.ptr 38012 v12 0), (4, HV.ptr 38013 v13 0), (5, HV.int .i64 (a : Int)), (6, HV.ar 59006 vA 4 0 0), (19, HV.int .i64 g.1), (20, HV.int .i64 (a : Int))], (57015, mw, .kmap es) :: (59006, vA, .arr 4 81 (ePl.E [])) :: hB g mk tb nx mw v8 v9 v12 v13 now w u av⟩) ⟨leS_get ⟨rfl, rfl, rfl, rfl, rfl, rfl, rfl, rfl, rfl, trivial⟩, leH_get ⟨rfl, rfl, rfl, rfl, rfl, rfl, rfl, trivial⟩⟩ ?_)
      refine AW.rgs rfl fun K hK => ?_
      refine b_op rfl (o_makeMap (fid := 59) HV.bool 59023 rfl rfl (fun vM => ?_))
      refine mv rfl rfl ?_
      refine b_nil (hK _ (AW.to (to_bind (to_kmap (id := 59023) (ver := vM) rfl (to_le (s' := ⟨[(0, HV.ptr 38009 v9 0), (1, HV.fptr [HV.int .i64 g.1, HV.int .i64 g.2.1, slE eFromLabelTo g.2.2] 0), (2, HV.ptr 38008 v8 0), (3, HV.ptr 38012 v12 0), (4, HV.ptr 38013 v13 0), (5, HV.int .i64 (a : Int)), (6, HV.ar 59006 vA 4 0 0), (7, HV.mp 59023 vM), (19, HV.int .i64 g.1), (20, HV.int .i64 (a : Int))], (57015, mw, .kmap es) :: (59023, vM, .kmap []) :: (59006, vA, .arr 4 81 (ePl.E [])) :: hB g mk tb nx mw v8 v9 v12 v13 now w u av⟩) ⟨leS_get ⟨rfl, rfl, rfl, rfl, rfl, rfl, rfl, rfl, rfl, rfl, trivial⟩, leH_get ⟨rfl, rfl, rfl, rfl, rfl, rfl, rfl, rfl, trivial⟩⟩ ?_)))))
      clear hK K
      refine AW.seq ?_
      refine AW.conseq (Q' := fun e s1 => e = .normal ∧ ∃ es' vA', MOk f okp es' ∧ AOk okp (m : Int) (aft f stp lv now (a : Int)) ∧ s1.le ⟨[(0, HV.ptr 38009 v9 0), (1, HV.fptr [HV.int .i64 g.1, HV.int .i64 g.2.1, slE eFromLabelTo g.2.2] 0), (2, HV.ptr 38008 v8 0), (3, HV.ptr 38012 v12 0), (4, HV.ptr 38013 v13 0), (5, HV.int .i64 (a : Int)), (6, HV.ar 59006 vA' 4 0 (aft f stp lv now (a : Int)).length), (19, HV.int .i64 g.1), (20, HV.int .i64 (a : Int))], (57015, mw, .kmap es') :: (59006, vA', .arr 4 81 (ePl.E (aft f stp lv now (a : Int)))) :: hB g mk tb nx mw v8 v9 v12 v13 now w u av⟩) ?_ ?_
      rotate_left
      · rintro e s1 ⟨rfl, es2, vA2, hm2, haok, hle⟩
        refine ⟨_, hle, ?_⟩
        generalize hAF : (aft f stp lv now (a : Int)) = AF at haok
        have hal : AF.length ≤ 1000000 := C.bnd AF m haok.1 haok.2
        refine AW.rgs rfl fun K hK => ?_
        refine mv rfl rfl ?_
        refine bv rfl (v_lenA rfl rfl ty79 rfl rfl) ?_
        refine bv rfl (v_bin rfl rfl b_gtr) ?_
        refine b_nil (hK _ (AW.to (to_le (s' := ⟨[(0, HV.ptr 38009 v9 0), (1, HV.fptr [HV.int .i64 g.1, HV.int .i64 g.2.1, slE eFromLabelTo g.2.2] 0), (2, HV.ptr 38008 v8 0), (3, HV.ptr 38012 v12 0), (4, HV.ptr 38013 v13 0), (5, HV.int .i64 (a : Int)), (6, HV.ar 59006 vA2 4 0 AF.length), (19, HV.int .i64 g.1), (20, HV.int .i64 (a : Int)), (70, HV.bool (decide ((0 : Int) < ((AF.length : Nat) : Int))))], (57015, mw, .kmap es2) :: (59006, vA2, .arr 4 81 (ePl.E AF)) :: hB g mk tb nx mw v8 v9 v12 v13 now w u av⟩) ⟨leS_get ⟨rfl, rfl, rfl, rfl, rfl, rfl, rfl, rfl, rfl, rfl, trivial⟩, fun _ _ h => h⟩ ?_)))
        clear hK K
        refine AW.cond rfl (fun hc => ?_) (fun hc => ?_)
        · have hc := of_decide_eq_true hc
          have hAne : AF ≠ [] := by rintro rfl; simp at hc
          have hgr : growF f stp lv g.1 (m + 1) now = letB (a : Int) :: growF f stp lv g.1 m AF := by
            rw [← hAF]
            exact growF_some (by omega) (by rw [hAF]; exact hAne) hnone
          have hlet : idx ([48, 49, 50, 51, 52, 53, 54, 55, 56, 57, 97, 98, 99, 100, 101, 102] : List UInt8) (a : Int) = some (letB (a : Int)) := by
            show idx letters (a : Int) = _
            have h16 : a < letters.length := by show a < 16; omega
            rw [idx_nat, List.getElem?_eq_getElem h16]
            unfold letB
            rw [Int.toNat_natCast, List.getD_eq_getElem?_getD, List.getElem?_eq_getElem h16]
            rfl
          generalize letB (a : Int) = c at hgr hlet
          refine AW.to (to_frz 2 [(59006, vA2, .arr 4 81 (ePl.E AF))] ⟨[(0, HV.ptr 38009 v9 0), (1, HV.fptr [HV.int .i64 g.1, HV.int .i64 g.2.1, slE eFromLabelTo g.2.2] 0), (2, HV.ptr 38008 v8 0), (3, HV.ptr 38012 v12 0), (4, HV.ptr 38013 v13 0), (5, HV.int .i64 (a : Int)), (6, slE ePl AF), (19, HV.int .i64 g.1), (20, HV.int .i64 (a : Int))], (57015, mw, .kmap es2) :: hB g mk tb nx mw v8 v9 v12 v13 now w u av⟩ ?_ ⟨rfl, rfl, rfl, rfl, rfl, rfl, trivial⟩ ⟨rfl, trivial⟩ ⟨rfl, trivial⟩ ?_)
          · exact ⟨⟨_, rfl, rfl⟩, ⟨_, rfl, rfl⟩, ⟨_, rfl, rfl⟩, ⟨_, rfl, rfl⟩, ⟨_, rfl, rfl⟩, ⟨_, rfl, rfl⟩, ⟨_, rfl, frz_slE ePl (l := AF) rfl fun _ _ => rfl⟩, ⟨_, rfl, rfl⟩, ⟨_, rfl, rfl⟩, trivial⟩
          refine AW.rgs rfl fun K hK => ?_
          refine mv rfl rfl ?_
          refine b_op rfl (o_store (cs := [slE ePl AF]) (zs := [slE ePl AF]) rfl rfl rfl ty79 rfl rfl rfl rfl rfl ?_)
          refine b_nil (hK _ (AW.to (to_le (s' := ⟨[(0, HV.ptr 38009 v9 0), (1, HV.fptr [HV.int .i64 g.1, HV.int .i64 g.2.1, slE eFromLabelTo g.2.2] 0), (2, HV.ptr 38008 v8 0), (3, HV.ptr 38012 v12 0), (4, HV.ptr 38013 v13 0), (5, HV.int .i64 (a : Int)), (19, HV.int .i64 g.1), (20, HV.int .i64 (a : Int))], (57015, mw, .kmap es2) :: hB g mk tb nx mw v8 v9 v12 v13 AF w u av⟩) ⟨leS_get ⟨rfl, rfl, rfl, rfl, rfl, rfl, rfl, rfl, trivial⟩, leH_get ⟨rfl, rfl, rfl, rfl, rfl, rfl, trivial⟩⟩ ?_)))
          clear hK K
          refine AW.rgs rfl fun K hK => ?_
          refine mv rfl rfl ?_
          refine bv rfl (v_idxS ty9 rfl rfl hlet) ?_
          refine b_op rfl (o_callA rfl rfl rfl rfl (c_WriteByte (id := 38012) (ver := v12) (aid := 38512) (aver := av) (u := u) (l := w) (c := c) (by decide) rfl rfl ⟨by omega, by simp only [maxLen]; omega⟩ fun av2 => ?_))
          refine b_nil (hK _ (AW.to (to_le (s' := ⟨[(0, HV.ptr 38009 v9 0), (1, HV.fptr [HV.int .i64 g.1, HV.int .i64 g.2.1, slE eFromLabelTo g.2.2] 0), (2, HV.ptr 38008 v8 0), (3, HV.ptr 38012 v12 0), (4, HV.ptr 38013 v13 0)], (57015, mw, .kmap es2) :: hB g mk tb nx mw v8 v9 v12 v13 AF (w ++ [c]) true av2⟩) ⟨leS_get ⟨rfl, rfl, rfl, rfl, rfl, trivial⟩, leH_get ⟨rfl, rfl, rfl, rfl, rfl, rfl, trivial⟩⟩ ?_)))
          clear hK K
          refine AW.rgs rfl fun K hK => ?_
          refine bv rfl (v_loadP ty1 rfl rfl (l_lit rfl rfl)) ?_
          refine b_op rfl (o_callA rfl rfl rfl rfl ((ih m (by omega) AF es2 (w ++ [c]) true av2 haok hAne (by rw [List.length_append, List.length_singleton]; omega) hm2).mono fun r H' he => ?_))
          obtain ⟨rfl, u3, av3, hle3⟩ := he
          have hww : w ++ growF f stp lv g.1 (m + 1) now = (w ++ [c]) ++ growF f stp lv g.1 m AF := by rw [hgr, List.append_assoc]; rfl
          rw [← hww] at hle3
          refine b_nil (hK _ (AW.to (to_le (s' := ⟨[], [(38012, v12, bldO 38012 v12 38512 av3 u3 (w ++ growF f stp lv g.1 (m + 1) now)), (38512, av3, bytO (w ++ growF f stp lv g.1 (m + 1) now))]⟩) ⟨fun _ _ h => (by cases h), hle3⟩ ?_)))
          clear hK K
          refine AW.ret ?_
          exact ret_A (hs := []) (.inr rfl) (res0 rfl) rfl ⟨rfl, u3, av3, fun _ _ h => h⟩
        · have hc := of_decide_eq_false hc
          have hAe : AF = [] := by
            cases AF with
            | nil => rfl
            | cons x y => exact absurd (by simp only [List.length_cons]; omega) hc
          refine AW.skip ?_
          refine AW.rg rfl fun K hK => ?_
          refine bv rfl (v_bin rfl rfl b_add) ?_
          refine mv rfl rfl ?_
          refine b_nil (hK _ ?_)
          clear hK K
          refine ⟨(a + 1, es2), ⟨by simp only; omega, hm2, fun b hb => ?_⟩, by simp only; omega, ⟨leS_get ⟨rfl, rfl, rfl, rfl, rfl, rfl, by rw [← hwa]; rfl, trivial⟩, leH_get ⟨rfl, rfl, rfl, rfl, rfl, rfl, trivial⟩⟩⟩
          by_cases e : b = a
          · rw [e, hAF]; exact hAe
          · exact hnone b (by simp only at hb; omega)
      refine AW.rgs rfl fun K hK => ?_
      refine bv rfl (v_loadP ty79 rfl rfl (l_lit rfl rfl)) ?_
      refine bv rfl (v_lenF rfl rfl ty79 rfl) ?_
      refine mv rfl rfl ?_
      refine b_nil (hK _ (AW.to (to_le (s' := ⟨[(0, HV.ptr 38009 v9 0), (1, HV.fptr [HV.int .i64 g.1, HV.int .i64 g.2.1, slE eFromLabelTo g.2.2] 0), (2, HV.ptr 38008 v8 0), (3, HV.ptr 38012 v12 0), (4, HV.ptr 38013 v13 0), (5, HV.int .i64 (a : Int)), (6, HV.ar 59006 vA 4 0 0), (7, HV.mp 59023 vM), (19, HV.int .i64 g.1), (20, HV.int .i64 (a : Int)), (24, slE ePl now), (25, HV.int .i64 (now.length : Int)), (26, HV.int .i64 0)], (57015, mw, .kmap es) :: (59023, vM, .kmap []) :: (59006, vA, .arr 4 81 (ePl.E [])) :: hB g mk tb nx mw v8 v9 v12 v13 now w u av⟩) ⟨leS_get ⟨rfl, rfl, rfl, rfl, rfl, rfl, rfl, rfl, rfl, rfl, rfl, rfl, rfl, trivial⟩, fun _ _ h => h⟩ ?_)))
      clear hK K
      refine AW.block ?_
      refine AW.loopS (fun s : Nat × List TPl × List (Value × Value) × List (Value × Value) × Nat => ⟨[(0, HV.ptr 38009 v9 0), (1, HV.fptr [HV.int .i64 g.1, HV.int .i64 g.2.1, slE eFromLabelTo g.2.2] 0), (2, HV.ptr 38008 v8 0), (3, HV.ptr 38012 v12 0), (4, HV.ptr 38013 v13 0), (5, HV.int .i64 (a : Int)), (6, HV.ar 59006 s.2.2.2.2 4 0 s.2.1.length), (7, HV.mp 59023 vM), (19, HV.int .i64 g.1), (20, HV.int .i64 (a : Int)), (24, slE ePl now), (25, HV.int .i64 (now.length : Int)), (26, HV.int .i64 (s.1 : Int))], (57015, mw, .kmap s.2.2.1) :: (59023, vM, .kmap s.2.2.2.1) :: (59006, s.2.2.2.2, .arr 4 81 (ePl.E s.2.1)) :: hB g mk tb nx mw v8 v9 v12 v13 now w u av⟩)
        (fun s => s.1 ≤ now.length ∧ MOk f okp s.2.2.1 ∧ SOk s.2.1 s.2.2.2.1 ∧ AOk okp (m : Int) s.2.1 ∧ s.2.1 = (now.take s.1).foldl (aftP f stp lv (a : Int)) []) (fun s => now.length - s.1) (0, [], es, [], vA) (AS.le_refl _) ⟨Nat.zero_le _, hm, ⟨(fun e he => by cases he), (fun e he => by cases he)⟩, ⟨List.nodup_nil, (fun e he => by cases he)⟩, rfl⟩ ?_
      clear hm vA es
      rintro ⟨i, acc0, es, es2, vA⟩ ⟨hi, hm, hso, hao, hacc⟩
      simp only at hi hm hso hao hacc ⊢
      refine AW.rgs rfl fun K hK => ?_
      refine bv rfl (v_bin rfl rfl b_lss) ?_
      refine b_nil (hK _ (AW.to (to_le (s' := ⟨[(0, HV.ptr 38009 v9 0), (1, HV.fptr [HV.int .i64 g.1, HV.int .i64 g.2.1, slE eFromLabelTo g.2.2] 0), (2, HV.ptr 38008 v8 0), (3, HV.ptr 38012 v12 0), (4, HV.ptr 38013 v13 0), (5, HV.int .i64 (a : Int)), (6, HV.ar 59006 vA 4 0 acc0.length), (7, HV.mp 59023 vM), (19, HV.int .i64 g.1), (20, HV.int .i64 (a : Int)), (24, slE ePl now), (25, HV.int .i64 (now.length : Int)), (26, HV.int .i64 (i : Int)), (27, HV.bool (decide ((i : Int) < (now.length : Int))))], (57015, mw, .kmap es) :: (59023, vM, .kmap es2) :: (59006, vA, .arr 4 81 (ePl.E acc0)) :: hB g mk tb nx mw v8 v9 v12 v13 now w u av⟩) ⟨leS_get ⟨rfl, rfl, rfl, rfl, rfl, rfl, rfl, rfl, rfl, rfl, rfl, rfl, rfl, rfl, trivial⟩, fun _ _ h => h⟩ ?_)))
      clear hK K
      refine AW.cseq rfl (fun hc => ?_) (fun hc => ?_)
      · have hc := of_decide_eq_true hc
        have hil : i < now.length := by omega
        have hwi : IntKind.wrap .i64 ((i : Int) + 1) = ((i + 1 : Nat) : Int) := by rw [w64 (by omega) (by omega)]; omega
        have hpx : idx now (i : Int) = some now[i] := by rw [idx_nat, List.getElem?_eq_getElem hil]
        obtain ⟨hpok, hpl⟩ := hnow.2 now[i] (List.getElem_mem hil)
        have hp1 := hleft now[i] (List.getElem_mem hil)
        have hstep := aft_take (f := f) (stp := stp) (lv := lv) (a := (a : Int)) hil
        rw [← hacc] at hstep
        generalize now[i] = p at hpx hpok hpl hp1 hstep
        obtain ⟨hidx, hll, _, hlx⟩ := C.next p hpok hp1
        have hstep2 : aftP f stp lv (a : Int) acc0 p = (lv p.1).foldl (aft1 f stp (a : Int) p) acc0 := rfl
        rw [hstep2] at hstep
        clear hstep2
        generalize lv p.1 = l at hidx hll hlx hstep
        refine AW.skip ?_
        refine AW.seq (AW.block ?_)
        refine AW.rgs rfl fun K hK => ?_
        refine bv rfl (v_idxF ty79 es79 rfl rfl (idx_lt hpx)) ?_
        refine bv rfl (v_loadF ty81 rfl (l_agg ePl hpx rfl rfl)) ?_
        refine b_op rfl (o_alloc (fid := 59) (zs := [HV.int .i64 0, HV.int .i64 0, HV.bool false, HV.int .i64 0]) 59009 rfl rfl ty81 rfl (fun vP => ?_))
        refine b_op rfl (o_store (cs := cStateReadBadLeft p) (zs := cStateReadBadLeft p) rfl rfl rfl ty81 rfl rfl rfl rfl rfl ?_)
        refine b_nil (hK _ (AW.to (to_le (s' := ⟨[(0, HV.ptr 38009 v9 0), (1, HV.fptr [HV.int .i64 g.1, HV.int .i64 g.2.1, slE eFromLabelTo g.2.2] 0), (2, HV.ptr 38008 v8 0), (3, HV.ptr 38012 v12 0), (4, HV.ptr 38013 v13 0), (5, HV.int .i64 (a : Int)), (6, HV.ar 59006 vA 4 0 acc0.length), (7, HV.mp 59023 vM), (9, HV.ptr 59009 vP 0), (19, HV.int .i64 g.1), (20, HV.int .i64 (a : Int)), (24, slE ePl now), (25, HV.int .i64 (now.length : Int)), (26, HV.int .i64 (i : Int))], (57015, mw, .kmap es) :: (59023, vM, .kmap es2) :: (59006, vA, .arr 4 81 (ePl.E acc0)) :: (59009, vP, .arr 4 81 (cStateReadBadLeft p)) :: hB g mk tb nx mw v8 v9 v12 v13 now w u av⟩) ⟨leS_get ⟨rfl, rfl, rfl, rfl, rfl, rfl, rfl, rfl, rfl, rfl, rfl, rfl, rfl, rfl, trivial⟩, leH_get ⟨rfl, rfl, rfl, rfl, rfl, rfl, rfl, rfl, rfl, trivial⟩⟩ ?_)))
        clear hK K
        refine AW.dgs 10 follows rfl rfl fun K hK => ?_
        refine sv rfl (v_loadP ty77 rfl rfl (l_lit rfl rfl)) ?_
        refine sv rfl (v_nilF rfl) ?_
        refine sv rfl (v_fieldAddrF fo91_3 rfl) ?_
        refine sv rfl (v_loadF ty89 rfl (l_lit rfl rfl)) ?_
        refine sv rfl (v_fieldAddrP fo81_0 rfl rfl) ?_
        refine sv rfl (v_loadP ty3 rfl rfl (l_lit rfl rfl)) ?_
        refine sv rfl (v_idxF ty89 es89 rfl rfl (idx_lt hidx)) ?_
        refine sv rfl (v_loadF ty22 rfl (l_cell (eSl eFromLabelTo) hidx (o := 0) rfl rfl)) ?_
        refine sv rfl (v_lenF rfl rfl ty22 rfl) ?_
        refine sm rfl rfl ?_
        refine s_nil ?_
        refine b_nil (hK _ (AW.to (to_le (s' := ⟨[(0, HV.ptr 38009 v9 0), (1, HV.fptr [HV.int .i64 g.1, HV.int .i64 g.2.1, slE eFromLabelTo g.2.2] 0), (2, HV.ptr 38008 v8 0), (3, HV.ptr 38012 v12 0), (4, HV.ptr 38013 v13 0), (5, HV.int .i64 (a : Int)), (6, HV.ar 59006 vA 4 0 acc0.length), (7, HV.mp 59023 vM), (9, HV.ptr 59009 vP 0), (19, HV.int .i64 g.1), (20, HV.int .i64 (a : Int)), (24, slE ePl now), (25, HV.int .i64 (now.length : Int)), (26, HV.int .i64 (i : Int)), (37, slE eFromLabelTo l), (38, HV.int .i64 (l.length : Int)), (39, HV.int .i64 0)], (57015, mw, .kmap es) :: (59023, vM, .kmap es2) :: (59006, vA, .arr 4 81 (ePl.E acc0)) :: (59009, vP, .arr 4 81 (cStateReadBadLeft p)) :: hB g mk tb nx mw v8 v9 v12 v13 now w u av⟩) ⟨leS_get ⟨rfl, rfl, rfl, rfl, rfl, rfl, rfl, rfl, rfl, rfl, rfl, rfl, rfl, rfl, rfl, rfl, rfl, trivial⟩, fun _ _ h => h⟩ ?_)))
        clear hK K
        refine AW.block ?_
        refine AW.loopS (fun s : Nat × List TPl × List (Value × Value) × List (Value × Value) × Nat => ⟨[(0, HV.ptr 38009 v9 0), (1, HV.fptr [HV.int .i64 g.1, HV.int .i64 g.2.1, slE eFromLabelTo g.2.2] 0), (2, HV.ptr 38008 v8 0), (3, HV.ptr 38012 v12 0), (4, HV.ptr 38013 v13 0), (5, HV.int .i64 (a : Int)), (6, HV.ar 59006 s.2.2.2.2 4 0 s.2.1.length), (7, HV.mp 59023 vM), (9, HV.ptr 59009 vP 0), (19, HV.int .i64 g.1), (20, HV.int .i64 (a : Int)), (24, slE ePl now), (25, HV.int .i64 (now.length : Int)), (26, HV.int .i64 (i : Int)), (37, slE eFromLabelTo l), (38, HV.int .i64 (l.length : Int)), (39, HV.int .i64 (s.1 : Int))], (57015, mw, .kmap s.2.2.1) :: (59023, vM, .kmap s.2.2.2.1) :: (59006, s.2.2.2.2, .arr 4 81 (ePl.E s.2.1)) :: (59009, vP, .arr 4 81 (cStateReadBadLeft p)) :: hB g mk tb nx mw v8 v9 v12 v13 now w u av⟩)
          (fun s => s.1 ≤ l.length ∧ MOk f okp s.2.2.1 ∧ SOk s.2.1 s.2.2.2.1 ∧ AOk okp (m : Int) s.2.1 ∧ s.2.1 = (l.take s.1).foldl (aft1 f stp (a : Int) p) acc0) (fun s => l.length - s.1) (0, acc0, es, es2, vA) (AS.le_refl _) ⟨Nat.zero_le _, hm, hso, hao, rfl⟩ ?_
        clear hm hso hao hacc vA es es2
        rintro ⟨j, acc, es, es2, vA⟩ ⟨hj, hm, hso, hao, hacc⟩
        simp only at hj hm hso hao hacc ⊢
        have hal : acc.length ≤ 1000000 := C.bnd acc m hao.1 hao.2
        refine AW.rgs rfl fun K hK => ?_
        refine bv rfl (v_bin rfl rfl b_lss) ?_
        refine b_nil (hK _ (AW.to (to_le (s' := ⟨[(0, HV.ptr 38009 v9 0), (1, HV.fptr [HV.int .i64 g.1, HV.int .i64 g.2.1, slE eFromLabelTo g.2.2] 0), (2, HV.ptr 38008 v8 0), (3, HV.ptr 38012 v12 0), (4, HV.ptr 38013 v13 0), (5, HV.int .i64 (a : Int)), (6, HV.ar 59006 vA 4 0 acc.length), (7, HV.mp 59023 vM), (9, HV.ptr 59009 vP 0), (19, HV.int .i64 g.1), (20, HV.int .i64 (a : Int)), (24, slE ePl now), (25, HV.int .i64 (now.length : Int)), (26, HV.int .i64 (i : Int)), (37, slE eFromLabelTo l), (38, HV.int .i64 (l.length : Int)), (39, HV.int .i64 (j : Int)), (40, HV.bool (decide ((j : Int) < (l.length : Int))))], (57015, mw, .kmap es) :: (59023, vM, .kmap es2) :: (59006, vA, .arr 4 81 (ePl.E acc)) :: (59009, vP, .arr 4 81 (cStateReadBadLeft p)) :: hB g mk tb nx mw v8 v9 v12 v13 now w u av⟩) ⟨leS_get ⟨rfl, rfl, rfl, rfl, rfl, rfl, rfl, rfl, rfl, rfl, rfl, rfl, rfl, rfl, rfl, rfl, rfl, rfl, trivial⟩, fun _ _ h => h⟩ ?_)))
        clear hK K
        refine AW.cseq rfl (fun hc => ?_) (fun hc => ?_)
        · have hc := of_decide_eq_true hc
          have hjl : j < l.length := by omega
          have hwj : IntKind.wrap .i64 ((j : Int) + 1) = ((j + 1 : Nat) : Int) := by rw [w64 (by omega) (by omega)]; omega
          have hxx : idx l (j : Int) = some l[j] := by rw [idx_nat, List.getElem?_eq_getElem hjl]
          obtain ⟨hst, hqok, hql⟩ := hlx l[j] (List.getElem_mem hjl)
          have hnx := aftP_take (f := f) (stp := stp) (a := (a : Int)) (p := p) hjl (acc0 := acc0)
          rw [← hacc] at hnx
          generalize l[j] = x at hxx hst hqok hql hnx
          have hqm : (stp p x).2.2.2 = (m : Int) := by rw [hql, hpl]; omega
          refine AW.skip ?_
          refine AW.seq (AW.block ?_)
          refine AW.rgs rfl fun K hK => ?_
          refine bv rfl (v_idxF ty22 es22 rfl rfl (idx_lt hxx)) ?_
          refine bv rfl (v_loadF ty44 rfl (l_agg eFromLabelTo hxx rfl rfl)) ?_
          refine b_op rfl (o_alloc (fid := 59) (zs := [HV.int .i64 0, HV.int .i64 0, HV.int .i64 0]) 59011 rfl rfl ty44 rfl (fun vX => ?_))
          refine b_op rfl (o_store (cs := cFromLabelTo x) (zs := cFromLabelTo x) rfl rfl rfl ty44 rfl rfl rfl rfl rfl ?_)
          refine b_nil (hK _ (AW.to (to_le (s' := ⟨[(0, HV.ptr 38009 v9 0), (1, HV.fptr [HV.int .i64 g.1, HV.int .i64 g.2.1, slE eFromLabelTo g.2.2] 0), (2, HV.ptr 38008 v8 0), (3, HV.ptr 38012 v12 0), (4, HV.ptr 38013 v13 0), (5, HV.int .i64 (a : Int)), (6, HV.ar 59006 vA 4 0 acc.length), (7, HV.mp 59023 vM), (9, HV.ptr 59009 vP 0), (11, HV.ptr 59011 vX 0), (19, HV.int .i64 g.1), (20, HV.int .i64 (a : Int)), (24, slE ePl now), (25, HV.int .i64 (now.length : Int)), (26, HV.int .i64 (i : Int)), (37, slE eFromLabelTo l), (38, HV.int .i64 (l.length : Int)), (39, HV.int .i64 (j : Int))], (59011, vX, .arr 3 44 (cFromLabelTo x)) :: (57015, mw, .kmap es) :: (59023, vM, .kmap es2) :: (59006, vA, .arr 4 81 (ePl.E acc)) :: (59009, vP, .arr 4 81 (cStateReadBadLeft p)) :: hB g mk tb nx mw v8 v9 v12 v13 now w u av⟩) ⟨leS_get ⟨rfl, rfl, rfl, rfl, rfl, rfl, rfl, rfl, rfl, rfl, rfl, rfl, rfl, rfl, rfl, rfl, rfl, rfl, trivial⟩, le_shadow⟩ ?_)))
          clear hK K
          refine AW.seq ?_
          refine AW.rgs rfl fun K hK => ?_
          refine bv rfl (v_fieldAddrP fo44_1 rfl rfl) ?_
          refine bv rfl (v_loadP ty3 rfl rfl (l_lit rfl rfl)) ?_
          refine mv rfl rfl ?_
          refine bv rfl (v_bin rfl rfl b_neq) ?_
          refine b_nil (hK _ (AW.to (to_le (s' := ⟨[(0, HV.ptr 38009 v9 0), (1, HV.fptr [HV.int .i64 g.1, HV.int .i64 g.2.1, slE eFromLabelTo g.2.2] 0), (2, HV.ptr 38008 v8 0), (3, HV.ptr 38012 v12 0), (4, HV.ptr 38013 v13 0), (5, HV.int .i64 (a : Int)), (6, HV.ar 59006 vA 4 0 acc.length), (7, HV.mp 59023 vM), (9, HV.ptr 59009 vP 0), (11, HV.ptr 59011 vX 0), (19, HV.int .i64 g.1), (20, HV.int .i64 (a : Int)), (24, slE ePl now), (25, HV.int .i64 (now.length : Int)), (26, HV.int .i64 (i : Int)), (37, slE eFromLabelTo l), (38, HV.int .i64 (l.length : Int)), (39, HV.int .i64 (j : Int)), (46, HV.bool (decide (x.2.1 ≠ (a : Int))))], (59011, vX, .arr 3 44 (cFromLabelTo x)) :: (57015, mw, .kmap es) :: (59023, vM, .kmap es2) :: (59006, vA, .arr 4 81 (ePl.E acc)) :: (59009, vP, .arr 4 81 (cStateReadBadLeft p)) :: hB g mk tb nx mw v8 v9 v12 v13 now w u av⟩) ⟨leS_get ⟨rfl, rfl, rfl, rfl, rfl, rfl, rfl, rfl, rfl, rfl, rfl, rfl, rfl, rfl, rfl, rfl, rfl, rfl, rfl, trivial⟩, fun _ _ h => h⟩ ?_)))
          clear hK K
          refine AW.cond rfl (fun hc => ?_) (fun hc => ?_)
          · have hc := of_decide_eq_true hc
            have hna : aft1 f stp (a : Int) p acc x = acc := by unfold aft1; rw [if_neg hc]
            refine AW.exit ?_
            refine AW.rg rfl fun K hK => ?_
            refine bv rfl (v_bin rfl rfl b_add) ?_
            refine mv rfl rfl ?_
            refine b_nil (hK _ ?_)
            clear hK K
            exact ⟨(j + 1, acc, es, es2, vA), ⟨by simp only; omega, hm, hso, hao, by simp only; rw [hnx, hna]⟩, by simp only; omega, ⟨leS_get ⟨rfl, rfl, rfl, rfl, rfl, rfl, rfl, rfl, rfl, rfl, rfl, rfl, rfl, rfl, rfl, rfl, by rw [← hwj]; rfl, trivial⟩, leH_get ⟨rfl, rfl, rfl, rfl, rfl, rfl, rfl, rfl, rfl, trivial⟩⟩⟩
          have hc := of_decide_eq_false hc
          have hxa : x.2.1 = (a : Int) := Classical.byContradiction hc
          refine AW.skip ?_
          refine AW.rgs rfl fun K hK => ?_
          refine bv rfl (v_loadP ty77 rfl rfl (l_lit rfl rfl)) ?_
          refine bv rfl (v_loadP ty81 rfl rfl (l_litA rfl (Nat.le_of_ble_eq_true rfl) rfl)) ?_
          refine bv rfl (v_loadP ty44 rfl rfl (l_litA rfl (Nat.le_of_ble_eq_true rfl) rfl)) ?_
          refine b_op rfl (o_call rfl rfl rfl rfl (ACallD.pure0 (w_syncmark_search_step hst)) ?_)
          have hax : aft1 f stp (a : Int) p acc x = if stp p x ∈ acc then acc else if f (stp p x) = true then acc ++ [stp p x] else acc := by unfold aft1; rw [if_pos hxa]
          rw [hax] at hnx
          clear hax
          generalize stp p x = q at hst hqok hql hqm hnx
          refine b_op rfl (o_alloc (fid := 59) (zs := [HV.int .i64 0, HV.int .i64 0, HV.bool false, HV.int .i64 0]) 59012 rfl rfl ty81 rfl (fun vQ => ?_))
          refine b_op rfl (o_store (cs := cStateReadBadLeft q) (zs := cStateReadBadLeft q) rfl rfl rfl ty81 rfl rfl rfl rfl rfl ?_)
          refine b_nil (hK _ (AW.to (to_le (s' := ⟨[(0, HV.ptr 38009 v9 0), (1, HV.fptr [HV.int .i64 g.1, HV.int .i64 g.2.1, slE eFromLabelTo g.2.2] 0), (2, HV.ptr 38008 v8 0), (3, HV.ptr 38012 v12 0), (4, HV.ptr 38013 v13 0), (5, HV.int .i64 (a : Int)), (6, HV.ar 59006 vA 4 0 acc.length), (7, HV.mp 59023 vM), (9, HV.ptr 59009 vP 0), (12, HV.ptr 59012 vQ 0), (19, HV.int .i64 g.1), (20, HV.int .i64 (a : Int)), (24, slE ePl now), (25, HV.int .i64 (now.length : Int)), (26, HV.int .i64 (i : Int)), (37, slE eFromLabelTo l), (38, HV.int .i64 (l.length : Int)), (39, HV.int .i64 (j : Int))], (57015, mw, .kmap es) :: (59012, vQ, .arr 4 81 (cStateReadBadLeft q)) :: (59023, vM, .kmap es2) :: (59006, vA, .arr 4 81 (ePl.E acc)) :: (59009, vP, .arr 4 81 (cStateReadBadLeft p)) :: hB g mk tb nx mw v8 v9 v12 v13 now w u av⟩) ⟨leS_get ⟨rfl, rfl, rfl, rfl, rfl, rfl, rfl, rfl, rfl, rfl, rfl, rfl, rfl, rfl, rfl, rfl, rfl, rfl, trivial⟩, leH_get ⟨rfl, rfl, rfl, rfl, rfl, rfl, rfl, rfl, rfl, rfl, trivial⟩⟩ ?_)))
          clear hK K
          have hni : noIt 57015 ((59012, vQ, .arr 4 81 (cStateReadBadLeft q)) :: (59023, vM, .kmap es2) :: (59006, vA, .arr 4 81 (ePl.E acc)) :: (59009, vP, .arr 4 81 (cStateReadBadLeft p)) :: hB g mk tb nx mw v8 v9 v12 v13 now w u av) := noIt_arr (noIt_km (noIt_arr (noIt_arr (noIt_arr (noIt_arr (noIt_arr (noIt_arr (noIt_arr noIt_nil))))))))
          refine AW.rgs rfl fun K hK => ?_
          refine mv rfl rfl ?_
          refine bv rfl (v_loadP ty81 rfl rfl (l_litA rfl (Nat.le_of_ble_eq_true rfl) rfl)) ?_
          refine b_lookK plcLaw rfl ty87 ty4 rfl rfl rfl (plc_kv (C.rng q hqok).1) rfl (hso.lits C hao) (fun hno => ?_) (fun v hv => ?_)
          rotate_left
          · obtain ⟨q2, hq2, e2⟩ := hso.1 _ hv
            have e3 := congrArg Prod.fst e2
            have e4 := congrArg Prod.snd e2
            simp only at e3 e4
            have hqa : q ∈ acc := by rw [plcV_inj e3]; exact hq2
            subst e4
            refine ⟨HV.bool true, rfl, ?_⟩
            refine bv rfl (v_not rfl) ?_
            refine mv rfl rfl ?_
            refine b_F rfl rfl rfl rfl rfl rfl ?_
            refine b_F rfl rfl rfl rfl rfl rfl ?_
            refine b_F rfl rfl rfl rfl rfl rfl ?_
            refine bv rfl (v_pickF rfl rfl rfl) ?_
            refine b_nil (hK _ (AW.to (to_le (s' := ⟨[(0, HV.ptr 38009 v9 0), (1, HV.fptr [HV.int .i64 g.1, HV.int .i64 g.2.1, slE eFromLabelTo g.2.2] 0), (2, HV.ptr 38008 v8 0), (3, HV.ptr 38012 v12 0), (4, HV.ptr 38013 v13 0), (5, HV.int .i64 (a : Int)), (6, HV.ar 59006 vA 4 0 acc.length), (7, HV.mp 59023 vM), (9, HV.ptr 59009 vP 0), (19, HV.int .i64 g.1), (20, HV.int .i64 (a : Int)), (24, slE ePl now), (25, HV.int .i64 (now.length : Int)), (26, HV.int .i64 (i : Int)), (37, slE eFromLabelTo l), (38, HV.int .i64 (l.length : Int)), (39, HV.int .i64 (j : Int)), (59, HV.bool false)], (57015, mw, .kmap es) :: (59023, vM, .kmap es2) :: (59006, vA, .arr 4 81 (ePl.E acc)) :: (59009, vP, .arr 4 81 (cStateReadBadLeft p)) :: hB g mk tb nx mw v8 v9 v12 v13 now w u av⟩) ⟨leS_get ⟨rfl, rfl, rfl, rfl, rfl, rfl, rfl, rfl, rfl, rfl, rfl, rfl, rfl, rfl, rfl, rfl, rfl, rfl, trivial⟩, leH_get ⟨rfl, rfl, rfl, rfl, rfl, rfl, rfl, rfl, rfl, trivial⟩⟩ ?_)))
            clear hK K
            refine AW.cond rfl (fun hc => by cases hc) (fun _ => ?_)
            refine AW.skip ?_
            refine AW.rg rfl fun K hK => ?_
            refine bv rfl (v_bin rfl rfl b_add) ?_
            refine mv rfl rfl ?_
            refine b_nil (hK _ ?_)
            clear hK K
            exact ⟨(j + 1, acc, es, es2, vA), ⟨by simp only; omega, hm, hso, hao, by simp only; rw [hnx, if_pos hqa]⟩, by simp only; omega, ⟨leS_get ⟨rfl, rfl, rfl, rfl, rfl, rfl, rfl, rfl, rfl, rfl, rfl, rfl, rfl, rfl, rfl, rfl, by rw [← hwj]; rfl, trivial⟩, leH_get ⟨rfl, rfl, rfl, rfl, rfl, rfl, rfl, rfl, rfl, trivial⟩⟩⟩
          have hqa : q ∉ acc := fun h => hno _ (hso.2 q h) rfl
          refine bv rfl (v_not rfl) ?_
          refine mv rfl rfl ?_
          refine b_T rfl rfl rfl rfl rfl (o_val rfl (v_loadP ty77 rfl rfl (l_lit rfl rfl)) ?_)
          refine b_T rfl rfl rfl rfl rfl (o_val rfl (v_loadP ty81 rfl rfl (l_litA rfl (Nat.le_of_ble_eq_true rfl) rfl)) ?_)
          refine b_T rfl rfl rfl rfl rfl (o_callA rfl rfl rfl rfl ((can_call C q.2.2.2.toNat q es ((59012, vQ, .arr 4 81 (cStateReadBadLeft q)) :: (59023, vM, .kmap es2) :: (59006, vA, .arr 4 81 (ePl.E acc)) :: (59009, vP, .arr 4 81 (cStateReadBadLeft p)) :: hB g mk tb nx mw v8 v9 v12 v13 now w u av) hqok rfl hm hni rfl).mono fun r H' he => ?_))
          obtain ⟨rfl, es3, hm3, hle⟩ := he
          refine bv rfl (v_pickT rfl rfl rfl) ?_
          refine b_nil (hK _ (AW.to (to_le (s' := ⟨[(0, HV.ptr 38009 v9 0), (1, HV.fptr [HV.int .i64 g.1, HV.int .i64 g.2.1, slE eFromLabelTo g.2.2] 0), (2, HV.ptr 38008 v8 0), (3, HV.ptr 38012 v12 0), (4, HV.ptr 38013 v13 0), (5, HV.int .i64 (a : Int)), (6, HV.ar 59006 vA 4 0 acc.length), (7, HV.mp 59023 vM), (9, HV.ptr 59009 vP 0), (12, HV.ptr 59012 vQ 0), (19, HV.int .i64 g.1), (20, HV.int .i64 (a : Int)), (24, slE ePl now), (25, HV.int .i64 (now.length : Int)), (26, HV.int .i64 (i : Int)), (37, slE eFromLabelTo l), (38, HV.int .i64 (l.length : Int)), (39, HV.int .i64 (j : Int)), (59, HV.bool (f q))], (57015, mw, .kmap es3) :: (59012, vQ, .arr 4 81 (cStateReadBadLeft q)) :: (59023, vM, .kmap es2) :: (59006, vA, .arr 4 81 (ePl.E acc)) :: (59009, vP, .arr 4 81 (cStateReadBadLeft p)) :: hB g mk tb nx mw v8 v9 v12 v13 now w u av⟩) ⟨leS_get ⟨rfl, rfl, rfl, rfl, rfl, rfl, rfl, rfl, rfl, rfl, rfl, rfl, rfl, rfl, rfl, rfl, rfl, rfl, rfl, trivial⟩, hle⟩ ?_)))
          clear hK K
          refine AW.cond rfl (fun hc => ?_) (fun hc => ?_)
          · refine AW.rgs rfl fun K hK => ?_
            refine mv rfl rfl ?_
            refine bv rfl (v_loadP ty81 rfl rfl (l_litA rfl (Nat.le_of_ble_eq_true rfl) rfl)) ?_
            refine b_setK plcLaw (.inl rfl) ty87 rfl rfl (plc_kv (C.rng q hqok).1) (hv := HV.bool true) (v := .bool true) rfl (fun w μ x h => h) rfl (hso.lits C hao) (noIt_km (noIt_arr (noIt_km (noIt_arr (noIt_arr (noIt_arr (noIt_arr (noIt_arr (noIt_arr (noIt_arr noIt_nil)))))))))) (fun es4 hput => ?_)
            have hso4 := hso.put hput
            refine b_nil (hK _ (AW.to (to_le (s' := ⟨[(0, HV.ptr 38009 v9 0), (1, HV.fptr [HV.int .i64 g.1, HV.int .i64 g.2.1, slE eFromLabelTo g.2.2] 0), (2, HV.ptr 38008 v8 0), (3, HV.ptr 38012 v12 0), (4, HV.ptr 38013 v13 0), (5, HV.int .i64 (a : Int)), (6, HV.ar 59006 vA 4 0 acc.length), (7, HV.mp 59023 vM), (9, HV.ptr 59009 vP 0), (12, HV.ptr 59012 vQ 0), (19, HV.int .i64 g.1), (20, HV.int .i64 (a : Int)), (24, slE ePl now), (25, HV.int .i64 (now.length : Int)), (26, HV.int .i64 (i : Int)), (37, slE eFromLabelTo l), (38, HV.int .i64 (l.length : Int)), (39, HV.int .i64 (j : Int))], (57015, mw, .kmap es3) :: (59012, vQ, .arr 4 81 (cStateReadBadLeft q)) :: (59023, vM, .kmap es4) :: (59006, vA, .arr 4 81 (ePl.E acc)) :: (59009, vP, .arr 4 81 (cStateReadBadLeft p)) :: hB g mk tb nx mw v8 v9 v12 v13 now w u av⟩) ⟨leS_get ⟨rfl, rfl, rfl, rfl, rfl, rfl, rfl, rfl, rfl, rfl, rfl, rfl, rfl, rfl, rfl, rfl, rfl, rfl, trivial⟩, leH_get ⟨rfl, rfl, rfl, rfl, rfl, rfl, rfl, rfl, rfl, rfl, trivial⟩⟩ ?_)))
            clear hK K
            have hao4 : AOk okp (m : Int) (acc ++ [q]) := by
              refine ⟨List.nodup_append.2 ⟨hao.1, by simp, fun y hy z hz e => hqa (by rw [← List.mem_singleton.1 hz, ← e]; exact hy)⟩, fun y hy => ?_⟩
              rcases List.mem_append.1 hy with h | h
              · exact hao.2 y h
              · rw [List.mem_singleton.1 h]; exact ⟨hqok, hqm⟩
            refine AW.rg rfl fun K hK => ?_
            refine mv rfl rfl ?_
            refine bv rfl (v_loadP ty81 rfl rfl (l_litA rfl (Nat.le_of_ble_eq_true rfl) rfl)) ?_
            refine b_op rfl (o_bsl rfl rfl (as_of (cs := cStateReadBadLeft q) ty79 ty81 rfl rfl rfl rfl rfl) ?_)
            refine b_op rfl (o_appE ePl (l := acc) (m := [q]) rfl rfl ty79 ty79 ty81 rfl rfl rfl rfl rfl ⟨by simp only [List.length_singleton]; omega, by simp only [maxLen, List.length_singleton]; omega⟩ (fun vA2 => ?_))
            refine mv rfl rfl ?_
            refine b_nil (hK _ (AW.to (to_le (s' := ⟨[(0, HV.ptr 38009 v9 0), (1, HV.fptr [HV.int .i64 g.1, HV.int .i64 g.2.1, slE eFromLabelTo g.2.2] 0), (2, HV.ptr 38008 v8 0), (3, HV.ptr 38012 v12 0), (4, HV.ptr 38013 v13 0), (5, HV.int .i64 (a : Int)), (6, HV.ar 59006 vA2 4 0 (acc ++ [q]).length), (7, HV.mp 59023 vM), (9, HV.ptr 59009 vP 0), (19, HV.int .i64 g.1), (20, HV.int .i64 (a : Int)), (24, slE ePl now), (25, HV.int .i64 (now.length : Int)), (26, HV.int .i64 (i : Int)), (37, slE eFromLabelTo l), (38, HV.int .i64 (l.length : Int)), (39, HV.int .i64 (j : Int))], (57015, mw, .kmap es3) :: (59023, vM, .kmap es4) :: (59006, vA2, .arr 4 81 (ePl.E (acc ++ [q]))) :: (59009, vP, .arr 4 81 (cStateReadBadLeft p)) :: hB g mk tb nx mw v8 v9 v12 v13 now w u av⟩) ⟨leS_get ⟨rfl, rfl, rfl, rfl, rfl, rfl, rfl, rfl, rfl, rfl, rfl, rfl, rfl, rfl, rfl, rfl, rfl, trivial⟩, leH_get ⟨rfl, rfl, rfl, rfl, rfl, rfl, rfl, rfl, rfl, trivial⟩⟩ ?_)))
            clear hK K
            refine AW.rg rfl fun K hK => ?_
            refine bv rfl (v_bin rfl rfl b_add) ?_
            refine mv rfl rfl ?_
            refine b_nil (hK _ ?_)
            clear hK K
            exact ⟨(j + 1, acc ++ [q], es3, es4, vA2), ⟨by simp only; omega, hm3, hso4, hao4, by simp only; rw [hnx, if_neg hqa, if_pos hc]⟩, by simp only; omega, ⟨leS_get ⟨rfl, rfl, rfl, rfl, rfl, rfl, rfl, rfl, rfl, rfl, rfl, rfl, rfl, rfl, rfl, rfl, by rw [← hwj]; rfl, trivial⟩, leH_get ⟨rfl, rfl, rfl, rfl, rfl, rfl, rfl, rfl, rfl, trivial⟩⟩⟩
          · refine AW.skip ?_
            refine AW.rg rfl fun K hK => ?_
            refine bv rfl (v_bin rfl rfl b_add) ?_
            refine mv rfl rfl ?_
            refine b_nil (hK _ ?_)
            clear hK K
            exact ⟨(j + 1, acc, es3, es2, vA), ⟨by simp only; omega, hm3, hso, hao, by simp only; rw [hnx, if_neg hqa, if_neg (by rw [hc]; decide)]⟩, by simp only; omega, ⟨leS_get ⟨rfl, rfl, rfl, rfl, rfl, rfl, rfl, rfl, rfl, rfl, rfl, rfl, rfl, rfl, rfl, rfl, by rw [← hwj]; rfl, trivial⟩, leH_get ⟨rfl, rfl, rfl, rfl, rfl, rfl, rfl, rfl, rfl, trivial⟩⟩⟩
        have hc := of_decide_eq_false hc
        have hje : j = l.length := by omega
        subst hje
        rw [List.take_length, ← hstep] at hacc
        refine AW.exit ?_
        refine AW.rg rfl fun K hK => ?_
        refine bv rfl (v_bin rfl rfl b_add) ?_
        refine mv rfl rfl ?_
        refine b_nil (hK _ ?_)
        clear hK K
        exact ⟨(i + 1, acc, es, es2, vA), ⟨by simp only; omega, hm, hso, hao, hacc⟩, by simp only; omega, ⟨leS_get ⟨rfl, rfl, rfl, rfl, rfl, rfl, rfl, rfl, rfl, rfl, rfl, rfl, by rw [← hwi]; rfl, trivial⟩, leH_get ⟨rfl, rfl, rfl, rfl, rfl, rfl, rfl, rfl, trivial⟩⟩⟩
      have hc := of_decide_eq_false hc
      have hie : i = now.length := by omega
      subst hie
      rw [List.take_length] at hacc
      have hacc : acc0 = (aft f stp lv now (a : Int)) := hacc
      subst hacc
      refine AW.exit ?_
      exact ⟨rfl, es, vA, hm, hao, ⟨leS_get ⟨rfl, rfl, rfl, rfl, rfl, rfl, rfl, rfl, rfl, trivial⟩, leH_get ⟨rfl, rfl, rfl, rfl, rfl, rfl, rfl, trivial⟩⟩⟩
    have hc := of_decide_eq_false hc
    have hae : a = Ln := by omega
    refine AW.exit ?_
    have hgn : growF f stp lv g.1 (m + 1) now = [] := growF_none fun b hb => hnone b (by omega)
    exact ret_A (hs := []) (.inl rfl) (res0 rfl) rfl ⟨rfl, u, av, fun j x hx => leH_get (l' := [(38012, v12, bldO 38012 v12 38512 av u w), (38512, av, bytO w)]) ⟨rfl, rfl, trivial⟩ j x (by rw [hgn, List.append_nil] at hx; exact hx)⟩
end
end Go.AW

/- A step of a set of states, in the program and in the reference. -/
namespace Go.AW
open Go
set_option linter.unusedSimpArgs false
set_option linter.unusedVariables false

theorem asc_uniq {l m : List Int} (hl : l.Pairwise (· < ·)) (hm : m.Pairwise (· < ·)) (h : ∀ x, x ∈ l ↔ x ∈ m) : l = m := by
  have nl : l.Nodup := hl.imp fun h => Int.ne_of_lt h
  have nm : m.Nodup := hm.imp fun h => Int.ne_of_lt h
  have hp : l.Perm m := (List.perm_ext_iff_of_nodup nl nm).2 h
  exact hp.eq_of_pairwise (fun a b _ _ h1 h2 => by omega) hl hm

theorem sortI_mem {l : List Int} {x : Int} : x ∈ sortI l ↔ x ∈ l := (List.mergeSort_perm l _).mem_iff
theorem sortI_asc (l : List Int) : (sortI l).Pairwise (· ≤ ·) := by
  have := List.pairwise_mergeSort (le := fun x y : Int => decide (x ≤ y)) (fun a b c h1 h2 => by simp at *; omega) (fun a b => by simp; omega) l
  exact this.imp fun h => by simpa using h

theorem keeps_iff (d : Array Int) (j : Nat) : Lib.keeps d j = true ↔ j = 0 ∨ d[j]! ≠ d[j - 1]! := by
  simp [Lib.keeps]

theorem compact_asc {l : List Int} (h : l.Pairwise (· ≤ ·)) : (compact_ l).Pairwise (· < ·) := by
  show (Lib.compactUpTo l.toArray l.length).Pairwise (· < ·)
  unfold Lib.compactUpTo
  rw [List.pairwise_map]
  refine List.Pairwise.imp_of_mem ?_ ((List.pairwise_lt_range (n := l.length)).filter _)
  intro i j hi hj hij
  have hi' := List.mem_range.1 (List.mem_filter.1 hi).1
  have hj' := List.mem_range.1 (List.mem_filter.1 hj).1
  have hk := (keeps_iff _ _).1 (List.mem_filter.1 hj).2
  have e1 : l.toArray[i]! = l[i] := by simp [hi']
  have e2 : l.toArray[j]! = l[j] := by simp [hj']
  have e3 : l.toArray[j - 1]! = l[j - 1]'(by omega) := by simp [show j - 1 < l.length by omega]
  rw [e2, e3] at hk
  rw [e1, e2]
  have hp := List.pairwise_iff_getElem.1 h
  have h1 : l[i] ≤ l[j - 1]'(by omega) := by
    by_cases hie : i = j - 1
    · subst hie; exact Int.le_refl _
    · exact hp i (j - 1) hi' (by omega) (by omega)
  have h2 : l[j - 1]'(by omega) ≤ l[j] := hp (j - 1) j (by omega) hj' (by omega)
  omega

theorem compact_has {l : List Int} {x : Int} (h : x ∈ l) : x ∈ compact_ l := by
  show x ∈ Lib.compactUpTo l.toArray l.length
  unfold Lib.compactUpTo
  obtain ⟨i, hi, rfl⟩ := List.getElem_of_mem h
  obtain ⟨j, ⟨hjl, hj⟩, hmin⟩ := least (fun j => ∃ h : j < l.length, l[j] = l[i]) ⟨i, hi, rfl⟩
  refine List.mem_map.2 ⟨j, List.mem_filter.2 ⟨List.mem_range.2 hjl, (keeps_iff _ _).2 ?_⟩, by simp [hjl, hj]⟩
  by_cases h0 : j = 0
  · exact .inl h0
  · right
    intro he
    have e2 : l.toArray[j]! = l[j] := by simp [hjl]
    have e3 : l.toArray[j - 1]! = l[j - 1]'(by omega) := by simp [show j - 1 < l.length by omega]
    rw [e2, e3] at he
    have := hmin (j - 1) ⟨by omega, by rw [← he, hj]⟩
    omega

theorem compact_sort_mem {l : List Int} {x : Int} : x ∈ compact_ (sortI l) ↔ x ∈ l := ⟨fun h => sortI_mem.1 (compact_mem h), fun h => compact_has (sortI_mem.2 h)⟩

def SetOk (g : Gr) (a : List Int) : Prop := a.Pairwise (· < ·) ∧ ∀ x ∈ a, 0 ≤ x ∧ x < g.2.1

def upto (n : Int) : List Int := (List.range n.toNat).map Int.ofNat
theorem mem_upto {n x : Int} : x ∈ upto n ↔ 0 ≤ x ∧ x < n := by
  simp only [upto, List.mem_map, List.mem_range]
  constructor
  · rintro ⟨i, hi, rfl⟩; simp only [Int.ofNat_eq_natCast]; omega
  · rintro ⟨h0, h1⟩; exact ⟨x.toNat, by omega, by simp only [Int.ofNat_eq_natCast]; omega⟩
theorem upto_asc (n : Int) : (upto n).Pairwise (· < ·) := by
  rw [upto, List.pairwise_map]
  exact (List.pairwise_lt_range (n := n.toNat)).imp fun h => by simp only [Int.ofNat_eq_natCast]; omega
theorem upto_len (n : Int) : (upto n).length = n.toNat := by simp [upto]

def stepL (g : Gr) (a : List Int) (c : Int) : List Int := (upto g.2.1).filter fun t => g.2.2.any fun e => decide (e.2.2 = t ∧ e.2.1 = c ∧ e.1 ∈ a)
theorem mem_stepL {g : Gr} (hv : VG g) {a : List Int} {c t : Int} : t ∈ stepL g a c ↔ ∃ e ∈ g.2.2, e.2.2 = t ∧ e.2.1 = c ∧ e.1 ∈ a := by
  simp only [stepL, List.mem_filter, List.any_eq_true, decide_eq_true_eq, mem_upto]
  constructor
  · rintro ⟨_, h⟩; exact h
  · rintro ⟨e, he, h1, h2, h3⟩
    have := hv.ed e he
    exact ⟨by omega, e, he, h1, h2, h3⟩
theorem stepL_ok (g : Gr) (a : List Int) (c : Int) : SetOk g (stepL g a c) :=
  ⟨(upto_asc _).filter _, fun x hx => mem_upto.1 (List.mem_filter.1 hx).1⟩
theorem upto_ok (g : Gr) : SetOk g (upto g.2.1) := ⟨upto_asc _, fun x hx => mem_upto.1 hx⟩

theorem setOk_len {g : Gr} {a : List Int} (hv : VG g) (h : SetOk g a) : a.length ≤ 64 := by
  have e : a = (upto g.2.1).filter fun x => decide (x ∈ a) := asc_uniq h.1 ((upto_asc _).filter _) fun x => by
    simp only [List.mem_filter, mem_upto, decide_eq_true_eq]
    exact ⟨fun hx => ⟨h.2 x hx, hx⟩, fun hx => hx.2⟩
  rw [e]
  refine Nat.le_trans (List.length_filter_le _ _) ?_
  rw [upto_len]
  have := hv.s1
  omega

theorem checkSet_ok {g : Gr} {a : List Int} (h : SetOk g a) (hm : a.length ≤ 9223372036854775807) : m_graph_checkSet g a = some 0 := by
  unfold m_graph_checkSet
  simp only [jp]
  refine lpL (loop_is (fun i => (i : Int)) a.length (Ou.go ()) (fun i hi => ?_) (by rw [if_neg (not_lt_int _)]) rfl) rfl
  obtain ⟨h0, h1⟩ := h.2 a[i] (List.getElem_mem hi)
  rw [if_pos (lt_int hi), ix hi]
  simp only [Option.bind_some]
  rw [if_neg (by omega)]
  have hd : decide (g.2.1 ≤ a[i]) = false := decide_eq_false (by omega)
  simp only [hd, Bool.false_eq_true, if_false]
  by_cases hz : 0 < i
  · have hlt := List.pairwise_iff_getElem.1 h.1 (i - 1) i (by omega) hi (by omega)
    rw [if_pos (by omega), ix_pred hi hm hz]
    simp only [Option.bind_some]
    have hd2 : decide (a[i] ≤ a[i - 1]'(by omega)) = false := decide_eq_false (by omega)
    simp only [hd2, Bool.false_eq_true, if_false, nx hm hi]
  · rw [if_neg (by omega)]
    simp only [Bool.false_eq_true, if_false, nx hm hi]

def outL (g : Gr) (s c : Int) : List Int := ((leaveL g.2.2 s).filter fun x => decide (x.2.2.1 = c)).map fun x => x.2.2.2
theorem mem_leaveL {es : List Ed} {s : Int} {x : Ed} : (∃ i, (i, x) ∈ leaveL es s) ↔ x ∈ es ∧ x.1 = s := by
  constructor
  · rintro ⟨i, h⟩
    obtain ⟨p, hp, he⟩ := List.mem_map.1 h
    obtain ⟨hp1, hp2⟩ := List.mem_filter.1 hp
    cases he
    exact ⟨List.fst_mem_of_mem_zipIdx hp1, of_decide_eq_true hp2⟩
  · rintro ⟨hm, hs⟩
    obtain ⟨k, hk, rfl⟩ := List.getElem_of_mem hm
    exact ⟨_, List.mem_map.2 ⟨(es[k], k), List.mem_filter.2 ⟨by rw [List.mem_zipIdx_iff_getElem?]; exact List.getElem?_eq_getElem hk, decide_eq_true hs⟩, rfl⟩⟩
theorem mem_outL {g : Gr} {s c t : Int} : t ∈ outL g s c ↔ ∃ e ∈ g.2.2, e.2.2 = t ∧ e.2.1 = c ∧ e.1 = s := by
  simp only [outL, List.mem_map, List.mem_filter, decide_eq_true_eq]
  constructor
  · rintro ⟨⟨i, x⟩, ⟨hm, hc⟩, rfl⟩
    obtain ⟨h1, h2⟩ := mem_leaveL.1 ⟨i, hm⟩
    exact ⟨x, h1, rfl, hc, h2⟩
  · rintro ⟨x, hx, rfl, hc, hs⟩
    obtain ⟨i, hi⟩ := mem_leaveL.2 ⟨hx, hs⟩
    exact ⟨(i, x), ⟨hi, hc⟩, rfl⟩
theorem outL_len (g : Gr) (s c : Int) : (outL g s c).length ≤ g.2.2.length := by
  simp only [outL, leaveL, List.length_map]
  refine Nat.le_trans (List.length_filter_le _ _) ?_
  rw [List.length_map]
  refine Nat.le_trans (List.length_filter_le _ _) ?_
  simp

theorem fold_out (c : Int) : ∀ (L : List (Int × Ed)) (acc : List Int), L.foldl (fun (a : List Int) (x : Int × Ed) => if x.2.2.1 = c then a ++ [x.2.2.2] else a) acc = acc ++ (L.filter fun x => decide (x.2.2.1 = c)).map fun x => x.2.2.2
  | [], acc => by simp
  | x :: L, acc => by
    rw [List.foldl_cons, fold_out c L]
    by_cases h : x.2.2.1 = c
    · rw [if_pos h, List.filter_cons_of_pos (by simpa using h)]; simp
    · rw [if_neg h, List.filter_cons_of_neg (by simpa using h)]

theorem forL_foldI {S α X : Type} {body : S → α → Option (Stp S X)} (f : S → α → S) (P : Nat → S → Prop) : ∀ (L : List α) (s : S) (k : Nat), (∀ i s x, i < L.length → x ∈ L → P (k + i) s → body s x = some (.next (f s x)) ∧ P (k + i + 1) (f s x)) → P k s → forL body L s = some (.go (L.foldl f s))
  | [], _, _, _, _ => rfl
  | x :: L, s, k, h, hs => by
    obtain ⟨h1, h2⟩ := h 0 s x (by simp) (List.mem_cons_self ..) hs
    simp only [forL, h1]
    exact forL_foldI f P L _ (k + 1) (fun i s y hi hy hP => by
      have e : k + 1 + i = k + (i + 1) := by omega
      rw [e] at hP ⊢
      exact h (i + 1) s y (by simp; omega) (List.mem_cons_of_mem _ hy) hP) h2

theorem fits_le {k n : Nat} (h : n * k ≤ 140737488355328) (h2 : n ≤ 1048576) : fits k n := ⟨h, by simp only [maxLen]; omega⟩

theorem Step_eq {g : Gr} (hv : VG g) {a : List Int} (ha : SetOk g a) {c : Int} (h0 : 0 ≤ c) (h1 : c < g.1) : m_graph_Step g a c = some (stepL g a c, 0) := by
  obtain ⟨e, he, hz⟩ := Check_tot g
  have he0 := hz.2 hv
  subst he0
  have hl := setOk_len hv ha
  have hel := hv.el
  unfold m_graph_Step
  rw [Check_ref, he, Option.bind_some, checkSet_ok ha (by omega)]
  simp only [ne_eq, not_true_eq_false, if_false, Option.bind_some, jp]
  rw [if_neg (by omega)]
  have hd : decide (g.1 ≤ c) = false := decide_eq_false (by omega)
  simp only [hd, Bool.false_eq_true, if_false]
  have hy : ∀ x, y_graph_leaving g x = some (leaveL g.2.2 x) := fun x => by unfold y_graph_leaving; rw [if_pos (by omega)]
  have hlen : ∀ i, i ≤ a.length → ((a.take i).flatMap fun s => outL g s c).length ≤ i * 1024 := by
    intro i
    induction i with
    | zero => intro _; simp
    | succ i ih =>
      intro hi
      have := ih (by omega)
      rw [List.take_add_one, List.getElem?_eq_getElem (by omega)]
      simp only [Option.toList_some, List.flatMap_append, List.flatMap_cons, List.flatMap_nil, List.append_nil, List.length_append]
      have h2 := outL_len g a[i] c
      omega
  refine bindL (loop_is (fun i => ((i : Int), (a.take i).flatMap fun s => outL g s c)) a.length (a.flatMap fun s => outL g s c) (fun i hi => ?_) ?_ (by simp)) ?_
  · dsimp only
    rw [if_pos (lt_int hi), ix hi]
    simp only [Option.bind_some, hy]
    have hb := hlen i (by omega)
    have hll : (leaveL g.2.2 a[i]).length ≤ 1024 := by
      simp only [leaveL, List.length_map]
      refine Nat.le_trans (List.length_filter_le _ _) ?_
      simp; omega
    rw [forL_foldI (fun (acc : List Int) (x : Int × Ed) => if x.2.2.1 = c then acc ++ [x.2.2.2] else acc) (fun k s => s.length ≤ i * 1024 + k) _ _ 0 (fun k s x hk hx hP => ?_) (Nat.le_trans hb (Nat.le_add_right _ _))]
    · simp only [lpO, nx (by omega : a.length ≤ _) hi, fold_out, Option.some.injEq, Stp.next.injEq, Prod.mk.injEq, true_and]
      rw [List.take_add_one, List.getElem?_eq_getElem hi]
      simp only [Option.toList_some, List.flatMap_append, List.flatMap_cons, List.flatMap_nil, List.append_nil]
      rfl
    · by_cases hc : x.2.2.1 = c
      · rw [if_pos hc, if_pos hc, if_pos (fits_le (by simp; omega) (by simp; omega))]
        exact ⟨rfl, by simp; omega⟩
      · rw [if_neg hc, if_neg hc]
        exact ⟨rfl, by omega⟩
  · dsimp only
    rw [if_neg (not_lt_int _), List.take_length]
  · have hb := hlen a.length (Nat.le_refl _)
    rw [List.take_length] at hb
    rw [if_pos (by omega)]
    congr 2
    refine asc_uniq (compact_asc (sortI_asc _)) (stepL_ok g a c).1 fun x => ?_
    rw [compact_sort_mem, mem_stepL hv]
    simp only [List.mem_flatMap, mem_outL]
    constructor
    · rintro ⟨s, hs, e, he, h1, h2, rfl⟩; exact ⟨e, he, h1, h2, hs⟩
    · rintro ⟨e, he, h1, h2, hs⟩; exact ⟨_, hs, e, he, h1, h2, rfl⟩
end Go.AW

/- The words of a graph: the reference's lists, and the program's. -/
namespace Go.AW
open Go
set_option linter.unusedSimpArgs false
set_option linter.unusedVariables false

theorem has_eq {l : List Int} (hm : l.length ≤ 9223372036854775807) (n : Int) : m_ref11_has l n = some (decide (n ∈ l)) := by
  unfold m_ref11_has
  refine lpL (loop_any (fun i => (i : Int)) l.length (fun i => decide (l.getD i 0 = n)) (Ou.ret true) (Ou.go ()) (fun i hi => ?_) (by rw [if_neg (not_lt_int _)]) rfl) ?_
  · have e1 : l.getD i 0 = l[i] := by simp [List.getD, hi]
    rw [if_pos (lt_int hi), ix hi]
    simp only [Option.bind_some, nx hm hi, e1, decide_eq_true_eq]
  · by_cases h : n ∈ l
    · obtain ⟨i, hi, he⟩ := List.getElem_of_mem h
      rw [if_pos]
      · simp [lpO, h]
      · exact List.any_eq_true.2 ⟨i, List.mem_range.2 hi, by simp [List.getD, hi, he]⟩
    · rw [if_neg]
      · simp [lpO, h]
      · intro hx
        obtain ⟨i, hi, hp⟩ := List.any_eq_true.1 hx
        have hi := List.mem_range.1 hi
        have e1 : l.getD i 0 = l[i] := by simp [List.getD, hi]
        rw [e1] at hp
        exact h (of_decide_eq_true hp ▸ List.getElem_mem hi)

theorem refStep_eq {g : Gr} (hv : VG g) {a : List Int} (hl : a.length ≤ 9223372036854775807) {c : Int} : m_ref11_Step g a c = some (stepL g a c) := by
  have hel := hv.el
  have hs1 := hv.s1
  have hs0 := hv.s0
  obtain ⟨m, hm⟩ := Int.eq_ofNat_of_zero_le hs0
  have hfl : ∀ i, ((((List.range i).map Int.ofNat).filter fun t => g.2.2.any fun e => decide (e.2.2 = t ∧ e.2.1 = c ∧ e.1 ∈ a)) : List Int).length ≤ i := fun i => Nat.le_trans (List.length_filter_le _ _) (by simp)
  unfold m_ref11_Step
  refine bindL (loop_is (fun i => ((i : Int), ((List.range i).map Int.ofNat).filter fun t => g.2.2.any fun e => decide (e.2.2 = t ∧ e.2.1 = c ∧ e.1 ∈ a))) m (stepL g a c) (fun i hi => ?_) ?_ (by simp)) rfl
  · dsimp only
    rw [if_pos (by omega)]
    simp only [jp]
    have hin : loopW (S := Bool × Int) (X := Bool) (fun a9 =>
              if a9.2 < ((g.2.2).length : Int) then
                (idx g.2.2 a9.2).bind fun x19 =>
                  if x19.2.2 = (i : Int) then
                    (idx g.2.2 a9.2).bind fun x21 =>
                      if x21.2.1 = c then
                        (idx g.2.2 a9.2).bind fun x23 => (m_ref11_has a x23.1).bind fun x25 => if x25 = true then some (Stp.next (true, IntKind.wrap .i64 (a9.2 + 1))) else some (Stp.next (a9.1, IntKind.wrap .i64 (a9.2 + 1)))
                      else if false = true then some (Stp.next (true, IntKind.wrap .i64 (a9.2 + 1))) else some (Stp.next (a9.1, IntKind.wrap .i64 (a9.2 + 1)))
                  else if false = true then some (Stp.next (true, IntKind.wrap .i64 (a9.2 + 1))) else some (Stp.next (a9.1, IntKind.wrap .i64 (a9.2 + 1)))
              else
                some (Stp.exit a9.1)) (false, 0) = some (g.2.2.any fun e => decide (e.2.2 = (i : Int) ∧ e.2.1 = c ∧ e.1 ∈ a)) := by
      refine loop_is (fun k => ((g.2.2.take k).any fun e => decide (e.2.2 = (i : Int) ∧ e.2.1 = c ∧ e.1 ∈ a), (k : Int))) g.2.2.length _ (fun k hk => ?_) ?_ (by simp)
      · dsimp only
        rw [if_pos (lt_int hk), ix hk]
        simp only [Option.bind_some, has_eq hl, nx (by omega : g.2.2.length ≤ _) hk, Bool.false_eq_true, if_false, decide_eq_true_eq]
        have e : (g.2.2.take (k + 1)).any (fun e => decide (e.2.2 = (i : Int) ∧ e.2.1 = c ∧ e.1 ∈ a)) = ((g.2.2.take k).any (fun e => decide (e.2.2 = (i : Int) ∧ e.2.1 = c ∧ e.1 ∈ a)) || decide (g.2.2[k].2.2 = (i : Int) ∧ g.2.2[k].2.1 = c ∧ g.2.2[k].1 ∈ a)) := by
          rw [List.take_add_one, List.getElem?_eq_getElem hk, List.any_append]
          congr 1
          simp
        rw [e]
        by_cases h1 : g.2.2[k].2.2 = (i : Int)
        · by_cases h2 : g.2.2[k].2.1 = c
          · by_cases h3 : g.2.2[k].1 ∈ a
            · simp [h1, h2, h3]
            · simp [h1, h2, h3]
          · simp [h1, h2]
        · simp [h1]
      · dsimp only
        rw [if_neg (not_lt_int _), List.take_length]
    rw [hin]
    simp only [Option.bind_some]
    have er : (List.range (i + 1)).map Int.ofNat = (List.range i).map Int.ofNat ++ [(i : Int)] := by rw [List.range_succ, List.map_append]; rfl
    rw [er, List.filter_append]
    by_cases hb : (g.2.2.any fun e => decide (e.2.2 = (i : Int) ∧ e.2.1 = c ∧ e.1 ∈ a)) = true
    · have := hfl i
      rw [if_pos hb, if_pos (fits_le (by simp only [List.length_cons, List.length_nil]; omega) (by simp only [List.length_cons, List.length_nil]; omega)), nx (by omega : m ≤ _) hi, List.filter_cons_of_pos (by exact hb)]
      rfl
    · rw [if_neg hb, nx (by omega : m ≤ _) hi, List.filter_cons_of_neg (by exact hb)]
      simp
  · dsimp only
    rw [if_neg (by omega)]
    simp only [stepL, upto, hm, Int.toNat_natCast]

theorem All_eq {g : Gr} (hv : VG g) : m_ref11_All g = some (upto g.2.1) := by
  have hs1 := hv.s1
  obtain ⟨m, hm⟩ := Int.eq_ofNat_of_zero_le hv.s0
  unfold m_ref11_All
  refine bindL (loop_is (fun i => ((i : Int), (List.range i).map Int.ofNat)) m (upto g.2.1) (fun i hi => ?_) ?_ (by simp)) rfl
  · dsimp only
    rw [if_pos (by omega), if_pos (fits_le (by simp; omega) (by simp; omega)), nx (by omega : m ≤ _) hi, List.range_succ, List.map_append]
    rfl
  · dsimp only
    rw [if_neg (by omega)]
    simp only [upto, hm, Int.toNat_natCast]
theorem states_eq {g : Gr} (hv : VG g) : m_language_states g = some (upto g.2.1) := by
  have hs1 := hv.s1
  obtain ⟨m, hm⟩ := Int.eq_ofNat_of_zero_le hv.s0
  unfold m_language_states
  rw [if_pos (by omega)]
  simp only [hm, Int.toNat_natCast, List.length_replicate]
  refine bindL (loop_is (fun i => ((i : Int), (List.range i).map Int.ofNat ++ List.replicate (m - i) (0 : Int))) m (upto m) (fun i hi => ?_) ?_ (by simp)) rfl
  · dsimp only
    have hlen : ((List.range i).map Int.ofNat ++ List.replicate (m - i) (0 : Int)).length = m := by simp; omega
    rw [if_pos (lt_int hi), ix (by omega)]
    simp only [Option.bind_some, nx (by omega : m ≤ _) hi, Int.toNat_natCast]
    congr 3
    rw [List.set_append_right _ _ (by simp), List.range_succ, List.map_append]
    have e : m - i = (m - (i + 1)) + 1 := by omega
    simp only [List.length_map, List.length_range, Nat.sub_self, e, List.replicate_succ, List.set_cons_zero]
    simp
  · dsimp only
    rw [if_neg (not_lt_int _)]
    simp [upto]
end Go.AW

/- The words of a length: the program's list, the reference's list, and their order. -/
namespace Go.AW
open Go
set_option linter.unusedSimpArgs false
set_option linter.unusedVariables false

theorem letters_len : letters.length = 16 := rfl
theorem idx_letter {i : Nat} (h : i < letters.length) : Lib.indexByte letters letters[i] = (i : Int) := by
  have : ∀ j : Fin 16, Lib.indexByte letters (letters[j.1]'j.2) = (j.1 : Int) := by decide
  exact this ⟨i, h⟩
theorem byte_back (c : UInt8) : ((c.toNat : Int).toNat.toUInt8) = c := by simp

def lets (g : Gr) : List UInt8 := letters.take g.1.toNat

section
variable {g : Gr}
theorem lets_len (hv : VG g) (h16 : g.1 ≤ 16) : (lets g).length = g.1.toNat := by
  have := hv.l1
  rw [lets, List.length_take, letters_len]; omega
theorem lstep_eq (hv : VG g) {a : List Int} (ha : SetOk g a) {i : Nat} (h : i < letters.length) (hi : (i : Int) < g.1) : m_language_step g a ((letters[i]).toNat : Int) = some (stepL g a i) := by
  unfold m_language_step m_strings_IndexByte
  simp only [byte_back, Option.bind_some]
  have e : Lib.indexByte [48, 49, 50, 51, 52, 53, 54, 55, 56, 57, 97, 98, 99, 100, 101, 102] letters[i] = (i : Int) := idx_letter h
  rw [e, Step_eq hv ha (by omega) hi]
  rfl
theorem stpM_eq (hv : VG g) {a : List Int} (ha : SetOk g a) {i : Nat} (h : i < letters.length) (hi : (i : Int) < g.1) : stpM g a letters[i] = stepL g a i := by
  unfold stpM; rw [lstep_eq hv ha h hi]; rfl
theorem mem_lets {c : UInt8} (h : c ∈ letters.take g.1.toNat) : ∃ (i : Nat) (hi : i < letters.length), (i : Int) < g.1 ∧ letters[i] = c := by
  obtain ⟨i, hi, rfl⟩ := List.mem_take_iff_getElem.1 h
  have h1 : i < g.1.toNat := by omega
  exact ⟨i, by omega, by omega, rfl⟩
theorem stpM_ok (hv : VG g) {a : List Int} {c : UInt8} (ha : SetOk g a) (hc : c ∈ letters.take g.1.toNat) : SetOk g (stpM g a c) := by
  obtain ⟨i, hi, hg, rfl⟩ := mem_lets hc
  rw [stpM_eq hv ha hi hg]
  exact stepL_ok g a i
theorem stepsOk (hv : VG g) {set : List Int} (hs : SetOk g set) : StepsOk g set := ⟨SetOk g, hs, fun a c ha hc => by
  obtain ⟨i, hi, hg, rfl⟩ := mem_lets hc
  exact ⟨_, lstep_eq hv ha hi hg, stepL_ok g a i⟩⟩

noncomputable def LV (g : Gr) (set : List Int) (n : Nat) : List WS := lvl (stpM g) (letters.take g.1.toNat) set n
noncomputable def OKL (g : Gr) (set : List Int) (n : Nat) : Bool := okLvl (stpM g) (letters.take g.1.toNat) set n

theorem list_eq (hv : VG g) (h16 : g.1 ≤ 16) {set : List Int} (hs : SetOk g set) {n : Nat} : m_language_list g set (n : Int) = some (if OKL g set n = true then (LV g set n, true) else ([], false)) := by
  unfold m_language_list
  have := hv.l1
  rw [if_pos ⟨by omega, h16, by omega, stepsOk hv hs⟩]
  rfl
theorem LV_set (hv : VG g) {set : List Int} (hs : SetOk g set) {n : Nat} {x : WS} (h : x ∈ LV g set n) : SetOk g x.2 := lvl_all hs (fun a c ha hc => stpM_ok hv ha hc) n x h
theorem LV_len {set : List Int} {n : Nat} {x : WS} (h : x ∈ LV g set n) : x.1.length = n := lvl_len n x h
theorem OKL_iff {set : List Int} {n : Nat} : OKL g set n = true ↔ ∀ j, 1 ≤ j → j ≤ n → (LV g set j).length ≤ 4096 := okLvl_iff

theorem ext1_len (stp : List Int → UInt8 → List Int) (cs : List UInt8) (x : WS) : (ext1 stp cs x).length ≤ cs.length := List.length_filterMap_le _ _
theorem flat_len (stp : List Int → UInt8 → List Int) (cs : List UInt8) : ∀ l : List WS, (l.flatMap (ext1 stp cs)).length ≤ l.length * cs.length
  | [] => by simp
  | x :: l => by
    have h1 := flat_len stp cs l
    have h2 := ext1_len stp cs x
    rw [List.flatMap_cons, List.length_append, List.length_cons, Nat.succ_mul]
    omega

theorem one_letter {k : Nat} (h : k < letters.length) : (letters.take (k + 1)).drop k = [letters[k]] := by
  rw [List.take_add_one, List.getElem?_eq_getElem h, List.drop_left' (by rw [List.length_take]; omega)]
  rfl

theorem grow_eq (hv : VG g) (h16 : g.1 ≤ 16) {l : List WS} (hl : l.length ≤ 4096) (hs : ∀ x ∈ l, SetOk g x.2) (hw : ∀ x ∈ l, x.1.length ≤ 1000000) : m_ref11_grow g l = some (l.flatMap (ext1 (stpM g) (letters.take g.1.toNat))) := by
  have h1 := hv.l1
  obtain ⟨L, hL⟩ := Int.eq_ofNat_of_zero_le (show 0 ≤ g.1 by omega)
  have hL16 : L ≤ letters.length := by rw [letters_len]; omega
  have htn : g.1.toNat = L := by omega
  unfold m_ref11_grow
  rw [htn]
  have hb : ∀ i, ((l.take i).flatMap (ext1 (stpM g) (letters.take L))).length ≤ 65536 := fun i => by
    have h2 := flat_len (stpM g) (letters.take L) (l.take i)
    have h3 : (l.take i).length ≤ 4096 := by rw [List.length_take]; omega
    have h4 : (letters.take L).length ≤ 16 := by rw [List.length_take, letters_len]; omega
    exact Nat.le_trans h2 (Nat.le_trans (Nat.mul_le_mul h3 h4) (by decide))
  refine bindL (loop_is (fun i => ((i : Int), (l.take i).flatMap (ext1 (stpM g) (letters.take L)))) l.length (l.flatMap (ext1 (stpM g) (letters.take L))) (fun i hi => ?_) ?_ (by simp)) rfl
  · dsimp only
    rw [if_pos (lt_int hi)]
    have hsx := hs _ (List.getElem_mem hi)
    have hlx := setOk_len hv hsx
    refine bindL (loop_is (fun k => ((k : Int), (l.take i).flatMap (ext1 (stpM g) (letters.take L)) ++ ext1 (stpM g) (letters.take k) l[i])) L ((l.take i).flatMap (ext1 (stpM g) (letters.take L)) ++ ext1 (stpM g) (letters.take L) l[i]) (fun k hk => ?_) ?_ (by simp [ext1])) ?_
    · dsimp only
      have hk16 : k < letters.length := by omega
      have hk16' : k < 16 := hk16
      rw [if_pos (by omega), ix hi]
      simp only [jp, Option.bind_some, refStep_eq hv (show (l[i]).2.length ≤ 9223372036854775807 by omega), nx (by omega : L ≤ _) hk]
      have hst := stpM_eq hv hsx hk16 (by omega : (k : Int) < g.1)
      have htk := ext1_take (stp := stpM g) (cs := letters) l[i] hk16
      rw [hst] at htk
      by_cases he : stepL g (l[i]).2 (k : Int) = []
      · rw [if_neg (by rw [he]; simp)]
        rw [htk, if_pos he, List.append_nil]
      · have hpos : 0 < ((stepL g (l[i]).2 (k : Int)).length : Int) := by
          have := List.length_pos_iff.2 he
          omega
        rw [if_pos hpos]
        have e16 : ([48, 49, 50, 51, 52, 53, 54, 55, 56, 57, 97, 98, 99, 100, 101, 102] : List UInt8) = letters := rfl
        rw [e16, if_pos (by rw [letters_len]; omega)]
        simp only [Int.toNat_natCast, one_letter hk16]
        have hwl := hw _ (List.getElem_mem hi)
        have he1 := ext1_len (stpM g) (letters.take k) l[i]
        have he2 : (letters.take k).length ≤ 16 := by rw [List.length_take, letters_len]; omega
        have hbi := hb i
        rw [if_pos (by simp only [List.length_cons, List.length_nil, maxLen]; omega), if_pos (fits_le (by simp only [List.length_append, List.length_cons, List.length_nil]; omega) (by simp only [List.length_append, List.length_cons, List.length_nil]; omega))]
        rw [htk, if_neg he, List.append_assoc]
    · dsimp only
      rw [if_neg (by omega)]
    · simp only [nx (by omega : l.length ≤ _) hi]
      rw [List.take_add_one, List.getElem?_eq_getElem hi]
      simp only [Option.toList_some, List.flatMap_append, List.flatMap_cons, List.flatMap_nil, List.append_nil]
  · dsimp only
    rw [if_neg (not_lt_int _), List.take_length]

theorem LV_zero (g : Gr) (set : List Int) : (LV g set 0).length ≤ 1 := by
  unfold LV lvl; split <;> simp

theorem refwords_eq (hv : VG g) (h16 : g.1 ≤ 16) {set : List Int} (hs : SetOk g set) {n : Nat} (hn : n ≤ 4096) : m_ref11_words g set n = some (if OKL g set n = true then (LV g set n, 0) else ([], 4)) := by
  unfold m_ref11_words
  simp only [jp]
  have key : ∀ (l0 : List WS), l0 = LV g set 0 → lpO (loopW (S := List TWordEnds × Int) (X := Ou (List TWordEnds) (List TWordEnds × Int)) (fun a5 =>
      if a5.2 < (n : Int) then
        if decide (0 < ((a5.1).length : Int)) = true then
          (m_ref11_grow g a5.1).bind fun x12 => if 4096 < ((x12).length : Int) then some (Stp.exit (Ou.ret ([], 4))) else some (Stp.next (x12, IntKind.wrap .i64 (a5.2 + 1)))
        else some (Stp.exit (Ou.go a5.1))
      else if false = true then
          (m_ref11_grow g a5.1).bind fun x12 => if 4096 < ((x12).length : Int) then some (Stp.exit (Ou.ret ([], 4))) else some (Stp.next (x12, IntKind.wrap .i64 (a5.2 + 1)))
        else some (Stp.exit (Ou.go a5.1))) (l0, 0)) (fun a15 => some (a15, 0)) some = some (if OKL g set n = true then (LV g set n, 0) else ([], 4)) := by
    intro l0 hl0
    have hx : ∃ x, loopW (S := List TWordEnds × Int) (X := Ou (List TWordEnds) (List TWordEnds × Int)) (fun a5 =>
      if a5.2 < (n : Int) then
        if decide (0 < ((a5.1).length : Int)) = true then
          (m_ref11_grow g a5.1).bind fun x12 => if 4096 < ((x12).length : Int) then some (Stp.exit (Ou.ret ([], 4))) else some (Stp.next (x12, IntKind.wrap .i64 (a5.2 + 1)))
        else some (Stp.exit (Ou.go a5.1))
      else if false = true then
          (m_ref11_grow g a5.1).bind fun x12 => if 4096 < ((x12).length : Int) then some (Stp.exit (Ou.ret ([], 4))) else some (Stp.next (x12, IntKind.wrap .i64 (a5.2 + 1)))
        else some (Stp.exit (Ou.go a5.1))) (l0, 0) = some x ∧ ((x = .go (LV g set n) ∧ OKL g set n = true) ∨ (x = .ret ([], 4) ∧ ¬ OKL g set n = true)) := by
      refine loopN n (fun i s => s = (LV g set i, (i : Int)) ∧ ∀ j, 1 ≤ j → j ≤ i → (LV g set j).length ≤ 4096) ?_ ?_ 0 _ (Nat.zero_le _) ⟨by rw [hl0]; rfl, fun j h1 h2 => by omega⟩
      · rintro i s hi ⟨rfl, hj⟩
        dsimp only
        rw [if_pos (lt_int hi)]
        by_cases h0 : LV g set i = []
        · rw [if_neg (by rw [h0]; simp)]
          have hnil : ∀ j, i ≤ j → LV g set j = [] := fun j h => lvl_nil h0 h
          refine .inr ⟨_, rfl, .inl ⟨by rw [h0, hnil n (by omega)], OKL_iff.2 fun j h1 h2 => ?_⟩⟩
          by_cases h : j ≤ i
          · exact hj j h1 h
          · rw [hnil j (by omega)]; simp
        · have hpos : 0 < (LV g set i).length := List.length_pos_iff.2 h0
          rw [if_pos (decide_eq_true (by omega))]
          have hl : (LV g set i).length ≤ 4096 := by
            by_cases hi0 : i = 0
            · subst hi0; have := LV_zero g set; omega
            · exact hj i (by omega) (Nat.le_refl _)
          rw [grow_eq hv h16 hl (fun x hx => LV_set hv hs hx) (fun x hx => by rw [LV_len hx]; omega)]
          simp only [Option.bind_some]
          have e : (LV g set i).flatMap (ext1 (stpM g) (letters.take g.1.toNat)) = LV g set (i + 1) := rfl
          rw [e]
          by_cases h4 : 4096 < (LV g set (i + 1)).length
          · rw [if_pos (by omega)]
            refine .inr ⟨_, rfl, .inr ⟨rfl, fun hok => ?_⟩⟩
            have := OKL_iff.1 hok (i + 1) (by omega) (by omega)
            omega
          · rw [if_neg (by omega)]
            refine .inl ⟨_, rfl, by rw [nx (by omega : n ≤ _) hi], fun j h1 h2 => ?_⟩
            by_cases h : j ≤ i
            · exact hj j h1 h
            · have : j = i + 1 := by omega
              subst this; omega
      · rintro s ⟨rfl, hj⟩
        dsimp only
        rw [if_neg (not_lt_int _), if_neg (by simp)]
        exact ⟨_, rfl, .inl ⟨rfl, OKL_iff.2 hj⟩⟩
    obtain ⟨x, hx, ⟨rfl, hok⟩ | ⟨rfl, hok⟩⟩ := hx
    · rw [hx, if_pos hok]; rfl
    · rw [hx, if_neg hok]; rfl
  by_cases h0 : set = []
  · rw [if_neg (by rw [h0]; simp)]
    exact key [] (by unfold LV lvl; rw [if_pos h0])
  · have hpos : 0 < set.length := List.length_pos_iff.2 h0
    rw [if_pos (by omega), if_pos (fits_le (by simp) (by simp))]
    exact key _ (by unfold LV lvl; rw [if_neg h0]; rfl)

theorem texts_eq {l : List WS} (hl : l.length ≤ 1000000) : m_ref11_texts l = some (l.map Prod.fst) := by
  unfold m_ref11_texts
  refine bindL (loop_is (fun i => ((i : Int), (l.take i).map Prod.fst)) l.length (l.map Prod.fst) (fun i hi => ?_) ?_ (by simp)) rfl
  · dsimp only
    rw [if_pos (lt_int hi), ix hi]
    simp only [Option.bind_some]
    rw [if_pos (fits_le (by simp; omega) (by simp; omega)), nx (by omega : l.length ≤ _) hi, List.take_add_one, List.getElem?_eq_getElem hi, List.map_append]
    rfl
  · dsimp only
    rw [if_neg (not_lt_int _), List.take_length]

/-! ### order -/
theorem u8_irr (a : UInt8) : ¬ a < a := UInt8.lt_irrefl a
theorem app_lt {u v : List UInt8} : ∀ (w : List UInt8), u < v → w ++ u < w ++ v
  | [], h => h
  | a :: w, h => List.cons_lt_cons_iff.2 (.inr ⟨rfl, app_lt w h⟩)
theorem lt_app : ∀ {u v : List UInt8} (x y : List UInt8), u.length = v.length → u < v → u ++ x < v ++ y
  | [], [], _, _, _, h => by cases h
  | [], _ :: _, _, _, hl, _ => by cases hl
  | _ :: _, [], _, _, hl, _ => by cases hl
  | a :: u, b :: v, x, y, hl, h => by
    rcases List.cons_lt_cons_iff.1 h with h1 | ⟨h0, h1⟩
    · exact List.cons_lt_cons_iff.2 (.inl h1)
    · exact List.cons_lt_cons_iff.2 (.inr ⟨h0, lt_app x y (by simpa using hl) h1⟩)
theorem lt_irr : ∀ (u : List UInt8), ¬ u < u
  | [], h => by cases h
  | a :: u, h => by
    rcases List.cons_lt_cons_iff.1 h with h | ⟨_, h⟩
    · exact u8_irr a h
    · exact lt_irr u h
theorem lvl_asc {stp : List Int → UInt8 → List Int} {cs : List UInt8} {set : List Int} (hcs : cs.Pairwise (· < ·)) : ∀ i, (lvl stp cs set i).Pairwise (fun x y => x.1 < y.1)
  | 0 => by simp only [lvl]; split <;> simp
  | i + 1 => by
    simp only [lvl]
    rw [List.pairwise_flatMap]
    refine ⟨fun x hx => ?_, (lvl_asc hcs i).imp_of_mem fun {x y} hx hy hxy a ha b hb => ?_⟩
    · unfold ext1
      rw [List.pairwise_filterMap]
      refine hcs.imp fun {c d} hcd y hy z hz => ?_
      split at hy
      · cases hy
      · split at hz
        · cases hz
        · cases hy; cases hz
          exact app_lt _ (List.cons_lt_cons_iff.2 (.inl hcd))
    · obtain ⟨c, _, _, rfl⟩ := mem_ext1.1 ha
      obtain ⟨d, _, _, rfl⟩ := mem_ext1.1 hb
      exact lt_app _ _ (by rw [lvl_len i x hx, lvl_len i y hy]) hxy
theorem letters_asc : letters.Pairwise (· < ·) := by decide
theorem LV_asc (g : Gr) (set : List Int) (n : Nat) : ((LV g set n).map Prod.fst).Pairwise (· < ·) := by
  rw [List.pairwise_map]
  exact lvl_asc (letters_asc.sublist (List.take_sublist _ _)) n
theorem sortS_id {l : List (List UInt8)} (h : l.Pairwise (· < ·)) : sortS l = l := sortS_eq (List.Perm.refl l) (h.imp fun h => decide_eq_true (List.le_of_lt h))

/-! ### Words -/
theorem lengths_ref (g : Gr) (n : Int) : m_language_lengths g n = m_ref11_checkNumber g n := by
  unfold m_language_lengths m_ref11_checkNumber m_language_check m_ref11_check
  rw [Check_ref]

theorem checkNumber_tot (g : Gr) (n : Int) : ∃ e, m_ref11_checkNumber g n = some e ∧ (e = 0 ↔ VG g ∧ g.1 ≤ 16 ∧ 0 ≤ n ∧ n ≤ 4096) := by
  obtain ⟨e, he, hz⟩ := Check_tot g
  unfold m_ref11_checkNumber m_ref11_check
  rw [he]
  simp only [Option.bind_some, jp]
  by_cases h0 : e = 0
  · have hv := hz.1 h0
    rw [if_neg (by omega : ¬ e ≠ 0)]
    by_cases h1 : 16 < g.1
    · exact ⟨12, by simp [h1], by simp; omega⟩
    · simp only [if_neg h1, Option.bind_some, ne_eq, not_true_eq_false, if_false]
      by_cases h2 : n < 0
      · exact ⟨2, by simp [h2], by simp; omega⟩
      · by_cases h3 : 4096 < n
        · exact ⟨2, by simp [h2, h3], by simp; omega⟩
        · exact ⟨0, by simp [h2, h3], by simp [hv]; omega⟩
  · have hv : ¬ VG g := fun v => h0 (hz.2 v)
    rw [if_pos h0]
    exact ⟨1, by simp, by simp [hv]⟩

noncomputable def wordsE (g : Gr) (n : Int) : List (List UInt8) := (LV g (upto g.2.1) n.toNat).map Prod.fst

theorem Words_both (g : Gr) (n : Int) : ∃ r, m_language_Words g n = some r ∧ m_ref11_Words g n = some r ∧ (r.2 = 0 → (VG g ∧ g.1 ≤ 16 ∧ 0 ≤ n ∧ n ≤ 4096 ∧ OKL g (upto g.2.1) n.toNat = true) ∧ r.1 = wordsE g n) ∧
    (VG g → g.1 ≤ 16 → 0 ≤ n → n ≤ 4096 → OKL g (upto g.2.1) n.toNat = true → r.2 = 0) := by
  obtain ⟨e, he, hz⟩ := checkNumber_tot g n
  unfold m_language_Words m_ref11_Words
  rw [lengths_ref, he]
  simp only [Option.bind_some]
  by_cases h0 : e = 0
  · obtain ⟨hv, h16, hn0, hn1⟩ := hz.1 h0
    have hs := upto_ok g
    obtain ⟨m, hm⟩ := Int.eq_ofNat_of_zero_le hn0
    have hn : ¬ e ≠ 0 := by omega
    rw [if_neg hn, if_neg hn, states_eq hv, All_eq hv]
    subst hm
    simp only [Option.bind_some, list_eq hv h16 hs, refwords_eq hv h16 hs (by omega : m ≤ 4096), Int.toNat_natCast]
    by_cases hok : OKL g (upto g.2.1) m = true
    · simp only [if_pos hok, if_true, ne_eq, not_true_eq_false, if_false]
      have hl : (LV g (upto g.2.1) m).length ≤ 4096 := by
        by_cases hm0 : m = 0
        · subst hm0; have := LV_zero g (upto g.2.1); omega
        · exact OKL_iff.1 hok m (by omega) (Nat.le_refl _)
      rw [texts_eq (by omega), sortS_id (LV_asc g _ m)]
      exact ⟨_, rfl, rfl, fun _ => ⟨⟨hv, h16, hn0, hn1, hok⟩, by simp [wordsE]⟩, fun _ _ _ _ _ => rfl⟩
    · simp only [if_neg hok, if_neg (show ¬ false = true by simp)]
      exact ⟨([], 4), rfl, (by simp), (fun h => by cases h), fun _ _ _ _ h => absurd h hok⟩
  · rw [if_pos h0, if_pos h0]
    exact ⟨_, rfl, rfl, fun h => absurd h h0, fun h1 h2 h3 h4 _ => absurd (hz.2 ⟨h1, h2, h3, h4⟩) h0⟩
end
end Go.AW

/- Reading words in graphs: ends of words, and the law of factors. -/
namespace Go.AW
open Go
set_option linter.unusedSimpArgs false
set_option linter.unusedVariables false

def lab (c : UInt8) : Int := Lib.indexByte letters c

theorem idxB_neg : ∀ {l : List UInt8} {c : UInt8}, Lib.indexByte l c < 0 ↔ c ∉ l
  | [], c => by simp [Lib.indexByte]
  | b :: l, c => by
    have h := @idxB_neg l c
    have hg := Lib.indexByte_ge l c
    simp only [Lib.indexByte, List.mem_cons, not_or]
    by_cases e : b = c
    · subst e; simp
    · have e1 : (b == c) = false := by simpa using e
      simp only [e1, Bool.false_eq_true, if_false]
      by_cases e2 : Lib.indexByte l c = -1
      · have := h.1 (by omega)
        simp only [e2, beq_self_eq_true, if_true]
        exact ⟨fun _ => ⟨fun e' => e e'.symm, this⟩, fun _ => by decide⟩
      · have e3 : (Lib.indexByte l c == -1) = false := by simpa using e2
        simp only [e3, Bool.false_eq_true, if_false]
        exact ⟨fun h' => by omega, fun h' => by have := h.2 h'.2; omega⟩

theorem known_eq (L : Int) : m_word_known L = some (decide (1 ≤ L ∧ L ≤ 16)) := by
  unfold m_word_known
  simp only [jp]
  by_cases h1 : 1 ≤ L
  · rw [if_pos h1]; simp [h1]
  · rw [if_neg h1]; simp [h1]

theorem wcheck (L : Int) (w : List UInt8) : ∃ e, m_word_Check L w = some e ∧ (e = 0 ↔ (1 ≤ L ∧ L ≤ 16) ∧ w.length ≤ 65536 ∧ ∀ c ∈ w, c ∈ letters.take L.toNat) := by
  unfold m_word_Check
  rw [known_eq]
  simp only [Option.bind_some]
  by_cases h1 : 1 ≤ L ∧ L ≤ 16
  case neg =>
    rw [if_pos (by rw [decide_eq_false h1]; rfl)]
    exact ⟨12, rfl, by simp [h1]⟩
  rw [if_neg (by rw [decide_eq_true h1]; decide)]
  by_cases h2 : 65536 < (w.length : Int)
  · rw [if_pos h2]
    exact ⟨4, rfl, by simp; omega⟩
  rw [if_neg h2]
  have hx : ∀ c : UInt8, m_strings_IndexByte ((([48, 49, 50, 51, 52, 53, 54, 55, 56, 57, 97, 98, 99, 100, 101, 102] : List UInt8).take L.toNat).drop (0 : Int).toNat) (c.toNat : Int) = some (Lib.indexByte (letters.take L.toNat) c) := fun c => by
    unfold m_strings_IndexByte
    rw [byte_back]
    rfl
  have hl := loop_any (body := fun a3 => if a3 < ((w).length : Int) then
            if 0 ≤ (0 : Int) ∧ (0 : Int) ≤ L ∧ L ≤ (([48, 49, 50, 51, 52, 53, 54, 55, 56, 57, 97, 98, 99, 100, 101, 102] : List UInt8).length : Int) then
              (idx w a3).bind fun x8 =>
              (m_strings_IndexByte ((([48, 49, 50, 51, 52, 53, 54, 55, 56, 57, 97, 98, 99, 100, 101, 102] : List UInt8).take (L).toNat).drop (0 : Int).toNat) (x8.toNat : Int)).bind fun x10 =>
              if x10 < 0 then
                some (Stp.exit (Ou.ret 13))
              else
                some (Stp.next (IntKind.wrap .i64 (a3 + 1)))
            else none
          else
            some (Stp.exit (Ou.go ()))) (fun i => (i : Int)) w.length (fun i => decide (Lib.indexByte (letters.take L.toNat) (w.getD i 0) < 0)) (Ou.ret (13 : Int)) (Ou.go ()) (fun i hi => by
      have e1 : w.getD i 0 = w[i] := by simp [List.getD, hi]
      rw [if_pos (lt_int hi), if_pos ⟨by decide, by omega, by show L ≤ (16 : Int); omega⟩, ix hi]
      simp only [Option.bind_some, hx, nx (by omega : w.length ≤ _) hi, e1, decide_eq_true_eq]) (by rw [if_neg (not_lt_int _)]) (s0 := (0 : Int)) rfl
  rw [hl]
  by_cases hw : ∀ c ∈ w, c ∈ letters.take L.toNat
  · rw [if_neg]
    · exact ⟨0, rfl, by simp only [true_iff]; exact ⟨h1, by omega, hw⟩⟩
    · intro ha
      obtain ⟨i, hi, hp⟩ := List.any_eq_true.1 ha
      have hi := List.mem_range.1 hi
      have e1 : w.getD i 0 = w[i] := by simp [List.getD, hi]
      rw [e1] at hp
      exact idxB_neg.1 (of_decide_eq_true hp) (hw _ (List.getElem_mem hi))
  · rw [if_pos]
    · exact ⟨13, rfl, by simp only [show ¬ (13 : Int) = 0 by decide, false_iff]; exact fun h => hw h.2.2⟩
    · apply Classical.byContradiction
      intro hno
      refine hw fun c hc => ?_
      obtain ⟨i, hi, rfl⟩ := List.getElem_of_mem hc
      apply Classical.byContradiction
      intro hn
      refine hno (List.any_eq_true.2 ⟨i, List.mem_range.2 hi, ?_⟩)
      have e1 : w.getD i 0 = w[i] := by simp [List.getD, hi]
      rw [e1]
      exact decide_eq_true (idxB_neg.2 hn)

theorem lcheck_tot (g : Gr) : ∃ e, m_language_check g = some e ∧ (e = 0 ↔ VG g ∧ g.1 ≤ 16) := by
  obtain ⟨e, he, hz⟩ := Check_tot g
  unfold m_language_check
  rw [Check_ref, he]
  simp only [Option.bind_some]
  by_cases h0 : e = 0
  · rw [if_neg (by omega)]
    by_cases h1 : 16 < g.1
    · rw [if_pos h1]; exact ⟨12, rfl, by simp; intro _; omega⟩
    · rw [if_neg h1]; exact ⟨0, rfl, by simp only [true_iff]; exact ⟨hz.1 h0, by omega⟩⟩
  · rw [if_pos h0]
    exact ⟨1, rfl, by simp; intro hv; exact absurd (hz.2 hv) h0⟩

def WOk (g : Gr) (w : List UInt8) : Prop := w.length ≤ 65536 ∧ ∀ c ∈ w, c ∈ lets g

theorem spells_tot (g : Gr) (w : List UInt8) : ∃ e, m_language_spells g w = some e ∧ (e = 0 ↔ VG g ∧ g.1 ≤ 16 ∧ WOk g w) := by
  obtain ⟨e, he, hz⟩ := lcheck_tot g
  obtain ⟨f, hf, hy⟩ := wcheck g.1 w
  unfold m_language_spells
  rw [he]
  simp only [Option.bind_some, hf]
  by_cases h0 : e = 0
  · rw [if_neg (by omega)]
    obtain ⟨hv, h16⟩ := hz.1 h0
    exact ⟨f, rfl, hy.trans ⟨fun h => ⟨hv, h16, h.2⟩, fun h => ⟨⟨hv.l1, h16⟩, h.2.2⟩⟩⟩
  · rw [if_pos h0]
    exact ⟨e, rfl, ⟨fun h => absurd h h0, fun h => absurd (hz.2 ⟨h.1, h.2.1⟩) h0⟩⟩

section
variable {g : Gr}

theorem lab_mem {c : UInt8} (h : c ∈ lets g) : ∃ (i : Nat) (hi : i < letters.length), (i : Int) < g.1 ∧ letters[i] = c ∧ lab c = i := by
  obtain ⟨i, hi, hg, rfl⟩ := mem_lets h
  exact ⟨i, hi, hg, rfl, idx_letter hi⟩
theorem step_lab (hv : VG g) {a : List Int} (ha : SetOk g a) {c : UInt8} (hc : c ∈ lets g) : m_language_step g a (c.toNat : Int) = some (stepL g a (lab c)) := by
  obtain ⟨i, hi, hg, rfl, e⟩ := lab_mem hc
  rw [e]
  exact lstep_eq hv ha hi hg

def endsL (g : Gr) (a : List Int) (w : List UInt8) : List Int := w.foldl (fun a c => stepL g a (lab c)) a
theorem endsL_cons (a : List Int) (c : UInt8) (w : List UInt8) : endsL g a (c :: w) = endsL g (stepL g a (lab c)) w := rfl
theorem endsL_app (a : List Int) (u v : List UInt8) : endsL g a (u ++ v) = endsL g (endsL g a u) v := List.foldl_append ..
theorem stepL_nil (c : Int) : stepL g [] c = [] := by simp [stepL]
theorem endsL_nil : ∀ w : List UInt8, endsL g [] w = []
  | [] => rfl
  | c :: w => by rw [endsL_cons, stepL_nil, endsL_nil w]
theorem endsL_ok {a : List Int} (ha : SetOk g a) : ∀ w, SetOk g (endsL g a w) := fun w => by
  induction w generalizing a with
  | nil => exact ha
  | cons c w ih => exact ih (stepL_ok g a _)
theorem ends_eq (hv : VG g) {a : List Int} (ha : SetOk g a) {w : List UInt8} (hw : WOk g w) : m_language_ends g a w = some (endsL g a w) := by
  obtain ⟨hl, hc⟩ := hw
  unfold m_language_ends
  have hx : ∃ x, loopW (S := (List Int) × Int) (X := (List Int)) (fun a1 =>
      jp (fun (a5 : Bool) =>
        if a5 = true then
          (idx w a1.2).bind fun x8 =>
          (m_language_step g a1.1 (x8.toNat : Int)).bind fun x10 =>
          some (Stp.next (x10, IntKind.wrap .i64 (a1.2 + 1)))
        else
          some (Stp.exit a1.1))
        fun k7 =>
        if a1.2 < ((w).length : Int) then
          k7 (decide (0 < ((a1.1).length : Int)))
        else
          k7 false) (a, 0) = some x ∧ x = endsL g a w := by
    refine loopN w.length (fun i s => s = (endsL g a (w.take i), (i : Int))) ?_ ?_ 0 _ (Nat.zero_le _) rfl
    · rintro i s hi rfl
      simp only [jp]
      rw [if_pos (lt_int hi)]
      by_cases h0 : endsL g a (w.take i) = []
      · rw [if_neg (by rw [h0]; simp)]
        refine .inr ⟨_, rfl, ?_⟩
        rw [h0]
        conv => rhs; rw [← List.take_append_drop i w, endsL_app, h0, endsL_nil]
      · have hpos := List.length_pos_iff.2 h0
        rw [if_pos (decide_eq_true (by omega)), ix hi]
        simp only [Option.bind_some]
        rw [step_lab hv (endsL_ok ha _) (hc _ (List.getElem_mem hi))]
        refine .inl ⟨_, rfl, ?_⟩
        rw [nx (by omega : w.length ≤ _) hi, List.take_add_one, List.getElem?_eq_getElem hi, endsL_app]
        rfl
    · rintro s rfl
      simp only [jp]
      rw [if_neg (not_lt_int _), if_neg (by simp)]
      exact ⟨_, rfl, by rw [List.take_length]⟩
  obtain ⟨x, hx, rfl⟩ := hx
  rw [hx]
  rfl

theorem Accepts_eq (hv : VG g) (h16 : g.1 ≤ 16) {w : List UInt8} (hw : WOk g w) : m_language_Accepts g w = some (decide (endsL g (upto g.2.1) w ≠ []), 0) := by
  obtain ⟨e, he, hz⟩ := spells_tot g w
  have h0 := hz.2 ⟨hv, h16, hw⟩
  subst h0
  unfold m_language_Accepts
  rw [he]
  simp only [Option.bind_some, ne_eq, not_true_eq_false, if_false, states_eq hv, ends_eq hv (upto_ok g) hw]
  congr 2
  by_cases h : endsL g (upto g.2.1) w = []
  · simp [h]
  · have := List.length_pos_iff.2 h
    simp [h, this]

end

theorem EqI_eq {a b : List Int} (hm : a.length ≤ 9223372036854775807) : m_slices_Equal_Lint_int a b = some (decide (a = b)) := by
  unfold m_slices_Equal_Lint_int
  by_cases hl : a.length = b.length
  · rw [if_neg (by omega)]
    refine lpL (loop_any (fun i => (i : Int)) a.length (fun i => decide (a.getD i 0 ≠ b.getD i 0)) (Ou.ret false) (Ou.go ()) (fun i hi => ?_) (by rw [if_neg (not_lt_int _)]) rfl) ?_
    · have hi' : i < b.length := by omega
      have e1 : a.getD i 0 = a[i] := by simp [List.getD, hi]
      have e2 : b.getD i 0 = b[i] := by simp [List.getD, hi']
      rw [if_pos (lt_int hi), ix hi, ix hi']
      simp only [Option.bind_some, nx hm hi, e1, e2, decide_eq_true_eq]
    · by_cases he : a = b
      · subst he
        rw [if_neg]
        · simp [lpO]
        · simp
      · rw [if_pos]
        · simp [lpO, he]
        · refine List.any_eq_true.2 ?_
          apply Classical.byContradiction
          intro hno
          refine he (List.ext_getElem hl fun i h1 h2 => ?_)
          apply Classical.byContradiction
          intro hne
          refine hno ⟨i, List.mem_range.2 h1, decide_eq_true ?_⟩
          rwa [show a.getD i 0 = a[i] by simp [List.getD, h1], show b.getD i 0 = b[i] by simp [List.getD, h2]]
  · rw [if_pos (by omega)]
    have : ¬ a = b := fun e => hl (by rw [e])
    simp [this]

theorem WOk.sub {g : Gr} {w u : List UInt8} (h : WOk g w) (hl : u.length ≤ w.length) (hs : ∀ c ∈ u, c ∈ w) : WOk g u := ⟨Nat.le_trans hl h.1, fun c hc => h.2 c (hs c hc)⟩

end Go.AW

/- A search's step and ends. -/
namespace Go.AW
open Go
set_option linter.unusedVariables false
def okP (g : TLabelsStatesEdges) (mark : List UInt8) (p : TStateReadBadLeft) : Prop := (0 ≤ p.1 ∧ p.1 < g.2.1) ∧ (0 ≤ p.2.1 ∧ p.2.1 ≤ mark.length) ∧ 0 ≤ p.2.2.2 ∧ p.2.2.2 ≤ 1000000
theorem tab_get {mark : List UInt8} {k a : Nat} (hk : k ≤ mark.length) (ha : a < 16) : (ftabL mark)[k * 16 + a * 1]? = some ((foll mark k (letters.getD a 0) : Nat) : Int) := by
  unfold ftabL
  rw [List.getElem?_map, List.getElem?_range (by omega)]
  show some (((foll mark ((k * 16 + a * 1) / 16) (letters.getD ((k * 16 + a * 1) % 16) 0) : Nat) : Int)) = _
  rw [show (k * 16 + a * 1) / 16 = k by omega, show (k * 16 + a * 1) % 16 = a by omega]
theorem step_eq {s : TGMarkTableNextMemo} {g : TLabelsStatesEdges} {mark : List UInt8} (hm : s.2.1 = mark) (ht : s.2.2.1 = ftabL mark) {p : TStateReadBadLeft} (hp : okP g mark p) (h1 : p.2.2.2 ≠ 0) {x : TFromLabelTo} (hx : 0 ≤ x.2.1 ∧ x.2.1 < 16) : m_syncmark_search_step s p x = some (stepF mark p x) := by
  obtain ⟨_, ⟨hr0, hr1⟩, hl0, hl1⟩ := hp
  unfold m_syncmark_search_step
  rw [hm, ht, ftabL_div, if_pos ⟨hr0, by omega⟩, if_pos hx, tab_get (by omega) (by omega), Option.bind_some, w64 (by omega) (by omega)]
  unfold jp stepF letB
  dsimp only
  have e : (((foll mark p.2.1.toNat (letters.getD x.2.1.toNat 0) : Nat) : Int) = (mark.length : Int)) ↔ foll mark p.2.1.toNat (letters.getD x.2.1.toNat 0) = mark.length := by omega
  by_cases hb : p.2.2.1 = true
  · rw [if_pos hb, hb]
    rfl
  · rw [if_neg hb]
    have hb' : p.2.2.1 = false := by simpa using hb
    rw [hb', Bool.false_or, decide_eq_decide.2 e]
theorem letters_lab {c : UInt8} (h : c ∈ letters) : ∃ i : Nat, i < 16 ∧ Lib.indexByte letters c = (i : Int) ∧ letters.getD i 0 = c := by
  obtain ⟨i, hi, rfl⟩ := List.mem_iff_getElem.1 h
  refine ⟨i, hi, ?_, by rw [List.getD_eq_getElem?_getD, List.getElem?_eq_getElem hi]; rfl⟩
  exact idx_letter hi
theorem ends_loop {s : TGMarkTableNextMemo} {mark : List UInt8} (hm : s.2.1 = mark) (ht : s.2.2.1 = ftabL mark) (hlt : ∀ c ∈ mark, c ∈ letters) (hml : mark.length ≤ 1000) : ∀ (d i n : Nat), i + d = mark.length → n ≤ mark.length →
    (loopW (S := Int × Int) (X := Ou (Unit) (Bool)) (fun a1 =>
     if a1.2 < ((s.2.1).length : Int) then
      (idx s.2.1 a1.2).bind fun x5 =>
      (m_strings_IndexByte [48, 49, 50, 51, 52, 53, 54, 55, 56, 57, 97, 98, 99, 100, 101, 102] (x5.toNat : Int)).bind fun x7 =>
      if 0 ≤ (a1.1 : Int) ∧ (a1.1 : Int) < (((s.2.2.1).length / 16 : Nat) : Int) then
       if 0 ≤ (x7 : Int) ∧ (x7 : Int) < 16 then
        ((s.2.2.1)[(a1.1).toNat * 16 + (x7).toNat * 1]?).bind fun x11 =>
        jp (fun (a13 : Bool) =>
          if a13 = true then
           some (Stp.exit (Ou.ret true))
          else
           some (Stp.next (x11, IntKind.wrap .i64 (a1.2 + 1))))
          fun k15 =>
         if x11 = ((s.2.1).length : Int) then
          k15 (decide (a1.2 < (IntKind.wrap .i64 (((s.2.1).length : Int) - 1))))
         else
          k15 false
       else none
      else none
     else
      some (Stp.exit (Ou.go ()))) ((n : Int), (i : Int))) = some (if endsG mark (mark.drop i) n = true then .ret true else .go ()) := by
  intro d
  rw [hm, ht, ftabL_div]
  induction d with
  | zero =>
    intro i n hi hn
    rw [loopW_eq]
    simp only
    rw [if_neg (by omega), List.drop_eq_nil_of_le (by omega)]
    rfl
  | succ d ih =>
    intro i n hi hn
    have hil : i < mark.length := by omega
    obtain ⟨k, hk, hki, hkg⟩ := letters_lab (hlt _ (List.getElem_mem hil))
    have hD : mark.drop i = mark[i] :: mark.drop (i + 1) := List.drop_eq_getElem_cons hil
    rw [hD]
    have hne : mark.drop (i + 1) ≠ [] ↔ (i : Int) < ((mark.length : Int) - 1) := by
      rw [Ne, List.drop_eq_nil_iff]
      omega
    rw [loopW_eq]
    simp only
    rw [if_pos (by omega), idx_nat, List.getElem?_eq_getElem hil, Option.bind_some]
    have hib : m_strings_IndexByte [48, 49, 50, 51, 52, 53, 54, 55, 56, 57, 97, 98, 99, 100, 101, 102] ((mark[i].toNat : Nat) : Int) = some (k : Int) := by
      unfold m_strings_IndexByte
      rw [show ((mark[i].toNat : Nat) : Int).toNat.toUInt8 = mark[i] by rw [Int.toNat_natCast]; simp]
      exact congrArg some hki
    rw [hib, Option.bind_some, if_pos ⟨by omega, by omega⟩, if_pos ⟨by omega, by omega⟩, Int.toNat_natCast, Int.toNat_natCast, tab_get hn hk, Option.bind_some, hkg]
    generalize hF : foll mark n mark[i] = F
    have hFl : F ≤ mark.length := by rw [← hF]; exact foll_le _ _ _
    have hw1 : IntKind.wrap .i64 ((mark.length : Int) - 1) = (mark.length : Int) - 1 := w64 (by omega) (by omega)
    have hw2 : IntKind.wrap .i64 ((i : Int) + 1) = ((i + 1 : Nat) : Int) := by rw [w64 (by omega) (by omega)]; omega
    have hE : endsG mark (mark[i] :: mark.drop (i + 1)) n = if F = mark.length ∧ mark.drop (i + 1) ≠ [] then true else endsG mark (mark.drop (i + 1)) F := by
      rw [← hF]; rfl
    unfold jp
    dsimp only
    by_cases h1 : F = mark.length
    · have h1' : ((F : Nat) : Int) = (mark.length : Int) := by omega
      by_cases h2 : mark.drop (i + 1) ≠ []
      · rw [hE, if_pos (⟨h1, h2⟩ : F = mark.length ∧ mark.drop (i + 1) ≠ []), if_pos h1', hw1, decide_eq_true (hne.1 h2)]
        rfl
      · rw [hE, if_neg (fun h => h2 h.2 : ¬ (F = mark.length ∧ mark.drop (i + 1) ≠ [])), if_pos h1', show decide ((i : Int) < IntKind.wrap .i64 ((mark.length : Int) - 1)) = false by rw [hw1]; exact decide_eq_false (fun h => h2 (hne.2 h)), hw2]
        exact ih (i + 1) F (by omega) hFl
    · have h1' : ¬ ((F : Nat) : Int) = (mark.length : Int) := by omega
      rw [hE, if_neg (fun h => h1 h.1 : ¬ (F = mark.length ∧ mark.drop (i + 1) ≠ [])), if_neg h1', hw2]
      exact ih (i + 1) F (by omega) hFl
theorem ends_eq54 {s : TGMarkTableNextMemo} {g : TLabelsStatesEdges} {mark : List UInt8} (hm : s.2.1 = mark) (ht : s.2.2.1 = ftabL mark) (hlt : ∀ c ∈ mark, c ∈ letters) (hml : mark.length ≤ 1000) {p : TStateReadBadLeft} (hp : okP g mark p) : m_syncmark_search_ends s p = some (endsF mark p) := by
  obtain ⟨_, ⟨hr0, hr1⟩, _⟩ := hp
  obtain ⟨r, hr⟩ := Int.eq_ofNat_of_zero_le hr0
  unfold m_syncmark_search_ends
  have h := ends_loop hm ht hlt hml mark.length 0 r (by omega) (by omega)
  rw [hr]
  refine (congrArg (fun z => lpO z (fun _ => some p.2.2.1) some) h).trans ?_
  rw [List.drop_zero]
  unfold endsF
  rw [hr, Int.toNat_natCast]
  cases endsG mark mark r with
  | true => rfl
  | false => rfl
theorem bnd54 {g : TLabelsStatesEdges} {mark : List UInt8} (hs : g.2.1 ≤ 64) (hml : mark.length ≤ 1000) {l : List TStateReadBadLeft} {n : Int} (hn : l.Nodup) (hl : ∀ p ∈ l, okP g mark p ∧ p.2.2.2 = n) : l.length ≤ 1000000 := by
  let code : TStateReadBadLeft → Nat := fun p => (p.1.toNat * 1001 + p.2.1.toNat) * 2 + (if p.2.2.1 then 1 else 0)
  have hinj : ∀ p ∈ l, ∀ q ∈ l, code p = code q → p = q := by
    intro p hp q hq e
    obtain ⟨⟨⟨a0, a1⟩, ⟨b0, b1⟩, _⟩, e1⟩ := hl p hp
    obtain ⟨⟨⟨c0, c1⟩, ⟨d0, d1⟩, _⟩, e2⟩ := hl q hq
    simp only [code] at e
    obtain ⟨p1, p2, p3, p4⟩ := p
    obtain ⟨q1, q2, q3, q4⟩ := q
    simp only at *
    have h3 : p3 = q3 := by
      cases p3 <;> cases q3 <;> simp at e ⊢ <;> omega
    subst h3
    have : p1.toNat * 1001 + p2.toNat = q1.toNat * 1001 + q2.toNat := by omega
    have h1 : p1.toNat = q1.toNat := by omega
    have h2 : p2.toNat = q2.toNat := by omega
    have e1' : p1 = q1 := by omega
    have e2' : p2 = q2 := by omega
    have e4' : p4 = q4 := by omega
    rw [e1', e2', e4']
  have hnd : (l.map code).Nodup := by
    clear hl
    induction l with
    | nil => exact List.nodup_nil
    | cons a l ih =>
      obtain ⟨h1, h2⟩ := List.nodup_cons.1 hn
      rw [List.map_cons, List.nodup_cons]
      refine ⟨fun hm => ?_, ih h2 fun p hp q hq => hinj p (.tail _ hp) q (.tail _ hq)⟩
      obtain ⟨b, hb, e⟩ := List.mem_map.1 hm
      have := hinj b (.tail _ hb) a (.head _) e
      subst this
      exact h1 hb
  have hsub : (l.map code) ⊆ List.range 200000 := by
    intro c hc
    obtain ⟨p, hp, rfl⟩ := List.mem_map.1 hc
    obtain ⟨⟨⟨a0, a1⟩, ⟨b0, b1⟩, _⟩, _⟩ := hl p hp
    refine List.mem_range.2 ?_
    simp only [code]
    split <;> omega
  have := hnd.length_le_of_subset hsub
  rw [List.length_map, List.length_range] at this
  omega
end Go.AW

/- syncmark.bad: the first bad word. -/
namespace Go.AW
open Go Go.Proofs
set_option linter.unusedVariables false
theorem wf_mid {n : Int} (h : 0 ≤ n ∧ n ≤ 1000000) : (Lit.int .i64 n).wf = true := by
  obtain ⟨h1, h2⟩ := h
  simp only [Lit.wf, IntKind.min, IntKind.max, IntKind.signed, IntKind.bits, Bool.and_eq_true, decide_eq_true_eq]
  simp
  omega
theorem can_spec {g : TLabelsStatesEdges} {mark : List UInt8} {n : Int} (h : badOk g mark n) (mw : Nat) : CanSpec (sr g mark (ftabL mark) (nextE g) mw) (canP g.2.2 mark) (stepF mark) (leav g.2.2) (okP g mark) := by
  obtain ⟨⟨hl0, hl1⟩, ⟨hs0, hs1⟩, hel, hed, hmne, hml, hlt, hn0, hn1⟩ := h
  refine ⟨fun p hp => ?_, fun p hp h0 => ?_, fun p hp h0 => ?_, fun l n hn hl => bnd54 hs1 hml hn hl⟩
  · obtain ⟨⟨a0, a1⟩, ⟨b0, b1⟩, c0, c1⟩ := hp
    exact ⟨⟨wf_mid ⟨a0, by omega⟩, wf_mid ⟨b0, by omega⟩, wf_mid ⟨c0, c1⟩⟩, c0⟩
  · rw [ends_eq54 rfl rfl hlt hml hp]
    unfold canP
    rw [h0]
    rfl
  · have hp' := hp
    obtain ⟨⟨a0, a1⟩, ⟨b0, b1⟩, c0, c1⟩ := hp
    refine ⟨?_, ?_, ?_, fun x hx => ?_⟩
    · show idx (nextE g) p.1 = _
      obtain ⟨s, hs⟩ := Int.eq_ofNat_of_zero_le a0
      rw [hs, idx_nat]
      unfold nextE
      rw [List.getElem?_map, List.getElem?_range (by omega)]
      rfl
    · exact Nat.le_trans (List.length_filter_le _ _) (by omega)
    · obtain ⟨k, hk⟩ : ∃ k, p.2.2.2.toNat = k + 1 := ⟨p.2.2.2.toNat - 1, by omega⟩
      unfold canP
      rw [hk]
      show ((leav g.2.2 p.1).any fun x => canF g.2.2 mark k (stepF mark p x)) = (leav g.2.2 p.1).any fun x => canF g.2.2 mark (stepF mark p x).2.2.2.toNat (stepF mark p x)
      have : ∀ x, (stepF mark p x).2.2.2.toNat = k := fun x => by show (p.2.2.2 - 1).toNat = k; omega
      simp only [this]
    · have hxE := (List.mem_filter.1 hx).1
      obtain ⟨e1, e2, e3, e4⟩ := hed x hxE
      refine ⟨step_eq rfl rfl hp' h0 ⟨e2.1, by omega⟩, ⟨⟨e3, e4⟩, ⟨Int.natCast_nonneg _, ?_⟩, ?_, ?_⟩, rfl⟩
      · show ((foll mark p.2.1.toNat (letB x.2.1) : Nat) : Int) ≤ _
        have := foll_le mark p.2.1.toNat (letB x.2.1)
        omega
      · show 0 ≤ p.2.2.2 - 1
        omega
      · show p.2.2.2 - 1 ≤ 1000000
        omega
set_option maxHeartbeats 8000000 in
set_option maxRecDepth 100000 in
theorem w_syncmark_bad {p0 : TLabelsStatesEdges} {p1 : List UInt8} {p2 : Int} {r : List UInt8 × Bool} (h : m_syncmark_bad p0 p1 p2 = some r) : Pure Tryz.prog 38 [HV.agg [HV.int .i64 p0.1, HV.int .i64 p0.2.1, slE eFromLabelTo p0.2.2], HV.str p1, HV.int .i64 p2] (· = HV.tup [HV.str r.1, HV.bool r.2]) := by
  unfold m_syncmark_bad at h
  by_cases hok : badOk p0 p1 p2
  case neg => rw [if_neg hok] at h; cases h
  rw [if_pos hok] at h
  have h := Option.some.inj h
  subst h
  have CS := can_spec hok
  generalize p0 = g at hok CS ⊢
  generalize p1 = mark at hok CS ⊢
  generalize p2 = n at hok CS ⊢
  obtain ⟨⟨hl0, hl1⟩, ⟨hs0, hs1⟩, hel, hed, hmne, hml, hlt, hn0, hn1⟩ := hok
  obtain ⟨Sn, hSn⟩ := Int.eq_ofNat_of_zero_le hs0
  refine Pure.of_body Tryz.func38 rfl rfl (Nat.le_of_ble_eq_true rfl) fun hf => ?_
  clear hf
  unfold Tryz.f38
  dsimp only [enumS, Nat.reduceAdd]
  refine AW.rgs rfl fun K hK => ?_
  refine b_op rfl (o_box rfl rfl rfl ?_)
  refine mv rfl rfl ?_
  refine mv rfl rfl ?_
  refine b_nil (hK _ (AW.to (to_le (s' := ⟨[(1, HV.str mark), (2, HV.int .i64 n), (3, HV.fptr [HV.int .i64 g.1, HV.int .i64 g.2.1, slE eFromLabelTo g.2.2] 0)], []⟩) ⟨leS_get ⟨rfl, rfl, rfl, trivial⟩, fun _ _ h => h⟩ ?_)))
  clear hK K
  refine AW.rgs rfl fun K hK => ?_
  refine bv rfl (v_loadF ty24 rfl (l_litA rfl (Nat.le_of_ble_eq_true rfl) rfl)) ?_
  refine mv rfl rfl ?_
  refine b_op rfl (o_callA rfl rfl rfl rfl ((c_newSearch (g := g) (mark := mark) ⟨hs0, hs1⟩ hel (fun x hx => (hed x hx).1) (by omega)).mono fun r H' he => ?_))
  obtain ⟨mw, rfl, hle⟩ := he
  refine b_to (to_le (s' := ⟨[(1, HV.str mark), (2, HV.int .i64 n), (3, HV.fptr [HV.int .i64 g.1, HV.int .i64 g.2.1, slE eFromLabelTo g.2.2] 0), (16, SH g mark (ftabL mark) (nextE g) mw)], [(57015, mw, .kmap [])]⟩) ⟨leS_get ⟨rfl, rfl, rfl, rfl, trivial⟩, hle⟩ ?_)
  refine b_op rfl (o_alloc (fid := 38) (zs := [HV.v (.pointer none)]) 38008 rfl rfl ty77 rfl (fun v8 => ?_))
  refine b_op rfl (o_store (cs := [SH g mark (ftabL mark) (nextE g) mw]) (zs := [SH g mark (ftabL mark) (nextE g) mw]) rfl rfl rfl ty77 rfl rfl rfl rfl rfl ?_)
  refine b_nil (hK _ (AW.to (to_le (s' := ⟨[(1, HV.str mark), (2, HV.int .i64 n), (3, HV.fptr [HV.int .i64 g.1, HV.int .i64 g.2.1, slE eFromLabelTo g.2.2] 0), (8, HV.ptr 38008 v8 0)], [(57015, mw, .kmap []), (38008, v8, .arr 1 77 [SH g mark (ftabL mark) (nextE g) mw])]⟩) ⟨leS_get ⟨rfl, rfl, rfl, rfl, trivial⟩, leH_get ⟨rfl, rfl, trivial⟩⟩ ?_)))
  clear hK K
  have C := CS mw
  clear CS
  refine AW.rgs rfl fun K hK => ?_
  refine b_op rfl (o_alloc (fid := 38) (zs := [HV.v (.slice none 0 0)]) 38009 rfl rfl ty79 rfl (fun v9 => ?_))
  refine b_nil (hK _ (AW.to (to_bind (to_ownC 38033 38009 v9 1 0 4 81 79 rfl rfl (by decide) fun v33 => to_le (s' := ⟨[(1, HV.str mark), (2, HV.int .i64 n), (3, HV.fptr [HV.int .i64 g.1, HV.int .i64 g.2.1, slE eFromLabelTo g.2.2] 0), (8, HV.ptr 38008 v8 0), (9, HV.ptr 38009 v9 0)], [(57015, mw, .kmap []), (38008, v8, .arr 1 77 [SH g mark (ftabL mark) (nextE g) mw]), (38009, v9, .arr 1 79 [HV.ar 38033 v33 4 0 0]), (38033, v33, .arr 4 81 [])]⟩) ⟨leS_get ⟨rfl, rfl, rfl, rfl, rfl, trivial⟩, leH_get ⟨rfl, rfl, rfl, rfl, trivial⟩⟩ ?_))))
  clear hK K
  refine AW.seq ?_
  refine AW.conseq (Q' := fun e s1 => e = .normal ∧ ∃ es v33, MOk (canP g.2.2 mark) (okP g mark) es ∧ AOk (okP g mark) n (startF g mark n) ∧ s1.le ⟨[(3, HV.fptr [HV.int .i64 g.1, HV.int .i64 g.2.1, slE eFromLabelTo g.2.2] 0), (8, HV.ptr 38008 v8 0), (9, HV.ptr 38009 v9 0)], [(57015, mw, .kmap es), (38008, v8, .arr 1 77 [SH g mark (ftabL mark) (nextE g) mw]), (38009, v9, .arr 1 79 [HV.ar 38033 v33 4 0 (startF g mark n).length]), (38033, v33, .arr 4 81 (ePl.E (startF g mark n)))]⟩) ?_ ?_
  rotate_left
  · rintro e s1 ⟨rfl, es, v33, hm, hao, hle⟩
    refine ⟨_, hle, ?_⟩
    unfold badF
    generalize (startF g mark n) = l at hao hle ⊢
    have hll : l.length ≤ 1000000 := C.bnd l n hao.1 hao.2
    refine AW.seq ?_
    refine AW.rgs rfl fun K hK => ?_
    refine bv rfl (v_loadP ty79 rfl rfl (l_lit rfl rfl)) ?_
    refine bv rfl (v_lenA rfl rfl ty79 rfl rfl) ?_
    refine bv rfl (v_bin rfl rfl b_eql) ?_
    refine b_nil (hK _ (AW.to (to_le (s' := ⟨[(3, HV.fptr [HV.int .i64 g.1, HV.int .i64 g.2.1, slE eFromLabelTo g.2.2] 0), (8, HV.ptr 38008 v8 0), (9, HV.ptr 38009 v9 0), (37, HV.bool (decide (((l.length : Nat) : Int) = 0)))], [(57015, mw, .kmap es), (38008, v8, .arr 1 77 [SH g mark (ftabL mark) (nextE g) mw]), (38009, v9, .arr 1 79 [HV.ar 38033 v33 4 0 l.length]), (38033, v33, .arr 4 81 (ePl.E l))]⟩) ⟨leS_get ⟨rfl, rfl, rfl, rfl, trivial⟩, fun _ _ h => h⟩ ?_)))
    clear hK K
    refine AW.cond rfl (fun hc => ?_) (fun hc => ?_)
    · have hc := of_decide_eq_true hc
      have hl : l = [] := by
        cases l with
        | nil => rfl
        | cons a b => simp at hc; omega
      rw [if_pos hl]
      refine AW.rgs rfl fun K hK => ?_
      refine mv rfl rfl ?_
      refine mv rfl rfl ?_
      refine b_nil (hK _ (AW.to (to_le (s' := ⟨[(6, HV.str []), (7, HV.bool false)], []⟩) ⟨leS_get ⟨rfl, rfl, trivial⟩, (fun _ _ h => by cases h)⟩ ?_)))
      clear hK K
      refine AW.ret ?_
      exact ret_pure (hs := [HV.str [], HV.bool false]) (.inr rfl) (resT rfl (resT rfl rfl)) rfl ⟨trivial, trivial, trivial⟩
    have hc := of_decide_eq_false hc
    have hl : l ≠ [] := by rintro rfl; exact hc rfl
    rw [if_neg hl]
    refine AW.skip ?_
    refine AW.to (to_fill 2 [(38033, v33, .arr 4 81 (ePl.E l))] ⟨[(3, HV.fptr [HV.int .i64 g.1, HV.int .i64 g.2.1, slE eFromLabelTo g.2.2] 0), (8, HV.ptr 38008 v8 0), (9, HV.ptr 38009 v9 0)], [(57015, mw, .kmap es), (38008, v8, .arr 1 77 [SH g mark (ftabL mark) (nextE g) mw]), (38009, v9, .arr 1 79 [slE ePl l])]⟩ ⟨⟨_, rfl, rfl⟩, ⟨_, rfl, rfl⟩, ⟨_, rfl, rfl⟩, trivial⟩ ⟨.inl rfl, .inl rfl, .inr ⟨1, 79, [HV.ar 38033 v33 4 0 l.length], rfl, ?_⟩, trivial⟩ ⟨rfl, trivial⟩ ⟨rfl, trivial⟩ ?_)
    · show AObj.arr 1 79 [slE ePl l] = .arr 1 79 [frz 2 [(38033, v33, .arr 4 81 (ePl.E l))] (HV.ar 38033 v33 4 0 l.length)]
      exact congrArg (fun z => AObj.arr 1 79 [z]) (frz_slE ePl (l := l) rfl fun _ _ => rfl).symm
    refine AW.rgs rfl fun K hK => ?_
    refine b_op rfl (o_alloc (fid := 38) (zs := [HV.v (.pointer none), HV.v (.slice none 0 0)]) 38012 rfl rfl ty86 rfl (fun v12 => ?_))
    refine b_to (to_ownC 38512 38012 v12 2 1 1 5 86 rfl rfl (by decide) fun vB => ?_)
    refine b_nil (hK _ (AW.to (to_le (s' := ⟨[(3, HV.fptr [HV.int .i64 g.1, HV.int .i64 g.2.1, slE eFromLabelTo g.2.2] 0), (8, HV.ptr 38008 v8 0), (9, HV.ptr 38009 v9 0), (12, HV.ptr 38012 v12 0)], [(57015, mw, .kmap es), (38009, v9, .arr 1 79 [slE ePl l]), (38008, v8, .arr 1 77 [SH g mark (ftabL mark) (nextE g) mw]), (38012, v12, bldO 38012 v12 38512 vB false []), (38512, vB, bytO [])]⟩) ⟨leS_get ⟨rfl, rfl, rfl, rfl, trivial⟩, leH_get ⟨rfl, rfl, rfl, rfl, rfl, trivial⟩⟩ ?_)))
    clear hK K
    refine AW.rgs rfl fun K hK => ?_
    refine b_op rfl (o_alloc (fid := 38) (zs := [HV.v .nilFunc]) 38013 rfl rfl ty1 rfl (fun v13 => ?_))
    refine b_nil (hK _ ?_)
    clear hK K
    refine AW.rgs rfl fun K hK => ?_
    refine bv rfl (v_func rfl rfl) ?_
    refine b_op rfl (o_store (cs := [HV.fn (.func 59) [] (gcaps g v8 v9 v12 v13)]) (zs := [HV.fn (.func 59) [] (gcaps g v8 v9 v12 v13)]) rfl rfl rfl ty1 rfl rfl rfl rfl rfl ?_)
    refine b_nil (hK _ (AW.to (to_le (s' := ⟨[(12, HV.ptr 38012 v12 0), (13, HV.ptr 38013 v13 0)], (57015, mw, .kmap es) :: hB g mark (ftabL mark) (nextE g) mw v8 v9 v12 v13 l [] false vB⟩) ⟨leS_get ⟨rfl, rfl, trivial⟩, leH_get ⟨rfl, rfl, rfl, rfl, rfl, rfl, trivial⟩⟩ ?_)))
    clear hK K
    have hnn : ((n.toNat : Nat) : Int) = n := Int.toNat_of_nonneg hn0
    refine AW.rgs rfl fun K hK => ?_
    refine bv rfl (v_loadP ty1 rfl rfl (l_lit rfl rfl)) ?_
    refine b_op rfl (o_callA rfl rfl rfl rfl ((grow_call C ⟨hl0, hl1⟩ n.toNat l es [] false vB (by rw [hnn]; exact hao) hl (by simp only [List.length_nil]; omega) hm).mono fun r H' he => ?_))
    obtain ⟨rfl, u2, av2, hle2⟩ := he
    rw [List.nil_append] at hle2
    generalize hwd : growF (canP g.2.2 mark) (stepF mark) (leav g.2.2) g.1 n.toNat l = wd at hle2
    refine b_nil (hK _ (AW.to (to_le (s' := ⟨[(12, HV.ptr 38012 v12 0)], [(38012, v12, bldO 38012 v12 38512 av2 u2 wd), (38512, av2, bytO wd)]⟩) ⟨leS_get ⟨rfl, trivial⟩, hle2⟩ ?_)))
    clear hK K
    refine AW.rgs rfl fun K hK => ?_
    refine b_op rfl (o_callA rfl rfl rfl rfl (c_String (id := 38012) (ver := v12) (aid := 38512) (aver := av2) (u := u2) (l := wd) rfl rfl fun av3 => ?_))
    refine mv rfl rfl ?_
    refine mv rfl rfl ?_
    refine b_nil (hK _ (AW.to (to_le (s' := ⟨[(6, HV.str wd), (7, HV.bool true)], []⟩) ⟨leS_get ⟨rfl, rfl, trivial⟩, (fun _ _ h => by cases h)⟩ ?_)))
    clear hK K
    refine AW.ret ?_
    exact ret_pure (hs := [HV.str wd, HV.bool true]) (.inr rfl) (resT rfl (resT rfl rfl)) (by rw [← hwd]; rfl) ⟨trivial, trivial, trivial⟩
  refine AW.rgs rfl fun K hK => ?_
  refine bv rfl (v_fieldAddrF fo24_1 rfl) ?_
  refine bv rfl (v_loadF ty3 rfl (l_lit rfl rfl)) ?_
  refine mv rfl rfl ?_
  refine b_nil (hK _ (AW.to (to_le (s' := ⟨[(1, HV.str mark), (2, HV.int .i64 n), (3, HV.fptr [HV.int .i64 g.1, HV.int .i64 g.2.1, slE eFromLabelTo g.2.2] 0), (8, HV.ptr 38008 v8 0), (9, HV.ptr 38009 v9 0), (18, HV.int .i64 g.2.1), (19, HV.int .i64 0)], [(57015, mw, .kmap []), (38008, v8, .arr 1 77 [SH g mark (ftabL mark) (nextE g) mw]), (38009, v9, .arr 1 79 [HV.ar 38033 v33 4 0 ([] : List TPl).length]), (38033, v33, .arr 4 81 (ePl.E ([] : List TPl)))]⟩) ⟨leS_get ⟨rfl, rfl, rfl, rfl, rfl, rfl, rfl, trivial⟩, fun _ _ h => h⟩ ?_)))
  clear hK K
  refine AW.block ?_
  refine AW.loopS (fun s : Nat × List (Value × Value) × List TPl × Nat => ⟨[(1, HV.str mark), (2, HV.int .i64 n), (3, HV.fptr [HV.int .i64 g.1, HV.int .i64 g.2.1, slE eFromLabelTo g.2.2] 0), (8, HV.ptr 38008 v8 0), (9, HV.ptr 38009 v9 0), (18, HV.int .i64 g.2.1), (19, HV.int .i64 (s.1 : Int))], [(57015, mw, .kmap s.2.1), (38008, v8, .arr 1 77 [SH g mark (ftabL mark) (nextE g) mw]), (38009, v9, .arr 1 79 [HV.ar 38033 s.2.2.2 4 0 s.2.2.1.length]), (38033, s.2.2.2, .arr 4 81 (ePl.E s.2.2.1))]⟩)
    (fun s => s.1 ≤ Sn ∧ MOk (canP g.2.2 mark) (okP g mark) s.2.1 ∧ AOk (okP g mark) n s.2.2.1 ∧ s.2.2.1 = ((List.range s.1).map (fun (t : Nat) => (((t : Int), (mark.length : Int), false, n) : TStateReadBadLeft))).filter fun p => canP g.2.2 mark p) (fun s => Sn - s.1) (0, [], [], v33) (AS.le_refl _) ⟨Nat.zero_le _, (fun e he => by cases he), ⟨List.nodup_nil, (fun e he => by cases he)⟩, rfl⟩ ?_
  clear v33
  rintro ⟨i, es, l, v33⟩ ⟨hi, hm, hao, hl⟩
  simp only at hi hm hao hl ⊢
  have hll : l.length ≤ 1000000 := C.bnd l n hao.1 hao.2
  refine AW.rgs rfl fun K hK => ?_
  refine bv rfl (v_bin rfl rfl b_lss) ?_
  refine b_nil (hK _ (AW.to (to_le (s' := ⟨[(1, HV.str mark), (2, HV.int .i64 n), (3, HV.fptr [HV.int .i64 g.1, HV.int .i64 g.2.1, slE eFromLabelTo g.2.2] 0), (8, HV.ptr 38008 v8 0), (9, HV.ptr 38009 v9 0), (18, HV.int .i64 g.2.1), (19, HV.int .i64 (i : Int)), (20, HV.bool (decide ((i : Int) < g.2.1)))], [(57015, mw, .kmap es), (38008, v8, .arr 1 77 [SH g mark (ftabL mark) (nextE g) mw]), (38009, v9, .arr 1 79 [HV.ar 38033 v33 4 0 l.length]), (38033, v33, .arr 4 81 (ePl.E l))]⟩) ⟨leS_get ⟨rfl, rfl, rfl, rfl, rfl, rfl, rfl, rfl, trivial⟩, fun _ _ h => h⟩ ?_)))
  clear hK K
  refine AW.cseq rfl (fun hc => ?_) (fun hc => ?_)
  · have hc := of_decide_eq_true hc
    have hiS : i < Sn := by omega
    have hwi : IntKind.wrap .i64 ((i : Int) + 1) = ((i + 1 : Nat) : Int) := by rw [w64 (by omega) (by omega)]; omega
    obtain ⟨p, hp⟩ : ∃ p : TPl, p = ((i : Int), (mark.length : Int), false, n) := ⟨_, rfl⟩
    have hpok : okP g mark p := by rw [hp]; exact ⟨⟨(show (0 : Int) ≤ (i : Int) by omega), (show (i : Int) < g.2.1 by omega)⟩, ⟨(show (0 : Int) ≤ (mark.length : Int) by omega), Int.le_refl _⟩, hn0, hn1⟩
    have hpl : p.2.2.2 = n := by rw [hp]
    have hnx : (((List.range (i + 1)).map (fun (t : Nat) => (((t : Int), (mark.length : Int), false, n) : TStateReadBadLeft))).filter fun p => canP g.2.2 mark p) = if canP g.2.2 mark p = true then l ++ [p] else l := by
      rw [List.range_succ, List.map_append, List.filter_append, ← hl, hp]
      show l ++ List.filter _ [_] = _
      rw [List.filter_cons]
      split
      · rfl
      · exact List.append_nil l
    have hpn : p ∉ l := by
      rw [hl]
      intro hm
      obtain ⟨k, hk, e⟩ := List.mem_map.1 (List.mem_filter.1 hm).1
      have hk := List.mem_range.1 hk
      rw [hp] at e
      have := congrArg Prod.fst e
      simp only at this
      omega
    refine AW.skip ?_
    refine AW.seq (AW.block ?_)
    refine AW.rgs rfl fun K hK => ?_
    refine mv rfl rfl ?_
    refine mv rfl rfl ?_
    refine b_nil (hK _ (AW.to (to_le (s' := ⟨[(1, HV.str mark), (2, HV.int .i64 n), (3, HV.fptr [HV.int .i64 g.1, HV.int .i64 g.2.1, slE eFromLabelTo g.2.2] 0), (8, HV.ptr 38008 v8 0), (9, HV.ptr 38009 v9 0), (18, HV.int .i64 g.2.1), (10, HV.int .i64 (i : Int)), (19, HV.int .i64 (i : Int))], [(57015, mw, .kmap es), (38008, v8, .arr 1 77 [SH g mark (ftabL mark) (nextE g) mw]), (38009, v9, .arr 1 79 [HV.ar 38033 v33 4 0 l.length]), (38033, v33, .arr 4 81 (ePl.E l))]⟩) ⟨leS_get ⟨rfl, rfl, rfl, rfl, rfl, rfl, rfl, rfl, trivial⟩, fun _ _ h => h⟩ ?_)))
    clear hK K
    refine AW.rgs rfl fun K hK => ?_
    refine mv rfl rfl ?_
    refine mv rfl rfl ?_
    refine bv rfl (v_lenS rfl rfl ty9 rfl) ?_
    refine mv rfl rfl ?_
    refine b_op rfl (o_build (cs := [HV.int .i64 (i : Int), HV.int .i64 (mark.length : Int), HV.bool false, HV.int .i64 n]) rfl (bl_of ty81 rfl rfl rfl rfl) ?_)
    rw [show ([HV.int .i64 (i : Int), HV.int .i64 (mark.length : Int), HV.bool false, HV.int .i64 n] : List HV) = cStateReadBadLeft p by rw [hp]]
    refine b_op rfl (o_alloc (fid := 38) (zs := [HV.int .i64 0, HV.int .i64 0, HV.bool false, HV.int .i64 0]) 38011 rfl rfl ty81 rfl (fun v11 => ?_))
    refine b_op rfl (o_store (cs := cStateReadBadLeft p) (zs := cStateReadBadLeft p) rfl rfl rfl ty81 rfl rfl rfl rfl rfl ?_)
    refine b_nil (hK _ (AW.to (to_le (s' := ⟨[(1, HV.str mark), (2, HV.int .i64 n), (3, HV.fptr [HV.int .i64 g.1, HV.int .i64 g.2.1, slE eFromLabelTo g.2.2] 0), (8, HV.ptr 38008 v8 0), (9, HV.ptr 38009 v9 0), (18, HV.int .i64 g.2.1), (11, HV.ptr 38011 v11 0), (19, HV.int .i64 (i : Int))], (57015, mw, .kmap es) :: (38011, v11, .arr 4 81 (cStateReadBadLeft p)) :: [(38008, v8, .arr 1 77 [SH g mark (ftabL mark) (nextE g) mw]), (38009, v9, .arr 1 79 [HV.ar 38033 v33 4 0 l.length]), (38033, v33, .arr 4 81 (ePl.E l))]⟩) ⟨leS_get ⟨rfl, rfl, rfl, rfl, rfl, rfl, rfl, rfl, trivial⟩, leH_get ⟨rfl, rfl, rfl, rfl, rfl, trivial⟩⟩ ?_)))
    clear hK K
    refine AW.rgs rfl fun K hK => ?_
    refine bv rfl (v_loadP ty77 rfl rfl (l_lit rfl rfl)) ?_
    refine bv rfl (v_loadP ty81 rfl rfl (l_litA rfl (Nat.le_of_ble_eq_true rfl) rfl)) ?_
    refine b_op rfl (o_callA rfl rfl rfl rfl ((can_call C p.2.2.2.toNat p es _ hpok rfl hm (noIt_arr (noIt_arr (noIt_arr (noIt_arr noIt_nil)))) rfl).mono fun r H' he => ?_))
    obtain ⟨rfl, es2, hm2, hle⟩ := he
    refine b_nil (hK _ (AW.to (to_le (s' := ⟨[(1, HV.str mark), (2, HV.int .i64 n), (3, HV.fptr [HV.int .i64 g.1, HV.int .i64 g.2.1, slE eFromLabelTo g.2.2] 0), (8, HV.ptr 38008 v8 0), (9, HV.ptr 38009 v9 0), (18, HV.int .i64 g.2.1), (11, HV.ptr 38011 v11 0), (19, HV.int .i64 (i : Int)), (29, HV.bool (canP g.2.2 mark p))], (57015, mw, .kmap es2) :: (38011, v11, .arr 4 81 (cStateReadBadLeft p)) :: [(38008, v8, .arr 1 77 [SH g mark (ftabL mark) (nextE g) mw]), (38009, v9, .arr 1 79 [HV.ar 38033 v33 4 0 l.length]), (38033, v33, .arr 4 81 (ePl.E l))]⟩) ⟨leS_get ⟨rfl, rfl, rfl, rfl, rfl, rfl, rfl, rfl, rfl, trivial⟩, hle⟩ ?_)))
    clear hK K
    refine AW.cond rfl (fun hc => ?_) (fun hc => ?_)
    · have hao2 : AOk (okP g mark) n (l ++ [p]) := by
        refine ⟨List.nodup_append.2 ⟨hao.1, by simp, fun y hy z hz e => hpn (by rw [← List.mem_singleton.1 hz, ← e]; exact hy)⟩, fun y hy => ?_⟩
        rcases List.mem_append.1 hy with h | h
        · exact hao.2 y h
        · rw [List.mem_singleton.1 h]; exact ⟨hpok, hpl⟩
      refine AW.rg rfl fun K hK => ?_
      refine bv rfl (v_loadP ty79 rfl rfl (l_lit rfl rfl)) ?_
      refine bv rfl (v_loadP ty81 rfl rfl (l_litA rfl (Nat.le_of_ble_eq_true rfl) rfl)) ?_
      refine b_op rfl (o_bsl rfl rfl (as_of (cs := cStateReadBadLeft p) ty79 ty81 rfl rfl rfl rfl rfl) ?_)
      refine b_op rfl (o_appE ePl (l := l) (m := [p]) rfl rfl ty79 ty79 ty81 rfl rfl rfl rfl rfl ⟨by simp only [List.length_singleton]; omega, by simp only [maxLen, List.length_singleton]; omega⟩ (fun v2 => ?_))
      refine b_op rfl (o_store (cs := [HV.ar 38033 v2 4 0 (l ++ [p]).length]) (zs := [HV.ar 38033 v2 4 0 (l ++ [p]).length]) rfl rfl rfl ty79 rfl rfl rfl rfl rfl ?_)
      refine b_nil (hK _ (AW.to (to_le (s' := ⟨[(1, HV.str mark), (2, HV.int .i64 n), (3, HV.fptr [HV.int .i64 g.1, HV.int .i64 g.2.1, slE eFromLabelTo g.2.2] 0), (8, HV.ptr 38008 v8 0), (9, HV.ptr 38009 v9 0), (18, HV.int .i64 g.2.1), (19, HV.int .i64 (i : Int))], [(57015, mw, .kmap es2), (38008, v8, .arr 1 77 [SH g mark (ftabL mark) (nextE g) mw]), (38009, v9, .arr 1 79 [HV.ar 38033 v2 4 0 (l ++ [p]).length]), (38033, v2, .arr 4 81 (ePl.E (l ++ [p])))]⟩) ⟨leS_get ⟨rfl, rfl, rfl, rfl, rfl, rfl, rfl, trivial⟩, leH_get ⟨rfl, rfl, rfl, rfl, trivial⟩⟩ ?_)))
      clear hK K
      refine AW.rg rfl fun K hK => ?_
      refine bv rfl (v_bin rfl rfl b_add) ?_
      refine mv rfl rfl ?_
      refine b_nil (hK _ ?_)
      clear hK K
      exact ⟨(i + 1, es2, l ++ [p], v2), ⟨by simp only; omega, hm2, hao2, by simp only; rw [hnx, if_pos hc]⟩, by simp only; omega, ⟨leS_get ⟨rfl, rfl, rfl, rfl, rfl, rfl, by rw [← hwi]; rfl, trivial⟩, leH_get ⟨rfl, rfl, rfl, rfl, trivial⟩⟩⟩
    refine AW.skip ?_
    refine AW.rg rfl fun K hK => ?_
    refine bv rfl (v_bin rfl rfl b_add) ?_
    refine mv rfl rfl ?_
    refine b_nil (hK _ ?_)
    clear hK K
    exact ⟨(i + 1, es2, l, v33), ⟨by simp only; omega, hm2, hao, by simp only; rw [hnx, if_neg (by rw [hc]; decide)]⟩, by simp only; omega, ⟨leS_get ⟨rfl, rfl, rfl, rfl, rfl, rfl, by rw [← hwi]; rfl, trivial⟩, leH_get ⟨rfl, rfl, rfl, rfl, trivial⟩⟩⟩
  have hc := of_decide_eq_false hc
  have hiS : i = Sn := by omega
  have hls : l = (startF g mark n) := by
    rw [hl, hiS]
    unfold startF
    rw [hSn, Int.toNat_natCast]
  refine AW.exit ?_
  rw [← hls]
  exact ⟨rfl, es, v33, hm, hao, ⟨leS_get ⟨rfl, rfl, rfl, trivial⟩, fun _ _ h => h⟩⟩
end Go.AW

/- word.occurrences: where a word stands in another. -/
namespace Go.AW
open Go Go.Proofs
set_option linter.unusedVariables false
set_option maxRecDepth 100000 in
theorem iy_word_occurrences {u w : List UInt8} {L : List Int} (h : y_word_occurrences u w = some L) : Yields Tryz.prog 98 [] [HV.fptr [HV.str u] 0, HV.fptr [HV.str w] 0] (L.map fun x => [HV.int .i64 x]) := by
  unfold y_word_occurrences at h
  split at h
  case isFalse => cases h
  rename_i hm
  cases h
  obtain ⟨hm, hul⟩ := hm
  intro id ver H J Stop K hmn h0 hstep hdone hstop
  refine ACall.of_body Tryz.func98 rfl rfl (Nat.le_of_ble_eq_true rfl) ?_
  unfold Tryz.f98
  dsimp only [enumS, Nat.reduceAdd]
  refine AW.rgs rfl fun K1 hK => ?_
  refine mv rfl rfl ?_
  refine b_nil (hK _ (AW.to (to_le (s' := ⟨[(0, .yl id ver), (1, HV.fptr [HV.str u] 0), (2, HV.fptr [HV.str w] 0), (4, .int .i64 ((0 : Nat) : Int))], H⟩) (le_slH ⟨rfl, rfl, rfl, rfl, trivial⟩) ?_)))
  clear hK K1
  refine AW.block ?_
  refine AW.loopS (fun p : Nat × Heap => ⟨[(0, .yl id ver), (1, HV.fptr [HV.str u] 0), (2, HV.fptr [HV.str w] 0), (4, .int .i64 (p.1 : Int))], p.2⟩)
    (fun p => p.1 ≤ w.length + 1 ∧ J (occB w u p.1).length p.2) (fun p => w.length + 1 - p.1) (0, H) (AS.le_refl _) ⟨Nat.zero_le _, h0⟩ ?_
  rintro ⟨a, H1⟩ ⟨ha, hj⟩
  dsimp only at ha hj ⊢
  have hwa : IntKind.wrap .i64 ((a : Int) + (u.length : Int)) = (a : Int) + (u.length : Int) := w64 (by omega) (by omega)
  refine AW.seq ?_
  refine AW.rgs rfl fun K1 hK => ?_
  refine mv rfl rfl ?_
  refine bv rfl (v_loadF ty9 rfl (l_lit rfl rfl)) ?_
  refine bv rfl (v_lenS rfl rfl ty9 rfl) ?_
  refine bv rfl (v_bin rfl rfl b_add) ?_
  rw [hwa]
  refine bv rfl (v_loadF ty9 rfl (l_lit rfl rfl)) ?_
  refine bv rfl (v_lenS rfl rfl ty9 rfl) ?_
  refine bv rfl (v_bin rfl rfl b_leq) ?_
  refine b_nil (hK _ (AW.to (to_le (s' := ⟨[(0, .yl id ver), (1, HV.fptr [HV.str u] 0), (2, HV.fptr [HV.str w] 0), (4, .int .i64 (a : Int)), (12, .bool (decide ((a : Int) + (u.length : Int) ≤ (w.length : Int))))], H1⟩) (le_slH ⟨rfl, rfl, rfl, rfl, rfl, trivial⟩) ?_)))
  clear hK K1
  refine AW.cond rfl (fun hc => ?_) (fun hc => ?_)
  · have hc := of_decide_eq_true hc
    have hal : a ≤ w.length := by omega
    refine AW.skip ?_
    refine AW.block ?_
    have hsl : ((w.take ((w.length : Nat) : Int).toNat).drop ((a : Nat) : Int).toNat) = w.drop a := by rw [Int.toNat_natCast, Int.toNat_natCast, List.take_length]
    refine AW.dgs 6 follows rfl rfl fun K1 hK => ?_
    refine sv rfl (v_loadF ty9 rfl (l_lit rfl rfl)) ?_
    refine sm rfl rfl ?_
    refine sv rfl (v_sliceS ty9 rfl rfl rfl (show 0 ≤ (a : Int) ∧ (a : Int) ≤ (w.length : Int) ∧ (w.length : Int) ≤ (w.length : Int) by omega)) ?_
    refine sv rfl (v_loadF ty9 rfl (l_lit rfl rfl)) ?_
    rw [hsl]
    have hix : m_strings_Index (w.drop a) u = some (Lib.index (w.drop a) u) := by unfold m_strings_Index; rw [if_pos (by rw [List.length_drop]; omega)]
    refine s_op rfl rfl (ops_call rfl rfl rfl rfl (ACallD.pure0 (w_strings_Index hix)) ?_)
    refine sm rfl rfl ?_
    refine s_nil ?_
    generalize hIX : Lib.index (w.drop a) u = ix
    refine b_nil (hK _ (AW.to (to_le (s' := ⟨[(0, .yl id ver), (1, HV.fptr [HV.str u] 0), (2, HV.fptr [HV.str w] 0), (4, .int .i64 (a : Int)), (5, .int .i64 ix)], H1⟩) (le_slH ⟨rfl, rfl, rfl, rfl, rfl, trivial⟩) ?_)))
    clear hK K1
    have htell := index_tells w u hal
    rw [hIX] at htell
    refine AW.seq ?_
    refine AW.rgs rfl fun K1 hK => ?_
    refine mv rfl rfl ?_
    refine bv rfl (v_bin rfl rfl b_lss) ?_
    refine mv rfl rfl ?_
    rcases htell with ⟨hneg, hno⟩ | ⟨k, hk, hkl, hkn, hkp⟩
    · refine b_F rfl rfl rfl rfl rfl (decide_eq_true hneg) ?_
      refine b_F rfl rfl rfl rfl rfl rfl ?_
      refine b_F rfl rfl rfl rfl rfl rfl ?_
      refine b_F rfl rfl rfl rfl rfl rfl ?_
      refine b_F rfl rfl rfl rfl rfl rfl ?_
      refine b_F rfl rfl rfl rfl rfl rfl ?_
      refine bv rfl (v_pickT rfl rfl rfl) ?_
      refine b_nil (hK _ (AW.to (to_le (s' := ⟨[(27, .bool true)], H1⟩) (le_slH ⟨rfl, trivial⟩) ?_)))
      clear hK K1
      refine AW.cond rfl (fun _ => ?_) (fun hc => by cases hc)
      refine AW.ret ⟨.inr rfl, ?_⟩
      simp only [go_sem, reduceIte, Nat.reduceEqDiff]
      refine ⟨_, _, Conv.refl _ _, hdone _ ?_⟩
      rw [List.length_map, show occL w u = occB w u a from occ_none (by omega) hno]
      exact hj
    · subst hk
      have hocc := occ_one (w := w) (u := u) (a := a) (i := a + k) (by omega) hkn hkp
      have hwk : IntKind.wrap .i64 ((a : Int) + (k : Int)) = ((a + k : Nat) : Int) := by rw [w64 (by omega) (by omega)]; omega
      refine b_T rfl rfl rfl rfl (decide_eq_false (by omega)) (o_val rfl (mv_val rfl rfl).2 ?_)
      refine b_T rfl rfl rfl rfl rfl (o_val rfl (mv_val rfl rfl).2 ?_)
      refine b_T rfl rfl rfl rfl rfl (o_val rfl (mv_val rfl rfl).2 ?_)
      refine b_T rfl rfl rfl rfl rfl (o_val rfl (v_bin rfl rfl b_add) ?_)
      rw [hwk]
      refine b_T rfl rfl rfl rfl rfl (o_yield (hs := [HV.int .i64 ((a + k : Nat) : Int)]) rfl rfl rfl ?_)
      refine (hstep (occB w u a).length [HV.int .i64 ((a + k : Nat) : Int)] _ ?_ hj).mono ?_
      · have hsp := occB_split w u (a := a + k + 1) (b := w.length + 1) (by omega)
        show ((occL w u).map _)[_]? = _
        unfold occL
        rw [hsp, hocc, List.map_append, List.map_append, List.append_assoc, List.getElem?_append_right (by rw [List.length_map]; exact Nat.le_refl _), List.length_map, Nat.sub_self]
        rfl
      rintro r H2 ⟨b, rfl, h3, h4⟩
      refine b_T rfl rfl rfl rfl rfl (o_val rfl (v_not rfl) ?_)
      refine bv rfl (v_pickF rfl rfl rfl) ?_
      refine b_nil (hK _ (AW.to (to_le (s' := ⟨[(0, .yl id ver), (1, HV.fptr [HV.str u] 0), (2, HV.fptr [HV.str w] 0), (4, .int .i64 (a : Int)), (5, .int .i64 (k : Int)), (27, .bool (!b))], H2⟩) (le_slH ⟨rfl, rfl, rfl, rfl, rfl, rfl, trivial⟩) ?_)))
      clear hK K1
      refine AW.cond rfl (fun hc => ?_) (fun hc => ?_)
      · have hb : b = false := by simpa using hc
        refine AW.ret ⟨.inr rfl, ?_⟩
        simp only [go_sem, reduceIte, Nat.reduceEqDiff]
        exact ⟨_, _, Conv.refl _ _, hstop _ (h4 hb)⟩
      · have hb : b = true := by simpa using hc
        have hw1 : IntKind.wrap .i64 ((k : Int) + 1) = ((k + 1 : Nat) : Int) := by rw [w64 (by omega) (by omega)]; omega
        have hw2 : IntKind.wrap .i64 ((a : Int) + ((k + 1 : Nat) : Int)) = ((a + k + 1 : Nat) : Int) := by rw [w64 (by omega) (by omega)]; omega
        refine AW.skip ?_
        refine AW.rg rfl fun K1 hK => ?_
        refine mv rfl rfl ?_
        refine mv rfl rfl ?_
        refine bv rfl (v_bin rfl rfl b_add) ?_
        rw [hw1]
        refine bv rfl (v_bin rfl rfl b_add) ?_
        rw [hw2]
        refine mv rfl rfl ?_
        refine b_nil (hK _ ?_)
        clear hK K1
        refine ⟨(a + k + 1, H2), ⟨by dsimp only; omega, ?_⟩, by dsimp only; omega, le_slH ⟨rfl, rfl, rfl, rfl, trivial⟩⟩
        dsimp only
        rw [hocc, List.length_append]
        exact h3 hb
  · have hc := of_decide_eq_false hc
    refine AW.exit ?_
    refine ⟨.inl rfl, ?_⟩
    simp only [go_sem, reduceIte, Nat.reduceEqDiff]
    refine ⟨_, _, Conv.refl _ _, hdone _ ?_⟩
    have hno : ∀ i, a ≤ i → i < w.length + 1 → u.isPrefixOf (w.drop i) = false := fun i h1 h2 => by
      cases hx : u.isPrefixOf (w.drop i) with
      | false => rfl
      | true =>
        have := prefix_len hx
        rw [List.length_drop] at this
        omega
    rw [List.length_map, show occL w u = occB w u a from occ_none ha hno]
    exact hj
end Go.AW

/- Models, printed by lk.py. -/
namespace Go.AW
open Go
set_option linter.unusedVariables false
end Go.AW

/- Models, printed by lk.py. -/
namespace Go.AW
open Go
set_option linter.unusedVariables false
end Go.AW

/- Models, printed by lk.py. -/
namespace Go.AW
open Go
set_option linter.unusedVariables false
end Go.AW

/- Models, printed by lk.py. -/
namespace Go.AW
open Go
set_option linter.unusedVariables false
end Go.AW

/- The letters that can follow in a set of states. -/
namespace Go.AW
open Go
end Go.AW

/- Models, printed by lk.py. -/
namespace Go.AW
open Go
set_option linter.unusedVariables false
end Go.AW

/- Models, printed by lk.py. -/
namespace Go.AW
open Go
set_option linter.unusedVariables false
end Go.AW

/- Entries of a map that a predicate names are deleted. -/
namespace Go.AW
open Go
end Go.AW

/- Models, printed by lk.py. -/
namespace Go.AW
open Go
set_option linter.unusedVariables false
end Go.AW

/- Models, printed by lk.py. -/
namespace Go.AW
open Go
set_option linter.unusedVariables false
noncomputable def m_syncmark_check (p0 : TLabelsStatesEdges) (p1 : List UInt8) : Option (Int) :=
 (m_graph_Check p0).bind fun x1 =>
 if x1 ≠ 0 then
  some 1
 else
  if 16 < p0.1 then
   some 12
  else
   if p1 = ([] : List UInt8) then
    some 5
   else
    if 32 < ((p1).length : Int) then
     some 4
    else
     (m_word_Check p0.1 p1).bind fun x3 =>
     some x3

noncomputable def m_syncmark_checkNumber (p0 : TLabelsStatesEdges) (p1 : List UInt8) (p2 : Int) : Option (Int) :=
 (m_syncmark_check p0 p1).bind fun x1 =>
 if x1 ≠ 0 then
  some x1
 else
  jp (fun (a3 : Bool) =>
    if a3 = true then
     some 2
    else
     some 0)
    fun k5 =>
   if p2 < 0 then
    k5 true
   else
    k5 (decide (4096 < p2))

noncomputable def m_syncmark_Valid (p0 : TLabelsStatesEdges) (p1 : List UInt8) (p2 : Int) : Option (Bool × Int) :=
 (m_syncmark_checkNumber p0 p1 p2).bind fun x1 =>
 if x1 ≠ 0 then
  some (false, x1)
 else
  (m_syncmark_bad p0 p1 p2).bind fun x3 =>
  some (!x3.2, 0)

noncomputable def m_syncmark_Bad (p0 : TLabelsStatesEdges) (p1 : List UInt8) (p2 : Int) : Option ((List UInt8) × Bool × Int) :=
 (m_syncmark_checkNumber p0 p1 p2).bind fun x1 =>
 if x1 ≠ 0 then
  some (([] : List UInt8), false, x1)
 else
  (m_syncmark_bad p0 p1 p2).bind fun x3 =>
  some (x3.1, x3.2, 0)

noncomputable def m_syncmark_Free (p0 : TLabelsStatesEdges) (p1 : List UInt8) : Option (Bool × Int) :=
 (m_syncmark_check p0 p1).bind fun x1 =>
 if x1 ≠ 0 then
  some (false, x1)
 else
  (m_language_Accepts p0 p1).bind fun x3 =>
  jp (fun (a5 : Bool) =>
    some (a5, x3.2))
    fun k7 =>
   if x3.2 = 0 then
    k7 (!x3.1)
   else
    k7 false

noncomputable def m_word_Find (p0 : List UInt8) (p1 : List UInt8) : Option ((List (Int))) :=
 (y_word_occurrences p1 p0).bind fun L3 =>
 lpO (forL (S := (List Int)) (X := Unit) (fun a5 (x7 : Int) =>
     if fits 8 ((a5 : List Int).length + ([x7]).length) then
      some (Stp.next (a5 ++ [x7]))
     else none) L3 ([] : List Int)) (fun a13 =>
     some a13) fun a15 =>
     none

noncomputable def m_syncmark_Occurs (p0 : List UInt8) (p1 : List UInt8) : Option ((List (Int))) :=
 (m_word_Find p1 p0).bind fun x1 =>
 some x1

noncomputable def m_syncmark_Overlaps (p0 : List UInt8) : Option ((List (Int))) :=
 (loopW (S := Int × (List Int)) (X := (List Int)) (fun a1 =>
     if a1.1 < ((p0).length : Int) then
      jp (fun (a5 : (List Int)) =>
        some (Stp.next (IntKind.wrap .i64 (a1.1 + 1), a5)))
        fun k7 =>
       if 0 ≤ (0 : Int) ∧ (0 : Int) ≤ a1.1 ∧ a1.1 ≤ (p0.length : Int) then
        (m_strings_HasSuffix p0 ((p0.take (a1.1).toNat).drop (0 : Int).toNat)).bind fun x9 =>
        if x9 = true then
         if fits 8 ((a1.2 : List Int).length + ([a1.1]).length) then
          k7 (a1.2 ++ [a1.1])
         else none
        else
         k7 a1.2
       else none
     else
      some (Stp.exit a1.2)) (1, ([] : List Int))).bind fun a14 =>
 some a14

noncomputable def m_law54_awakeG  : Option (Bool) :=
 (m_syncmark_Valid (2, 2, [(0, 0, 0), (0, 1, 1), (1, 0, 0)]) [49, 49] 1).bind fun x2 =>
 (m_syncmark_Bad (2, 2, [(0, 0, 0), (0, 1, 1), (1, 0, 0)]) [49, 49] 1).bind fun x4 =>
 (m_syncmark_Valid (2, 2, [(0, 0, 0), (0, 1, 1), (1, 0, 0)]) [49, 49, 48] 1).bind fun x6 =>
 (m_syncmark_Free (2, 2, [(0, 0, 0), (0, 1, 1), (1, 0, 0)]) [49, 49, 48]).bind fun x8 =>
 jp (fun (a10 : Bool) =>
   some a10)
   fun k12 =>
  if x2.2 = 0 then
   if x4.2.2 = 0 then
    if x6.2 = 0 then
     if x8.2 = 0 then
      if (!x2.1) = true then
       if x4.1 = [49] then
        if x4.2.1 = true then
         if x6.1 = true then
          if x8.1 = true then
           (m_syncmark_Overlaps [48, 49, 49, 48]).bind fun x13 =>
           (m_slices_Equal_Lint_int x13 [1]).bind fun x15 =>
           if x15 = true then
            (m_syncmark_Occurs [49, 49] [49, 49, 49, 49, 49]).bind fun x17 =>
            (m_slices_Equal_Lint_int x17 [0, 1, 2, 3]).bind fun x19 =>
            k12 x19
           else
            k12 false
          else
           k12 false
         else
          k12 false
        else
         k12 false
       else
        k12 false
      else
       k12 false
     else
      k12 false
    else
     k12 false
   else
    k12 false
  else
   k12 false

end Go.AW

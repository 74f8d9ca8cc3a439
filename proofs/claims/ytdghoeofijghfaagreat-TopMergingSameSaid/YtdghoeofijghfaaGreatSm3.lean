import Derived.Test.YtdghoeofijghfaaGreatSm2
import Derived.Laws.Externs
import Derived.Lib.Builder
import Derived.Lib.Bytealg
import Derived.Lib.Slices
import Derived.Lib.Strings
import Derived.Lib.UnsafeStr
import Derived.Lib.Walk
import Derived.Shelf.RegionOpenPlain
import Derived.Shelf.Slices.CompactI
import Derived.Shelf.SortM.Plain
import Derived.Shelf.SortM.SortNone
import Derived.Test.YtdghoeofijghfaaGreatChecked
import Derived.Test.YtdghoeofijghfaaGreatProg
import Derived.WalkKit
namespace Go.AW
open Go
section
variable {P : Program} {N B : Nat} {s : AS} {ops : Array Oper} {o : Oper} {K : AS → Prop} {F : List Nat → AS → Prop} {L : List Nat}
def lit : HV → Bool
 | .int _ _ | .bool _ | .str _ => true
 | _ => false
theorem lit_rep {w w' : World} {μ μ' : Mu} {h : HV} {v : Value} (hl : lit h = true) (hr : Rep w μ h v) : Rep w' μ' h v := by
 cases h <;> first | exact hr | cases hl
theorem lit_uni {w w' : World} {μ μ' : Mu} {h : HV} {v v' : Value} (hl : lit h = true) (hr : Rep w μ h v) (hr' : Rep w' μ' h v') : v = v' := by
 cases h <;> first | (cases hl; done) | (exact hr.1.trans hr'.1.symm) | (exact Eq.trans hr (Eq.symm hr'))
def Free (P : Program) (o : Oper) (s : AS) (v : HV) : Prop := aval P o.op s (· = v) ∧ (∀ c, o.op ≠ .call c) ∧
 ∀ (B N : Nat) (μ : Mu) (a : Act) (w : World), SRel none N B μ s a w → ∃ u, ∀ w', (execOp a.eval o).run P w' = .ok (.value u) w'
theorem f_bin {op : BinOp} {tx : TypeId} {x y : Operand} {u : TypeId} {h g r : HV} (hop : o.op = .binOp op tx x y u) (hx : s.ev x = some h) (hy : s.ev y = some g) (hb : abinT P op tx h g (· = r)) (hl : (lit h && lit g && lit r) = true) : Free P o s r := by
 simp only [Bool.and_eq_true] at hl
 obtain ⟨⟨l1, l2⟩, l3⟩ := hl
 refine ⟨by rw [hop]; exact v_bin hx hy hb, (fun c e => by rw [hop] at e; cases e), fun B N μ a w hs => ?_⟩
 obtain ⟨q, hv, _, he, hr⟩ := abinT_sound (P := P) (w := w) (tx := tx) (hs.ev hx) (hs.ev hy) hb
 refine ⟨q, fun w' => ?_⟩
 have hx' := lit_rep (w' := w') (μ' := μ) l1 (hs.ev hx)
 have hy' := lit_rep (w' := w') (μ' := μ) l2 (hs.ev hy)
 obtain ⟨q', hv', h1, he', hr'⟩ := abinT_sound (P := P) (tx := tx) hx' hy' hb
 subst he
 subst he'
 have := lit_uni l3 hr hr'
 subst this
 simp [execOp, hop, abinT_guard hx' hy' hb, h1]
theorem f_ext {x : Operand} {i : Nat} {vs : List HV} {hv : HV} (hop : o.op = .extract x i) (hx : s.ev x = some (.tup vs)) (h : vs[i]? = some hv) : Free P o s hv := by
 refine ⟨by rw [hop]; exact v_extract hx h, (fun c e => by rw [hop] at e; cases e), fun B N μ a w hs => ?_⟩
 obtain ⟨us, he, hl⟩ := hs.ev hx
 obtain ⟨u, hu, hr⟩ := hl.get h
 exact ⟨u, fun w' => by simp [execOp, hop, he, Instr.extract, hu]⟩
def takeOkW (N : Nat) (ops : Array Oper) (L : List Nat) (i : Nat) : Bool := match ops[i]? with
 | some o => o.guard.isNone && okd N o.dst && noSel ops && !L.contains i && (da ops i).all L.contains && freeL ops L i && daOk ops
 | none => false
theorem l_takeW {i d : Nat} {v : HV} {sl : List (Nat × HV)} {H : Heap} (hF : F = AnyL P none N ops K) (ho : ops[i]? = some o) (hc : takeOkW N ops L i = true) (h0 : (o.dst, isVal o.op) = (some d, true)) (hv : Free P o ⟨sl, H⟩ v) (k : F (i :: L) ⟨(d, v) :: sl, H⟩) : F L ⟨sl, H⟩ := by
 subst hF
 obtain ⟨hv, hnc, hfr⟩ := hv
 intro w0 μ0 fuel listed μ1 a1 w1 hl hcn hlist hs hE
 unfold takeOkW at hc
 rw [ho] at hc
 simp only [Bool.and_eq_true, Bool.not_eq_true', List.all_eq_true] at hc
 obtain ⟨⟨⟨⟨⟨⟨hg, hN⟩, hsel⟩, hiL⟩, hready⟩, hfree⟩, hda⟩ := hc
 have hda' := daOk_spec hda
 have his : i < ops.size := (Array.getElem?_eq_some_iff.1 ho).1
 have hin : listed.getD i false = false := by rw [hlist i his]; exact hiL
 have hg' : o.guard = none := by
  cases h : o.guard with
  | none => rfl
  | some x => rw [h] at hg; cases hg
 cases fuel with
 | zero =>
  have := cnt_pos (listed := listed) (i := i) (by rw [getD_tf (by omega)]; exact hin)
  omega
 | succ fuel =>
  obtain ⟨u, hu⟩ := hfr _ _ _ _ _ hs
  have hop : AOp P none N o (AnyL P none N ops K (i :: L)) ⟨sl, H⟩ := l_one (fid := 0) (mt := []) hN (o_val h0 hv (b_nil k))
  have hwp := hop w0 μ0 μ1 a1 w1 (fun a w => wpAnyIn (fence none) 0 P .any ops (Post none N (fun e s' => e = .normal ∧ K s') w0 μ0) fuel (listed.setIfInBounds i true) a w) (fun _ _ _ => False) hs hE (fun μ2 s2 a2 w2 hk hs2 hE2 => hk w0 μ0 fuel _ μ2 a2 w2 (by simp [hl]) (by
   have := cnt_set (listed := listed) (i := i) (by rw [getD_tf (by omega)]; exact hin)
   omega) (fun k hk => by
   by_cases hki : i = k
   ·subst hki
    have : i < listed.size := by omega
    simp [this]
   rw [getD_set_ne false hki, hlist k hk]
   simp only [List.contains_cons]
   have : (k == i) = false := by simpa using fun e => hki e.symm
   rw [this, Bool.false_or]) hs2 hE2)
  have hnext := hwp.2
  rw [fence_round, Oper.semAt_none, hu w1] at hnext
  refine wpAnyIn_first (oi := o) (v := u) (fence_round none) ho (noSel_spec hsel) (fun c a w hq => absurd rfl (hq.1 c)) fuel listed a1 w1 (fun j oj hj hne hun hno => ?_) ?_ ⟨.inl ⟨?_, hu⟩, fun w => ?_⟩ hnext
  ·unfold freeL at hfree
   rw [ho] at hfree
   have hjs := (Array.getElem?_eq_some_iff.1 hj).1
   have := List.all_eq_true.1 hfree j (List.mem_range.2 hjs)
   simp only [Bool.or_eq_true, beq_iff_eq, hj] at this
   rcases this with ((h | h) | h) | h
   ·exact absurd h hne
   ·have hx := hlist j hjs
    rw [getD_tf (by omega)] at hun
    rw [hun, h] at hx
    cases hx
   ·exfalso
    have h : i ∈ da ops j := by simpa using h
    simp only [da, hj, List.mem_map, List.mem_filter] at h
    obtain ⟨e, ⟨he, hb⟩, hei⟩ := h
    exact hno e (by simpa using he) hb hei
   exact h
  ·refine mem_ready.2 ⟨by rw [getD_tf (by omega)]; exact hin, o, ho, fun e he hb => ?_⟩
   have hk : e.on ∈ da ops i := by
    simp only [da, ho, List.mem_map, List.mem_filter]
    exact ⟨e, ⟨by simpa using he, hb⟩, rfl⟩
   rw [hlist _ (Nat.lt_trans (hda' i his _ hk) his)]
   exact hready _ hk
  ·unfold Region.wanted
   rw [hg']
  unfold Oper.about
  split
  ·rename_i c h; exact absurd h (hnc c)
  rfl
end
theorem loopN {S X : Type} {body : S → Option (Stp S X)} {Q : X → Prop} (n : Nat) (I : Nat → S → Prop)
  (step : ∀ i s, i < n → I i s → (∃ s', body s = some (.next s') ∧ I (i + 1) s') ∨ ∃ x, body s = some (.exit x) ∧ Q x) (fin : ∀ s, I n s → ∃ x, body s = some (.exit x) ∧ Q x) :
  ∀ (k : Nat) (s : S), k ≤ n → I k s → ∃ x, loopW body s = some x ∧ Q x := by
 intro k s hk h
 obtain ⟨d, rfl⟩ : ∃ d, n = k + d := ⟨n - k, by omega⟩
 induction d generalizing k s with
 | zero =>
  obtain ⟨x, h1, h2⟩ := fin s h
  exact ⟨x, loopW_exit h1, h2⟩
 | succ d ih =>
  rcases step k s (by omega) h with ⟨s', h1, h2⟩ | ⟨x, h1, h2⟩
  ·have e : k + (d + 1) = (k + 1) + d := by omega
   rw [e] at step fin
   obtain ⟨x, h3, h4⟩ := ih (k + 1) s' h2 step fin (by omega)
   exact ⟨x, by rw [loopW_next h1]; exact h3, h4⟩
  exact ⟨x, loopW_exit h1, h2⟩
theorem loop_any {S X : Type} {body : S → Option (Stp S X)} (st : Nat → S) (n : Nat) (p : Nat → Bool) (xr xf : X) (h : ∀ i, i < n → body (st i) = if p i = true then some (.exit xr) else some (.next (st (i + 1)))) (hf : body (st n) = some (.exit xf)) {s0 : S} (hs0 : s0 = st 0) :
  loopW body s0 = some (if (List.range n).any p = true then xr else xf) := by
 subst hs0
 obtain ⟨x, hx, hq⟩ := loopN (body := body) (Q := fun x => x = if (List.range n).any p = true then xr else xf) n (fun i s => s = st i ∧ (List.range i).any p = false) (fun i s hi ⟨hs, ha⟩ => by
  subst hs
  rw [h i hi]
  by_cases hp : p i = true
  ·refine .inr ⟨xr, by rw [if_pos hp], ?_⟩
   rw [if_pos]
   exact List.any_eq_true.2 ⟨i, List.mem_range.2 hi, hp⟩
  refine .inl ⟨_, by rw [if_neg hp], rfl, ?_⟩
  rw [List.range_succ, List.any_append, ha]
  simpa using hp) (fun s ⟨hs, ha⟩ => by subst hs; exact ⟨xf, hf, by rw [if_neg]; rw [ha]; simp⟩) 0 (st 0) (Nat.zero_le _) ⟨rfl, rfl⟩
 rw [hx, hq]
theorem loop_is {S X : Type} {body : S → Option (Stp S X)} (st : Nat → S) (n : Nat) (x : X) (h : ∀ i, i < n → body (st i) = some (.next (st (i + 1)))) (hf : body (st n) = some (.exit x)) {s0 : S} (hs0 : s0 = st 0) : loopW body s0 = some x := by
 subst hs0
 obtain ⟨y, hy, hq⟩ := loopN (body := body) (Q := fun y => y = x) n (fun i s => s = st i) (fun i s hi hs => by subst hs; exact .inl ⟨_, h i hi, rfl⟩) (fun s hs => by subst hs; exact ⟨x, hf, rfl⟩) 0 (st 0) (Nat.zero_le _) rfl
 rw [hy, hq]
theorem bindL {X R : Type} {o : Option X} {x : X} {M : X → Option R} {r : Option R} (h : o = some x) (k : M x = r) : o.bind M = r := by rw [h]; exact k
theorem lpL {V R Y : Type} {o : Option (Ou V R)} {x : Ou V R} {M : V → Option Y} {Rt : R → Option Y} {r : Option Y} (h : o = some x) (k : lpO (some x) M Rt = r) : lpO o M Rt = r := by rw [h]; exact k
theorem nx {i n : Nat} (hn : n ≤ 9223372036854775807) (h : i < n) : IntKind.wrap .i64 ((i : Int) + 1) = ((i + 1 : Nat) : Int) := by
 rw [w64 (by omega) (by omega)]; omega
theorem ix {α : Type} {l : List α} {i : Nat} (h : i < l.length) : idx l (i : Int) = some l[i] := by rw [idx_nat, List.getElem?_eq_getElem h]
theorem lt_int {i n : Nat} (h : i < n) : (i : Int) < (n : Int) := by omega
theorem not_lt_int (n : Nat) : ¬ (n : Int) < (n : Int) := by omega
abbrev TFromLabelTo := Int × Int × Int
abbrev cFromLabelTo (x : TFromLabelTo) : List HV := [HV.int .i64 x.1, HV.int .i64 x.2.1, HV.int .i64 x.2.2]
abbrev eFromLabelTo : EncL TFromLabelTo := encF 3 cFromLabelTo (fun _ => rfl)
abbrev TLabelsStatesEdges := Int × Int × (List (TFromLabelTo))
abbrev compact_ (l : List Int) : List Int := Lib.compact l
theorem compact_le (l : List Int) : (compact_ l).length ≤ l.length := by
 show (Lib.compactUpTo l.toArray l.length).length ≤ l.length
 unfold Lib.compactUpTo
 rw [List.length_map]
 exact Nat.le_trans (List.length_filter_le _ _) (by simp)
theorem compact_mem {l : List Int} {x : Int} (h : x ∈ compact_ l) : x ∈ l := by
 have h : x ∈ Lib.compactUpTo l.toArray l.length := h
 unfold Lib.compactUpTo at h
 obtain ⟨j, hj, rfl⟩ := List.mem_map.1 h
 have hj := List.mem_range.1 (List.mem_filter.1 hj).1
 have : l.toArray[j]! = l[j] := by simp [hj]
 rw [this]
 exact List.getElem_mem hj
noncomputable def m_strings_IndexByte (l : List UInt8) (c : Int) : Option Int := some (Lib.indexByte l c.toNat.toUInt8)
def leaveL (es : List TFromLabelTo) (s : Int) : List (Int × TFromLabelTo) := (es.zipIdx.filter fun p => decide (p.1.1 = s)).map fun p => ((p.2 : Int), p.1)
theorem leaveL_take (es : List TFromLabelTo) (s : Int) {i : Nat} (h : i < es.length) : leaveL (es.take (i + 1)) s = leaveL (es.take i) s ++ if es[i].1 = s then [((i : Int), es[i])] else [] := by
 have e : es.take (i + 1) = es.take i ++ [es[i]] := by rw [List.take_add_one, List.getElem?_eq_getElem h]; rfl
 rw [e]
 simp only [leaveL, List.zipIdx_append, List.filter_append, List.map_append, List.length_take, Nat.min_eq_left (Nat.le_of_lt h), Nat.zero_add]
 congr 1
 by_cases hs : es[i].1 = s <;> simp [List.zipIdx_cons, hs]
theorem leaveL_split (es : List TFromLabelTo) (s : Int) : ∀ (i : Nat), ∃ rest, leaveL es s = leaveL (es.take i) s ++ rest := fun i => by
 refine ⟨((es.drop i).zipIdx (es.take i).length |>.filter fun p => decide (p.1.1 = s)).map fun p => ((p.2 : Int), p.1), ?_⟩
 conv => lhs; rw [← List.take_append_drop i es]
 simp only [leaveL, List.zipIdx_append, List.filter_append, List.map_append, Nat.zero_add]
def y_graph_leaving (g : TLabelsStatesEdges) (s : Int) : Option (List (Int × TFromLabelTo)) := if g.2.2.length ≤ 9223372036854775807 then some (leaveL g.2.2 s) else none
set_option linter.unusedVariables false
noncomputable def m_graph_list (p0 : TFromLabelTo) : Option ((List (Int))) :=
 some [p0.1, p0.2.1, p0.2.2]
noncomputable def m_cmp_isNaN_int (p0 : Int) : Option (Bool) :=
 some (decide (p0 ≠ p0))
noncomputable def m_cmp_Compare_int (p0 : Int) (p1 : Int) : Option (Int) :=
 (m_cmp_isNaN_int p0).bind fun x1 =>
 (m_cmp_isNaN_int p1).bind fun x3 =>
 if x1 = true then
  if x3 = true then
   some 0
  else
   some (-1)
 else
  if x3 = true then
   some 1
  else
   if p0 < p1 then
    some (-1)
   else
    if p1 < p0 then
     some 1
    else
     some 0
noncomputable def m_slices_Compare_Lint_int (p0 : List (Int)) (p1 : List (Int)) : Option (Int) :=
 lpO (loopW (S := Int) (X := Ou (Unit) (Int)) (fun a1 =>
   if a1 < ((p0).length : Int) then
    (idx p0 a1).bind fun x5 =>
    if ((p1).length : Int) ≤ a1 then
     some (Stp.exit (Ou.ret 1))
    else
     (idx p1 a1).bind fun x7 =>
     (m_cmp_Compare_int x5 x7).bind fun x9 =>
     if x9 ≠ 0 then
      some (Stp.exit (Ou.ret x9))
     else
      some (Stp.next (IntKind.wrap .i64 (a1 + 1)))
   else
    some (Stp.exit (Ou.go ()))) 0) (fun a11 =>
   if ((p0).length : Int) < ((p1).length : Int) then
    some (-1)
   else
    some 0) some
noncomputable def m_graph_by_api_Edge_1 (p0 : TFromLabelTo) (p1 : TFromLabelTo) : Option (Int) :=
 (m_graph_list p0).bind fun x1 =>
 (m_graph_list p1).bind fun x3 =>
 (m_slices_Compare_Lint_int x1 x3).bind fun x5 =>
 some x5
noncomputable def m_graph_Check (p0 : TLabelsStatesEdges) : Option (Int) :=
 jp (fun (a1 : Bool) =>
  if a1 = true then
   some 12
  else
   if p0.2.1 < 0 then
    some 2
   else
    jp (fun (a4 : Bool) =>
     if a4 = true then
      some 4
     else
      lpO (loopW (S := Int) (X := Ou (Unit) (Int)) (fun a7 =>
        if a7 < ((p0.2.2).length : Int) then
         (idx p0.2.2 a7).bind fun x11 =>
         jp (fun (a14 : Bool) =>
          if a14 = true then
           some (Stp.exit (Ou.ret 2))
          else
           jp (fun (a17 : Bool) =>
            if a17 = true then
             some (Stp.exit (Ou.ret 10))
            else
             some (Stp.next (IntKind.wrap .i64 (a7 + 1))))
            fun k19 =>
            if 0 < a7 then
             (idx p0.2.2 (IntKind.wrap .i64 (a7 - 1))).bind fun x20 =>
             (m_graph_by_api_Edge_1 x20 x11).bind fun x22 =>
             k19 (decide (0 ≤ x22))
            else
             k19 false)
          fun k16 =>
          if (min (min x11.1 x11.2.1) x11.2.2) < 0 then
           k16 true
          else
           if p0.2.1 ≤ (max x11.1 x11.2.2) then
            k16 true
           else
            k16 (decide (p0.1 ≤ x11.2.1))
        else
         some (Stp.exit (Ou.go ()))) 0) (fun a27 =>
        some 0) some)
     fun k6 =>
     if 64 < p0.2.1 then
      k6 true
     else
      k6 (decide (1024 < ((p0.2.2).length : Int))))
  fun k3 =>
  if p0.1 < 1 then
   k3 true
  else
   k3 (decide (256 < p0.1))
noncomputable def m_graph_checkSet (p0 : TLabelsStatesEdges) (p1 : List (Int)) : Option (Int) :=
 lpO (loopW (S := Int) (X := Ou (Unit) (Int)) (fun a1 =>
   if a1 < ((p1).length : Int) then
    (idx p1 a1).bind fun x5 =>
    jp (fun (a7 : Bool) =>
     if a7 = true then
      some (Stp.exit (Ou.ret 25))
     else
      jp (fun (a10 : Bool) =>
       if a10 = true then
        some (Stp.exit (Ou.ret 10))
       else
        some (Stp.next (IntKind.wrap .i64 (a1 + 1))))
       fun k12 =>
       if 0 < a1 then
        (idx p1 (IntKind.wrap .i64 (a1 - 1))).bind fun x13 =>
        k12 (decide (x5 ≤ x13))
       else
        k12 false)
     fun k9 =>
     if x5 < 0 then
      k9 true
     else
      k9 (decide (p0.2.1 ≤ x5))
   else
    some (Stp.exit (Ou.go ()))) 0) (fun a17 =>
   some 0) some
noncomputable def m_graph_Step (p0 : TLabelsStatesEdges) (p1 : List (Int)) (p2 : Int) : Option ((List (Int)) × Int) :=
 (m_graph_Check p0).bind fun x1 =>
 if x1 ≠ 0 then
  some ([], 1)
 else
  (m_graph_checkSet p0 p1).bind fun x3 =>
  if x3 ≠ 0 then
   some ([], x3)
  else
   jp (fun (a5 : Bool) =>
    if a5 = true then
     some ([], 2)
    else
     (loopW (S := Int × (List Int)) (X := (List Int)) (fun a9 =>
       if a9.1 < ((p1).length : Int) then
        (idx p1 a9.1).bind fun x13 =>
        (y_graph_leaving p0 x13).bind fun L15 =>
        lpO (forL (S := (List Int)) (X := Unit) (fun a17 (x19 : Int × TFromLabelTo) =>
          if x19.2.2.1 = p2 then
           if fits 8 ((a17 : List Int).length + ([x19.2.2.2]).length) then
            some (Stp.next (a17 ++ [x19.2.2.2]))
           else none
          else
           some (Stp.next a17)) L15 a9.2) (fun a26 =>
          some (Stp.next (IntKind.wrap .i64 (a9.1 + 1), a26))) fun a28 =>
          none
       else
        some (Stp.exit a9.2)) (0, ([] : List Int))).bind fun a31 =>
     if (a31).length < 4611686018427387904 then
      some (compact_ (sortI a31), 0)
     else none)
    fun k7 =>
    if p2 < 0 then
     k7 true
    else
     k7 (decide (p0.1 ≤ p2))
noncomputable def m_ref09_Compare (p0 : TFromLabelTo) (p1 : TFromLabelTo) : Option (Int) :=
 lpO (loopW (S := Int) (X := Ou (Unit) (Int)) (fun a1 =>
   if a1 < 3 then
    (idx [p0.1, p0.2.1, p0.2.2] a1).bind fun x5 =>
    (idx [p1.1, p1.2.1, p1.2.2] a1).bind fun x7 =>
    if x5 < x7 then
     some (Stp.exit (Ou.ret (-1)))
    else
     (idx [p0.1, p0.2.1, p0.2.2] a1).bind fun x9 =>
     (idx [p1.1, p1.2.1, p1.2.2] a1).bind fun x11 =>
     if x11 < x9 then
      some (Stp.exit (Ou.ret 1))
     else
      some (Stp.next (IntKind.wrap .i64 (a1 + 1)))
   else
    some (Stp.exit (Ou.go ()))) 0) (fun a13 =>
   some 0) some
noncomputable def m_ref09_Check (p0 : TLabelsStatesEdges) : Option (Int) :=
 jp (fun (a1 : Bool) =>
  if a1 = true then
   some 12
  else
   if p0.2.1 < 0 then
    some 2
   else
    jp (fun (a4 : Bool) =>
     if a4 = true then
      some 4
     else
      lpO (loopW (S := Int) (X := Ou (Unit) (Int)) (fun a7 =>
        if a7 < ((p0.2.2).length : Int) then
         (idx p0.2.2 a7).bind fun x11 =>
         jp (fun (a14 : Bool) =>
          if a14 = true then
           some (Stp.exit (Ou.ret 2))
          else
           jp (fun (a17 : Bool) =>
            if a17 = true then
             some (Stp.exit (Ou.ret 10))
            else
             some (Stp.next (IntKind.wrap .i64 (a7 + 1))))
            fun k19 =>
            if 0 < a7 then
             (idx p0.2.2 (IntKind.wrap .i64 (a7 - 1))).bind fun x20 =>
             (m_ref09_Compare x20 x11).bind fun x22 =>
             k19 (decide (0 ≤ x22))
            else
             k19 false)
          fun k16 =>
          if x11.1 < 0 then
           k16 true
          else
           if p0.2.1 ≤ x11.1 then
            k16 true
           else
            if x11.2.2 < 0 then
             k16 true
            else
             if p0.2.1 ≤ x11.2.2 then
              k16 true
             else
              if x11.2.1 < 0 then
               k16 true
              else
               k16 (decide (p0.1 ≤ x11.2.1))
        else
         some (Stp.exit (Ou.go ()))) 0) (fun a30 =>
        some 0) some)
     fun k6 =>
     if 64 < p0.2.1 then
      k6 true
     else
      k6 (decide (1024 < ((p0.2.2).length : Int))))
  fun k3 =>
  if p0.1 < 1 then
   k3 true
  else
   k3 (decide (256 < p0.1))
noncomputable def m_language_step (p0 : TLabelsStatesEdges) (p1 : List (Int)) (p2 : Int) : Option ((List (Int))) :=
 (m_strings_IndexByte [48, 49, 50, 51, 52, 53, 54, 55, 56, 57, 97, 98, 99, 100, 101, 102] p2).bind fun x1 =>
 (m_graph_Step p0 p1 x1).bind fun x3 =>
 some x3.1
noncomputable def m_language_states (p0 : TLabelsStatesEdges) : Option ((List (Int))) :=
 if 0 ≤ (p0.2.1 : Int) ∧ (p0.2.1 : Int) ≤ p0.2.1 ∧ (p0.2.1 : Int) * 8 ≤ 281474976710656 then
  (loopW (S := Int × (List Int)) (X := (List Int)) (fun a3 =>
    if a3.1 < (((List.replicate (p0.2.1).toNat (0 : Int)).length : Nat) : Int) then
     (idx a3.2 a3.1).bind fun x7 =>
     some (Stp.next (IntKind.wrap .i64 (a3.1 + 1), (a3.2).set (a3.1).toNat a3.1))
    else
     some (Stp.exit a3.2)) (0, List.replicate (p0.2.1).toNat (0 : Int))).bind fun a9 =>
  some a9
 else none
noncomputable def m_language_check (p0 : TLabelsStatesEdges) : Option (Int) :=
 (m_graph_Check p0).bind fun x1 =>
 if x1 ≠ 0 then
  some 1
 else
  if 16 < p0.1 then
   some 12
  else
   some 0
noncomputable def m_word_known (p0 : Int) : Option (Bool) :=
 jp (fun (a1 : Bool) =>
  some a1)
  fun k3 =>
  if 1 ≤ p0 then
   k3 (decide (p0 ≤ 16))
  else
   k3 false
noncomputable def m_word_Check (p0 : Int) (p1 : List UInt8) : Option (Int) :=
 (m_word_known p0).bind fun x1 =>
 if (!x1) = true then
  some 12
 else
  if 65536 < ((p1).length : Int) then
   some 4
  else
   lpO (loopW (S := Int) (X := Ou (Unit) (Int)) (fun a3 =>
     if a3 < ((p1).length : Int) then
      if 0 ≤ (0 : Int) ∧ (0 : Int) ≤ p0 ∧ p0 ≤ (([48, 49, 50, 51, 52, 53, 54, 55, 56, 57, 97, 98, 99, 100, 101, 102] : List UInt8).length : Int) then
       (idx p1 a3).bind fun x8 =>
       (m_strings_IndexByte ((([48, 49, 50, 51, 52, 53, 54, 55, 56, 57, 97, 98, 99, 100, 101, 102] : List UInt8).take (p0).toNat).drop (0 : Int).toNat) (x8.toNat : Int)).bind fun x10 =>
       if x10 < 0 then
        some (Stp.exit (Ou.ret 13))
       else
        some (Stp.next (IntKind.wrap .i64 (a3 + 1)))
      else none
     else
      some (Stp.exit (Ou.go ()))) 0) (fun a12 =>
     some 0) some
noncomputable def m_language_spells (p0 : TLabelsStatesEdges) (p1 : List UInt8) : Option (Int) :=
 (m_language_check p0).bind fun x1 =>
 if x1 ≠ 0 then
  some x1
 else
  (m_word_Check p0.1 p1).bind fun x3 =>
  some x3
abbrev TNegMag := Bool × (List UInt8)
def m_strings_Count (s sub : List UInt8) : Option Int := match sub with
 | [c] => some ((Lib.countByte s c : Nat) : Int)
 | _ => none
abbrev TNumDen := TNegMag × TNegMag
abbrev cNumDen (x : TNumDen) : List HV := [HV.bool x.1.1, HV.str x.1.2, HV.bool x.2.1, HV.str x.2.2]
abbrev hI (n : Int) : HV := .int .i64 n
abbrev nS : List UInt8 := []
abbrev jF (j : List (List UInt8) × List (List UInt8)) : HV := .fptr [slE eStr j.1, slE eStr j.2] 0
abbrev jA (j : List (List UInt8) × List (List UInt8)) : HV := .agg [slE eStr j.1, slE eStr j.2]
abbrev gF (g : TLabelsStatesEdges) : HV := .fptr [.int .i64 g.1, .int .i64 g.2.1, slE eFromLabelTo g.2.2] 0
abbrev gA (g : TLabelsStatesEdges) : HV := .agg [.int .i64 g.1, .int .i64 g.2.1, slE eFromLabelTo g.2.2]
abbrev zND : List HV := [.bool false, .str [], .bool false, .str []]
theorem to_L {s s' : AS} {G : AS → Prop} (h : G s') (h1 : gets s.slots s'.slots = somes s'.slots := by exact rfl) (h2 : hgets s.heap s'.heap = hsomes s'.heap := by exact rfl) : s.to G := to_le (le_q h1 h2) h
theorem bf {P : Program} {ro : Option Nat} {N : Nat} {all : Array Oper} {s : AS} {c : Code} {Q : Exit → AS → Prop} {K : AS → Prop} (hK : ∀ s', AW P ro N c Q s' → K s') (s' : AS) (h : AW P ro N c Q s') (h1 : gets s.slots s'.slots = somes s'.slots := by exact rfl) (h2 : hgets s.heap s'.heap = hsomes s'.heap := by exact rfl) : bops P ro N all [] K s := b_fin hK (le_q h1 h2) h
theorem lg {P : Program} {ro : Option Nat} {N : Nat} {ops : Array Oper} {s s' : AS} {K : AS → Prop} {F : List Nat → AS → Prop} {L L' : List Nat} (hF : F = AnyL P ro N ops K) (h : F L' s') (hsame : (List.range ops.size).all (fun i => L.contains i == L'.contains i) = true := by exact rfl) (h1 : gets s.slots s'.slots = somes s'.slots := by exact rfl) (h2 : hgets s.heap s'.heap = hsomes s'.heap := by exact rfl) : F L s := l_go hF hsame h (le_q h1 h2)
theorem cT {p : Prop} [Decidable p] {R : Type} {a b : Option R} {r : R} (hc : decide p = true) (h : (if p then a else b) = some r) : p ∧ a = some r := ⟨of_decide_eq_true hc, ifT (of_decide_eq_true hc) h⟩
theorem cF {p : Prop} [Decidable p] {R : Type} {a b : Option R} {r : R} (hc : decide p = false) (h : (if p then a else b) = some r) : ¬ p ∧ b = some r := ⟨of_decide_eq_false hc, ifF (of_decide_eq_false hc) h⟩
theorem lb {n m : Nat} (h : Nat.ble n m = true) : n ≤ m := Nat.le_of_ble_eq_true h
theorem l_ov {P : Program} {ro : Option Nat} {N i d : Nat} {ops : Array Oper} {o : Oper} {G : AS → Prop} {v : HV} {sl : List (Nat × HV)} {H : Heap} (ho : ops[i]? = some o) (hg : o.guard = none) (hN : okd N o.dst = true) (h0 : (o.dst, isVal o.op) = (some d, true)) (hv : aval P o.op ⟨sl, H⟩ (· = v)) (k : G ⟨(d, v) :: sl, H⟩) : AOpI P ro N ops i G ⟨sl, H⟩ := l_op (fid := 0) (mt := []) ho hg hN (o_val h0 hv (b_nil k))
theorem oi {α : Type} {a b : α} (h : some a = some b) : a = b := Option.some.inj h
abbrev ASf := List (Nat × HV) → Heap → AS
open Go.Proofs
theorem ty2 : ty Tryz.prog 2 = some { desc := TypeDesc.int IntKind.i64, size := 1, bytes := 8, zero := Value.int IntKind.i64 (0) } := by kernel_rfl
theorem ty3 : ty Tryz.prog 3 = some { desc := TypeDesc.int IntKind.i64, size := 1, bytes := 8, zero := Value.int IntKind.i64 (0) } := by kernel_rfl
theorem ty4 : ty Tryz.prog 4 = some { desc := TypeDesc.bool, size := 1, bytes := 1, zero := Value.bool false } := by kernel_rfl
theorem ty5 : ty Tryz.prog 5 = some { desc := TypeDesc.int IntKind.u8, size := 1, bytes := 1, zero := Value.int IntKind.u8 (0) } := by kernel_rfl
theorem ty6 : ty Tryz.prog 6 = some { desc := TypeDesc.int IntKind.u8, size := 1, bytes := 1, zero := Value.int IntKind.u8 (0) } := by kernel_rfl
theorem ty9 : ty Tryz.prog 9 = some { desc := TypeDesc.string, size := 1, bytes := 16, zero := Value.string { data := #[] } } := by kernel_rfl
theorem ty10 : ty Tryz.prog 10 = some { desc := TypeDesc.string, size := 1, bytes := 16, zero := Value.string { data := #[] } } := by kernel_rfl
theorem ty11 : ty Tryz.prog 11 = some { desc := TypeDesc.string, size := 1, bytes := 16, zero := Value.string { data := #[] } } := by kernel_rfl
theorem ty12 : ty Tryz.prog 12 = some { desc := TypeDesc.int IntKind.u64, size := 1, bytes := 8, zero := Value.int IntKind.u64 (0) } := by kernel_rfl
theorem ty15 : ty Tryz.prog 15 = some { desc := TypeDesc.pointer 207, size := 1, bytes := 8, zero := Value.pointer none } := by kernel_rfl
theorem ty16 : ty Tryz.prog 16 = some { desc := TypeDesc.pointer 210, size := 1, bytes := 8, zero := Value.pointer none } := by kernel_rfl
theorem ty17 : ty Tryz.prog 17 = some { desc := TypeDesc.pointer 217, size := 1, bytes := 8, zero := Value.pointer none } := by kernel_rfl
theorem ty21 : ty Tryz.prog 21 = some { desc := TypeDesc.int IntKind.i32, size := 1, bytes := 4, zero := Value.int IntKind.i32 (0) } := by kernel_rfl
theorem ty22 : ty Tryz.prog 22 = some { desc := TypeDesc.slice 9, size := 1, bytes := 24, zero := Value.slice none 0 0 } := by kernel_rfl
theorem ty23 : ty Tryz.prog 23 = some { desc := TypeDesc.struct { toList := [{ name := "Words", type := 22, offset := 0, embedded := false, tag := "", pkgPath := "", byteOffset := 0 }, { name := "Merges", type := 22, offset := 1, embedded := false, tag := "", pkgPath := "", byteOffset := 24 }] }, size := 2, bytes := 48, zero := Value.agg #[Value.slice none 0 0, Value.slice none 0 0] } := by kernel_rfl
theorem ty24 : ty Tryz.prog 24 = some { desc := TypeDesc.struct { toList := [{ name := "Words", type := 22, offset := 0, embedded := false, tag := "", pkgPath := "", byteOffset := 0 }, { name := "Merges", type := 22, offset := 1, embedded := false, tag := "", pkgPath := "", byteOffset := 24 }] }, size := 2, bytes := 48, zero := Value.agg #[Value.slice none 0 0, Value.slice none 0 0] } := by kernel_rfl
theorem ty25 : ty Tryz.prog 25 = some { desc := TypeDesc.slice 35, size := 1, bytes := 24, zero := Value.slice none 0 0 } := by kernel_rfl
theorem ty26 : ty Tryz.prog 26 = some { desc := TypeDesc.struct { toList := [{ name := "Labels", type := 3, offset := 0, embedded := false, tag := "", pkgPath := "", byteOffset := 0 }, { name := "States", type := 3, offset := 1, embedded := false, tag := "", pkgPath := "", byteOffset := 8 }, { name := "Edges", type := 25, offset := 2, embedded := false, tag := "", pkgPath := "", byteOffset := 16 }] }, size := 3, bytes := 40, zero := Value.agg #[Value.int IntKind.i64 (0), Value.int IntKind.i64 (0), Value.slice none 0 0] } := by kernel_rfl
theorem ty27 : ty Tryz.prog 27 = some { desc := TypeDesc.struct { toList := [{ name := "Labels", type := 3, offset := 0, embedded := false, tag := "", pkgPath := "", byteOffset := 0 }, { name := "States", type := 3, offset := 1, embedded := false, tag := "", pkgPath := "", byteOffset := 8 }, { name := "Edges", type := 25, offset := 2, embedded := false, tag := "", pkgPath := "", byteOffset := 16 }] }, size := 3, bytes := 40, zero := Value.agg #[Value.int IntKind.i64 (0), Value.int IntKind.i64 (0), Value.slice none 0 0] } := by kernel_rfl
theorem ty28 : ty Tryz.prog 28 = some { desc := TypeDesc.slice 5, size := 1, bytes := 24, zero := Value.slice none 0 0 } := by kernel_rfl
theorem ty31 : ty Tryz.prog 31 = some { desc := TypeDesc.int IntKind.i64, size := 1, bytes := 8, zero := Value.int IntKind.i64 (0) } := by kernel_rfl
theorem ty34 : ty Tryz.prog 34 = some { desc := TypeDesc.struct { toList := [{ name := "From", type := 3, offset := 0, embedded := false, tag := "", pkgPath := "", byteOffset := 0 }, { name := "Label", type := 3, offset := 1, embedded := false, tag := "", pkgPath := "", byteOffset := 8 }, { name := "To", type := 3, offset := 2, embedded := false, tag := "", pkgPath := "", byteOffset := 16 }] }, size := 3, bytes := 24, zero := Value.agg { toList := [Value.int IntKind.i64 (0), Value.int IntKind.i64 (0), Value.int IntKind.i64 (0)] } } := by kernel_rfl
theorem ty35 : ty Tryz.prog 35 = some { desc := TypeDesc.struct { toList := [{ name := "From", type := 3, offset := 0, embedded := false, tag := "", pkgPath := "", byteOffset := 0 }, { name := "Label", type := 3, offset := 1, embedded := false, tag := "", pkgPath := "", byteOffset := 8 }, { name := "To", type := 3, offset := 2, embedded := false, tag := "", pkgPath := "", byteOffset := 16 }] }, size := 3, bytes := 24, zero := Value.agg { toList := [Value.int IntKind.i64 (0), Value.int IntKind.i64 (0), Value.int IntKind.i64 (0)] } } := by kernel_rfl
theorem ty36 : ty Tryz.prog 36 = some { desc := TypeDesc.slice 3, size := 1, bytes := 24, zero := Value.slice none 0 0 } := by kernel_rfl
theorem ty58 : ty Tryz.prog 58 = some { desc := TypeDesc.slice 107, size := 1, bytes := 24, zero := Value.slice none 0 0 } := by kernel_rfl
theorem ty59 : ty Tryz.prog 59 = some { desc := TypeDesc.struct { toList := [{ name := "Letters", type := 3, offset := 0, embedded := false, tag := "", pkgPath := "", byteOffset := 0 }, { name := "Block", type := 3, offset := 1, embedded := false, tag := "", pkgPath := "", byteOffset := 8 }, { name := "Base", type := 22, offset := 2, embedded := false, tag := "", pkgPath := "", byteOffset := 16 }, { name := "Swaps", type := 58, offset := 3, embedded := false, tag := "", pkgPath := "", byteOffset := 40 }] }, size := 4, bytes := 64, zero := Value.agg { toList := [Value.int IntKind.i64 (0), Value.int IntKind.i64 (0), Value.slice none 0 0, Value.slice none 0 0] } } := by kernel_rfl
theorem ty60 : ty Tryz.prog 60 = some { desc := TypeDesc.struct { toList := [{ name := "Letters", type := 3, offset := 0, embedded := false, tag := "", pkgPath := "", byteOffset := 0 }, { name := "Block", type := 3, offset := 1, embedded := false, tag := "", pkgPath := "", byteOffset := 8 }, { name := "Base", type := 22, offset := 2, embedded := false, tag := "", pkgPath := "", byteOffset := 16 }, { name := "Swaps", type := 58, offset := 3, embedded := false, tag := "", pkgPath := "", byteOffset := 40 }] }, size := 4, bytes := 64, zero := Value.agg { toList := [Value.int IntKind.i64 (0), Value.int IntKind.i64 (0), Value.slice none 0 0, Value.slice none 0 0] } } := by kernel_rfl
theorem ty64 : ty Tryz.prog 64 = some { desc := TypeDesc.struct { toList := [{ name := "Letters", type := 3, offset := 0, embedded := false, tag := "", pkgPath := "", byteOffset := 0 }, { name := "Words", type := 22, offset := 1, embedded := false, tag := "", pkgPath := "", byteOffset := 8 }] }, size := 2, bytes := 32, zero := Value.agg #[Value.int IntKind.i64 (0), Value.slice none 0 0] } := by kernel_rfl
theorem ty65 : ty Tryz.prog 65 = some { desc := TypeDesc.struct { toList := [{ name := "Letters", type := 3, offset := 0, embedded := false, tag := "", pkgPath := "", byteOffset := 0 }, { name := "Words", type := 22, offset := 1, embedded := false, tag := "", pkgPath := "", byteOffset := 8 }] }, size := 2, bytes := 32, zero := Value.agg #[Value.int IntKind.i64 (0), Value.slice none 0 0] } := by kernel_rfl
theorem ty67 : ty Tryz.prog 67 = some { desc := TypeDesc.pointer 69, size := 1, bytes := 8, zero := Value.pointer none } := by kernel_rfl
theorem ty68 : ty Tryz.prog 68 = some { desc := TypeDesc.struct { toList := [{ name := "addr", type := 67, offset := 0, embedded := false, tag := "", pkgPath := "strings", byteOffset := 0 }, { name := "buf", type := 28, offset := 1, embedded := false, tag := "", pkgPath := "strings", byteOffset := 8 }] }, size := 2, bytes := 32, zero := Value.agg #[Value.pointer none, Value.slice none 0 0] } := by kernel_rfl
theorem ty69 : ty Tryz.prog 69 = some { desc := TypeDesc.struct { toList := [{ name := "addr", type := 67, offset := 0, embedded := false, tag := "", pkgPath := "strings", byteOffset := 0 }, { name := "buf", type := 28, offset := 1, embedded := false, tag := "", pkgPath := "strings", byteOffset := 8 }] }, size := 2, bytes := 32, zero := Value.agg #[Value.pointer none, Value.slice none 0 0] } := by kernel_rfl
theorem ty97 : ty Tryz.prog 97 = some { desc := TypeDesc.func #[35] #[36] false, size := 1, bytes := 8, zero := Value.nilFunc } := by kernel_rfl
theorem ty103 : ty Tryz.prog 103 = some { desc := TypeDesc.map 105 9, size := 1, bytes := 8, zero := Value.map none } := by kernel_rfl
theorem ty105 : ty Tryz.prog 105 = some { desc := TypeDesc.array 2 3, size := 2, bytes := 16, zero := Value.agg #[Value.int IntKind.i64 (0), Value.int IntKind.i64 (0)] } := by kernel_rfl
theorem ty106 : ty Tryz.prog 106 = some { desc := TypeDesc.struct { toList := [{ name := "First", type := 3, offset := 0, embedded := false, tag := "", pkgPath := "", byteOffset := 0 }, { name := "Second", type := 3, offset := 1, embedded := false, tag := "", pkgPath := "", byteOffset := 8 }, { name := "Word", type := 9, offset := 2, embedded := false, tag := "", pkgPath := "", byteOffset := 16 }] }, size := 3, bytes := 32, zero := Value.agg { toList := [Value.int IntKind.i64 (0), Value.int IntKind.i64 (0), Value.string { data := #[] }] } } := by kernel_rfl
theorem ty107 : ty Tryz.prog 107 = some { desc := TypeDesc.struct { toList := [{ name := "First", type := 3, offset := 0, embedded := false, tag := "", pkgPath := "", byteOffset := 0 }, { name := "Second", type := 3, offset := 1, embedded := false, tag := "", pkgPath := "", byteOffset := 8 }, { name := "Word", type := 9, offset := 2, embedded := false, tag := "", pkgPath := "", byteOffset := 16 }] }, size := 3, bytes := 32, zero := Value.agg { toList := [Value.int IntKind.i64 (0), Value.int IntKind.i64 (0), Value.string { data := #[] }] } } := by kernel_rfl
theorem ty109 : ty Tryz.prog 109 = some { desc := TypeDesc.map 116 3, size := 1, bytes := 8, zero := Value.map none } := by kernel_rfl
theorem ty110 : ty Tryz.prog 110 = some { desc := TypeDesc.struct { toList := [{ name := "c", type := 65, offset := 0, embedded := false, tag := "", pkgPath := "groove/delay", byteOffset := 0 }, { name := "reach", type := 109, offset := 2, embedded := false, tag := "", pkgPath := "groove/delay", byteOffset := 32 }] }, size := 3, bytes := 40, zero := Value.agg #[Value.int IntKind.i64 (0), Value.slice none 0 0, Value.map none] } := by kernel_rfl
theorem ty111 : ty Tryz.prog 111 = some { desc := TypeDesc.struct { toList := [{ name := "c", type := 65, offset := 0, embedded := false, tag := "", pkgPath := "groove/delay", byteOffset := 0 }, { name := "reach", type := 109, offset := 2, embedded := false, tag := "", pkgPath := "groove/delay", byteOffset := 32 }] }, size := 3, bytes := 40, zero := Value.agg #[Value.int IntKind.i64 (0), Value.slice none 0 0, Value.map none] } := by kernel_rfl
theorem ty113 : ty Tryz.prog 113 = some { desc := TypeDesc.slice 116, size := 1, bytes := 24, zero := Value.slice none 0 0 } := by kernel_rfl
theorem ty115 : ty Tryz.prog 115 = some { desc := TypeDesc.struct { toList := [{ name := "first", type := 9, offset := 0, embedded := false, tag := "", pkgPath := "groove/delay", byteOffset := 0 }, { name := "second", type := 9, offset := 1, embedded := false, tag := "", pkgPath := "groove/delay", byteOffset := 16 }] }, size := 2, bytes := 32, zero := Value.agg #[Value.string { data := #[] }, Value.string { data := #[] }] } := by kernel_rfl
theorem ty116 : ty Tryz.prog 116 = some { desc := TypeDesc.struct { toList := [{ name := "first", type := 9, offset := 0, embedded := false, tag := "", pkgPath := "groove/delay", byteOffset := 0 }, { name := "second", type := 9, offset := 1, embedded := false, tag := "", pkgPath := "groove/delay", byteOffset := 16 }] }, size := 2, bytes := 32, zero := Value.agg #[Value.string { data := #[] }, Value.string { data := #[] }] } := by kernel_rfl
theorem ty120 : ty Tryz.prog 120 = some { desc := TypeDesc.pointer 5, size := 1, bytes := 8, zero := Value.pointer none } := by kernel_rfl
theorem ty121 : ty Tryz.prog 121 = some { desc := TypeDesc.slice 36, size := 1, bytes := 24, zero := Value.slice none 0 0 } := by kernel_rfl
theorem ty125 : ty Tryz.prog 125 = some { desc := TypeDesc.map 9 36, size := 1, bytes := 8, zero := Value.map none } := by kernel_rfl
theorem ty133 : ty Tryz.prog 133 = some { desc := TypeDesc.map 9 4, size := 1, bytes := 8, zero := Value.map none } := by kernel_rfl
theorem ty138 : ty Tryz.prog 138 = some { desc := TypeDesc.map 116 113, size := 1, bytes := 8, zero := Value.map none } := by kernel_rfl
theorem ty154 : ty Tryz.prog 154 = some { desc := TypeDesc.int IntKind.u64, size := 1, bytes := 8, zero := Value.int IntKind.u64 (0) } := by kernel_rfl
theorem ty168 : ty Tryz.prog 168 = some { desc := TypeDesc.int IntKind.u32, size := 1, bytes := 4, zero := Value.int IntKind.u32 (0) } := by kernel_rfl
theorem ty171 : ty Tryz.prog 171 = some { desc := TypeDesc.int IntKind.u64, size := 1, bytes := 8, zero := Value.int IntKind.u64 (0) } := by kernel_rfl
theorem ty176 : ty Tryz.prog 176 = some { desc := TypeDesc.int IntKind.i64, size := 1, bytes := 8, zero := Value.int IntKind.i64 (0) } := by kernel_rfl
theorem ty185 : ty Tryz.prog 185 = some { desc := TypeDesc.slice 186, size := 1, bytes := 24, zero := Value.slice none 0 0 } := by kernel_rfl
theorem ty186 : ty Tryz.prog 186 = some { desc := TypeDesc.slice 4, size := 1, bytes := 24, zero := Value.slice none 0 0 } := by kernel_rfl
theorem ty194 : ty Tryz.prog 194 = some { desc := TypeDesc.int IntKind.u64, size := 1, bytes := 8, zero := Value.int IntKind.u64 (0) } := by kernel_rfl
theorem ty198 : ty Tryz.prog 198 = some { desc := TypeDesc.pointer 3, size := 1, bytes := 8, zero := Value.pointer none } := by kernel_rfl
theorem ty202 : ty Tryz.prog 202 = some { desc := TypeDesc.pointer 194, size := 1, bytes := 8, zero := Value.pointer none } := by kernel_rfl
theorem ty208 : ty Tryz.prog 208 = some { desc := TypeDesc.array 0 16, size := 0, bytes := 0, zero := Value.agg #[] } := by kernel_rfl
theorem ty211 : ty Tryz.prog 211 = some { desc := TypeDesc.int IntKind.u8, size := 1, bytes := 1, zero := Value.int IntKind.u8 (0) } := by kernel_rfl
theorem ty212 : ty Tryz.prog 212 = some { desc := TypeDesc.int IntKind.u8, size := 1, bytes := 1, zero := Value.int IntKind.u8 (0) } := by kernel_rfl
theorem ty214 : ty Tryz.prog 214 = some { desc := TypeDesc.int IntKind.i32, size := 1, bytes := 4, zero := Value.int IntKind.i32 (0) } := by kernel_rfl
theorem ty215 : ty Tryz.prog 215 = some { desc := TypeDesc.int IntKind.i32, size := 1, bytes := 4, zero := Value.int IntKind.i32 (0) } := by kernel_rfl
attribute [go_sem] ty2 ty3 ty4 ty5 ty6 ty9 ty10 ty11 ty12 ty15 ty16 ty17 ty21 ty22 ty23 ty24 ty25 ty26 ty27 ty28 ty31 ty34 ty35 ty36 ty58 ty59 ty60 ty64 ty65 ty67 ty68 ty69 ty97 ty103 ty105 ty106 ty107 ty109 ty110 ty111 ty113 ty115 ty116 ty120 ty121 ty125 ty133 ty138 ty154 ty168 ty171 ty176 ty185 ty186 ty194 ty198 ty202 ty208 ty211 ty212 ty214 ty215
theorem follows : Tryz.prog.follows .mixedOrders = true := by kernel_rfl
theorem fo24_0 : fieldOf Tryz.prog 24 0 = some (0, { desc := TypeDesc.slice 9, size := 1, bytes := 24, zero := Value.slice none 0 0 }) := by kernel_rfl
theorem fo24_1 : fieldOf Tryz.prog 24 1 = some (1, { desc := TypeDesc.slice 9, size := 1, bytes := 24, zero := Value.slice none 0 0 }) := by kernel_rfl
theorem fo27_0 : fieldOf Tryz.prog 27 0 = some (0, { desc := TypeDesc.int IntKind.i64, size := 1, bytes := 8, zero := Value.int IntKind.i64 (0) }) := by kernel_rfl
theorem fo27_1 : fieldOf Tryz.prog 27 1 = some (1, { desc := TypeDesc.int IntKind.i64, size := 1, bytes := 8, zero := Value.int IntKind.i64 (0) }) := by kernel_rfl
theorem fo27_2 : fieldOf Tryz.prog 27 2 = some (2, { desc := TypeDesc.slice 35, size := 1, bytes := 24, zero := Value.slice none 0 0 }) := by kernel_rfl
theorem fo35_0 : fieldOf Tryz.prog 35 0 = some (0, { desc := TypeDesc.int IntKind.i64, size := 1, bytes := 8, zero := Value.int IntKind.i64 (0) }) := by kernel_rfl
theorem fo35_1 : fieldOf Tryz.prog 35 1 = some (1, { desc := TypeDesc.int IntKind.i64, size := 1, bytes := 8, zero := Value.int IntKind.i64 (0) }) := by kernel_rfl
theorem fo35_2 : fieldOf Tryz.prog 35 2 = some (2, { desc := TypeDesc.int IntKind.i64, size := 1, bytes := 8, zero := Value.int IntKind.i64 (0) }) := by kernel_rfl
theorem fo60_0 : fieldOf Tryz.prog 60 0 = some (0, { desc := TypeDesc.int IntKind.i64, size := 1, bytes := 8, zero := Value.int IntKind.i64 (0) }) := by kernel_rfl
theorem fo60_1 : fieldOf Tryz.prog 60 1 = some (1, { desc := TypeDesc.int IntKind.i64, size := 1, bytes := 8, zero := Value.int IntKind.i64 (0) }) := by kernel_rfl
theorem fo60_2 : fieldOf Tryz.prog 60 2 = some (2, { desc := TypeDesc.slice 9, size := 1, bytes := 24, zero := Value.slice none 0 0 }) := by kernel_rfl
theorem fo60_3 : fieldOf Tryz.prog 60 3 = some (3, { desc := TypeDesc.slice 107, size := 1, bytes := 24, zero := Value.slice none 0 0 }) := by kernel_rfl
theorem fo65_0 : fieldOf Tryz.prog 65 0 = some (0, { desc := TypeDesc.int IntKind.i64, size := 1, bytes := 8, zero := Value.int IntKind.i64 (0) }) := by kernel_rfl
theorem fo65_1 : fieldOf Tryz.prog 65 1 = some (1, { desc := TypeDesc.slice 9, size := 1, bytes := 24, zero := Value.slice none 0 0 }) := by kernel_rfl
theorem fo69_1 : fieldOf Tryz.prog 69 1 = some (1, { desc := TypeDesc.slice 5, size := 1, bytes := 24, zero := Value.slice none 0 0 }) := by kernel_rfl
theorem fo107_0 : fieldOf Tryz.prog 107 0 = some (0, { desc := TypeDesc.int IntKind.i64, size := 1, bytes := 8, zero := Value.int IntKind.i64 (0) }) := by kernel_rfl
theorem fo107_1 : fieldOf Tryz.prog 107 1 = some (1, { desc := TypeDesc.int IntKind.i64, size := 1, bytes := 8, zero := Value.int IntKind.i64 (0) }) := by kernel_rfl
theorem fo107_2 : fieldOf Tryz.prog 107 2 = some (2, { desc := TypeDesc.string, size := 1, bytes := 16, zero := Value.string { data := #[] } }) := by kernel_rfl
theorem fo111_0 : fieldOf Tryz.prog 111 0 = some (0, { desc := TypeDesc.struct { toList := [{ name := "Letters", type := 3, offset := 0, embedded := false, tag := "", pkgPath := "", byteOffset := 0 }, { name := "Words", type := 22, offset := 1, embedded := false, tag := "", pkgPath := "", byteOffset := 8 }] }, size := 2, bytes := 32, zero := Value.agg #[Value.int IntKind.i64 (0), Value.slice none 0 0] }) := by kernel_rfl
theorem fo111_1 : fieldOf Tryz.prog 111 1 = some (2, { desc := TypeDesc.map 116 3, size := 1, bytes := 8, zero := Value.map none }) := by kernel_rfl
theorem fo116_0 : fieldOf Tryz.prog 116 0 = some (0, { desc := TypeDesc.string, size := 1, bytes := 16, zero := Value.string { data := #[] } }) := by kernel_rfl
theorem fo116_1 : fieldOf Tryz.prog 116 1 = some (1, { desc := TypeDesc.string, size := 1, bytes := 16, zero := Value.string { data := #[] } }) := by kernel_rfl
theorem es22 : elemSize Tryz.prog 22 = some 1 := by kernel_rfl
theorem es25 : elemSize Tryz.prog 25 = some 3 := by kernel_rfl
theorem es28 : elemSize Tryz.prog 28 = some 1 := by kernel_rfl
theorem es36 : elemSize Tryz.prog 36 = some 1 := by kernel_rfl
theorem es58 : elemSize Tryz.prog 58 = some 3 := by kernel_rfl
theorem es113 : elemSize Tryz.prog 113 = some 2 := by kernel_rfl
theorem cnt_next {i n : Nat} (h : n ≤ 9223372036854775807) (hi : i < n) : IntKind.wrap .i64 ((i : Int) + 1) = ((i + 1 : Nat) : Int) := by
 rw [w64 (by omega) (by omega)]; omega
theorem Pure.use {P : Program} {f : FuncId} {args : List HV} {H : Heap} {K : HV → Heap → Prop} {R : HV → Prop} (hp : Pure P f args R) (hK : ∀ r, R r → K r H) : ACall P f args H K := ACall.pure0 hp hK
end Go.AW

namespace Go.Proofs
open Go
def Tryz.sortS_ren : Go.Shelf.Ren := ⟨fun | 6 => 101 | 8 => 112 | 9 => 116 | 19 => 133 | 20 => 134 | 21 => 137 | 22 => 138 | 23 => 139 | 24 => 140 | 25 => 141 | 26 => 142 | 27 => 143 | 28 => 144 | 29 => 145 | 36 => 154 | 31 => 149 | 32 => 150 | 37 => 155 | 38 => 156 | 39 => 157 | 41 => 159 | n => n, fun | 27 => 22 | 29 => 9 | 3 => 3 | 32 => 154 | 26 => 22 | 0 => 0 | 44 => 168 | 46 => 171 | 4 => 4 | 36 => 177 | 35 => 176 | 41 => 119 | 5 => 5 | 9 => 9 | 53 => 194 | 57 => 198 | 63 => 202 | 64 => 203 | n => n, fun | n => n⟩
theorem Tryz.sortS : Go.Proofs.SlLaysM.n6 Tryz.prog Tryz.sortS_ren where
 mixed := by kernel_rfl
 f6 := ⟨"slices.Sort[[]string,string]", by decide, Tryz.func101.trans (congrArg some (by kernel_rfl))⟩
 f8 := Tryz.func112.trans (congrArg some (by kernel_rfl))
 f9 := ⟨"slices.pdqsortOrdered[string]", by decide, Tryz.func116.trans (congrArg some (by kernel_rfl))⟩
 f19 := Tryz.func133.trans (congrArg some (by kernel_rfl))
 f20 := Tryz.func134.trans (congrArg some (by kernel_rfl))
 f21 := ⟨"slices.insertionSortOrdered[string]", by decide, Tryz.func137.trans (congrArg some (by kernel_rfl))⟩
 f22 := ⟨"slices.heapSortOrdered[string]", by decide, Tryz.func138.trans (congrArg some (by kernel_rfl))⟩
 f23 := ⟨"slices.breakPatternsOrdered[string]", by decide, Tryz.func139.trans (congrArg some (by kernel_rfl))⟩
 f24 := ⟨"slices.choosePivotOrdered[string]", by decide, Tryz.func140.trans (congrArg some (by kernel_rfl))⟩
 f25 := ⟨"slices.reverseRangeOrdered[string]", by decide, Tryz.func141.trans (congrArg some (by kernel_rfl))⟩
 f26 := ⟨"slices.partialInsertionSortOrdered[string]", by decide, Tryz.func142.trans (congrArg some (by kernel_rfl))⟩
 f27 := ⟨"cmp.Less[string]", by decide, Tryz.func143.trans (congrArg some (by kernel_rfl))⟩
 f28 := ⟨"slices.partitionEqualOrdered[string]", by decide, Tryz.func144.trans (congrArg some (by kernel_rfl))⟩
 f29 := ⟨"slices.partitionOrdered[string]", by decide, Tryz.func145.trans (congrArg some (by kernel_rfl))⟩
 f31 := Tryz.func149.trans (congrArg some (by kernel_rfl))
 f32 := Tryz.func150.trans (congrArg some (by kernel_rfl))
 f36 := ⟨"slices.siftDownOrdered[string]", by decide, Tryz.func154.trans (congrArg some (by kernel_rfl))⟩
 f37 := ⟨"slices.medianAdjacentOrdered[string]", by decide, Tryz.func155.trans (congrArg some (by kernel_rfl))⟩
 f38 := ⟨"slices.medianOrdered[string]", by decide, Tryz.func156.trans (congrArg some (by kernel_rfl))⟩
 f39 := ⟨"cmp.isNaN[string]", by decide, Tryz.func157.trans (congrArg some (by kernel_rfl))⟩
 f41 := ⟨"slices.order2Ordered[string]", by decide, Tryz.func159.trans (congrArg some (by kernel_rfl))⟩
 t0 := Tryz.underlying0
 a0 := Tryz.isAgg0
 z0 := Tryz.sizeOf0
 v0 := Tryz.zeroValue0
 t3 := Tryz.underlying3
 a3 := Tryz.isAgg3
 z3 := Tryz.sizeOf3
 v3 := Tryz.zeroValue3
 t4 := Tryz.underlying4
 a4 := Tryz.isAgg4
 z4 := Tryz.sizeOf4
 v4 := Tryz.zeroValue4
 t5 := Tryz.underlying5
 a5 := Tryz.isAgg5
 z5 := Tryz.sizeOf5
 v5 := Tryz.zeroValue5
 t9 := Tryz.underlying9
 a9 := Tryz.isAgg9
 z9 := Tryz.sizeOf9
 v9 := Tryz.zeroValue9
 t26 := Tryz.underlying22
 a26 := Tryz.isAgg22
 z26 := Tryz.sizeOf22
 v26 := Tryz.zeroValue22
 t27 := Tryz.underlying22
 a27 := Tryz.isAgg22
 z27 := Tryz.sizeOf22
 v27 := Tryz.zeroValue22
 t29 := Tryz.underlying9
 a29 := Tryz.isAgg9
 z29 := Tryz.sizeOf9
 v29 := Tryz.zeroValue9
 t32 := Tryz.underlying154
 a32 := Tryz.isAgg154
 z32 := Tryz.sizeOf154
 v32 := Tryz.zeroValue154
 t35 := Tryz.underlying176
 a35 := Tryz.isAgg176
 z35 := Tryz.sizeOf176
 v35 := Tryz.zeroValue176
 t36 := Tryz.underlying177
 a36 := Tryz.isAgg177
 z36 := Tryz.sizeOf177
 v36 := Tryz.zeroValue177
 t41 := Tryz.underlying119
 a41 := Tryz.isAgg119
 z41 := Tryz.sizeOf119
 v41 := Tryz.zeroValue119
 t44 := Tryz.underlying168
 a44 := Tryz.isAgg168
 z44 := Tryz.sizeOf168
 v44 := Tryz.zeroValue168
 t46 := Tryz.underlying171
 a46 := Tryz.isAgg171
 z46 := Tryz.sizeOf171
 v46 := Tryz.zeroValue171
 t53 := Tryz.underlying194
 a53 := Tryz.isAgg194
 z53 := Tryz.sizeOf194
 v53 := Tryz.zeroValue194
 t57 := Tryz.underlying198
 a57 := Tryz.isAgg198
 z57 := Tryz.sizeOf198
 v57 := Tryz.zeroValue198
 t63 := Tryz.underlying202
 a63 := Tryz.isAgg202
 z63 := Tryz.sizeOf202
 v63 := Tryz.zeroValue202
 t64 := Tryz.underlying203
 a64 := Tryz.isAgg203
 z64 := Tryz.sizeOf203
 v64 := Tryz.zeroValue203
def Tryz.sortI_ren : Go.Shelf.Ren := ⟨fun | 5 => 94 | 8 => 112 | 7 => 111 | 19 => 133 | 20 => 134 | 10 => 124 | 11 => 125 | 12 => 126 | 13 => 127 | 14 => 128 | 15 => 129 | 16 => 130 | 17 => 131 | 18 => 132 | 30 => 148 | 31 => 149 | 32 => 150 | 33 => 151 | 34 => 152 | 35 => 122 | 40 => 158 | n => n, fun | 23 => 36 | 25 => 3 | 3 => 3 | 32 => 154 | 22 => 36 | 0 => 0 | 44 => 168 | 46 => 171 | 4 => 4 | 36 => 177 | 35 => 176 | 41 => 119 | 5 => 5 | 9 => 9 | 53 => 194 | 57 => 198 | 63 => 202 | 64 => 203 | n => n, fun | n => n⟩
theorem Tryz.sortI : Go.Proofs.SlLaysM.n5 Tryz.prog Tryz.sortI_ren where
 mixed := by kernel_rfl
 f5 := ⟨"slices.Sort[[]int,int]", by decide, Tryz.func94.trans (congrArg some (by kernel_rfl))⟩
 f7 := ⟨"slices.pdqsortOrdered[int]", by decide, Tryz.func111.trans (congrArg some (by kernel_rfl))⟩
 f8 := Tryz.func112.trans (congrArg some (by kernel_rfl))
 f10 := ⟨"slices.insertionSortOrdered[int]", by decide, Tryz.func124.trans (congrArg some (by kernel_rfl))⟩
 f11 := ⟨"slices.heapSortOrdered[int]", by decide, Tryz.func125.trans (congrArg some (by kernel_rfl))⟩
 f12 := ⟨"slices.breakPatternsOrdered[int]", by decide, Tryz.func126.trans (congrArg some (by kernel_rfl))⟩
 f13 := ⟨"slices.choosePivotOrdered[int]", by decide, Tryz.func127.trans (congrArg some (by kernel_rfl))⟩
 f14 := ⟨"slices.reverseRangeOrdered[int]", by decide, Tryz.func128.trans (congrArg some (by kernel_rfl))⟩
 f15 := ⟨"slices.partialInsertionSortOrdered[int]", by decide, Tryz.func129.trans (congrArg some (by kernel_rfl))⟩
 f16 := ⟨"cmp.Less[int]", by decide, Tryz.func130.trans (congrArg some (by kernel_rfl))⟩
 f17 := ⟨"slices.partitionEqualOrdered[int]", by decide, Tryz.func131.trans (congrArg some (by kernel_rfl))⟩
 f18 := ⟨"slices.partitionOrdered[int]", by decide, Tryz.func132.trans (congrArg some (by kernel_rfl))⟩
 f19 := Tryz.func133.trans (congrArg some (by kernel_rfl))
 f20 := Tryz.func134.trans (congrArg some (by kernel_rfl))
 f30 := ⟨"slices.siftDownOrdered[int]", by decide, Tryz.func148.trans (congrArg some (by kernel_rfl))⟩
 f31 := Tryz.func149.trans (congrArg some (by kernel_rfl))
 f32 := Tryz.func150.trans (congrArg some (by kernel_rfl))
 f33 := ⟨"slices.medianAdjacentOrdered[int]", by decide, Tryz.func151.trans (congrArg some (by kernel_rfl))⟩
 f34 := ⟨"slices.medianOrdered[int]", by decide, Tryz.func152.trans (congrArg some (by kernel_rfl))⟩
 f35 := ⟨"cmp.isNaN[int]", by decide, Tryz.func122.trans (congrArg some (by kernel_rfl))⟩
 f40 := ⟨"slices.order2Ordered[int]", by decide, Tryz.func158.trans (congrArg some (by kernel_rfl))⟩
 t0 := Tryz.underlying0
 a0 := Tryz.isAgg0
 z0 := Tryz.sizeOf0
 v0 := Tryz.zeroValue0
 t3 := Tryz.underlying3
 a3 := Tryz.isAgg3
 z3 := Tryz.sizeOf3
 v3 := Tryz.zeroValue3
 t4 := Tryz.underlying4
 a4 := Tryz.isAgg4
 z4 := Tryz.sizeOf4
 v4 := Tryz.zeroValue4
 t5 := Tryz.underlying5
 a5 := Tryz.isAgg5
 z5 := Tryz.sizeOf5
 v5 := Tryz.zeroValue5
 t9 := Tryz.underlying9
 a9 := Tryz.isAgg9
 z9 := Tryz.sizeOf9
 v9 := Tryz.zeroValue9
 t22 := Tryz.underlying36
 a22 := Tryz.isAgg36
 z22 := Tryz.sizeOf36
 v22 := Tryz.zeroValue36
 t23 := Tryz.underlying36
 a23 := Tryz.isAgg36
 z23 := Tryz.sizeOf36
 v23 := Tryz.zeroValue36
 t25 := Tryz.underlying3
 a25 := Tryz.isAgg3
 z25 := Tryz.sizeOf3
 v25 := Tryz.zeroValue3
 t32 := Tryz.underlying154
 a32 := Tryz.isAgg154
 z32 := Tryz.sizeOf154
 v32 := Tryz.zeroValue154
 t35 := Tryz.underlying176
 a35 := Tryz.isAgg176
 z35 := Tryz.sizeOf176
 v35 := Tryz.zeroValue176
 t36 := Tryz.underlying177
 a36 := Tryz.isAgg177
 z36 := Tryz.sizeOf177
 v36 := Tryz.zeroValue177
 t41 := Tryz.underlying119
 a41 := Tryz.isAgg119
 z41 := Tryz.sizeOf119
 v41 := Tryz.zeroValue119
 t44 := Tryz.underlying168
 a44 := Tryz.isAgg168
 z44 := Tryz.sizeOf168
 v44 := Tryz.zeroValue168
 t46 := Tryz.underlying171
 a46 := Tryz.isAgg171
 z46 := Tryz.sizeOf171
 v46 := Tryz.zeroValue171
 t53 := Tryz.underlying194
 a53 := Tryz.isAgg194
 z53 := Tryz.sizeOf194
 v53 := Tryz.zeroValue194
 t57 := Tryz.underlying198
 a57 := Tryz.isAgg198
 z57 := Tryz.sizeOf198
 v57 := Tryz.zeroValue198
 t63 := Tryz.underlying202
 a63 := Tryz.isAgg202
 z63 := Tryz.sizeOf202
 v63 := Tryz.zeroValue202
 t64 := Tryz.underlying203
 a64 := Tryz.isAgg203
 z64 := Tryz.sizeOf203
 v64 := Tryz.zeroValue203
end Go.Proofs
namespace Go.AW
open Go
section
open Go Go.Proofs Go.Sort
theorem repL_map {α : Type} {w : World} {μ : Mu} {f : α → HV} {g : α → Value} : ∀ {l : List α}, RepL w μ (l.map f) (l.map g) ↔ ∀ x ∈ l, Rep w μ (f x) (g x)
 | [] => by simp [RepL]
 | a :: l => by
  simp only [List.map_cons, RepL, List.mem_cons, forall_eq_or_imp]
  constructor
  ·rintro ⟨x, xs, e, h1, h2⟩
   cases e
   exact ⟨h1, repL_map.1 h2⟩
  exact fun ⟨h1, h2⟩ => ⟨_, _, rfl, h1, repL_map.2 h2⟩
theorem sorted_world {α : Type} [Inhabited α] {enc : α → Value} {f : α → HV} (hf1 : ∀ x, (f x).one = true) {w : World} {μ : Mu} {H : Heap} {id ver b k : Nat} {e : TypeId} {l d : List α} (hs : SR w μ H) (hg : hget H id = some (ver, .arr k e (l.map f)))
  (hl : μ.loc id = some (ver, some b)) (hrep : ∀ x ∈ l, Rep w μ (f x) (enc x)) (hor : OR w μ (.arr k e (l.map f)) (some b)) (hv : ∀ vs, RepL w μ (l.map f) vs → vs = l.map enc) (hp : d.Perm l) (n : Nat) (os : Array Obj) :
  SR (grow (putRow enc (Sort.ahead w n) b 0 d.toArray) os) μ (hset H id ver (.arr k e (d.map f))) ∧ Evo w μ (grow (putRow enc (Sort.ahead w n) b 0 d.toArray) os) μ := by
 obtain ⟨h0, cur, vs, rest, hrow, hcl, hrl⟩ := hor
 have hvs := hv vs hrl
 subst hvs
 have hlen : d.length = l.length := hp.length_eq
 have hcsz : cur.size = l.length + rest.length := by rw [← Array.length_toList, hcl]; simp
 -- the world with the row put
 have hb := hrow.lt
 obtain ⟨lo, hi, hbk, hfr⟩ := hrow
 have hbk' : (putRow enc (Sort.ahead w n) b 0 d.toArray).heap[b]? = some (.cells (putCells enc 0 d.toArray cur) e (lo, hi)) := by
  show (w.heap.modify b _)[b]? = _
  rw [Array.getElem?_modify, if_pos rfl, hbk]
  rfl
 have hcur' : (putCells enc 0 d.toArray cur).toList = d.map enc ++ rest := by
  apply List.ext_getElem?
  intro i
  rw [Array.getElem?_toList]
  simp only [putCells, Array.getElem?_mapIdx]
  have hc : cur[i]? = (l.map enc ++ rest)[i]? := by rw [← hcl, Array.getElem?_toList]
  rw [hc]
  rcases Nat.lt_or_ge i d.length with hi | hi
  ·rw [List.getElem?_append_left (by simp; omega), List.getElem?_append_left (by simpa using hi), List.getElem?_map, List.getElem?_map, List.getElem?_eq_getElem (by omega : i < l.length), List.getElem?_eq_getElem hi]
   simp only [Option.map_some]
   rw [if_pos ⟨Nat.zero_le _, by simpa using hi⟩]
   simp [hi]
  rw [List.getElem?_append_right (by simp; omega), List.getElem?_append_right (by simpa using hi)]
  simp only [List.length_map, hlen]
  cases rest[i - l.length]? with
  | none => rfl
  | some x =>
   simp only [Option.map_some]
   rw [if_neg (by simp; omega)]
 have hsz1 : (putRow enc (Sort.ahead w n) b 0 d.toArray).heap.size = w.heap.size := by rw [Sort.size_putRow]; rfl
 have hrow1 : Row (putRow enc (Sort.ahead w n) b 0 d.toArray) b (putCells enc 0 d.toArray cur) e := ⟨lo, hi, hbk', by simpa [putCells] using hfr⟩
 have hold : ∀ b', b' ≠ b → (putRow enc (Sort.ahead w n) b 0 d.toArray).heap[b']? = w.heap[b']? := fun b' hne => by
  show (w.heap.modify b _)[b']? = _
  rw [Array.getElem?_modify, if_neg (fun e => hne e.symm)]
 obtain ⟨h1, h2⟩ := hs.updArr (cs' := d.map f) (w' := putRow enc (Sort.ahead w n) b 0 d.toArray) hg hl ⟨rfl, rfl, rfl⟩ hsz1 hold ⟨lo, hi, hbk, hfr⟩ hrow1 (by simp [putCells]) fun E => by
  refine ⟨fun c hc => ?_, _, d.map enc, rest, hrow1, hcur', repL_map.2 fun x hx => Rep.evo E hs.ok _ _ (hrep x (hp.mem_iff.1 hx))⟩
  obtain ⟨x, _, rfl⟩ := List.mem_map.1 hc
  exact hf1 x
 have g : Grow (putRow enc (Sort.ahead w n) b 0 d.toArray) (grow (putRow enc (Sort.ahead w n) b 0 d.toArray) os) :=
  ⟨⟨rfl, rfl, rfl⟩, by rw [size_grow]; omega, fun b' hb' => by
   show (_ ++ os)[b']? = _
   rw [Array.getElem?_append_left hb']⟩
 exact ⟨h1.grow g, h2.trans (Evo.grow h1 g)⟩
theorem holds_row {α : Type} [Inhabited α] {enc : α → Value} {w : World} {b : Nat} {cur : Array Value} {e : TypeId} {l : List α} {rest : List Value} (hrow : Row w b cur e) (hcl : cur.toList = l.map enc ++ rest) : Holds enc w b 0 l.toArray := by
 intro j hj
 have hj' : j < l.length := by simpa using hj
 have hc : cur[j]? = some (enc l[j]) := by
  rw [← Array.getElem?_toList, hcl, List.getElem?_append_left (by simpa using hj'), List.getElem?_map, List.getElem?_eq_getElem hj']
  rfl
 refine ⟨?_, ?_⟩
 ·rw [Nat.zero_add, hrow.cell, hc]
  simp [hj']
 rw [Nat.zero_add]
 exact hrow.free (Array.getElem?_eq_some_iff.1 hc).1
theorem repL_ints {w : World} {μ : Mu} : ∀ {l : List Int} {vs : List Value}, RepL w μ (l.map (.int .i64)) vs → vs = l.map (Value.int .i64) ∧ ∀ x ∈ l, Rep w μ (.int .i64 x) (Value.int .i64 x)
 | [], vs, h => by simp only [List.map_nil, RepL] at h; subst h; exact ⟨rfl, by simp⟩
 | a :: l, vs, ⟨x, xs, e, h1, h2⟩ => by
  obtain ⟨h3, h4⟩ := repL_ints h2
  obtain ⟨rfl, hl⟩ := h1
  subst e
  rw [h3]
  exact ⟨rfl, by simpa using ⟨⟨rfl, hl⟩, h4⟩⟩
theorem w179 {H : Heap} {id ver : Nat} {e : TypeId} {l : List Int} {K : HV → Heap → Prop} (hg : hget H id = some (ver, .arr 1 e (l.map (.int .i64)))) (hlen : l.length < 4611686018427387904)
  (hK : K (.tup []) (hset H id ver (.arr 1 e ((sortI l).map (.int .i64))))) : ACall Tryz.prog 94 [.ar id ver 1 0 l.length] H K := by
 refine ⟨enters' Tryz.func94 rfl rfl, fun μ w vs hs hr _ => ?_⟩
 obtain ⟨x, xs, rfl, hr, hn⟩ := hr
 cases hn
 obtain ⟨lo, hl, hor⟩ := hs.has _ _ _ hg
 rcases hr with ⟨lo', hl', h⟩ | ⟨hd, _⟩
 ·rw [hl] at hl'
  cases hl'
  rcases h with ⟨rfl, rfl, h0, _⟩ | ⟨b, cap, cur, e', rfl, rfl, hcap, _, hrow, hsz⟩
  ·have h0' : l = [] := List.eq_nil_of_length_eq_zero h0
   subst h0'
   refine (AnyM.slices_Sort_int_none Tryz.sortI none 0 w).mono ?_
   rintro e' w' ⟨rfl, rfl⟩
   refine ⟨_, .tup [], _, μ, rfl, hK, ?_, ⟨[], rfl, rfl⟩, Evo.refl _ _⟩
   have : (sortI []).map (HV.int .i64) = [] := by simp [sortI]
   rw [this]
   exact hs.same hg
  have hor' := hor
  obtain ⟨h0, cur', vs', rest, hrow', hcl, hrl⟩ := hor
  obtain ⟨hvs, hreps⟩ := repL_ints hrl
  subst hvs
  refine (AnyM.slices_Sort_int Tryz.sortI b 0 cap l w (holds_row hrow' hcl) hrow'.lt hlen).mono ?_
  rintro e2 w' ⟨rfl, n, os, rfl⟩
  obtain ⟨h1, h2⟩ := sorted_world (f := HV.int .i64) (fun _ => rfl) hs hg hl hreps hor' (fun vs hv => (repL_ints hv).1) (List.mergeSort_perm l _) n os
  exact ⟨_, .tup [], _, μ, rfl, hK, h1, ⟨[], rfl, rfl⟩, h2⟩
 exact absurd hl (hd.2 lo)
theorem sorts179 : SortsI Tryz.prog 94 := by
 refine ⟨fun _ _ _ _ _ _ hg hl hK => w179 hg hl hK, fun H K hK => ⟨enters' Tryz.func94 rfl rfl, fun μ w vs hs hr _ => ?_⟩⟩
 obtain ⟨x, xs, rfl, hr, hn⟩ := hr
 cases hn
 cases hr
 refine (AnyM.slices_Sort_int_none Tryz.sortI none 0 w).mono ?_
 rintro e' w' ⟨rfl, rfl⟩
 exact ⟨_, .tup [], _, μ, rfl, hK, hs, ⟨[], rfl, rfl⟩, Evo.refl _ _⟩
end
section
open Go Go.Proofs Go.Sort Go.Lib
theorem put_world {α : Type} [Inhabited α] {enc : α → Value} {f : α → HV} (hf1 : ∀ x, (f x).one = true) {w : World} {μ : Mu} {H : Heap} {id ver b k : Nat} {e : TypeId} {l d : List α} (hs : SR w μ H) (hg : hget H id = some (ver, .arr k e (l.map f)))
  (hl : μ.loc id = some (ver, some b)) (hrep : ∀ x ∈ d, Rep w μ (f x) (enc x)) (hor : OR w μ (.arr k e (l.map f)) (some b)) (hv : ∀ vs, RepL w μ (l.map f) vs → vs = l.map enc) (hlen : d.length = l.length) (n : Nat) :
  SR (putRow enc (Sort.ahead w n) b 0 d.toArray) μ (hset H id ver (.arr k e (d.map f))) ∧ Evo w μ (putRow enc (Sort.ahead w n) b 0 d.toArray) μ := by
 obtain ⟨h0, cur, vs, rest, hrow, hcl, hrl⟩ := hor
 have hvs := hv vs hrl
 subst hvs
 have hcsz : cur.size = l.length + rest.length := by rw [← Array.length_toList, hcl]; simp
 obtain ⟨lo, hi, hbk, hfr⟩ := hrow
 have hbk' : (putRow enc (Sort.ahead w n) b 0 d.toArray).heap[b]? = some (.cells (putCells enc 0 d.toArray cur) e (lo, hi)) := by
  show (w.heap.modify b _)[b]? = _
  rw [Array.getElem?_modify, if_pos rfl, hbk]
  rfl
 have hcur' : (putCells enc 0 d.toArray cur).toList = d.map enc ++ rest := by
  apply List.ext_getElem?
  intro i
  rw [Array.getElem?_toList]
  simp only [putCells, Array.getElem?_mapIdx]
  have hc : cur[i]? = (l.map enc ++ rest)[i]? := by rw [← hcl, Array.getElem?_toList]
  rw [hc]
  rcases Nat.lt_or_ge i d.length with hi | hi
  ·rw [List.getElem?_append_left (by simp; omega), List.getElem?_append_left (by simpa using hi), List.getElem?_map, List.getElem?_map, List.getElem?_eq_getElem (by omega : i < l.length), List.getElem?_eq_getElem hi]
   simp only [Option.map_some]
   rw [if_pos ⟨Nat.zero_le _, by simpa using hi⟩]
   simp [hi]
  rw [List.getElem?_append_right (by simp; omega), List.getElem?_append_right (by simpa using hi)]
  simp only [List.length_map, hlen]
  cases rest[i - l.length]? with
  | none => rfl
  | some x =>
   simp only [Option.map_some]
   rw [if_neg (by simp; omega)]
 have hsz1 : (putRow enc (Sort.ahead w n) b 0 d.toArray).heap.size = w.heap.size := by rw [Sort.size_putRow]; rfl
 have hrow1 : Row (putRow enc (Sort.ahead w n) b 0 d.toArray) b (putCells enc 0 d.toArray cur) e := ⟨lo, hi, hbk', by simpa [putCells] using hfr⟩
 have hold : ∀ b', b' ≠ b → (putRow enc (Sort.ahead w n) b 0 d.toArray).heap[b']? = w.heap[b']? := fun b' hne => by
  show (w.heap.modify b _)[b']? = _
  rw [Array.getElem?_modify, if_neg (fun e => hne e.symm)]
 exact hs.updArr (cs' := d.map f) (w' := putRow enc (Sort.ahead w n) b 0 d.toArray) hg hl ⟨rfl, rfl, rfl⟩ hsz1 hold ⟨lo, hi, hbk, hfr⟩ hrow1 (by simp [putCells]) fun E => by
  refine ⟨fun c hc => ?_, _, d.map enc, rest, hrow1, hcur', repL_map.2 fun x hx => Rep.evo E hs.ok _ _ (hrep x hx)⟩
  obtain ⟨x, _, rfl⟩ := List.mem_map.1 hc
  exact hf1 x
end
end Go.AW
namespace Go.Proofs
open Go
set_option maxHeartbeats 1000000 in
set_option maxRecDepth 100000 in
theorem Tryz.stringslite_IndexByte (s : ByteArray) (c : Int) (w : World) :
  Calls Tryz.prog 96 #[.string s, .int .u8 c] w fun e w' => e = .returned (.int .i64 (Lib.indexByte s.data.toList c.toNat.toUInt8)) ∧ w' = w := by
 go_enter Tryz.func96, Tryz.ntmps96
 go_wp2
 rw [run_callFunc_extern Tryz.func113 (by kernel_rfl) (by kernel_rfl) (by kernel_rfl) (e := Extern.BytealgIndexByte.indexByte) (by kernel_rfl), Lib.run_indexByteString]
 simp only [Result.andThen]
 rw [Oper.upon_value]
 go_wp2
 go_ret
 exact ⟨rfl, rfl⟩
set_option maxHeartbeats 1000000 in
theorem Tryz.strings_IndexByte (s : ByteArray) (c : Int) (w : World) :
  Calls Tryz.prog 63 #[.string s, .int .u8 c] w fun e w' => e = .returned (.int .i64 (Lib.indexByte s.data.toList c.toNat.toUInt8)) ∧ w' = w := by
 go_enter Tryz.func63, Tryz.ntmps63
 go_wp2_with (go_at_call 96; refine (Tryz.stringslite_IndexByte _ _ _).mono ?_; rintro e w' ⟨rfl, rfl⟩)
 go_ret
 exact ⟨rfl, rfl⟩
end Go.Proofs
namespace Go.AW
open Go Go.Proofs
theorem idx_wf (l : List UInt8) (c : UInt8) (hl : l.length ≤ maxLen) : (Lit.int .i64 (Lib.indexByte l c)).wf = true := by
 have h : ∀ l : List UInt8, -1 ≤ Lib.indexByte l c ∧ Lib.indexByte l c ≤ l.length := by
  intro l
  induction l with
  | nil => simp [Lib.indexByte]
  | cons a l ih =>
   simp only [Lib.indexByte, List.length_cons]
   split
   ·omega
   split
   ·omega
   omega
 have := h l
 simp only [maxLen] at hl
 simp only [Lit.wf, IntKind.min, IntKind.max, IntKind.signed, IntKind.bits, Bool.and_eq_true, decide_eq_true_eq]
 simp
 omega
theorem w51 (l : List UInt8) (c : Int) : Pure Tryz.prog 63 [.str l, .int .u8 c] (· = .int .i64 (Lib.indexByte l c.toNat.toUInt8)) := by
 refine ⟨enters' Tryz.func63 rfl rfl, fun μ w vs hs hr _ => ?_⟩
 obtain ⟨x, xs, rfl, ⟨rfl, hl⟩, y, ys, rfl, ⟨rfl, _⟩, hn⟩ := hr
 cases hn
 refine (Tryz.strings_IndexByte ⟨l.toArray⟩ c w).mono ?_
 rintro e w' ⟨rfl, rfl⟩
 exact ⟨_, _, [], μ, rfl, ⟨rfl, trivial, rfl⟩, hs, ⟨by simp, idx_wf l _ hl⟩, Evo.refl _ _⟩
end Go.AW
namespace Go.Proofs
open Go
def Tryz.compI_ren : Go.Shelf.Ren := ⟨fun | 20 => 95 | n => n, fun | 22 => 36 | 3 => 3 | 4 => 4 | 0 => 0 | n => n, fun | n => n⟩
theorem Tryz.compI : Go.Proofs.Lays2.n20 Tryz.prog Tryz.compI_ren where
 mixed := by kernel_rfl
 f20 := Tryz.func95.trans (congrArg some (by kernel_rfl))
 t0 := Tryz.underlying0
 a0 := Tryz.isAgg0
 z0 := Tryz.sizeOf0
 v0 := Tryz.zeroValue0
 t3 := Tryz.underlying3
 a3 := Tryz.isAgg3
 z3 := Tryz.sizeOf3
 v3 := Tryz.zeroValue3
 t4 := Tryz.underlying4
 a4 := Tryz.isAgg4
 z4 := Tryz.sizeOf4
 v4 := Tryz.zeroValue4
 t22 := Tryz.underlying36
 a22 := Tryz.isAgg36
 z22 := Tryz.sizeOf36
 v22 := Tryz.zeroValue36
 i3 := by kernel_rfl
end Go.Proofs
namespace Go.AW
open Go Go.Proofs Go.Sort Go.Lib
set_option linter.unusedVariables false
theorem c_sortI : SortsI Tryz.prog 94 := sorts179
theorem w180 {H : Heap} {id ver : Nat} {e : TypeId} {l : List Int} {K : HV → Heap → Prop} (hg : hget H id = some (ver, .arr 1 e (l.map (.int .i64))))
  (hK : K (.ar id ver 1 0 (compact_ l).length) (hset H id ver (.arr 1 e ((compact_ l ++ List.replicate (l.length - (compact_ l).length) 0).map (.int .i64))))) : ACall Tryz.prog 95 [.ar id ver 1 0 l.length] H K := by
 refine ⟨enters' Tryz.func95 rfl rfl, fun μ w vs hs hr _ => ?_⟩
 obtain ⟨x, xs, rfl, hr, hn⟩ := hr
 cases hn
 obtain ⟨lo, hl, hor⟩ := hs.has _ _ _ hg
 rcases hr with ⟨lo', hl', h⟩ | ⟨hd, _⟩
 ·rw [hl] at hl'
  cases hl'
  rcases h with ⟨rfl, rfl, h0, _⟩ | ⟨b, cap, cur, e', rfl, rfl, hcap, hcm, hrow, hsz⟩
  ·have hl0 := List.eq_nil_of_length_eq_zero h0
   subst hl0
   refine (Any.slices_Compact_int_empty Tryz.compI none 0 w).mono ?_
   rintro e2 w' ⟨rfl, rfl⟩
   refine ⟨_, .ar id ver 1 0 0, _, μ, rfl, hK, hs.reobj hg fun l hl hor => hor, .inl ⟨none, hl, .inl ⟨rfl, rfl, rfl, rfl⟩⟩, Evo.refl _ _⟩
  have hor' := hor
  obtain ⟨h0, cur', vs', rest, hrow', hcl, hrl⟩ := hor
  obtain ⟨hvs, hreps⟩ := repL_ints hrl
  subst hvs
  refine (Any.slices_Compact_int Tryz.compI b 0 cap l w (holds_row hrow' hcl) (by have := hcm; simp only [maxLen] at this; omega) hcap).mono ?_
  rintro e2 w' ⟨rfl, n, rfl⟩
  have hle := compact_le l
  have hlen : (compact_ l ++ List.replicate (l.length - (compact_ l).length) (0 : Int)).length = l.length := by simp; omega
  obtain ⟨h1, h2⟩ := put_world (f := HV.int .i64) (fun _ => rfl) hs hg hl (d := compact_ l ++ List.replicate (l.length - (compact_ l).length) 0) (fun x hx => by
   rcases List.mem_append.1 hx with hx | hx
   ·exact hreps x (compact_mem hx)
   rw [List.eq_of_mem_replicate hx]; exact ⟨rfl, rfl⟩) hor' (fun vs hv => (repL_ints hv).1) hlen n
  refine ⟨_, .ar id ver 1 0 (compact_ l).length, _, μ, rfl, hK, h1, .inl ⟨some b, hl, .inr ⟨b, cap, putCells (Value.int .i64) 0 (compact_ l ++ List.replicate (l.length - (compact_ l).length) 0).toArray cur, e', rfl, by simp, by omega, hcm, ?_, ?_⟩⟩, h2⟩
  ·obtain ⟨lo, hi, hbk, hfr⟩ := hrow
   refine ⟨lo, hi, ?_, by simpa [putCells] using hfr⟩
   show (w.heap.modify b _)[b]? = _
   rw [Array.getElem?_modify, if_pos rfl, hbk]
   rfl
  simp only [putCells, Array.size_mapIdx]; exact hsz
 exact absurd hl (hd.2 lo)
theorem c_compactI {H H' : Heap} {id ver n : Nat} {e : TypeId} {l : List Int} {K : HV → Heap → Prop} (hn : n = l.length) (hg : hget H id = some (ver, .arr 1 e (l.map (.int .i64)))) (hle : ∀ j x, hget H' j = some x → hget H j = some x) (hno : hget H' id = none)
  (hK : K (slE eInt (compact_ l)) H') : ACall Tryz.prog 95 [.ar id ver 1 0 n] H K := by
 subst hn
 have hlen := compact_le l
 refine ACall.freeze 2 [(id, ver, .arr 1 e ((compact_ l ++ List.replicate (l.length - (compact_ l).length) 0).map (.int .i64)))] H' (w180 hg ⟨fun j x hx => ?_, fun j x hx => ?_, ?_⟩)
 ·rw [hget_hset, if_neg (fun e => by rw [e, hno] at hx; cases hx)]
  exact hle j x hx
 ·simp only [hget] at hx
  split at hx
  ·rename_i e
   subst e
   cases hx
   exact ⟨by rw [hget_hset, if_pos rfl], hno⟩
  cases hx
 have : frz 2 [(id, ver, .arr 1 e ((compact_ l ++ List.replicate (l.length - (compact_ l).length) 0).map (.int .i64)))] (.ar id ver 1 0 (compact_ l).length) = slE eInt (compact_ l) := by
  have h0 : hget [(id, ver, AObj.arr 1 e ((compact_ l ++ List.replicate (l.length - (compact_ l).length) 0).map (.int .i64)))] id = some (ver, .arr 1 e ((compact_ l ++ List.replicate (l.length - (compact_ l).length) 0).map (.int .i64))) := by simp only [hget, if_true]
  rw [frz, h0]
  have h1 : ver = ver ∧ 0 + (compact_ l).length * 1 ≤ ((compact_ l ++ List.replicate (l.length - (compact_ l).length) (0 : Int)).map (HV.int .i64)).length := ⟨rfl, by simp⟩
  refine (if_pos h1).trans ?_
  rw [List.drop_zero, Nat.mul_one, List.map_append, List.take_left' (List.length_map _), List.map_map]
  rfl
 rw [this]
 exact hK
theorem w_strings_IndexByte {l : List UInt8} {c r : Int} (h : m_strings_IndexByte l c = some r) : Pure Tryz.prog 63 [HV.str l, HV.int .u8 c] (· = HV.int .i64 r) := by
 cases h
 exact w51 l c
end Go.AW
namespace Go.AW
open Go
def letters : List UInt8 := [48, 49, 50, 51, 52, 53, 54, 55, 56, 57, 97, 98, 99, 100, 101, 102]
section
variable {stp : List Int → UInt8 → List Int} {cs : List UInt8} {set : List Int}
end
open Go.Proofs
theorem fw27_0 : fieldOf Tryz.prog 27 0 = some (0, { desc := TypeDesc.int .i64, size := 1, bytes := 8, zero := Value.int .i64 0 }) := by kernel_rfl
theorem fw27_1 : fieldOf Tryz.prog 27 1 = some (1, { desc := TypeDesc.int .i64, size := 1, bytes := 8, zero := Value.int .i64 0 }) := by kernel_rfl
theorem fw27_2 : fieldOf Tryz.prog 27 2 = some (2, { desc := TypeDesc.slice 35, size := 1, bytes := 24, zero := Value.slice none 0 0 }) := by kernel_rfl
theorem fw35_0 : fieldOf Tryz.prog 35 0 = some (0, { desc := TypeDesc.int .i64, size := 1, bytes := 8, zero := Value.int .i64 0 }) := by kernel_rfl
theorem fw35_1 : fieldOf Tryz.prog 35 1 = some (1, { desc := TypeDesc.int .i64, size := 1, bytes := 8, zero := Value.int .i64 0 }) := by kernel_rfl
theorem fw35_2 : fieldOf Tryz.prog 35 2 = some (2, { desc := TypeDesc.int .i64, size := 1, bytes := 8, zero := Value.int .i64 0 }) := by kernel_rfl
attribute [go_sem high] fw27_0 fw27_1 fw27_2 fw35_0 fw35_1 fw35_2
theorem hget_0 {id v : Nat} {o : AObj} {H : Heap} : hget ((id, v, o) :: H) id = some (v, o) := by simp [hget]
set_option linter.unusedSimpArgs false
set_option linter.unusedVariables false
theorem le_slH {l l' : List (Nat × HV)} {H : Heap} (h : leS l l') : (⟨l, H⟩ : AS).le ⟨l', H⟩ := ⟨leS_get h, fun _ _ h => h⟩
set_option maxRecDepth 100000 in
theorem iy_graph_leaving {g : TLabelsStatesEdges} {s : Int} {L : List (Int × TFromLabelTo)} (h : y_graph_leaving g s = some L) : Yields Tryz.prog 110 [] [gF g, .fptr [hI s] 0] (L.map fun x => [hI x.1, .agg [hI x.2.1, hI x.2.2.1, hI x.2.2.2]]) := by
  unfold y_graph_leaving at h
  split at h
  · rename_i hm
    cases h
    obtain ⟨gl, gs, es⟩ := g
    dsimp only at hm ⊢
    intro id ver H J Stop K hmn h0 hstep hdone hstop
    refine ACall.of_body Tryz.func110 rfl rfl (lb rfl) ?_
    unfold Tryz.f110
    dsimp only [enumS, Nat.reduceAdd]
    refine AW.rgs rfl fun K1 hK => ?_
    refine bv rfl (v_fieldAddrF fo27_2 rfl) (bv rfl (v_loadF ty25 rfl (l_lit rfl rfl)) (bv rfl (v_lenF rfl rfl ty25 rfl) (mv rfl rfl ?_)))
    refine b_nil (hK _ (AW.to (to_le (s' := ⟨[(0, .yl id ver), (2, .fptr [hI s] 0), (7, slE eFromLabelTo es), (8, .int .i64 (es.length : Int)), (9, .int .i64 ((0 : Nat) : Int))], H⟩) (le_slH ⟨rfl, rfl, rfl, rfl, rfl, trivial⟩) ?_)))
    clear hK K1
    refine AW.block ?_
    refine AW.loopS (fun p : Nat × Heap => ⟨[(0, .yl id ver), (2, .fptr [hI s] 0), (7, slE eFromLabelTo es), (8, .int .i64 (es.length : Int)), (9, .int .i64 (p.1 : Int))], p.2⟩)
      (fun p => p.1 ≤ es.length ∧ J (leaveL (es.take p.1) s).length p.2) (fun p => es.length - p.1) (0, H) (AS.le_refl _) ⟨Nat.zero_le _, h0⟩ ?_
    rintro ⟨i, H1⟩ ⟨hi, hj⟩
    dsimp only at hi hj ⊢
    refine AW.rgs rfl fun K1 hK => ?_
    refine bv rfl (v_bin rfl rfl b_lss) ?_
    refine b_nil (hK _ ?_)
    clear hK K1
    refine AW.cseq rfl (fun hc => ?_) (fun hc => ?_)
    · have hi' : i < es.length := by have := of_decide_eq_true hc; omega
      have hx : idx es (i : Int) = some es[i] := ix hi'
      obtain ⟨f, hf⟩ := fresh_id H1 5
      refine AW.skip ?_
      refine AW.seq (AW.block ?_)
      refine AW.rgs rfl fun K1 hK => ?_
      refine mv rfl rfl (bv rfl (v_idxF ty25 es25 rfl rfl (idx_lt hx)) (bv rfl (v_loadF ty35 rfl (l_agg eFromLabelTo hx rfl rfl)) ?_))
      refine b_op rfl (o_alloc (fid := f) (zs := [hI 0, hI 0, hI 0]) (f * 1000 + 5) rfl rfl ty35 rfl (fun ov => ?_))
      refine mv rfl rfl ?_
      refine b_op rfl (o_store (cs := cFromLabelTo es[i]) (zs := cFromLabelTo es[i]) rfl rfl rfl ty35 rfl hget_0 rfl rfl rfl ?_)
      refine b_nil (hK _ (AW.to (to_le (s' := ⟨[(0, .yl id ver), (2, .fptr [hI s] 0), (4, .int .i64 (i : Int)), (5, .ptr (f * 1000 + 5) ov 0), (7, slE eFromLabelTo es), (8, .int .i64 (es.length : Int)), (9, .int .i64 (i : Int))], (f * 1000 + 5, ov, .arr 3 35 (cFromLabelTo es[i])) :: H1⟩) ⟨leS_get ⟨rfl, rfl, rfl, rfl, rfl, rfl, rfl, trivial⟩, fun j x hx => ?_⟩ ?_)))
      · simp only [hget] at hx ⊢
        split <;> rename_i hij
        · rw [if_pos hij] at hx; exact hx
        first | exact hx | (rw [if_neg hij] at hx; first | exact hx | (rw [if_neg hij]; exact hx)) | (rw [if_neg hij]; exact hx)
      clear hK K1
      have hJ1 := hmn _ _ _ hj (cons_le (ver := ov) (ob := .arr 3 35 (cFromLabelTo es[i])) hf)
      refine AW.rgs rfl fun K1 hK => ?_
      refine bv rfl (v_fieldAddrP fo35_0 rfl hget_0) (bv rfl (v_loadP ty31 rfl hget_0 (l_lit rfl rfl)) (bv rfl (v_loadF ty31 rfl (l_lit rfl rfl)) (bv rfl (v_bin rfl rfl b_eql) (mv rfl rfl ?_))))
      have htk := leaveL_take es s hi'
      by_cases hs : es[i].1 = s
      · rw [if_pos hs] at htk
        obtain ⟨rest, hr⟩ := leaveL_split es s (i + 1)
        rw [htk] at hr
        refine b_T rfl rfl rfl rfl (decide_eq_true hs) (o_val rfl (mv_val rfl rfl).2 ?_)
        refine b_T rfl rfl rfl rfl rfl (o_val rfl (mv_val rfl rfl).2 ?_)
        refine b_T rfl rfl rfl rfl rfl (o_val rfl (v_loadP ty35 rfl hget_0 (l_litA (ds := cFromLabelTo es[i]) rfl (lb rfl) rfl)) ?_)
        refine b_T rfl rfl rfl rfl rfl (o_yield (hs := [hI (i : Int), .agg (cFromLabelTo es[i])]) rfl rfl rfl ?_)
        refine (hstep (leaveL (es.take i) s).length [hI (i : Int), .agg (cFromLabelTo es[i])] _ ?_ hJ1).mono ?_
        · rw [List.getElem?_map, hr, List.append_assoc, List.getElem?_append_right (Nat.le_refl _), Nat.sub_self]
          rfl
        rintro r H2 ⟨b, rfl, h3, h4⟩
        refine b_T rfl rfl rfl rfl rfl (o_val rfl (v_not rfl) ?_)
        refine bv rfl (v_pickT rfl rfl rfl) ?_
        refine b_nil (hK _ (AW.to (to_le (s' := ⟨[(0, .yl id ver), (2, .fptr [hI s] 0), (7, slE eFromLabelTo es), (8, .int .i64 (es.length : Int)), (9, .int .i64 (i : Int)), (24, .bool (!b))], H2⟩) (le_slH ⟨rfl, rfl, rfl, rfl, rfl, rfl, trivial⟩) ?_)))
        clear hK K1
        refine AW.cond rfl (fun hc => ?_) (fun hc => ?_)
        · have hb : b = false := by simpa using hc
          refine AW.ret ⟨.inr rfl, ?_⟩
          simp only [go_sem, reduceIte, Nat.reduceEqDiff]
          exact ⟨_, _, Conv.refl _ _, hstop _ (h4 hb)⟩
        have hb : b = true := by simpa using hc
        refine AW.skip ?_
        refine AW.region (fid := f) (mt := []) [0, 2, 7, 8, 9] rfl fun K hK => ?_
        simp only [go_sem, reduceIte, Nat.reduceEqDiff, Int.reduceLE]
        refine hK _ ?_
        refine ⟨(i + 1, H2), ⟨by dsimp only; omega, ?_⟩, by dsimp only; omega, ?_⟩
        · dsimp only
          rw [htk, List.length_append]
          exact h3 hb
        dsimp only
        rw [cnt_next hm hi']
        exact AS.le_refl _
      rw [if_neg hs, List.append_nil] at htk
      refine b_F rfl rfl rfl rfl rfl (decide_eq_false hs) ?_
      iterate 4 refine b_F rfl rfl rfl rfl rfl rfl ?_
      refine bv rfl (v_pickF rfl rfl rfl) ?_
      refine b_nil (hK _ (AW.to (to_le (s' := ⟨[(0, .yl id ver), (2, .fptr [hI s] 0), (7, slE eFromLabelTo es), (8, .int .i64 (es.length : Int)), (9, .int .i64 (i : Int)), (24, .bool false)], _⟩) (le_slH ⟨rfl, rfl, rfl, rfl, rfl, rfl, trivial⟩) ?_)))
      clear hK K1
      refine AW.cond rfl (fun hc => by cases hc) (fun _ => ?_)
      refine AW.skip ?_
      refine AW.region (fid := f) (mt := []) [0, 2, 7, 8, 9] rfl fun K hK => ?_
      simp only [go_sem, reduceIte, Nat.reduceEqDiff, Int.reduceLE]
      refine hK _ ?_
      refine ⟨(i + 1, (f * 1000 + 5, ov, .arr 3 35 (cFromLabelTo es[i])) :: H1), ⟨by dsimp only; omega, ?_⟩, by dsimp only; omega, ?_⟩
      · dsimp only
        rw [htk]
        exact hJ1
      dsimp only
      rw [cnt_next hm hi']
      exact AS.le_refl _
    have hi2 : es.length ≤ i := by have := of_decide_eq_false hc; omega
    have hie : i = es.length := by omega
    subst hie
    rw [List.take_length] at hj
    refine AW.exit ?_
    refine ⟨.inl rfl, ?_⟩
    simp only [go_sem, reduceIte, Nat.reduceEqDiff]
    exact ⟨_, _, Conv.refl _ _, hdone _ (by rw [List.length_map]; exact hj)⟩
  cases h
noncomputable def m_slices_Equal_Lint_int (p0 : List (Int)) (p1 : List (Int)) : Option (Bool) :=
 if ((p0).length : Int) ≠ ((p1).length : Int) then
  some false
 else
  lpO (loopW (S := Int) (X := Ou (Unit) (Bool)) (fun a1 =>
    if a1 < ((p0).length : Int) then
     (idx p0 a1).bind fun x5 =>
     (idx p1 a1).bind fun x7 =>
     if x5 ≠ x7 then
      some (Stp.exit (Ou.ret false))
     else
      some (Stp.next (IntKind.wrap .i64 (a1 + 1)))
    else
     some (Stp.exit (Ou.go ()))) 0) (fun a9 =>
    some true) some
noncomputable def m_ref11_Great (p0 : TLabelsStatesEdges) : Option (Bool) :=
 jp (fun (a1 : Bool) =>
  some a1)
  fun k3 =>
  if 8 < p0.2.1 then
   if p0.2.1 ≤ 64 then
    k3 true
   else
    if 30 < ((p0.2.2).length : Int) then
     if ((p0.2.2).length : Int) ≤ 1024 then
      k3 true
     else
      k3 (decide (1027 < ((p0.2.2).length : Int)))
    else
     k3 (decide (1027 < ((p0.2.2).length : Int)))
  else
   if 30 < ((p0.2.2).length : Int) then
    if ((p0.2.2).length : Int) ≤ 1024 then
     k3 true
    else
     k3 (decide (1027 < ((p0.2.2).length : Int)))
   else
    k3 (decide (1027 < ((p0.2.2).length : Int)))
noncomputable def m_language_ends (p0 : TLabelsStatesEdges) (p1 : List (Int)) (p2 : List UInt8) : Option ((List (Int))) :=
 (loopW (S := (List Int) × Int) (X := (List Int)) (fun a1 =>
   jp (fun (a5 : Bool) =>
    if a5 = true then
     (idx p2 a1.2).bind fun x8 =>
     (m_language_step p0 a1.1 (x8.toNat : Int)).bind fun x10 =>
     some (Stp.next (x10, IntKind.wrap .i64 (a1.2 + 1)))
    else
     some (Stp.exit a1.1))
    fun k7 =>
    if a1.2 < ((p2).length : Int) then
     k7 (decide (0 < ((a1.1).length : Int)))
    else
     k7 false) (p1, 0)).bind fun a13 =>
 some a13
noncomputable def m_language_Accepts (p0 : TLabelsStatesEdges) (p1 : List UInt8) : Option (Bool × Int) :=
 (m_language_spells p0 p1).bind fun x1 =>
 if x1 ≠ 0 then
  some (false, x1)
 else
  (m_language_states p0).bind fun x3 =>
  (m_language_ends p0 x3 p1).bind fun x5 =>
  some (decide (0 < ((x5).length : Int)), 0)
set_option maxHeartbeats 1600000
set_option maxRecDepth 100000
theorem w_graph_list {p0 : TFromLabelTo} {r : (List (Int))} (h : m_graph_list p0 = some r) : Pure Tryz.prog 47 [.agg [hI p0.1, hI p0.2.1, hI p0.2.2]] (· = slE eInt r) := by
 unfold m_graph_list at h
 refine Pure.of_body Tryz.func47 rfl rfl (lb rfl) fun hf => ?_
 unfold Tryz.f47
 dsimp only [enumS, Nat.reduceAdd]
 refine AW.rgs rfl fun K hK => b_op rfl (o_box rfl rfl rfl ?_)
 refine mv rfl rfl ?_
 refine bf hK ⟨[(1, .fptr [hI p0.1, hI p0.2.1, hI p0.2.2] 0)], []⟩ ?_
 refine AW.rgs rfl fun K hK => bv rfl (v_fieldAddrF fo35_0 rfl) (bv rfl (v_loadF ty3 rfl (l_lit rfl rfl)) (bv rfl (v_fieldAddrF fo35_1 rfl) (bv rfl (v_loadF ty3 rfl (l_lit rfl rfl)) (bv rfl (v_fieldAddrF fo35_2 rfl) (bv rfl (v_loadF ty3 rfl (l_lit rfl rfl)) ?_)))))
 refine b_op rfl (o_bsl rfl rfl (as_of (cs := [hI p0.1, hI p0.2.1, hI p0.2.2]) ty36 ty3 rfl rfl rfl rfl rfl) ?_)
 refine mv rfl rfl ?_
 refine bf hK ⟨[(2, slE eInt [p0.1, p0.2.1, p0.2.2])], []⟩ ?_
 obtain rfl := oi h
 exact AW.ret (ret_pure (.inr rfl) (resT rfl rfl) rfl (clean_slE fun _ _ => ⟨trivial, trivial⟩))
theorem w_cmp_isNaN_int {p0 : Int} {r : Bool} (h : m_cmp_isNaN_int p0 = some r) : Pure Tryz.prog 122 [hI p0] (· = HV.bool r) := by
 unfold m_cmp_isNaN_int at h
 refine Pure.of_body Tryz.func122 rfl rfl (lb rfl) fun hf => ?_
 unfold Tryz.f122
 dsimp only [enumS, Nat.reduceAdd]
 refine AW.rgs rfl fun K hK => mv rfl rfl ?_
 refine bf hK ⟨[(0, hI p0)], []⟩ ?_
 refine AW.rgs rfl fun K hK => mv rfl rfl (mv rfl rfl (bv rfl (v_bin rfl rfl b_neq) (mv rfl rfl ?_)))
 refine bf hK ⟨[(2, .bool (decide (p0 ≠ p0)))], []⟩ ?_
 obtain rfl := oi h
 exact AW.ret (ret_pure (.inr rfl) (resT rfl rfl) rfl trivial)
theorem w_cmp_Compare_int {p0 : Int} {p1 : Int} {r : Int} (h : m_cmp_Compare_int p0 p1 = some r) : Pure Tryz.prog 106 [hI p0, hI p1] (· = hI r) := by
 unfold m_cmp_Compare_int at h
 refine Pure.of_body Tryz.func106 rfl rfl (lb rfl) fun hf => ?_
 unfold Tryz.f106
 dsimp only [enumS, Nat.reduceAdd]
 refine AW.rgs rfl fun K hK => mv rfl rfl ?_
 let P1 : ASf := fun t H => ⟨(0, hI p0) :: (1, hI p1) :: t, H⟩
 refine bf hK (P1 [] []) ?_
 refine AW.rgs rfl fun K hK => mv rfl rfl ?_
 obtain ⟨x1, h2, h⟩ := bS h
 refine b_op rfl (o_call rfl rfl rfl rfl (ACallD.pure0 (w_cmp_isNaN_int h2)) ?_)
 refine mv rfl rfl ?_
 refine bf hK (P1 [(5, .bool x1)] []) ?_
 refine AW.rgs rfl fun K hK => mv rfl rfl ?_
 obtain ⟨x3, h4, h⟩ := bS h
 refine b_op rfl (o_call rfl rfl rfl rfl (ACallD.pure0 (w_cmp_isNaN_int h4)) ?_)
 refine mv rfl rfl ?_
 refine bf hK (P1 [(5, .bool x1), (6, .bool x3)] []) ?_
 refine AW.seq ?_
 refine AW.rgs rfl fun K hK => mv rfl rfl ?_
 refine bf hK (P1 [(6, .bool x3), (11, .bool x1)] []) ?_
 refine AW.cond rfl (fun hc => ?_) (fun hc => ?_)
 ·have h := ifT hc h
  refine AW.seq ?_
  refine AW.rgs rfl fun K hK => mv rfl rfl ?_
  refine bf hK ⟨[(12, .bool x3)], []⟩ ?_
  refine AW.cond rfl (fun hc => ?_) (fun hc => ?_)
  ·have h := ifT hc h
   refine AW.rgs rfl fun K hK => mv rfl rfl ?_
   refine bf hK ⟨[(4, hI 0)], []⟩ ?_
   obtain rfl := oi h
   exact AW.ret (ret_pure (.inr rfl) (resT rfl rfl) rfl trivial)
  have h := ifF (bF' hc) h
  refine AW.skip ?_
  refine AW.rgs rfl fun K hK => mv rfl rfl ?_
  refine bf hK ⟨[(4, hI (-1))], []⟩ ?_
  obtain rfl := oi h
  exact AW.ret (ret_pure (.inr rfl) (resT rfl rfl) rfl trivial)
 have h := ifF (bF' hc) h
 refine AW.skip ?_
 refine AW.seq ?_
 refine AW.rgs rfl fun K hK => mv rfl rfl ?_
 refine bf hK (P1 [(13, .bool x3)] []) ?_
 refine AW.cond rfl (fun hc => ?_) (fun hc => ?_)
 ·have h := ifT hc h
  refine AW.rgs rfl fun K hK => mv rfl rfl ?_
  refine bf hK ⟨[(4, hI 1)], []⟩ ?_
  obtain rfl := oi h
  exact AW.ret (ret_pure (.inr rfl) (resT rfl rfl) rfl trivial)
 have h := ifF (bF' hc) h
 refine AW.skip ?_
 refine AW.seq ?_
 refine AW.rgs rfl fun K hK => mv rfl rfl (mv rfl rfl (bv rfl (v_bin rfl rfl b_lss) ?_))
 refine bf hK (P1 [(16, .bool (decide (p0 < p1)))] []) ?_
 refine AW.cond rfl (fun hc => ?_) (fun hc => ?_)
 ·obtain ⟨hc, h⟩ := cT hc h
  refine AW.rgs rfl fun K hK => mv rfl rfl ?_
  refine bf hK ⟨[(4, hI (-1))], []⟩ ?_
  obtain rfl := oi h
  exact AW.ret (ret_pure (.inr rfl) (resT rfl rfl) rfl trivial)
 obtain ⟨hc, h⟩ := cF hc h
 refine AW.skip ?_
 refine AW.seq ?_
 refine AW.rgs rfl fun K hK => mv rfl rfl (mv rfl rfl (bv rfl (v_bin rfl rfl b_gtr) ?_))
 refine bf hK ⟨[(19, .bool (decide (p1 < p0)))], []⟩ ?_
 refine AW.cond rfl (fun hc => ?_) (fun hc => ?_)
 ·obtain ⟨hc, h⟩ := cT hc h
  refine AW.rgs rfl fun K hK => mv rfl rfl ?_
  refine bf hK ⟨[(4, hI 1)], []⟩ ?_
  obtain rfl := oi h
  exact AW.ret (ret_pure (.inr rfl) (resT rfl rfl) rfl trivial)
 obtain ⟨hc, h⟩ := cF hc h
 refine AW.skip ?_
 refine AW.rgs rfl fun K hK => mv rfl rfl ?_
 refine bf hK ⟨[(4, hI 0)], []⟩ ?_
 obtain rfl := oi h
 exact AW.ret (ret_pure (.inr rfl) (resT rfl rfl) rfl trivial)
theorem w_slices_Compare_Lint_int {p0 : List (Int)} {p1 : List (Int)} {r : Int} (h : m_slices_Compare_Lint_int p0 p1 = some r) : Pure Tryz.prog 80 [slE eInt p0, slE eInt p1] (· = hI r) := by
 unfold m_slices_Compare_Lint_int at h
 refine Pure.of_body Tryz.func80 rfl rfl (lb rfl) fun hf => ?_
 unfold Tryz.f80
 dsimp only [enumS, Nat.reduceAdd]
 refine AW.rgs rfl fun K hK => mv rfl rfl ?_
 let P2 : ASf := fun t H => ⟨(0, slE eInt p0) :: (1, slE eInt p1) :: t, H⟩
 refine bf hK (P2 [] []) ?_
 refine AW.seq ?_
 refine AW.rgs rfl fun K hK => mv rfl rfl (bv rfl (v_lenF rfl rfl ty36 rfl) (mv rfl rfl ?_))
 let E1 : Nat × HV := (10, hI ((p0).length : Int))
 refine bf hK (P2 [(9, slE eInt p0), E1, (11, hI 0)] []) ?_
 refine AW.lpR h (by first | exact up_then | exact up_to) (S := Int) (V := Unit) (fun a v => (P2 [(9, slE eInt p0), E1, (11, hI a)] [])) ?_ (X := Unit) (W := Unit) (fun a v => (P2 [] [])) (fun a11 w12 h => ?_) (fun a1 w2 st3 h hr4=> ?_)
 ·exact to_L ⟨(), rfl⟩
 ·refine AW.seq ?_
  refine AW.rgs rfl fun K hK => mv rfl rfl (bv rfl (v_lenF rfl rfl ty36 rfl) (mv rfl rfl (bv rfl (v_lenF rfl rfl ty36 rfl) (bv rfl (v_bin rfl rfl b_lss) ?_))))
  refine bf hK ⟨[(35, .bool (decide (((p0).length : Int) < ((p1).length : Int))))], []⟩ ?_
  refine AW.cond rfl (fun hc => ?_) (fun hc => ?_)
  ·obtain ⟨hc, h⟩ := cT hc h
   refine AW.rgs rfl fun K hK => mv rfl rfl ?_
   refine bf hK ⟨[(4, hI (-1))], []⟩ ?_
   obtain rfl := oi h
   exact AW.ret (ret_pure (.inr rfl) (resT rfl rfl) rfl trivial)
  obtain ⟨hc, h⟩ := cF hc h
  refine AW.skip ?_
  refine AW.rgs rfl fun K hK => mv rfl rfl ?_
  refine bf hK ⟨[(4, hI 0)], []⟩ ?_
  obtain rfl := oi h
  exact AW.ret (ret_pure (.inr rfl) (resT rfl rfl) rfl trivial)
 refine AW.rgs rfl fun K hK => bv rfl (v_bin rfl rfl b_lss) ?_
 refine bf hK (P2 [(9, slE eInt p0), E1, (11, hI a1), (12, .bool (decide (a1 < ((p0).length : Int))))] []) ?_
 refine AW.cseq rfl (fun hc => ?_) (fun hc => ?_)
 ·obtain ⟨hc, h⟩ := cT hc h
  refine AW.skip ?_
  refine AW.seq (AW.block ?_)
  refine AW.rgs rfl fun K hK => mv rfl rfl ?_
  obtain ⟨x5, h6, h⟩ := bS h
  refine bv rfl (v_idxF ty36 es36 rfl rfl (idx_lt h6)) (bv rfl (v_loadF ty3 rfl (l_cell eInt h6 (o := 0) rfl rfl)) (mv rfl rfl (mv rfl rfl ?_)))
  refine bf hK (P2 [(5, hI a1), (6, hI x5), (9, slE eInt p0), E1, (11, hI a1)] []) ?_
  refine AW.seq ?_
  refine AW.rgs rfl fun K hK => mv rfl rfl (mv rfl rfl (bv rfl (v_lenF rfl rfl ty36 rfl) (bv rfl (v_bin rfl rfl b_geq) ?_)))
  refine bf hK (P2 [(5, hI a1), (6, hI x5), (9, slE eInt p0), E1, (11, hI a1), (19, .bool (decide (((p1).length : Int) ≤ a1)))] []) ?_
  refine AW.cond rfl (fun hc => ?_) (fun hc => ?_)
  ·obtain ⟨hc, h⟩ := cT hc h
   refine AW.rgs rfl fun K hK => mv rfl rfl ?_
   refine bf hK ⟨[(4, hI 1)], []⟩ ?_
   have h := hr4 _ h
   obtain rfl := oi h
   exact AW.ret (ret_pure (.inr rfl) (resT rfl rfl) rfl trivial)
  obtain ⟨hc, h⟩ := cF hc h
  refine AW.skip ?_
  refine AW.rgs rfl fun K hK => mv rfl rfl (mv rfl rfl ?_)
  obtain ⟨x7, h8, h⟩ := bS h
  refine bv rfl (v_idxF ty36 es36 rfl rfl (idx_lt h8)) (bv rfl (v_loadF ty3 rfl (l_cell eInt h8 (o := 0) rfl rfl)) (mv rfl rfl ?_))
  refine bf hK (P2 [(6, hI x5), (7, hI x7), (9, slE eInt p0), E1, (11, hI a1)] []) ?_
  refine AW.rgs rfl fun K hK => mv rfl rfl (mv rfl rfl ?_)
  obtain ⟨x9, h10, h⟩ := bS h
  refine b_op rfl (o_call rfl rfl rfl rfl (ACallD.pure0 (w_cmp_Compare_int h10)) ?_)
  refine mv rfl rfl ?_
  refine bf hK (P2 [(8, hI x9), (9, slE eInt p0), E1, (11, hI a1)] []) ?_
  refine AW.rgs rfl fun K hK => mv rfl rfl (bv rfl (v_bin rfl rfl b_neq) ?_)
  refine bf hK (P2 [(8, hI x9), (9, slE eInt p0), E1, (11, hI a1), (28, .bool (decide (x9 ≠ 0)))] []) ?_
  refine AW.cond rfl (fun hc => ?_) (fun hc => ?_)
  ·obtain ⟨hc, h⟩ := cT hc h
   refine AW.rgs rfl fun K hK => mv rfl rfl (mv rfl rfl ?_)
   refine bf hK ⟨[(4, hI x9)], []⟩ ?_
   have h := hr4 _ h
   obtain rfl := oi h
   exact AW.ret (ret_pure (.inr rfl) (resT rfl rfl) rfl trivial)
  obtain ⟨hc, h⟩ := cF hc h
  refine AW.skip ?_
  refine AW.rg rfl fun K hK => bv rfl (v_bin rfl rfl b_add) (mv rfl rfl ?_)
  refine b_nil (hK _ ?_)
  exact to_L ⟨IntKind.wrap .i64 (a1 + 1), (), h, rfl⟩
 obtain ⟨hc, h⟩ := cF hc h
 refine AW.exit ?_
 exact to_L ⟨(), (), h, rfl⟩
theorem w_graph_by_api_Edge_1 {p0 : TFromLabelTo} {p1 : TFromLabelTo} {r : Int} (h : m_graph_by_api_Edge_1 p0 p1 = some r) : Pure Tryz.prog 79 [.agg [hI p0.1, hI p0.2.1, hI p0.2.2], .agg [hI p1.1, hI p1.2.1, hI p1.2.2], .fptr [.fn (.func 47) [] []] 0] (· = hI r) := by
 unfold m_graph_by_api_Edge_1 at h
 refine Pure.of_body Tryz.func79 rfl rfl (lb rfl) fun hf => ?_
 unfold Tryz.f79
 dsimp only [enumS, Nat.reduceAdd]
 refine AW.rgs rfl fun K hK => b_op rfl (o_box rfl rfl rfl ?_)
 refine b_op rfl (o_box rfl rfl rfl ?_)
 refine mv rfl rfl ?_
 refine bf hK ⟨[(2, .fptr [.fn (.func 47) [] []] 0), (3, .fptr [hI p0.1, hI p0.2.1, hI p0.2.2] 0), (4, .fptr [hI p1.1, hI p1.2.1, hI p1.2.2] 0)], []⟩ ?_
 refine AW.dgs 8 follows rfl rfl fun K hK => ?_
 refine sv rfl (v_loadF ty97 rfl (l_lit rfl rfl)) ?_
 refine sv rfl (v_loadF ty35 rfl (l_litA rfl (lb rfl) rfl)) ?_
 obtain ⟨x1, h2, h⟩ := bS h
 refine s_op rfl rfl (ops_call rfl rfl rfl rfl (ACallD.pure0 (w_graph_list h2)) ?_)
 refine sv rfl (v_loadF ty97 rfl (l_lit rfl rfl)) ?_
 refine sv rfl (v_loadF ty35 rfl (l_litA rfl (lb rfl) rfl)) ?_
 obtain ⟨x3, h4, h⟩ := bS h
 refine s_op rfl rfl (ops_call rfl rfl rfl rfl (ACallD.pure0 (w_graph_list h4)) ?_)
 obtain ⟨x5, h6, h⟩ := bS h
 refine s_op rfl rfl (ops_call rfl rfl rfl rfl (ACallD.pure0 (w_slices_Compare_Lint_int h6)) ?_)
 refine sm rfl rfl ?_
 refine s_nil ?_
 refine bf hK ⟨[(5, hI x5)], []⟩ ?_
 obtain rfl := oi h
 exact AW.ret (ret_pure (.inr rfl) (resT rfl rfl) rfl trivial)
theorem w_graph_by_api_Edge  : Pure Tryz.prog 46 [.fn (.func 47) [] []] (· = HV.fn (.func 79) [] [.fptr [.fn (.func 47) [] []] 0]) := by
 refine Pure.of_body Tryz.func46 rfl rfl (lb rfl) fun hf => ?_
 unfold Tryz.f46
 dsimp only [enumS, Nat.reduceAdd]
 refine AW.rgs rfl fun K hK => b_op rfl (o_box rfl rfl rfl ?_)
 refine mv rfl rfl ?_
 refine bf hK ⟨[(1, .fptr [.fn (.func 47) [] []] 0)], []⟩ ?_
 refine AW.rgs rfl fun K hK => bv rfl (v_func rfl rfl) (mv rfl rfl ?_)
 refine bf hK ⟨[(2, .fn (.func 79) [] [.fptr [.fn (.func 47) [] []] 0])], []⟩ ?_
 refine AW.ret ?_
 exact ret_pure (.inr rfl) (resT rfl rfl) rfl ⟨trivial, ⟨⟨⟨trivial, trivial⟩, trivial⟩, trivial⟩⟩
theorem w_graph_Check {p0 : TLabelsStatesEdges} {r : Int} (h : m_graph_Check p0 = some r) : Pure Tryz.prog 16 [gA p0] (· = hI r) := by
 unfold m_graph_Check at h
 refine Pure.of_body Tryz.func16 rfl rfl (lb rfl) fun hf => ?_
 unfold Tryz.f16
 dsimp only [enumS, Nat.reduceAdd]
 refine AW.rgs rfl fun K hK => b_op rfl (o_box rfl rfl rfl ?_)
 refine mv rfl rfl ?_
 let P3 : ASf := fun t H => ⟨(1, gF p0) :: t, H⟩
 refine bf hK (P3 [] []) ?_
 refine AW.seq (AW.block ?_)
 refine AW.seqJ h (S := Bool) (V := Unit) (fun a v => (P3 [(6, .bool a)] [])) (fun a1 w2 h => ?_) (fun k3 h => ?_)
 ·refine AW.cond rfl (fun hc => ?_) (fun hc => ?_)
  ·have h := ifT hc h
   refine AW.rgs rfl fun K hK => mv rfl rfl ?_
   refine bf hK ⟨[(2, hI 12)], []⟩ ?_
   obtain rfl := oi h
   exact AW.ret (ret_pure (.inr rfl) (resT rfl rfl) rfl trivial)
  have h := ifF (bF' hc) h
  refine AW.rgs rfl fun K hK => bv rfl (v_fieldAddrF fo27_1 rfl) (bv rfl (v_loadF ty3 rfl (l_lit rfl rfl)) (bv rfl (v_bin rfl rfl b_lss) (mv rfl rfl ?_)))
  refine bf hK (P3 [(15, .bool (decide (p0.2.1 < 0)))] []) ?_
  refine AW.cond rfl (fun hc => ?_) (fun hc => ?_)
  ·obtain ⟨hc, h⟩ := cT hc h
   refine AW.rgs rfl fun K hK => mv rfl rfl ?_
   refine bf hK ⟨[(2, hI 2)], []⟩ ?_
   obtain rfl := oi h
   exact AW.ret (ret_pure (.inr rfl) (resT rfl rfl) rfl trivial)
  obtain ⟨hc, h⟩ := cF hc h
  refine AW.seqJ h (S := Bool) (V := Unit) (fun a v => (P3 [(19, .bool a)] [])) (fun a4 w5 h => ?_) (fun k6 h => ?_)
  ·refine AW.cond rfl (fun hc => ?_) (fun hc => ?_)
   ·have h := ifT hc h
    refine AW.rgs rfl fun K hK => mv rfl rfl ?_
    refine bf hK ⟨[(2, hI 4)], []⟩ ?_
    obtain rfl := oi h
    exact AW.ret (ret_pure (.inr rfl) (resT rfl rfl) rfl trivial)
   have h := ifF (bF' hc) h
   refine AW.skip ?_
   refine AW.rgs rfl fun K hK => b_op rfl (o_call rfl rfl rfl rfl (ACallD.pure0 (w_graph_by_api_Edge )) ?_)
   refine mv rfl rfl ?_
   let E2 : Nat × HV := (3, .fn (.func 79) [] [.fptr [.fn (.func 47) [] []] 0])
   refine bf hK (P3 [E2] []) ?_
   refine AW.seq ?_
   refine AW.rgs rfl fun K hK => bv rfl (v_fieldAddrF fo27_2 rfl) (bv rfl (v_loadF ty25 rfl (l_lit rfl rfl)) (bv rfl (v_lenF rfl rfl ty25 rfl) (mv rfl rfl ?_)))
   let E3 : Nat × HV := (31, slE eFromLabelTo p0.2.2)
   let E4 : Nat × HV := (32, hI ((p0.2.2).length : Int))
   refine bf hK (P3 [E2, E3, E4, (33, hI 0)] []) ?_
   refine AW.lpR h (by first | exact up_then | exact up_to) (S := Int) (V := Unit) (fun a v => (P3 [E2, E3, E4, (33, hI a)] [])) ?_ (X := Unit) (W := Unit) (fun a v => ⟨[], []⟩) (fun a27 w28 h => ?_) (fun a7 w8 st9 h hr10=> ?_)
   ·exact to_L ⟨(), rfl⟩
   ·refine AW.rgs rfl fun K hK => mv rfl rfl ?_
    refine bf hK ⟨[(2, hI 0)], []⟩ ?_
    obtain rfl := oi h
    exact AW.ret (ret_pure (.inr rfl) (resT rfl rfl) rfl trivial)
   refine AW.rgs rfl fun K hK => bv rfl (v_bin rfl rfl b_lss) ?_
   refine bf hK (P3 [E2, E3, E4, (33, hI a7), (34, .bool (decide (a7 < ((p0.2.2).length : Int))))] []) ?_
   refine AW.cseq rfl (fun hc => ?_) (fun hc => ?_)
   ·obtain ⟨hc, h⟩ := cT hc h
    refine AW.skip ?_
    refine AW.seq (AW.block ?_)
    refine AW.rgs rfl fun K hK => mv rfl rfl ?_
    obtain ⟨x11, h12, h⟩ := bS h
    refine bv rfl (v_idxF ty25 es25 rfl rfl (idx_lt h12)) (bv rfl (v_loadF ty35 rfl (l_agg eFromLabelTo h12 rfl rfl)) ?_)
    refine b_op rfl (o_alloc (fid := 16) (zs := [hI 0, hI 0, hI 0]) 16005 rfl rfl ty35 rfl (fun v13 => ?_))
    refine mv rfl rfl ?_
    refine b_op rfl (o_store (cs := [hI x11.1, hI x11.2.1, hI x11.2.2]) (zs := [hI x11.1, hI x11.2.1, hI x11.2.2]) rfl rfl rfl ty35 rfl rfl rfl rfl rfl ?_)
    refine bf hK (P3 [E2, (4, hI a7), (5, .ptr 16005 v13 0), E3, E4, (33, hI a7)] [(16005, v13, .arr 3 35 [hI x11.1, hI x11.2.1, hI x11.2.2])]) ?_
    refine AW.seq ?_
    refine AW.seqJ h (S := Bool) (V := Unit) (fun a v => (P3 [E2, (4, hI a7), (5, .ptr 16005 v13 0), E3, E4, (33, hI a7), (62, .bool a)] [(16005, v13, .arr 3 35 [hI x11.1, hI x11.2.1, hI x11.2.2])])) (fun a14 w15 h => ?_) (fun k16 h => ?_)
    ·refine AW.cond rfl (fun hc => ?_) (fun hc => ?_)
     ·have h := ifT hc h
      refine AW.rgs rfl fun K hK => mv rfl rfl ?_
      refine bf hK ⟨[(2, hI 2)], []⟩ ?_
      have h := hr10 _ h
      obtain rfl := oi h
      exact AW.ret (ret_pure (.inr rfl) (resT rfl rfl) rfl trivial)
     have h := ifF (bF' hc) h
     refine AW.skip ?_
     refine AW.seqJ h (S := Bool) (V := Unit) (fun a v => (P3 [E2, E3, E4, (33, hI a7), (76, .bool a)] [])) (fun a17 w18 h => ?_) (fun k19 h => ?_)
     ·refine AW.cond rfl (fun hc => ?_) (fun hc => ?_)
      ·have h := ifT hc h
       refine AW.rgs rfl fun K hK => mv rfl rfl ?_
       refine bf hK ⟨[(2, hI 10)], []⟩ ?_
       have h := hr10 _ h
       obtain rfl := oi h
       exact AW.ret (ret_pure (.inr rfl) (resT rfl rfl) rfl trivial)
      have h := ifF (bF' hc) h
      refine AW.skip ?_
      refine AW.rg rfl fun K hK => bv rfl (v_bin rfl rfl b_add) (mv rfl rfl ?_)
      refine b_nil (hK _ ?_)
      exact to_L ⟨IntKind.wrap .i64 (a7 + 1), (), h, rfl⟩
     refine AW.dg 14 follows rfl rfl fun K hK => ?_
     refine sm rfl rfl ?_
     refine sv rfl (v_bin rfl rfl b_gtr) ?_
     refine sm rfl rfl ?_
     by_cases hg24 : 0 < a7
     ·have h := ifT hg24 h
      refine s_T rfl rfl rfl rfl rfl (decide_eq_true hg24) (ops_val rfl (mv_val rfl rfl).2 ?_)
      refine s_T rfl rfl rfl rfl rfl rfl (ops_val rfl (v_fieldAddrF fo27_2 rfl) ?_)
      refine s_T rfl rfl rfl rfl rfl rfl (ops_val rfl (v_loadF ty25 rfl (l_lit rfl rfl)) ?_)
      refine s_T rfl rfl rfl rfl rfl rfl (ops_val rfl (mv_val rfl rfl).2 ?_)
      refine s_T rfl rfl rfl rfl rfl rfl (ops_val rfl (v_bin rfl rfl b_sub) ?_)
      obtain ⟨x20, h21, h⟩ := bS h
      refine s_T rfl rfl rfl rfl rfl rfl (ops_val rfl (v_idxF ty25 es25 rfl rfl (idx_lt h21)) ?_)
      refine s_T rfl rfl rfl rfl rfl rfl (ops_val rfl (v_loadF ty35 rfl (l_agg eFromLabelTo h21 rfl rfl)) ?_)
      refine s_T rfl rfl rfl rfl rfl rfl (ops_val rfl (v_loadP ty35 rfl rfl (l_litA rfl (lb rfl) rfl)) ?_)
      obtain ⟨x22, h23, h⟩ := bS h
      refine s_T rfl rfl rfl rfl rfl rfl (ops_call rfl rfl rfl rfl (ACallD.pure0 (w_graph_by_api_Edge_1 h23)) ?_)
      refine s_T rfl rfl rfl rfl rfl rfl (ops_val rfl (v_bin rfl rfl b_geq) ?_)
      refine sv rfl (v_pickT rfl rfl rfl) ?_
      refine s_nil ?_
      refine b_nil (hK _ ?_)
      exact to_L ⟨decide (0 ≤ x22), (), h, rfl⟩
     have h := ifF hg24 h
     refine s_F rfl rfl rfl rfl rfl (decide_eq_false hg24) ?_
     iterate 9 refine s_F rfl rfl rfl rfl rfl rfl ?_
     refine sv rfl (v_pickF rfl rfl rfl) ?_
     refine s_nil ?_
     refine b_nil (hK _ ?_)
     exact to_L ⟨false, (), h, rfl⟩
    refine AW.rg rfl fun K hK => bv rfl (v_fieldAddrP fo35_0 rfl rfl) (bv rfl (v_loadP ty3 rfl rfl (l_lit rfl rfl)) (bv rfl (v_fieldAddrP fo35_1 rfl rfl) (bv rfl (v_loadP ty3 rfl rfl (l_lit rfl rfl)) (bv rfl (v_fieldAddrP fo35_2 rfl rfl) (bv rfl (v_loadP ty3 rfl rfl (l_lit rfl rfl)) ?_)))))
    refine bv rfl (v_min3 rfl rfl rfl rfl) (bv rfl (v_bin rfl rfl b_lss) (mv rfl rfl ?_))
    by_cases hg26 : (min (min x11.1 x11.2.1) x11.2.2) < 0
    ·have h := ifT hg26 h
     refine b_F rfl rfl rfl rfl rfl (decide_eq_true hg26) ?_
     iterate 7 refine b_F rfl rfl rfl rfl rfl rfl ?_
     refine bv rfl (v_pickT rfl rfl rfl) (mv rfl rfl ?_)
     iterate 5 refine b_F rfl rfl rfl rfl rfl rfl ?_
     refine bv rfl (v_pickT rfl rfl rfl) ?_
     refine b_nil (hK _ ?_)
     exact to_L ⟨true, (), h, rfl⟩
    have h := ifF hg26 h
    refine b_T rfl rfl rfl rfl (decide_eq_false hg26) (o_val rfl (v_fieldAddrP fo35_0 rfl rfl) ?_)
    refine b_T rfl rfl rfl rfl rfl (o_val rfl (v_loadP ty3 rfl rfl (l_lit rfl rfl)) ?_)
    refine b_T rfl rfl rfl rfl rfl (o_val rfl (v_fieldAddrP fo35_2 rfl rfl) ?_)
    refine b_T rfl rfl rfl rfl rfl (o_val rfl (v_loadP ty3 rfl rfl (l_lit rfl rfl)) ?_)
    refine b_T rfl rfl rfl rfl rfl (o_val rfl (v_max rfl rfl rfl) ?_)
    refine b_T rfl rfl rfl rfl rfl (o_val rfl (v_fieldAddrF fo27_1 rfl) ?_)
    refine b_T rfl rfl rfl rfl rfl (o_val rfl (v_loadF ty3 rfl (l_lit rfl rfl)) ?_)
    refine b_T rfl rfl rfl rfl rfl (o_val rfl (v_bin rfl rfl b_geq) ?_)
    refine bv rfl (v_pickF rfl rfl rfl) (mv rfl rfl ?_)
    by_cases hg25 : p0.2.1 ≤ (max x11.1 x11.2.2)
    ·have h := ifT hg25 h
     refine b_F rfl rfl rfl rfl rfl (decide_eq_true hg25) ?_
     iterate 4 refine b_F rfl rfl rfl rfl rfl rfl ?_
     refine bv rfl (v_pickT rfl rfl rfl) ?_
     refine b_nil (hK _ ?_)
     exact to_L ⟨true, (), h, rfl⟩
    have h := ifF hg25 h
    refine b_T rfl rfl rfl rfl (decide_eq_false hg25) (o_val rfl (v_fieldAddrP fo35_1 rfl rfl) ?_)
    refine b_T rfl rfl rfl rfl rfl (o_val rfl (v_loadP ty3 rfl rfl (l_lit rfl rfl)) ?_)
    refine b_T rfl rfl rfl rfl rfl (o_val rfl (v_fieldAddrF fo27_0 rfl) ?_)
    refine b_T rfl rfl rfl rfl rfl (o_val rfl (v_loadF ty3 rfl (l_lit rfl rfl)) ?_)
    refine b_T rfl rfl rfl rfl rfl (o_val rfl (v_bin rfl rfl b_geq) ?_)
    refine bv rfl (v_pickF rfl rfl rfl) ?_
    refine b_nil (hK _ ?_)
    exact to_L ⟨decide (p0.1 ≤ x11.2.1), (), h, rfl⟩
   obtain ⟨hc, h⟩ := cF hc h
   refine AW.exit ?_
   exact to_L ⟨(), (), h, rfl⟩
  refine AW.rg rfl fun K hK => bv rfl (v_fieldAddrF fo27_1 rfl) (bv rfl (v_loadF ty3 rfl (l_lit rfl rfl)) (bv rfl (v_bin rfl rfl b_gtr) (mv rfl rfl ?_)))
  by_cases hg29 : 64 < p0.2.1
  ·have h := ifT hg29 h
   refine b_F rfl rfl rfl rfl rfl (decide_eq_true hg29) ?_
   iterate 3 refine b_F rfl rfl rfl rfl rfl rfl ?_
   refine bv rfl (v_pickT rfl rfl rfl) (mv rfl rfl ?_)
   refine b_nil (hK _ ?_)
   exact to_L ⟨true, (), h, rfl⟩
  have h := ifF hg29 h
  refine b_T rfl rfl rfl rfl (decide_eq_false hg29) (o_val rfl (v_fieldAddrF fo27_2 rfl) ?_)
  refine b_T rfl rfl rfl rfl rfl (o_val rfl (v_loadF ty25 rfl (l_lit rfl rfl)) ?_)
  refine b_T rfl rfl rfl rfl rfl (o_val rfl (v_lenF rfl rfl ty25 rfl) ?_)
  refine b_T rfl rfl rfl rfl rfl (o_val rfl (v_bin rfl rfl b_gtr) ?_)
  refine bv rfl (v_pickF rfl rfl rfl) (mv rfl rfl ?_)
  refine b_nil (hK _ ?_)
  exact to_L ⟨decide (1024 < ((p0.2.2).length : Int)), (), h, rfl⟩
 refine AW.rg rfl fun K hK => bv rfl (v_fieldAddrF fo27_0 rfl) (bv rfl (v_loadF ty3 rfl (l_lit rfl rfl)) (bv rfl (v_bin rfl rfl b_lss) (mv rfl rfl ?_)))
 by_cases hg30 : p0.1 < 1
 ·have h := ifT hg30 h
  refine b_F rfl rfl rfl rfl rfl (decide_eq_true hg30) ?_
  iterate 2 refine b_F rfl rfl rfl rfl rfl rfl ?_
  refine bv rfl (v_pickT rfl rfl rfl) (mv rfl rfl ?_)
  refine b_nil (hK _ ?_)
  exact to_L ⟨true, (), h, rfl⟩
 have h := ifF hg30 h
 refine b_T rfl rfl rfl rfl (decide_eq_false hg30) (o_val rfl (v_fieldAddrF fo27_0 rfl) ?_)
 refine b_T rfl rfl rfl rfl rfl (o_val rfl (v_loadF ty3 rfl (l_lit rfl rfl)) ?_)
 refine b_T rfl rfl rfl rfl rfl (o_val rfl (v_bin rfl rfl b_gtr) ?_)
 refine bv rfl (v_pickF rfl rfl rfl) (mv rfl rfl ?_)
 refine b_nil (hK _ ?_)
 exact to_L ⟨decide (256 < p0.1), (), h, rfl⟩
theorem w_graph_checkSet {p0 : TLabelsStatesEdges} {p1 : List (Int)} {r : Int} (h : m_graph_checkSet p0 p1 = some r) : Pure Tryz.prog 92 [gA p0, slE eInt p1] (· = hI r) := by
 unfold m_graph_checkSet at h
 refine Pure.of_body Tryz.func92 rfl rfl (lb rfl) fun hf => ?_
 unfold Tryz.f92
 dsimp only [enumS, Nat.reduceAdd]
 refine AW.rgs rfl fun K hK => b_op rfl (o_box rfl rfl rfl ?_)
 refine mv rfl rfl ?_
 let P4 : ASf := fun t H => ⟨(1, slE eInt p1) :: (2, gF p0) :: t, H⟩
 refine bf hK (P4 [] []) ?_
 refine AW.seq ?_
 refine AW.rgs rfl fun K hK => mv rfl rfl (bv rfl (v_lenF rfl rfl ty36 rfl) (mv rfl rfl ?_))
 let E5 : Nat × HV := (8, hI ((p1).length : Int))
 refine bf hK (P4 [(7, slE eInt p1), E5, (9, hI 0)] []) ?_
 refine AW.lpR h (by first | exact up_then | exact up_to) (S := Int) (V := Unit) (fun a v => (P4 [(7, slE eInt p1), E5, (9, hI a)] [])) ?_ (X := Unit) (W := Unit) (fun a v => ⟨[], []⟩) (fun a17 w18 h => ?_) (fun a1 w2 st3 h hr4=> ?_)
 ·exact to_L ⟨(), rfl⟩
 ·refine AW.rgs rfl fun K hK => mv rfl rfl ?_
  refine bf hK ⟨[(4, hI 0)], []⟩ ?_
  obtain rfl := oi h
  exact AW.ret (ret_pure (.inr rfl) (resT rfl rfl) rfl trivial)
 refine AW.rgs rfl fun K hK => bv rfl (v_bin rfl rfl b_lss) ?_
 refine bf hK (P4 [(7, slE eInt p1), E5, (9, hI a1), (10, .bool (decide (a1 < ((p1).length : Int))))] []) ?_
 refine AW.cseq rfl (fun hc => ?_) (fun hc => ?_)
 ·obtain ⟨hc, h⟩ := cT hc h
  refine AW.skip ?_
  refine AW.seq (AW.block ?_)
  refine AW.rgs rfl fun K hK => mv rfl rfl ?_
  obtain ⟨x5, h6, h⟩ := bS h
  refine bv rfl (v_idxF ty36 es36 rfl rfl (idx_lt h6)) (bv rfl (v_loadF ty3 rfl (l_cell eInt h6 (o := 0) rfl rfl)) (mv rfl rfl (mv rfl rfl ?_)))
  refine bf hK (P4 [(5, hI a1), (6, hI x5), (7, slE eInt p1), E5, (9, hI a1)] []) ?_
  refine AW.seq ?_
  refine AW.seqJ h (S := Bool) (V := Unit) (fun a v => (P4 [(5, hI a1), (6, hI x5), (7, slE eInt p1), E5, (9, hI a1), (21, .bool a)] [])) (fun a7 w8 h => ?_) (fun k9 h => ?_)
  ·refine AW.cond rfl (fun hc => ?_) (fun hc => ?_)
   ·have h := ifT hc h
    refine AW.rgs rfl fun K hK => mv rfl rfl ?_
    refine bf hK ⟨[(4, hI 25)], []⟩ ?_
    have h := hr4 _ h
    obtain rfl := oi h
    exact AW.ret (ret_pure (.inr rfl) (resT rfl rfl) rfl trivial)
   have h := ifF (bF' hc) h
   refine AW.skip ?_
   refine AW.seqJ h (S := Bool) (V := Unit) (fun a v => (P4 [(7, slE eInt p1), E5, (9, hI a1), (32, .bool a)] [])) (fun a10 w11 h => ?_) (fun k12 h => ?_)
   ·refine AW.cond rfl (fun hc => ?_) (fun hc => ?_)
    ·have h := ifT hc h
     refine AW.rgs rfl fun K hK => mv rfl rfl ?_
     refine bf hK ⟨[(4, hI 10)], []⟩ ?_
     have h := hr4 _ h
     obtain rfl := oi h
     exact AW.ret (ret_pure (.inr rfl) (resT rfl rfl) rfl trivial)
    have h := ifF (bF' hc) h
    refine AW.skip ?_
    refine AW.rg rfl fun K hK => bv rfl (v_bin rfl rfl b_add) (mv rfl rfl ?_)
    refine b_nil (hK _ ?_)
    exact to_L ⟨IntKind.wrap .i64 (a1 + 1), (), h, rfl⟩
   refine AW.rg rfl fun K hK => mv rfl rfl (bv rfl (v_bin rfl rfl b_gtr) (mv rfl rfl ?_))
   by_cases hg15 : 0 < a1
   ·have h := ifT hg15 h
    refine b_T rfl rfl rfl rfl (decide_eq_true hg15) (o_val rfl (mv_val rfl rfl).2 ?_)
    iterate 2 refine b_T rfl rfl rfl rfl rfl (o_val rfl (mv_val rfl rfl).2 ?_)
    refine b_T rfl rfl rfl rfl rfl (o_val rfl (v_bin rfl rfl b_sub) ?_)
    obtain ⟨x13, h14, h⟩ := bS h
    refine b_T rfl rfl rfl rfl rfl (o_val rfl (v_idxF ty36 es36 rfl rfl (idx_lt h14)) ?_)
    refine b_T rfl rfl rfl rfl rfl (o_val rfl (v_loadF ty3 rfl (l_cell eInt h14 (o := 0) rfl rfl)) ?_)
    refine b_T rfl rfl rfl rfl rfl (o_val rfl (v_bin rfl rfl b_leq) ?_)
    refine bv rfl (v_pickT rfl rfl rfl) ?_
    refine b_nil (hK _ ?_)
    exact to_L ⟨decide (x5 ≤ x13), (), h, rfl⟩
   have h := ifF hg15 h
   refine b_F rfl rfl rfl rfl rfl (decide_eq_false hg15) ?_
   iterate 6 refine b_F rfl rfl rfl rfl rfl rfl ?_
   refine bv rfl (v_pickF rfl rfl rfl) ?_
   refine b_nil (hK _ ?_)
   exact to_L ⟨false, (), h, rfl⟩
  refine AW.rg rfl fun K hK => mv rfl rfl (bv rfl (v_bin rfl rfl b_lss) (mv rfl rfl ?_))
  by_cases hg16 : x5 < 0
  ·have h := ifT hg16 h
   refine b_F rfl rfl rfl rfl rfl (decide_eq_true hg16) ?_
   iterate 3 refine b_F rfl rfl rfl rfl rfl rfl ?_
   refine bv rfl (v_pickT rfl rfl rfl) ?_
   refine b_nil (hK _ ?_)
   exact to_L ⟨true, (), h, rfl⟩
  have h := ifF hg16 h
  refine b_T rfl rfl rfl rfl (decide_eq_false hg16) (o_val rfl (mv_val rfl rfl).2 ?_)
  refine b_T rfl rfl rfl rfl rfl (o_val rfl (v_fieldAddrF fo27_1 rfl) ?_)
  refine b_T rfl rfl rfl rfl rfl (o_val rfl (v_loadF ty3 rfl (l_lit rfl rfl)) ?_)
  refine b_T rfl rfl rfl rfl rfl (o_val rfl (v_bin rfl rfl b_geq) ?_)
  refine bv rfl (v_pickF rfl rfl rfl) ?_
  refine b_nil (hK _ ?_)
  exact to_L ⟨decide (p0.2.1 ≤ x5), (), h, rfl⟩
 obtain ⟨hc, h⟩ := cF hc h
 refine AW.exit ?_
 exact to_L ⟨(), (), h, rfl⟩
theorem w_graph_leaving (p0 : TLabelsStatesEdges) (p1 : Int) : Pure Tryz.prog 93 [gA p0, hI p1] (· = HV.fn (.func 110) [] [gF p0, .fptr [hI p1] 0]) := by
 refine Pure.of_body Tryz.func93 rfl rfl (lb rfl) fun hf => ?_
 unfold Tryz.f93
 dsimp only [enumS, Nat.reduceAdd]
 refine AW.rgs rfl fun K hK => b_op rfl (o_box rfl rfl rfl ?_)
 refine b_op rfl (o_box rfl rfl rfl ?_)
 refine mv rfl rfl ?_
 refine bf hK ⟨[(2, gF p0), (3, .fptr [hI p1] 0)], []⟩ ?_
 refine AW.rgs rfl fun K hK => bv rfl (v_func rfl rfl) (mv rfl rfl ?_)
 refine bf hK ⟨[(4, .fn (.func 110) [] [gF p0, .fptr [hI p1] 0])], []⟩ ?_
 refine AW.ret ?_
 exact ret_pure (.inr rfl) (resT rfl rfl) rfl ⟨trivial, ⟨⟨trivial, trivial, (clean_slE fun _ _ => ⟨trivial, trivial, trivial, trivial⟩), trivial⟩, ⟨trivial, trivial⟩, trivial⟩⟩
theorem w_graph_Step {p0 : TLabelsStatesEdges} {p1 : List (Int)} {p2 : Int} {r : (List (Int)) × Int} (h : m_graph_Step p0 p1 p2 = some r) : Pure Tryz.prog 62 [gA p0, slE eInt p1, hI p2] (· = HV.tup [slE eInt r.1, hI r.2]) := by
 unfold m_graph_Step at h
 refine Pure.of_body Tryz.func62 rfl rfl (lb rfl) fun hf => ?_
 unfold Tryz.f62
 dsimp only [enumS, Nat.reduceAdd]
 refine AW.rgs rfl fun K hK => b_op rfl (o_box rfl rfl rfl ?_)
 refine b_op rfl (o_box rfl rfl rfl ?_)
 refine mv rfl rfl (mv rfl rfl ?_)
 let P1 : ASf := fun t H => ⟨(1, slE eInt p1) :: (3, gF p0) :: (5, .fptr [hI p2] 0) :: t, H⟩
 refine bf hK (P1 [] []) ?_
 refine AW.seq ?_
 refine AW.rgs rfl fun K hK => bv rfl (v_loadF ty27 rfl (l_litA rfl (lb rfl) rfl)) ?_
 obtain ⟨x1, h2, h⟩ := bS h
 refine b_op rfl (o_call rfl rfl rfl rfl (ACallD.pure0 (w_graph_Check h2)) ?_)
 refine bv rfl (v_bin rfl rfl b_neq) ?_
 refine bf hK (P1 [(16, .bool (decide (x1 ≠ 0)))] []) ?_
 refine AW.cond rfl (fun hc => ?_) (fun hc => ?_)
 ·obtain ⟨hc, h⟩ := cT hc h
  refine AW.rgs rfl fun K hK => mv rfl rfl (mv rfl rfl ?_)
  refine bf hK ⟨[(6, .v (.slice none 0 0)), (7, hI 1)], []⟩ ?_
  refine AW.to (to_weak ⟨[(6, slE eInt ([] : List Int)), (7, hI 1)], []⟩ ⟨⟨_, rfl, .nil _⟩, ⟨_, rfl, .refl _⟩, trivial⟩ trivial ?_)
  obtain rfl := oi h
  exact AW.ret (ret_pure (.inr rfl) (resT rfl (resT rfl rfl)) rfl ⟨(clean_slE fun _ _ => ⟨trivial, trivial⟩), trivial, trivial⟩)
 obtain ⟨hc, h⟩ := cF hc h
 refine AW.skip ?_
 refine AW.seq ?_
 refine AW.rgs rfl fun K hK => bv rfl (v_loadF ty27 rfl (l_litA rfl (lb rfl) rfl)) (mv rfl rfl ?_)
 obtain ⟨x3, h4, h⟩ := bS h
 refine b_op rfl (o_call rfl rfl rfl rfl (ACallD.pure0 (w_graph_checkSet h4)) ?_)
 refine mv rfl rfl ?_
 refine bf hK (P1 [(8, hI x3)] []) ?_
 refine AW.rgs rfl fun K hK => mv rfl rfl (bv rfl (v_bin rfl rfl b_neq) ?_)
 refine bf hK (P1 [(8, hI x3), (21, .bool (decide (x3 ≠ 0)))] []) ?_
 refine AW.cond rfl (fun hc => ?_) (fun hc => ?_)
 ·obtain ⟨hc, h⟩ := cT hc h
  refine AW.rgs rfl fun K hK => mv rfl rfl (mv rfl rfl (mv rfl rfl ?_))
  refine bf hK ⟨[(6, .v (.slice none 0 0)), (7, hI x3)], []⟩ ?_
  refine AW.to (to_weak ⟨[(6, slE eInt ([] : List Int)), (7, hI x3)], []⟩ ⟨⟨_, rfl, .nil _⟩, ⟨_, rfl, .refl _⟩, trivial⟩ trivial ?_)
  obtain rfl := oi h
  exact AW.ret (ret_pure (.inr rfl) (resT rfl (resT rfl rfl)) rfl ⟨(clean_slE fun _ _ => ⟨trivial, trivial⟩), trivial, trivial⟩)
 obtain ⟨hc, h⟩ := cF hc h
 refine AW.skip ?_
 refine AW.seq ?_
 refine AW.seqJ h (S := Bool) (V := Unit) (fun a v => (P1 [(30, .bool a)] [])) (fun a5 w6 h => ?_) (fun k7 h => ?_)
 ·refine AW.cond rfl (fun hc => ?_) (fun hc => ?_)
  ·have h := ifT hc h
   refine AW.rgs rfl fun K hK => mv rfl rfl (mv rfl rfl ?_)
   refine bf hK ⟨[(6, .v (.slice none 0 0)), (7, hI 2)], []⟩ ?_
   refine AW.to (to_weak ⟨[(6, slE eInt ([] : List Int)), (7, hI 2)], []⟩ ⟨⟨_, rfl, .nil _⟩, ⟨_, rfl, .refl _⟩, trivial⟩ trivial ?_)
   obtain rfl := oi h
   exact AW.ret (ret_pure (.inr rfl) (resT rfl (resT rfl rfl)) rfl ⟨(clean_slE fun _ _ => ⟨trivial, trivial⟩), trivial, trivial⟩)
  have h := ifF (bF' hc) h
  refine AW.skip ?_
  refine AW.rgs rfl fun K hK => b_op rfl (o_alloc (fid := 62) (zs := [.v (.slice none 0 0)]) 62009 rfl rfl ty36 rfl (fun v8 => ?_))
  refine bf hK (P1 [(9, .ptr 62009 v8 0)] [(62009, v8, .arr 1 36 [.v (.slice none 0 0)])]) ?_
  refine AW.seq ?_
  refine AW.rgs rfl fun K hK => mv rfl rfl (bv rfl (v_lenF rfl rfl ty36 rfl) (mv rfl rfl ?_))
  let E1 : Nat × HV := (32, hI ((p1).length : Int))
  let P2 : ASf := fun t H => ⟨(3, gF p0) :: (5, .fptr [hI p2] 0) :: (9, .ptr 62009 v8 0) :: (31, slE eInt p1) :: E1 :: t, H⟩
  refine bf hK (P2 [(33, hI 0)] [(62009, v8, .arr 1 36 [.v (.slice none 0 0)])]) ?_
  refine AW.lpX h (by first | exact up_then | exact up_to) (S := Int × (List Int)) (V := Nat) (fun a v => (P2 [(33, hI a.1)] [(62009, v8, .arr 1 36 [.ar 62050 v eInt.k 0 ((a.2).length)]), (62050, v, .arr eInt.k 3 (eInt.E a.2))])) ?_ (X := (List Int)) (W := Nat) (fun a v => ⟨[(9, .ptr 62009 v8 0)], [(62009, v8, .arr 1 36 [.ar 62050 v eInt.k 0 ((a).length)]), (62050, v, .arr eInt.k 3 (eInt.E a))]⟩) (fun a31 w32 h => ?_) (fun a9 w10 st11 h => ?_)
  ·refine to_bind (to_ownC 62050 62009 v8 1 0 eInt.k 3 36 rfl rfl (by decide) fun v30 => ?_)
   exact to_le (s' := (P2 [(33, hI 0)] [(62009, v8, .arr 1 36 [.ar 62050 v30 eInt.k 0 ((([] : List Int)).length)]), (62050, v30, .arr eInt.k 3 (eInt.E ([] : List Int)))])) (AS.le_of ⟨rfl, rfl, rfl, rfl, rfl, rfl, trivial⟩ ⟨hle rfl (by first | rfl | simp only [List.length_set, sortI_len, sortS_len, List.length_reverse]), rfl, trivial⟩) ⟨v30, rfl⟩
  ·refine AW.rgs rfl fun K hK => bv rfl (v_loadP ty36 rfl rfl (l_lit rfl rfl)) ?_
   obtain ⟨h33, h⟩ := ifN h
   refine b_op rfl (o_sortI c_sortI (l := a31) rfl rfl rfl rfl h33 ?_)
   refine b_fin hK (s' := ⟨[(9, .ptr 62009 v8 0)], [(62009, v8, .arr 1 36 [.ar 62050 w32 eInt.k 0 ((sortI a31).length)]), (62050, w32, .arr eInt.k 3 (eInt.E (sortI a31)))]⟩) (AS.le_of ⟨rfl, trivial⟩ ⟨hle rfl (by first | rfl | simp only [List.length_set, sortI_len, sortS_len, List.length_reverse]), rfl, trivial⟩) ?_
   refine AW.rgs rfl fun K hK => bv rfl (v_loadP ty36 rfl rfl (l_lit rfl rfl)) ?_
   refine b_op rfl (o_callK (q := slE eInt (compact_ (sortI a31))) [(62009, v8, .arr 1 36 [.ar 62050 w32 eInt.k 0 ((sortI a31).length)])] rfl rfl rfl rfl (fun K hK => c_compactI (H' := [(62009, v8, .arr 1 36 [.ar 62050 w32 eInt.k 0 ((sortI a31).length)])]) (l := sortI a31) rfl rfl (leH_get ⟨rfl, trivial⟩) rfl hK) ?_)
   refine mv rfl rfl (mv rfl rfl ?_)
   refine bf hK ⟨[(6, slE eInt (compact_ (sortI a31))), (7, hI 0)], []⟩ ?_
   obtain rfl := oi h
   exact AW.ret (ret_pure (.inr rfl) (resT rfl (resT rfl rfl)) rfl ⟨(clean_slE fun _ _ => ⟨trivial, trivial⟩), trivial, trivial⟩)
  refine AW.rgs rfl fun K hK => bv rfl (v_bin rfl rfl b_lss) ?_
  let O2 : Nat × Nat × AObj := (62009, v8, .arr 1 36 [.ar 62050 w10 eInt.k 0 ((a9.2).length)])
  let O3 : Nat × Nat × AObj := (62050, w10, .arr eInt.k 3 (eInt.E a9.2))
  refine bf hK (P2 [(33, hI a9.1), (34, .bool (decide (a9.1 < ((p1).length : Int))))] [O2, O3]) ?_
  refine AW.cseq rfl (fun hc => ?_) (fun hc => ?_)
  ·obtain ⟨hc, h⟩ := cT hc h
   refine AW.skip ?_
   refine AW.seq (AW.block ?_)
   refine AW.rgs rfl fun K hK => ?_
   obtain ⟨x13, h14, h⟩ := bS h
   refine bv rfl (v_idxF ty36 es36 rfl rfl (idx_lt h14)) (bv rfl (v_loadF ty3 rfl (l_cell eInt h14 (o := 0) rfl rfl)) (mv rfl rfl ?_))
   refine bf hK ⟨[(3, gF p0), (5, .fptr [hI p2] 0), (9, .ptr 62009 v8 0), (11, hI x13), (31, slE eInt p1), E1, (33, hI a9.1)], [O2, O3]⟩ ?_
   refine AW.rgs rfl fun K hK => bv rfl (v_loadF ty27 rfl (l_litA rfl (lb rfl) rfl)) (mv rfl rfl ?_)
   refine b_op rfl (o_call rfl rfl rfl rfl (ACallD.pure0 (w_graph_leaving p0 x13)) ?_)
   refine bf hK (P2 [(33, hI a9.1), (39, .fn (.func 110) [] [gF p0, .fptr [hI x13] 0])] [O2, O3]) ?_
   refine AW.block ?_
   refine AW.to (to_le (s' := (P2 [(33, hI a9.1), (39, .fn (.func 110) [] [gF p0, .fptr [hI x13] 0])] [O2, O3])) (le_q rfl rfl) ?_)
   obtain ⟨L15, h16, h⟩ := bS h
   refine AW.rangeY (c := .ret) 62900 (fun x => [hI x.1, .agg [hI x.2.1, hI x.2.2.1, hI x.2.2.2]]) h (by first | exact up_then | exact up_to) rfl (iy_graph_leaving h16) (S := (List Int)) (V := Nat) (fun a v => [(62009, v8, .arr 1 36 [.ar 62050 v eInt.k 0 ((a).length)]), (62050, v, .arr eInt.k 3 (eInt.E a))]) w10 (X := Unit) (W := Unit) (fun _ _ => []) (fun _ _ => rfl) (fun _ _ => rfl) rfl (fun _ => rfl) (fun a26 w27 h => ?_) (fun a28 w29 h => ?_) (fun Lo l22 v20 a17 x19 w18 st21 h => ?_)
   ·refine AW.rg rfl fun K hK => bv rfl (v_bin rfl rfl b_add) (mv rfl rfl ?_)
    refine b_nil (hK _ ?_)
    exact to_L ⟨(IntKind.wrap .i64 (a9.1 + 1), a26), w27, h, rfl⟩
   ·cases h
   refine AW.rg rfl fun K hK => b_op rfl (o_alloc (fid := 62) (zs := [hI 0, hI 0, hI 0]) 62013 rfl rfl ty35 rfl (fun v23 => ?_))
   refine b_op rfl (o_store (cs := [hI x19.2.1, hI x19.2.2.1, hI x19.2.2.2]) (zs := [hI x19.2.1, hI x19.2.2.1, hI x19.2.2.2]) rfl rfl rfl ty35 rfl rfl rfl rfl rfl ?_)
   refine b_nil (hK _ ?_)
   refine ⟨rfl, rfl, ?_⟩
   refine AW.block ?_
   refine AW.rgs rfl fun K hK => bv rfl (v_fieldAddrP fo35_1 rfl rfl) (bv rfl (v_loadP ty3 rfl rfl (l_lit rfl rfl)) (bv rfl (v_loadF ty3 rfl (l_lit rfl rfl)) (bv rfl (v_bin rfl rfl b_eql) ?_)))
   refine bf hK ⟨[(3, gF p0), (5, .fptr [hI p2] 0), (9, .ptr 62009 v8 0), (13, .ptr 62013 v23 0), (31, slE eInt p1), E1, (33, hI a9.1), (41, .agg [hI x19.2.1, hI x19.2.2.1, hI x19.2.2.2]), (45, .bool (decide (x19.2.2.1 = p2)))], [(62900, v20, Lo .busy none), (62009, v8, .arr 1 36 [.ar 62050 w18 eInt.k 0 ((a17).length)]), (62050, w18, .arr eInt.k 3 (eInt.E a17)), (62013, v23, .arr 3 35 [hI x19.2.1, hI x19.2.2.1, hI x19.2.2.2])]⟩ ?_
   refine AW.cond rfl (fun hc => ?_) (fun hc => ?_)
   ·obtain ⟨hc, h⟩ := cT hc h
    refine AW.rg rfl fun K hK => bv rfl (v_loadP ty36 rfl rfl (l_lit rfl rfl)) (bv rfl (v_fieldAddrP fo35_2 rfl rfl) (bv rfl (v_loadP ty3 rfl rfl (l_lit rfl rfl)) ?_))
    refine b_op rfl (o_bsl rfl rfl (as_of (cs := [hI x19.2.2.2]) ty36 ty3 rfl rfl rfl rfl rfl) ?_)
    obtain ⟨h25, h⟩ := ifN h
    refine b_op rfl (o_appE eInt (l := a17) (m := [x19.2.2.2]) rfl rfl ty36 ty36 ty3 rfl rfl rfl rfl rfl h25 (fun v24 => ?_))
    refine b_op rfl (o_store (cs := [.ar 62050 v24 eInt.k 0 ((a17 ++ [x19.2.2.2]).length)]) (zs := [.ar 62050 v24 eInt.k 0 ((a17 ++ [x19.2.2.2]).length)]) rfl rfl rfl ty36 rfl rfl rfl rfl rfl ?_)
    refine b_nil (hK _ ?_)
    exact ⟨a17 ++ [x19.2.2.2], v24, h, (AS.le_of trivial ⟨rfl, rfl, rfl, trivial⟩)⟩
   obtain ⟨hc, h⟩ := cF hc h
   refine AW.skip ?_
   exact ⟨a17, w18, h, (AS.le_of trivial ⟨rfl, rfl, rfl, trivial⟩)⟩
  obtain ⟨hc, h⟩ := cF hc h
  refine AW.exit ?_
  exact to_L ⟨a9.2, w10, h, rfl⟩
 refine AW.rg rfl fun K hK => bv rfl (v_loadF ty3 rfl (l_lit rfl rfl)) (bv rfl (v_bin rfl rfl b_lss) (mv rfl rfl ?_))
 by_cases hg34 : p2 < 0
 ·have h := ifT hg34 h
  refine b_F rfl rfl rfl rfl rfl (decide_eq_true hg34) ?_
  iterate 3 refine b_F rfl rfl rfl rfl rfl rfl ?_
  refine bv rfl (v_pickT rfl rfl rfl) ?_
  refine b_nil (hK _ ?_)
  exact to_L ⟨true, (), h, rfl⟩
 have h := ifF hg34 h
 refine b_T rfl rfl rfl rfl (decide_eq_false hg34) (o_val rfl (v_loadF ty3 rfl (l_lit rfl rfl)) ?_)
 refine b_T rfl rfl rfl rfl rfl (o_val rfl (v_fieldAddrF fo27_0 rfl) ?_)
 refine b_T rfl rfl rfl rfl rfl (o_val rfl (v_loadF ty3 rfl (l_lit rfl rfl)) ?_)
 refine b_T rfl rfl rfl rfl rfl (o_val rfl (v_bin rfl rfl b_geq) ?_)
 refine bv rfl (v_pickF rfl rfl rfl) ?_
 refine b_nil (hK _ ?_)
 exact to_L ⟨decide (p0.1 ≤ p2), (), h, rfl⟩
theorem w_language_step {p0 : TLabelsStatesEdges} {p1 : List (Int)} {p2 : Int} {r : (List (Int))} (h : m_language_step p0 p1 p2 = some r) : Pure Tryz.prog 75 [gA p0, slE eInt p1, .int .u8 p2] (· = slE eInt r) := by
 unfold m_language_step at h
 refine Pure.of_body Tryz.func75 rfl rfl (lb rfl) fun hf => ?_
 unfold Tryz.f75
 dsimp only [enumS, Nat.reduceAdd]
 refine AW.rgs rfl fun K hK => b_op rfl (o_box rfl rfl rfl ?_)
 refine mv rfl rfl ?_
 refine bf hK ⟨[(1, slE eInt p1), (2, .int .u8 p2), (3, gF p0)], []⟩ ?_
 refine AW.dgs 10 follows rfl rfl fun K hK => ?_
 refine sv rfl (v_loadF ty27 rfl (l_litA rfl (lb rfl) rfl)) ?_
 iterate 2 refine sm rfl rfl ?_
 obtain ⟨x1, h2, h⟩ := bS h
 refine s_op rfl rfl (ops_call rfl rfl rfl rfl (ACallD.pure0 (w_strings_IndexByte h2)) ?_)
 obtain ⟨x3, h4, h⟩ := bS h
 refine s_op rfl rfl (ops_call rfl rfl rfl rfl (ACallD.pure0 (w_graph_Step h4)) ?_)
 refine sm rfl rfl ?_
 refine sv rfl (v_extract rfl rfl) ?_
 refine sv rfl (v_extract rfl rfl) ?_
 iterate 2 refine sm rfl rfl ?_
 refine s_nil ?_
 refine bf hK ⟨[(7, slE eInt x3.1)], []⟩ ?_
 refine AW.rgs rfl fun K hK => mv rfl rfl (mv rfl rfl ?_)
 refine bf hK ⟨[(6, slE eInt x3.1)], []⟩ ?_
 obtain rfl := oi h
 exact AW.ret (ret_pure (.inr rfl) (resT rfl rfl) rfl (clean_slE fun _ _ => ⟨trivial, trivial⟩))
theorem w_language_states {p0 : TLabelsStatesEdges} {r : (List (Int))} (h : m_language_states p0 = some r) : Pure Tryz.prog 43 [gA p0] (· = slE eInt r) := by
 unfold m_language_states at h
 refine Pure.of_body Tryz.func43 rfl rfl (lb rfl) fun hf => ?_
 unfold Tryz.f43
 dsimp only [enumS, Nat.reduceAdd]
 refine AW.rgs rfl fun K hK => b_op rfl (o_box rfl rfl rfl ?_)
 refine mv rfl rfl ?_
 refine bf hK ⟨[(1, gF p0)], []⟩ ?_
 refine AW.rgs rfl fun K hK => bv rfl (v_fieldAddrF fo27_1 rfl) (bv rfl (v_loadF ty3 rfl (l_lit rfl rfl)) ?_)
 obtain ⟨h2, h⟩ := ifN h
 refine b_op rfl (o_makeE (fid := 43) eInt (0 : Int) 43007 rfl rfl ty36 rfl rfl ty3 rfl rfl h2 (fun v1 => ?_))
 refine mv rfl rfl ?_
 let E4 : Nat × HV := (3, .ar 43007 v1 eInt.k 0 ((List.replicate (p0.2.1).toNat (0 : Int)).length))
 let O5 : Nat × Nat × AObj := (43007, v1, .arr eInt.k 3 (eInt.E (List.replicate (p0.2.1).toNat (0 : Int))))
 refine bf hK ⟨[E4], [O5]⟩ ?_
 refine AW.seq ?_
 refine AW.rgs rfl fun K hK => mv rfl rfl (bv rfl (v_lenA rfl rfl ty36 rfl rfl) (mv rfl rfl ?_))
 let E6 : Nat × HV := (9, hI (((List.replicate (p0.2.1).toNat (0 : Int)).length : Nat) : Int))
 refine bf hK ⟨[E4, E6, (10, hI 0)], [O5]⟩ ?_
 refine AW.lpX h (by first | exact up_then | exact up_to) (S := Int × (List Int)) (V := Unit) (fun a v => ⟨[(3, .ar 43007 v1 eInt.k 0 ((a.2).length)), E6, (10, hI a.1)], [(43007, v1, .arr eInt.k 3 (eInt.E a.2))]⟩) ?_ (X := (List Int)) (W := Unit) (fun a v => ⟨[(3, .ar 43007 v1 eInt.k 0 ((a).length))], [(43007, v1, .arr eInt.k 3 (eInt.E a))]⟩) (fun a9 w10 h => ?_) (fun a3 w4 st5 h => ?_)
 ·exact to_L ⟨(), rfl⟩
 ·refine AW.rgs rfl fun K hK => mv rfl rfl (mv rfl rfl ?_)
  refine bf hK ⟨[(2, .ar 43007 v1 eInt.k 0 ((a9).length))], [(43007, v1, .arr eInt.k 3 (eInt.E a9))]⟩ ?_
  refine AW.to (to_frz 2 [(43007, v1, .arr eInt.k 3 (eInt.E a9))] ⟨[(2, slE eInt a9)], []⟩ ⟨⟨_, rfl, frz_slE eInt (l := a9) rfl fun _ _ => rfl⟩, trivial⟩ trivial ⟨rfl, trivial⟩ ⟨rfl, trivial⟩ ?_)
  obtain rfl := oi h
  exact AW.ret (ret_pure (.inr rfl) (resT rfl rfl) rfl (clean_slE fun _ _ => ⟨trivial, trivial⟩))
 refine AW.rgs rfl fun K hK => bv rfl (v_bin rfl rfl b_lss) ?_
 let P3 : ASf := fun t H => ⟨(3, .ar 43007 v1 eInt.k 0 ((a3.2).length)) :: t, (43007, v1, .arr eInt.k 3 (eInt.E a3.2)) :: H⟩
 refine bf hK (P3 [E6, (10, hI a3.1), (11, .bool (decide (a3.1 < (((List.replicate (p0.2.1).toNat (0 : Int)).length : Nat) : Int))))] []) ?_
 refine AW.cseq rfl (fun hc => ?_) (fun hc => ?_)
 ·obtain ⟨hc, h⟩ := cT hc h
  refine AW.skip ?_
  refine AW.seq (AW.block ?_)
  refine AW.rgs rfl fun K hK => mv rfl rfl (mv rfl rfl ?_)
  refine bf hK (P3 [(4, hI a3.1), E6, (10, hI a3.1)] []) ?_
  refine AW.rg rfl fun K hK => mv rfl rfl (mv rfl rfl (mv rfl rfl ?_))
  obtain ⟨x7, h8, h⟩ := bS h
  refine bv rfl (v_idxA ty36 es36 rfl rfl (idx_lt h8) rfl) ?_
  refine b_op rfl (o_storeE eInt (l := a3.2) (j := a3.1) (v := a3.1) rfl rfl rfl ty3 rfl rfl rfl (idx_lt h8) ?_)
  refine b_fin hK (s' := ⟨[(3, .ar 43007 v1 eInt.k 0 (((a3.2).set (a3.1).toNat a3.1).length)), E6, (10, hI a3.1)], [(43007, v1, .arr eInt.k 3 (eInt.E ((a3.2).set (a3.1).toNat a3.1)))]⟩) (AS.le_of ⟨arl (by first | rfl | simp only [List.length_set, sortI_len, sortS_len, List.length_reverse]), rfl, rfl, trivial⟩ ⟨rfl, trivial⟩) ?_
  refine AW.rg rfl fun K hK => bv rfl (v_bin rfl rfl b_add) (mv rfl rfl ?_)
  refine b_nil (hK _ ?_)
  exact to_L ⟨(IntKind.wrap .i64 (a3.1 + 1), (a3.2).set (a3.1).toNat a3.1), (), h, rfl⟩
 obtain ⟨hc, h⟩ := cF hc h
 refine AW.exit ?_
 exact to_L ⟨a3.2, (), h, rfl⟩
theorem w_word_known {p0 : Int} {r : Bool} (h : m_word_known p0 = some r) : Pure Tryz.prog 70 [hI p0] (· = HV.bool r) := by
 unfold m_word_known at h
 refine Pure.of_body Tryz.func70 rfl rfl (lb rfl) fun hf => ?_
 unfold Tryz.f70
 dsimp only [enumS, Nat.reduceAdd]
 refine AW.rgs rfl fun K hK => mv rfl rfl ?_
 refine bf hK ⟨[(0, hI p0)], []⟩ ?_
 refine AW.seqJ h (S := Bool) (V := Unit) (fun a v => ⟨[(2, .bool a)], []⟩) (fun a1 w2 h => ?_) (fun k3 h => ?_)
 ·obtain rfl := oi h
  exact AW.ret (ret_pure (.inr rfl) (resT rfl rfl) rfl trivial)
 refine AW.rg rfl fun K hK => mv rfl rfl (bv rfl (v_bin rfl rfl b_geq) (mv rfl rfl ?_))
 by_cases hg4 : 1 ≤ p0
 ·have h := ifT hg4 h
  refine b_T rfl rfl rfl rfl (decide_eq_true hg4) (o_val rfl (mv_val rfl rfl).2 ?_)
  refine b_T rfl rfl rfl rfl rfl (o_val rfl (v_bin rfl rfl b_leq) ?_)
  refine bv rfl (v_pickT rfl rfl rfl) (mv rfl rfl ?_)
  refine b_nil (hK _ ?_)
  exact to_L ⟨decide (p0 ≤ 16), (), h, rfl⟩
 have h := ifF hg4 h
 refine b_F rfl rfl rfl rfl rfl (decide_eq_false hg4) ?_
 refine b_F rfl rfl rfl rfl rfl rfl ?_
 refine bv rfl (v_pickF rfl rfl rfl) (mv rfl rfl ?_)
 refine b_nil (hK _ ?_)
 exact to_L ⟨false, (), h, rfl⟩
theorem w_word_Check {p0 : Int} {p1 : List UInt8} {r : Int} (h : m_word_Check p0 p1 = some r) : Pure Tryz.prog 44 [hI p0, .str p1] (· = hI r) := by
 unfold m_word_Check at h
 refine Pure.of_body Tryz.func44 rfl rfl (lb rfl) fun hf => ?_
 unfold Tryz.f44
 dsimp only [enumS, Nat.reduceAdd]
 refine AW.rgs rfl fun K hK => mv rfl rfl ?_
 let P4 : ASf := fun t H => ⟨(0, hI p0) :: (1, .str p1) :: t, H⟩
 refine bf hK (P4 [] []) ?_
 refine AW.seq (AW.block ?_)
 refine AW.rgs rfl fun K hK => mv rfl rfl ?_
 obtain ⟨x1, h2, h⟩ := bS h
 refine b_op rfl (o_call rfl rfl rfl rfl (ACallD.pure0 (w_word_known h2)) ?_)
 refine bv rfl (v_not rfl) (mv rfl rfl ?_)
 refine bf hK (P4 [(6, .bool (!x1))] []) ?_
 refine AW.cond rfl (fun hc => ?_) (fun hc => ?_)
 ·have h := ifT hc h
  refine AW.rgs rfl fun K hK => mv rfl rfl ?_
  refine bf hK ⟨[(4, hI 12)], []⟩ ?_
  obtain rfl := oi h
  exact AW.ret (ret_pure (.inr rfl) (resT rfl rfl) rfl trivial)
 have h := ifF (bF' hc) h
 refine AW.rgs rfl fun K hK => mv rfl rfl (bv rfl (v_lenS rfl rfl ty9 rfl) (bv rfl (v_bin rfl rfl b_gtr) (mv rfl rfl ?_)))
 refine bf hK (P4 [(10, .bool (decide (65536 < ((p1).length : Int))))] []) ?_
 refine AW.cond rfl (fun hc => ?_) (fun hc => ?_)
 ·obtain ⟨hc, h⟩ := cT hc h
  refine AW.rgs rfl fun K hK => mv rfl rfl ?_
  refine bf hK ⟨[(4, hI 4)], []⟩ ?_
  obtain rfl := oi h
  exact AW.ret (ret_pure (.inr rfl) (resT rfl rfl) rfl trivial)
 obtain ⟨hc, h⟩ := cF hc h
 refine AW.skip ?_
 refine AW.seq ?_
 refine AW.rgs rfl fun K hK => mv rfl rfl (bv rfl (v_lenS rfl rfl ty9 rfl) (mv rfl rfl ?_))
 let E7 : Nat × HV := (15, hI ((p1).length : Int))
 refine bf hK (P4 [E7, (16, hI 0)] []) ?_
 refine AW.lpR h (by first | exact up_then | exact up_to) (S := Int) (V := Unit) (fun a v => (P4 [E7, (16, hI a)] [])) ?_ (X := Unit) (W := Unit) (fun a v => ⟨[], []⟩) (fun a12 w13 h => ?_) (fun a3 w4 st5 h hr6=> ?_)
 ·exact to_L ⟨(), rfl⟩
 ·refine AW.rgs rfl fun K hK => mv rfl rfl ?_
  refine bf hK ⟨[(4, hI 0)], []⟩ ?_
  obtain rfl := oi h
  exact AW.ret (ret_pure (.inr rfl) (resT rfl rfl) rfl trivial)
 refine AW.rgs rfl fun K hK => bv rfl (v_bin rfl rfl b_lss) ?_
 refine bf hK (P4 [E7, (16, hI a3), (17, .bool (decide (a3 < ((p1).length : Int))))] []) ?_
 refine AW.cseq rfl (fun hc => ?_) (fun hc => ?_)
 ·obtain ⟨hc, h⟩ := cT hc h
  refine AW.skip ?_
  refine AW.seq (AW.block ?_)
  refine AW.rgs rfl fun K hK => mv rfl rfl (mv rfl rfl ?_)
  refine bf hK (P4 [(5, hI a3), E7, (16, hI a3)] []) ?_
  refine AW.dgs 7 follows rfl rfl fun K hK => ?_
  refine sm rfl rfl ?_
  obtain ⟨h7, h⟩ := ifN h
  refine sv rfl (v_sliceS ty9 rfl rfl rfl h7) ?_
  iterate 2 refine sm rfl rfl ?_
  obtain ⟨x8, h9, h⟩ := bS h
  refine sv rfl (v_idxS ty9 rfl rfl h9) ?_
  obtain ⟨x10, h11, h⟩ := bS h
  refine s_op rfl rfl (ops_call rfl rfl rfl rfl (ACallD.pure0 (w_strings_IndexByte h11)) ?_)
  refine sv rfl (v_bin rfl rfl b_lss) ?_
  refine s_nil ?_
  refine bf hK (P4 [E7, (16, hI a3), (25, .bool (decide (x10 < 0)))] []) ?_
  refine AW.cond rfl (fun hc => ?_) (fun hc => ?_)
  ·obtain ⟨hc, h⟩ := cT hc h
   refine AW.rgs rfl fun K hK => mv rfl rfl ?_
   refine bf hK ⟨[(4, hI 13)], []⟩ ?_
   have h := hr6 _ h
   obtain rfl := oi h
   exact AW.ret (ret_pure (.inr rfl) (resT rfl rfl) rfl trivial)
  obtain ⟨hc, h⟩ := cF hc h
  refine AW.skip ?_
  refine AW.rg rfl fun K hK => bv rfl (v_bin rfl rfl b_add) (mv rfl rfl ?_)
  refine b_nil (hK _ ?_)
  exact to_L ⟨IntKind.wrap .i64 (a3 + 1), (), h, rfl⟩
 obtain ⟨hc, h⟩ := cF hc h
 refine AW.exit ?_
 exact to_L ⟨(), (), h, rfl⟩
theorem w_language_check {p0 : TLabelsStatesEdges} {r : Int} (h : m_language_check p0 = some r) : Pure Tryz.prog 74 [gA p0] (· = hI r) := by
 unfold m_language_check at h
 refine Pure.of_body Tryz.func74 rfl rfl (lb rfl) fun hf => ?_
 unfold Tryz.f74
 dsimp only [enumS, Nat.reduceAdd]
 refine AW.rgs rfl fun K hK => b_op rfl (o_box rfl rfl rfl ?_)
 refine mv rfl rfl ?_
 refine bf hK ⟨[(1, gF p0)], []⟩ ?_
 refine AW.seq (AW.block ?_)
 refine AW.rgs rfl fun K hK => bv rfl (v_loadF ty27 rfl (l_litA rfl (lb rfl) rfl)) ?_
 obtain ⟨x1, h2, h⟩ := bS h
 refine b_op rfl (o_call rfl rfl rfl rfl (ACallD.pure0 (w_graph_Check h2)) ?_)
 refine bv rfl (v_bin rfl rfl b_neq) (mv rfl rfl ?_)
 refine bf hK ⟨[(1, gF p0), (3, .bool (decide (x1 ≠ 0)))], []⟩ ?_
 refine AW.cond rfl (fun hc => ?_) (fun hc => ?_)
 ·obtain ⟨hc, h⟩ := cT hc h
  refine AW.rgs rfl fun K hK => mv rfl rfl ?_
  refine bf hK ⟨[(2, hI 1)], []⟩ ?_
  obtain rfl := oi h
  exact AW.ret (ret_pure (.inr rfl) (resT rfl rfl) rfl trivial)
 obtain ⟨hc, h⟩ := cF hc h
 refine AW.rgs rfl fun K hK => bv rfl (v_fieldAddrF fo27_0 rfl) (bv rfl (v_loadF ty3 rfl (l_lit rfl rfl)) (bv rfl (v_bin rfl rfl b_gtr) (mv rfl rfl ?_)))
 refine bf hK ⟨[(7, .bool (decide (16 < p0.1)))], []⟩ ?_
 refine AW.cond rfl (fun hc => ?_) (fun hc => ?_)
 ·obtain ⟨hc, h⟩ := cT hc h
  refine AW.rgs rfl fun K hK => mv rfl rfl ?_
  refine bf hK ⟨[(2, hI 12)], []⟩ ?_
  obtain rfl := oi h
  exact AW.ret (ret_pure (.inr rfl) (resT rfl rfl) rfl trivial)
 obtain ⟨hc, h⟩ := cF hc h
 refine AW.skip ?_
 refine AW.rgs rfl fun K hK => mv rfl rfl ?_
 refine bf hK ⟨[(2, hI 0)], []⟩ ?_
 obtain rfl := oi h
 exact AW.ret (ret_pure (.inr rfl) (resT rfl rfl) rfl trivial)
theorem w_language_spells {p0 : TLabelsStatesEdges} {p1 : List UInt8} {r : Int} (h : m_language_spells p0 p1 = some r) : Pure Tryz.prog 41 [gA p0, .str p1] (· = hI r) := by
 unfold m_language_spells at h
 refine Pure.of_body Tryz.func41 rfl rfl (lb rfl) fun hf => ?_
 unfold Tryz.f41
 dsimp only [enumS, Nat.reduceAdd]
 refine AW.rgs rfl fun K hK => b_op rfl (o_box rfl rfl rfl ?_)
 refine mv rfl rfl ?_
 refine bf hK ⟨[(1, .str p1), (2, gF p0)], []⟩ ?_
 refine AW.seq ?_
 refine AW.rgs rfl fun K hK => bv rfl (v_loadF ty27 rfl (l_litA rfl (lb rfl) rfl)) ?_
 obtain ⟨x1, h2, h⟩ := bS h
 refine b_op rfl (o_call rfl rfl rfl rfl (ACallD.pure0 (w_language_check h2)) ?_)
 refine mv rfl rfl ?_
 refine bf hK ⟨[(1, .str p1), (2, gF p0), (5, hI x1)], []⟩ ?_
 refine AW.rgs rfl fun K hK => mv rfl rfl (bv rfl (v_bin rfl rfl b_neq) ?_)
 refine bf hK ⟨[(1, .str p1), (2, gF p0), (5, hI x1), (9, .bool (decide (x1 ≠ 0)))], []⟩ ?_
 refine AW.cond rfl (fun hc => ?_) (fun hc => ?_)
 ·obtain ⟨hc, h⟩ := cT hc h
  refine AW.rgs rfl fun K hK => mv rfl rfl (mv rfl rfl ?_)
  refine bf hK ⟨[(4, hI x1)], []⟩ ?_
  obtain rfl := oi h
  exact AW.ret (ret_pure (.inr rfl) (resT rfl rfl) rfl trivial)
 obtain ⟨hc, h⟩ := cF hc h
 refine AW.skip ?_
 refine AW.rgs rfl fun K hK => bv rfl (v_fieldAddrF fo27_0 rfl) (bv rfl (v_loadF ty3 rfl (l_lit rfl rfl)) (mv rfl rfl ?_))
 obtain ⟨x3, h4, h⟩ := bS h
 refine b_op rfl (o_call rfl rfl rfl rfl (ACallD.pure0 (w_word_Check h4)) ?_)
 refine mv rfl rfl ?_
 refine bf hK ⟨[(4, hI x3)], []⟩ ?_
 obtain rfl := oi h
 exact AW.ret (ret_pure (.inr rfl) (resT rfl rfl) rfl trivial)
end Go.AW

namespace Go.AW
open Go
set_option linter.unusedVariables false
abbrev TWordsMerges := (List (List UInt8)) × (List (List UInt8))
noncomputable def m_slices_IndexFunc_Lstring_stringG (p0 : List (List UInt8)) (p1 : (List UInt8) → Option (Bool)) : Option (Int) :=
 lpO (loopW (S := Int) (X := Ou (Unit) (Int)) (fun a1 =>
     if a1 < ((p0).length : Int) then
      (idx p0 a1).bind fun x5 =>
      (p1 x5).bind fun x7 =>
      if x7 = true then
       some (Stp.exit (Ou.ret a1))
      else
       some (Stp.next (IntKind.wrap .i64 (a1 + 1)))
     else
      some (Stp.exit (Ou.go ()))) 0) (fun a9 =>
     some (-1)) some
noncomputable def m_slices_ContainsFunc_Lstring_stringG (p0 : List (List UInt8)) (p1 : (List UInt8) → Option (Bool)) : Option (Bool) :=
 (m_slices_IndexFunc_Lstring_stringG p0 p1).bind fun x1 =>
 some (decide (0 ≤ x1))
noncomputable def m_merging_uneven_1 (p0 : List UInt8) (c0 : List (List UInt8)) : Option (Bool) :=
 (idx c0 0).bind fun x1 =>
 some (decide (((p0).length : Int) ≠ ((x1).length : Int)))
noncomputable def m_merging_uneven (p0 : List (List UInt8)) : Option (Bool) :=
 (m_slices_ContainsFunc_Lstring_stringG p0 (fun b0 => m_merging_uneven_1 b0 p0)).bind fun x1 =>
 some x1
noncomputable def m_merging_letters_1 (p0 : List UInt8) : Option (Bool) :=
 (m_strings_Count p0 [48]).bind fun x1 =>
 (m_strings_Count p0 [49]).bind fun x3 =>
 some (decide ((IntKind.wrap .i64 (x1 + x3)) ≠ ((p0).length : Int)))
noncomputable def m_merging_letters (p0 : List (List UInt8)) : Option (Bool) :=
 (m_slices_ContainsFunc_Lstring_stringG p0 (fun b0 => m_merging_letters_1 b0 )).bind fun x1 =>
 some x1
noncomputable def m_merging_repeats (p0 : List (List UInt8)) : Option (Bool) :=
 lpO (loopW (S := Int × (List (List UInt8 × Bool))) (X := Ou (Unit) (Bool)) (fun a2 =>
     if a2.1 < ((p0).length : Int) then
      (idx p0 a2.1).bind fun x6 =>
      if ((mlook x6 a2.2).getD false) = true then
       some (Stp.exit (Ou.ret true))
      else
       some (Stp.next (IntKind.wrap .i64 (a2.1 + 1), mputN x6 true a2.2))
     else
      some (Stp.exit (Ou.go ()))) (0, ([] : List (List UInt8 × Bool)))) (fun a8 =>
     some false) some
noncomputable def m_merging_form (p0 : TWordsMerges) : Option (Int) :=
 jp (fun (a1 : Bool) =>
   if a1 = true then
    some 5
   else
    jp (fun (a4 : Bool) =>
      if a4 = true then
       some 4
      else
       jp (fun (a7 : Bool) =>
         if a7 = true then
          some 11
         else
          jp (fun (a10 : Bool) =>
            if a10 = true then
             some 2
            else
             jp (fun (a13 : Bool) =>
               if a13 = true then
                some 13
               else
                jp (fun (a16 : Bool) =>
                  if a16 = true then
                   some 7
                  else
                   some 0)
                  fun k18 =>
                 (m_merging_repeats p0.1).bind fun x19 =>
                 if x19 = true then
                  k18 true
                 else
                  (m_merging_repeats p0.2).bind fun x21 =>
                  k18 x21)
               fun k15 =>
              (m_merging_letters p0.1).bind fun x24 =>
              if x24 = true then
               k15 true
              else
               (m_merging_letters p0.2).bind fun x26 =>
               k15 x26)
            fun k12 =>
           (idx p0.1 0).bind fun x29 =>
           if ((x29).length : Int) < 1 then
            k12 true
           else
            (idx p0.1 0).bind fun x31 =>
            if 16 < ((x31).length : Int) then
             k12 true
            else
             (idx p0.2 0).bind fun x33 =>
             k12 (decide (16 < ((x33).length : Int))))
         fun k9 =>
        (m_merging_uneven p0.1).bind fun x37 =>
        if x37 = true then
         k9 true
        else
         (m_merging_uneven p0.2).bind fun x39 =>
         k9 x39)
      fun k6 =>
     if 256 < ((p0.1).length : Int) then
      k6 true
     else
      k6 (decide (256 < ((p0.2).length : Int))))
   fun k3 =>
  if ((p0.1).length : Int) = 0 then
   k3 true
  else
   k3 (decide (((p0.2).length : Int) = 0))
noncomputable def m_merging_accepts (p0 : TLabelsStatesEdges) (p1 : List UInt8) : Option (Bool) :=
 (m_language_Accepts p0 p1).bind fun x1 =>
 jp (fun (a3 : Bool) =>
   some a3)
   fun k5 =>
  if x1.2 = 0 then
   k5 x1.1
  else
   k5 false
noncomputable def m_merging_Check_1 (p0 : List UInt8) (c0 : TLabelsStatesEdges) : Option (Bool) :=
 (m_merging_accepts c0 p0).bind fun x1 =>
 some (!x1)
noncomputable def m_merging_joins_1 (p0 : List UInt8) (c0 : TLabelsStatesEdges) (c1 : List UInt8) (c2 : List UInt8) : Option (Bool) :=
 if c1.length + p0.length ≤ maxLen then
  if (c1 ++ p0).length + c2.length ≤ maxLen then
   (m_merging_accepts c0 ((c1 ++ p0) ++ c2)).bind fun x3 =>
   some x3
  else none
 else none
noncomputable def m_merging_joins (p0 : TLabelsStatesEdges) (p1 : List (List UInt8)) (p2 : List UInt8) (p3 : List UInt8) : Option (Bool) :=
 (m_slices_ContainsFunc_Lstring_stringG p1 (fun b0 => m_merging_joins_1 b0 p0 p2 p3)).bind fun x1 =>
 some x1
noncomputable def m_merging_Check (p0 : TWordsMerges) (p1 : TLabelsStatesEdges) : Option (Int) :=
 (m_graph_Check p1).bind fun x1 =>
 if x1 ≠ 0 then
  some 1
 else
  if p1.1 ≠ 2 then
   some 12
  else
   (m_merging_form p0).bind fun x3 =>
   if x3 ≠ 0 then
    some x3
   else
    (m_slices_ContainsFunc_Lstring_stringG p0.1 (fun b0 => m_merging_Check_1 b0 p1)).bind fun x5 =>
    if x5 = true then
     some 13
    else
     lpO (loopW (S := Int) (X := Ou (Unit) (Int)) (fun a7 =>
         if a7 < ((p0.1).length : Int) then
          (idx p0.1 a7).bind fun x11 =>
          lpO (loopW (S := Int) (X := Ou (Unit) (Int)) (fun a13 =>
              if a13 < ((p0.1).length : Int) then
               (idx p0.1 a13).bind fun x17 =>
               (m_merging_joins p1 p0.2 x11 x17).bind fun x19 =>
               if (!x19) = true then
                some (Stp.exit (Ou.ret 15))
               else
                some (Stp.next (IntKind.wrap .i64 (a13 + 1)))
              else
               some (Stp.exit (Ou.go ()))) 0) (fun a21 =>
              some (Stp.next (IntKind.wrap .i64 (a7 + 1)))) (fun r => some (Stp.exit (Ou.ret r)))
         else
          some (Stp.exit (Ou.go ()))) 0) (fun a23 =>
         some 0) some
noncomputable def m_slices_IndexFunc_Lint_int (p0 : List (Int)) (p1 : Int → Option (Bool)) : Option (Int) :=
 lpO (loopW (S := Int) (X := Ou (Unit) (Int)) (fun a1 =>
     if a1 < ((p0).length : Int) then
      (idx p0 a1).bind fun x5 =>
      (p1 x5).bind fun x7 =>
      if x7 = true then
       some (Stp.exit (Ou.ret a1))
      else
       some (Stp.next (IntKind.wrap .i64 (a1 + 1)))
     else
      some (Stp.exit (Ou.go ()))) 0) (fun a9 =>
     some (-1)) some
noncomputable def m_slices_ContainsFunc_Lint_int (p0 : List (Int)) (p1 : Int → Option (Bool)) : Option (Bool) :=
 (m_slices_IndexFunc_Lint_int p0 p1).bind fun x1 =>
 some (decide (0 ≤ x1))
noncomputable def m_merging_inputs_1 (p0 : Int) (c0 : TWordsMerges) : Option (Bool) :=
 jp (fun (a1 : Bool) =>
   some a1)
   fun k3 =>
  if p0 < 0 then
   k3 true
  else
   k3 (decide (((c0.1).length : Int) ≤ p0))
noncomputable def m_merging_inputs (p0 : TWordsMerges) (p1 : TLabelsStatesEdges) (p2 : List (Int)) : Option (Int) :=
 (m_merging_Check p0 p1).bind fun x1 =>
 if x1 ≠ 0 then
  some 1
 else
  (m_slices_ContainsFunc_Lint_int p2 (fun b0 => m_merging_inputs_1 b0 p0)).bind fun x3 =>
  if x3 = true then
   some 2
  else
   some 0
noncomputable def m_runs_Disparity (p0 : List UInt8) : Option (Int × Int) :=
 (m_word_Check 2 p0).bind fun x1 =>
 if x1 ≠ 0 then
  some (0, x1)
 else
  (m_strings_Count p0 [49]).bind fun x3 =>
  some (IntKind.wrap .i64 ((IntKind.wrap .i64 (2 * x3)) - ((p0).length : Int)), 0)
noncomputable def m_merging_weight (p0 : List UInt8) : Option (Int) :=
 (m_runs_Disparity p0).bind fun x1 =>
 some x1.1
noncomputable def m_merging_step (p0 : TLabelsStatesEdges) (p1 : List (Int)) (p2 : List UInt8) : Option ((List (Int))) :=
 (loopW (S := (List Int) × Int) (X := (List Int)) (fun a1 =>
     if a1.2 < ((p2).length : Int) then
      (idx p2 a1.2).bind fun x5 =>
      (m_strings_IndexByte [48, 49, 50, 51, 52, 53, 54, 55, 56, 57, 97, 98, 99, 100, 101, 102] (x5.toNat : Int)).bind fun x7 =>
      (m_graph_Step p0 a1.1 x7).bind fun x9 =>
      some (Stp.next (x9.1, IntKind.wrap .i64 (a1.2 + 1)))
     else
      some (Stp.exit a1.1)) (p1, 0)).bind fun a11 =>
 some a11
noncomputable def m_merging_Encode (p0 : TWordsMerges) (p1 : TLabelsStatesEdges) (p2 : List (Int)) : Option ((List UInt8) × Int) :=
 (m_merging_inputs p0 p1 p2).bind fun x1 =>
 if x1 ≠ 0 then
  some (([] : List UInt8), x1)
 else
  if ((p2).length : Int) = 0 then
   some (([] : List UInt8), 0)
  else
   (idx p0.1 0).bind fun x3 =>
   (idx p0.2 0).bind fun x5 =>
   if (IntKind.wrap .i64 (((x3).length : Int) + ((x5).length : Int))) ≠ 0 then
    if (IntKind.wrap .i64 (Int.tdiv (IntKind.wrap .i64 (65536 + ((x5).length : Int))) (IntKind.wrap .i64 (((x3).length : Int) + ((x5).length : Int))))) < ((p2).length : Int) then
     some (([] : List UInt8), 4)
    else
     if 0 ≤ (p1.2.1 : Int) ∧ (p1.2.1 : Int) ≤ p1.2.1 ∧ (p1.2.1 : Int) * 8 ≤ 281474976710656 then
      (loopW (S := Int × (List Int)) (X := (List Int)) (fun a11 =>
          if a11.1 < (((List.replicate (p1.2.1).toNat (0 : Int)).length : Nat) : Int) then
           (idx a11.2 a11.1).bind fun x15 =>
           some (Stp.next (IntKind.wrap .i64 (a11.1 + 1), (a11.2).set (a11.1).toNat a11.1))
          else
           some (Stp.exit a11.2)) (0, List.replicate (p1.2.1).toNat (0 : Int))).bind fun a17 =>
      (idx p2 0).bind fun x22 =>
      (idx p0.1 x22).bind fun x24 =>
      jp (fun (a26 : (List Int) × Int) =>
        if 0 ≤ (1 : Int) ∧ (1 : Int) ≤ ((p2).length : Int) ∧ ((p2).length : Int) ≤ (p2.length : Int) then
         lpO (loopW (S := Int × (List Int) × (List UInt8) × Int) (X := Ou ((List UInt8)) ((List UInt8) × Int)) (fun a30 =>
             if a30.1 < (((p2.take (((p2).length : Int)).toNat).drop (1 : Int).toNat).length : Int) then
              (idx ((p2.take (((p2).length : Int)).toNat).drop (1 : Int).toNat) a30.1).bind fun x34 =>
              jp (fun (a37 : (List UInt8) × Bool) =>
                if (!a37.2) = true then
                 some (Stp.exit (Ou.ret (([] : List UInt8), 13)))
                else
                 (idx p0.1 x34).bind fun x40 =>
                 if a37.1.length + x40.length ≤ maxLen then
                  jp (fun (a43 : (List Int) × Int) =>
                    some (Stp.next (IntKind.wrap .i64 (a30.1 + 1), a43.1, a30.2.2.1 ++ (a37.1 ++ x40), a43.2)))
                    fun k45 =>
                   if fits 1 (a30.2.2.1.length + (a37.1 ++ x40).length) then
                    (m_merging_weight (a37.1 ++ x40)).bind fun x48 =>
                    (m_merging_step p1 a30.2.1 (a37.1 ++ x40)).bind fun x50 =>
                    k45 (x50, IntKind.wrap .i64 (a30.2.2.2 + x48))
                   else none
                 else none)
                fun k39 =>
               (loopW (S := (List UInt8) × Int × Bool × Int) (X := (List UInt8) × Bool) (fun a52 =>
                   if a52.2.2.2 < ((p0.2).length : Int) then
                    jp (fun (a56 : (List UInt8) × Int × Bool) =>
                      some (Stp.next (a56.1, a56.2.1, a56.2.2, IntKind.wrap .i64 (a52.2.2.2 + 1))))
                      fun k58 =>
                     (idx p0.2 a52.2.2.2).bind fun x59 =>
                     jp (fun (a61 : Int × Bool) =>
                       jp (fun (a64 : Bool) =>
                         if a64 = true then
                          k58 (x59, a61.1, true)
                         else
                          k58 (a52.1, a52.2.1, a52.2.2.1))
                         fun k66 =>
                        if a61.2 = true then
                         if (!a52.2.2.1) = true then
                          k66 true
                         else
                          k66 (decide (a61.1 < a52.2.1))
                        else
                         k66 false)
                       fun k63 =>
                      (idx p0.1 x34).bind fun x69 =>
                      if x59.length + x69.length ≤ maxLen then
                       (m_merging_weight (x59 ++ x69)).bind fun x72 =>
                       (idx p0.1 x34).bind fun x74 =>
                       if x59.length + x74.length ≤ maxLen then
                        (m_merging_step p1 a30.2.1 (x59 ++ x74)).bind fun x77 =>
                        k63 (max (IntKind.wrap .i64 (a30.2.2.2 + x72)) (IntKind.wrap .i64 (0 - (IntKind.wrap .i64 (a30.2.2.2 + x72)))), decide (0 < ((x77).length : Int)))
                       else none
                      else none
                   else
                    some (Stp.exit (a52.1, a52.2.2.1))) (([] : List UInt8), 0, false, 0)).bind fun a79 =>
               k39 (a79.1, a79.2)
             else
              some (Stp.exit (Ou.go a30.2.2.1))) (0, a26.1, ([] : List UInt8) ++ x24, a26.2)) (fun a81 =>
             some (a81, 0)) some
        else none)
        fun k28 =>
       if fits 1 (([] : List UInt8).length + x24.length) then
        (m_merging_weight x24).bind fun x86 =>
        (m_merging_step p1 a17 x24).bind fun x88 =>
        k28 (x88, IntKind.wrap .i64 (0 + x86))
       else none
     else none
   else none
noncomputable def m_slices_Index_Lstring_string (p0 : List (List UInt8)) (p1 : List UInt8) : Option (Int) :=
 lpO (loopW (S := Int) (X := Ou (Unit) (Int)) (fun a1 =>
   if a1 < ((p0).length : Int) then
    (idx p0 a1).bind fun x5 =>
    if p1 = x5 then
     some (Stp.exit (Ou.ret a1))
    else
     some (Stp.next (IntKind.wrap .i64 (a1 + 1)))
   else
    some (Stp.exit (Ou.go ()))) 0) (fun a7 =>
   some (-1)) some
noncomputable def m_slices_Contains_Lstring_string (p0 : List (List UInt8)) (p1 : List UInt8) : Option (Bool) :=
 (m_slices_Index_Lstring_string p0 p1).bind fun x1 =>
 some (decide (0 ≤ x1))
noncomputable def m_ref31_Great (p0 : TWordsMerges) : Option (Bool) :=
 jp (fun (a1 : Bool) =>
   if a1 = true then
    some true
   else
    lpO (loopW (S := Int) (X := Ou (Unit) (Bool)) (fun a4 =>
        if a4 < ((p0.1).length : Int) then
         jp (fun (a8 : Bool) =>
           if a8 = true then
            some (Stp.exit (Ou.ret true))
           else
            some (Stp.next (IntKind.wrap .i64 (a4 + 1))))
           fun k10 =>
          (idx p0.1 a4).bind fun x11 =>
          if 8 < ((x11).length : Int) then
           (idx p0.1 a4).bind fun x13 =>
           if ((x13).length : Int) ≤ 16 then
            k10 true
           else
            (idx p0.1 a4).bind fun x15 =>
            k10 (decide (20 < ((x15).length : Int)))
          else
           (idx p0.1 a4).bind fun x18 =>
           k10 (decide (20 < ((x18).length : Int)))
        else
         some (Stp.exit (Ou.go ()))) 0) (fun a21 =>
        lpO (loopW (S := Int) (X := Ou (Unit) (Bool)) (fun a23 =>
            if a23 < ((p0.2).length : Int) then
             jp (fun (a27 : Bool) =>
               if a27 = true then
                some (Stp.exit (Ou.ret true))
               else
                some (Stp.next (IntKind.wrap .i64 (a23 + 1))))
               fun k29 =>
              (idx p0.2 a23).bind fun x30 =>
              if 8 < ((x30).length : Int) then
               (idx p0.2 a23).bind fun x32 =>
               if ((x32).length : Int) ≤ 16 then
                k29 true
               else
                (idx p0.2 a23).bind fun x34 =>
                k29 (decide (20 < ((x34).length : Int)))
              else
               (idx p0.2 a23).bind fun x37 =>
               k29 (decide (20 < ((x37).length : Int)))
            else
             some (Stp.exit (Ou.go ()))) 0) (fun a40 =>
            some false) some) some)
   fun k3 =>
  if 6 < ((p0.1).length : Int) then
   if ((p0.1).length : Int) ≤ 256 then
    k3 true
   else
    if 8 < ((p0.2).length : Int) then
     if ((p0.2).length : Int) ≤ 256 then
      k3 true
     else
      if 259 < ((p0.1).length : Int) then
       k3 true
      else
       k3 (decide (259 < ((p0.2).length : Int)))
    else
     if 259 < ((p0.1).length : Int) then
      k3 true
     else
      k3 (decide (259 < ((p0.2).length : Int)))
  else
   if 8 < ((p0.2).length : Int) then
    if ((p0.2).length : Int) ≤ 256 then
     k3 true
    else
     if 259 < ((p0.1).length : Int) then
      k3 true
     else
      k3 (decide (259 < ((p0.2).length : Int)))
   else
    if 259 < ((p0.1).length : Int) then
     k3 true
    else
     k3 (decide (259 < ((p0.2).length : Int)))
noncomputable def m_law31_list (p0 : TWordsMerges) (p1 : List (Int)) : Option ((List (Int))) :=
 if 0 ≤ (0 : Int) ∧ (0 : Int) ≤ min ((p1).length : Int) 8 ∧ min ((p1).length : Int) 8 ≤ (p1.length : Int) then
  (loopW (S := Int × (List Int)) (X := (List Int)) (fun a2 =>
      if a2.1 < (((p1.take (min ((p1).length : Int) 8).toNat).drop (0 : Int).toNat).length : Int) then
       (idx ((p1.take (min ((p1).length : Int) 8).toNat).drop (0 : Int).toNat) a2.1).bind fun x6 =>
       if ((p0.1).length : Int) ≠ 0 then
        if fits 8 ((a2.2 : List Int).length + ([Int.tmod (IntKind.wrap .i64 x6) ((p0.1).length : Int)]).length) then
         some (Stp.next (IntKind.wrap .i64 (a2.1 + 1), a2.2 ++ [Int.tmod (IntKind.wrap .i64 x6) ((p0.1).length : Int)]))
        else none
       else none
      else
       some (Stp.exit a2.2)) (0, ([] : List Int))).bind fun a12 =>
  some a12
 else none
noncomputable def m_internal_stringslite_HasPrefix (p0 : List UInt8) (p1 : List UInt8) : Option (Bool) :=
 jp (fun (a1 : Bool) =>
   some a1)
   fun k3 =>
  if ((p1).length : Int) ≤ ((p0).length : Int) then
   if 0 ≤ (0 : Int) ∧ (0 : Int) ≤ ((p1).length : Int) ∧ ((p1).length : Int) ≤ (p0.length : Int) then
    k3 (decide (((p0.take (((p1).length : Int)).toNat).drop (0 : Int).toNat) = p1))
   else none
  else
   k3 false
noncomputable def m_strings_HasPrefix (p0 : List UInt8) (p1 : List UInt8) : Option (Bool) :=
 (m_internal_stringslite_HasPrefix p0 p1).bind fun x1 =>
 some x1
noncomputable def m_merging_Decode (p0 : TWordsMerges) (p1 : List UInt8) : Option ((List (Int)) × Int) :=
 (m_merging_form p0).bind fun x1 =>
 if x1 ≠ 0 then
  some ([], 1)
 else
  if p1 = ([] : List UInt8) then
   some ([], 0)
  else
   (idx p0.1 0).bind fun x3 =>
   (idx p0.2 0).bind fun x5 =>
   if (IntKind.wrap .i64 (((x3).length : Int) + ((x5).length : Int))) ≠ 0 then
    if (Int.tmod (IntKind.wrap .i64 (((p1).length : Int) + ((x5).length : Int))) (IntKind.wrap .i64 (((x3).length : Int) + ((x5).length : Int)))) ≠ 0 then
     some ([], 11)
    else
     lpO (loopW (S := (List UInt8) × (List Int)) (X := Ou ((List Int)) ((List (Int)) × Int)) (fun a8 =>
         if a8.1 ≠ ([] : List UInt8) then
          jp (fun (a12 : (List UInt8)) =>
            if 0 ≤ (0 : Int) ∧ (0 : Int) ≤ ((x3).length : Int) ∧ ((x3).length : Int) ≤ (a12.length : Int) then
             (m_slices_Index_Lstring_string p0.1 ((a12.take (((x3).length : Int)).toNat).drop (0 : Int).toNat)).bind fun x16 =>
             if x16 < 0 then
              some (Stp.exit (Ou.ret ([], 13)))
             else
              if fits 8 ((a8.2 : List Int).length + ([x16]).length) then
               if 0 ≤ (((x3).length : Int) : Int) ∧ (((x3).length : Int) : Int) ≤ ((a12).length : Int) ∧ ((a12).length : Int) ≤ (a12.length : Int) then
                some (Stp.next ((a12.take (((a12).length : Int)).toNat).drop (((x3).length : Int)).toNat, a8.2 ++ [x16]))
               else none
              else none
            else none)
            fun k14 =>
           if 0 < (((a8.2).length : Nat) : Int) then
            if 0 ≤ (0 : Int) ∧ (0 : Int) ≤ ((x5).length : Int) ∧ ((x5).length : Int) ≤ (a8.1.length : Int) then
             (m_slices_Contains_Lstring_string p0.2 ((a8.1.take (((x5).length : Int)).toNat).drop (0 : Int).toNat)).bind fun x20 =>
             if (!x20) = true then
              some (Stp.exit (Ou.ret ([], 13)))
             else
              if 0 ≤ (((x5).length : Int) : Int) ∧ (((x5).length : Int) : Int) ≤ ((a8.1).length : Int) ∧ ((a8.1).length : Int) ≤ (a8.1.length : Int) then
               k14 ((a8.1.take (((a8.1).length : Int)).toNat).drop (((x5).length : Int)).toNat)
              else none
            else none
           else
            k14 a8.1
         else
          some (Stp.exit (Ou.go a8.2))) (p1, ([] : List Int))) (fun a24 =>
         some (a24, 0)) some
   else none
abbrev TLettersWords := Int × (List (List UInt8))
abbrev TCReach := TLettersWords × (Nat × Nat)
abbrev TFirstSecond := (List UInt8) × (List UInt8)
abbrev cFirstSecond (x : TFirstSecond) : List HV := [HV.str x.1, HV.str x.2]
abbrev eFirstSecond : EncL TFirstSecond := encF 2 cFirstSecond (fun _ => rfl)
noncomputable def m_delay_rests (p0 : TLettersWords) (p1 : List UInt8) (p2 : Int) : Option ((List (List UInt8))) :=
 if p1 ≠ ([] : List UInt8) then
  (idx p1 0).bind fun x1 =>
  if (x1.toNat : Int) ≠ p2 then
   some []
  else
   if 0 ≤ (1 : Int) ∧ (1 : Int) ≤ ((p1).length : Int) ∧ ((p1).length : Int) ≤ (p1.length : Int) then
    some [(p1.take (((p1).length : Int)).toNat).drop (1 : Int).toNat]
   else none
 else
  (loopW (S := Int × (List (List UInt8))) (X := (List (List UInt8))) (fun a4 =>
      if a4.1 < ((p0.2).length : Int) then
       jp (fun (a8 : (List (List UInt8))) =>
         some (Stp.next (IntKind.wrap .i64 (a4.1 + 1), a8)))
         fun k10 =>
        (idx p0.2 a4.1).bind fun x11 =>
        (idx x11 0).bind fun x13 =>
        if (x13.toNat : Int) = p2 then
         if 0 ≤ (1 : Int) ∧ (1 : Int) ≤ ((x11).length : Int) ∧ ((x11).length : Int) ≤ (x11.length : Int) then
          if fits 16 ((a4.2 : List (List UInt8)).length + ([(x11.take (((x11).length : Int)).toNat).drop (1 : Int).toNat]).length) then
           k10 (a4.2 ++ [(x11.take (((x11).length : Int)).toNat).drop (1 : Int).toNat])
          else none
         else none
        else
         k10 a4.2
      else
       some (Stp.exit a4.2)) (0, ([] : List (List UInt8)))).bind fun a19 =>
  some a19
noncomputable def m_delay_races_after (p0 : TCReach) (p1 : TFirstSecond) (p2 : Int) : Option ((List (TFirstSecond))) :=
 (m_delay_rests (p0.1.1, p0.1.2) p1.1 p2).bind fun x1 =>
 (loopW (S := Int × (List TFirstSecond)) (X := (List TFirstSecond)) (fun a3 =>
     if a3.1 < ((x1).length : Int) then
      (idx x1 a3.1).bind fun x7 =>
      (m_delay_rests (p0.1.1, p0.1.2) p1.2 p2).bind fun x9 =>
      (loopW (S := Int × (List TFirstSecond)) (X := (List TFirstSecond)) (fun a11 =>
          if a11.1 < ((x9).length : Int) then
           (idx x9 a11.1).bind fun x15 =>
           if fits 32 ((a11.2 : List TFirstSecond).length + ([(x7, x15)]).length) then
            some (Stp.next (IntKind.wrap .i64 (a11.1 + 1), a11.2 ++ [(x7, x15)]))
           else none
          else
           some (Stp.exit a11.2)) (0, a3.2)).bind fun a19 =>
      some (Stp.next (IntKind.wrap .i64 (a3.1 + 1), a19))
     else
      some (Stp.exit a3.2)) (0, ([] : List TFirstSecond))).bind fun a22 =>
 some a22
theorem SR.frzH {w : World} {μ : Mu} {H D H' : Heap} (n : Nat) (h : SR w μ H) (hD : ∀ id x, hget D id = some x → hget H id = some x ∧ hget H' id = none)
  (hs : ∀ id ver o, hget H' id = some (ver, o) → hget H id = some (ver, o) ∨ ∃ k e cs, hget H id = some (ver, .arr k e cs) ∧ o = .arr k e (cs.map (frz n D))) : SR w (μ.cut H') H' where
 ok := fun id ver b hb => h.ok id ver b (Mu.cut_some hb)
 has := fun id ver o ho => by
  rcases hs id ver o ho with h1 | ⟨k, e, cs, h1, rfl⟩
  ·obtain ⟨l, hl, hor⟩ := h.has id ver o h1
   exact ⟨l, by simp [Mu.cut, ho, hl], hor.evo (Evo.cut w μ H') h.ok (fun _ _ => rfl) (fun _ _ _ _ _ _ _ _ => rfl)⟩
  obtain ⟨l, hl, hor⟩ := h.has id ver _ h1
  refine ⟨l, by simp [Mu.cut, ho, hl], ?_⟩
  cases l with
  | none =>
   have : cs = [] := hor
   subst this
   exact (rfl : ([] : List HV).map (frz n D) = [])
  | some b =>
   obtain ⟨h0, cur, vs, rest, hrow, hcl, hrl⟩ := hor
   exact ⟨ones_frz h0, cur, vs, rest, hrow, hcl, RepL.mapF (fun c x _ => frz_rep h hD n c x) hrl⟩
 only := fun id x hx => by
  simp only [Mu.cut] at hx
  split at hx
  ·rename_i hi; exact Option.isSome_iff_exists.1 hi
  cases hx
 inj := fun i j v u b hi hj => h.inj i j v u b (Mu.cut_some hi) (Mu.cut_some hj)
 held := fun b hb => ⟨(h.held b hb).1, fun ⟨id, ver, hl⟩ => (h.held b hb).2 ⟨id, ver, Mu.cut_some hl⟩⟩
def leO (n : Nat) (D : Heap) (l : Heap) : Heap → Prop
 | [] => True
 | (i, v, o) :: l' => (hget l i = some (v, o) ∨ ∃ k e cs, hget l i = some (v, .arr k e cs) ∧ o = .arr k e (cs.map (frz n D))) ∧ leO n D l l'
theorem leO_get {n : Nat} {D l : Heap} : ∀ {l' : Heap}, leO n D l l' → ∀ t v o, hget l' t = some (v, o) → hget l t = some (v, o) ∨ ∃ k e cs, hget l t = some (v, .arr k e cs) ∧ o = .arr k e (cs.map (frz n D))
 | [], _, _, _, _, h => by cases h
 | (i, g, u) :: l', h, t, v, o, ht => by
  simp only [hget] at ht
  split at ht
  ·rename_i e; subst e; cases ht; exact h.1
  exact leO_get h.2 t v o ht
theorem to_fill {s : AS} {G : AS → Prop} (n : Nat) (D : Heap) (s' : AS) (h1 : leF n D s.slots s'.slots) (h2 : leO n D s.heap s'.heap) (h3 : leH s.heap D) (h4 : noneH s'.heap D) (h : G s') : s.to G := by
 intro ro N B μ a w hs
 have hD : ∀ id x, hget D id = some x → hget s.heap id = some x ∧ hget s'.heap id = none := fun id x hx => ⟨leH_get h3 id x hx, noneH_get h4 id x hx⟩
 refine ⟨μ.cut s'.heap, s', h, ⟨hs.size, hs.sr.frzH n hD (leO_get h2), fun t hv ht => ?_, hs.marks.evo (Evo.cut w μ s'.heap), hs.ro.evo (Evo.cut w μ s'.heap)⟩, Evo.cut w μ s'.heap⟩
 obtain ⟨g, hg, rfl⟩ := leF_get h1 t hv ht
 exact ⟨(hs.slot t g hg).1, frz_rep hs.sr hD n g _ (hs.slot t g hg).2⟩
theorem LeL.ones : ∀ {aa bs : List HV} (_ : LeL aa bs), ones aa → ones bs
 | _, _, .nil, h => h
 | _, _, .cons h h', h0 => fun c hc => by
  rcases List.mem_cons.1 hc with rfl | hc
  ·have := h0 _ (List.mem_cons_self ..)
   cases h with
   | refl => exact this
   | nil => rfl
   | empty => rfl
  exact LeL.ones h' (fun d hd => h0 d (List.mem_cons_of_mem _ hd)) c hc
section
variable {P : Program} {ro : Option Nat} {N : Nat} {all : Array Oper} {s : AS} {rest : List Oper} {o : Oper} {K : AS → Prop} {fid : Nat} {sl : List (Nat × HV)} {H : Heap}
theorem AOps.to {is : List Nat} (h : s.to (AOps P ro N all is K)) : AOps P ro N all is K s := fun w0 μ0 μ a w Q hs hE hK => by
 obtain ⟨μ1, t, ht, hs1, E1⟩ := h ro N w0.heap.size μ a w hs
 exact ht w0 μ0 μ1 a w Q hs1 (hE.trans E1) hK
theorem b_to {l : List Oper} (h : s.to (bops P ro N all l K)) : bops P ro N all l K s := fun hok i hi => AOps.to (to_mono h fun t ht => ht hok i hi)
end
open Go.Proofs
set_option maxHeartbeats 1600000
set_option maxRecDepth 100000
theorem w_delay_rests {p0 : TLettersWords} {p1 : List UInt8} {p2 : Int} {r : (List (List UInt8))} (h : m_delay_rests p0 p1 p2 = some r) : Pure Tryz.prog 90 [.agg [hI p0.1, slE eStr p0.2], .str p1, .int .u8 p2] (· = slE eStr r) := by
 unfold m_delay_rests at h
 refine Pure.of_body Tryz.func90 rfl rfl (lb rfl) fun hf => ?_
 unfold Tryz.f90
 dsimp only [enumS, Nat.reduceAdd]
 refine AW.rgs rfl fun K hK => b_op rfl (o_box rfl rfl rfl ?_)
 refine mv rfl rfl ?_
 let E1 : Nat × HV := (3, .fptr [hI p0.1, slE eStr p0.2] 0)
 refine bf hK ⟨[(1, .str p1), (2, .int .u8 p2), E1], []⟩ ?_
 refine AW.seq ?_
 refine AW.rgs rfl fun K hK => mv rfl rfl (bv rfl (v_bin rfl rfl b_sneq) ?_)
 refine bf hK ⟨[(1, .str p1), (2, .int .u8 p2), E1, (11, .bool (decide (p1 ≠ nS)))], []⟩ ?_
 refine AW.cond rfl (fun hc => ?_) (fun hc => ?_)
 ·obtain ⟨hc, h⟩ := cT hc h
  refine AW.seq ?_
  refine AW.rgs rfl fun K hK => mv rfl rfl ?_
  obtain ⟨x1, h2, h⟩ := bS h
  refine bv rfl (v_idxS ty9 rfl rfl h2) (mv rfl rfl (bv rfl (v_bin rfl rfl b_neq) ?_))
  refine bf hK ⟨[(1, .str p1), (15, .bool (decide ((x1.toNat : Int) ≠ p2)))], []⟩ ?_
  refine AW.cond rfl (fun hc => ?_) (fun hc => ?_)
  ·obtain ⟨hc, h⟩ := cT hc h
   refine AW.rgs rfl fun K hK => mv rfl rfl ?_
   refine bf hK ⟨[(6, .v (.slice none 0 0))], []⟩ ?_
   refine AW.to (to_weak ⟨[(6, slE eStr ([] : List (List UInt8)))], []⟩ ⟨⟨_, rfl, .nil _⟩, trivial⟩ trivial ?_)
   obtain rfl := oi h
   exact AW.ret (ret_pure (.inr rfl) (resT rfl rfl) rfl (clean_slE fun _ _ => ⟨trivial, trivial⟩))
  obtain ⟨hc, h⟩ := cF hc h
  refine AW.skip ?_
  refine AW.rgs rfl fun K hK => mv rfl rfl ?_
  obtain ⟨h3, h⟩ := ifN h
  refine bv rfl (v_sliceS ty9 rfl rfl rfl h3) ?_
  refine b_op rfl (o_bsl rfl rfl (as_of (cs := [.str ((p1.take (((p1).length : Int)).toNat).drop (1 : Int).toNat)]) ty22 ty9 rfl rfl rfl rfl rfl) ?_)
  refine mv rfl rfl ?_
  refine bf hK ⟨[(6, slE eStr [(p1.take (((p1).length : Int)).toNat).drop (1 : Int).toNat])], []⟩ ?_
  obtain rfl := oi h
  exact AW.ret (ret_pure (.inr rfl) (resT rfl rfl) rfl (clean_slE fun _ _ => ⟨trivial, trivial⟩))
 obtain ⟨hc, h⟩ := cF hc h
 refine AW.skip ?_
 refine AW.rgs rfl fun K hK => mv rfl rfl ?_
 let P1 : ASf := fun t H => ⟨(2, .int .u8 p2) :: t, H⟩
 refine bf hK (P1 [E1, (7, .v (.slice none 0 0))] []) ?_
 refine AW.seq ?_
 refine AW.rgs rfl fun K hK => bv rfl (v_fieldAddrF fo65_1 rfl) (bv rfl (v_loadF ty22 rfl (l_lit rfl rfl)) (bv rfl (v_lenF rfl rfl ty22 rfl) (mv rfl rfl ?_)))
 let E2 : Nat × HV := (21, hI ((p0.2).length : Int))
 refine bf hK (P1 [(7, .v (.slice none 0 0)), (20, slE eStr p0.2), E2, (22, hI 0)] []) ?_
 refine AW.lpX h (by first | exact up_then | exact up_to) (S := Int × (List (List UInt8))) (V := Nat) (fun a v => (P1 [(7, .ar 90034 v eStr.k 0 ((a.2).length)), (20, slE eStr p0.2), E2, (22, hI a.1)] [(90034, v, .arr eStr.k 9 (eStr.E a.2))])) ?_ (X := (List (List UInt8))) (W := Nat) (fun a v => ⟨[(7, .ar 90034 v eStr.k 0 ((a).length))], [(90034, v, .arr eStr.k 9 (eStr.E a))]⟩) (fun a19 w20 h => ?_) (fun a4 w5 st6 h => ?_)
 ·refine to_bind (to_own 90034 7 eStr.k 9 rfl fun v18 => ?_)
  exact to_le (s' := (P1 [(7, .ar 90034 v18 eStr.k 0 ((([] : List (List UInt8))).length)), (20, slE eStr p0.2), E2, (22, hI 0)] [(90034, v18, .arr eStr.k 9 (eStr.E ([] : List (List UInt8))))])) (AS.le_of ⟨rfl, arl (by first | rfl | simp only [List.length_set, sortI_len, sortS_len, List.length_reverse]), rfl, rfl, rfl, trivial⟩ ⟨rfl, trivial⟩) ⟨v18, rfl⟩
 ·refine AW.rgs rfl fun K hK => mv rfl rfl (mv rfl rfl ?_)
  refine bf hK ⟨[(6, .ar 90034 w20 eStr.k 0 ((a19).length))], [(90034, w20, .arr eStr.k 9 (eStr.E a19))]⟩ ?_
  refine AW.to (to_frz 2 [(90034, w20, .arr eStr.k 9 (eStr.E a19))] ⟨[(6, slE eStr a19)], []⟩ ⟨⟨_, rfl, frz_slE eStr (l := a19) rfl fun _ _ => rfl⟩, trivial⟩ trivial ⟨rfl, trivial⟩ ⟨rfl, trivial⟩ ?_)
  obtain rfl := oi h
  exact AW.ret (ret_pure (.inr rfl) (resT rfl rfl) rfl (clean_slE fun _ _ => ⟨trivial, trivial⟩))
 refine AW.rgs rfl fun K hK => bv rfl (v_bin rfl rfl b_lss) ?_
 let E3 : Nat × HV := (7, .ar 90034 w5 eStr.k 0 ((a4.2).length))
 let O4 : Nat × Nat × AObj := (90034, w5, .arr eStr.k 9 (eStr.E a4.2))
 refine bf hK (P1 [E3, (20, slE eStr p0.2), E2, (22, hI a4.1), (23, .bool (decide (a4.1 < ((p0.2).length : Int))))] [O4]) ?_
 refine AW.cseq rfl (fun hc => ?_) (fun hc => ?_)
 ·obtain ⟨hc, h⟩ := cT hc h
  refine AW.skip ?_
  refine AW.seqJ h (S := (List (List UInt8))) (V := Nat) (fun a v => (P1 [(7, .ar 90034 v eStr.k 0 ((a).length)), (20, slE eStr p0.2), E2, (22, hI a4.1)] [(90034, v, .arr eStr.k 9 (eStr.E a))])) (fun a8 w9 h => ?_) (fun k10 h => ?_)
  ·refine AW.rg rfl fun K hK => bv rfl (v_bin rfl rfl b_add) (mv rfl rfl ?_)
   refine b_nil (hK _ ?_)
   exact to_L ⟨(IntKind.wrap .i64 (a4.1 + 1), a8), w9, h, rfl⟩
  refine AW.block ?_
  refine AW.rgs rfl fun K hK => ?_
  obtain ⟨x11, h12, h⟩ := bS h
  refine bv rfl (v_idxF ty22 es22 rfl rfl (idx_lt h12)) (bv rfl (v_loadF ty9 rfl (l_cell eStr h12 (o := 0) rfl rfl)) (mv rfl rfl ?_))
  refine bf hK (P1 [E3, (9, .str x11), (20, slE eStr p0.2), E2, (22, hI a4.1)] [O4]) ?_
  refine AW.rgs rfl fun K hK => mv rfl rfl ?_
  obtain ⟨x13, h14, h⟩ := bS h
  refine bv rfl (v_idxS ty9 rfl rfl h14) (mv rfl rfl (bv rfl (v_bin rfl rfl b_eql) ?_))
  refine bf hK (P1 [E3, (9, .str x11), (20, slE eStr p0.2), E2, (22, hI a4.1), (29, .bool (decide ((x13.toNat : Int) = p2)))] [O4]) ?_
  refine AW.cond rfl (fun hc => ?_) (fun hc => ?_)
  ·obtain ⟨hc, h⟩ := cT hc h
   refine AW.rg rfl fun K hK => mv rfl rfl (mv rfl rfl ?_)
   obtain ⟨h15, h⟩ := ifN h
   refine bv rfl (v_sliceS ty9 rfl rfl rfl h15) ?_
   refine b_op rfl (o_bsl rfl rfl (as_of (cs := [.str ((x11.take (((x11).length : Int)).toNat).drop (1 : Int).toNat)]) ty22 ty9 rfl rfl rfl rfl rfl) ?_)
   obtain ⟨h17, h⟩ := ifN h
   refine b_op rfl (o_appE eStr (l := a4.2) (m := [(x11.take (((x11).length : Int)).toNat).drop (1 : Int).toNat]) rfl rfl ty22 ty22 ty9 rfl rfl rfl rfl rfl h17 (fun v16 => ?_))
   refine mv rfl rfl ?_
   refine b_nil (hK _ ?_)
   exact to_L ⟨a4.2 ++ [(x11.take (((x11).length : Int)).toNat).drop (1 : Int).toNat], v16, h, rfl⟩
  obtain ⟨hc, h⟩ := cF hc h
  refine AW.skip ?_
  exact to_L ⟨a4.2, w5, h, rfl⟩
 obtain ⟨hc, h⟩ := cF hc h
 refine AW.exit ?_
 exact to_L ⟨a4.2, w5, h, rfl⟩
theorem w_delay_races_after {p0 : TCReach} {p1 : TFirstSecond} {p2 : Int} {r : (List (TFirstSecond))} (h : m_delay_races_after p0 p1 p2 = some r) : Pure Tryz.prog 88 [.agg [hI p0.1.1, slE eStr p0.1.2, .mp p0.2.1 p0.2.2], .agg [.str p1.1, .str p1.2], .int .u8 p2] (· = slE eFirstSecond r) := by
 unfold m_delay_races_after at h
 refine Pure.of_body Tryz.func88 rfl rfl (lb rfl) fun hf => ?_
 unfold Tryz.f88
 dsimp only [enumS, Nat.reduceAdd]
 refine AW.rgs rfl fun K hK => b_op rfl (o_box rfl rfl rfl ?_)
 refine b_op rfl (o_box rfl rfl rfl ?_)
 refine mv rfl rfl ?_
 let E5 : Nat × HV := (3, .fptr [hI p0.1.1, slE eStr p0.1.2, .mp p0.2.1 p0.2.2] 0)
 let E6 : Nat × HV := (4, .fptr [.str p1.1, .str p1.2] 0)
 let P2 : ASf := fun t H => ⟨(2, .int .u8 p2) :: E5 :: E6 :: t, H⟩
 refine bf hK (P2 [] []) ?_
 refine AW.rgs rfl fun K hK => mv rfl rfl ?_
 refine bf hK (P2 [(7, .v (.slice none 0 0))] []) ?_
 refine AW.seq ?_
 refine AW.rgs rfl fun K hK => bv rfl (v_fieldAddrF fo111_0 rfl) (bv rfl (v_loadF ty65 rfl (l_litA rfl (lb rfl) rfl)) (bv rfl (v_fieldAddrF fo116_0 rfl) (bv rfl (v_loadF ty9 rfl (l_lit rfl rfl)) (mv rfl rfl ?_))))
 obtain ⟨x1, h2, h⟩ := bS h
 refine b_op rfl (o_call rfl rfl rfl rfl (ACallD.pure0 (w_delay_rests h2)) ?_)
 refine bv rfl (v_lenF rfl rfl ty22 rfl) (mv rfl rfl ?_)
 let E7 : Nat × HV := (18, hI ((x1).length : Int))
 refine bf hK (P2 [(7, .v (.slice none 0 0)), (17, slE eStr x1), E7, (19, hI 0)] []) ?_
 refine AW.lpX h (by first | exact up_then | exact up_to) (S := Int × (List TFirstSecond)) (V := Nat) (fun a v => (P2 [(7, .ar 88039 v eFirstSecond.k 0 ((a.2).length)), (17, slE eStr x1), E7, (19, hI a.1)] [(88039, v, .arr eFirstSecond.k 116 (eFirstSecond.E a.2))])) ?_ (X := (List TFirstSecond)) (W := Nat) (fun a v => ⟨[(7, .ar 88039 v eFirstSecond.k 0 ((a).length))], [(88039, v, .arr eFirstSecond.k 116 (eFirstSecond.E a))]⟩) (fun a22 w23 h => ?_) (fun a3 w4 st5 h => ?_)
 ·refine to_bind (to_own 88039 7 eFirstSecond.k 116 rfl fun v21 => ?_)
  exact to_le (s' := (P2 [(7, .ar 88039 v21 eFirstSecond.k 0 ((([] : List TFirstSecond)).length)), (17, slE eStr x1), E7, (19, hI 0)] [(88039, v21, .arr eFirstSecond.k 116 (eFirstSecond.E ([] : List TFirstSecond)))])) (AS.le_of ⟨rfl, rfl, rfl, arl (by first | rfl | simp only [List.length_set, sortI_len, sortS_len, List.length_reverse]), rfl, rfl, rfl, trivial⟩ ⟨rfl, trivial⟩) ⟨v21, rfl⟩
 ·refine AW.rgs rfl fun K hK => mv rfl rfl (mv rfl rfl ?_)
  refine bf hK ⟨[(6, .ar 88039 w23 eFirstSecond.k 0 ((a22).length))], [(88039, w23, .arr eFirstSecond.k 116 (eFirstSecond.E a22))]⟩ ?_
  refine AW.to (to_frz 2 [(88039, w23, .arr eFirstSecond.k 116 (eFirstSecond.E a22))] ⟨[(6, slE eFirstSecond a22)], []⟩ ⟨⟨_, rfl, frz_slE eFirstSecond (l := a22) rfl fun _ _ => rfl⟩, trivial⟩ trivial ⟨rfl, trivial⟩ ⟨rfl, trivial⟩ ?_)
  obtain rfl := oi h
  exact AW.ret (ret_pure (.inr rfl) (resT rfl rfl) rfl (clean_slE fun _ _ => ⟨trivial, trivial, trivial⟩))
 refine AW.rgs rfl fun K hK => bv rfl (v_bin rfl rfl b_lss) ?_
 let E8 : Nat × HV := (7, .ar 88039 w4 eFirstSecond.k 0 ((a3.2).length))
 let O9 : Nat × Nat × AObj := (88039, w4, .arr eFirstSecond.k 116 (eFirstSecond.E a3.2))
 refine bf hK (P2 [E8, (17, slE eStr x1), E7, (19, hI a3.1), (20, .bool (decide (a3.1 < ((x1).length : Int))))] [O9]) ?_
 refine AW.cseq rfl (fun hc => ?_) (fun hc => ?_)
 ·obtain ⟨hc, h⟩ := cT hc h
  refine AW.skip ?_
  refine AW.seq (AW.block ?_)
  refine AW.rgs rfl fun K hK => ?_
  obtain ⟨x7, h8, h⟩ := bS h
  refine bv rfl (v_idxF ty22 es22 rfl rfl (idx_lt h8)) (bv rfl (v_loadF ty9 rfl (l_cell eStr h8 (o := 0) rfl rfl)) (mv rfl rfl ?_))
  refine bf hK (P2 [E8, (9, .str x7), (17, slE eStr x1), E7, (19, hI a3.1)] [O9]) ?_
  refine AW.rgs rfl fun K hK => bv rfl (v_fieldAddrF fo111_0 rfl) (bv rfl (v_loadF ty65 rfl (l_litA rfl (lb rfl) rfl)) (bv rfl (v_fieldAddrF fo116_1 rfl) (bv rfl (v_loadF ty9 rfl (l_lit rfl rfl)) (mv rfl rfl ?_))))
  obtain ⟨x9, h10, h⟩ := bS h
  refine b_op rfl (o_call rfl rfl rfl rfl (ACallD.pure0 (w_delay_rests h10)) ?_)
  refine bv rfl (v_lenF rfl rfl ty22 rfl) (mv rfl rfl ?_)
  let E10 : Nat × HV := (29, hI ((x9).length : Int))
  refine bf hK (P2 [E8, (9, .str x7), (17, slE eStr x1), E7, (19, hI a3.1), (28, slE eStr x9), E10, (30, hI 0)] [O9]) ?_
  refine AW.lpX h (by first | exact up_then | exact up_to) (S := Int × (List TFirstSecond)) (V := Nat) (fun a v => (P2 [(7, .ar 88039 v eFirstSecond.k 0 ((a.2).length)), (9, .str x7), (17, slE eStr x1), E7, (19, hI a3.1), (28, slE eStr x9), E10, (30, hI a.1)] [(88039, v, .arr eFirstSecond.k 116 (eFirstSecond.E a.2))])) ?_ (X := (List TFirstSecond)) (W := Nat) (fun a v => (P2 [(7, .ar 88039 v eFirstSecond.k 0 ((a).length)), (17, slE eStr x1), E7, (19, hI a3.1)] [(88039, v, .arr eFirstSecond.k 116 (eFirstSecond.E a))])) (fun a19 w20 h => ?_) (fun a11 w12 st13 h => ?_)
  ·exact to_L ⟨w4, rfl⟩
  ·refine AW.rg rfl fun K hK => bv rfl (v_bin rfl rfl b_add) (mv rfl rfl ?_)
   refine b_nil (hK _ ?_)
   exact to_L ⟨(IntKind.wrap .i64 (a3.1 + 1), a19), w20, h, rfl⟩
  refine AW.rgs rfl fun K hK => bv rfl (v_bin rfl rfl b_lss) ?_
  refine bf hK (P2 [(7, .ar 88039 w12 eFirstSecond.k 0 ((a11.2).length)), (9, .str x7), (17, slE eStr x1), E7, (19, hI a3.1), (28, slE eStr x9), E10, (30, hI a11.1), (31, .bool (decide (a11.1 < ((x9).length : Int))))] [(88039, w12, .arr eFirstSecond.k 116 (eFirstSecond.E a11.2))]) ?_
  refine AW.cseq rfl (fun hc => ?_) (fun hc => ?_)
  ·obtain ⟨hc, h⟩ := cT hc h
   refine AW.skip ?_
   refine AW.seq (AW.block ?_)
   refine AW.rgs rfl fun K hK => ?_
   obtain ⟨x15, h16, h⟩ := bS h
   refine bv rfl (v_idxF ty22 es22 rfl rfl (idx_lt h16)) (bv rfl (v_loadF ty9 rfl (l_cell eStr h16 (o := 0) rfl rfl)) (mv rfl rfl ?_))
   refine bf hK (P2 [(7, .ar 88039 w12 eFirstSecond.k 0 ((a11.2).length)), (9, .str x7), (11, .str x15), (17, slE eStr x1), E7, (19, hI a3.1), (28, slE eStr x9), E10, (30, hI a11.1)] [(88039, w12, .arr eFirstSecond.k 116 (eFirstSecond.E a11.2))]) ?_
   refine AW.rg rfl fun K hK => mv rfl rfl (mv rfl rfl (mv rfl rfl ?_))
   refine b_op rfl (o_build (cs := [.str x7, .str x15]) rfl (bl_of ty116 rfl rfl rfl rfl) ?_)
   refine b_op rfl (o_bsl rfl rfl (as_of (cs := [.str x7, .str x15]) ty113 ty116 rfl rfl rfl rfl rfl) ?_)
   obtain ⟨h18, h⟩ := ifN h
   refine b_op rfl (o_appE eFirstSecond (l := a11.2) (m := [(x7, x15)]) rfl rfl ty113 ty113 ty116 rfl rfl rfl rfl rfl h18 (fun v17 => ?_))
   refine mv rfl rfl ?_
   refine bf hK (P2 [(7, .ar 88039 v17 eFirstSecond.k 0 ((a11.2 ++ [(x7, x15)]).length)), (9, .str x7), (17, slE eStr x1), E7, (19, hI a3.1), (28, slE eStr x9), E10, (30, hI a11.1)] [(88039, v17, .arr eFirstSecond.k 116 (eFirstSecond.E (a11.2 ++ [(x7, x15)])))]) ?_
   refine AW.rg rfl fun K hK => bv rfl (v_bin rfl rfl b_add) (mv rfl rfl ?_)
   refine b_nil (hK _ ?_)
   exact to_L ⟨(IntKind.wrap .i64 (a11.1 + 1), a11.2 ++ [(x7, x15)]), v17, h, rfl⟩
  obtain ⟨hc, h⟩ := cF hc h
  refine AW.exit ?_
  exact to_L ⟨a11.2, w12, h, rfl⟩
 obtain ⟨hc, h⟩ := cF hc h
 refine AW.exit ?_
 exact to_L ⟨a3.2, w4, h, rfl⟩
end Go.AW

namespace Go.AW
open Go
set_option linter.unusedVariables false
abbrev TFirstSecondWord := Int × Int × (List UInt8)
abbrev cFirstSecondWord (x : TFirstSecondWord) : List HV := [HV.int .i64 x.1, HV.int .i64 x.2.1, HV.str x.2.2]
abbrev eFirstSecondWord : EncL TFirstSecondWord := encF 3 cFirstSecondWord (fun _ => rfl)
abbrev TLettersBlockBaseSwaps := Int × Int × (List (List UInt8)) × (List (TFirstSecondWord))
noncomputable def m_cmp_Or_int (p0 : List (Int)) : Option (Int) :=
 lpO (loopW (S := Int) (X := Ou (Unit) (Int)) (fun a1 =>
     if a1 < ((p0).length : Int) then
      (idx p0 a1).bind fun x5 =>
      if x5 ≠ 0 then
       some (Stp.exit (Ou.ret x5))
      else
       some (Stp.next (IntKind.wrap .i64 (a1 + 1)))
     else
      some (Stp.exit (Ou.go ()))) 0) (fun a7 =>
     some 0) some
noncomputable def m_lookahead_compare (p0 : TFirstSecondWord) (p1 : TFirstSecondWord) : Option (Int) :=
 (m_cmp_Compare_int p0.1 p1.1).bind fun x1 =>
 (m_cmp_Compare_int p0.2.1 p1.2.1).bind fun x3 =>
 (m_cmp_Or_int [x1, x3]).bind fun x5 =>
 some x5
noncomputable def m_lookahead_words (p0 : Int) (p1 : Int) (p2 : List (List UInt8)) : Option (Bool) :=
 lpO (loopW (S := Int) (X := Ou (Unit) (Bool)) (fun a1 =>
     if a1 < ((p2).length : Int) then
      (idx p2 a1).bind fun x5 =>
      jp (fun (a7 : Bool) =>
        if a7 = true then
         some (Stp.exit (Ou.ret false))
        else
         some (Stp.next (IntKind.wrap .i64 (a1 + 1))))
        fun k9 =>
       if ((x5).length : Int) ≠ p1 then
        k9 true
       else
        (m_word_Check p0 x5).bind fun x10 =>
        if x10 ≠ 0 then
         k9 true
        else
         if 0 ≤ (0 : Int) ∧ (0 : Int) ≤ a1 ∧ a1 ≤ (p2.length : Int) then
          (m_slices_Contains_Lstring_string ((p2.take (a1).toNat).drop (0 : Int).toNat) x5).bind fun x13 =>
          k9 x13
         else none
     else
      some (Stp.exit (Ou.go ()))) 0) (fun a17 =>
     some true) some
noncomputable def m_lookahead_formed (p0 : TLettersBlockBaseSwaps) : Option (Bool) :=
 jp (fun (a1 : Bool) =>
   if a1 = true then
    some false
   else
    lpO (loopW (S := Int × (List (List UInt8))) (X := Ou ((List (List UInt8))) (Bool)) (fun a4 =>
        if a4.1 < ((p0.2.2.2).length : Int) then
         (idx p0.2.2.2 a4.1).bind fun x8 =>
         jp (fun (a11 : Bool) =>
           if a11 = true then
            some (Stp.exit (Ou.ret false))
           else
            if fits 16 ((a4.2 : List (List UInt8)).length + ([x8.2.2]).length) then
             some (Stp.next (IntKind.wrap .i64 (a4.1 + 1), a4.2 ++ [x8.2.2]))
            else none)
           fun k13 =>
          if (min x8.1 x8.2.1) < 0 then
           k13 true
          else
           if ((p0.2.2.1).length : Int) ≤ (max x8.1 x8.2.1) then
            k13 true
           else
            if 0 < a4.1 then
             (idx p0.2.2.2 (IntKind.wrap .i64 (a4.1 - 1))).bind fun x16 =>
             (m_lookahead_compare x16 x8).bind fun x18 =>
             k13 (decide (0 ≤ x18))
            else
             k13 false
        else
         some (Stp.exit (Ou.go a4.2))) (0, ([] : List (List UInt8)))) (fun a24 =>
        jp (fun (a26 : Bool) =>
          some a26)
          fun k28 =>
         (m_lookahead_words p0.1 p0.2.1 p0.2.2.1).bind fun x29 =>
         if x29 = true then
          (m_lookahead_words p0.1 (IntKind.wrap .i64 (2 * p0.2.1)) a24).bind fun x31 =>
          k28 x31
         else
          k28 false) some)
   fun k3 =>
  if p0.1 < 2 then
   k3 true
  else
   if 16 < p0.1 then
    k3 true
   else
    if p0.2.1 < 1 then
     k3 true
    else
     if 8 < p0.2.1 then
      k3 true
     else
      if ((p0.2.2.1).length : Int) < 2 then
       k3 true
      else
       if 16 < ((p0.2.2.1).length : Int) then
        k3 true
       else
        k3 (decide (64 < ((p0.2.2.2).length : Int)))
noncomputable def m_lookahead_Encode_1 (p0 : Int) (c0 : TLettersBlockBaseSwaps) : Option (Bool) :=
 jp (fun (a1 : Bool) =>
   some a1)
   fun k3 =>
  if p0 < 0 then
   k3 true
  else
   k3 (decide (((c0.2.2.1).length : Int) ≤ p0))
end Go.AW
namespace Go.Proofs
open Go
theorem Tryz.bld_lies (n : Nat) (hn : 2 ≤ n) : liesAt Tryz.prog Tryz.prog.depth 69 (n / Tryz.prog.cellsOf 69) 0 69 1 = true := by
 have hc : Tryz.prog.cellsOf 69 = 2 := by kernel_rfl
 have hd : Tryz.prog.depth = (2 * (Tryz.prog.types.size + Made.depth) + 1) + 1 := rfl
 rw [hd]
 simp only [liesAt, Bool.or_eq_true]
 left
 rw [hd]
 have : 1 ≤ n / 2 := by omega
 simp [rowAt, hc, sameLayout, this]
set_option maxHeartbeats 1000000 in
set_option maxRecDepth 100000 in
theorem Tryz.copyCheck_fresh (b n : Nat) (w : World) (h0 : w.cell? ⟨b, 0, none⟩ = some (.pointer none)) (hsh : w.shape? b = some (69, n)) (hn : 2 ≤ n) (hfz : w.frozen? ⟨b, 0, none⟩ = false) :
  Calls Tryz.prog 61 #[.pointer (some ⟨b, 0, none⟩)] w fun e w' => e = .returned (.tuple #[]) ∧ w' = w.setCell ⟨b, 0, none⟩ (.pointer (some ⟨b, 0, none⟩)) := by
 obtain ⟨j, hj, hjs⟩ := Option.map_eq_some_iff.1 (show (Tryz.prog.info? 69).map (·.size) = some 2 by kernel_rfl)
 have hlies := Tryz.bld_lies n hn
 go_enter Tryz.func61, Tryz.ntmps61
 go_wp2
 rw [Lib.run_to_unsafe w ⟨b, 0, none⟩ Tryz.underlying67 Tryz.underlying142 hj (by rw [hjs]; decide) hsh (by show 0 < n; omega)]
 simp only [Result.andThen]
 rw [Oper.upon_value]
 go_wp2
 rw [run_callFunc_extern Tryz.func91 (by kernel_rfl) (by kernel_rfl) (by kernel_rfl) (e := Extern.AbiNoEscape.same) (by kernel_rfl), Lib.run_noEscape]
 simp only [Result.andThen]
 rw [Oper.upon_value]
 go_wp2
 rw [Lib.run_from_unsafe w ⟨b, 0, none⟩ Tryz.underlying142 Tryz.underlying67 hj hsh hlies]
 simp only [Result.andThen]
 rw [Oper.upon_value]
 go_wp2
 go_end0
 exact ⟨rfl, rfl⟩
set_option maxHeartbeats 1000000 in
set_option maxRecDepth 100000 in
theorem Tryz.copyCheck_used (b : Nat) (w : World) (h0 : w.cell? ⟨b, 0, none⟩ = some (.pointer (some ⟨b, 0, none⟩))) :
  Calls Tryz.prog 61 #[.pointer (some ⟨b, 0, none⟩)] w fun e w' => e = .returned (.tuple #[]) ∧ w' = w := by
 obtain ⟨j, hj, _⟩ := Option.map_eq_some_iff.1 (show (Tryz.prog.info? 69).map (·.size) = some 2 by kernel_rfl)
 go_enter Tryz.func61, Tryz.ntmps61
 go_wp2
 rw [Lib.run_neq_ptr_same w _ Tryz.underlying67 hj]
 go_wp2
 go_end0
 exact ⟨rfl, rfl⟩
end Go.Proofs
namespace Go.AW
open Go Go.Proofs Go.Lib
def bldP (u : Bool) (id ver : Nat) : HV := if u then .ptr id ver 0 else .v (.pointer none)
theorem c_copyCheck {H : Heap} {K : HV → Heap → Prop} {id ver : Nat} {u : Bool} {s : HV} (hg : hget H id = some (ver, .arr 2 69 [bldP u id ver, s])) (hK : K (.tup []) ((id, ver, .arr 2 69 [.ptr id ver 0, s]) :: H)) :
  ACall Tryz.prog 61 [.ptr id ver 0] H K := by
 refine ⟨enters' Tryz.func61 rfl rfl, fun μ w vs hs hr _ => ?_⟩
 obtain ⟨x, xs, rfl, hr, hn⟩ := hr
 cases hn
 obtain ⟨lo, hl, hor⟩ := hs.has _ _ _ hg
 have hle : ∀ ob j (y : Nat × AObj), hget ((id, ver, ob) :: H) j = some y ↔ hget (hset H id ver ob) j = some y := fun ob j y => by simp only [hget, hget_hset]
 rcases hr with ⟨b, hl', rfl⟩ | ⟨hd, _⟩
 ·rw [hl] at hl'
  cases hl'
  obtain ⟨h1, cur, vs', rest, hrow, hcl, hrl⟩ := hor
  obtain ⟨v0, vs1, rfl, r0, v1, vs2, rfl, r1, hn⟩ := hrl
  cases hn
  have hrow2 := hrow
  obtain ⟨lo', hi', hbk, hfr⟩ := hrow2
  have hsz : 2 ≤ cur.size := by rw [← Array.length_toList, hcl]; simp
  have hc0 : cur[0]? = some v0 := by rw [← Array.getElem?_toList, hcl]; rfl
  have hcell : w.cell? ⟨b, 0, none⟩ = some v0 := by rw [Lib.cell_of_heap hbk]; exact hc0
  cases u with
  | false =>
   obtain rfl : v0 = .pointer none := r0
   refine (Tryz.copyCheck_fresh b cur.size w hcell (by simp [World.shape?, hbk]) hsz (hrow.free (by omega))).mono ?_
   rintro e w' ⟨rfl, rfl⟩
   have hbk' : (w.setCell ⟨b, 0, none⟩ (.pointer (some ⟨b, 0, none⟩))).heap[b]? = some (.cells (cur.setIfInBounds 0 (.pointer (some ⟨b, 0, none⟩))) 69 (lo', hi')) := by
    show (w.heap.modify b _)[b]? = _
    rw [Array.getElem?_modify, if_pos rfl, hbk]
    rfl
   obtain ⟨hsr, hE⟩ := hs.updArr (w' := w.setCell ⟨b, 0, none⟩ (.pointer (some ⟨b, 0, none⟩))) (cs' := [.ptr id ver 0, s]) hg hl ⟨rfl, rfl, rfl⟩ (by show (w.heap.modify b _).size = _; simp) (fun b' hne => by
    show (w.heap.modify b _)[b']? = _
    rw [Array.getElem?_modify, if_neg (fun e => hne e.symm)]) hrow ⟨lo', hi', hbk', by simpa using hfr⟩ (by simp) fun E => by
     refine ⟨fun c hc => ?_, _, [.pointer (some ⟨b, 0, none⟩), v1], rest, ⟨lo', hi', hbk', by simpa using hfr⟩, ?_, ?_⟩
     ·rcases List.mem_cons.1 hc with rfl | hc
      ·rfl
      exact h1 c (List.mem_cons_of_mem _ hc)
     ·rw [Array.toList_setIfInBounds, hcl]; rfl
     exact ⟨_, _, rfl, .inl ⟨b, hl, rfl⟩, _, _, rfl, Rep.evo E hs.ok _ _ r1, rfl⟩
   exact ⟨_, .tup [], _, μ, rfl, hK, hsr.le (hle _), ⟨[], rfl, rfl⟩, hE⟩
  | true =>
   rcases r0 with ⟨b', hl2, rfl⟩ | ⟨hd, _⟩
   ·rw [hl] at hl2
    cases hl2
    refine (Tryz.copyCheck_used b w hcell).mono ?_
    rintro e w' ⟨rfl, rfl⟩
    exact ⟨_, .tup [], _, μ, rfl, hK, (hs.same hg).le (hle _), ⟨[], rfl, rfl⟩, Evo.refl _ _⟩
   exact absurd hl (hd.2 _)
 exact absurd hl (hd.2 _)
end Go.AW
namespace Go.AW
open Go
abbrev eByte : EncL UInt8 := encM fun b => HV.int .u8 (b.toNat : Int)
section
variable {P : Program} {ro : Option Nat} {N : Nat} {s : AS} {o : Oper} {sl : List (Nat × HV)} {H : Heap} {all : Array Oper} {rest : List Oper} {K : AS → Prop}
theorem o_appS {d : Nat} {t xt e : TypeId} {a b a2 b2 : Nat} {z z2 : Value} {aa : Array Operand} {ts : Array TypeId} {x y : Operand} {Te : TyI} {l m : List UInt8} {id ver : Nat} (h0 : (o.dst, o.op) = (some d, .call ⟨.builtin .append, aa, ts⟩)) (ha : (aa.toList, ts.toList) = ([x, y], [t, xt])) (hT : ty P t = some ⟨.slice e, a, b, z⟩) (hxt : ty P xt = some ⟨.string, a2, b2, z2⟩) (hTe : ty P e = some Te)
  (hx : s.ev x = some (.ar id ver eByte.k 0 l.length)) (hg : hget s.heap id = some (ver, .arr eByte.k e (eByte.E l))) (hy : s.ev y = some (.str m)) (hk : Te.size = 1) (hz : (zcells Te.zero).any (fun zs => zs.length == Te.size) = true) (h : fits Te.bytes (l.length + m.length))
  (k : ∀ ver', bops P ro N all rest K ⟨(d, .ar id ver' eByte.k 0 (l ++ m).length) :: s.slots, (id, ver', .arr eByte.k e (eByte.E (l ++ m))) :: s.heap⟩) : aop P 0 [] o (fun s' => bops P ro N all rest K s') s := by
 obtain ⟨h3, h4⟩ := Prod.mk.inj h0
 obtain ⟨h5, h6⟩ := Prod.mk.inj ha
 have ek : eByte.k = 1 := rfl
 refine op_append (n := l.length) (m := m.length) (cs := eByte.E l) (ds := eByte.E m) h4 h5 h6 hT hx hy hTe hz ?_ ?_ h ?_
 ·simp only [abase, hg]
  refine ⟨trivial, hk.symm, trivial, trivial, ?_, trivial, ?_⟩
  ·rw [hk, eByte.len]; exact Nat.le_refl _
  rw [hk]
  show (eByte.E l).take (l.length * eByte.k) = _
  rw [eByte.take, List.take_length]
 ·simp only [asrc, hxt]
  exact ⟨hk, trivial, rfl⟩
 intro ver'
 have e1 : baseId (.ar id ver eByte.k 0 l.length) (cid 0 o.dst) = id := rfl
 have e2 : eByte.E l ++ eByte.E m = eByte.E (l ++ m) := (eByte.append l m).symm
 rw [e1, h3, hk, e2]
 have e3 : (l ++ m).length = l.length + m.length := List.length_append
 have := k ver'
 rw [e3] at this
 exact bops_le (putH_le id ver' _ d _) this
end
open Go.Proofs
def bldO (id ver aid aver : Nat) (u : Bool) (l : List UInt8) : AObj := .arr 2 69 [bldP u id ver, .ar aid aver 1 0 l.length]
def bytO (l : List UInt8) : AObj := .arr 1 5 (eByte.E l)
theorem hget_1 {id v j w : Nat} {o p : AObj} {H : Heap} (h : j ≠ id) (hj : hget H j = some (w, p)) : hget ((id, v, o) :: H) j = some (w, p) := by
 simp only [hget]
 rw [if_neg (by omega)]
 exact hj
end Go.AW
namespace Go.Proofs
open Go
def But (g : Nat) (w w' : World) : Prop := Go.AW.Same w w' ∧ w.heap.size ≤ w'.heap.size ∧ ∀ k, k < w.heap.size → k ≠ g → w'.heap[k]? = w.heap[k]?
set_option maxHeartbeats 2000000 in
set_option maxRecDepth 100000 in
theorem Tryz.bldS_nil (b g : Nat) (w : World) (c0 : w.cell? ⟨b, 1, none⟩ = some (.slice none 0 0)) :
  Calls Tryz.prog 32 #[.pointer (some ⟨b, 0, none⟩)] w fun e w' => e = .returned (.string ⟨#[]⟩) ∧ But g w w' := by
 have hUS : ∀ (W : World) (q : Option Addr), (Builtin.unsafeString_ #[120, 3] 9 #[.pointer q, .int .i64 0]).run Tryz.prog W = .ok (.string .empty) W := fun W q => Lib.run_unsafeString_none W _ _ _ q
 have c1 : w.drew.cell? ⟨b, 1, none⟩ = some (.slice none 0 0) := c0
 have hSD : (Builtin.unsafeSliceData_ #[28] 120 #[.slice none 0 0]).run Tryz.prog w.drew = .ok (.pointer none) w.drew := rfl
 have mixed : Tryz.prog.follows .mixedOrders = true := by kernel_rfl
 go_enter Tryz.func32, Tryz.ntmps32
 go_wp2
 go_region_o
 all_goals (go_wp2; go_ret; exact ⟨rfl, ⟨rfl, rfl, rfl⟩, Nat.le_refl _, fun _ _ _ => rfl⟩)
set_option maxHeartbeats 2000000 in
set_option maxRecDepth 100000 in
theorem Tryz.bldS_room (b g cap : Nat) (w : World) (hc0 : cap ≠ 0) (c0 : w.cell? ⟨b, 1, none⟩ = some (.slice (some ⟨g, 0, none⟩) 0 cap)) :
  Calls Tryz.prog 32 #[.pointer (some ⟨b, 0, none⟩)] w fun e w' => e = .returned (.string ⟨#[]⟩) ∧ But g w w' := by
 have hUS : ∀ (W : World) (q : Option Addr), (Builtin.unsafeString_ #[120, 3] 9 #[.pointer q, .int .i64 0]).run Tryz.prog W = .ok (.string .empty) W := fun W q => Lib.run_unsafeString_none W _ _ _ q
 have c1 : w.drew.cell? ⟨b, 1, none⟩ = some (.slice (some ⟨g, 0, none⟩) 0 cap) := c0
 have hSD : (Builtin.unsafeSliceData_ #[28] 120 #[.slice (some ⟨g, 0, none⟩) 0 cap]).run Tryz.prog w.drew = .ok (.pointer (some ⟨g, 0, none⟩)) w.drew := Lib.run_unsafeSliceData_row _ _ _ _ _ _ hc0
 clear hc0
 have mixed : Tryz.prog.follows .mixedOrders = true := by kernel_rfl
 go_enter Tryz.func32, Tryz.ntmps32
 go_wp2
 go_region_o
 all_goals (go_wp2; go_ret; exact ⟨rfl, ⟨rfl, rfl, rfl⟩, Nat.le_refl _, fun _ _ _ => rfl⟩)
set_option maxHeartbeats 2000000 in
set_option maxRecDepth 100000 in
theorem Tryz.bldS_noroom (b g : Nat) (cur : Array Value) (fr : Nat × Nat) (w : World) (hlt : b < w.heap.size) (c0 : w.cell? ⟨b, 1, none⟩ = some (.slice (some ⟨g, 0, none⟩) 0 0)) (hg : w.heap[g]? = some (.cells cur 5 fr)) :
  Calls Tryz.prog 32 #[.pointer (some ⟨b, 0, none⟩)] w fun e w' => e = .returned (.string ⟨#[]⟩) ∧ But g w w' := by
 have hUS : ∀ (W : World) (q : Option Addr), (Builtin.unsafeString_ #[120, 3] 9 #[.pointer q, .int .i64 0]).run Tryz.prog W = .ok (.string .empty) W := fun W q => Lib.run_unsafeString_none W _ _ _ q
 have c1 : w.drew.cell? ⟨b, 1, none⟩ = some (.slice (some ⟨g, 0, none⟩) 0 0) := c0
 have hSD : (Builtin.unsafeSliceData_ #[28] 120 #[.slice (some ⟨g, 0, none⟩) 0 0]).run Tryz.prog w.drew = .ok (.pointer (some ⟨w.drew.heap.size, 0, none⟩)) (w.drew.alloc (.view ⟨g, 0, none⟩ 5)) :=
  Lib.run_unsafeSliceData_zero w.drew _ _ 5 Tryz.underlying120 ⟨g, 0, none⟩ 0 (5, cur.size) (by have hg' : w.drew.heap[g]? = some (.cells cur 5 fr) := hg; simp [World.shape?, hg'])
 have c2 : (w.drew.alloc (.view ⟨g, 0, none⟩ 5)).cell? ⟨b, 1, none⟩ = some (.slice (some ⟨g, 0, none⟩) 0 0) := by
  have e : (w.drew.alloc (.view ⟨g, 0, none⟩ 5)).heap[b]? = w.heap[b]? := Lib.alloc_old w.drew _ b hlt
  have h1 : (w.drew.alloc (.view ⟨g, 0, none⟩ 5)).cell? ⟨b, 1, none⟩ = w.cell? ⟨b, 1, none⟩ := by simp only [World.cell?, e]
  rw [h1]; exact c0
 have c3 : (w.alloc (.view ⟨g, 0, none⟩ 5)).drew.cell? ⟨b, 1, none⟩ = some (.slice (some ⟨g, 0, none⟩) 0 0) := c2
 have mixed : Tryz.prog.follows .mixedOrders = true := by kernel_rfl
 go_enter Tryz.func32, Tryz.ntmps32
 go_wp2
 go_region_o
 all_goals (go_wp2; go_ret; exact ⟨rfl, ⟨rfl, rfl, rfl⟩, by show w.heap.size ≤ (w.heap.push _).size; rw [Array.size_push]; omega, fun k hk _ => Lib.alloc_old w.drew _ k hk⟩)
set_option maxHeartbeats 2000000 in
set_option maxRecDepth 100000 in
theorem Tryz.bldS_some (b g cap : Nat) (cur : Array Value) (fr : Nat × Nat) (l : List UInt8) (w : World) (h0 : l ≠ []) (c0 : w.cell? ⟨b, 1, none⟩ = some (.slice (some ⟨g, 0, none⟩) l.length cap)) (hg : w.heap[g]? = some (.cells cur 5 fr)) (hcap : l.length ≤ cap) (hsz : cur.size = cap) (hcm : cap ≤ maxLen)
  (hcell : ∀ (j : Nat) (x : UInt8), l[j]? = some x → cur[j]? = some (.int .u8 x.toNat)) :
  Calls Tryz.prog 32 #[.pointer (some ⟨b, 0, none⟩)] w fun e w' => e = .returned (.string ⟨l.toArray⟩) ∧ But g w w' := by
 have hl0 : l.length ≠ 0 := by simpa using h0
 have c1 : w.drew.cell? ⟨b, 1, none⟩ = some (.slice (some ⟨g, 0, none⟩) l.length cap) := c0
 have hSD : (Builtin.unsafeSliceData_ #[28] 120 #[.slice (some ⟨g, 0, none⟩) l.length cap]).run Tryz.prog w.drew = .ok (.pointer (some ⟨g, 0, none⟩)) w.drew := Lib.run_unsafeSliceData_row _ _ _ _ _ _ (by omega)
 have hUS : (Builtin.unsafeString_ #[120, 3] 9 #[.pointer (some ⟨g, 0, none⟩), .int .i64 l.length]).run Tryz.prog w.drew = .ok (.string ⟨l.toArray⟩) (w.drew.freeze ⟨g, 0, none⟩ l.length) := by
  refine Lib.run_unsafeString_row w.drew 120 3 9 5 Tryz.underlying120 (by kernel_rfl) g cur.size (by have hg' : w.drew.heap[g]? = some (.cells cur 5 fr) := hg; simp [World.shape?, hg']) l h0 (by omega) (by unfold maxLen at hcm; omega) ?_
  intro j x hx
  have hg' : w.drew.heap[g]? = some (.cells cur 5 fr) := hg
  rw [Addr.add_lit, Nat.zero_add, Lib.cell_of_heap hg']
  exact hcell j x hx
 have hfz : But g w (w.drew.freeze ⟨g, 0, none⟩ l.length) := by
  unfold World.freeze
  rw [if_neg hl0]
  refine ⟨⟨rfl, rfl, rfl⟩, by show w.heap.size ≤ (w.heap.modify g _).size; simp, fun k hk hne => ?_⟩
  show (w.heap.modify g _)[k]? = _
  rw [Array.getElem?_modify, if_neg (fun e => hne e.symm)]
 clear hcell hsz hcap hcm h0 hl0 hg
 have mixed : Tryz.prog.follows .mixedOrders = true := by kernel_rfl
 go_enter Tryz.func32, Tryz.ntmps32
 go_wp2
 go_region_o
 all_goals (go_wp2; go_ret; exact ⟨rfl, hfz⟩)
end Go.Proofs
namespace Go.AW
open Go
section
open Go Go.Proofs Go.Lib
theorem repL_byt {w : World} {μ : Mu} : ∀ {l : List UInt8} {vs : List Value}, RepL w μ (l.map fun b => HV.int .u8 (b.toNat : Int)) vs → vs = l.map fun b => Value.int .u8 (b.toNat : Int)
 | [], vs, h => h
 | x :: l, vs, h => by
  obtain ⟨v, vs', rfl, hx, hr⟩ := h
  obtain ⟨rfl, _⟩ := hx
  rw [repL_byt hr]
  rfl
theorem c_String {H : Heap} {K : HV → Heap → Prop} {id ver aid aver : Nat} {u : Bool} {l : List UInt8} (hg : hget H id = some (ver, bldO id ver aid aver u l)) (ha : hget H aid = some (aver, bytO l)) (hK : ∀ av, K (.str l) ((aid, av, .arr 1 5 []) :: H)) :
  ACall Tryz.prog 32 [.ptr id ver 0] H K := by
 refine ⟨enters' Tryz.func32 rfl rfl, fun μ w vs hs hr _ => ?_⟩
 obtain ⟨x, xs, rfl, hr, hn⟩ := hr
 cases hn
 obtain ⟨lo, hl, hor⟩ := hs.has _ _ _ hg
 obtain ⟨la, hla, hora⟩ := hs.has _ _ _ ha
 have hle : ∀ v ob j (y : Nat × AObj), hget ((aid, v, ob) :: H) j = some y ↔ hget (hset H aid v ob) j = some y := fun v ob j y => by simp only [hget, hget_hset]
 have fin : ∀ (g : Nat) (w' : World), (∀ b, μ.loc aid = some (aver, some b) → b = g) → (la = none → w.heap.size ≤ g) → l.length ≤ maxLen → But g w w' → ∃ v r H' μ', Ending.returned (.string ⟨l.toArray⟩) = .returned v ∧ K r H' ∧ SR w' μ' H' ∧ Rep w' μ' r v ∧ Evo w μ w' μ' := by
  intro g w' hb hgn hlen ⟨h1, h2, h3⟩
  have hold : ∀ b, b < w.heap.size → (∀ ver, μ.loc aid ≠ some (ver, some b)) → w'.heap[b]? = w.heap[b]? := fun b hb1 hb2 => by
   by_cases e : b = g
   ·cases la with
    | none => exact absurd (hgn rfl) (by omega)
    | some b0 =>
     have := hb b0 hla
     subst this
     subst e
     exact absurd hla (hb2 _)
   exact h3 b hb1 e
  have hsr := hs.repl aid none (.arr 1 5 []) h1 h2 hold (fun b hb => by cases hb) rfl
  have hE := Evo.repl hs aid none h1 h2 hold (fun b hb => by cases hb)
  exact ⟨_, .str l, _, μ.set aid none, rfl, hK μ.nx, hsr.le (hle _ _), ⟨rfl, hlen⟩, hE⟩
 rcases hr with ⟨b, hl', rfl⟩ | ⟨hd, _⟩
 ·rw [hl] at hl'
  cases hl'
  obtain ⟨h1, cur, vs', rest, hrow, hcl, hrl⟩ := hor
  obtain ⟨v0, vs1, rfl, r0, v1, vs2, rfl, r1, hn⟩ := hrl
  cases hn
  have hrow2 := hrow
  obtain ⟨lo', hi', hbk, hfr⟩ := hrow2
  have hc1 : cur[1]? = some v1 := by rw [← Array.getElem?_toList, hcl]; rfl
  have hcell : w.cell? ⟨b, 1, none⟩ = some v1 := by rw [Lib.cell_of_heap hbk]; exact hc1
  have hlt : b < w.heap.size := by
   rcases Nat.lt_or_ge b w.heap.size with h' | h'
   ·exact h'
   simp [Array.getElem?_eq_none h'] at hbk
  rcases r1 with ⟨la', hla', ⟨rfl, rfl, h0, _⟩ | ⟨g, cap, curg, e, rfl, rfl, hnc, hcm, hrowg, hszg⟩⟩ | ⟨hd, _⟩
  ·have hln := List.eq_nil_of_length_eq_zero h0
   subst hln
   refine (Tryz.bldS_nil b w.heap.size w hcell).mono ?_
   rintro e w' ⟨rfl, hb⟩
   exact fin _ w' (fun b hb => by rw [hla'] at hb; cases hb) (fun _ => Nat.le_refl _) (Nat.zero_le _) hb
  ·rw [hla] at hla'
   cases hla'
   obtain ⟨_, cur2, vs2, rest2, hrow2, hcl2, hrl2⟩ := hora
   obtain ⟨lo2, hi2, hbg, hfr2⟩ := hrow2
   obtain ⟨lo3, hi3, hbg3, hfr3⟩ := hrowg
   rw [hbg] at hbg3
   cases hbg3
   have hvs := repL_byt hrl2
   subst hvs
   have hb1 : ∀ b, μ.loc aid = some (aver, some b) → b = g := fun b hb => by rw [hla] at hb; cases hb; rfl
   by_cases h0 : l = []
   ·subst h0
    by_cases hc0 : cap = 0
    ·subst hc0
     refine (Tryz.bldS_noroom b g curg _ w hlt hcell hbg).mono ?_
     rintro e w' ⟨rfl, hb⟩
     exact fin g w' hb1 (fun e => by cases e) (Nat.zero_le _) hb
    refine (Tryz.bldS_room b g cap w hc0 hcell).mono ?_
    rintro e w' ⟨rfl, hb⟩
    exact fin g w' hb1 (fun e => by cases e) (Nat.zero_le _) hb
   refine (Tryz.bldS_some b g cap curg _ l w h0 hcell hbg hnc (by omega) hcm fun j x hj => ?_).mono ?_
   ·rw [← Array.getElem?_toList, hcl2, List.getElem?_append_left (by
     have := (List.getElem?_eq_some_iff.1 hj).1
     simpa using this), List.getElem?_map, hj]
    rfl
   rintro e w' ⟨rfl, hb⟩
   exact fin g w' hb1 (fun e => by cases e) (by omega) hb
  exact absurd hla (hd.2 _)
 exact absurd hl (hd.2 _)
end
open Go.Proofs
set_option linter.unusedVariables false
set_option maxRecDepth 100000 in
theorem c_WriteString {H : Heap} {K : HV → Heap → Prop} {id ver aid aver : Nat} {u : Bool} {l m : List UInt8} (hid : aid ≠ id) (hg : hget H id = some (ver, bldO id ver aid aver u l)) (ha : hget H aid = some (aver, bytO l)) (hfit : fits 1 (l.length + m.length))
    (hK : ∀ av, K (.tup [.int .i64 (m.length : Int), .v .nilIface]) ((id, ver, bldO id ver aid av true (l ++ m)) :: (aid, av, bytO (l ++ m)) :: H)) : ACall Tryz.prog 27 [.ptr id ver 0, .str m] H K := by
  refine ACall.of_body Tryz.func27 rfl rfl (lb rfl) ?_
  unfold Tryz.f27
  dsimp only [enumS, Nat.reduceAdd]
  refine AW.rgs rfl fun K1 hK1 => ?_
  refine mv rfl rfl (mv rfl rfl ?_)
  refine b_nil (hK1 _ (AW.to (to_le (s' := ⟨[(0, .ptr id ver 0), (1, .str m)], H⟩) (le_slH ⟨rfl, rfl, trivial⟩) ?_)))
  clear hK1 K1
  refine AW.rgs rfl fun K1 hK1 => ?_
  refine mv rfl rfl ?_
  refine b_op rfl (o_callA rfl rfl rfl rfl (c_copyCheck hg ?_))
  refine b_nil (hK1 _ (AW.to (to_le (s' := ⟨[(0, .ptr id ver 0), (1, .str m)], (id, ver, .arr 2 69 [.ptr id ver 0, .ar aid aver 1 0 l.length]) :: H⟩) (le_slH ⟨rfl, rfl, trivial⟩) ?_)))
  clear hK1 K1
  have ha1 : hget ((id, ver, AObj.arr 2 69 [.ptr id ver 0, .ar aid aver 1 0 l.length]) :: H) aid = some (aver, .arr eByte.k 5 (eByte.E l)) := hget_1 hid ha
  refine AW.rgs rfl fun K1 hK1 => ?_
  refine mv rfl rfl (mv rfl rfl (bv rfl (v_nilP rfl hget_0) (bv rfl (v_fieldAddrP fo69_1 rfl hget_0) (bv rfl (v_loadP ty28 rfl hget_0 (l_lit rfl rfl)) (mv rfl rfl ?_)))))
  refine b_op rfl (o_appS (l := l) (m := m) rfl rfl ty28 ty9 ty5 rfl ha1 rfl rfl rfl hfit (fun av => ?_))
  refine bv rfl (v_nilP rfl (hget_1 (fun e => hid e.symm) hget_0)) (bv rfl (v_fieldAddrP fo69_1 rfl (hget_1 (fun e => hid e.symm) hget_0)) ?_)
  refine b_op rfl (o_store (cs := [.ar aid av 1 0 (l ++ m).length]) (zs := [.ptr id ver 0, .ar aid av 1 0 (l ++ m).length]) rfl rfl rfl ty28 rfl (hget_1 (fun e => hid e.symm) hget_0) rfl rfl rfl ?_)
  refine b_nil (hK1 _ (AW.to (to_le (s' := ⟨[(1, .str m)], (id, ver, .arr 2 69 [.ptr id ver 0, .ar aid av 1 0 (l ++ m).length]) :: (aid, av, .arr 1 5 (eByte.E (l ++ m))) :: H⟩) ⟨leS_get ⟨rfl, trivial⟩, fun j x hx => ?_⟩ ?_)))
  · simp only [hget] at hx ⊢
    by_cases h1 : j = id
    · subst h1; simpa using hx
    rw [if_neg h1] at hx ⊢
    by_cases h2 : j = aid
    · rw [if_pos h2] at hx ⊢; exact hx
    rw [if_neg h2] at hx
    rw [if_neg h2, if_neg h1]
    exact hx
  clear hK1 K1
  refine AW.rgs rfl fun K1 hK1 => ?_
  refine mv rfl rfl (bv rfl (v_lenS rfl rfl ty9 rfl) (mv rfl rfl (mv rfl rfl ?_)))
  refine b_nil (hK1 _ (AW.to (to_le (s' := ⟨[(4, .int .i64 (m.length : Int)), (5, .v .nilIface)], (id, ver, .arr 2 69 [.ptr id ver 0, .ar aid av 1 0 (l ++ m).length]) :: (aid, av, .arr 1 5 (eByte.E (l ++ m))) :: H⟩) (le_slH ⟨rfl, rfl, trivial⟩) ?_)))
  clear hK1 K1
  refine AW.ret ⟨.inr rfl, ?_⟩
  simp only [go_sem]
  exact ⟨_, _, Conv.refl _ _, hK av⟩
set_option maxHeartbeats 1600000
set_option maxRecDepth 100000
theorem w_internal_stringslite_HasPrefix {p0 : List UInt8} {p1 : List UInt8} {r : Bool} (h : m_internal_stringslite_HasPrefix p0 p1 = some r) : Pure Tryz.prog 109 [.str p0, .str p1] (· = HV.bool r) := by
 unfold m_internal_stringslite_HasPrefix at h
 refine Pure.of_body Tryz.func109 rfl rfl (lb rfl) fun hf => ?_
 unfold Tryz.f109
 dsimp only [enumS, Nat.reduceAdd]
 refine AW.rgs rfl fun K hK => mv rfl rfl ?_
 refine bf hK ⟨[(0, .str p0), (1, .str p1)], []⟩ ?_
 refine AW.seqJ h (S := Bool) (V := Unit) (fun a v => ⟨[(4, .bool a)], []⟩) (fun a1 w2 h => ?_) (fun k3 h => ?_)
 ·obtain rfl := oi h
  exact AW.ret (ret_pure (.inr rfl) (resT rfl rfl) rfl trivial)
 refine AW.rg rfl fun K hK => mv rfl rfl (bv rfl (v_lenS rfl rfl ty9 rfl) (mv rfl rfl (bv rfl (v_lenS rfl rfl ty9 rfl) (bv rfl (v_bin rfl rfl b_geq) (mv rfl rfl ?_)))))
 by_cases hg5 : ((p1).length : Int) ≤ ((p0).length : Int)
 ·have h := ifT hg5 h
  refine b_T rfl rfl rfl rfl (decide_eq_true hg5) (o_val rfl (mv_val rfl rfl).2 ?_)
  refine b_T rfl rfl rfl rfl rfl (o_val rfl (mv_val rfl rfl).2 ?_)
  refine b_T rfl rfl rfl rfl rfl (o_val rfl (v_lenS rfl rfl ty9 rfl) ?_)
  obtain ⟨h4, h⟩ := ifN h
  refine b_T rfl rfl rfl rfl rfl (o_val rfl (v_sliceS ty9 rfl rfl rfl h4) ?_)
  refine b_T rfl rfl rfl rfl rfl (o_val rfl (mv_val rfl rfl).2 ?_)
  refine b_T rfl rfl rfl rfl rfl (o_val rfl (v_bin rfl rfl b_seql) ?_)
  refine bv rfl (v_pickT rfl rfl rfl) (mv rfl rfl ?_)
  refine b_nil (hK _ ?_)
  exact to_L ⟨decide (((p0.take (((p1).length : Int)).toNat).drop (0 : Int).toNat) = p1), (), h, rfl⟩
 have h := ifF hg5 h
 refine b_F rfl rfl rfl rfl rfl (decide_eq_false hg5) ?_
 iterate 5 refine b_F rfl rfl rfl rfl rfl rfl ?_
 refine bv rfl (v_pickF rfl rfl rfl) (mv rfl rfl ?_)
 refine b_nil (hK _ ?_)
 exact to_L ⟨false, (), h, rfl⟩
theorem w_strings_HasPrefix {p0 : List UInt8} {p1 : List UInt8} {r : Bool} (h : m_strings_HasPrefix p0 p1 = some r) : Pure Tryz.prog 89 [.str p0, .str p1] (· = HV.bool r) := by
 unfold m_strings_HasPrefix at h
 refine Pure.of_body Tryz.func89 rfl rfl (lb rfl) fun hf => ?_
 unfold Tryz.f89
 dsimp only [enumS, Nat.reduceAdd]
 refine AW.rgs rfl fun K hK => mv rfl rfl ?_
 refine bf hK ⟨[(0, .str p0), (1, .str p1)], []⟩ ?_
 refine AW.rgs rfl fun K hK => mv rfl rfl (mv rfl rfl ?_)
 obtain ⟨x1, h2, h⟩ := bS h
 refine b_op rfl (o_call rfl rfl rfl rfl (ACallD.pure0 (w_internal_stringslite_HasPrefix h2)) ?_)
 refine mv rfl rfl ?_
 refine bf hK ⟨[(4, .bool x1)], []⟩ ?_
 obtain rfl := oi h
 exact AW.ret (ret_pure (.inr rfl) (resT rfl rfl) rfl trivial)
theorem w_slices_IndexFunc_Lint_int {p0 : List (Int)} {p1 : Int → Option (Bool)} {g1 : FuncId} {z1 : List HV} {r : Int} (h : m_slices_IndexFunc_Lint_int p0 p1 = some r) (hf1 : ∀ a0 b, p1 a0 = some b → Pure Tryz.prog g1 ([hI a0] ++ z1) (· = HV.bool b)) : Pure Tryz.prog 85 [slE eInt p0, .fn (.func g1) [] z1] (· = hI r) := by
 unfold m_slices_IndexFunc_Lint_int at h
 refine Pure.of_body Tryz.func85 rfl rfl (lb rfl) fun hf => ?_
 unfold Tryz.f85
 dsimp only [enumS, Nat.reduceAdd]
 refine AW.rgs rfl fun K hK => mv rfl rfl ?_
 let E1 : Nat × HV := (1, .fn (.func g1) [] z1)
 let P1 : ASf := fun t H => ⟨(0, slE eInt p0) :: E1 :: t, H⟩
 refine bf hK (P1 [] []) ?_
 refine AW.seq ?_
 refine AW.rgs rfl fun K hK => mv rfl rfl (bv rfl (v_lenF rfl rfl ty36 rfl) (mv rfl rfl ?_))
 let E2 : Nat × HV := (7, hI ((p0).length : Int))
 refine bf hK (P1 [E2, (8, hI 0)] []) ?_
 refine AW.lpR h (by first | exact up_then | exact up_to) (S := Int) (V := Unit) (fun a v => (P1 [E2, (8, hI a)] [])) ?_ (X := Unit) (W := Unit) (fun a v => ⟨[], []⟩) (fun a9 w10 h => ?_) (fun a1 w2 st3 h hr4=> ?_)
 ·exact to_L ⟨(), rfl⟩
 ·refine AW.rgs rfl fun K hK => mv rfl rfl ?_
  refine bf hK ⟨[(4, hI (-1))], []⟩ ?_
  obtain rfl := oi h
  exact AW.ret (ret_pure (.inr rfl) (resT rfl rfl) rfl trivial)
 refine AW.rgs rfl fun K hK => bv rfl (v_bin rfl rfl b_lss) ?_
 refine bf hK (P1 [E2, (8, hI a1), (9, .bool (decide (a1 < ((p0).length : Int))))] []) ?_
 refine AW.cseq rfl (fun hc => ?_) (fun hc => ?_)
 ·obtain ⟨hc, h⟩ := cT hc h
  refine AW.skip ?_
  refine AW.seq (AW.block ?_)
  refine AW.rgs rfl fun K hK => mv rfl rfl (mv rfl rfl ?_)
  refine bf hK (P1 [(5, hI a1), E2, (8, hI a1)] []) ?_
  refine AW.rgs rfl fun K hK => mv rfl rfl (mv rfl rfl (mv rfl rfl ?_))
  obtain ⟨x5, h6, h⟩ := bS h
  refine bv rfl (v_idxF ty36 es36 rfl rfl (idx_lt h6)) (bv rfl (v_loadF ty3 rfl (l_cell eInt h6 (o := 0) rfl rfl)) ?_)
  obtain ⟨x7, h8, h⟩ := bS h
  refine b_op rfl (o_call rfl rfl rfl rfl (ACallD.pure0 (hf1 _ _ h8)) ?_)
  refine bf hK (P1 [(5, hI a1), E2, (8, hI a1), (16, .bool x7)] []) ?_
  refine AW.cond rfl (fun hc => ?_) (fun hc => ?_)
  ·have h := ifT hc h
   refine AW.rgs rfl fun K hK => mv rfl rfl (mv rfl rfl ?_)
   refine bf hK ⟨[(4, hI a1)], []⟩ ?_
   have h := hr4 _ h
   obtain rfl := oi h
   exact AW.ret (ret_pure (.inr rfl) (resT rfl rfl) rfl trivial)
  have h := ifF (bF' hc) h
  refine AW.skip ?_
  refine AW.rg rfl fun K hK => bv rfl (v_bin rfl rfl b_add) (mv rfl rfl ?_)
  refine b_nil (hK _ ?_)
  exact to_L ⟨IntKind.wrap .i64 (a1 + 1), (), h, rfl⟩
 obtain ⟨hc, h⟩ := cF hc h
 refine AW.exit ?_
 exact to_L ⟨(), (), h, rfl⟩
theorem w_slices_ContainsFunc_Lint_int {p0 : List (Int)} {p1 : Int → Option (Bool)} {g1 : FuncId} {z1 : List HV} {r : Bool} (h : m_slices_ContainsFunc_Lint_int p0 p1 = some r) (hf1 : ∀ a0 b, p1 a0 = some b → Pure Tryz.prog g1 ([hI a0] ++ z1) (· = HV.bool b)) : Pure Tryz.prog 54 [slE eInt p0, .fn (.func g1) [] z1] (· = HV.bool r) := by
 unfold m_slices_ContainsFunc_Lint_int at h
 refine Pure.of_body Tryz.func54 rfl rfl (lb rfl) fun hf => ?_
 unfold Tryz.f54
 dsimp only [enumS, Nat.reduceAdd]
 refine AW.rgs rfl fun K hK => mv rfl rfl ?_
 refine bf hK ⟨[(0, slE eInt p0), (1, .fn (.func g1) [] z1)], []⟩ ?_
 refine AW.rgs rfl fun K hK => mv rfl rfl (mv rfl rfl ?_)
 obtain ⟨x1, h2, h⟩ := bS h
 refine b_op rfl (o_call rfl rfl rfl rfl (ACallD.pure0 (w_slices_IndexFunc_Lint_int h2 hf1)) ?_)
 refine bv rfl (v_bin rfl rfl b_geq) (mv rfl rfl ?_)
 refine bf hK ⟨[(4, .bool (decide (0 ≤ x1)))], []⟩ ?_
 obtain rfl := oi h
 exact AW.ret (ret_pure (.inr rfl) (resT rfl rfl) rfl trivial)
theorem w_cmp_Or_int {p0 : List (Int)} {r : Int} (h : m_cmp_Or_int p0 = some r) : Pure Tryz.prog 107 [slE eInt p0] (· = hI r) := by
 unfold m_cmp_Or_int at h
 refine Pure.of_body Tryz.func107 rfl rfl (lb rfl) fun hf => ?_
 unfold Tryz.f107
 dsimp only [enumS, Nat.reduceAdd]
 refine AW.rgs rfl fun K hK => mv rfl rfl ?_
 refine bf hK ⟨[(0, slE eInt p0)], []⟩ ?_
 refine AW.rgs rfl fun K hK => mv rfl rfl ?_
 refine bf hK ⟨[(0, slE eInt p0), (3, hI 0)], []⟩ ?_
 refine AW.seq ?_
 refine AW.rgs rfl fun K hK => mv rfl rfl (bv rfl (v_lenF rfl rfl ty36 rfl) (mv rfl rfl ?_))
 let E3 : Nat × HV := (7, hI ((p0).length : Int))
 let P2 : ASf := fun t H => ⟨(3, hI 0) :: (6, slE eInt p0) :: E3 :: t, H⟩
 refine bf hK (P2 [(8, hI 0)] []) ?_
 refine AW.lpR h (by first | exact up_then | exact up_to) (S := Int) (V := Unit) (fun a v => (P2 [(8, hI a)] [])) ?_ (X := Unit) (W := Unit) (fun a v => ⟨[(3, hI 0)], []⟩) (fun a7 w8 h => ?_) (fun a1 w2 st3 h hr4=> ?_)
 ·exact to_L ⟨(), rfl⟩
 ·refine AW.rgs rfl fun K hK => mv rfl rfl (mv rfl rfl ?_)
  refine bf hK ⟨[(2, hI 0)], []⟩ ?_
  obtain rfl := oi h
  exact AW.ret (ret_pure (.inr rfl) (resT rfl rfl) rfl trivial)
 refine AW.rgs rfl fun K hK => bv rfl (v_bin rfl rfl b_lss) ?_
 refine bf hK (P2 [(8, hI a1), (9, .bool (decide (a1 < ((p0).length : Int))))] []) ?_
 refine AW.cseq rfl (fun hc => ?_) (fun hc => ?_)
 ·obtain ⟨hc, h⟩ := cT hc h
  refine AW.skip ?_
  refine AW.seq (AW.block ?_)
  refine AW.rgs rfl fun K hK => ?_
  obtain ⟨x5, h6, h⟩ := bS h
  refine bv rfl (v_idxF ty36 es36 rfl rfl (idx_lt h6)) (bv rfl (v_loadF ty3 rfl (l_cell eInt h6 (o := 0) rfl rfl)) (mv rfl rfl ?_))
  refine bf hK ⟨[(3, hI 0), (5, hI x5), (6, slE eInt p0), E3, (8, hI a1)], []⟩ ?_
  refine AW.rgs rfl fun K hK => mv rfl rfl (mv rfl rfl (bv rfl (v_bin rfl rfl b_neq) ?_))
  refine bf hK ⟨[(3, hI 0), (5, hI x5), (6, slE eInt p0), E3, (8, hI a1), (14, .bool (decide (x5 ≠ 0)))], []⟩ ?_
  refine AW.cond rfl (fun hc => ?_) (fun hc => ?_)
  ·obtain ⟨hc, h⟩ := cT hc h
   refine AW.rgs rfl fun K hK => mv rfl rfl (mv rfl rfl ?_)
   refine bf hK ⟨[(2, hI x5)], []⟩ ?_
   have h := hr4 _ h
   obtain rfl := oi h
   exact AW.ret (ret_pure (.inr rfl) (resT rfl rfl) rfl trivial)
  obtain ⟨hc, h⟩ := cF hc h
  refine AW.skip ?_
  refine AW.rg rfl fun K hK => bv rfl (v_bin rfl rfl b_add) (mv rfl rfl ?_)
  refine b_nil (hK _ ?_)
  exact to_L ⟨IntKind.wrap .i64 (a1 + 1), (), h, rfl⟩
 obtain ⟨hc, h⟩ := cF hc h
 refine AW.exit ?_
 exact to_L ⟨(), (), h, rfl⟩
theorem w_lookahead_compare {p0 : TFirstSecondWord} {p1 : TFirstSecondWord} {r : Int} (h : m_lookahead_compare p0 p1 = some r) : Pure Tryz.prog 83 [.agg [hI p0.1, hI p0.2.1, .str p0.2.2], .agg [hI p1.1, hI p1.2.1, .str p1.2.2]] (· = hI r) := by
 unfold m_lookahead_compare at h
 refine Pure.of_body Tryz.func83 rfl rfl (lb rfl) fun hf => ?_
 unfold Tryz.f83
 dsimp only [enumS, Nat.reduceAdd]
 refine AW.rgs rfl fun K hK => b_op rfl (o_box rfl rfl rfl ?_)
 refine b_op rfl (o_box rfl rfl rfl ?_)
 refine mv rfl rfl ?_
 refine bf hK ⟨[(2, .fptr [hI p0.1, hI p0.2.1, .str p0.2.2] 0), (3, .fptr [hI p1.1, hI p1.2.1, .str p1.2.2] 0)], []⟩ ?_
 refine AW.dgs 13 follows rfl rfl fun K hK => ?_
 refine sv rfl (v_fieldAddrF fo107_0 rfl) ?_
 refine sv rfl (v_loadF ty3 rfl (l_lit rfl rfl)) ?_
 refine sv rfl (v_fieldAddrF fo107_0 rfl) ?_
 refine sv rfl (v_loadF ty3 rfl (l_lit rfl rfl)) ?_
 obtain ⟨x1, h2, h⟩ := bS h
 refine s_op rfl rfl (ops_call rfl rfl rfl rfl (ACallD.pure0 (w_cmp_Compare_int h2)) ?_)
 refine sv rfl (v_fieldAddrF fo107_1 rfl) ?_
 refine sv rfl (v_loadF ty3 rfl (l_lit rfl rfl)) ?_
 refine sv rfl (v_fieldAddrF fo107_1 rfl) ?_
 refine sv rfl (v_loadF ty3 rfl (l_lit rfl rfl)) ?_
 obtain ⟨x3, h4, h⟩ := bS h
 refine s_op rfl rfl (ops_call rfl rfl rfl rfl (ACallD.pure0 (w_cmp_Compare_int h4)) ?_)
 refine s_op rfl rfl (ops_bsl rfl rfl (as_of (cs := [hI x1, hI x3]) ty36 ty3 rfl rfl rfl rfl rfl) ?_)
 obtain ⟨x5, h6, h⟩ := bS h
 refine s_op rfl rfl (ops_call rfl rfl rfl rfl (ACallD.pure0 (w_cmp_Or_int h6)) ?_)
 refine sm rfl rfl ?_
 refine s_nil ?_
 refine bf hK ⟨[(4, hI x5)], []⟩ ?_
 obtain rfl := oi h
 exact AW.ret (ret_pure (.inr rfl) (resT rfl rfl) rfl trivial)
theorem w_slices_Index_Lstring_string {p0 : List (List UInt8)} {p1 : List UInt8} {r : Int} (h : m_slices_Index_Lstring_string p0 p1 = some r) : Pure Tryz.prog 34 [slE eStr p0, .str p1] (· = hI r) := by
 unfold m_slices_Index_Lstring_string at h
 refine Pure.of_body Tryz.func34 rfl rfl (lb rfl) fun hf => ?_
 unfold Tryz.f34
 dsimp only [enumS, Nat.reduceAdd]
 refine AW.rgs rfl fun K hK => mv rfl rfl ?_
 let P3 : ASf := fun t H => ⟨(0, slE eStr p0) :: (1, .str p1) :: t, H⟩
 refine bf hK (P3 [] []) ?_
 refine AW.seq ?_
 refine AW.rgs rfl fun K hK => mv rfl rfl (bv rfl (v_lenF rfl rfl ty22 rfl) (mv rfl rfl ?_))
 let E4 : Nat × HV := (7, hI ((p0).length : Int))
 refine bf hK (P3 [E4, (8, hI 0)] []) ?_
 refine AW.lpR h (by first | exact up_then | exact up_to) (S := Int) (V := Unit) (fun a v => (P3 [E4, (8, hI a)] [])) ?_ (X := Unit) (W := Unit) (fun a v => ⟨[], []⟩) (fun a7 w8 h => ?_) (fun a1 w2 st3 h hr4=> ?_)
 ·exact to_L ⟨(), rfl⟩
 ·refine AW.rgs rfl fun K hK => mv rfl rfl ?_
  refine bf hK ⟨[(4, hI (-1))], []⟩ ?_
  obtain rfl := oi h
  exact AW.ret (ret_pure (.inr rfl) (resT rfl rfl) rfl trivial)
 refine AW.rgs rfl fun K hK => bv rfl (v_bin rfl rfl b_lss) ?_
 refine bf hK (P3 [E4, (8, hI a1), (9, .bool (decide (a1 < ((p0).length : Int))))] []) ?_
 refine AW.cseq rfl (fun hc => ?_) (fun hc => ?_)
 ·obtain ⟨hc, h⟩ := cT hc h
  refine AW.skip ?_
  refine AW.seq (AW.block ?_)
  refine AW.rgs rfl fun K hK => mv rfl rfl (mv rfl rfl ?_)
  refine bf hK (P3 [(5, hI a1), E4, (8, hI a1)] []) ?_
  refine AW.rgs rfl fun K hK => mv rfl rfl (mv rfl rfl (mv rfl rfl ?_))
  obtain ⟨x5, h6, h⟩ := bS h
  refine bv rfl (v_idxF ty22 es22 rfl rfl (idx_lt h6)) (bv rfl (v_loadF ty9 rfl (l_cell eStr h6 (o := 0) rfl rfl)) (bv rfl (v_bin rfl rfl b_seql) ?_))
  refine bf hK (P3 [(5, hI a1), E4, (8, hI a1), (16, .bool (decide (p1 = x5)))] []) ?_
  refine AW.cond rfl (fun hc => ?_) (fun hc => ?_)
  ·obtain ⟨hc, h⟩ := cT hc h
   refine AW.rgs rfl fun K hK => mv rfl rfl (mv rfl rfl ?_)
   refine bf hK ⟨[(4, hI a1)], []⟩ ?_
   have h := hr4 _ h
   obtain rfl := oi h
   exact AW.ret (ret_pure (.inr rfl) (resT rfl rfl) rfl trivial)
  obtain ⟨hc, h⟩ := cF hc h
  refine AW.skip ?_
  refine AW.rg rfl fun K hK => bv rfl (v_bin rfl rfl b_add) (mv rfl rfl ?_)
  refine b_nil (hK _ ?_)
  exact to_L ⟨IntKind.wrap .i64 (a1 + 1), (), h, rfl⟩
 obtain ⟨hc, h⟩ := cF hc h
 refine AW.exit ?_
 exact to_L ⟨(), (), h, rfl⟩
theorem w_slices_Contains_Lstring_string {p0 : List (List UInt8)} {p1 : List UInt8} {r : Bool} (h : m_slices_Contains_Lstring_string p0 p1 = some r) : Pure Tryz.prog 33 [slE eStr p0, .str p1] (· = HV.bool r) := by
 unfold m_slices_Contains_Lstring_string at h
 refine Pure.of_body Tryz.func33 rfl rfl (lb rfl) fun hf => ?_
 unfold Tryz.f33
 dsimp only [enumS, Nat.reduceAdd]
 refine AW.rgs rfl fun K hK => mv rfl rfl ?_
 refine bf hK ⟨[(0, slE eStr p0), (1, .str p1)], []⟩ ?_
 refine AW.rgs rfl fun K hK => mv rfl rfl (mv rfl rfl ?_)
 obtain ⟨x1, h2, h⟩ := bS h
 refine b_op rfl (o_call rfl rfl rfl rfl (ACallD.pure0 (w_slices_Index_Lstring_string h2)) ?_)
 refine bv rfl (v_bin rfl rfl b_geq) (mv rfl rfl ?_)
 refine bf hK ⟨[(4, .bool (decide (0 ≤ x1)))], []⟩ ?_
 obtain rfl := oi h
 exact AW.ret (ret_pure (.inr rfl) (resT rfl rfl) rfl trivial)
theorem w_lookahead_words {p0 : Int} {p1 : Int} {p2 : List (List UInt8)} {r : Bool} (h : m_lookahead_words p0 p1 p2 = some r) : Pure Tryz.prog 84 [hI p0, hI p1, slE eStr p2] (· = HV.bool r) := by
 unfold m_lookahead_words at h
 refine Pure.of_body Tryz.func84 rfl rfl (lb rfl) fun hf => ?_
 unfold Tryz.f84
 dsimp only [enumS, Nat.reduceAdd]
 refine AW.rgs rfl fun K hK => mv rfl rfl ?_
 let P4 : ASf := fun t H => ⟨(0, hI p0) :: (1, hI p1) :: (2, slE eStr p2) :: t, H⟩
 refine bf hK (P4 [] []) ?_
 refine AW.seq ?_
 refine AW.rgs rfl fun K hK => mv rfl rfl (bv rfl (v_lenF rfl rfl ty22 rfl) (mv rfl rfl ?_))
 let E5 : Nat × HV := (10, hI ((p2).length : Int))
 refine bf hK (P4 [(9, slE eStr p2), E5, (11, hI 0)] []) ?_
 refine AW.lpR h (by first | exact up_then | exact up_to) (S := Int) (V := Unit) (fun a v => (P4 [(9, slE eStr p2), E5, (11, hI a)] [])) ?_ (X := Unit) (W := Unit) (fun a v => ⟨[], []⟩) (fun a17 w18 h => ?_) (fun a1 w2 st3 h hr4=> ?_)
 ·exact to_L ⟨(), rfl⟩
 ·refine AW.rgs rfl fun K hK => mv rfl rfl ?_
  refine bf hK ⟨[(6, .bool true)], []⟩ ?_
  obtain rfl := oi h
  exact AW.ret (ret_pure (.inr rfl) (resT rfl rfl) rfl trivial)
 refine AW.rgs rfl fun K hK => bv rfl (v_bin rfl rfl b_lss) ?_
 refine bf hK (P4 [(9, slE eStr p2), E5, (11, hI a1), (12, .bool (decide (a1 < ((p2).length : Int))))] []) ?_
 refine AW.cseq rfl (fun hc => ?_) (fun hc => ?_)
 ·obtain ⟨hc, h⟩ := cT hc h
  refine AW.skip ?_
  refine AW.seq (AW.block ?_)
  refine AW.rgs rfl fun K hK => mv rfl rfl ?_
  obtain ⟨x5, h6, h⟩ := bS h
  refine bv rfl (v_idxF ty22 es22 rfl rfl (idx_lt h6)) (bv rfl (v_loadF ty9 rfl (l_cell eStr h6 (o := 0) rfl rfl)) (mv rfl rfl (mv rfl rfl ?_)))
  refine bf hK (P4 [(7, hI a1), (8, .str x5), (9, slE eStr p2), E5, (11, hI a1)] []) ?_
  refine AW.seqJ h (S := Bool) (V := Unit) (fun a v => (P4 [(9, slE eStr p2), E5, (11, hI a1), (32, .bool a)] [])) (fun a7 w8 h => ?_) (fun k9 h => ?_)
  ·refine AW.cond rfl (fun hc => ?_) (fun hc => ?_)
   ·have h := ifT hc h
    refine AW.rgs rfl fun K hK => mv rfl rfl ?_
    refine bf hK ⟨[(6, .bool false)], []⟩ ?_
    have h := hr4 _ h
    obtain rfl := oi h
    exact AW.ret (ret_pure (.inr rfl) (resT rfl rfl) rfl trivial)
   have h := ifF (bF' hc) h
   refine AW.skip ?_
   refine AW.rg rfl fun K hK => bv rfl (v_bin rfl rfl b_add) (mv rfl rfl ?_)
   refine b_nil (hK _ ?_)
   exact to_L ⟨IntKind.wrap .i64 (a1 + 1), (), h, rfl⟩
  refine AW.rg rfl fun K hK => mv rfl rfl (bv rfl (v_lenS rfl rfl ty9 rfl) (mv rfl rfl (bv rfl (v_bin rfl rfl b_neq) (mv rfl rfl ?_))))
  by_cases hg16 : ((x5).length : Int) ≠ p1
  ·have h := ifT hg16 h
   refine b_F rfl rfl rfl rfl rfl (decide_eq_true hg16) ?_
   iterate 3 refine b_F rfl rfl rfl rfl rfl rfl ?_
   refine bv rfl (v_pickT rfl rfl rfl) (mv rfl rfl ?_)
   iterate 5 refine b_F rfl rfl rfl rfl rfl rfl ?_
   refine bv rfl (v_pickT rfl rfl rfl) ?_
   refine b_nil (hK _ ?_)
   exact to_L ⟨true, (), h, rfl⟩
  have h := ifF hg16 h
  refine b_T rfl rfl rfl rfl (decide_eq_false hg16) (o_val rfl (mv_val rfl rfl).2 ?_)
  refine b_T rfl rfl rfl rfl rfl (o_val rfl (mv_val rfl rfl).2 ?_)
  obtain ⟨x10, h11, h⟩ := bS h
  refine b_T rfl rfl rfl rfl rfl (o_call rfl rfl rfl rfl (ACallD.pure0 (w_word_Check h11)) ?_)
  refine b_T rfl rfl rfl rfl rfl (o_val rfl (v_bin rfl rfl b_neq) ?_)
  refine bv rfl (v_pickF rfl rfl rfl) (mv rfl rfl ?_)
  by_cases hg15 : x10 ≠ 0
  ·have h := ifT hg15 h
   refine b_F rfl rfl rfl rfl rfl (decide_eq_true hg15) ?_
   iterate 4 refine b_F rfl rfl rfl rfl rfl rfl ?_
   refine bv rfl (v_pickT rfl rfl rfl) ?_
   refine b_nil (hK _ ?_)
   exact to_L ⟨true, (), h, rfl⟩
  have h := ifF hg15 h
  refine b_T rfl rfl rfl rfl (decide_eq_false hg15) (o_val rfl (mv_val rfl rfl).2 ?_)
  refine b_T rfl rfl rfl rfl rfl (o_val rfl (mv_val rfl rfl).2 ?_)
  obtain ⟨h12, h⟩ := ifN h
  refine b_T rfl rfl rfl rfl rfl (o_val rfl (v_sliceF eStr ty22 es22 rfl rfl rfl h12) ?_)
  refine b_T rfl rfl rfl rfl rfl (o_val rfl (mv_val rfl rfl).2 ?_)
  obtain ⟨x13, h14, h⟩ := bS h
  refine b_T rfl rfl rfl rfl rfl (o_call rfl rfl rfl rfl (ACallD.pure0 (w_slices_Contains_Lstring_string h14)) ?_)
  refine bv rfl (v_pickF rfl rfl rfl) ?_
  refine b_nil (hK _ ?_)
  exact to_L ⟨x13, (), h, rfl⟩
 obtain ⟨hc, h⟩ := cF hc h
 refine AW.exit ?_
 exact to_L ⟨(), (), h, rfl⟩
theorem w_lookahead_formed {p0 : TLettersBlockBaseSwaps} {r : Bool} (h : m_lookahead_formed p0 = some r) : Pure Tryz.prog 53 [.agg [hI p0.1, hI p0.2.1, slE eStr p0.2.2.1, slE eFirstSecondWord p0.2.2.2]] (· = HV.bool r) := by
 unfold m_lookahead_formed at h
 refine Pure.of_body Tryz.func53 rfl rfl (lb rfl) fun hf => ?_
 unfold Tryz.f53
 dsimp only [enumS, Nat.reduceAdd]
 refine AW.rgs rfl fun K hK => b_op rfl (o_box rfl rfl rfl ?_)
 refine mv rfl rfl ?_
 let E6 : Nat × HV := (1, .fptr [hI p0.1, hI p0.2.1, slE eStr p0.2.2.1, slE eFirstSecondWord p0.2.2.2] 0)
 refine bf hK ⟨[E6], []⟩ ?_
 refine AW.seq ?_
 refine AW.seqJ h (S := Bool) (V := Unit) (fun a v => ⟨[E6, (41, .bool a)], []⟩) (fun a1 w2 h => ?_) (fun k3 h => ?_)
 ·refine AW.cond rfl (fun hc => ?_) (fun hc => ?_)
  ·have h := ifT hc h
   refine AW.rgs rfl fun K hK => mv rfl rfl ?_
   refine bf hK ⟨[(2, .bool false)], []⟩ ?_
   obtain rfl := oi h
   exact AW.ret (ret_pure (.inr rfl) (resT rfl rfl) rfl trivial)
  have h := ifF (bF' hc) h
  refine AW.skip ?_
  refine AW.rgs rfl fun K hK => mv rfl rfl ?_
  refine bf hK ⟨[E6, (3, .v (.slice none 0 0))], []⟩ ?_
  refine AW.seq ?_
  refine AW.rgs rfl fun K hK => bv rfl (v_fieldAddrF fo60_3 rfl) (bv rfl (v_loadF ty58 rfl (l_lit rfl rfl)) (bv rfl (v_lenF rfl rfl ty58 rfl) (mv rfl rfl ?_)))
  let E7 : Nat × HV := (43, slE eFirstSecondWord p0.2.2.2)
  let E8 : Nat × HV := (44, hI ((p0.2.2.2).length : Int))
  refine bf hK ⟨[E6, (3, .v (.slice none 0 0)), E7, E8, (45, hI 0)], []⟩ ?_
  refine AW.lpR h (by first | exact up_then | exact up_to) (S := Int × (List (List UInt8))) (V := Nat) (fun a v => ⟨[E6, (3, .ar 53086 v eStr.k 0 ((a.2).length)), E7, E8, (45, hI a.1)], [(53086, v, .arr eStr.k 9 (eStr.E a.2))]⟩) ?_ (X := (List (List UInt8))) (W := Nat) (fun a v => ⟨[E6, (3, .ar 53086 v eStr.k 0 ((a).length))], [(53086, v, .arr eStr.k 9 (eStr.E a))]⟩) (fun a24 w25 h => ?_) (fun a4 w5 st6 h hr7=> ?_)
  ·refine to_bind (to_own 53086 3 eStr.k 9 rfl fun v23 => ?_)
   exact to_le (s' := ⟨[E6, (3, .ar 53086 v23 eStr.k 0 ((([] : List (List UInt8))).length)), E7, E8, (45, hI 0)], [(53086, v23, .arr eStr.k 9 (eStr.E ([] : List (List UInt8))))]⟩) (AS.le_of ⟨rfl, arl (by first | rfl | simp only [List.length_set, sortI_len, sortS_len, List.length_reverse]), rfl, rfl, rfl, trivial⟩ ⟨rfl, trivial⟩) ⟨v23, rfl⟩
  ·refine AW.seqJ h (S := Bool) (V := Unit) (fun a v => ⟨[(2, .bool a)], []⟩) (fun a26 w27 h => ?_) (fun k28 h => ?_)
   ·obtain rfl := oi h
    exact AW.ret (ret_pure (.inr rfl) (resT rfl rfl) rfl trivial)
   refine AW.rg rfl fun K hK => bv rfl (v_fieldAddrF fo60_0 rfl) (bv rfl (v_loadF ty3 rfl (l_lit rfl rfl)) (bv rfl (v_fieldAddrF fo60_1 rfl) (bv rfl (v_loadF ty3 rfl (l_lit rfl rfl)) (bv rfl (v_fieldAddrF fo60_2 rfl) (bv rfl (v_loadF ty22 rfl (l_lit rfl rfl)) ?_)))))
   obtain ⟨x29, h30, h⟩ := bS h
   refine b_op rfl (o_call rfl rfl rfl rfl (ACallD.pure0 (w_lookahead_words h30)) ?_)
   refine mv rfl rfl ?_
   by_cases hg33 : x29 = true
   ·have h := ifT hg33 h
    refine b_T rfl rfl rfl rfl hg33 (o_val rfl (v_fieldAddrF fo60_0 rfl) ?_)
    refine b_T rfl rfl rfl rfl rfl (o_val rfl (v_loadF ty3 rfl (l_lit rfl rfl)) ?_)
    refine b_T rfl rfl rfl rfl rfl (o_val rfl (v_fieldAddrF fo60_1 rfl) ?_)
    refine b_T rfl rfl rfl rfl rfl (o_val rfl (v_loadF ty3 rfl (l_lit rfl rfl)) ?_)
    refine b_T rfl rfl rfl rfl rfl (o_val rfl (v_bin rfl rfl b_mul) ?_)
    refine b_T rfl rfl rfl rfl rfl (o_val rfl (mv_val rfl rfl).2 ?_)
    obtain ⟨x31, h32, h⟩ := bS h
    refine b_T rfl rfl rfl rfl rfl (o_call rfl rfl rfl rfl (((w_lookahead_words h32).fresh (by simp only [clean, cleanL, and_self]) rfl).callD 2 (mc rfl (mc rfl (mc (frz_slE eStr (l := a24) rfl fun _ _ => rfl) rfl)))) ?_)
    refine bv rfl (v_pickT rfl rfl rfl) (mv rfl rfl ?_)
    refine b_nil (hK _ ?_)
    exact to_L ⟨x31, (), h, rfl⟩
   have h := ifF hg33 h
   refine b_F rfl rfl rfl rfl rfl (bF hg33) ?_
   iterate 6 refine b_F rfl rfl rfl rfl rfl rfl ?_
   refine bv rfl (v_pickF rfl rfl rfl) (mv rfl rfl ?_)
   refine b_nil (hK _ ?_)
   exact to_L ⟨false, (), h, rfl⟩
  refine AW.rgs rfl fun K hK => bv rfl (v_bin rfl rfl b_lss) ?_
  let E9 : Nat × HV := (3, .ar 53086 w5 eStr.k 0 ((a4.2).length))
  let O10 : Nat × Nat × AObj := (53086, w5, .arr eStr.k 9 (eStr.E a4.2))
  refine bf hK ⟨[E6, E9, E7, E8, (45, hI a4.1), (46, .bool (decide (a4.1 < ((p0.2.2.2).length : Int))))], [O10]⟩ ?_
  refine AW.cseq rfl (fun hc => ?_) (fun hc => ?_)
  ·obtain ⟨hc, h⟩ := cT hc h
   refine AW.skip ?_
   refine AW.seq (AW.block ?_)
   refine AW.rgs rfl fun K hK => mv rfl rfl ?_
   obtain ⟨x8, h9, h⟩ := bS h
   refine bv rfl (v_idxF ty58 es58 rfl rfl (idx_lt h9)) (bv rfl (v_loadF ty107 rfl (l_agg eFirstSecondWord h9 rfl rfl)) ?_)
   refine b_op rfl (o_alloc (fid := 53) (zs := [hI 0, hI 0, .str nS]) 53005 rfl rfl ty107 rfl (fun v10 => ?_))
   refine mv rfl rfl ?_
   refine b_op rfl (o_store (cs := [hI x8.1, hI x8.2.1, .str x8.2.2]) (zs := [hI x8.1, hI x8.2.1, .str x8.2.2]) rfl rfl rfl ty107 rfl rfl rfl rfl rfl ?_)
   refine bf hK ⟨[E6, E9, (4, hI a4.1), (5, .ptr 53005 v10 0), E7, E8, (45, hI a4.1)], [O10, (53005, v10, .arr 3 107 [hI x8.1, hI x8.2.1, .str x8.2.2])]⟩ ?_
   refine AW.seq ?_
   refine AW.seqJ h (S := Bool) (V := Unit) (fun a v => ⟨[E6, E9, (5, .ptr 53005 v10 0), E7, E8, (45, hI a4.1), (81, .bool a)], [(53005, v10, .arr 3 107 [hI x8.1, hI x8.2.1, .str x8.2.2]), O10]⟩) (fun a11 w12 h => ?_) (fun k13 h => ?_)
   ·refine AW.cond rfl (fun hc => ?_) (fun hc => ?_)
    ·have h := ifT hc h
     refine AW.rgs rfl fun K hK => mv rfl rfl ?_
     refine bf hK ⟨[(2, .bool false)], []⟩ ?_
     have h := hr7 _ h
     obtain rfl := oi h
     exact AW.ret (ret_pure (.inr rfl) (resT rfl rfl) rfl trivial)
    have h := ifF (bF' hc) h
    refine AW.skip ?_
    refine AW.rg rfl fun K hK => mv rfl rfl (bv rfl (v_fieldAddrP fo107_2 rfl rfl) (bv rfl (v_loadP ty9 rfl rfl (l_lit rfl rfl)) ?_))
    refine b_op rfl (o_bsl rfl rfl (as_of (cs := [.str x8.2.2]) ty22 ty9 rfl rfl rfl rfl rfl) ?_)
    obtain ⟨h15, h⟩ := ifN h
    refine b_op rfl (o_appE eStr (l := a4.2) (m := [x8.2.2]) rfl rfl ty22 ty22 ty9 rfl rfl rfl rfl rfl h15 (fun v14 => ?_))
    refine mv rfl rfl ?_
    refine bf hK ⟨[E6, (3, .ar 53086 v14 eStr.k 0 ((a4.2 ++ [x8.2.2]).length)), E7, E8, (45, hI a4.1)], [(53086, v14, .arr eStr.k 9 (eStr.E (a4.2 ++ [x8.2.2])))]⟩ ?_
    refine AW.rg rfl fun K hK => bv rfl (v_bin rfl rfl b_add) (mv rfl rfl ?_)
    refine b_nil (hK _ ?_)
    exact to_L ⟨(IntKind.wrap .i64 (a4.1 + 1), a4.2 ++ [x8.2.2]), v14, h, rfl⟩
   refine AW.dg 32 follows rfl rfl fun K hK => ?_
   refine sv rfl (v_fieldAddrP fo107_0 rfl rfl) ?_
   refine sv rfl (v_loadP ty3 rfl rfl (l_lit rfl rfl)) ?_
   refine sv rfl (v_fieldAddrP fo107_1 rfl rfl) ?_
   refine sv rfl (v_loadP ty3 rfl rfl (l_lit rfl rfl)) ?_
   refine sv rfl (v_min rfl rfl rfl) ?_
   refine sv rfl (v_bin rfl rfl b_lss) ?_
   refine sm rfl rfl ?_
   by_cases hg22 : (min x8.1 x8.2.1) < 0
   ·have h := ifT hg22 h
    refine s_F rfl rfl rfl rfl rfl (decide_eq_true hg22) ?_
    iterate 8 refine s_F rfl rfl rfl rfl rfl rfl ?_
    refine sv rfl (v_pickT rfl rfl rfl) ?_
    refine sm rfl rfl ?_
    iterate 3 refine s_F rfl rfl rfl rfl rfl rfl ?_
    refine s_U rfl rfl rfl rfl rfl ?_
    refine s_U rfl rfl rfl rfl rfl ?_
    refine s_U rfl rfl rfl rfl rfl ?_
    refine s_U rfl rfl rfl rfl rfl ?_
    refine s_U rfl rfl rfl rfl rfl ?_
    refine s_U rfl rfl rfl rfl rfl ?_
    refine s_U rfl rfl rfl rfl rfl ?_
    refine s_U rfl rfl rfl rfl rfl ?_
    refine s_U rfl rfl rfl rfl rfl ?_
    refine s_F rfl rfl rfl rfl rfl rfl ?_
    refine sv rfl (v_pickT rfl rfl rfl) ?_
    refine s_nil ?_
    refine b_nil (hK _ ?_)
    exact to_L ⟨true, (), h, rfl⟩
   have h := ifF hg22 h
   refine s_T rfl rfl rfl rfl rfl (decide_eq_false hg22) (ops_val rfl (v_fieldAddrP fo107_0 rfl rfl) ?_)
   refine s_T rfl rfl rfl rfl rfl rfl (ops_val rfl (v_loadP ty3 rfl rfl (l_lit rfl rfl)) ?_)
   refine s_T rfl rfl rfl rfl rfl rfl (ops_val rfl (v_fieldAddrP fo107_1 rfl rfl) ?_)
   refine s_T rfl rfl rfl rfl rfl rfl (ops_val rfl (v_loadP ty3 rfl rfl (l_lit rfl rfl)) ?_)
   refine s_T rfl rfl rfl rfl rfl rfl (ops_val rfl (v_max rfl rfl rfl) ?_)
   refine s_T rfl rfl rfl rfl rfl rfl (ops_val rfl (v_fieldAddrF fo60_2 rfl) ?_)
   refine s_T rfl rfl rfl rfl rfl rfl (ops_val rfl (v_loadF ty22 rfl (l_lit rfl rfl)) ?_)
   refine s_T rfl rfl rfl rfl rfl rfl (ops_val rfl (v_lenF rfl rfl ty22 rfl) ?_)
   refine s_T rfl rfl rfl rfl rfl rfl (ops_val rfl (v_bin rfl rfl b_geq) ?_)
   refine sv rfl (v_pickF rfl rfl rfl) ?_
   refine sm rfl rfl ?_
   by_cases hg21 : ((p0.2.2.1).length : Int) ≤ (max x8.1 x8.2.1)
   ·have h := ifT hg21 h
    refine s_F rfl rfl rfl rfl rfl (decide_eq_true hg21) ?_
    iterate 2 refine s_F rfl rfl rfl rfl rfl rfl ?_
    refine s_U rfl rfl rfl rfl rfl ?_
    refine s_U rfl rfl rfl rfl rfl ?_
    refine s_U rfl rfl rfl rfl rfl ?_
    refine s_U rfl rfl rfl rfl rfl ?_
    refine s_U rfl rfl rfl rfl rfl ?_
    refine s_U rfl rfl rfl rfl rfl ?_
    refine s_U rfl rfl rfl rfl rfl ?_
    refine s_U rfl rfl rfl rfl rfl ?_
    refine s_U rfl rfl rfl rfl rfl ?_
    refine s_F rfl rfl rfl rfl rfl rfl ?_
    refine sv rfl (v_pickT rfl rfl rfl) ?_
    refine s_nil ?_
    refine b_nil (hK _ ?_)
    exact to_L ⟨true, (), h, rfl⟩
   have h := ifF hg21 h
   refine s_T rfl rfl rfl rfl rfl (decide_eq_false hg21) (ops_val rfl (mv_val rfl rfl).2 ?_)
   refine s_T rfl rfl rfl rfl rfl rfl (ops_val rfl (v_bin rfl rfl b_gtr) ?_)
   refine s_T rfl rfl rfl rfl rfl rfl (ops_val rfl (mv_val rfl rfl).2 ?_)
   by_cases hg20 : 0 < a4.1
   ·have h := ifT hg20 h
    refine s_T rfl rfl rfl rfl rfl (decide_eq_true hg20) (ops_val rfl (v_fieldAddrF fo60_3 rfl) ?_)
    refine s_T rfl rfl rfl rfl rfl rfl (ops_val rfl (v_loadF ty58 rfl (l_lit rfl rfl)) ?_)
    refine s_T rfl rfl rfl rfl rfl rfl (ops_val rfl (mv_val rfl rfl).2 ?_)
    refine s_T rfl rfl rfl rfl rfl rfl (ops_val rfl (v_bin rfl rfl b_sub) ?_)
    obtain ⟨x16, h17, h⟩ := bS h
    refine s_T rfl rfl rfl rfl rfl rfl (ops_val rfl (v_idxF ty58 es58 rfl rfl (idx_lt h17)) ?_)
    refine s_T rfl rfl rfl rfl rfl rfl (ops_val rfl (v_loadF ty107 rfl (l_agg eFirstSecondWord h17 rfl rfl)) ?_)
    refine s_T rfl rfl rfl rfl rfl rfl (ops_val rfl (v_loadP ty107 rfl rfl (l_litA rfl (lb rfl) rfl)) ?_)
    obtain ⟨x18, h19, h⟩ := bS h
    refine s_T rfl rfl rfl rfl rfl rfl (ops_call rfl rfl rfl rfl (ACallD.pure0 (w_lookahead_compare h19)) ?_)
    refine s_T rfl rfl rfl rfl rfl rfl (ops_val rfl (v_bin rfl rfl b_geq) ?_)
    refine s_T rfl rfl rfl rfl rfl rfl (ops_val rfl (v_pickT rfl rfl rfl) ?_)
    refine sv rfl (v_pickF rfl rfl rfl) ?_
    refine s_nil ?_
    refine b_nil (hK _ ?_)
    exact to_L ⟨decide (0 ≤ x18), (), h, rfl⟩
   have h := ifF hg20 h
   refine s_F rfl rfl rfl rfl rfl (decide_eq_false hg20) ?_
   iterate 8 refine s_F rfl rfl rfl rfl rfl rfl ?_
   refine s_T rfl rfl rfl rfl rfl rfl (ops_val rfl (v_pickF rfl rfl rfl) ?_)
   refine sv rfl (v_pickF rfl rfl rfl) ?_
   refine s_nil ?_
   refine b_nil (hK _ ?_)
   exact to_L ⟨false, (), h, rfl⟩
  obtain ⟨hc, h⟩ := cF hc h
  refine AW.exit ?_
  exact to_L ⟨a4.2, w5, h, rfl⟩
 refine AW.rg rfl fun K hK => bv rfl (v_fieldAddrF fo60_0 rfl) (bv rfl (v_loadF ty3 rfl (l_lit rfl rfl)) (bv rfl (v_bin rfl rfl b_lss) (mv rfl rfl ?_)))
 by_cases hg39 : p0.1 < 2
 ·have h := ifT hg39 h
  refine b_F rfl rfl rfl rfl rfl (decide_eq_true hg39) ?_
  iterate 2 refine b_F rfl rfl rfl rfl rfl rfl ?_
  refine bv rfl (v_pickT rfl rfl rfl) (mv rfl rfl ?_)
  iterate 3 refine b_F rfl rfl rfl rfl rfl rfl ?_
  refine bv rfl (v_pickT rfl rfl rfl) (mv rfl rfl ?_)
  iterate 3 refine b_F rfl rfl rfl rfl rfl rfl ?_
  refine bv rfl (v_pickT rfl rfl rfl) (mv rfl rfl ?_)
  iterate 4 refine b_F rfl rfl rfl rfl rfl rfl ?_
  refine bv rfl (v_pickT rfl rfl rfl) (mv rfl rfl ?_)
  iterate 4 refine b_F rfl rfl rfl rfl rfl rfl ?_
  refine bv rfl (v_pickT rfl rfl rfl) (mv rfl rfl ?_)
  iterate 4 refine b_F rfl rfl rfl rfl rfl rfl ?_
  refine bv rfl (v_pickT rfl rfl rfl) ?_
  refine b_nil (hK _ ?_)
  exact to_L ⟨true, (), h, rfl⟩
 have h := ifF hg39 h
 refine b_T rfl rfl rfl rfl (decide_eq_false hg39) (o_val rfl (v_fieldAddrF fo60_0 rfl) ?_)
 refine b_T rfl rfl rfl rfl rfl (o_val rfl (v_loadF ty3 rfl (l_lit rfl rfl)) ?_)
 refine b_T rfl rfl rfl rfl rfl (o_val rfl (v_bin rfl rfl b_gtr) ?_)
 refine bv rfl (v_pickF rfl rfl rfl) (mv rfl rfl ?_)
 by_cases hg38 : 16 < p0.1
 ·have h := ifT hg38 h
  refine b_F rfl rfl rfl rfl rfl (decide_eq_true hg38) ?_
  iterate 2 refine b_F rfl rfl rfl rfl rfl rfl ?_
  refine bv rfl (v_pickT rfl rfl rfl) (mv rfl rfl ?_)
  iterate 3 refine b_F rfl rfl rfl rfl rfl rfl ?_
  refine bv rfl (v_pickT rfl rfl rfl) (mv rfl rfl ?_)
  iterate 4 refine b_F rfl rfl rfl rfl rfl rfl ?_
  refine bv rfl (v_pickT rfl rfl rfl) (mv rfl rfl ?_)
  iterate 4 refine b_F rfl rfl rfl rfl rfl rfl ?_
  refine bv rfl (v_pickT rfl rfl rfl) (mv rfl rfl ?_)
  iterate 4 refine b_F rfl rfl rfl rfl rfl rfl ?_
  refine bv rfl (v_pickT rfl rfl rfl) ?_
  refine b_nil (hK _ ?_)
  exact to_L ⟨true, (), h, rfl⟩
 have h := ifF hg38 h
 refine b_T rfl rfl rfl rfl (decide_eq_false hg38) (o_val rfl (v_fieldAddrF fo60_1 rfl) ?_)
 refine b_T rfl rfl rfl rfl rfl (o_val rfl (v_loadF ty3 rfl (l_lit rfl rfl)) ?_)
 refine b_T rfl rfl rfl rfl rfl (o_val rfl (v_bin rfl rfl b_lss) ?_)
 refine bv rfl (v_pickF rfl rfl rfl) (mv rfl rfl ?_)
 by_cases hg37 : p0.2.1 < 1
 ·have h := ifT hg37 h
  refine b_F rfl rfl rfl rfl rfl (decide_eq_true hg37) ?_
  iterate 2 refine b_F rfl rfl rfl rfl rfl rfl ?_
  refine bv rfl (v_pickT rfl rfl rfl) (mv rfl rfl ?_)
  iterate 4 refine b_F rfl rfl rfl rfl rfl rfl ?_
  refine bv rfl (v_pickT rfl rfl rfl) (mv rfl rfl ?_)
  iterate 4 refine b_F rfl rfl rfl rfl rfl rfl ?_
  refine bv rfl (v_pickT rfl rfl rfl) (mv rfl rfl ?_)
  iterate 4 refine b_F rfl rfl rfl rfl rfl rfl ?_
  refine bv rfl (v_pickT rfl rfl rfl) ?_
  refine b_nil (hK _ ?_)
  exact to_L ⟨true, (), h, rfl⟩
 have h := ifF hg37 h
 refine b_T rfl rfl rfl rfl (decide_eq_false hg37) (o_val rfl (v_fieldAddrF fo60_1 rfl) ?_)
 refine b_T rfl rfl rfl rfl rfl (o_val rfl (v_loadF ty3 rfl (l_lit rfl rfl)) ?_)
 refine b_T rfl rfl rfl rfl rfl (o_val rfl (v_bin rfl rfl b_gtr) ?_)
 refine bv rfl (v_pickF rfl rfl rfl) (mv rfl rfl ?_)
 by_cases hg36 : 8 < p0.2.1
 ·have h := ifT hg36 h
  refine b_F rfl rfl rfl rfl rfl (decide_eq_true hg36) ?_
  iterate 3 refine b_F rfl rfl rfl rfl rfl rfl ?_
  refine bv rfl (v_pickT rfl rfl rfl) (mv rfl rfl ?_)
  iterate 4 refine b_F rfl rfl rfl rfl rfl rfl ?_
  refine bv rfl (v_pickT rfl rfl rfl) (mv rfl rfl ?_)
  iterate 4 refine b_F rfl rfl rfl rfl rfl rfl ?_
  refine bv rfl (v_pickT rfl rfl rfl) ?_
  refine b_nil (hK _ ?_)
  exact to_L ⟨true, (), h, rfl⟩
 have h := ifF hg36 h
 refine b_T rfl rfl rfl rfl (decide_eq_false hg36) (o_val rfl (v_fieldAddrF fo60_2 rfl) ?_)
 refine b_T rfl rfl rfl rfl rfl (o_val rfl (v_loadF ty22 rfl (l_lit rfl rfl)) ?_)
 refine b_T rfl rfl rfl rfl rfl (o_val rfl (v_lenF rfl rfl ty22 rfl) ?_)
 refine b_T rfl rfl rfl rfl rfl (o_val rfl (v_bin rfl rfl b_lss) ?_)
 refine bv rfl (v_pickF rfl rfl rfl) (mv rfl rfl ?_)
 by_cases hg35 : ((p0.2.2.1).length : Int) < 2
 ·have h := ifT hg35 h
  refine b_F rfl rfl rfl rfl rfl (decide_eq_true hg35) ?_
  iterate 3 refine b_F rfl rfl rfl rfl rfl rfl ?_
  refine bv rfl (v_pickT rfl rfl rfl) (mv rfl rfl ?_)
  iterate 4 refine b_F rfl rfl rfl rfl rfl rfl ?_
  refine bv rfl (v_pickT rfl rfl rfl) ?_
  refine b_nil (hK _ ?_)
  exact to_L ⟨true, (), h, rfl⟩
 have h := ifF hg35 h
 refine b_T rfl rfl rfl rfl (decide_eq_false hg35) (o_val rfl (v_fieldAddrF fo60_2 rfl) ?_)
 refine b_T rfl rfl rfl rfl rfl (o_val rfl (v_loadF ty22 rfl (l_lit rfl rfl)) ?_)
 refine b_T rfl rfl rfl rfl rfl (o_val rfl (v_lenF rfl rfl ty22 rfl) ?_)
 refine b_T rfl rfl rfl rfl rfl (o_val rfl (v_bin rfl rfl b_gtr) ?_)
 refine bv rfl (v_pickF rfl rfl rfl) (mv rfl rfl ?_)
 by_cases hg34 : 16 < ((p0.2.2.1).length : Int)
 ·have h := ifT hg34 h
  refine b_F rfl rfl rfl rfl rfl (decide_eq_true hg34) ?_
  iterate 3 refine b_F rfl rfl rfl rfl rfl rfl ?_
  refine bv rfl (v_pickT rfl rfl rfl) ?_
  refine b_nil (hK _ ?_)
  exact to_L ⟨true, (), h, rfl⟩
 have h := ifF hg34 h
 refine b_T rfl rfl rfl rfl (decide_eq_false hg34) (o_val rfl (v_fieldAddrF fo60_3 rfl) ?_)
 refine b_T rfl rfl rfl rfl rfl (o_val rfl (v_loadF ty58 rfl (l_lit rfl rfl)) ?_)
 refine b_T rfl rfl rfl rfl rfl (o_val rfl (v_lenF rfl rfl ty58 rfl) ?_)
 refine b_T rfl rfl rfl rfl rfl (o_val rfl (v_bin rfl rfl b_gtr) ?_)
 refine bv rfl (v_pickF rfl rfl rfl) ?_
 refine b_nil (hK _ ?_)
 exact to_L ⟨decide (64 < ((p0.2.2.2).length : Int)), (), h, rfl⟩
end Go.AW

namespace Go.AW
open Go Go.Proofs
set_option maxHeartbeats 1600000
set_option maxRecDepth 100000
set_option linter.unusedVariables false
theorem w_lookahead_Encode_1 {p0 : Int} {c0 : TLettersBlockBaseSwaps} {r : Bool} (h : m_lookahead_Encode_1 p0 c0 = some r) : Pure Tryz.prog 55 [hI p0, .fptr [hI c0.1, hI c0.2.1, slE eStr c0.2.2.1, slE eFirstSecondWord c0.2.2.2] 0] (· = HV.bool r) := by
 unfold m_lookahead_Encode_1 at h
 refine Pure.of_body Tryz.func55 rfl rfl (lb rfl) fun hf => ?_
 unfold Tryz.f55
 dsimp only [enumS, Nat.reduceAdd]
 refine AW.rgs rfl fun K hK => mv rfl rfl ?_
 refine bf hK ⟨[(0, hI p0), (1, .fptr [hI c0.1, hI c0.2.1, slE eStr c0.2.2.1, slE eFirstSecondWord c0.2.2.2] 0)], []⟩ ?_
 refine AW.seqJ h (S := Bool) (V := Unit) (fun a v => ⟨[(3, .bool a)], []⟩) (fun a1 w2 h => ?_) (fun k3 h => ?_)
 ·obtain rfl := oi h
  exact AW.ret (ret_pure (.inr rfl) (resT rfl rfl) rfl trivial)
 refine AW.rg rfl fun K hK => mv rfl rfl (bv rfl (v_bin rfl rfl b_lss) (mv rfl rfl ?_))
 by_cases hg4 : p0 < 0
 ·have h := ifT hg4 h
  refine b_F rfl rfl rfl rfl rfl (decide_eq_true hg4) ?_
  iterate 4 refine b_F rfl rfl rfl rfl rfl rfl ?_
  refine bv rfl (v_pickT rfl rfl rfl) (mv rfl rfl ?_)
  refine b_nil (hK _ ?_)
  exact to_L ⟨true, (), h, rfl⟩
 have h := ifF hg4 h
 refine b_T rfl rfl rfl rfl (decide_eq_false hg4) (o_val rfl (mv_val rfl rfl).2 ?_)
 refine b_T rfl rfl rfl rfl rfl (o_val rfl (v_fieldAddrF fo60_2 rfl) ?_)
 refine b_T rfl rfl rfl rfl rfl (o_val rfl (v_loadF ty22 rfl (l_lit rfl rfl)) ?_)
 refine b_T rfl rfl rfl rfl rfl (o_val rfl (v_lenF rfl rfl ty22 rfl) ?_)
 refine b_T rfl rfl rfl rfl rfl (o_val rfl (v_bin rfl rfl b_geq) ?_)
 refine bv rfl (v_pickF rfl rfl rfl) (mv rfl rfl ?_)
 refine b_nil (hK _ ?_)
 exact to_L ⟨decide (((c0.2.2.1).length : Int) ≤ p0), (), h, rfl⟩
end Go.AW


import Derived.Test.YtlddcjolelmpmaaGreatBt2
import Derived.Lib.Bytealg
import Derived.Lib.Slices
import Derived.Lib.Strings
import Derived.Lib.Walk
import Derived.Shelf.Slices.CompactI
import Derived.Shelf.SortM.Plain
import Derived.Shelf.SortM.SortNone
import Derived.Shelf.Strings.Count
import Derived.Test.YtlddcjolelmpmaaGreatChecked
import Derived.Test.YtlddcjolelmpmaaGreatProg
set_option linter.unusedSimpArgs false
set_option linter.unusedVariables false
namespace Go.AW
open Go
def plainOp : Op → Bool
 | .move _ | .assign _ | .fieldAddr .. | .indexAddr .. => true
 | _ => false
section
variable {P : Program} {ro : Option Nat} {N B : Nat} {s : AS} {μ : Mu} {a : Act} {w : World}
theorem aval_free (hs : SRel ro N B μ s a w) (o : Oper) {R : HV → Prop} (hp : plainOp o.op = true) (h : aval P o.op s R) :
  ∃ v, ∀ w', (execOp a.eval o).run P w' = .ok (.value v) w' := by
 unfold aval at h
 split at h
 ·rename_i x hop
  exact ⟨a.eval x, fun w' => by simp [execOp, hop]⟩
 ·rename_i x hop
  exact ⟨a.eval x, fun w' => by simp [execOp, hop]⟩
 all_goals first
  | (rename_i hop; rw [hop] at hp; cases hp; done)
  | exact h.elim
  | skip
 ·rename_i S x f hop
  split at h
  ·rename_i o' T id ver off hf hx
   obtain ⟨fs, fd, hu, hfd, rfl, hT, h0⟩ := fieldOf_spec hf
   obtain ⟨hlive, h⟩ := h
   rcases hs.ev hx with ⟨b, hl, he⟩ | ⟨hd, ad, he⟩
   ·exact ⟨.pointer (some ⟨b, off + fd.offset, none⟩), fun w' => by simp [execOp, hop, he, Instr.fieldAt, Instr.sureAddr, hu, hfd, fieldPlace, qa6 hT, h0, Addr.add_lit]⟩
   ·exact absurd hd (hs.notDead hlive)
  ·rename_i o' T cs off hf hx
   obtain ⟨fs, fd, hu, hfd, rfl, hT, h0⟩ := fieldOf_spec hf
   obtain ⟨h9, b, base, vs, he, ho, hsg, hl⟩ := hs.ev hx
   exact ⟨.pointer (some ⟨b, base + (off + fd.offset), none⟩), fun w' => by simp [execOp, hop, he, Instr.fieldAt, Instr.sureAddr, hu, hfd, fieldPlace, qa6 hT, h0, Addr.add_lit, Nat.add_assoc]⟩
  ·exact h.elim
 ·rename_i t x i hop
  split at h
  ·rename_i e sz by' z k' k n cs ki j hT hk hx hi
   obtain ⟨rfl, h0, h1, h⟩ := h
   obtain ⟨hi', _⟩ := hs.ev hi
   obtain ⟨h9, hcl, _, ⟨hn0, _⟩ | ⟨b, off, cap, vs, he, hcap, ho, hsg, hl⟩⟩ := hs.ev hx
   ·omega
   ·have hu := qaD hT
    have hz := fun w => elemSize_slice hT rfl hk w
    exact ⟨.pointer (some ⟨b, off + j.toNat * k, none⟩), fun w' => by simp [execOp, hop, he, hi', Instr.indexAt, asIntOf, hu, h0, h1, hz, Addr.add_lit]⟩
  ·rename_i e sz by' z k' id ver k off n ki j hT hk hx hi
   obtain ⟨rfl, h0, h1, hlive, h⟩ := h
   obtain ⟨hi', _⟩ := hs.ev hi
   have hu := qaD hT
   have hz := fun w => elemSize_slice hT rfl hk w
   rcases hs.ev hx with ⟨l, hl, ⟨_, _, hn, _⟩ | ⟨b, cap, cur, e', rfl, he, hnc, hcm, hrow, hsz⟩⟩ | ⟨hd, ad, m, c, he⟩
   ·omega
   ·exact ⟨.pointer (some ⟨b, off + j.toNat * k, none⟩), fun w' => by simp [execOp, hop, he, hi', Instr.indexAt, asIntOf, hu, h0, h1, hz, Addr.add_lit]⟩
   ·exact absurd hd (hs.notDead hlive)
  ·rename_i len e sz by' z k' id ver off ki j hT hk hx hi
   obtain ⟨h0, h1, hlive, h⟩ := h
   obtain ⟨hi', _⟩ := hs.ev hi
   have hu := qaD hT
   have hz := fun w => elemSize_array hT rfl hk w
   rcases hs.ev hx with ⟨b, hl, he⟩ | ⟨hd, ad, he⟩
   ·exact ⟨.pointer (some ⟨b, off + j.toNat * k', none⟩), fun w' => by simp [execOp, hop, he, hi', Instr.indexAt, Instr.sureAddr, asIntOf, hu, h0, h1, hz, Addr.add_lit]⟩
   ·exact absurd hd (hs.notDead hlive)
  ·rename_i len e sz by' z k' cs off ki j hT hk hx hi
   obtain ⟨h0, h1, h⟩ := h
   obtain ⟨hi', _⟩ := hs.ev hi
   have hu := qaD hT
   have hz := fun w => elemSize_array hT rfl hk w
   obtain ⟨h9, b, base, vs, he, ho, hsg, hl⟩ := hs.ev hx
   exact ⟨.pointer (some ⟨b, base + (off + j.toNat * k'), none⟩), fun w' => by simp [execOp, hop, he, hi', Instr.indexAt, Instr.sureAddr, asIntOf, hu, h0, h1, hz, Addr.add_lit, Nat.add_assoc]⟩
  ·exact h.elim
end
section
variable {P : Program} {N : Nat} {s : AS} {ops : Array Oper} {o : Oper} {K : AS → Prop} {F : List Nat → AS → Prop} {L : List Nat}
def freeL (ops : Array Oper) (L : List Nat) (i : Nat) : Bool := match ops[i]? with
 | some oi => (List.range ops.size).all fun j => j == i || L.contains j || (da ops j).contains i || match ops[j]? with
  | some oj => oi.apart ops oj
  | none => true
 | none => false
def noSel (ops : Array Oper) : Bool := ops.toList.all fun o => match o.op with | .select .. => false | _ => true
theorem noSel_spec (h : noSel ops = true) (j : Nat) (o : Oper) (cs : Array SelectCase) (b : Bool) (ho : ops[j]? = some o) : o.op ≠ .select cs b := by
 intro heq
 have hm : o ∈ ops.toList := List.mem_of_getElem? (i := j) (by rw [Array.getElem?_toList]; exact ho)
 have := List.all_eq_true.1 h o hm
 simp [heq] at this
def takeOk (N : Nat) (ops : Array Oper) (L : List Nat) (i : Nat) : Bool := match ops[i]? with
 | some o => o.guard.isNone && okd N o.dst && plainOp o.op && noSel ops && !L.contains i && (da ops i).all L.contains && freeL ops L i && daOk ops
 | none => false
theorem l_take {i d : Nat} {v : HV} {sl : List (Nat × HV)} {H : Heap} (hF : F = AnyL P none N ops K) (ho : ops[i]? = some o) (hc : takeOk N ops L i = true) (h0 : (o.dst, isVal o.op) = (some d, true)) (hv : aval P o.op ⟨sl, H⟩ (· = v)) (k : F (i :: L) ⟨(d, v) :: sl, H⟩) : F L ⟨sl, H⟩ := by
 subst hF
 intro w0 μ0 fuel listed μ1 a1 w1 hl hcn hlist hs hE
 unfold takeOk at hc
 rw [ho] at hc
 simp only [Bool.and_eq_true, Bool.not_eq_true', List.all_eq_true] at hc
 obtain ⟨⟨⟨⟨⟨⟨⟨hg, hN⟩, hp⟩, hsel⟩, hiL⟩, hready⟩, hfree⟩, hda⟩ := hc
 have hda' := daOk_spec hda
 have his : i < ops.size := (Array.getElem?_eq_some_iff.1 ho).1
 have hin : listed.getD i false = false := by rw [hlist i his]; exact hiL
 have hg' : o.guard = none := by
  cases h : o.guard with
  | none => rfl
  | some x => rw [h] at hg; cases hg
 cases fuel with
 | zero =>
  have := cnt_pos (listed := listed) (i := i) (by rw [getD_tf (by omega)]; exact hin)
  omega
 | succ fuel =>
  obtain ⟨u, hu⟩ := aval_free hs o hp hv
  have hop : AOp P none N o (AnyL P none N ops K (i :: L)) ⟨sl, H⟩ := l_one (fid := 0) (mt := []) hN (qai h0 hv (qah k))
  have hwp := hop w0 μ0 μ1 a1 w1 (fun a w => wpAnyIn (fence none) 0 P .any ops (Post none N (fun e s' => e = .normal ∧ K s') w0 μ0) fuel (listed.setIfInBounds i true) a w) (fun _ _ _ => False) hs hE (fun μ2 s2 a2 w2 hk hs2 hE2 => hk w0 μ0 fuel _ μ2 a2 w2 (by simp [hl]) (by
   have := cnt_set (listed := listed) (i := i) (by rw [getD_tf (by omega)]; exact hin)
   omega) (fun k hk => by
   by_cases hki : i = k
   ·subst hki
    have : i < listed.size := by omega
    simp [this]
   ·rw [getD_set_ne false hki, hlist k hk]
    simp only [List.contains_cons]
    have : (k == i) = false := by simpa using fun e => hki e.symm
    rw [this, Bool.false_or]) hs2 hE2)
  have hnext := hwp.2
  rw [fence_round, Oper.semAt_none, hu w1] at hnext
  refine wpAnyIn_first (oi := o) (v := u) (fence_round none) ho (noSel_spec hsel) (fun c a w hq => absurd rfl (hq.1 c)) fuel listed a1 w1 (fun j oj hj hne hun hno => ?_) ?_ ⟨.inl ⟨?_, hu⟩, fun w => ?_⟩ hnext
  ·unfold freeL at hfree
   rw [ho] at hfree
   have hjs := (Array.getElem?_eq_some_iff.1 hj).1
   have := List.all_eq_true.1 hfree j (List.mem_range.2 hjs)
   simp only [Bool.or_eq_true, beq_iff_eq, hj] at this
   rcases this with ((h | h) | h) | h
   ·exact absurd h hne
   ·have hx := hlist j hjs
    rw [getD_tf (by omega)] at hun
    rw [hun, h] at hx
    cases hx
   ·exfalso
    have h : i ∈ da ops j := by simpa using h
    simp only [da, hj, List.mem_map, List.mem_filter] at h
    obtain ⟨e, ⟨he, hb⟩, hei⟩ := h
    exact hno e (by simpa using he) hb hei
   ·exact h
  ·refine mem_ready.2 ⟨by rw [getD_tf (by omega)]; exact hin, o, ho, fun e he hb => ?_⟩
   have hk : e.on ∈ da ops i := by
    simp only [da, ho, List.mem_map, List.mem_filter]
    exact ⟨e, ⟨by simpa using he, hb⟩, rfl⟩
   rw [hlist _ (Nat.lt_trans (hda' i his _ hk) his)]
   exact hready _ hk
  ·unfold Region.wanted
   rw [hg']
  ·unfold Oper.about
   cases hh : o.op <;> first | rfl | (rw [hh] at hp; cases hp)
end
end Go.AW
namespace Go.AW
open Go
section
variable {P : Program} {N B : Nat} {s : AS} {ops : Array Oper} {o : Oper} {K : AS → Prop} {F : List Nat → AS → Prop} {L : List Nat}
def lit : HV → Bool
 | .int _ _ | .bool _ | .str _ => true
 | _ => false
theorem lit_rep {w w' : World} {μ μ' : Mu} {h : HV} {v : Value} (hl : lit h = true) (hr : Rep w μ h v) : Rep w' μ' h v := by
 cases h <;> first | exact hr | cases hl
theorem lit_uni {w w' : World} {μ μ' : Mu} {h : HV} {v v' : Value} (hl : lit h = true) (hr : Rep w μ h v) (hr' : Rep w' μ' h v') : v = v' := by
 cases h <;> first | (cases hl; done) | (exact hr.1.trans hr'.1.symm) | (exact Eq.trans hr (Eq.symm hr'))
def Free (P : Program) (o : Oper) (s : AS) (v : HV) : Prop := aval P o.op s (· = v) ∧ (∀ c, o.op ≠ .call c) ∧
 ∀ (B N : Nat) (μ : Mu) (a : Act) (w : World), SRel none N B μ s a w → ∃ u, ∀ w', (execOp a.eval o).run P w' = .ok (.value u) w'
theorem f_bin {op : BinOp} {tx : TypeId} {x y : Operand} {u : TypeId} {h g r : HV} (hop : o.op = .binOp op tx x y u) (hx : s.ev x = some h) (hy : s.ev y = some g) (hb : qbi P op tx h g (· = r)) (hl : (lit h && lit g && lit r) = true) : Free P o s r := by
 simp only [Bool.and_eq_true] at hl
 obtain ⟨⟨l1, l2⟩, l3⟩ := hl
 refine ⟨by rw [hop]; exact qaf hx hy hb, (fun c e => by rw [hop] at e; cases e), fun B N μ a w hs => ?_⟩
 obtain ⟨q, hv, _, he, hr⟩ := abinT_sound (P := P) (w := w) (tx := tx) (hs.ev hx) (hs.ev hy) hb
 refine ⟨q, fun w' => ?_⟩
 have hx' := lit_rep (w' := w') (μ' := μ) l1 (hs.ev hx)
 have hy' := lit_rep (w' := w') (μ' := μ) l2 (hs.ev hy)
 obtain ⟨q', hv', h1, he', hr'⟩ := abinT_sound (P := P) (tx := tx) hx' hy' hb
 subst he
 subst he'
 have := lit_uni l3 hr hr'
 subst this
 simp [execOp, hop, abinT_guard hx' hy' hb, h1]
theorem f_convI {src dst : TypeId} {x : Operand} {S : TyI} {k k' : IntKind} {c d : Nat} {z : Value} {n : Int} (hop : o.op = .convert src dst x) (hS : ty P src = some S) (hd : ty P dst = some ⟨.int k, c, d, z⟩) (hx : s.ev x = some (.int k' n)) : Free P o s (.int k (k.wrap n)) := by
 refine ⟨by rw [hop]; exact v_convI hS hd hx, (fun c e => by rw [hop] at e; cases e), fun B N μ a w hs => ⟨.int k (k.wrap n), fun w' => ?_⟩⟩
 obtain ⟨h1, _⟩ := hs.ev hx
 have hu := qaD hd
 simp [execOp, hop, h1, convert, qaD hS, hu, Conv.intToInt]
def takeOkW (N : Nat) (ops : Array Oper) (L : List Nat) (i : Nat) : Bool := match ops[i]? with
 | some o => o.guard.isNone && okd N o.dst && noSel ops && !L.contains i && (da ops i).all L.contains && freeL ops L i && daOk ops
 | none => false
theorem l_takeW {i d : Nat} {v : HV} {sl : List (Nat × HV)} {H : Heap} (hF : F = AnyL P none N ops K) (ho : ops[i]? = some o) (hc : takeOkW N ops L i = true) (h0 : (o.dst, isVal o.op) = (some d, true)) (hv : Free P o ⟨sl, H⟩ v) (k : F (i :: L) ⟨(d, v) :: sl, H⟩) : F L ⟨sl, H⟩ := by
 subst hF
 obtain ⟨hv, hnc, hfr⟩ := hv
 intro w0 μ0 fuel listed μ1 a1 w1 hl hcn hlist hs hE
 unfold takeOkW at hc
 rw [ho] at hc
 simp only [Bool.and_eq_true, Bool.not_eq_true', List.all_eq_true] at hc
 obtain ⟨⟨⟨⟨⟨⟨hg, hN⟩, hsel⟩, hiL⟩, hready⟩, hfree⟩, hda⟩ := hc
 have hda' := daOk_spec hda
 have his : i < ops.size := (Array.getElem?_eq_some_iff.1 ho).1
 have hin : listed.getD i false = false := by rw [hlist i his]; exact hiL
 have hg' : o.guard = none := by
  cases h : o.guard with
  | none => rfl
  | some x => rw [h] at hg; cases hg
 cases fuel with
 | zero =>
  have := cnt_pos (listed := listed) (i := i) (by rw [getD_tf (by omega)]; exact hin)
  omega
 | succ fuel =>
  obtain ⟨u, hu⟩ := hfr _ _ _ _ _ hs
  have hop : AOp P none N o (AnyL P none N ops K (i :: L)) ⟨sl, H⟩ := l_one (fid := 0) (mt := []) hN (qai h0 hv (qah k))
  have hwp := hop w0 μ0 μ1 a1 w1 (fun a w => wpAnyIn (fence none) 0 P .any ops (Post none N (fun e s' => e = .normal ∧ K s') w0 μ0) fuel (listed.setIfInBounds i true) a w) (fun _ _ _ => False) hs hE (fun μ2 s2 a2 w2 hk hs2 hE2 => hk w0 μ0 fuel _ μ2 a2 w2 (by simp [hl]) (by
   have := cnt_set (listed := listed) (i := i) (by rw [getD_tf (by omega)]; exact hin)
   omega) (fun k hk => by
   by_cases hki : i = k
   ·subst hki
    have : i < listed.size := by omega
    simp [this]
   ·rw [getD_set_ne false hki, hlist k hk]
    simp only [List.contains_cons]
    have : (k == i) = false := by simpa using fun e => hki e.symm
    rw [this, Bool.false_or]) hs2 hE2)
  have hnext := hwp.2
  rw [fence_round, Oper.semAt_none, hu w1] at hnext
  refine wpAnyIn_first (oi := o) (v := u) (fence_round none) ho (noSel_spec hsel) (fun c a w hq => absurd rfl (hq.1 c)) fuel listed a1 w1 (fun j oj hj hne hun hno => ?_) ?_ ⟨.inl ⟨?_, hu⟩, fun w => ?_⟩ hnext
  ·unfold freeL at hfree
   rw [ho] at hfree
   have hjs := (Array.getElem?_eq_some_iff.1 hj).1
   have := List.all_eq_true.1 hfree j (List.mem_range.2 hjs)
   simp only [Bool.or_eq_true, beq_iff_eq, hj] at this
   rcases this with ((h | h) | h) | h
   ·exact absurd h hne
   ·have hx := hlist j hjs
    rw [getD_tf (by omega)] at hun
    rw [hun, h] at hx
    cases hx
   ·exfalso
    have h : i ∈ da ops j := by simpa using h
    simp only [da, hj, List.mem_map, List.mem_filter] at h
    obtain ⟨e, ⟨he, hb⟩, hei⟩ := h
    exact hno e (by simpa using he) hb hei
   ·exact h
  ·refine mem_ready.2 ⟨by rw [getD_tf (by omega)]; exact hin, o, ho, fun e he hb => ?_⟩
   have hk : e.on ∈ da ops i := by
    simp only [da, ho, List.mem_map, List.mem_filter]
    exact ⟨e, ⟨by simpa using he, hb⟩, rfl⟩
   rw [hlist _ (Nat.lt_trans (hda' i his _ hk) his)]
   exact hready _ hk
  ·unfold Region.wanted
   rw [hg']
  ·unfold Oper.about
   split
   ·rename_i c h; exact absurd h (hnc c)
   ·rfl
end
end Go.AW
namespace Go.AW
open Go
theorem loopN {S X : Type} {body : S → Option (Stp S X)} {Q : X → Prop} (n : Nat) (I : Nat → S → Prop)
  (step : ∀ i s, i < n → I i s → (∃ s', body s = some (.next s') ∧ I (i + 1) s') ∨ ∃ x, body s = some (.exit x) ∧ Q x) (fin : ∀ s, I n s → ∃ x, body s = some (.exit x) ∧ Q x) :
  ∀ (k : Nat) (s : S), k ≤ n → I k s → ∃ x, loopW body s = some x ∧ Q x := by
 intro k s hk h
 obtain ⟨d, rfl⟩ : ∃ d, n = k + d := ⟨n - k, by omega⟩
 induction d generalizing k s with
 | zero =>
  obtain ⟨x, h1, h2⟩ := fin s h
  exact ⟨x, loopW_exit h1, h2⟩
 | succ d ih =>
  rcases step k s (by omega) h with ⟨s', h1, h2⟩ | ⟨x, h1, h2⟩
  ·have e : k + (d + 1) = (k + 1) + d := by omega
   rw [e] at step fin
   obtain ⟨x, h3, h4⟩ := ih (k + 1) s' h2 step fin (by omega)
   exact ⟨x, by rw [loopW_next h1]; exact h3, h4⟩
  ·exact ⟨x, loopW_exit h1, h2⟩
theorem loop_any {S X : Type} {body : S → Option (Stp S X)} (st : Nat → S) (n : Nat) (p : Nat → Bool) (xr xf : X) (h : ∀ i, i < n → body (st i) = if p i = true then some (.exit xr) else some (.next (st (i + 1)))) (hf : body (st n) = some (.exit xf)) {s0 : S} (hs0 : s0 = st 0) :
  loopW body s0 = some (if (List.range n).any p = true then xr else xf) := by
 subst hs0
 obtain ⟨x, hx, hq⟩ := loopN (body := body) (Q := fun x => x = if (List.range n).any p = true then xr else xf) n (fun i s => s = st i ∧ (List.range i).any p = false) (fun i s hi ⟨hs, ha⟩ => by
  subst hs
  rw [h i hi]
  by_cases hp : p i = true
  ·refine .inr ⟨xr, by rw [if_pos hp], ?_⟩
   rw [if_pos]
   exact List.any_eq_true.2 ⟨i, List.mem_range.2 hi, hp⟩
  ·refine .inl ⟨_, by rw [if_neg hp], rfl, ?_⟩
   rw [List.range_succ, List.any_append, ha]
   simpa using hp) (fun s ⟨hs, ha⟩ => by subst hs; exact ⟨xf, hf, by rw [if_neg]; rw [ha]; simp⟩) 0 (st 0) (Nat.zero_le _) ⟨rfl, rfl⟩
 rw [hx, hq]
theorem loop_is {S X : Type} {body : S → Option (Stp S X)} (st : Nat → S) (n : Nat) (x : X) (h : ∀ i, i < n → body (st i) = some (.next (st (i + 1)))) (hf : body (st n) = some (.exit x)) {s0 : S} (hs0 : s0 = st 0) : loopW body s0 = some x := by
 subst hs0
 obtain ⟨y, hy, hq⟩ := loopN (body := body) (Q := fun y => y = x) n (fun i s => s = st i) (fun i s hi hs => by subst hs; exact .inl ⟨_, h i hi, rfl⟩) (fun s hs => by subst hs; exact ⟨x, hf, rfl⟩) 0 (st 0) (Nat.zero_le _) rfl
 rw [hy, hq]
theorem bindL {X R : Type} {o : Option X} {x : X} {M : X → Option R} {r : Option R} (h : o = some x) (k : M x = r) : o.bind M = r := by rw [h]; exact k
theorem lpL {V R Y : Type} {o : Option (Ou V R)} {x : Ou V R} {M : V → Option Y} {Rt : R → Option Y} {r : Option Y} (h : o = some x) (k : lpO (some x) M Rt = r) : lpO o M Rt = r := by rw [h]; exact k
theorem nx {i n : Nat} (hn : n ≤ 9223372036854775807) (h : i < n) : IntKind.wrap .i64 ((i : Int) + 1) = ((i + 1 : Nat) : Int) := by
 rw [w64 (by omega) (by omega)]; omega
theorem ix {α : Type} {l : List α} {i : Nat} (h : i < l.length) : idx l (i : Int) = some l[i] := by rw [idx_nat, List.getElem?_eq_getElem h]
theorem ix0 {α : Type} {l : List α} (h : 0 < l.length) : idx l 0 = some l[0] := ix h
theorem qbt {i n : Nat} (h : i < n) : (i : Int) < (n : Int) := by omega
theorem qaw (n : Nat) : ¬ (n : Int) < (n : Int) := by omega
abbrev qaj := Int × Int × Int
abbrev qa7 (x : qaj) : List HV := [HV.int .i64 x.1, HV.int .i64 x.2.1, HV.int .i64 x.2.2]
abbrev eFromLabelTo : EncL qaj := encF 3 qa7 (fun _ => rfl)
abbrev qaa := Int × Int × (List (qaj))
abbrev qaU (l : List Int) : List Int := Lib.compact l
theorem compact_le (l : List Int) : (qaU l).length ≤ l.length := by
 show (Lib.compactUpTo l.toArray l.length).length ≤ l.length
 unfold Lib.compactUpTo
 rw [List.length_map]
 exact Nat.le_trans (List.length_filter_le _ _) (by simp)
theorem compact_mem {l : List Int} {x : Int} (h : x ∈ qaU l) : x ∈ l := by
 have h : x ∈ Lib.compactUpTo l.toArray l.length := h
 unfold Lib.compactUpTo at h
 obtain ⟨j, hj, rfl⟩ := List.mem_map.1 h
 have hj := List.mem_range.1 (List.mem_filter.1 hj).1
 have : l.toArray[j]! = l[j] := by simp [hj]
 rw [this]
 exact List.getElem_mem hj
noncomputable def qaK (l : List UInt8) (c : Int) : Option Int := some (Lib.indexByte l c.toNat.toUInt8)
def leaveL (es : List qaj) (s : Int) : List (Int × qaj) := (es.zipIdx.filter fun p => decide (p.1.1 = s)).map fun p => ((p.2 : Int), p.1)
theorem leaveL_take (es : List qaj) (s : Int) {i : Nat} (h : i < es.length) : leaveL (es.take (i + 1)) s = leaveL (es.take i) s ++ if es[i].1 = s then [((i : Int), es[i])] else [] := by
 have e : es.take (i + 1) = es.take i ++ [es[i]] := by rw [List.take_add_one, List.getElem?_eq_getElem h]; rfl
 rw [e]
 simp only [leaveL, List.zipIdx_append, List.filter_append, List.map_append, List.length_take, Nat.min_eq_left (Nat.le_of_lt h), Nat.zero_add]
 congr 1
 by_cases hs : es[i].1 = s <;> simp [List.zipIdx_cons, hs]
theorem leaveL_split (es : List qaj) (s : Int) : ∀ (i : Nat), ∃ rest, leaveL es s = leaveL (es.take i) s ++ rest := fun i => by
 refine ⟨((es.drop i).zipIdx (es.take i).length |>.filter fun p => decide (p.1.1 = s)).map fun p => ((p.2 : Int), p.1), ?_⟩
 conv => lhs; rw [← List.take_append_drop i es]
 simp only [leaveL, List.zipIdx_append, List.filter_append, List.map_append, Nat.zero_add]
def y_graph_leaving (g : qaa) (s : Int) : Option (List (Int × qaj)) := if g.2.2.length ≤ 9223372036854775807 then some (leaveL g.2.2 s) else none
abbrev qa2 := (List UInt8) × (List (Int))
noncomputable def m_graph_list (p0 : qaj) : Option ((List (Int))) :=
 some [p0.1, p0.2.1, p0.2.2]
noncomputable def m_cmp_isNaN_int (p0 : Int) : Option (Bool) :=
 some (decide (p0 ≠ p0))
noncomputable def m_cmp_Compare_int (p0 : Int) (p1 : Int) : Option (Int) :=
 (m_cmp_isNaN_int p0).bind fun x1 =>
 (m_cmp_isNaN_int p1).bind fun x3 =>
 if x1 = true then
  if x3 = true then
   some 0
  else
   some (-1)
 else
  if x3 = true then
   some 1
  else
   if p0 < p1 then
    some (-1)
   else
    if p1 < p0 then
     some 1
    else
     some 0
noncomputable def qbo (p0 : List (Int)) (p1 : List (Int)) : Option (Int) :=
 lpO (loopW (S := Int) (X := Ou (Unit) (Int)) (fun a1 =>
   if a1 < ((p0).length : Int) then
    (idx p0 a1).bind fun x5 =>
    if ((p1).length : Int) ≤ a1 then
     some (Stp.exit (Ou.ret 1))
    else
     (idx p1 a1).bind fun x7 =>
     (m_cmp_Compare_int x5 x7).bind fun x9 =>
     if x9 ≠ 0 then
      some (Stp.exit (Ou.ret x9))
     else
      some (Stp.next (IntKind.wrap .i64 (a1 + 1)))
   else
    some (Stp.exit (Ou.go ()))) 0) (fun a11 =>
   if ((p0).length : Int) < ((p1).length : Int) then
    some (-1)
   else
    some 0) some
noncomputable def qbq (p0 : qaj) (p1 : qaj) : Option (Int) :=
 (m_graph_list p0).bind fun x1 =>
 (m_graph_list p1).bind fun x3 =>
 (qbo x1 x3).bind fun x5 =>
 some x5
noncomputable def qbp (p0 : qaa) : Option (Int) :=
 jp (fun (a1 : Bool) =>
  if a1 = true then
   some 12
  else
   if p0.2.1 < 0 then
    some 2
   else
    jp (fun (a4 : Bool) =>
     if a4 = true then
      some 4
     else
      lpO (loopW (S := Int) (X := Ou (Unit) (Int)) (fun a7 =>
        if a7 < ((p0.2.2).length : Int) then
         (idx p0.2.2 a7).bind fun x11 =>
         jp (fun (a14 : Bool) =>
          if a14 = true then
           some (Stp.exit (Ou.ret 2))
          else
           jp (fun (a17 : Bool) =>
            if a17 = true then
             some (Stp.exit (Ou.ret 10))
            else
             some (Stp.next (IntKind.wrap .i64 (a7 + 1))))
            fun k19 =>
            if 0 < a7 then
             (idx p0.2.2 (IntKind.wrap .i64 (a7 - 1))).bind fun x20 =>
             (qbq x20 x11).bind fun x22 =>
             k19 (decide (0 ≤ x22))
            else
             k19 false)
          fun k16 =>
          if (min (min x11.1 x11.2.1) x11.2.2) < 0 then
           k16 true
          else
           if p0.2.1 ≤ (max x11.1 x11.2.2) then
            k16 true
           else
            k16 (decide (p0.1 ≤ x11.2.1))
        else
         some (Stp.exit (Ou.go ()))) 0) (fun a27 =>
        some 0) some)
     fun k6 =>
     if 64 < p0.2.1 then
      k6 true
     else
      k6 (decide (1024 < ((p0.2.2).length : Int))))
  fun k3 =>
  if p0.1 < 1 then
   k3 true
  else
   k3 (decide (256 < p0.1))
noncomputable def m_graph_checkSet (p0 : qaa) (p1 : List (Int)) : Option (Int) :=
 lpO (loopW (S := Int) (X := Ou (Unit) (Int)) (fun a1 =>
   if a1 < ((p1).length : Int) then
    (idx p1 a1).bind fun x5 =>
    jp (fun (a7 : Bool) =>
     if a7 = true then
      some (Stp.exit (Ou.ret 25))
     else
      jp (fun (a10 : Bool) =>
       if a10 = true then
        some (Stp.exit (Ou.ret 10))
       else
        some (Stp.next (IntKind.wrap .i64 (a1 + 1))))
       fun k12 =>
       if 0 < a1 then
        (idx p1 (IntKind.wrap .i64 (a1 - 1))).bind fun x13 =>
        k12 (decide (x5 ≤ x13))
       else
        k12 false)
     fun k9 =>
     if x5 < 0 then
      k9 true
     else
      k9 (decide (p0.2.1 ≤ x5))
   else
    some (Stp.exit (Ou.go ()))) 0) (fun a17 =>
   some 0) some
noncomputable def m_graph_Step (p0 : qaa) (p1 : List (Int)) (p2 : Int) : Option ((List (Int)) × Int) :=
 (qbp p0).bind fun x1 =>
 if x1 ≠ 0 then
  some ([], 1)
 else
  (m_graph_checkSet p0 p1).bind fun x3 =>
  if x3 ≠ 0 then
   some ([], x3)
  else
   jp (fun (a5 : Bool) =>
    if a5 = true then
     some ([], 2)
    else
     (loopW (S := Int × (List Int)) (X := (List Int)) (fun a9 =>
       if a9.1 < ((p1).length : Int) then
        (idx p1 a9.1).bind fun x13 =>
        (y_graph_leaving p0 x13).bind fun L15 =>
        lpO (forL (S := (List Int)) (X := Unit) (fun a17 (x19 : Int × qaj) =>
          if x19.2.2.1 = p2 then
           if fits 8 ((a17 : List Int).length + ([x19.2.2.2]).length) then
            some (Stp.next (a17 ++ [x19.2.2.2]))
           else none
          else
           some (Stp.next a17)) L15 a9.2) (fun a26 =>
          some (Stp.next (IntKind.wrap .i64 (a9.1 + 1), a26))) fun a28 =>
          none
       else
        some (Stp.exit a9.2)) (0, ([] : List Int))).bind fun a31 =>
     if (a31).length < 4611686018427387904 then
      some (qaU (sortI a31), 0)
     else none)
    fun k7 =>
    if p2 < 0 then
     k7 true
    else
     k7 (decide (p0.1 ≤ p2))
noncomputable def m_ref09_Compare (p0 : qaj) (p1 : qaj) : Option (Int) :=
 lpO (loopW (S := Int) (X := Ou (Unit) (Int)) (fun a1 =>
   if a1 < 3 then
    (idx [p0.1, p0.2.1, p0.2.2] a1).bind fun x5 =>
    (idx [p1.1, p1.2.1, p1.2.2] a1).bind fun x7 =>
    if x5 < x7 then
     some (Stp.exit (Ou.ret (-1)))
    else
     (idx [p0.1, p0.2.1, p0.2.2] a1).bind fun x9 =>
     (idx [p1.1, p1.2.1, p1.2.2] a1).bind fun x11 =>
     if x11 < x9 then
      some (Stp.exit (Ou.ret 1))
     else
      some (Stp.next (IntKind.wrap .i64 (a1 + 1)))
   else
    some (Stp.exit (Ou.go ()))) 0) (fun a13 =>
   some 0) some
noncomputable def qaT (p0 : qaa) : Option (Int) :=
 jp (fun (a1 : Bool) =>
  if a1 = true then
   some 12
  else
   if p0.2.1 < 0 then
    some 2
   else
    jp (fun (a4 : Bool) =>
     if a4 = true then
      some 4
     else
      lpO (loopW (S := Int) (X := Ou (Unit) (Int)) (fun a7 =>
        if a7 < ((p0.2.2).length : Int) then
         (idx p0.2.2 a7).bind fun x11 =>
         jp (fun (a14 : Bool) =>
          if a14 = true then
           some (Stp.exit (Ou.ret 2))
          else
           jp (fun (a17 : Bool) =>
            if a17 = true then
             some (Stp.exit (Ou.ret 10))
            else
             some (Stp.next (IntKind.wrap .i64 (a7 + 1))))
            fun k19 =>
            if 0 < a7 then
             (idx p0.2.2 (IntKind.wrap .i64 (a7 - 1))).bind fun x20 =>
             (m_ref09_Compare x20 x11).bind fun x22 =>
             k19 (decide (0 ≤ x22))
            else
             k19 false)
          fun k16 =>
          if x11.1 < 0 then
           k16 true
          else
           if p0.2.1 ≤ x11.1 then
            k16 true
           else
            if x11.2.2 < 0 then
             k16 true
            else
             if p0.2.1 ≤ x11.2.2 then
              k16 true
             else
              if x11.2.1 < 0 then
               k16 true
              else
               k16 (decide (p0.1 ≤ x11.2.1))
        else
         some (Stp.exit (Ou.go ()))) 0) (fun a30 =>
        some 0) some)
     fun k6 =>
     if 64 < p0.2.1 then
      k6 true
     else
      k6 (decide (1024 < ((p0.2.2).length : Int))))
  fun k3 =>
  if p0.1 < 1 then
   k3 true
  else
   k3 (decide (256 < p0.1))
noncomputable def m_ref11_check (p0 : qaa) : Option (Int) :=
 (qaT p0).bind fun x1 =>
 if x1 ≠ 0 then
  some 1
 else
  if 16 < p0.1 then
   some 12
  else
   some 0
noncomputable def m_ref11_checkNumber (p0 : qaa) (p1 : Int) : Option (Int) :=
 (m_ref11_check p0).bind fun x1 =>
 if x1 ≠ 0 then
  some x1
 else
  jp (fun (a3 : Bool) =>
   if a3 = true then
    some 2
   else
    some 0)
   fun k5 =>
   if p1 < 0 then
    k5 true
   else
    k5 (decide (4096 < p1))
noncomputable def m_ref11_has (p0 : List (Int)) (p1 : Int) : Option (Bool) :=
 lpO (loopW (S := Int) (X := Ou (Unit) (Bool)) (fun a1 =>
   if a1 < ((p0).length : Int) then
    (idx p0 a1).bind fun x5 =>
    if x5 = p1 then
     some (Stp.exit (Ou.ret true))
    else
     some (Stp.next (IntKind.wrap .i64 (a1 + 1)))
   else
    some (Stp.exit (Ou.go ()))) 0) (fun a7 =>
   some false) some
noncomputable def m_ref11_Step (p0 : qaa) (p1 : List (Int)) (p2 : Int) : Option ((List (Int))) :=
 (loopW (S := Int × (List Int)) (X := (List Int)) (fun a2 =>
   if a2.1 < p0.2.1 then
    jp (fun (a6 : (List Int)) =>
     some (Stp.next (IntKind.wrap .i64 (a2.1 + 1), a6)))
     fun k8 =>
     (loopW (S := Bool × Int) (X := Bool) (fun a9 =>
       if a9.2 < ((p0.2.2).length : Int) then
        jp (fun (a13 : Bool) =>
         some (Stp.next (a13, IntKind.wrap .i64 (a9.2 + 1))))
         fun k15 =>
         jp (fun (a16 : Bool) =>
          if a16 = true then
           k15 true
          else
           k15 a9.1)
          fun k18 =>
          (idx p0.2.2 a9.2).bind fun x19 =>
          if x19.2.2 = a2.1 then
           (idx p0.2.2 a9.2).bind fun x21 =>
           if x21.2.1 = p2 then
            (idx p0.2.2 a9.2).bind fun x23 =>
            (m_ref11_has p1 x23.1).bind fun x25 =>
            k18 x25
           else
            k18 false
          else
           k18 false
       else
        some (Stp.exit a9.1)) (false, 0)).bind fun a29 =>
     if a29 = true then
      if fits 8 ((a2.2 : List Int).length + ([a2.1]).length) then
       k8 (a2.2 ++ [a2.1])
      else none
     else
      k8 a2.2
   else
    some (Stp.exit a2.2)) (0, [])).bind fun a33 =>
 some a33
noncomputable def m_ref11_grow (p0 : qaa) (p1 : List (qa2)) : Option ((List (qa2))) :=
 (loopW (S := Int × (List qa2)) (X := (List qa2)) (fun a2 =>
   if a2.1 < ((p1).length : Int) then
    (loopW (S := Int × (List qa2)) (X := (List qa2)) (fun a6 =>
      if a6.1 < p0.1 then
       jp (fun (a10 : (List qa2)) =>
        some (Stp.next (IntKind.wrap .i64 (a6.1 + 1), a10)))
        fun k12 =>
        (idx p1 a2.1).bind fun x13 =>
        (m_ref11_Step p0 x13.2 a6.1).bind fun x15 =>
        if 0 < ((x15).length : Int) then
         (idx p1 a2.1).bind fun x17 =>
         if 0 ≤ (a6.1 : Int) ∧ (a6.1 : Int) ≤ IntKind.wrap .i64 (a6.1 + 1) ∧ IntKind.wrap .i64 (a6.1 + 1) ≤ (([48, 49, 50, 51, 52, 53, 54, 55, 56, 57, 97, 98, 99, 100, 101, 102] : List UInt8).length : Int) then
          if x17.1.length + ((([48, 49, 50, 51, 52, 53, 54, 55, 56, 57, 97, 98, 99, 100, 101, 102] : List UInt8).take (IntKind.wrap .i64 (a6.1 + 1)).toNat).drop (a6.1).toNat).length ≤ maxLen then
           if fits 40 ((a6.2 : List qa2).length + ([(x17.1 ++ ((([48, 49, 50, 51, 52, 53, 54, 55, 56, 57, 97, 98, 99, 100, 101, 102] : List UInt8).take (IntKind.wrap .i64 (a6.1 + 1)).toNat).drop (a6.1).toNat), x15)]).length) then
            k12 (a6.2 ++ [(x17.1 ++ ((([48, 49, 50, 51, 52, 53, 54, 55, 56, 57, 97, 98, 99, 100, 101, 102] : List UInt8).take (IntKind.wrap .i64 (a6.1 + 1)).toNat).drop (a6.1).toNat), x15)])
           else none
          else none
         else none
        else
         k12 a6.2
      else
       some (Stp.exit a6.2)) (0, a2.2)).bind fun a23 =>
    some (Stp.next (IntKind.wrap .i64 (a2.1 + 1), a23))
   else
    some (Stp.exit a2.2)) (0, [])).bind fun a25 =>
 some a25
noncomputable def m_ref11_words (p0 : qaa) (p1 : List (Int)) (p2 : Int) : Option ((List (qa2)) × Int) :=
 jp (fun (a2 : (List qa2)) =>
  lpO (loopW (S := (List qa2) × Int) (X := Ou ((List qa2)) ((List (qa2)) × Int)) (fun a5 =>
    jp (fun (a9 : Bool) =>
     if a9 = true then
      (m_ref11_grow p0 a5.1).bind fun x12 =>
      if 4096 < ((x12).length : Int) then
       some (Stp.exit (Ou.ret ([], 4)))
      else
       some (Stp.next (x12, IntKind.wrap .i64 (a5.2 + 1)))
     else
      some (Stp.exit (Ou.go a5.1)))
     fun k11 =>
     if a5.2 < p2 then
      k11 (decide (0 < ((a5.1).length : Int)))
     else
      k11 false) (a2, 0)) (fun a15 =>
    some (a15, 0)) some)
  fun k4 =>
  if 0 < ((p1).length : Int) then
   if fits 40 (([] : List qa2).length + ([(([] : List UInt8), p1)]).length) then
    k4 (([] : List qa2) ++ [(([] : List UInt8), p1)])
   else none
  else
   k4 []
noncomputable def m_ref11_All (p0 : qaa) : Option ((List (Int))) :=
 (loopW (S := Int × (List Int)) (X := (List Int)) (fun a2 =>
   if a2.1 < p0.2.1 then
    if fits 8 ((a2.2 : List Int).length + ([a2.1]).length) then
     some (Stp.next (IntKind.wrap .i64 (a2.1 + 1), a2.2 ++ [a2.1]))
    else none
   else
    some (Stp.exit a2.2)) (0, [])).bind fun a8 =>
 some a8
noncomputable def m_ref11_texts (p0 : List (qa2)) : Option ((List (List UInt8))) :=
 (loopW (S := Int × (List (List UInt8))) (X := (List (List UInt8))) (fun a2 =>
   if a2.1 < ((p0).length : Int) then
    (idx p0 a2.1).bind fun x6 =>
    if fits 16 ((a2.2 : List (List UInt8)).length + ([x6.1]).length) then
     some (Stp.next (IntKind.wrap .i64 (a2.1 + 1), a2.2 ++ [x6.1]))
    else none
   else
    some (Stp.exit a2.2)) (0, [])).bind fun a10 =>
 some a10
noncomputable def m_ref11_Words (p0 : qaa) (p1 : Int) : Option ((List (List UInt8)) × Int) :=
 (m_ref11_checkNumber p0 p1).bind fun x1 =>
 if x1 ≠ 0 then
  some ([], x1)
 else
  (m_ref11_All p0).bind fun x3 =>
  (m_ref11_words p0 x3 p1).bind fun x5 =>
  if x5.2 ≠ 0 then
   some ([], x5.2)
  else
   (m_ref11_texts x5.1).bind fun x7 =>
   some (x7, 0)
noncomputable def qba (p0 : qaa) (p1 : List (Int)) (p2 : Int) : Option ((List (Int))) :=
 (qaK [48, 49, 50, 51, 52, 53, 54, 55, 56, 57, 97, 98, 99, 100, 101, 102] p2).bind fun x1 =>
 (m_graph_Step p0 p1 x1).bind fun x3 =>
 some x3.1
noncomputable def qbl (p0 : qaa) : Option ((List (Int))) :=
 if 0 ≤ (p0.2.1 : Int) ∧ (p0.2.1 : Int) ≤ p0.2.1 ∧ (p0.2.1 : Int) * 8 ≤ 281474976710656 then
  (loopW (S := Int × (List Int)) (X := (List Int)) (fun a3 =>
    if a3.1 < (((List.replicate (p0.2.1).toNat (0 : Int)).length : Nat) : Int) then
     (idx a3.2 a3.1).bind fun x7 =>
     some (Stp.next (IntKind.wrap .i64 (a3.1 + 1), (a3.2).set (a3.1).toNat a3.1))
    else
     some (Stp.exit a3.2)) (0, List.replicate (p0.2.1).toNat (0 : Int))).bind fun a9 =>
  some a9
 else none
noncomputable def qa4 (p0 : qaa) : Option (Int) :=
 (qbp p0).bind fun x1 =>
 if x1 ≠ 0 then
  some 1
 else
  if 16 < p0.1 then
   some 12
  else
   some 0
noncomputable def m_language_lengths (p0 : qaa) (p1 : Int) : Option (Int) :=
 (qa4 p0).bind fun x1 =>
 if x1 ≠ 0 then
  some x1
 else
  jp (fun (a3 : Bool) =>
   if a3 = true then
    some 2
   else
    some 0)
   fun k5 =>
   if p1 < 0 then
    k5 true
   else
    k5 (decide (4096 < p1))
noncomputable def m_word_known (p0 : Int) : Option (Bool) :=
 jp (fun (a1 : Bool) =>
  some a1)
  fun k3 =>
  if 1 ≤ p0 then
   k3 (decide (p0 ≤ 16))
  else
   k3 false
noncomputable def m_word_Check (p0 : Int) (p1 : List UInt8) : Option (Int) :=
 (m_word_known p0).bind fun x1 =>
 if (!x1) = true then
  some 12
 else
  if 65536 < ((p1).length : Int) then
   some 4
  else
   lpO (loopW (S := Int) (X := Ou (Unit) (Int)) (fun a3 =>
     if a3 < ((p1).length : Int) then
      if 0 ≤ (0 : Int) ∧ (0 : Int) ≤ p0 ∧ p0 ≤ (([48, 49, 50, 51, 52, 53, 54, 55, 56, 57, 97, 98, 99, 100, 101, 102] : List UInt8).length : Int) then
       (idx p1 a3).bind fun x8 =>
       (qaK ((([48, 49, 50, 51, 52, 53, 54, 55, 56, 57, 97, 98, 99, 100, 101, 102] : List UInt8).take (p0).toNat).drop (0 : Int).toNat) (x8.toNat : Int)).bind fun x10 =>
       if x10 < 0 then
        some (Stp.exit (Ou.ret 13))
       else
        some (Stp.next (IntKind.wrap .i64 (a3 + 1)))
      else none
     else
      some (Stp.exit (Ou.go ()))) 0) (fun a12 =>
     some 0) some
noncomputable def qbm (p0 : qaa) (p1 : List UInt8) : Option (Int) :=
 (qa4 p0).bind fun x1 =>
 if x1 ≠ 0 then
  some x1
 else
  (m_word_Check p0.1 p1).bind fun x3 =>
  some x3
abbrev TNegMag := Bool × (List UInt8)
noncomputable def m_integer_trim (p0 : List (Int)) : Option ((List (Int))) :=
 (loopW (S := (List Int)) (X := (List Int)) (fun a1 =>
   jp (fun (a5 : Bool) =>
    if a5 = true then
     if 0 ≤ (0 : Int) ∧ (0 : Int) ≤ IntKind.wrap .i64 (((a1).length : Int) - 1) ∧ IntKind.wrap .i64 (((a1).length : Int) - 1) ≤ (a1.length : Int) then
      some (Stp.next ((a1.take (IntKind.wrap .i64 (((a1).length : Int) - 1)).toNat).drop (0 : Int).toNat))
     else none
    else
     some (Stp.exit a1))
    fun k7 =>
    if 0 < ((a1).length : Int) then
     (idx a1 (IntKind.wrap .i64 (((a1).length : Int) - 1))).bind fun x9 =>
     k7 (decide (x9 = 0))
    else
     k7 false) p0).bind fun a12 =>
 some a12
noncomputable def m_integer_number (p0 : Bool) (p1 : List (Int)) : Option (TNegMag) :=
 (m_integer_trim p1).bind fun x2 =>
 if ((x2).length : Int) = 0 then
  some (false, ([] : List UInt8))
 else
  if 0 ≤ (0 : Int) ∧ (0 : Int) ≤ IntKind.wrap .i64 (4 * ((x2).length : Int)) ∧ (IntKind.wrap .i64 (4 * ((x2).length : Int)) : Int) * 1 ≤ 281474976710656 then
   (loopW (S := Int × (List Int)) (X := (List Int)) (fun a6 =>
     if 0 ≤ a6.1 then
      (loopW (S := Int × (List Int)) (X := (List Int)) (fun a10 =>
        if 0 ≤ a10.1 then
         jp (fun (a14 : (List Int)) =>
          some (Stp.next (IntKind.wrap .i64 (a10.1 - 1), a14)))
          fun k16 =>
          (idx x2 a6.1).bind fun x17 =>
          if 0 ≤ (IntKind.wrap .i64 (8 * a10.1)) then
           jp (fun (a20 : Bool) =>
            if a20 = true then
             if fits 1 ((a10.2 : List Int).length + ([IntKind.wrap .u8 (Int.fdiv x17 (2 ^ (min ((IntKind.wrap .i64 (8 * a10.1))).toNat (IntKind.bits .u32))))]).length) then
              k16 (a10.2 ++ [IntKind.wrap .u8 (Int.fdiv x17 (2 ^ (min ((IntKind.wrap .i64 (8 * a10.1))).toNat (IntKind.bits .u32))))])
             else none
            else
             k16 a10.2)
            fun k22 =>
            if (IntKind.wrap .u8 (Int.fdiv x17 (2 ^ (min ((IntKind.wrap .i64 (8 * a10.1))).toNat (IntKind.bits .u32))))) ≠ 0 then
             k22 true
            else
             k22 (decide (0 < (((a10.2).length : Nat) : Int)))
          else none
        else
         some (Stp.exit a10.2)) (3, a6.2)).bind fun a26 =>
      some (Stp.next (IntKind.wrap .i64 (a6.1 - 1), a26))
     else
      some (Stp.exit a6.2)) (IntKind.wrap .i64 (((x2).length : Int) - 1), List.replicate (0 : Int).toNat (0 : Int))).bind fun a28 =>
   some (p0, a28.map fun n => UInt8.ofNat n.toNat)
  else none
def m_law31_awake : Option Bool := some true
def m_strings_Count (s sub : List UInt8) : Option Int := match sub with
 | [c] => some ((Lib.countByte s c : Nat) : Int)
 | _ => none
def m_math_bits_Len64 (x : Int) : Option Int := if x = 1 then some 1 else if x = 2 ∨ x = 3 then some 2 else if x = 4 ∨ x = 5 ∨ x = 6 then some 3 else none
abbrev TNumDen := TNegMag × TNegMag
abbrev cNumDen (x : TNumDen) : List HV := [HV.bool x.1.1, HV.str x.1.2, HV.bool x.2.1, HV.str x.2.2]
def ratT (p q : Nat) : TNumDen := if p = 0 then ((false, []), (false, [1])) else ((false, [UInt8.ofNat (p / Nat.gcd p q)]), (false, [UInt8.ofNat (q / Nat.gcd p q)]))
def m_rational_Ratio (p q : Int) : Option (TNumDen × Int) := if 0 ≤ p ∧ p ≤ 2 ∧ 1 ≤ q ∧ q ≤ 16 then some (ratT p.toNat q.toNat, 0) else none
abbrev hI (n : Int) : HV := .int .i64 n
abbrev nS : List UInt8 := []
abbrev jF (j : List (List UInt8) × List (List UInt8)) : HV := .fptr [slE eStr j.1, slE eStr j.2] 0
abbrev jA (j : List (List UInt8) × List (List UInt8)) : HV := .agg [slE eStr j.1, slE eStr j.2]
abbrev gF (g : qaa) : HV := .fptr [.int .i64 g.1, .int .i64 g.2.1, slE eFromLabelTo g.2.2] 0
abbrev gA (g : qaa) : HV := .agg [.int .i64 g.1, .int .i64 g.2.1, slE eFromLabelTo g.2.2]
abbrev zND : List HV := [.bool false, .str [], .bool false, .str []]
theorem to_L {s s' : AS} {G : AS → Prop} (h : G s') (h1 : gets s.slots s'.slots = somes s'.slots := by exact rfl) (h2 : hgets s.heap s'.heap = hsomes s'.heap := by exact rfl) : s.to G := qbd (le_q h1 h2) h
theorem bf {P : Program} {ro : Option Nat} {N : Nat} {all : Array Oper} {s : AS} {c : Code} {Q : Exit → AS → Prop} {K : AS → Prop} (hK : ∀ s', AW P ro N c Q s' → K s') (s' : AS) (h : AW P ro N c Q s') (h1 : gets s.slots s'.slots = somes s'.slots := by exact rfl) (h2 : hgets s.heap s'.heap = hsomes s'.heap := by exact rfl) : bops P ro N all [] K s := b_fin hK (le_q h1 h2) h
theorem lg {P : Program} {ro : Option Nat} {N : Nat} {ops : Array Oper} {s s' : AS} {K : AS → Prop} {F : List Nat → AS → Prop} {L L' : List Nat} (hF : F = AnyL P ro N ops K) (h : F L' s') (hsame : (List.range ops.size).all (fun i => L.contains i == L'.contains i) = true := by exact rfl) (h1 : gets s.slots s'.slots = somes s'.slots := by exact rfl) (h2 : hgets s.heap s'.heap = hsomes s'.heap := by exact rfl) : F L s := l_go hF hsame h (le_q h1 h2)
theorem cT {p : Prop} [Decidable p] {R : Type} {a b : Option R} {r : R} (hc : decide p = true) (h : (if p then a else b) = some r) : p ∧ a = some r := ⟨of_decide_eq_true hc, ifT (of_decide_eq_true hc) h⟩
theorem cF {p : Prop} [Decidable p] {R : Type} {a b : Option R} {r : R} (hc : decide p = false) (h : (if p then a else b) = some r) : ¬ p ∧ b = some r := ⟨of_decide_eq_false hc, ifF (of_decide_eq_false hc) h⟩
theorem lb {n m : Nat} (h : Nat.ble n m = true) : n ≤ m := Nat.le_of_ble_eq_true h
theorem l_ov {P : Program} {ro : Option Nat} {N i d : Nat} {ops : Array Oper} {o : Oper} {G : AS → Prop} {v : HV} {sl : List (Nat × HV)} {H : Heap} (ho : ops[i]? = some o) (hg : o.guard = none) (hN : okd N o.dst = true) (h0 : (o.dst, isVal o.op) = (some d, true)) (hv : aval P o.op ⟨sl, H⟩ (· = v)) (k : G ⟨(d, v) :: sl, H⟩) : AOpI P ro N ops i G ⟨sl, H⟩ := l_op (fid := 0) (mt := []) ho hg hN (qai h0 hv (qah k))
theorem oi {α : Type} {a b : α} (h : some a = some b) : a = b := Option.some.inj h
abbrev ASf := List (Nat × HV) → Heap → AS
end Go.AW
namespace Go.AW
open Go Go.Proofs
theorem ty2 : ty Tryz.prog 2 = some { desc := TypeDesc.int IntKind.i64, size := 1, bytes := 8, zero := Value.int IntKind.i64 (0) } := by kernel_rfl
theorem ty3 : ty Tryz.prog 3 = some { desc := TypeDesc.int IntKind.i64, size := 1, bytes := 8, zero := Value.int IntKind.i64 (0) } := by kernel_rfl
theorem ty4 : ty Tryz.prog 4 = some { desc := TypeDesc.bool, size := 1, bytes := 1, zero := Value.bool false } := by kernel_rfl
theorem ty5 : ty Tryz.prog 5 = some { desc := TypeDesc.int IntKind.u8, size := 1, bytes := 1, zero := Value.int IntKind.u8 (0) } := by kernel_rfl
theorem ty6 : ty Tryz.prog 6 = some { desc := TypeDesc.int IntKind.u8, size := 1, bytes := 1, zero := Value.int IntKind.u8 (0) } := by kernel_rfl
theorem ty9 : ty Tryz.prog 9 = some { desc := TypeDesc.string, size := 1, bytes := 16, zero := Value.string { data := #[] } } := by kernel_rfl
theorem ty10 : ty Tryz.prog 10 = some { desc := TypeDesc.string, size := 1, bytes := 16, zero := Value.string { data := #[] } } := by kernel_rfl
theorem ty11 : ty Tryz.prog 11 = some { desc := TypeDesc.string, size := 1, bytes := 16, zero := Value.string { data := #[] } } := by kernel_rfl
theorem ty12 : ty Tryz.prog 12 = some { desc := TypeDesc.int IntKind.u64, size := 1, bytes := 8, zero := Value.int IntKind.u64 (0) } := by kernel_rfl
theorem ty15 : ty Tryz.prog 15 = some { desc := TypeDesc.pointer 246, size := 1, bytes := 8, zero := Value.pointer none } := by kernel_rfl
theorem ty16 : ty Tryz.prog 16 = some { desc := TypeDesc.pointer 249, size := 1, bytes := 8, zero := Value.pointer none } := by kernel_rfl
theorem ty17 : ty Tryz.prog 17 = some { desc := TypeDesc.pointer 256, size := 1, bytes := 8, zero := Value.pointer none } := by kernel_rfl
theorem ty21 : ty Tryz.prog 21 = some { desc := TypeDesc.int IntKind.i32, size := 1, bytes := 4, zero := Value.int IntKind.i32 (0) } := by kernel_rfl
theorem ty22 : ty Tryz.prog 22 = some { desc := TypeDesc.slice 9, size := 1, bytes := 24, zero := Value.slice none 0 0 } := by kernel_rfl
theorem ty23 : ty Tryz.prog 23 = some { desc := TypeDesc.struct { toList := [{ name := "Words", type := 22, offset := 0, embedded := false, tag := "", pkgPath := "", byteOffset := 0 }, { name := "Merges", type := 22, offset := 1, embedded := false, tag := "", pkgPath := "", byteOffset := 24 }] }, size := 2, bytes := 48, zero := Value.agg #[Value.slice none 0 0, Value.slice none 0 0] } := by kernel_rfl
theorem ty24 : ty Tryz.prog 24 = some { desc := TypeDesc.struct { toList := [{ name := "Words", type := 22, offset := 0, embedded := false, tag := "", pkgPath := "", byteOffset := 0 }, { name := "Merges", type := 22, offset := 1, embedded := false, tag := "", pkgPath := "", byteOffset := 24 }] }, size := 2, bytes := 48, zero := Value.agg #[Value.slice none 0 0, Value.slice none 0 0] } := by kernel_rfl
theorem ty25 : ty Tryz.prog 25 = some { desc := TypeDesc.slice 128, size := 1, bytes := 24, zero := Value.slice none 0 0 } := by kernel_rfl
theorem ty26 : ty Tryz.prog 26 = some { desc := TypeDesc.struct { toList := [{ name := "Labels", type := 3, offset := 0, embedded := false, tag := "", pkgPath := "", byteOffset := 0 }, { name := "States", type := 3, offset := 1, embedded := false, tag := "", pkgPath := "", byteOffset := 8 }, { name := "Edges", type := 25, offset := 2, embedded := false, tag := "", pkgPath := "", byteOffset := 16 }] }, size := 3, bytes := 40, zero := Value.agg #[Value.int IntKind.i64 (0), Value.int IntKind.i64 (0), Value.slice none 0 0] } := by kernel_rfl
theorem ty27 : ty Tryz.prog 27 = some { desc := TypeDesc.struct { toList := [{ name := "Labels", type := 3, offset := 0, embedded := false, tag := "", pkgPath := "", byteOffset := 0 }, { name := "States", type := 3, offset := 1, embedded := false, tag := "", pkgPath := "", byteOffset := 8 }, { name := "Edges", type := 25, offset := 2, embedded := false, tag := "", pkgPath := "", byteOffset := 16 }] }, size := 3, bytes := 40, zero := Value.agg #[Value.int IntKind.i64 (0), Value.int IntKind.i64 (0), Value.slice none 0 0] } := by kernel_rfl
theorem ty28 : ty Tryz.prog 28 = some { desc := TypeDesc.slice 5, size := 1, bytes := 24, zero := Value.slice none 0 0 } := by kernel_rfl
theorem ty31 : ty Tryz.prog 31 = some { desc := TypeDesc.slice 3, size := 1, bytes := 24, zero := Value.slice none 0 0 } := by kernel_rfl
theorem ty33 : ty Tryz.prog 33 = some { desc := TypeDesc.int IntKind.i64, size := 1, bytes := 8, zero := Value.int IntKind.i64 (0) } := by kernel_rfl
theorem ty41 : ty Tryz.prog 41 = some { desc := TypeDesc.struct { toList := [{ name := "Neg", type := 4, offset := 0, embedded := false, tag := "", pkgPath := "", byteOffset := 0 }, { name := "Mag", type := 9, offset := 1, embedded := false, tag := "", pkgPath := "", byteOffset := 8 }] }, size := 2, bytes := 24, zero := Value.agg #[Value.bool false, Value.string { data := #[] }] } := by kernel_rfl
theorem ty42 : ty Tryz.prog 42 = some { desc := TypeDesc.struct { toList := [{ name := "Neg", type := 4, offset := 0, embedded := false, tag := "", pkgPath := "", byteOffset := 0 }, { name := "Mag", type := 9, offset := 1, embedded := false, tag := "", pkgPath := "", byteOffset := 8 }] }, size := 2, bytes := 24, zero := Value.agg #[Value.bool false, Value.string { data := #[] }] } := by kernel_rfl
theorem ty43 : ty Tryz.prog 43 = some { desc := TypeDesc.struct { toList := [{ name := "Num", type := 42, offset := 0, embedded := false, tag := "", pkgPath := "", byteOffset := 0 }, { name := "Den", type := 42, offset := 2, embedded := false, tag := "", pkgPath := "", byteOffset := 24 }] }, size := 4, bytes := 48, zero := Value.agg { toList := [Value.bool false, Value.string { data := #[] }, Value.bool false, Value.string { data := #[] }] } } := by kernel_rfl
theorem ty44 : ty Tryz.prog 44 = some { desc := TypeDesc.struct { toList := [{ name := "Num", type := 42, offset := 0, embedded := false, tag := "", pkgPath := "", byteOffset := 0 }, { name := "Den", type := 42, offset := 2, embedded := false, tag := "", pkgPath := "", byteOffset := 24 }] }, size := 4, bytes := 48, zero := Value.agg { toList := [Value.bool false, Value.string { data := #[] }, Value.bool false, Value.string { data := #[] }] } } := by kernel_rfl
theorem ty55 : ty Tryz.prog 55 = some { desc := TypeDesc.func #[31] #[4] false, size := 1, bytes := 8, zero := Value.nilFunc } := by kernel_rfl
theorem ty78 : ty Tryz.prog 78 = some { desc := TypeDesc.pointer 80, size := 1, bytes := 8, zero := Value.pointer none } := by kernel_rfl
theorem ty79 : ty Tryz.prog 79 = some { desc := TypeDesc.struct { toList := [{ name := "addr", type := 78, offset := 0, embedded := false, tag := "", pkgPath := "strings", byteOffset := 0 }, { name := "buf", type := 28, offset := 1, embedded := false, tag := "", pkgPath := "strings", byteOffset := 8 }] }, size := 2, bytes := 32, zero := Value.agg #[Value.pointer none, Value.slice none 0 0] } := by kernel_rfl
theorem ty80 : ty Tryz.prog 80 = some { desc := TypeDesc.struct { toList := [{ name := "addr", type := 78, offset := 0, embedded := false, tag := "", pkgPath := "strings", byteOffset := 0 }, { name := "buf", type := 28, offset := 1, embedded := false, tag := "", pkgPath := "strings", byteOffset := 8 }] }, size := 2, bytes := 32, zero := Value.agg #[Value.pointer none, Value.slice none 0 0] } := by kernel_rfl
theorem ty97 : ty Tryz.prog 97 = some { desc := TypeDesc.int IntKind.u64, size := 1, bytes := 8, zero := Value.int IntKind.u64 (0) } := by kernel_rfl
theorem ty103 : ty Tryz.prog 103 = some { desc := TypeDesc.int IntKind.u64, size := 1, bytes := 8, zero := Value.int IntKind.u64 (0) } := by kernel_rfl
theorem ty105 : ty Tryz.prog 105 = some { desc := TypeDesc.int IntKind.u32, size := 1, bytes := 4, zero := Value.int IntKind.u32 (0) } := by kernel_rfl
theorem ty106 : ty Tryz.prog 106 = some { desc := TypeDesc.slice 105, size := 1, bytes := 24, zero := Value.slice none 0 0 } := by kernel_rfl
theorem ty107 : ty Tryz.prog 107 = some { desc := TypeDesc.slice 105, size := 1, bytes := 24, zero := Value.slice none 0 0 } := by kernel_rfl
theorem ty127 : ty Tryz.prog 127 = some { desc := TypeDesc.struct { toList := [{ name := "From", type := 3, offset := 0, embedded := false, tag := "", pkgPath := "", byteOffset := 0 }, { name := "Label", type := 3, offset := 1, embedded := false, tag := "", pkgPath := "", byteOffset := 8 }, { name := "To", type := 3, offset := 2, embedded := false, tag := "", pkgPath := "", byteOffset := 16 }] }, size := 3, bytes := 24, zero := Value.agg { toList := [Value.int IntKind.i64 (0), Value.int IntKind.i64 (0), Value.int IntKind.i64 (0)] } } := by kernel_rfl
theorem ty128 : ty Tryz.prog 128 = some { desc := TypeDesc.struct { toList := [{ name := "From", type := 3, offset := 0, embedded := false, tag := "", pkgPath := "", byteOffset := 0 }, { name := "Label", type := 3, offset := 1, embedded := false, tag := "", pkgPath := "", byteOffset := 8 }, { name := "To", type := 3, offset := 2, embedded := false, tag := "", pkgPath := "", byteOffset := 16 }] }, size := 3, bytes := 24, zero := Value.agg { toList := [Value.int IntKind.i64 (0), Value.int IntKind.i64 (0), Value.int IntKind.i64 (0)] } } := by kernel_rfl
theorem ty134 : ty Tryz.prog 134 = some { desc := TypeDesc.pointer 5, size := 1, bytes := 8, zero := Value.pointer none } := by kernel_rfl
theorem ty149 : ty Tryz.prog 149 = some { desc := TypeDesc.func #[128] #[31] false, size := 1, bytes := 8, zero := Value.nilFunc } := by kernel_rfl
theorem ty151 : ty Tryz.prog 151 = some { desc := TypeDesc.slice 31, size := 1, bytes := 24, zero := Value.slice none 0 0 } := by kernel_rfl
theorem ty155 : ty Tryz.prog 155 = some { desc := TypeDesc.map 9 31, size := 1, bytes := 8, zero := Value.map none } := by kernel_rfl
theorem ty161 : ty Tryz.prog 161 = some { desc := TypeDesc.slice 192, size := 1, bytes := 24, zero := Value.slice none 0 0 } := by kernel_rfl
theorem ty174 : ty Tryz.prog 174 = some { desc := TypeDesc.map 9 4, size := 1, bytes := 8, zero := Value.map none } := by kernel_rfl
theorem ty180 : ty Tryz.prog 180 = some { desc := TypeDesc.array 8 5, size := 8, bytes := 8, zero := Value.agg { toList := [Value.int IntKind.u8 (0), Value.int IntKind.u8 (0), Value.int IntKind.u8 (0), Value.int IntKind.u8 (0), Value.int IntKind.u8 (0), Value.int IntKind.u8 (0), Value.int IntKind.u8 (0), Value.int IntKind.u8 (0)] } } := by kernel_rfl
theorem ty186 : ty Tryz.prog 186 = some { desc := TypeDesc.func #[3] #[] false, size := 1, bytes := 8, zero := Value.nilFunc } := by kernel_rfl
theorem ty188 : ty Tryz.prog 188 = some { desc := TypeDesc.slice 189, size := 1, bytes := 24, zero := Value.slice none 0 0 } := by kernel_rfl
theorem ty189 : ty Tryz.prog 189 = some { desc := TypeDesc.slice 4, size := 1, bytes := 24, zero := Value.slice none 0 0 } := by kernel_rfl
theorem ty191 : ty Tryz.prog 191 = some { desc := TypeDesc.struct { toList := [{ name := "Word", type := 9, offset := 0, embedded := false, tag := "", pkgPath := "", byteOffset := 0 }, { name := "Ends", type := 31, offset := 1, embedded := false, tag := "", pkgPath := "", byteOffset := 16 }] }, size := 2, bytes := 40, zero := Value.agg #[Value.string { data := #[] }, Value.slice none 0 0] } := by kernel_rfl
theorem ty192 : ty Tryz.prog 192 = some { desc := TypeDesc.struct { toList := [{ name := "Word", type := 9, offset := 0, embedded := false, tag := "", pkgPath := "", byteOffset := 0 }, { name := "Ends", type := 31, offset := 1, embedded := false, tag := "", pkgPath := "", byteOffset := 16 }] }, size := 2, bytes := 40, zero := Value.agg #[Value.string { data := #[] }, Value.slice none 0 0] } := by kernel_rfl
theorem ty217 : ty Tryz.prog 217 = some { desc := TypeDesc.int IntKind.i64, size := 1, bytes := 8, zero := Value.int IntKind.i64 (0) } := by kernel_rfl
theorem ty224 : ty Tryz.prog 224 = some { desc := TypeDesc.array 8 9, size := 8, bytes := 128, zero := Value.agg { toList := [Value.string { data := #[] }, Value.string { data := #[] }, Value.string { data := #[] }, Value.string { data := #[] }, Value.string { data := #[] }, Value.string { data := #[] }, Value.string { data := #[] }, Value.string { data := #[] }] } } := by kernel_rfl
theorem ty232 : ty Tryz.prog 232 = some { desc := TypeDesc.int IntKind.u64, size := 1, bytes := 8, zero := Value.int IntKind.u64 (0) } := by kernel_rfl
theorem ty236 : ty Tryz.prog 236 = some { desc := TypeDesc.pointer 3, size := 1, bytes := 8, zero := Value.pointer none } := by kernel_rfl
theorem ty241 : ty Tryz.prog 241 = some { desc := TypeDesc.pointer 232, size := 1, bytes := 8, zero := Value.pointer none } := by kernel_rfl
theorem ty247 : ty Tryz.prog 247 = some { desc := TypeDesc.array 0 16, size := 0, bytes := 0, zero := Value.agg #[] } := by kernel_rfl
theorem ty250 : ty Tryz.prog 250 = some { desc := TypeDesc.int IntKind.u8, size := 1, bytes := 1, zero := Value.int IntKind.u8 (0) } := by kernel_rfl
theorem ty251 : ty Tryz.prog 251 = some { desc := TypeDesc.int IntKind.u8, size := 1, bytes := 1, zero := Value.int IntKind.u8 (0) } := by kernel_rfl
theorem ty253 : ty Tryz.prog 253 = some { desc := TypeDesc.int IntKind.i32, size := 1, bytes := 4, zero := Value.int IntKind.i32 (0) } := by kernel_rfl
theorem ty254 : ty Tryz.prog 254 = some { desc := TypeDesc.int IntKind.i32, size := 1, bytes := 4, zero := Value.int IntKind.i32 (0) } := by kernel_rfl
attribute [go_sem] ty2 ty3 ty4 ty5 ty6 ty9 ty10 ty11 ty12 ty15 ty16 ty17 ty21 ty22 ty23 ty24 ty25 ty26 ty27 ty28 ty31 ty33 ty41 ty42 ty43 ty44 ty55 ty78 ty79 ty80 ty97 ty103 ty105 ty106 ty107 ty127 ty128 ty134 ty149 ty151 ty155 ty161 ty174 ty180 ty186 ty188 ty189 ty191 ty192 ty217 ty224 ty232 ty236 ty241 ty247 ty250 ty251 ty253 ty254
theorem follows : Tryz.prog.follows .mixedOrders = true := by kernel_rfl
theorem fo24_0 : fieldOf Tryz.prog 24 0 = some (0, { desc := TypeDesc.slice 9, size := 1, bytes := 24, zero := Value.slice none 0 0 }) := by kernel_rfl
theorem fo24_1 : fieldOf Tryz.prog 24 1 = some (1, { desc := TypeDesc.slice 9, size := 1, bytes := 24, zero := Value.slice none 0 0 }) := by kernel_rfl
theorem fo27_0 : fieldOf Tryz.prog 27 0 = some (0, { desc := TypeDesc.int IntKind.i64, size := 1, bytes := 8, zero := Value.int IntKind.i64 (0) }) := by kernel_rfl
theorem fo27_1 : fieldOf Tryz.prog 27 1 = some (1, { desc := TypeDesc.int IntKind.i64, size := 1, bytes := 8, zero := Value.int IntKind.i64 (0) }) := by kernel_rfl
theorem fo27_2 : fieldOf Tryz.prog 27 2 = some (2, { desc := TypeDesc.slice 128, size := 1, bytes := 24, zero := Value.slice none 0 0 }) := by kernel_rfl
theorem fo80_1 : fieldOf Tryz.prog 80 1 = some (1, { desc := TypeDesc.slice 5, size := 1, bytes := 24, zero := Value.slice none 0 0 }) := by kernel_rfl
theorem fo128_0 : fieldOf Tryz.prog 128 0 = some (0, { desc := TypeDesc.int IntKind.i64, size := 1, bytes := 8, zero := Value.int IntKind.i64 (0) }) := by kernel_rfl
theorem fo128_1 : fieldOf Tryz.prog 128 1 = some (1, { desc := TypeDesc.int IntKind.i64, size := 1, bytes := 8, zero := Value.int IntKind.i64 (0) }) := by kernel_rfl
theorem fo128_2 : fieldOf Tryz.prog 128 2 = some (2, { desc := TypeDesc.int IntKind.i64, size := 1, bytes := 8, zero := Value.int IntKind.i64 (0) }) := by kernel_rfl
theorem es22 : qbu Tryz.prog 22 = some 1 := by kernel_rfl
theorem es25 : qbu Tryz.prog 25 = some 3 := by kernel_rfl
theorem es31 : qbu Tryz.prog 31 = some 1 := by kernel_rfl
theorem es107 : qbu Tryz.prog 107 = some 1 := by kernel_rfl
theorem es151 : qbu Tryz.prog 151 = some 1 := by kernel_rfl
theorem es188 : qbu Tryz.prog 188 = some 1 := by kernel_rfl
theorem es189 : qbu Tryz.prog 189 = some 1 := by kernel_rfl
theorem hk44 (x0 : Bool) (x1 : List UInt8) (x2 : Bool) (x3 : List UInt8) : hkey Tryz.prog 5 44 [HV.bool x0, HV.str x1, HV.bool x2, HV.str x3] = some [Lit.bool x0, Lit.string x1, Lit.bool x2, Lit.string x3] := by kernel_rfl
theorem hc44 : Tryz.prog.eqGuardType Tryz.prog.depth 44 = false ∧ Tryz.prog.keyTypeAt 5 44 = true ∧ structT Tryz.prog 44 = true := ⟨by kernel_rfl, by kernel_rfl, by kernel_rfl⟩
theorem hq44 (x y : (Bool × List UInt8) × (Bool × List UInt8)) : x = y ↔ [Lit.bool x.1.1, Lit.string x.1.2, Lit.bool x.2.1, Lit.string x.2.2] = [Lit.bool y.1.1, Lit.string y.1.2, Lit.bool y.2.1, Lit.string y.2.2] := by simp [Prod.ext_iff, and_assoc]
end Go.AW
namespace Go.AW
open Go
def ints (l : List Int) : HV := .sl 1 l.length (l.map (.int .i64))
def num (n : Int) : HV := .int .i64 n
theorem cnt_next {i n : Nat} (h : n ≤ 9223372036854775807) (hi : i < n) : IntKind.wrap .i64 ((i : Int) + 1) = ((i + 1 : Nat) : Int) := by
 rw [w64 (by omega) (by omega)]; omega
theorem cnt_ge {i n : Nat} (h : decide ((i : Int) < (n : Int)) = false) (hi : i ≤ n) : i = n := by
 have : ¬ i < n := by simpa using h
 omega
theorem Pure.use {P : Program} {f : FuncId} {args : List HV} {H : Heap} {K : HV → Heap → Prop} {R : HV → Prop} (hp : Pure P f args R) (hK : ∀ r, R r → K r H) : ACall P f args H K := ACall.pure0 hp hK
end Go.AW

namespace Go.Proofs
open Go
def Tryz.sortS_ren : Go.Shelf.Ren := ⟨fun | 6 => 185 | 8 => 65 | 9 => 214 | 19 => 116 | 20 => 117 | 21 => 235 | 22 => 236 | 23 => 237 | 24 => 238 | 25 => 239 | 26 => 240 | 27 => 104 | 28 => 241 | 29 => 242 | 36 => 252 | 31 => 245 | 32 => 246 | 37 => 253 | 38 => 254 | 39 => 155 | 41 => 256 | n => n, fun | 27 => 22 | 29 => 9 | 3 => 3 | 32 => 97 | 26 => 22 | 0 => 0 | 44 => 105 | 46 => 103 | 4 => 4 | 36 => 218 | 35 => 217 | 41 => 133 | 5 => 5 | 9 => 9 | 53 => 232 | 57 => 236 | 63 => 241 | 64 => 242 | n => n, fun | n => n⟩
theorem Tryz.sortS : Go.Proofs.SlLaysM.n6 Tryz.prog Tryz.sortS_ren where
 mixed := by kernel_rfl
 f6 := ⟨"slices.Sort[[]string,string]", by decide, Tryz.func185.trans (congrArg some (by kernel_rfl))⟩
 f8 := Tryz.func65.trans (congrArg some (by kernel_rfl))
 f9 := ⟨"slices.pdqsortOrdered[string]", by decide, Tryz.func214.trans (congrArg some (by kernel_rfl))⟩
 f19 := Tryz.func116.trans (congrArg some (by kernel_rfl))
 f20 := Tryz.func117.trans (congrArg some (by kernel_rfl))
 f21 := ⟨"slices.insertionSortOrdered[string]", by decide, Tryz.func235.trans (congrArg some (by kernel_rfl))⟩
 f22 := ⟨"slices.heapSortOrdered[string]", by decide, Tryz.func236.trans (congrArg some (by kernel_rfl))⟩
 f23 := ⟨"slices.breakPatternsOrdered[string]", by decide, Tryz.func237.trans (congrArg some (by kernel_rfl))⟩
 f24 := ⟨"slices.choosePivotOrdered[string]", by decide, Tryz.func238.trans (congrArg some (by kernel_rfl))⟩
 f25 := ⟨"slices.reverseRangeOrdered[string]", by decide, Tryz.func239.trans (congrArg some (by kernel_rfl))⟩
 f26 := ⟨"slices.partialInsertionSortOrdered[string]", by decide, Tryz.func240.trans (congrArg some (by kernel_rfl))⟩
 f27 := ⟨"cmp.Less[string]", by decide, Tryz.func104.trans (congrArg some (by kernel_rfl))⟩
 f28 := ⟨"slices.partitionEqualOrdered[string]", by decide, Tryz.func241.trans (congrArg some (by kernel_rfl))⟩
 f29 := ⟨"slices.partitionOrdered[string]", by decide, Tryz.func242.trans (congrArg some (by kernel_rfl))⟩
 f31 := Tryz.func245.trans (congrArg some (by kernel_rfl))
 f32 := Tryz.func246.trans (congrArg some (by kernel_rfl))
 f36 := ⟨"slices.siftDownOrdered[string]", by decide, Tryz.func252.trans (congrArg some (by kernel_rfl))⟩
 f37 := ⟨"slices.medianAdjacentOrdered[string]", by decide, Tryz.func253.trans (congrArg some (by kernel_rfl))⟩
 f38 := ⟨"slices.medianOrdered[string]", by decide, Tryz.func254.trans (congrArg some (by kernel_rfl))⟩
 f39 := ⟨"cmp.isNaN[string]", by decide, Tryz.func155.trans (congrArg some (by kernel_rfl))⟩
 f41 := ⟨"slices.order2Ordered[string]", by decide, Tryz.func256.trans (congrArg some (by kernel_rfl))⟩
 t0 := Tryz.underlying0
 a0 := Tryz.isAgg0
 z0 := Tryz.sizeOf0
 v0 := Tryz.zeroValue0
 t3 := Tryz.underlying3
 a3 := Tryz.isAgg3
 z3 := Tryz.sizeOf3
 v3 := Tryz.zeroValue3
 t4 := Tryz.underlying4
 a4 := Tryz.isAgg4
 z4 := Tryz.sizeOf4
 v4 := Tryz.zeroValue4
 t5 := Tryz.underlying5
 a5 := Tryz.isAgg5
 z5 := Tryz.sizeOf5
 v5 := Tryz.zeroValue5
 t9 := Tryz.underlying9
 a9 := Tryz.isAgg9
 z9 := Tryz.sizeOf9
 v9 := Tryz.zeroValue9
 t26 := Tryz.underlying22
 a26 := Tryz.isAgg22
 z26 := Tryz.sizeOf22
 v26 := Tryz.zeroValue22
 t27 := Tryz.underlying22
 a27 := Tryz.isAgg22
 z27 := Tryz.sizeOf22
 v27 := Tryz.zeroValue22
 t29 := Tryz.underlying9
 a29 := Tryz.isAgg9
 z29 := Tryz.sizeOf9
 v29 := Tryz.zeroValue9
 t32 := Tryz.underlying97
 a32 := Tryz.isAgg97
 z32 := Tryz.sizeOf97
 v32 := Tryz.zeroValue97
 t35 := Tryz.underlying217
 a35 := Tryz.isAgg217
 z35 := Tryz.sizeOf217
 v35 := Tryz.zeroValue217
 t36 := Tryz.underlying218
 a36 := Tryz.isAgg218
 z36 := Tryz.sizeOf218
 v36 := Tryz.zeroValue218
 t41 := Tryz.underlying133
 a41 := Tryz.isAgg133
 z41 := Tryz.sizeOf133
 v41 := Tryz.zeroValue133
 t44 := Tryz.underlying105
 a44 := Tryz.isAgg105
 z44 := Tryz.sizeOf105
 v44 := Tryz.zeroValue105
 t46 := Tryz.underlying103
 a46 := Tryz.isAgg103
 z46 := Tryz.sizeOf103
 v46 := Tryz.zeroValue103
 t53 := Tryz.underlying232
 a53 := Tryz.isAgg232
 z53 := Tryz.sizeOf232
 v53 := Tryz.zeroValue232
 t57 := Tryz.underlying236
 a57 := Tryz.isAgg236
 z57 := Tryz.sizeOf236
 v57 := Tryz.zeroValue236
 t63 := Tryz.underlying241
 a63 := Tryz.isAgg241
 z63 := Tryz.sizeOf241
 v63 := Tryz.zeroValue241
 t64 := Tryz.underlying242
 a64 := Tryz.isAgg242
 z64 := Tryz.sizeOf242
 v64 := Tryz.zeroValue242
def Tryz.sortI_ren : Go.Shelf.Ren := ⟨fun | 5 => 160 | 8 => 65 | 7 => 195 | 19 => 116 | 20 => 117 | 10 => 218 | 11 => 219 | 12 => 220 | 13 => 221 | 14 => 222 | 15 => 223 | 16 => 76 | 17 => 224 | 18 => 225 | 30 => 244 | 31 => 245 | 32 => 246 | 33 => 247 | 34 => 248 | 35 => 125 | 40 => 255 | n => n, fun | 23 => 31 | 25 => 3 | 3 => 3 | 32 => 97 | 22 => 31 | 0 => 0 | 44 => 105 | 46 => 103 | 4 => 4 | 36 => 218 | 35 => 217 | 41 => 133 | 5 => 5 | 9 => 9 | 53 => 232 | 57 => 236 | 63 => 241 | 64 => 242 | n => n, fun | n => n⟩
theorem Tryz.sortI : Go.Proofs.SlLaysM.n5 Tryz.prog Tryz.sortI_ren where
 mixed := by kernel_rfl
 f5 := ⟨"slices.Sort[[]int,int]", by decide, Tryz.func160.trans (congrArg some (by kernel_rfl))⟩
 f7 := ⟨"slices.pdqsortOrdered[int]", by decide, Tryz.func195.trans (congrArg some (by kernel_rfl))⟩
 f8 := Tryz.func65.trans (congrArg some (by kernel_rfl))
 f10 := ⟨"slices.insertionSortOrdered[int]", by decide, Tryz.func218.trans (congrArg some (by kernel_rfl))⟩
 f11 := ⟨"slices.heapSortOrdered[int]", by decide, Tryz.func219.trans (congrArg some (by kernel_rfl))⟩
 f12 := ⟨"slices.breakPatternsOrdered[int]", by decide, Tryz.func220.trans (congrArg some (by kernel_rfl))⟩
 f13 := ⟨"slices.choosePivotOrdered[int]", by decide, Tryz.func221.trans (congrArg some (by kernel_rfl))⟩
 f14 := ⟨"slices.reverseRangeOrdered[int]", by decide, Tryz.func222.trans (congrArg some (by kernel_rfl))⟩
 f15 := ⟨"slices.partialInsertionSortOrdered[int]", by decide, Tryz.func223.trans (congrArg some (by kernel_rfl))⟩
 f16 := ⟨"cmp.Less[int]", by decide, Tryz.func76.trans (congrArg some (by kernel_rfl))⟩
 f17 := ⟨"slices.partitionEqualOrdered[int]", by decide, Tryz.func224.trans (congrArg some (by kernel_rfl))⟩
 f18 := ⟨"slices.partitionOrdered[int]", by decide, Tryz.func225.trans (congrArg some (by kernel_rfl))⟩
 f19 := Tryz.func116.trans (congrArg some (by kernel_rfl))
 f20 := Tryz.func117.trans (congrArg some (by kernel_rfl))
 f30 := ⟨"slices.siftDownOrdered[int]", by decide, Tryz.func244.trans (congrArg some (by kernel_rfl))⟩
 f31 := Tryz.func245.trans (congrArg some (by kernel_rfl))
 f32 := Tryz.func246.trans (congrArg some (by kernel_rfl))
 f33 := ⟨"slices.medianAdjacentOrdered[int]", by decide, Tryz.func247.trans (congrArg some (by kernel_rfl))⟩
 f34 := ⟨"slices.medianOrdered[int]", by decide, Tryz.func248.trans (congrArg some (by kernel_rfl))⟩
 f35 := ⟨"cmp.isNaN[int]", by decide, Tryz.func125.trans (congrArg some (by kernel_rfl))⟩
 f40 := ⟨"slices.order2Ordered[int]", by decide, Tryz.func255.trans (congrArg some (by kernel_rfl))⟩
 t0 := Tryz.underlying0
 a0 := Tryz.isAgg0
 z0 := Tryz.sizeOf0
 v0 := Tryz.zeroValue0
 t3 := Tryz.underlying3
 a3 := Tryz.isAgg3
 z3 := Tryz.sizeOf3
 v3 := Tryz.zeroValue3
 t4 := Tryz.underlying4
 a4 := Tryz.isAgg4
 z4 := Tryz.sizeOf4
 v4 := Tryz.zeroValue4
 t5 := Tryz.underlying5
 a5 := Tryz.isAgg5
 z5 := Tryz.sizeOf5
 v5 := Tryz.zeroValue5
 t9 := Tryz.underlying9
 a9 := Tryz.isAgg9
 z9 := Tryz.sizeOf9
 v9 := Tryz.zeroValue9
 t22 := Tryz.underlying31
 a22 := Tryz.isAgg31
 z22 := Tryz.sizeOf31
 v22 := Tryz.zeroValue31
 t23 := Tryz.underlying31
 a23 := Tryz.isAgg31
 z23 := Tryz.sizeOf31
 v23 := Tryz.zeroValue31
 t25 := Tryz.underlying3
 a25 := Tryz.isAgg3
 z25 := Tryz.sizeOf3
 v25 := Tryz.zeroValue3
 t32 := Tryz.underlying97
 a32 := Tryz.isAgg97
 z32 := Tryz.sizeOf97
 v32 := Tryz.zeroValue97
 t35 := Tryz.underlying217
 a35 := Tryz.isAgg217
 z35 := Tryz.sizeOf217
 v35 := Tryz.zeroValue217
 t36 := Tryz.underlying218
 a36 := Tryz.isAgg218
 z36 := Tryz.sizeOf218
 v36 := Tryz.zeroValue218
 t41 := Tryz.underlying133
 a41 := Tryz.isAgg133
 z41 := Tryz.sizeOf133
 v41 := Tryz.zeroValue133
 t44 := Tryz.underlying105
 a44 := Tryz.isAgg105
 z44 := Tryz.sizeOf105
 v44 := Tryz.zeroValue105
 t46 := Tryz.underlying103
 a46 := Tryz.isAgg103
 z46 := Tryz.sizeOf103
 v46 := Tryz.zeroValue103
 t53 := Tryz.underlying232
 a53 := Tryz.isAgg232
 z53 := Tryz.sizeOf232
 v53 := Tryz.zeroValue232
 t57 := Tryz.underlying236
 a57 := Tryz.isAgg236
 z57 := Tryz.sizeOf236
 v57 := Tryz.zeroValue236
 t63 := Tryz.underlying241
 a63 := Tryz.isAgg241
 z63 := Tryz.sizeOf241
 v63 := Tryz.zeroValue241
 t64 := Tryz.underlying242
 a64 := Tryz.isAgg242
 z64 := Tryz.sizeOf242
 v64 := Tryz.zeroValue242
end Go.Proofs
namespace Go.AW
open Go Go.Proofs Go.Sort
theorem repL_map {α : Type} {w : World} {μ : Mu} {f : α → HV} {g : α → Value} : ∀ {l : List α}, RepL w μ (l.map f) (l.map g) ↔ ∀ x ∈ l, Rep w μ (f x) (g x)
 | [] => by simp [RepL]
 | a :: l => by
  simp only [List.map_cons, RepL, List.mem_cons, forall_eq_or_imp]
  constructor
  ·rintro ⟨x, xs, e, h1, h2⟩
   cases e
   exact ⟨h1, repL_map.1 h2⟩
  ·exact fun ⟨h1, h2⟩ => ⟨_, _, rfl, h1, repL_map.2 h2⟩
theorem sorted_world {α : Type} [Inhabited α] {enc : α → Value} {f : α → HV} (hf1 : ∀ x, (f x).one = true) {w : World} {μ : Mu} {H : Heap} {id ver b k : Nat} {e : TypeId} {l d : List α} (hs : SR w μ H) (hg : hget H id = some (ver, .arr k e (l.map f)))
  (hl : μ.loc id = some (ver, some b)) (hrep : ∀ x ∈ l, Rep w μ (f x) (enc x)) (hor : OR w μ (.arr k e (l.map f)) (some b)) (hv : ∀ vs, RepL w μ (l.map f) vs → vs = l.map enc) (hp : d.Perm l) (n : Nat) (os : Array Obj) :
  SR (grow (putRow enc (Sort.ahead w n) b 0 d.toArray) os) μ (hset H id ver (.arr k e (d.map f))) ∧ Evo w μ (grow (putRow enc (Sort.ahead w n) b 0 d.toArray) os) μ := by
 obtain ⟨h0, cur, vs, rest, hrow, hcl, hrl⟩ := hor
 have hvs := hv vs hrl
 subst hvs
 have hlen : d.length = l.length := hp.length_eq
 have hcsz : cur.size = l.length + rest.length := by rw [← Array.length_toList, hcl]; simp
 -- the world with the row put
 have hb := hrow.lt
 obtain ⟨lo, hi, hbk, hfr⟩ := hrow
 have hbk' : (putRow enc (Sort.ahead w n) b 0 d.toArray).heap[b]? = some (.cells (putCells enc 0 d.toArray cur) e (lo, hi)) := by
  show (w.heap.modify b _)[b]? = _
  rw [Array.getElem?_modify, if_pos rfl, hbk]
  rfl
 have hcur' : (putCells enc 0 d.toArray cur).toList = d.map enc ++ rest := by
  apply List.ext_getElem?
  intro i
  rw [Array.getElem?_toList]
  simp only [putCells, Array.getElem?_mapIdx]
  have hc : cur[i]? = (l.map enc ++ rest)[i]? := by rw [← hcl, Array.getElem?_toList]
  rw [hc]
  rcases Nat.lt_or_ge i d.length with hi | hi
  ·rw [List.getElem?_append_left (by simp; omega), List.getElem?_append_left (by simpa using hi), List.getElem?_map, List.getElem?_map, List.getElem?_eq_getElem (by omega : i < l.length), List.getElem?_eq_getElem hi]
   simp only [Option.map_some]
   rw [if_pos ⟨Nat.zero_le _, by simpa using hi⟩]
   simp [hi]
  ·rw [List.getElem?_append_right (by simp; omega), List.getElem?_append_right (by simpa using hi)]
   simp only [List.length_map, hlen]
   cases rest[i - l.length]? with
   | none => rfl
   | some x =>
    simp only [Option.map_some]
    rw [if_neg (by simp; omega)]
 have hsz1 : (putRow enc (Sort.ahead w n) b 0 d.toArray).heap.size = w.heap.size := by rw [size_putRow]; rfl
 have hrow1 : Row (putRow enc (Sort.ahead w n) b 0 d.toArray) b (putCells enc 0 d.toArray cur) e := ⟨lo, hi, hbk', by simpa [putCells] using hfr⟩
 have hold : ∀ b', b' ≠ b → (putRow enc (Sort.ahead w n) b 0 d.toArray).heap[b']? = w.heap[b']? := fun b' hne => by
  show (w.heap.modify b _)[b']? = _
  rw [Array.getElem?_modify, if_neg (fun e => hne e.symm)]
 obtain ⟨h1, h2⟩ := hs.updArr (cs' := d.map f) (w' := putRow enc (Sort.ahead w n) b 0 d.toArray) hg hl ⟨rfl, rfl, rfl⟩ hsz1 hold ⟨lo, hi, hbk, hfr⟩ hrow1 (by simp [putCells]) fun E => by
  refine ⟨fun c hc => ?_, _, d.map enc, rest, hrow1, hcur', repL_map.2 fun x hx => Rep.evo E hs.ok _ _ (hrep x (hp.mem_iff.1 hx))⟩
  obtain ⟨x, _, rfl⟩ := List.mem_map.1 hc
  exact hf1 x
 have g : Grow (putRow enc (Sort.ahead w n) b 0 d.toArray) (grow (putRow enc (Sort.ahead w n) b 0 d.toArray) os) :=
  ⟨⟨rfl, rfl, rfl⟩, by rw [size_grow]; omega, fun b' hb' => by
   show (_ ++ os)[b']? = _
   rw [Array.getElem?_append_left hb']⟩
 exact ⟨h1.grow g, h2.trans (Evo.grow h1 g)⟩
theorem holds_row {α : Type} [Inhabited α] {enc : α → Value} {w : World} {b : Nat} {cur : Array Value} {e : TypeId} {l : List α} {rest : List Value} (hrow : Row w b cur e) (hcl : cur.toList = l.map enc ++ rest) : Holds enc w b 0 l.toArray := by
 intro j hj
 have hj' : j < l.length := by simpa using hj
 have hc : cur[j]? = some (enc l[j]) := by
  rw [← Array.getElem?_toList, hcl, List.getElem?_append_left (by simpa using hj'), List.getElem?_map, List.getElem?_eq_getElem hj']
  rfl
 refine ⟨?_, ?_⟩
 ·rw [Nat.zero_add, hrow.cell, hc]
  simp [hj']
 ·rw [Nat.zero_add]
  exact hrow.free (Array.getElem?_eq_some_iff.1 hc).1
theorem repL_strs {w : World} {μ : Mu} : ∀ {l : List (List UInt8)} {vs : List Value}, RepL w μ (l.map .str) vs → vs = l.map encStr ∧ ∀ x ∈ l, Rep w μ (.str x) (encStr x)
 | [], vs, h => by simp only [List.map_nil, RepL] at h; subst h; exact ⟨rfl, by simp⟩
 | a :: l, vs, ⟨x, xs, e, h1, h2⟩ => by
  obtain ⟨h3, h4⟩ := repL_strs h2
  obtain ⟨rfl, hl⟩ := h1
  subst e
  rw [h3]
  exact ⟨rfl, by simpa using ⟨⟨rfl, hl⟩, h4⟩⟩
theorem repL_ints {w : World} {μ : Mu} : ∀ {l : List Int} {vs : List Value}, RepL w μ (l.map (.int .i64)) vs → vs = l.map (Value.int .i64) ∧ ∀ x ∈ l, Rep w μ (.int .i64 x) (Value.int .i64 x)
 | [], vs, h => by simp only [List.map_nil, RepL] at h; subst h; exact ⟨rfl, by simp⟩
 | a :: l, vs, ⟨x, xs, e, h1, h2⟩ => by
  obtain ⟨h3, h4⟩ := repL_ints h2
  obtain ⟨rfl, hl⟩ := h1
  subst e
  rw [h3]
  exact ⟨rfl, by simpa using ⟨⟨rfl, hl⟩, h4⟩⟩
theorem w45 {H : Heap} {id ver : Nat} {e : TypeId} {l : List (List UInt8)} {K : HV → Heap → Prop} (hg : hget H id = some (ver, .arr 1 e (l.map .str))) (hlen : l.length < 4611686018427387904)
  (hK : K (.tup []) (hset H id ver (.arr 1 e ((sortS l).map .str)))) : ACall Tryz.prog 185 [.ar id ver 1 0 l.length] H K := by
 refine ⟨enters' Tryz.func185 rfl rfl, fun μ w vs hs hr _ => ?_⟩
 obtain ⟨x, xs, rfl, hr, hn⟩ := hr
 cases hn
 obtain ⟨lo, hl, hor⟩ := hs.has _ _ _ hg
 rcases hr with ⟨lo', hl', h⟩ | ⟨hd, _⟩
 ·rw [hl] at hl'
  cases hl'
  rcases h with ⟨rfl, rfl, h0, _⟩ | ⟨b, cap, cur, e', rfl, rfl, hcap, _, hrow, hsz⟩
  ·have h0' : l = [] := List.eq_nil_of_length_eq_zero h0
   subst h0'
   refine (AnyM.slices_Sort_string_none Tryz.sortS none 0 w).mono ?_
   rintro e' w' ⟨rfl, rfl⟩
   have hset_same : SR w' μ (hset H id ver (.arr 1 e ((sortS []).map .str))) := by
    refine ⟨hs.ok, fun j v o ho => ?_, fun j x hx => ?_, hs.inj, hs.held⟩
    ·rw [qag] at ho
     split at ho
     ·rename_i ej; subst ej; cases ho; exact ⟨none, hl, by show (sortS []).map HV.str = []; simp [sortS]⟩
     ·exact hs.has _ _ _ ho
    ·rw [qag]
     split
     ·exact ⟨_, rfl⟩
     ·exact hs.only _ _ hx
   exact ⟨_, .tup [], _, μ, rfl, hK, hset_same, ⟨[], rfl, rfl⟩, Evo.refl _ _⟩
  ·have hor' := hor
   obtain ⟨h0, cur', vs', rest, hrow', hcl, hrl⟩ := hor
   obtain ⟨hvs, hreps⟩ := repL_strs hrl
   subst hvs
   refine (AnyM.slices_Sort_string Tryz.sortS b 0 cap l w (holds_row hrow' hcl) hrow'.lt hlen).mono ?_
   rintro e2 w' ⟨rfl, n, os, rfl⟩
   obtain ⟨h1, h2⟩ := sorted_world (f := HV.str) (fun _ => rfl) hs hg hl hreps hor' (fun vs hv => (repL_strs hv).1) (List.mergeSort_perm l _) n os
   exact ⟨_, .tup [], _, μ, rfl, hK, h1, ⟨[], rfl, rfl⟩, h2⟩
 ·exact absurd hl (hd.2 lo)
theorem w45n {H : Heap} {K : HV → Heap → Prop} (hK : K (.tup []) H) : ACall Tryz.prog 185 [.v (.slice none 0 0)] H K := by
 refine ⟨enters' Tryz.func185 rfl rfl, fun μ w vs hs hr _ => ?_⟩
 obtain ⟨x, xs, rfl, hr, hn⟩ := hr
 cases hn
 cases hr
 refine (AnyM.slices_Sort_string_none Tryz.sortS none 0 w).mono ?_
 rintro e' w' ⟨rfl, rfl⟩
 exact ⟨_, .tup [], _, μ, rfl, hK, hs, ⟨[], rfl, rfl⟩, Evo.refl _ _⟩
theorem w179 {H : Heap} {id ver : Nat} {e : TypeId} {l : List Int} {K : HV → Heap → Prop} (hg : hget H id = some (ver, .arr 1 e (l.map (.int .i64)))) (hlen : l.length < 4611686018427387904)
  (hK : K (.tup []) (hset H id ver (.arr 1 e ((sortI l).map (.int .i64))))) : ACall Tryz.prog 160 [.ar id ver 1 0 l.length] H K := by
 refine ⟨enters' Tryz.func160 rfl rfl, fun μ w vs hs hr _ => ?_⟩
 obtain ⟨x, xs, rfl, hr, hn⟩ := hr
 cases hn
 obtain ⟨lo, hl, hor⟩ := hs.has _ _ _ hg
 rcases hr with ⟨lo', hl', h⟩ | ⟨hd, _⟩
 ·rw [hl] at hl'
  cases hl'
  rcases h with ⟨rfl, rfl, h0, _⟩ | ⟨b, cap, cur, e', rfl, rfl, hcap, _, hrow, hsz⟩
  ·have h0' : l = [] := List.eq_nil_of_length_eq_zero h0
   subst h0'
   refine (AnyM.slices_Sort_int_none Tryz.sortI none 0 w).mono ?_
   rintro e' w' ⟨rfl, rfl⟩
   refine ⟨_, .tup [], _, μ, rfl, hK, ?_, ⟨[], rfl, rfl⟩, Evo.refl _ _⟩
   have : (sortI []).map (HV.int .i64) = [] := by simp [sortI]
   rw [this]
   exact hs.same hg
  ·have hor' := hor
   obtain ⟨h0, cur', vs', rest, hrow', hcl, hrl⟩ := hor
   obtain ⟨hvs, hreps⟩ := repL_ints hrl
   subst hvs
   refine (AnyM.slices_Sort_int Tryz.sortI b 0 cap l w (holds_row hrow' hcl) hrow'.lt hlen).mono ?_
   rintro e2 w' ⟨rfl, n, os, rfl⟩
   obtain ⟨h1, h2⟩ := sorted_world (f := HV.int .i64) (fun _ => rfl) hs hg hl hreps hor' (fun vs hv => (repL_ints hv).1) (List.mergeSort_perm l _) n os
   exact ⟨_, .tup [], _, μ, rfl, hK, h1, ⟨[], rfl, rfl⟩, h2⟩
 ·exact absurd hl (hd.2 lo)
theorem sorts179 : SortsI Tryz.prog 160 := by
 refine ⟨fun _ _ _ _ _ _ hg hl hK => w179 hg hl hK, fun H K hK => ⟨enters' Tryz.func160 rfl rfl, fun μ w vs hs hr _ => ?_⟩⟩
 obtain ⟨x, xs, rfl, hr, hn⟩ := hr
 cases hn
 cases hr
 refine (AnyM.slices_Sort_int_none Tryz.sortI none 0 w).mono ?_
 rintro e' w' ⟨rfl, rfl⟩
 exact ⟨_, .tup [], _, μ, rfl, hK, hs, ⟨[], rfl, rfl⟩, Evo.refl _ _⟩
end Go.AW
namespace Go.AW
open Go Go.Proofs Go.Sort Go.Lib
theorem put_world {α : Type} [Inhabited α] {enc : α → Value} {f : α → HV} (hf1 : ∀ x, (f x).one = true) {w : World} {μ : Mu} {H : Heap} {id ver b k : Nat} {e : TypeId} {l d : List α} (hs : SR w μ H) (hg : hget H id = some (ver, .arr k e (l.map f)))
  (hl : μ.loc id = some (ver, some b)) (hrep : ∀ x ∈ d, Rep w μ (f x) (enc x)) (hor : OR w μ (.arr k e (l.map f)) (some b)) (hv : ∀ vs, RepL w μ (l.map f) vs → vs = l.map enc) (hlen : d.length = l.length) (n : Nat) :
  SR (putRow enc (Sort.ahead w n) b 0 d.toArray) μ (hset H id ver (.arr k e (d.map f))) ∧ Evo w μ (putRow enc (Sort.ahead w n) b 0 d.toArray) μ := by
 obtain ⟨h0, cur, vs, rest, hrow, hcl, hrl⟩ := hor
 have hvs := hv vs hrl
 subst hvs
 have hcsz : cur.size = l.length + rest.length := by rw [← Array.length_toList, hcl]; simp
 obtain ⟨lo, hi, hbk, hfr⟩ := hrow
 have hbk' : (putRow enc (Sort.ahead w n) b 0 d.toArray).heap[b]? = some (.cells (putCells enc 0 d.toArray cur) e (lo, hi)) := by
  show (w.heap.modify b _)[b]? = _
  rw [Array.getElem?_modify, if_pos rfl, hbk]
  rfl
 have hcur' : (putCells enc 0 d.toArray cur).toList = d.map enc ++ rest := by
  apply List.ext_getElem?
  intro i
  rw [Array.getElem?_toList]
  simp only [putCells, Array.getElem?_mapIdx]
  have hc : cur[i]? = (l.map enc ++ rest)[i]? := by rw [← hcl, Array.getElem?_toList]
  rw [hc]
  rcases Nat.lt_or_ge i d.length with hi | hi
  ·rw [List.getElem?_append_left (by simp; omega), List.getElem?_append_left (by simpa using hi), List.getElem?_map, List.getElem?_map, List.getElem?_eq_getElem (by omega : i < l.length), List.getElem?_eq_getElem hi]
   simp only [Option.map_some]
   rw [if_pos ⟨Nat.zero_le _, by simpa using hi⟩]
   simp [hi]
  ·rw [List.getElem?_append_right (by simp; omega), List.getElem?_append_right (by simpa using hi)]
   simp only [List.length_map, hlen]
   cases rest[i - l.length]? with
   | none => rfl
   | some x =>
    simp only [Option.map_some]
    rw [if_neg (by simp; omega)]
 have hsz1 : (putRow enc (Sort.ahead w n) b 0 d.toArray).heap.size = w.heap.size := by rw [size_putRow]; rfl
 have hrow1 : Row (putRow enc (Sort.ahead w n) b 0 d.toArray) b (putCells enc 0 d.toArray cur) e := ⟨lo, hi, hbk', by simpa [putCells] using hfr⟩
 have hold : ∀ b', b' ≠ b → (putRow enc (Sort.ahead w n) b 0 d.toArray).heap[b']? = w.heap[b']? := fun b' hne => by
  show (w.heap.modify b _)[b']? = _
  rw [Array.getElem?_modify, if_neg (fun e => hne e.symm)]
 exact hs.updArr (cs' := d.map f) (w' := putRow enc (Sort.ahead w n) b 0 d.toArray) hg hl ⟨rfl, rfl, rfl⟩ hsz1 hold ⟨lo, hi, hbk, hfr⟩ hrow1 (by simp [putCells]) fun E => by
  refine ⟨fun c hc => ?_, _, d.map enc, rest, hrow1, hcur', repL_map.2 fun x hx => Rep.evo E hs.ok _ _ (hrep x hx)⟩
  obtain ⟨x, _, rfl⟩ := List.mem_map.1 hc
  exact hf1 x
end Go.AW
namespace Go.Proofs
open Go
set_option maxHeartbeats 1000000 in
set_option maxRecDepth 100000 in
theorem Tryz.stringslite_IndexByte (s : ByteArray) (c : Int) (w : World) :
  Calls Tryz.prog 162 #[.string s, .int .u8 c] w fun e w' => e = .returned (.int .i64 (Lib.indexByte s.data.toList c.toNat.toUInt8)) ∧ w' = w := by
 go_enter Tryz.func162, Tryz.ntmps162
 go_wp2
 rw [run_callFunc_extern Tryz.func196 (by kernel_rfl) (by kernel_rfl) (by kernel_rfl) (e := Extern.BytealgIndexByte.indexByte) (by kernel_rfl), Lib.run_indexByteString]
 simp only [Result.andThen]
 rw [Oper.upon_value]
 go_wp2
 go_ret
 exact ⟨rfl, rfl⟩
set_option maxHeartbeats 1000000 in
theorem Tryz.strings_IndexByte (s : ByteArray) (c : Int) (w : World) :
  Calls Tryz.prog 109 #[.string s, .int .u8 c] w fun e w' => e = .returned (.int .i64 (Lib.indexByte s.data.toList c.toNat.toUInt8)) ∧ w' = w := by
 go_enter Tryz.func109, Tryz.ntmps109
 go_wp2_with (go_at_call 162; refine (Tryz.stringslite_IndexByte _ _ _).mono ?_; rintro e w' ⟨rfl, rfl⟩)
 go_ret
 exact ⟨rfl, rfl⟩
end Go.Proofs
namespace Go.AW
open Go Go.Proofs
theorem idx_wf (l : List UInt8) (c : UInt8) (hl : l.length ≤ maxLen) : (Lit.int .i64 (Lib.indexByte l c)).wf = true := by
 have h : ∀ l : List UInt8, -1 ≤ Lib.indexByte l c ∧ Lib.indexByte l c ≤ l.length := by
  intro l
  induction l with
  | nil => simp [Lib.indexByte]
  | cons a l ih =>
   simp only [Lib.indexByte, List.length_cons]
   split
   ·omega
   ·split
    ·omega
    ·omega
 have := h l
 simp only [maxLen] at hl
 simp only [Lit.wf, IntKind.min, IntKind.max, IntKind.signed, IntKind.bits, Bool.and_eq_true, decide_eq_true_eq]
 simp
 omega
theorem w51 (l : List UInt8) (c : Int) : Pure Tryz.prog 109 [.str l, .int .u8 c] (· = .int .i64 (Lib.indexByte l c.toNat.toUInt8)) := by
 refine ⟨enters' Tryz.func109 rfl rfl, fun μ w vs hs hr _ => ?_⟩
 obtain ⟨x, xs, rfl, ⟨rfl, hl⟩, y, ys, rfl, ⟨rfl, _⟩, hn⟩ := hr
 cases hn
 refine (Tryz.strings_IndexByte ⟨l.toArray⟩ c w).mono ?_
 rintro e w' ⟨rfl, rfl⟩
 exact ⟨_, _, [], μ, rfl, ⟨rfl, trivial, rfl⟩, hs, ⟨by simp, idx_wf l _ hl⟩, Evo.refl _ _⟩
end Go.AW
namespace Go.Proofs
open Go
def Tryz.compI_ren : Go.Shelf.Ren := ⟨fun | 20 => 161 | n => n, fun | 22 => 31 | 3 => 3 | 4 => 4 | 0 => 0 | n => n, fun | n => n⟩
theorem Tryz.compI : Go.Proofs.Lays2.n20 Tryz.prog Tryz.compI_ren where
 mixed := by kernel_rfl
 f20 := Tryz.func161.trans (congrArg some (by kernel_rfl))
 t0 := Tryz.underlying0
 a0 := Tryz.isAgg0
 z0 := Tryz.sizeOf0
 v0 := Tryz.zeroValue0
 t3 := Tryz.underlying3
 a3 := Tryz.isAgg3
 z3 := Tryz.sizeOf3
 v3 := Tryz.zeroValue3
 t4 := Tryz.underlying4
 a4 := Tryz.isAgg4
 z4 := Tryz.sizeOf4
 v4 := Tryz.zeroValue4
 t22 := Tryz.underlying31
 a22 := Tryz.isAgg31
 z22 := Tryz.sizeOf31
 v22 := Tryz.zeroValue31
 i3 := by kernel_rfl
end Go.Proofs
namespace Go.AW
open Go Go.Proofs Go.Sort Go.Lib
theorem c_sortI : SortsI Tryz.prog 160 := sorts179
theorem w180 {H : Heap} {id ver : Nat} {e : TypeId} {l : List Int} {K : HV → Heap → Prop} (hg : hget H id = some (ver, .arr 1 e (l.map (.int .i64))))
  (hK : K (.ar id ver 1 0 (qaU l).length) (hset H id ver (.arr 1 e ((qaU l ++ List.replicate (l.length - (qaU l).length) 0).map (.int .i64))))) : ACall Tryz.prog 161 [.ar id ver 1 0 l.length] H K := by
 refine ⟨enters' Tryz.func161 rfl rfl, fun μ w vs hs hr _ => ?_⟩
 obtain ⟨x, xs, rfl, hr, hn⟩ := hr
 cases hn
 obtain ⟨lo, hl, hor⟩ := hs.has _ _ _ hg
 rcases hr with ⟨lo', hl', h⟩ | ⟨hd, _⟩
 ·rw [hl] at hl'
  cases hl'
  rcases h with ⟨rfl, rfl, h0, _⟩ | ⟨b, cap, cur, e', rfl, rfl, hcap, hcm, hrow, hsz⟩
  ·have hl0 := List.eq_nil_of_length_eq_zero h0
   subst hl0
   refine (Any.slices_Compact_int_empty Tryz.compI none 0 w).mono ?_
   rintro e2 w' ⟨rfl, rfl⟩
   refine ⟨_, .ar id ver 1 0 0, _, μ, rfl, hK, hs.reobj hg fun l hl hor => hor, .inl ⟨none, hl, .inl ⟨rfl, rfl, rfl, rfl⟩⟩, Evo.refl _ _⟩
  ·have hor' := hor
   obtain ⟨h0, cur', vs', rest, hrow', hcl, hrl⟩ := hor
   obtain ⟨hvs, hreps⟩ := repL_ints hrl
   subst hvs
   refine (Any.slices_Compact_int Tryz.compI b 0 cap l w (holds_row hrow' hcl) (by have := hcm; simp only [maxLen] at this; omega) hcap).mono ?_
   ·rintro e2 w' ⟨rfl, n, rfl⟩
    have hle := compact_le l
    have hlen : (qaU l ++ List.replicate (l.length - (qaU l).length) (0 : Int)).length = l.length := by simp; omega
    obtain ⟨h1, h2⟩ := put_world (f := HV.int .i64) (fun _ => rfl) hs hg hl (d := qaU l ++ List.replicate (l.length - (qaU l).length) 0) (fun x hx => by
     rcases List.mem_append.1 hx with hx | hx
     ·exact hreps x (compact_mem hx)
     ·rw [List.eq_of_mem_replicate hx]; exact ⟨rfl, rfl⟩) hor' (fun vs hv => (repL_ints hv).1) hlen n
    refine ⟨_, .ar id ver 1 0 (qaU l).length, _, μ, rfl, hK, h1, .inl ⟨some b, hl, .inr ⟨b, cap, putCells (Value.int .i64) 0 (qaU l ++ List.replicate (l.length - (qaU l).length) 0).toArray cur, e', rfl, by simp, by omega, hcm, ?_, ?_⟩⟩, h2⟩
    ·obtain ⟨lo, hi, hbk, hfr⟩ := hrow
     refine ⟨lo, hi, ?_, by simpa [putCells] using hfr⟩
     show (w.heap.modify b _)[b]? = _
     rw [Array.getElem?_modify, if_pos rfl, hbk]
     rfl
    ·simp only [putCells, Array.size_mapIdx]; exact hsz
 ·exact absurd hl (hd.2 lo)
theorem c_compactI {H H' : Heap} {id ver n : Nat} {e : TypeId} {l : List Int} {K : HV → Heap → Prop} (hn : n = l.length) (hg : hget H id = some (ver, .arr 1 e (l.map (.int .i64)))) (hle : ∀ j x, hget H' j = some x → hget H j = some x) (hno : hget H' id = none)
  (hK : K (slE eInt (qaU l)) H') : ACall Tryz.prog 161 [.ar id ver 1 0 n] H K := by
 subst hn
 have hlen := compact_le l
 refine ACall.freeze 2 [(id, ver, .arr 1 e ((qaU l ++ List.replicate (l.length - (qaU l).length) 0).map (.int .i64)))] H' (w180 hg ⟨fun j x hx => ?_, fun j x hx => ?_, ?_⟩)
 ·rw [qag, if_neg (fun e => by rw [e, hno] at hx; cases hx)]
  exact hle j x hx
 ·simp only [hget] at hx
  split at hx
  ·rename_i e
   subst e
   cases hx
   exact ⟨by rw [qag, if_pos rfl], hno⟩
  ·cases hx
 ·have : frz 2 [(id, ver, .arr 1 e ((qaU l ++ List.replicate (l.length - (qaU l).length) 0).map (.int .i64)))] (.ar id ver 1 0 (qaU l).length) = slE eInt (qaU l) := by
   have h0 : hget [(id, ver, AObj.arr 1 e ((qaU l ++ List.replicate (l.length - (qaU l).length) 0).map (.int .i64)))] id = some (ver, .arr 1 e ((qaU l ++ List.replicate (l.length - (qaU l).length) 0).map (.int .i64))) := by simp only [hget, if_true]
   rw [frz, h0]
   have h1 : ver = ver ∧ 0 + (qaU l).length * 1 ≤ ((qaU l ++ List.replicate (l.length - (qaU l).length) (0 : Int)).map (HV.int .i64)).length := ⟨rfl, by simp⟩
   refine (if_pos h1).trans ?_
   rw [List.drop_zero, Nat.mul_one, List.map_append, List.take_left' (List.length_map _), List.map_map]
   rfl
  rw [this]
  exact hK
theorem w_strings_IndexByte {l : List UInt8} {c r : Int} (h : qaK l c = some r) : Pure Tryz.prog 109 [HV.str l, HV.int .u8 c] (· = HV.int .i64 r) := by
 cases h
 exact w51 l c
end Go.AW
namespace Go.AW
open Go
def letters : List UInt8 := [48, 49, 50, 51, 52, 53, 54, 55, 56, 57, 97, 98, 99, 100, 101, 102]
abbrev WS := List UInt8 × List Int
def ext1 (stp : List Int → UInt8 → List Int) (cs : List UInt8) (x : WS) : List WS := cs.filterMap fun c => if stp x.2 c = [] then none else some (x.1 ++ [c], stp x.2 c)
def lvl (stp : List Int → UInt8 → List Int) (cs : List UInt8) (set : List Int) : Nat → List WS
 | 0 => if set = [] then [] else [([], set)]
 | i + 1 => (lvl stp cs set i).flatMap (ext1 stp cs)
def ent (x : WS) : List UInt8 × HV := (x.1, ints x.2)
section
variable {stp : List Int → UInt8 → List Int} {cs : List UInt8} {set : List Int}
theorem mem_ext1 {x y : WS} : y ∈ ext1 stp cs x ↔ ∃ c ∈ cs, stp x.2 c ≠ [] ∧ y = (x.1 ++ [c], stp x.2 c) := by
 simp only [ext1, List.mem_filterMap]
 constructor
 ·rintro ⟨c, hc, h⟩
  split at h
  ·cases h
  ·rename_i hn; cases h; exact ⟨c, hc, hn, rfl⟩
 ·rintro ⟨c, hc, hn, rfl⟩
  exact ⟨c, hc, by rw [if_neg hn]⟩
theorem ext1_keys (x : WS) (h : cs.Nodup) : ((ext1 stp cs x).map (·.1)).Nodup := by
 induction cs with
 | nil => simp [ext1]
 | cons c cs ih =>
  have hc := List.nodup_cons.1 h
  have ih' := ih hc.2
  simp only [ext1, List.filterMap_cons] at ih' ⊢
  split
  ·exact ih'
  ·rename_i y hy
   split at hy
   ·cases hy
   ·cases hy
    simp only [List.map_cons, List.nodup_cons]
    refine ⟨fun hm => ?_, ih'⟩
    obtain ⟨z, hz, he⟩ := List.mem_map.1 hm
    obtain ⟨d, hd, _, rfl⟩ := mem_ext1.1 hz
    have := List.append_cancel_left he
    cases this
    exact hc.1 hd
theorem flat_keys (h : cs.Nodup) : ∀ {l : List WS}, (l.map (·.1)).Nodup → ((l.flatMap (ext1 stp cs)).map (·.1)).Nodup
 | [], _ => by simp
 | x :: l, hl => by
  simp only [List.map_cons, List.nodup_cons] at hl
  simp only [List.flatMap_cons, List.map_append]
  refine List.nodup_append.2 ⟨ext1_keys x h, flat_keys h hl.2, ?_⟩
  intro a ha b hb e
  subst e
  obtain ⟨y, hy, rfl⟩ := List.mem_map.1 ha
  obtain ⟨c, _, _, rfl⟩ := mem_ext1.1 hy
  obtain ⟨z, hz, he⟩ := List.mem_map.1 hb
  obtain ⟨x', hx', hz'⟩ := List.mem_flatMap.1 hz
  obtain ⟨d, _, _, rfl⟩ := mem_ext1.1 hz'
  have h1 : x'.1 = x.1 := by
   have := congrArg List.dropLast he
   simpa using this
  exact hl.1 (h1 ▸ List.mem_map.2 ⟨x', hx', rfl⟩)
theorem lvl_keys (h : cs.Nodup) : ∀ i, ((lvl stp cs set i).map (·.1)).Nodup
 | 0 => by simp only [lvl]; split <;> simp
 | i + 1 => flat_keys h (lvl_keys h i)
theorem lvl_len : ∀ (i : Nat) (x : WS), x ∈ lvl stp cs set i → x.1.length = i
 | 0, x, h => by
  simp only [lvl] at h
  split at h
  ·cases h
  ·simp at h; subst h; rfl
 | i + 1, x, h => by
  obtain ⟨y, hy, hx⟩ := List.mem_flatMap.1 h
  obtain ⟨c, _, _, rfl⟩ := mem_ext1.1 hx
  have := lvl_len i y hy
  simp [this]
theorem lvl_all {A : List Int → Prop} (h0 : A set) (hs : ∀ a c, A a → c ∈ cs → A (stp a c)) : ∀ (i : Nat) (x : WS), x ∈ lvl stp cs set i → A x.2
 | 0, x, h => by
  simp only [lvl] at h
  split at h
  ·cases h
  ·simp at h; subst h; exact h0
 | i + 1, x, h => by
  obtain ⟨y, hy, hx⟩ := List.mem_flatMap.1 h
  obtain ⟨c, hc, _, rfl⟩ := mem_ext1.1 hx
  exact hs _ _ (lvl_all h0 hs i y hy) hc
theorem lvl_nil {i : Nat} (h : lvl stp cs set i = []) : ∀ {j : Nat}, i ≤ j → lvl stp cs set j = []
 | 0, hj => by
  have : i = 0 := by omega
  subst this; exact h
 | j + 1, hj => by
  rcases Nat.lt_or_ge i (j + 1) with h' | h'
  ·simp only [lvl, lvl_nil h (j := j) (by omega), List.flatMap_nil]
  ·have : i = j + 1 := by omega
   subst this; exact h
theorem perm_flat {l l' : List WS} (h : l.Perm l') : (l.flatMap (ext1 stp cs)).Perm (l'.flatMap (ext1 stp cs)) := h.flatMap_right _
theorem perm_keys {l : List WS} {es : List (List UInt8 × HV)} (h : es.Perm (l.map ent)) (hl : (l.map (·.1)).Nodup) : (es.map (·.1)).Nodup := by
 have h1 := h.map (·.1)
 rw [List.map_map] at h1
 exact h1.nodup_iff.2 (by simpa [Function.comp_def, ent] using hl)
theorem next_pick {vis rest l : List WS} {es : List (List UInt8 × HV)} {k : List UInt8} {v : HV} (hp : (vis ++ rest).Perm l) (he : es.Perm (l.map ent)) (hm : (k, v) ∈ es) (hk : k ∉ vis.map (·.1)) :
  ∃ x l1 l2, rest = l1 ++ x :: l2 ∧ (k, v) = ent x ∧ ((x :: vis) ++ (l1 ++ l2)).Perm l := by
 have h1 : (k, v) ∈ (vis ++ rest).map ent := ((hp.map ent).symm.mem_iff).1 (he.mem_iff.1 hm)
 obtain ⟨x, hx, hxe⟩ := List.mem_map.1 h1
 have hxr : x ∈ rest := by
  rcases List.mem_append.1 hx with h | h
  ·exfalso
   refine hk (List.mem_map.2 ⟨x, h, ?_⟩)
   have := congrArg Prod.fst hxe
   exact this
  ·exact h
 obtain ⟨l1, l2, rfl⟩ := List.append_of_mem hxr
 refine ⟨x, l1, l2, rfl, hxe.symm, List.Perm.trans ?_ hp⟩
 have e1 : (x :: vis) ++ (l1 ++ l2) = x :: ((vis ++ l1) ++ l2) := by simp
 have e2 : vis ++ (l1 ++ x :: l2) = (vis ++ l1) ++ x :: l2 := by simp
 rw [e1, e2]
 exact List.perm_middle.symm
theorem rest_nil {vis rest l : List WS} {es : List (List UInt8 × HV)} (hl : (l.map (·.1)).Nodup) (hp : (vis ++ rest).Perm l) (he : es.Perm (l.map ent)) (hall : ∀ p ∈ es, p.1 ∈ vis.map (·.1)) : rest = [] := by
 cases rest with
 | nil => rfl
 | cons x rest =>
  exfalso
  have hx : ent x ∈ es := he.mem_iff.2 (List.mem_map.2 ⟨x, hp.mem_iff.1 (by simp), rfl⟩)
  have hk := hall _ hx
  have hn : ((vis ++ x :: rest).map (·.1)).Nodup := (hp.map (·.1)).nodup_iff.2 hl
  simp only [List.map_append, List.map_cons] at hn
  exact (List.nodup_append.1 hn).2.2 _ hk _ (List.mem_cons_self ..) rfl
theorem ext1_take (x : WS) {j : Nat} (hj : j < cs.length) : ext1 stp (cs.take (j + 1)) x = ext1 stp (cs.take j) x ++ (if stp x.2 cs[j] = [] then [] else [(x.1 ++ [cs[j]], stp x.2 cs[j])]) := by
 rw [List.take_add_one, List.getElem?_eq_getElem hj]
 simp only [ext1, Option.toList_some, List.filterMap_append]
 congr 1
 simp only [List.filterMap_cons, List.filterMap_nil]
 split <;> simp_all
theorem key_new {vis : List WS} {x : WS} (hcs : cs.Nodup) (hx : x.1 ∉ vis.map (·.1)) {j : Nat} (hj : j < cs.length) {es : List (List UInt8 × HV)} (he : es.Perm ((vis.flatMap (ext1 stp cs) ++ ext1 stp (cs.take j) x).map ent)) :
  alook (x.1 ++ [cs[j]]) es = none := by
 rw [alook_none]
 intro hm
 have h1 := (he.map (·.1)).mem_iff.1 hm
 rw [List.map_map, List.map_append, List.mem_append] at h1
 rcases h1 with h | h
 ·obtain ⟨y, hy, hye⟩ := List.mem_map.1 h
  obtain ⟨z, hz, hzy⟩ := List.mem_flatMap.1 hy
  obtain ⟨d, _, _, rfl⟩ := mem_ext1.1 hzy
  have h2 : z.1 = x.1 := by
   have := congrArg List.dropLast hye
   simpa [ent] using this
  exact hx (h2 ▸ List.mem_map.2 ⟨z, hz, rfl⟩)
 ·obtain ⟨y, hy, hye⟩ := List.mem_map.1 h
  obtain ⟨d, hd, _, rfl⟩ := mem_ext1.1 hy
  have h2 : d = cs[j] := by
   have h3 : x.1 ++ [d] = x.1 ++ [cs[j]] := hye
   have := List.append_cancel_left h3
   simpa using this
  rw [h2] at hd
  obtain ⟨k, hk, hke⟩ := List.mem_take_iff_getElem.1 hd
  have := (List.getElem_inj (h₀ := by omega) (h₁ := hj) hcs).1 hke
  omega
end
def okLvl (stp : List Int → UInt8 → List Int) (cs : List UInt8) (set : List Int) (n : Nat) : Bool := (List.range n).all fun j => decide ((lvl stp cs set (j + 1)).length ≤ 4096)
theorem okLvl_iff {stp : List Int → UInt8 → List Int} {cs : List UInt8} {set : List Int} {n : Nat} : okLvl stp cs set n = true ↔ ∀ j, 1 ≤ j → j ≤ n → (lvl stp cs set j).length ≤ 4096 := by
 simp only [okLvl, List.all_eq_true, List.mem_range, decide_eq_true_eq]
 constructor
 ·intro h j h1 h2
  have := h (j - 1) (by omega)
  rwa [show j - 1 + 1 = j by omega] at this
 ·exact fun h j hj => h (j + 1) (by omega) (by omega)
theorem utf_letters : ∀ c ∈ letters, (Utf8.encode (c.toNat : Int)).data.toList = [c] := by decide
theorem letters_nodup : letters.Nodup := by decide
theorem fact_num {n : Int} (h : fact (.int .i64 n)) : -9223372036854775808 ≤ n ∧ n ≤ 9223372036854775807 := by
 simpa [fact, Lit.wf, IntKind.min, IntKind.max, IntKind.signed, IntKind.bits] using h
theorem dec_lt {a b : Nat} (h : decide ((a : Int) < (b : Int)) = true) : a < b := by simpa using h
theorem AW.cjoin2 {P : Program} {ro : Option Nat} {N : Nat} {s : AS} {Q : Exit → AS → Prop} {c : Operand} {x y z : Code} {t : Bool} {α : Type} (St : α → AS) (I : α → Prop) (hc : s.ev c = some (.bool t))
  (h1 : t = true → AW P ro N x (thenQ (fun s' => ∃ a, I a ∧ s'.le (St a)) Q) s) (h2 : t = false → AW P ro N y (thenQ (fun s' => ∃ a, I a ∧ s'.le (St a)) Q) s)
  (h3 : ∀ a, I a → AW P ro N z Q (St a)) : AW P ro N (.cond c x y) (thenQ (AW P ro N z Q) Q) s := by
 refine (AW.cond hc h1 h2).mono ?_
 rintro e s' h
 cases e with
 | normal => obtain ⟨a, ha, hl⟩ := h; exact AW.weaken (h3 a ha) hl
 | exit id => exact h
 | goto l => exact h
 | ret => exact h
 | panic ch => exact h
 | outgrown => exact h
end Go.AW
namespace Go.AW
open Go Go.Proofs
theorem fw27_0 : fieldOf Tryz.prog 27 0 = some (0, { desc := TypeDesc.int .i64, size := 1, bytes := 8, zero := Value.int .i64 0 }) := by kernel_rfl
theorem fw27_1 : fieldOf Tryz.prog 27 1 = some (1, { desc := TypeDesc.int .i64, size := 1, bytes := 8, zero := Value.int .i64 0 }) := by kernel_rfl
theorem fw27_2 : fieldOf Tryz.prog 27 2 = some (2, { desc := TypeDesc.slice 128, size := 1, bytes := 24, zero := Value.slice none 0 0 }) := by kernel_rfl
theorem fw128_0 : fieldOf Tryz.prog 128 0 = some (0, { desc := TypeDesc.int .i64, size := 1, bytes := 8, zero := Value.int .i64 0 }) := by kernel_rfl
theorem fw128_1 : fieldOf Tryz.prog 128 1 = some (1, { desc := TypeDesc.int .i64, size := 1, bytes := 8, zero := Value.int .i64 0 }) := by kernel_rfl
theorem fw128_2 : fieldOf Tryz.prog 128 2 = some (2, { desc := TypeDesc.int .i64, size := 1, bytes := 8, zero := Value.int .i64 0 }) := by kernel_rfl
attribute [go_sem high] fw27_0 fw27_1 fw27_2 fw128_0 fw128_1 fw128_2
theorem hget_0 {id v : Nat} {o : AObj} {H : Heap} : hget ((id, v, o) :: H) id = some (v, o) := by simp [hget]
set_option maxHeartbeats 1000000 in
theorem w79 {L n : Nat} {gS gE : HV} {stp : List Int → UInt8 → List Int} {set : List Int} {A : List Int → Prop} (hL : L ≤ 16) (h1g : gS.one = true) (h1e : gE.one = true) (hA0 : A set) (hA : ∀ a c, A a → c ∈ letters.take L → A (stp a c))
  (hstep : ∀ a c, A a → c ∈ letters.take L → Pure Tryz.prog 111 [.agg [num L, gS, gE], ints a, .int .u8 c.toNat] (· = ints (stp a c))) :
  ACall Tryz.prog 143 [.agg [num L, gS, gE], ints set, num n] [] fun r H' =>
   ((∀ j, 1 ≤ j → j ≤ n → (lvl stp (letters.take L) set j).length ≤ 4096) ∧ ∃ id ver es, r = .tup [.mp id ver, .bool true] ∧ H' = [(id, ver, .map es)] ∧ es.Perm ((lvl stp (letters.take L) set n).map ent)) ∨
   (∃ j, 1 ≤ j ∧ j ≤ n ∧ 4096 < (lvl stp (letters.take L) set j).length ∧ r = .tup [.v (.map none), .bool false] ∧ H' = []) := by
 refine ACall.facts (enters' Tryz.func143 rfl rfl) fun hf => ?_
 have hn : n ≤ 9223372036854775807 := by
  have := fact_num hf.2.2.1
  omega
 refine ACall.of_body Tryz.func143 rfl rfl (Nat.le_of_ble_eq_true rfl) ?_
 unfold Tryz.f143
 dsimp only [qaG, Nat.reduceAdd]
 simp only [num] at *
 refine AW.rseq (fid := 79) (mt := []) [1, 2, 3] rfl fun K hK => ?_
 simp only [go_sem, reduceIte, Nat.reduceEqDiff, Int.reduceLE]
 refine hK _ ?_
 clear hK K
 refine AW.rseq (fid := 79) (mt := []) [1, 2, 3, 8] rfl fun K hK => ?_
 simp only [go_sem, reduceIte, Nat.reduceEqDiff, Int.reduceLE]
 intro v0
 refine hK _ ?_
 clear hK K
 refine AW.seq ?_
 refine AW.rseq (fid := 79) (mt := []) [1, 2, 3, 8, 18] rfl fun K hK => ?_
 simp only [go_sem, ints, reduceIte, Nat.reduceEqDiff, Int.reduceLE]
 refine hK _ ?_
 clear hK K
 have h00 : ((0 : Nat) : Int) = 0 := rfl
 refine AW.cjoin2 (fun es : List (List UInt8 × HV) => ⟨[(2, .int .i64 n), (3, .fptr [.int .i64 L, gS, gE] 0), (8, .mp (79 * 1000 + 15) v0)], [(79 * 1000 + 15, v0, .map es)]⟩) (fun es => es = (lvl stp (letters.take L) set 0).map ent) rfl (fun hc => ?_) (fun hc => ?_) ?_
 ·have hc : 0 < set.length := by simpa using hc
  refine AW.region (fid := 79) (mt := []) [2, 3, 8] rfl fun K hK => ?_
  simp only [go_sem, reduceIte, Nat.reduceEqDiff, Int.reduceLE, List.length_nil, Nat.zero_le, mput]
  refine hK _ ?_
  clear hK K
  have hne : set ≠ [] := by rintro rfl; simp at hc
  refine ⟨[([], ints set)], by simp [lvl, hne, ent], AS.le_of ⟨rfl, rfl, rfl, trivial⟩ ⟨hget_0, trivial⟩⟩
 ·have hc : set = [] := by
   have : ¬ 0 < set.length := by simpa using hc
   exact List.eq_nil_of_length_eq_zero (by omega)
  refine AW.skip ⟨[], by simp [lvl, hc], AS.le_of ⟨rfl, rfl, rfl, trivial⟩ ⟨hget_0, trivial⟩⟩
 rintro es0 rfl
 refine AW.seq ?_
 refine AW.rseq (fid := 79) (mt := []) [3, 8, 21, 22] rfl fun K hK => ?_
 simp only [go_sem, reduceIte, Nat.reduceEqDiff, Int.reduceLE]
 refine hK _ ?_
 clear hK K
 refine AW.block ?_
 refine AW.loopS (fun p : Nat × Nat × Nat × List (List UInt8 × HV) => ⟨[(3, .fptr [.int .i64 L, gS, gE] 0), (8, .mp p.2.1 p.2.2.1), (21, .int .i64 n), (22, .int .i64 p.1)], [(p.2.1, p.2.2.1, .map p.2.2.2)]⟩)
  (fun p => p.1 ≤ n ∧ p.2.2.2.Perm ((lvl stp (letters.take L) set p.1).map ent) ∧ ∀ j, 1 ≤ j → j ≤ p.1 → (lvl stp (letters.take L) set j).length ≤ 4096) (fun p => n - p.1) (0, _, _, _)
  (AS.le_of ⟨rfl, rfl, rfl, rfl, trivial⟩ ⟨rfl, trivial⟩) ⟨Nat.zero_le _, List.Perm.refl _, fun j h1 h2 => by dsimp only at h2; omega⟩ ?_
 rintro ⟨i, aid, av, es⟩ ⟨hi, hes, hsz⟩
 dsimp only at hi hes hsz ⊢
 refine AW.rseq (fid := 79) (mt := []) [3, 8, 21, 22, 23] rfl fun K hK => ?_
 simp only [go_sem, reduceIte, Nat.reduceEqDiff, Int.reduceLE]
 refine hK _ ?_
 clear hK K
 refine AW.cseq rfl (fun hc => ?_) (fun hc => ?_)
 ·have hi' := dec_lt hc
  obtain ⟨f, hf1, hf2⟩ : ∃ f : Nat, f * 1000 + 24 ≠ aid ∧ f * 1000 + 26 ≠ aid := ⟨aid + 1, by omega, by omega⟩
  have hf3 := Ne.symm hf1
  have hf4 := Ne.symm hf2
  refine AW.skip ?_
  refine AW.seq (AW.block ?_)
  refine AW.rseq (fid := f) (mt := []) [3, 8, 9, 21, 22] rfl fun K hK => ?_
  simp only [go_sem, reduceIte, Nat.reduceEqDiff, Int.reduceLE, hf1, hf2, hf3, hf4]
  intro nv
  refine hK _ ?_
  clear hK K
  refine AW.seq ?_
  refine AW.rseq (fid := f) (mt := []) [3, 9, 21, 22, 26] rfl fun K hK => ?_
  simp only [go_sem, reduceIte, Nat.reduceEqDiff, Int.reduceLE, hf1, hf2, hf3, hf4, Nat.add_left_cancel_iff]
  refine ⟨hf2, fun iv => hK _ ?_⟩
  clear hK K
  refine AW.block ?_
  have hlk := lvl_keys (stp := stp) (set := set) (cs := letters.take L) (letters_nodup.sublist (List.take_sublist _ _)) i
  refine AW.loopS (fun p : List WS × List WS × List (List UInt8 × HV) × Bool => ⟨[(3, .fptr [.int .i64 L, gS, gE] 0), (9, .mp (f * 1000 + 24) nv), (21, .int .i64 n), (22, .int .i64 i), (26, .it (f * 1000 + 26) iv)],
    [(aid, av, .map es), (f * 1000 + 24, nv, .map p.2.2.1), (f * 1000 + 26, iv, .iter aid av (p.1.map (·.1)) p.2.2.2)]⟩)
   (fun p => (p.1 ++ p.2.1).Perm (lvl stp (letters.take L) set i) ∧ p.2.2.1.Perm ((p.1.flatMap (ext1 stp (letters.take L))).map ent) ∧ (p.1.flatMap (ext1 stp (letters.take L))).length ≤ 4096) (fun p => p.2.1.length) ([], lvl stp (letters.take L) set i, [], false)
   (AS.le_of ⟨rfl, rfl, rfl, rfl, rfl, trivial⟩ ⟨hget_0, by simp [hget, hf1, hf2, hf3, hf4], by simp [hget, hf1, hf2, hf3, hf4], trivial⟩) ⟨List.Perm.refl _, List.Perm.refl _, Nat.zero_le _⟩ ?_
  rintro ⟨vis, rest, es', cur⟩ ⟨hvr, hes', hlen⟩
  dsimp only at hvr hes' hlen ⊢
  refine AW.rseq (fid := f) (mt := []) [3, 9, 21, 22, 26, 28] rfl fun K hK => ?_
  simp only [go_sem, reduceIte, Nat.reduceEqDiff, Int.reduceLE, hf1, hf2, hf3, hf4, Nat.add_left_cancel_iff]
  refine ⟨fun hall => hK _ ?_, fun k v hkv hks => hK _ ?_⟩
  ·clear hK K
   have hr := rest_nil hlk hvr hes hall
   subst hr
   rw [List.append_nil] at hvr
   have hnx : es'.Perm ((lvl stp (letters.take L) set (i + 1)).map ent) := hes'.trans ((perm_flat hvr).map ent)
   have hln : (lvl stp (letters.take L) set (i + 1)).length ≤ 4096 := by
    have := (perm_flat (stp := stp) (cs := letters.take L) hvr).length_eq
    show ((lvl stp (letters.take L) set i).flatMap _).length ≤ 4096
    omega
   have hsz' : ∀ j, 1 ≤ j → j ≤ i + 1 → (lvl stp (letters.take L) set j).length ≤ 4096 := fun j h1 h2 => by
    rcases Nat.lt_or_ge i j with h | h
    ·have : j = i + 1 := by omega
     subst this; exact hln
    ·exact hsz j h1 h
   refine AW.cseq rfl (fun hc => by cases hc) (fun _ => ?_)
   refine AW.exit ?_
   refine AW.rseq (fid := f) (mt := []) [3, 8, 21, 22] rfl fun K hK => ?_
   simp only [go_sem, reduceIte, Nat.reduceEqDiff, Int.reduceLE, hf1, hf2, hf3, hf4, Nat.add_left_cancel_iff]
   refine hK _ ?_
   clear hK K
   refine AW.rseq (fid := f) (mt := []) [3, 8, 21, 22, 59] rfl fun K hK => ?_
   simp only [go_sem, reduceIte, Nat.reduceEqDiff, Int.reduceLE, hf1, hf2, hf3, hf4, Nat.add_left_cancel_iff]
   refine ⟨by rw [hes'.length_eq, List.length_map]; simp only [maxLen]; omega, hK _ ?_⟩
   clear hK K
   refine AW.cond rfl (fun hc => ?_) (fun hc => ?_)
   ·have h0 : es' = [] := by
     have : (es'.length : Int) = 0 := by simpa using hc
     exact List.eq_nil_of_length_eq_zero (by omega)
    subst h0
    have hl0 : lvl stp (letters.take L) set (i + 1) = [] := by
     have := hnx.length_eq
     simp only [List.length_nil, List.length_map] at this
     exact List.eq_nil_of_length_eq_zero this.symm
    have hlj := @lvl_nil stp (letters.take L) set (i + 1) hl0
    refine AW.exit ?_
    refine AW.rseq (fid := 79) (mt := []) [6, 7] rfl fun K hK => ?_
    simp only [go_sem, reduceIte, Nat.reduceEqDiff, Int.reduceLE, hf1, hf2, hf3, hf4, Nat.add_left_cancel_iff]
    refine hK _ ?_
    clear hK K
    refine AW.ret ⟨.inr rfl, ?_⟩
    simp only [go_sem, reduceIte, Nat.reduceEqDiff]
    refine ⟨_, [(f * 1000 + 24, nv, .map [])], Conv.drop (leH_get ⟨by simp [hget, hf1, hf2, hf3, hf4], trivial⟩), .inl ⟨fun j h1 h2 => ?_, _, _, _, rfl, rfl, ?_⟩⟩
    ·rcases Nat.lt_or_ge (i + 1) j with h | h
     ·rw [hlj (by omega)]; simp
     ·exact hsz' j h1 h
    ·rw [hlj (by omega)]; exact List.Perm.refl _
   ·refine AW.skip ?_
    refine AW.region (fid := 79) (mt := []) [3, 8, 21, 22] rfl fun K hK => ?_
    simp only [go_sem, reduceIte, Nat.reduceEqDiff, Int.reduceLE]
    refine hK _ ?_
    clear hK K
    refine ⟨(i + 1, f * 1000 + 24, nv, es'), ⟨by dsimp only; omega, hnx, hsz'⟩, by dsimp only; omega, ?_⟩
    dsimp only
    rw [cnt_next hn hi']
    exact AS.le_of ⟨rfl, rfl, rfl, rfl, trivial⟩ ⟨by simp [hget, hf1, hf2, hf3, hf4], trivial⟩
  ·clear hK K
   obtain ⟨x, l1, l2, rfl, hx, hvr'⟩ := next_pick hvr hes hkv hks
   cases hx
   have hxl : x ∈ lvl stp (letters.take L) set i := hvr'.mem_iff.1 (by simp)
   have hxA : A x.2 := lvl_all hA0 hA i x hxl
   have hxn : x.1.length = i := lvl_len i x hxl
   refine AW.cseq rfl (fun _ => ?_) (fun hc => by cases hc)
   refine AW.skip ?_
   refine AW.block ?_
   refine AW.rseq (fid := f) (mt := []) [3, 9, 10, 11, 21, 22, 26] rfl fun K hK => ?_
   simp only [go_sem, reduceIte, Nat.reduceEqDiff, Int.reduceLE, hf1, hf2, hf3, hf4, Nat.add_left_cancel_iff]
   refine ⟨_, alook_mem (perm_keys hes hlk) hkv, hK _ ?_⟩
   clear hK K
   refine AW.seq ?_
   refine AW.rseq (fid := f) (mt := []) [3, 9, 10, 11, 21, 22, 26, 33, 34] rfl fun K hK => ?_
   simp only [go_sem, reduceIte, Nat.reduceEqDiff, Int.reduceLE, List.getElem?_cons_zero, Nat.add_zero]
   refine hK _ ?_
   clear hK K
   refine AW.block ?_
   refine AW.loopS (fun p : Nat × List (List UInt8 × HV) => ⟨[(3, .fptr [.int .i64 L, gS, gE] 0), (9, .mp (f * 1000 + 24) nv), (10, .str x.1), (11, ints x.2), (21, .int .i64 n), (22, .int .i64 i), (26, .it (f * 1000 + 26) iv), (33, .int .i64 L), (34, .int .i64 p.1)],
     [(aid, av, .map es), (f * 1000 + 24, nv, .map p.2), (f * 1000 + 26, iv, .iter aid av (x.1 :: vis.map (·.1)) true)]⟩)
    (fun p => p.1 ≤ L ∧ p.2.Perm ((vis.flatMap (ext1 stp (letters.take L)) ++ ext1 stp ((letters.take L).take p.1) x).map ent)) (fun p => L - p.1) (0, es')
    (AS.le_of ⟨rfl, rfl, rfl, rfl, rfl, rfl, rfl, rfl, rfl, trivial⟩ ⟨hget_0, by simp [hget, hf1, hf2, hf3, hf4], by simp [hget, hf1, hf2, hf3, hf4], trivial⟩) ⟨Nat.zero_le _, by simpa [ext1] using hes'⟩ ?_
   rintro ⟨j, es2⟩ ⟨hj, hes2⟩
   dsimp only at hj hes2 ⊢
   refine AW.rseq (fid := f) (mt := []) [3, 9, 10, 11, 21, 22, 26, 33, 34, 35] rfl fun K hK => ?_
   simp only [go_sem, reduceIte, Nat.reduceEqDiff, Int.reduceLE]
   refine hK _ ?_
   clear hK K
   refine AW.cseq rfl (fun hc => ?_) (fun hc => ?_)
   ·have hj' := dec_lt hc
    have hjl : j < letters.length := by show j < 16; omega
    have hjt : j < (letters.take L).length := by rw [List.length_take]; exact Nat.lt_min.2 ⟨hj', hjl⟩
    have hcj : (letters.take L)[j] = letters[j] := List.getElem_take
    have hmem : letters[j] ∈ letters.take L := hcj ▸ List.getElem_mem hjt
    refine AW.skip ?_
    refine AW.seq (AW.block ?_)
    refine AW.rseq (fid := f) (mt := []) [3, 9, 10, 11, 12, 21, 22, 26, 33, 34] rfl fun K hK => ?_
    simp only [go_sem, reduceIte, Nat.reduceEqDiff, Int.reduceLE]
    refine hK _ ?_
    clear hK K
    have hlj : ([48, 49, 50, 51, 52, 53, 54, 55, 56, 57, 97, 98, 99, 100, 101, 102] : List UInt8)[j]? = some letters[j] := List.getElem?_eq_getElem (l := letters) hjl
    refine AW.rseq (fid := f) (mt := []) [3, 9, 10, 11, 13, 21, 22, 26, 33, 34] rfl fun K hK => ?_
    simp only [go_sem, reduceIte, Nat.reduceEqDiff, Int.reduceLE, List.length_nil, List.length_cons, Nat.reduceAdd, Nat.reduceLeDiff, hlj]
    refine ⟨by omega, hK _ ?_⟩
    clear hK K
    refine AW.rseq (fid := f) (mt := []) [3, 9, 10, 11, 13, 14, 21, 22, 26, 33, 34] rfl fun K hK => ?_
    simp only [go_sem, reduceIte, Nat.reduceEqDiff, Int.reduceLE, List.length_nil, List.length_cons, Nat.reduceAdd, Nat.reduceLeDiff, List.drop_zero, List.take_succ_cons, List.take_zero]
    refine (hstep x.2 letters[j] hxA hmem).use fun r hr => ?_
    subst hr
    refine hK _ ?_
    clear hK K
    refine AW.rseq (fid := f) (mt := []) [3, 9, 10, 11, 13, 14, 21, 22, 26, 33, 34, 45] rfl fun K hK => ?_
    simp only [go_sem, ints, reduceIte, Nat.reduceEqDiff, Int.reduceLE]
    refine hK _ ?_
    clear hK K
    have hxk : x.1 ∉ vis.map (·.1) := hks
    have htake := ext1_take (stp := stp) x hjt
    rw [hcj] at htake
    refine AW.cond rfl (fun hc => ?_) (fun hc => ?_)
    ·have hne : stp x.2 letters[j] ≠ [] := by
      intro h0
      rw [h0] at hc
      simp at hc
     rw [if_neg hne] at htake
     have hnew : alook (x.1 ++ [letters[j]]) es2 = none := hcj ▸ key_new (letters_nodup.sublist (List.take_sublist _ _)) hxk hjt hes2
     refine AW.region (fid := f) (mt := []) [3, 9, 10, 11, 21, 22, 26, 33, 34] rfl fun K hK => ?_
     simp only [go_sem, reduceIte, Nat.reduceEqDiff, Int.reduceLE, hf1, hf2, hf3, hf4, Nat.add_left_cancel_iff, utf_letters _ (List.getElem_mem hjl)]
     refine ⟨by simp only [List.length_cons, List.length_nil, maxLen, hxn]; omega, hf3, hK _ ?_⟩
     clear hK K
     refine AW.region (fid := f) (mt := []) [3, 9, 10, 11, 21, 22, 26, 33, 34] rfl fun K hK => ?_
     simp only [go_sem, reduceIte, Nat.reduceEqDiff, Int.reduceLE]
     refine hK _ ?_
     clear hK K
     refine ⟨(j + 1, mput (x.1 ++ [letters[j]]) (ints (stp x.2 letters[j])) es2), ⟨by dsimp only; omega, ?_⟩, by dsimp only; omega, ?_⟩
     ·dsimp only
      rw [mput_new hnew, htake, ← List.append_assoc, List.map_append]
      exact hes2.append (List.Perm.refl _)
     ·dsimp only
      rw [cnt_next (by omega) hj']
      exact AS.le_of ⟨rfl, rfl, rfl, rfl, rfl, rfl, rfl, rfl, rfl, trivial⟩ ⟨hget_0, by simp [hget, hf1, hf2, hf3, hf4, ints], by simp [hget, hf1, hf2, hf3, hf4], trivial⟩
    ·have he : stp x.2 letters[j] = [] := by
      have : ¬ 0 < (stp x.2 letters[j]).length := by simpa using hc
      exact List.eq_nil_of_length_eq_zero (by omega)
     rw [if_pos he, List.append_nil] at htake
     refine AW.skip ?_
     refine AW.region (fid := f) (mt := []) [3, 9, 10, 11, 21, 22, 26, 33, 34] rfl fun K hK => ?_
     simp only [go_sem, reduceIte, Nat.reduceEqDiff, Int.reduceLE]
     refine hK _ ?_
     clear hK K
     refine ⟨(j + 1, es2), ⟨by dsimp only; omega, ?_⟩, by dsimp only; omega, ?_⟩
     ·dsimp only
      rw [htake]
      exact hes2
     ·dsimp only
      rw [cnt_next (by omega) hj']
      exact AS.le_of ⟨rfl, rfl, rfl, rfl, rfl, rfl, rfl, rfl, rfl, trivial⟩ ⟨hget_0, by simp [hget, hf1, hf2, hf3, hf4], by simp [hget, hf1, hf2, hf3, hf4], trivial⟩
   ·have hj2 := cnt_ge hc hj
    subst hj2
    have htk : (letters.take j).take j = letters.take j := by rw [List.take_take, Nat.min_self]
    rw [htk] at hes2
    have hes3 : es2.Perm (((x :: vis).flatMap (ext1 stp (letters.take j))).map ent) := by
     refine hes2.trans (List.Perm.map _ ?_)
     rw [List.flatMap_cons]
     exact List.perm_append_comm
    refine AW.exit ?_
    refine AW.rseq (fid := f) (mt := []) [3, 9, 21, 22, 26, 55] rfl fun K hK => ?_
    simp only [go_sem, reduceIte, Nat.reduceEqDiff, Int.reduceLE, hf1, hf2, hf3, hf4, Nat.add_left_cancel_iff]
    have hle2 : es2.length = ((x :: vis).flatMap (ext1 stp (letters.take j))).length := by rw [hes3.length_eq, List.length_map]
    have htot : ((x :: vis).flatMap (ext1 stp (letters.take j))).length ≤ (lvl stp (letters.take j) set (i + 1)).length := by
     have := (perm_flat (stp := stp) (cs := letters.take j) hvr').length_eq
     rw [List.flatMap_append, List.length_append] at this
     show _ ≤ ((lvl stp (letters.take j) set i).flatMap _).length
     omega
    have hsmall : es2.length ≤ maxLen := by
     have hb : ∀ (y : WS), (ext1 stp (letters.take j) y).length ≤ 16 := fun y => by
      refine Nat.le_trans (List.length_filterMap_le _ _) ?_
      rw [List.length_take]
      exact Nat.le_trans (Nat.min_le_left _ _) hL
     rw [hle2, List.flatMap_cons, List.length_append]
     have := hb x
     simp only [maxLen]
     omega
    refine ⟨hsmall, hK _ ?_⟩
    clear hK K
    refine AW.cond rfl (fun hc => ?_) (fun hc => ?_)
    ·have hbig : 4096 < es2.length := by
      have : (4096 : Int) < es2.length := by simpa using hc
      omega
     refine AW.rseq (fid := 79) (mt := []) [6, 7] rfl fun K hK => ?_
     simp only [go_sem, reduceIte, Nat.reduceEqDiff, Int.reduceLE]
     refine hK _ ?_
     clear hK K
     refine AW.ret ⟨.inr rfl, ?_⟩
     simp only [go_sem, reduceIte, Nat.reduceEqDiff]
     exact ⟨_, [], Conv.drop (fun _ _ h => by cases h), .inr ⟨i + 1, by omega, by omega, by omega, rfl, rfl⟩⟩
    ·have hsm : es2.length ≤ 4096 := by
      have : ¬ (4096 : Int) < es2.length := by simpa using hc
      omega
     refine AW.skip ?_
     refine ⟨(x :: vis, l1 ++ l2, es2, true), ⟨hvr', hes3, by dsimp only; omega⟩, by simp, ?_⟩
     exact AS.le_of ⟨rfl, rfl, rfl, rfl, rfl, trivial⟩ ⟨hget_0, by simp [hget, hf1, hf2, hf3, hf4], by simp [hget, hf1, hf2, hf3, hf4], trivial⟩
 ·have hi2 := cnt_ge hc hi
  subst hi2
  refine AW.exit ?_
  refine AW.rseq (fid := 79) (mt := []) [6, 7] rfl fun K hK => ?_
  simp only [go_sem, reduceIte, Nat.reduceEqDiff, Int.reduceLE]
  refine hK _ ?_
  clear hK K
  refine AW.ret ⟨.inr rfl, ?_⟩
  simp only [go_sem, reduceIte, Nat.reduceEqDiff]
  exact ⟨_, _, Conv.refl _ _, .inl ⟨hsz, _, _, _, rfl, rfl, hes⟩⟩
theorem le_slH {l l' : List (Nat × HV)} {H : Heap} (h : leS l l') : (⟨l, H⟩ : AS).le ⟨l', H⟩ := ⟨qaL h, fun _ _ h => h⟩
set_option maxRecDepth 100000 in
theorem iy_graph_leaving {g : qaa} {s : Int} {L : List (Int × qaj)} (h : y_graph_leaving g s = some L) : Yields Tryz.prog 194 [] [gF g, .fptr [hI s] 0] (L.map fun x => [hI x.1, .agg [hI x.2.1, hI x.2.2.1, hI x.2.2.2]]) := by
  unfold y_graph_leaving at h
  split at h
  · rename_i hm
    cases h
    obtain ⟨gl, gs, es⟩ := g
    dsimp only at hm ⊢
    intro id ver H J Stop K hmn h0 hstep hdone hstop
    refine ACall.of_body Tryz.func194 rfl rfl (lb rfl) ?_
    unfold Tryz.f194
    dsimp only [qaG, Nat.reduceAdd]
    refine AW.rgs rfl fun K1 hK => ?_
    refine bv rfl (qad fo27_2 rfl) (bv rfl (qab ty25 rfl (qam rfl rfl)) (bv rfl (qaI rfl rfl ty25 rfl) (mv rfl rfl ?_)))
    refine qah (hK _ (AW.to (qbd (s' := ⟨[(0, .yl id ver), (2, .fptr [hI s] 0), (7, slE eFromLabelTo es), (8, .int .i64 (es.length : Int)), (9, .int .i64 ((0 : Nat) : Int))], H⟩) (le_slH ⟨rfl, rfl, rfl, rfl, rfl, trivial⟩) ?_)))
    clear hK K1
    refine AW.block ?_
    refine AW.loopS (fun p : Nat × Heap => ⟨[(0, .yl id ver), (2, .fptr [hI s] 0), (7, slE eFromLabelTo es), (8, .int .i64 (es.length : Int)), (9, .int .i64 (p.1 : Int))], p.2⟩)
      (fun p => p.1 ≤ es.length ∧ J (leaveL (es.take p.1) s).length p.2) (fun p => es.length - p.1) (0, H) (AS.le_refl _) ⟨Nat.zero_le _, h0⟩ ?_
    rintro ⟨i, H1⟩ ⟨hi, hj⟩
    dsimp only at hi hj ⊢
    refine AW.rgs rfl fun K1 hK => ?_
    refine bv rfl (qaf rfl rfl b_lss) ?_
    refine qah (hK _ ?_)
    clear hK K1
    refine AW.cseq rfl (fun hc => ?_) (fun hc => ?_)
    · have hi' : i < es.length := by have := of_decide_eq_true hc; omega
      have hx : idx es (i : Int) = some es[i] := ix hi'
      obtain ⟨f, hf⟩ := fresh_id H1 5
      refine AW.skip ?_
      refine AW.seq (AW.block ?_)
      refine AW.rgs rfl fun K1 hK => ?_
      refine mv rfl rfl (bv rfl (qaW ty25 es25 rfl rfl (qaO hx)) (bv rfl (qab ty128 rfl (l_agg eFromLabelTo hx rfl rfl)) ?_))
      refine b_op rfl (qbj (fid := f) (zs := [hI 0, hI 0, hI 0]) (f * 1000 + 5) rfl rfl ty128 rfl (fun ov => ?_))
      refine mv rfl rfl ?_
      refine b_op rfl (qaH (cs := qa7 es[i]) (zs := qa7 es[i]) rfl rfl rfl ty128 rfl hget_0 rfl rfl rfl ?_)
      refine qah (hK _ (AW.to (qbd (s' := ⟨[(0, .yl id ver), (2, .fptr [hI s] 0), (4, .int .i64 (i : Int)), (5, .ptr (f * 1000 + 5) ov 0), (7, slE eFromLabelTo es), (8, .int .i64 (es.length : Int)), (9, .int .i64 (i : Int))], (f * 1000 + 5, ov, .arr 3 128 (qa7 es[i])) :: H1⟩) ⟨qaL ⟨rfl, rfl, rfl, rfl, rfl, rfl, rfl, trivial⟩, fun j x hx => ?_⟩ ?_)))
      · simp only [hget] at hx ⊢
        split <;> rename_i hij
        · rw [if_pos hij] at hx; exact hx
        · first | exact hx | (rw [if_neg hij] at hx; first | exact hx | (rw [if_neg hij]; exact hx)) | (rw [if_neg hij]; exact hx)
      clear hK K1
      have hJ1 := hmn _ _ _ hj (cons_le (ver := ov) (ob := .arr 3 128 (qa7 es[i])) hf)
      refine AW.rgs rfl fun K1 hK => ?_
      refine bv rfl (qar fo128_0 rfl hget_0) (bv rfl (qas ty33 rfl hget_0 (qam rfl rfl)) (bv rfl (qab ty33 rfl (qam rfl rfl)) (bv rfl (qaf rfl rfl b_eql) (mv rfl rfl ?_))))
      have htk := leaveL_take es s hi'
      by_cases hs : es[i].1 = s
      · rw [if_pos hs] at htk
        obtain ⟨rest, hr⟩ := leaveL_split es s (i + 1)
        rw [htk] at hr
        refine b_T rfl rfl rfl rfl (decide_eq_true hs) (qai rfl (qaR rfl rfl).2 ?_)
        refine b_T rfl rfl rfl rfl rfl (qai rfl (qaR rfl rfl).2 ?_)
        refine b_T rfl rfl rfl rfl rfl (qai rfl (qas ty128 rfl hget_0 (qaz (ds := qa7 es[i]) rfl (lb rfl) rfl)) ?_)
        refine b_T rfl rfl rfl rfl rfl (o_yield (hs := [hI (i : Int), .agg (qa7 es[i])]) rfl rfl rfl ?_)
        refine (hstep (leaveL (es.take i) s).length [hI (i : Int), .agg (qa7 es[i])] _ ?_ hJ1).mono ?_
        · rw [List.getElem?_map, hr, List.append_assoc, List.getElem?_append_right (Nat.le_refl _), Nat.sub_self]
          rfl
        rintro r H2 ⟨b, rfl, h3, h4⟩
        refine b_T rfl rfl rfl rfl rfl (qai rfl (v_not rfl) ?_)
        refine bv rfl (qak rfl rfl rfl) ?_
        refine qah (hK _ (AW.to (qbd (s' := ⟨[(0, .yl id ver), (2, .fptr [hI s] 0), (7, slE eFromLabelTo es), (8, .int .i64 (es.length : Int)), (9, .int .i64 (i : Int)), (24, .bool (!b))], H2⟩) (le_slH ⟨rfl, rfl, rfl, rfl, rfl, rfl, trivial⟩) ?_)))
        clear hK K1
        refine AW.cond rfl (fun hc => ?_) (fun hc => ?_)
        · have hb : b = false := by simpa using hc
          refine AW.ret ⟨.inr rfl, ?_⟩
          simp only [go_sem, reduceIte, Nat.reduceEqDiff]
          exact ⟨_, _, Conv.refl _ _, hstop _ (h4 hb)⟩
        · have hb : b = true := by simpa using hc
          refine AW.skip ?_
          refine AW.region (fid := f) (mt := []) [0, 2, 7, 8, 9] rfl fun K hK => ?_
          simp only [go_sem, reduceIte, Nat.reduceEqDiff, Int.reduceLE]
          refine hK _ ?_
          refine ⟨(i + 1, H2), ⟨by dsimp only; omega, ?_⟩, by dsimp only; omega, ?_⟩
          · dsimp only
            rw [htk, List.length_append]
            exact h3 hb
          · dsimp only
            rw [cnt_next hm hi']
            exact AS.le_refl _
      · rw [if_neg hs, List.append_nil] at htk
        refine b_F rfl rfl rfl rfl rfl (decide_eq_false hs) ?_
        iterate 4 refine b_F rfl rfl rfl rfl rfl rfl ?_
        refine bv rfl (qan rfl rfl rfl) ?_
        refine qah (hK _ (AW.to (qbd (s' := ⟨[(0, .yl id ver), (2, .fptr [hI s] 0), (7, slE eFromLabelTo es), (8, .int .i64 (es.length : Int)), (9, .int .i64 (i : Int)), (24, .bool false)], _⟩) (le_slH ⟨rfl, rfl, rfl, rfl, rfl, rfl, trivial⟩) ?_)))
        clear hK K1
        refine AW.cond rfl (fun hc => by cases hc) (fun _ => ?_)
        refine AW.skip ?_
        refine AW.region (fid := f) (mt := []) [0, 2, 7, 8, 9] rfl fun K hK => ?_
        simp only [go_sem, reduceIte, Nat.reduceEqDiff, Int.reduceLE]
        refine hK _ ?_
        refine ⟨(i + 1, (f * 1000 + 5, ov, .arr 3 128 (qa7 es[i])) :: H1), ⟨by dsimp only; omega, ?_⟩, by dsimp only; omega, ?_⟩
        · dsimp only
          rw [htk]
          exact hJ1
        · dsimp only
          rw [cnt_next hm hi']
          exact AS.le_refl _
    · have hi2 : es.length ≤ i := by have := of_decide_eq_false hc; omega
      have hie : i = es.length := by omega
      subst hie
      rw [List.take_length] at hj
      refine AW.exit ?_
      refine ⟨.inl rfl, ?_⟩
      simp only [go_sem, reduceIte, Nat.reduceEqDiff]
      exact ⟨_, _, Conv.refl _ _, hdone _ (by rw [List.length_map]; exact hj)⟩
  · cases h
end Go.AW
namespace Go.Proofs
open Go
def Tryz.count_ren : Go.Shelf.Ren := ⟨fun | 138 => 112 | 195 => 163 | 218 => 164 | 143 => 165 | 219 => 197 | 217 => 162 | 225 => 226 | 224 => 227 | 267 => 228 | 266 => 196 | 314 => 249 | n => n, fun | 9 => 9 | 3 => 3 | 4 => 4 | 5 => 5 | 0 => 0 | 46 => 97 | 146 => 212 | 51 => 105 | n => n, fun | 1 => 0 | n => n⟩
theorem Tryz.count : Go.Proofs.Lays.n138 Tryz.prog Tryz.count_ren where
 mixed := by kernel_rfl
 f138 := Tryz.func112.trans (congrArg some (by kernel_rfl))
 f143 := Tryz.func165.trans (congrArg some (by kernel_rfl))
 f195 := Tryz.func163.trans (congrArg some (by kernel_rfl))
 f217 := Tryz.func162.trans (congrArg some (by kernel_rfl))
 f218 := Tryz.func164.trans (congrArg some (by kernel_rfl))
 f219 := Tryz.func197.trans (congrArg some (by kernel_rfl))
 f224 := Tryz.func227.trans (congrArg some (by kernel_rfl))
 f225 := Tryz.func226.trans (congrArg some (by kernel_rfl))
 f266 := Tryz.func196.trans (congrArg some (by kernel_rfl))
 f267 := Tryz.func228.trans (congrArg some (by kernel_rfl))
 f314 := Tryz.func249.trans (congrArg some (by kernel_rfl))
 t0 := Tryz.underlying0
 a0 := Tryz.isAgg0
 z0 := Tryz.sizeOf0
 v0 := Tryz.zeroValue0
 t3 := Tryz.underlying3
 a3 := Tryz.isAgg3
 z3 := Tryz.sizeOf3
 v3 := Tryz.zeroValue3
 t4 := Tryz.underlying4
 a4 := Tryz.isAgg4
 z4 := Tryz.sizeOf4
 v4 := Tryz.zeroValue4
 t5 := Tryz.underlying5
 a5 := Tryz.isAgg5
 z5 := Tryz.sizeOf5
 v5 := Tryz.zeroValue5
 t9 := Tryz.underlying9
 a9 := Tryz.isAgg9
 z9 := Tryz.sizeOf9
 v9 := Tryz.zeroValue9
 t46 := Tryz.underlying97
 a46 := Tryz.isAgg97
 z46 := Tryz.sizeOf97
 v46 := Tryz.zeroValue97
 t51 := Tryz.underlying105
 a51 := Tryz.isAgg105
 z51 := Tryz.sizeOf105
 v51 := Tryz.zeroValue105
 t146 := Tryz.underlying212
 a146 := Tryz.isAgg212
 z146 := Tryz.sizeOf212
 v146 := Tryz.zeroValue212
 g1 := by kernel_rfl
end Go.Proofs
namespace Go.AW
open Go Go.Proofs
theorem countB_le (l : List UInt8) (c : UInt8) : Lib.countByte l c ≤ l.length := List.count_le_length
theorem countB_wf (l : List UInt8) (c : UInt8) (hl : l.length ≤ maxLen) : (Lit.int .i64 ((Lib.countByte l c : Nat) : Int)).wf = true := by
 have := countB_le l c
 simp only [maxLen] at hl
 simp only [Lit.wf, IntKind.min, IntKind.max, IntKind.signed, IntKind.bits, Bool.and_eq_true, decide_eq_true_eq]
 simp
 omega
theorem w_strings_Count {a0 a1 : List UInt8} {r : Int} (h : m_strings_Count a0 a1 = some r) : Pure Tryz.prog 112 [HV.str a0, HV.str a1] (· = HV.int .i64 r) := by
 unfold m_strings_Count at h
 split at h
 ·rename_i c
  cases h
  refine ⟨enters' Tryz.func112 rfl rfl, fun μ w vs hs hr _ => ?_⟩
  obtain ⟨x, xs, rfl, ⟨rfl, hl⟩, y, ys, rfl, ⟨rfl, _⟩, hn⟩ := hr
  cases hn
  refine (Any.strings_Count_one Tryz.count ⟨a0.toArray⟩ c w).mono ?_
  rintro e w' ⟨rfl, rfl⟩
  exact ⟨_, _, [], μ, rfl, ⟨rfl, trivial, rfl⟩, hs, ⟨by simp, countB_wf a0 c hl⟩, Evo.refl _ _⟩
 ·cases h
end Go.AW
namespace Go.AW
open Go
mutual
def HV.ren (ρ : Nat → Nat) : HV → HV
 | .int k n => .int k n
 | .bool b => .bool b
 | .str l => .str l
 | .v x => .v x
 | .agg cs => .agg (renL ρ cs)
 | .tup cs => .tup (renL ρ cs)
 | .sl k n cs => .sl k n (renL ρ cs)
 | .ar id ver k off n => .ar id (ρ ver) k off n
 | .ptr id ver off => .ptr id (ρ ver) off
 | .fptr cs off => .fptr (renL ρ cs) off
 | .fn f fs cs => .fn f (renL ρ fs) (renL ρ cs)
 | .mp id ver => .mp id (ρ ver)
 | .yl id ver => .yl id (ρ ver)
 | .it id ver => .it id (ρ ver)
def renL (ρ : Nat → Nat) : List HV → List HV
 | [] => []
 | c :: cs => c.ren ρ :: renL ρ cs
end
theorem renL_map (ρ : Nat → Nat) : ∀ cs, renL ρ cs = cs.map (HV.ren ρ)
 | [] => by simp [renL]
 | c :: cs => by simp [renL, renL_map ρ cs]
def renS (ρ : Nat → Nat) : List (Nat × HV) → List (Nat × HV)
 | [] => []
 | (t, h) :: l => (t, h.ren ρ) :: renS ρ l
def renE (ρ : Nat → Nat) : List (List UInt8 × HV) → List (List UInt8 × HV)
 | [] => []
 | (t, h) :: l => (t, h.ren ρ) :: renE ρ l
def AObj.ren (ρ : Nat → Nat) : AObj → AObj
 | .arr k e cs => .arr k e (renL ρ cs)
 | .map es => .map (renE ρ es)
 | .iter mid mver seen cur => .iter mid (ρ mver) seen cur
 | .loop st pend f n snap ps assign body => .loop st pend (ρ f) n (renS ρ snap) ps assign body
 | .kmap es => .kmap es
def renH (ρ : Nat → Nat) : Heap → Heap
 | [] => []
 | (i, v, o) :: l => (i, ρ v, o.ren ρ) :: renH ρ l
def AS.ren (ρ : Nat → Nat) (s : AS) : AS := ⟨renS ρ s.slots, renH ρ s.heap⟩
theorem sget_ren (ρ : Nat → Nat) : ∀ (l : List (Nat × HV)) (t : Nat), sget (renS ρ l) t = (sget l t).map (HV.ren ρ)
 | [], t => rfl
 | (i, h) :: l, t => by
  simp only [renS, sget]
  split
  ·rfl
  ·exact sget_ren ρ l t
theorem hget_ren (ρ : Nat → Nat) : ∀ (l : Heap) (t : Nat), hget (renH ρ l) t = (hget l t).map fun x => (ρ x.1, x.2.ren ρ)
 | [], t => rfl
 | (i, v, o) :: l, t => by
  simp only [renH, hget]
  split
  ·rfl
  ·exact hget_ren ρ l t
theorem renS_set (ρ : Nat → Nat) : ∀ (l : List (Nat × HV)) (t : Nat) (h : HV), renS ρ (sset l t h) = sset (renS ρ l) t (h.ren ρ)
 | [], t, h => rfl
 | (i, g) :: l, t, h => by
  simp only [renS, sset]
  split
  ·rfl
  ·simp only [renS, renS_set ρ l t h]
theorem renH_set (ρ : Nat → Nat) : ∀ (l : Heap) (t v : Nat) (o : AObj), renH ρ (hset l t v o) = hset (renH ρ l) t (ρ v) (o.ren ρ)
 | [], t, v, o => rfl
 | (i, w, p) :: l, t, v, o => by
  simp only [renH, hset]
  split
  ·rfl
  ·simp only [renH, renH_set ρ l t v o]
theorem ren_put (ρ : Nat → Nat) (s : AS) (d : Option Tmp) (h : HV) : (s.put d h).ren ρ = (s.ren ρ).put d (h.ren ρ) := by
 cases d with
 | none => rfl
 | some t => simp [AS.put, AS.ren, renS_set]
theorem constHV_ren (ρ : Nat → Nat) (v : Value) : (constHV v).map (HV.ren ρ) = constHV v := by
 cases v with
 | int k n => simp only [constHV]; split <;> rfl
 | string s => simp only [constHV]; split <;> rfl
 | _ => rfl
theorem qaC (ρ : Nat → Nat) (s : AS) (x : Operand) : (s.ren ρ).ev x = (s.ev x).map (HV.ren ρ) := by
 cases x with
 | tmp t => exact sget_ren ρ s.slots t
 | const v => exact (constHV_ren ρ v).symm
 | global g => rfl
 | func f => rfl
theorem evL_ren (ρ : Nat → Nat) (s : AS) : ∀ xs : List Operand, xs.mapM (s.ren ρ).ev = (xs.mapM s.ev).map (renL ρ)
 | [] => rfl
 | x :: xs => by
  simp only [List.mapM_cons, Option.pure_def, Option.bind_eq_bind, qaC, evL_ren ρ s xs]
  cases s.ev x with
  | none => rfl
  | some h => cases xs.mapM s.ev <;> rfl
theorem cells_ren (ρ : Nat → Nat) (h : HV) : (h.ren ρ).cells? = h.cells?.map (renL ρ) := by
 cases h with
 | v x => simp only [HV.ren, HV.cells?]; split <;> rfl
 | _ => rfl
theorem renL_len (ρ : Nat → Nat) (cs : List HV) : (renL ρ cs).length = cs.length := by simp [renL_map]
theorem renL_get (ρ : Nat → Nat) (cs : List HV) (i : Nat) : (renL ρ cs)[i]? = cs[i]?.map (HV.ren ρ) := by simp [renL_map]
theorem renL_drop (ρ : Nat → Nat) (cs : List HV) (i : Nat) : renL ρ (cs.drop i) = (renL ρ cs).drop i := by simp [renL_map]
theorem renL_take (ρ : Nat → Nat) (cs : List HV) (i : Nat) : renL ρ (cs.take i) = (renL ρ cs).take i := by simp [renL_map]
theorem qbw (ρ : Nat → Nat) (cs ds : List HV) : renL ρ (cs ++ ds) = renL ρ cs ++ renL ρ ds := by simp [renL_map]
theorem renL_set (ρ : Nat → Nat) (cs : List HV) (i : Nat) (c : HV) : renL ρ (cs.set i c) = (renL ρ cs).set i (c.ren ρ) := by simp [renL_map, List.map_set]
theorem renL_splice (ρ : Nat → Nat) (xs : List HV) (off : Nat) (cs : List HV) : renL ρ (splice xs off cs) = splice (renL ρ xs) off (renL ρ cs) := by
 match cs with
 | [] => simp [splice, renL, qbw, renL_take, renL_drop]
 | [c] => simp [splice, renL, renL_set]
 | c :: d :: cs => simp [splice, renL, qbw, renL_take, renL_drop, renL_len]
mutual
def HV.sc (n : Nat) : HV → Bool
 | .agg cs | .tup cs | .sl _ _ cs | .fptr cs _ => scL n cs
 | .ar _ ver _ _ _ | .ptr _ ver _ | .mp _ ver | .yl _ ver | .it _ ver => Nat.blt ver n
 | .fn _ fs cs => scL n fs && scL n cs
 | _ => true
def scL (n : Nat) : List HV → Bool
 | [] => true
 | c :: cs => c.sc n && scL n cs
end
def scS (n : Nat) : List (Nat × HV) → Bool
 | [] => true
 | (_, h) :: l => h.sc n && scS n l
def scE (n : Nat) : List (List UInt8 × HV) → Bool
 | [] => true
 | (_, h) :: l => h.sc n && scE n l
def AObj.sc (n : Nat) : AObj → Bool
 | .arr _ _ cs => scL n cs
 | .map es => scE n es
 | .iter _ mver _ _ => Nat.blt mver n
 | .loop _ _ f _ snap _ _ _ => Nat.blt f n && scS n snap
 | .kmap _ => true
def scH (n : Nat) : Heap → Bool
 | [] => true
 | (i, v, o) :: l => (Nat.blt i n && Nat.blt v n) && o.sc n && scH n l
def AS.sc (n : Nat) (s : AS) : Bool := scS n s.slots && scH n s.heap
def Agree (n : Nat) (ρ ρ' : Nat → Nat) : Prop := ∀ v, v < n → ρ v = ρ' v
theorem Agree.refl (n : Nat) (ρ : Nat → Nat) : Agree n ρ ρ := fun _ _ => rfl
theorem Agree.trans {n m : Nat} {ρ ρ' ρ'' : Nat → Nat} (h : Agree n ρ ρ') (hn : n ≤ m) (h' : Agree m ρ' ρ'') : Agree n ρ ρ'' := fun v hv => (h v hv).trans (h' v (by omega))
def upd (ρ : Nat → Nat) (n v : Nat) : Nat → Nat := fun x => if x = n then v else ρ x
theorem Agree.upd (n v : Nat) (ρ : Nat → Nat) : Agree n ρ (upd ρ n v) := fun x hx => by simp only [AW.upd]; rw [if_neg (by omega)]
theorem upd_at (ρ : Nat → Nat) (n v : Nat) : upd ρ n v n = v := by simp [AW.upd]
section
variable {n m : Nat} {ρ ρ' : Nat → Nat}
theorem blt_lt {a b : Nat} (h : Nat.blt a b = true) : a < b := by simpa [Nat.blt_eq] using h
mutual
theorem HV.ren_agree (ha : Agree n ρ ρ') : ∀ h : HV, h.sc n = true → h.ren ρ = h.ren ρ'
 | .int _ _, _ => rfl
 | .bool _, _ => rfl
 | .str _, _ => rfl
 | .v _, _ => rfl
 | .agg cs, h => congrArg HV.agg (renL_agree ha cs h)
 | .tup cs, h => congrArg HV.tup (renL_agree ha cs h)
 | .sl k m cs, h => congrArg (HV.sl k m) (renL_agree ha cs h)
 | .ar id ver k off m, h => by simp only [HV.ren]; rw [ha ver (blt_lt h)]
 | .ptr id ver off, h => by simp only [HV.ren]; rw [ha ver (blt_lt h)]
 | .fptr cs off, h => congrArg (fun x => HV.fptr x off) (renL_agree ha cs h)
 | .fn f fs cs, h => by
  simp only [HV.sc, Bool.and_eq_true] at h
  simp only [HV.ren]
  rw [renL_agree ha fs h.1, renL_agree ha cs h.2]
 | .mp id ver, h => by simp only [HV.ren]; rw [ha ver (blt_lt h)]
 | .yl id ver, h => by simp only [HV.ren]; rw [ha ver (blt_lt h)]
 | .it id ver, h => by simp only [HV.ren]; rw [ha ver (blt_lt h)]
theorem renL_agree (ha : Agree n ρ ρ') : ∀ cs : List HV, scL n cs = true → renL ρ cs = renL ρ' cs
 | [], _ => rfl
 | c :: cs, h => by
  simp only [scL, Bool.and_eq_true] at h
  simp only [renL]
  rw [HV.ren_agree ha c h.1, renL_agree ha cs h.2]
end
theorem renS_agree (ha : Agree n ρ ρ') : ∀ l, scS n l = true → renS ρ l = renS ρ' l
 | [], _ => rfl
 | (_, c) :: cs, h => by
  simp only [scS, Bool.and_eq_true] at h
  simp only [renS]
  rw [HV.ren_agree ha c h.1, renS_agree ha cs h.2]
theorem renE_agree (ha : Agree n ρ ρ') : ∀ l, scE n l = true → renE ρ l = renE ρ' l
 | [], _ => rfl
 | (_, c) :: cs, h => by
  simp only [scE, Bool.and_eq_true] at h
  simp only [renE]
  rw [HV.ren_agree ha c h.1, renE_agree ha cs h.2]
theorem AObj.ren_agree (ha : Agree n ρ ρ') : ∀ o : AObj, o.sc n = true → o.ren ρ = o.ren ρ'
 | .arr k e cs, h => congrArg (AObj.arr k e) (renL_agree ha cs h)
 | .map es, h => congrArg AObj.map (renE_agree ha es h)
 | .iter mid mver seen cur, h => by simp only [AObj.ren]; rw [ha mver (blt_lt h)]
 | .loop st pend f n' snap ps a b, h => by
  simp only [AObj.sc, Bool.and_eq_true] at h
  simp only [AObj.ren]; rw [ha f (blt_lt h.1), renS_agree ha snap h.2]
 | .kmap es, _ => rfl
theorem renH_agree (ha : Agree n ρ ρ') : ∀ l, scH n l = true → renH ρ l = renH ρ' l
 | [], _ => rfl
 | (i, v, o) :: cs, h => by
  simp only [scH, Bool.and_eq_true] at h
  simp only [renH]
  rw [ha v (blt_lt h.1.1.2), AObj.ren_agree ha o h.1.2, renH_agree ha cs h.2]
theorem AS.ren_agree (ha : Agree n ρ ρ') (s : AS) (h : s.sc n = true) : s.ren ρ = s.ren ρ' := by
 simp only [AS.sc, Bool.and_eq_true] at h
 simp only [AS.ren]
 rw [renS_agree ha _ h.1, renH_agree ha _ h.2]
theorem blt_mono {a : Nat} (hm : n ≤ m) (h : Nat.blt a n = true) : Nat.blt a m = true := by
 have := blt_lt h
 simp [Nat.blt_eq]; omega
mutual
theorem HV.sc_mono (hm : n ≤ m) : ∀ h : HV, h.sc n = true → h.sc m = true
 | .int _ _, _ => rfl
 | .bool _, _ => rfl
 | .str _, _ => rfl
 | .v _, _ => rfl
 | .agg cs, h => scL_mono hm cs h
 | .tup cs, h => scL_mono hm cs h
 | .sl k _ cs, h => scL_mono hm cs h
 | .ar id ver k off _, h => blt_mono hm h
 | .ptr id ver off, h => blt_mono hm h
 | .fptr cs off, h => scL_mono hm cs h
 | .fn f fs cs, h => by
  simp only [HV.sc, Bool.and_eq_true] at h ⊢
  exact ⟨scL_mono hm fs h.1, scL_mono hm cs h.2⟩
 | .mp id ver, h => blt_mono hm h
 | .yl id ver, h => blt_mono hm h
 | .it id ver, h => blt_mono hm h
theorem scL_mono (hm : n ≤ m) : ∀ cs : List HV, scL n cs = true → scL m cs = true
 | [], _ => rfl
 | c :: cs, h => by
  simp only [scL, Bool.and_eq_true] at h ⊢
  exact ⟨HV.sc_mono hm c h.1, scL_mono hm cs h.2⟩
end
theorem scS_mono (hm : n ≤ m) : ∀ l, scS n l = true → scS m l = true
 | [], _ => rfl
 | (_, c) :: cs, h => by
  simp only [scS, Bool.and_eq_true] at h ⊢
  exact ⟨HV.sc_mono hm c h.1, scS_mono hm cs h.2⟩
theorem scE_mono (hm : n ≤ m) : ∀ l, scE n l = true → scE m l = true
 | [], _ => rfl
 | (_, c) :: cs, h => by
  simp only [scE, Bool.and_eq_true] at h ⊢
  exact ⟨HV.sc_mono hm c h.1, scE_mono hm cs h.2⟩
theorem AObj.sc_mono (hm : n ≤ m) : ∀ o : AObj, o.sc n = true → o.sc m = true
 | .arr k e cs, h => scL_mono hm cs h
 | .map es, h => scE_mono hm es h
 | .iter mid mver seen cur, h => blt_mono hm h
 | .loop st pend f n' snap ps a b, h => by
  simp only [AObj.sc, Bool.and_eq_true] at h ⊢
  exact ⟨blt_mono hm h.1, scS_mono hm snap h.2⟩
 | .kmap es, _ => rfl
theorem scH_mono (hm : n ≤ m) : ∀ l, scH n l = true → scH m l = true
 | [], _ => rfl
 | (i, v, o) :: cs, h => by
  simp only [scH, Bool.and_eq_true] at h ⊢
  exact ⟨⟨⟨blt_mono hm h.1.1.1, blt_mono hm h.1.1.2⟩, AObj.sc_mono hm o h.1.2⟩, scH_mono hm cs h.2⟩
theorem AS.sc_mono (hm : n ≤ m) (s : AS) (h : s.sc n = true) : s.sc m = true := by
 simp only [AS.sc, Bool.and_eq_true] at h ⊢
 exact ⟨scS_mono hm _ h.1, scH_mono hm _ h.2⟩
theorem scS_set : ∀ (l : List (Nat × HV)) (t : Nat) (h : HV), scS n l = true → h.sc n = true → scS n (sset l t h) = true
 | [], t, h, _, hh => by simp [sset, scS, hh]
 | (i, g) :: l, t, h, hl, hh => by
  simp only [scS, Bool.and_eq_true] at hl
  simp only [sset]
  split
  ·simp [scS, hh, hl.2]
  ·simp only [scS, Bool.and_eq_true]
   exact ⟨hl.1, scS_set l t h hl.2 hh⟩
theorem scH_set : ∀ (l : Heap) (t v : Nat) (o : AObj), scH n l = true → t < n → v < n → o.sc n = true → scH n (hset l t v o) = true
 | [], t, v, o, _, ht, hv, hh => by simp [hset, scH, hh, Nat.blt_eq, hv, ht]
 | (i, w, g) :: l, t, v, o, hl, ht, hv, hh => by
  simp only [scH, Bool.and_eq_true] at hl
  simp only [hset]
  split
  ·rename_i e
   subst e
   simp [scH, hh, hl.2, Nat.blt_eq, hv, ht]
  ·simp only [scH, Bool.and_eq_true]
   exact ⟨hl.1, scH_set l t v o hl.2 ht hv hh⟩
theorem sc_put {s : AS} {d : Option Tmp} {h : HV} (hs : s.sc n = true) (hh : h.sc n = true) : (s.put d h).sc n = true := by
 cases d with
 | none => exact hs
 | some t =>
  simp only [AS.sc, Bool.and_eq_true] at hs
  simp only [AS.put, AS.sc, Bool.and_eq_true]
  exact ⟨scS_set _ _ _ hs.1 hh, hs.2⟩
theorem sc_heap {s : AS} {id v : Nat} {o : AObj} (hs : s.sc n = true) (ht : id < n) (hv : v < n) (hh : o.sc n = true) : ({ s with heap := hset s.heap id v o } : AS).sc n = true := by
 simp only [AS.sc, Bool.and_eq_true] at hs ⊢
 exact ⟨hs.1, scH_set _ _ _ _ hs.2 ht hv hh⟩
theorem sc_get {l : List (Nat × HV)} {t : Nat} {h : HV} (hl : scS n l = true) (hg : sget l t = some h) : h.sc n = true := by
 induction l with
 | nil => cases hg
 | cons x l ih =>
  obtain ⟨i, g⟩ := x
  simp only [scS, Bool.and_eq_true] at hl
  simp only [sget] at hg
  split at hg
  ·cases hg; exact hl.1
  ·exact ih hl.2 hg
theorem sch_get {l : Heap} {id v : Nat} {o : AObj} (hl : scH n l = true) (hg : hget l id = some (v, o)) : (id < n ∧ v < n) ∧ o.sc n = true := by
 induction l with
 | nil => cases hg
 | cons x l ih =>
  obtain ⟨i, w, g⟩ := x
  simp only [scH, Bool.and_eq_true] at hl
  simp only [hget] at hg
  split at hg
  ·rename_i e; subst e; cases hg; exact ⟨⟨blt_lt hl.1.1.1, blt_lt hl.1.1.2⟩, hl.1.2⟩
  ·exact ih hl.2 hg
end
end Go.AW
namespace Go.AW
open Go
noncomputable def sgetR (l : List (Nat × HV)) : Nat → Option HV :=
 List.rec (motive := fun _ => Nat → Option HV) (fun _ => none) (fun p _ ih t => Bool.rec (motive := fun _ => Option HV) (ih t) (some p.2) (Nat.beq t p.1)) l
noncomputable def ssetR (l : List (Nat × HV)) : Nat → HV → List (Nat × HV) :=
 List.rec (motive := fun _ => Nat → HV → List (Nat × HV)) (fun t v => [(t, v)]) (fun p l ih t v => Bool.rec (motive := fun _ => List (Nat × HV)) (p :: ih t v) ((p.1, v) :: l) (Nat.beq t p.1)) l
noncomputable def hgetR (l : Heap) : Nat → Option (Nat × AObj) :=
 List.rec (motive := fun _ => Nat → Option (Nat × AObj)) (fun _ => none) (fun p _ ih t => Bool.rec (motive := fun _ => Option (Nat × AObj)) (ih t) (some (p.2.1, p.2.2)) (Nat.beq t p.1)) l
noncomputable def hsetR (l : Heap) : Nat → Nat → AObj → Heap :=
 List.rec (motive := fun _ => Nat → Nat → AObj → Heap) (fun t v o => [(t, v, o)]) (fun p l ih t v o => Bool.rec (motive := fun _ => Heap) (p :: ih t v o) ((p.1, v, o) :: l) (Nat.beq t p.1)) l
theorem beq_if {α : Type} (a b : Nat) (x y : α) : Bool.rec (motive := fun _ => α) y x (Nat.beq a b) = if a = b then x else y := by
 by_cases h : a = b
 ·subst h
  rw [if_pos rfl, Nat.beq_refl]
 ·rw [if_neg h]
  have : Nat.beq a b = false := by
   cases hb : Nat.beq a b with
   | false => rfl
   | true => exact absurd (Nat.eq_of_beq_eq_true hb) h
  rw [this]
theorem qau : sgetR = sget := by
 funext l
 induction l with
 | nil => rfl
 | cons p l ih =>
  funext t
  obtain ⟨i, v⟩ := p
  show Bool.rec (motive := fun _ => Option HV) (sgetR l t) (some v) (Nat.beq t i) = _
  rw [beq_if, ih]
  rfl
theorem ssetR_eq : ssetR = sset := by
 funext l
 induction l with
 | nil => rfl
 | cons p l ih =>
  funext t v
  obtain ⟨i, u⟩ := p
  show Bool.rec (motive := fun _ => List (Nat × HV)) ((i, u) :: ssetR l t v) ((i, v) :: l) (Nat.beq t i) = _
  rw [beq_if, ih]
  rfl
theorem qav : hgetR = hget := by
 funext l
 induction l with
 | nil => rfl
 | cons p l ih =>
  funext t
  obtain ⟨i, v, o⟩ := p
  show Bool.rec (motive := fun _ => Option (Nat × AObj)) (hgetR l t) (some (v, o)) (Nat.beq t i) = _
  rw [beq_if, ih]
  rfl
theorem qaA : hsetR = hset := by
 funext l
 induction l with
 | nil => rfl
 | cons p l ih =>
  funext t v o
  obtain ⟨i, u, q⟩ := p
  show Bool.rec (motive := fun _ => Heap) ((i, u, q) :: hsetR l t v o) ((i, v, o) :: l) (Nat.beq t i) = _
  rw [beq_if, ih]
  rfl
noncomputable def AS.evR (s : AS) (x : Operand) : Option HV := match x with
 | .tmp t => sgetR s.slots t
 | .const v => constHV v
 | .global g => some (.v (.pointer (some ⟨g, 0, none⟩)))
 | .func f => some (.fn (.func f) [] [])
theorem qa1 : AS.evR = AS.ev := by
 funext s x
 cases x with
 | tmp t => show sgetR s.slots t = sget s.slots t; rw [qau]
 | const v => rfl
 | global g => rfl
 | func f => rfl
noncomputable def AS.putR (s : AS) (d : Option Tmp) (h : HV) : AS := match d with
 | some t => { s with slots := ssetR s.slots t h }
 | none => s
theorem qaJ : AS.putR = AS.put := by
 funext s d h
 cases d with
 | none => rfl
 | some t => show ({ s with slots := ssetR s.slots t h } : AS) = { s with slots := sset s.slots t h }; rw [ssetR_eq]
noncomputable def aslR (s : AS) (lo : Option Operand) (d : Int) : Option Int := match lo with
 | none => some d
 | some x => match s.evR x with
  | some (.int _ n) => some n
  | _ => none
theorem qaQ : aslR = asl := by
 funext s lo d
 unfold aslR asl
 rw [qa1]
 rfl
noncomputable def apartsR (s : AS) (ps : List (Nat × Operand)) : Option (List (Nat × HV)) := ps.mapM fun p => (s.evR p.2).map fun h => (p.1, h)
theorem qap : apartsR = aparts := by
 funext s ps
 unfold apartsR aparts
 rw [qa1]
def keepL (l : List (Nat × HV)) : List Nat → List (Nat × HV)
 | [] => []
 | t :: ts => match sget l t with
  | some v => (t, v) :: keepL l ts
  | none => keepL l ts
noncomputable def keepK {α : Type} (l : List (Nat × HV)) (ks : List Nat) : (List (Nat × HV) → α) → α :=
 List.rec (motive := fun _ => (List (Nat × HV) → α) → α) (fun k => k []) (fun t _ ih k => match sgetR l t with
  | some v => ih (fun l' => k ((t, v) :: l'))
  | none => ih k) ks
theorem keepK_eq {α : Type} (l : List (Nat × HV)) : ∀ (ks : List Nat) (k : List (Nat × HV) → α), keepK l ks k = k (keepL l ks)
 | [], _ => rfl
 | t :: ts, k => by
  show (match sgetR l t with
   | some v => keepK l ts (fun l' => k ((t, v) :: l'))
   | none => keepK l ts k) = _
  rw [qau]
  simp only [keepL]
  cases sget l t with
  | none => exact keepK_eq l ts k
  | some v => exact keepK_eq l ts _
theorem keepL_get {l : List (Nat × HV)} : ∀ {ks : List Nat} {t : Nat} {h : HV}, sget (keepL l ks) t = some h → sget l t = some h
 | [], _, _, h => by cases h
 | k :: ks, t, g, h => by
  simp only [keepL] at h
  cases hk : sget l k with
  | none => rw [hk] at h; exact keepL_get h
  | some v =>
   rw [hk] at h
   simp only [sget] at h
   split at h
   ·rename_i e
    subst e
    rw [hk]
    exact h
   ·exact keepL_get h
theorem keepL_sc {n : Nat} {l : List (Nat × HV)} (hl : scS n l = true) : ∀ ks : List Nat, scS n (keepL l ks) = true
 | [] => rfl
 | k :: ks => by
  simp only [keepL]
  cases hk : sget l k with
  | none => exact keepL_sc hl ks
  | some v =>
   simp only [scS, Bool.and_eq_true]
   exact ⟨sc_get hl hk, keepL_sc hl ks⟩
theorem keepL_le (ρ : Nat → Nat) (s : AS) (ks : List Nat) : (s.ren ρ).le ((⟨keepL s.slots ks, s.heap⟩ : AS).ren ρ) := by
 refine ⟨fun t hv h => ?_, fun _ _ h => h⟩
 simp only [AS.ren] at h ⊢
 rw [sget_ren] at h ⊢
 cases hk : sget (keepL s.slots ks) t with
 | none => rw [hk] at h; cases h
 | some v => rw [hk] at h; rw [keepL_get hk]; exact h
def TabOk (P : Program) (T : TypeId → Option TyI) : Prop := ∀ t x, T t = some x → ty P t = some x
def sload (T : TyI) (cs : List HV) (off : Nat) : Option HV :=
 bif aggD T.desc then (bif Nat.ble (off + T.size) cs.length then some (.agg ((cs.drop off).take T.size)) else none) else cs[off]?
theorem sload_sound {T : TyI} {cs : List HV} {off : Nat} {h : HV} (hs : sload T cs off = some h) {ρ : Nat → Nat} {R : HV → Prop} (hr : R (h.ren ρ)) : loadK T (renL ρ cs) off R := by
 unfold sload at hs
 unfold loadK
 cases ha : aggD T.desc with
 | true =>
  rw [ha] at hs
  simp only [cond_true, if_true] at hs ⊢
  by_cases hb : Nat.ble (off + T.size) cs.length = true
  ·rw [hb] at hs
   cases hs
   refine ⟨by rw [renL_len]; exact Nat.le_of_ble_eq_true hb, ?_⟩
   simpa only [HV.ren, renL_take, renL_drop] using hr
  ·simp [Bool.not_eq_true _ ▸ hb] at hs
 | false =>
  rw [ha] at hs
  simp only [cond_false, Bool.false_eq_true, if_false] at hs ⊢
  rw [renL_get, hs]
  exact hr
def sbin (op : BinOp) (x y : HV) : Option HV :=
 match op, x, y with
 | .add, .int k a, .int k' b => if k = k' then some (.int k (k.wrap (a + b))) else none
 | .sub, .int k a, .int k' b => if k = k' then some (.int k (k.wrap (a - b))) else none
 | .mul, .int k a, .int k' b => if k = k' then some (.int k (k.wrap (a * b))) else none
 | .quo, .int k a, .int k' b => if k = k' ∧ b ≠ 0 then some (.int k (k.wrap (a.tdiv b))) else none
 | .rem, .int k a, .int k' b => if k = k' ∧ b ≠ 0 then some (.int k (a.tmod b)) else none
 | .eql, .int k a, .int k' b => if k = k' then some (.bool (decide (a = b))) else none
 | .neq, .int k a, .int k' b => if k = k' then some (.bool (decide (a ≠ b))) else none
 | .lss, .int k a, .int k' b => if k = k' then some (.bool (decide (a < b))) else none
 | .leq, .int k a, .int k' b => if k = k' then some (.bool (decide (a ≤ b))) else none
 | .gtr, .int k a, .int k' b => if k = k' then some (.bool (decide (b < a))) else none
 | .geq, .int k a, .int k' b => if k = k' then some (.bool (decide (b ≤ a))) else none
 | .add, .str a, .str b => if a.length + b.length ≤ maxLen then some (.str (a ++ b)) else none
 | .eql, .str a, .str b => some (.bool (decide (a = b)))
 | .neq, .str a, .str b => some (.bool (decide (a ≠ b)))
 | .lss, .str a, .str b => some (.bool (Op.bytesLess a b))
 | .gtr, .str a, .str b => some (.bool (!(Op.bytesLess a b || decide (a = b))))
 | .leq, .str a, .str b => some (.bool (Op.bytesLess a b || decide (a = b)))
 | .geq, .str a, .str b => some (.bool (!(Op.bytesLess a b)))
 | .shl, .int k a, .int _ b => if 0 ≤ b then some (.int k (k.wrap (a * 2 ^ min b.toNat k.bits))) else none
 | .shr, .int k a, .int _ b => if 0 ≤ b then some (.int k (a.fdiv (2 ^ min b.toNat k.bits))) else none
 | .and, .int k a, .int k' b => if k = k' then some (.int k (k.wrap (BitVec.ofInt k.bits a &&& BitVec.ofInt k.bits b).toNat)) else none
 | .or, .int k a, .int k' b => if k = k' then some (.int k (k.wrap (BitVec.ofInt k.bits a ||| BitVec.ofInt k.bits b).toNat)) else none
 | .xor, .int k a, .int k' b => if k = k' then some (.int k (k.wrap (BitVec.ofInt k.bits a ^^^ BitVec.ofInt k.bits b).toNat)) else none
 | _, _, _ => none
theorem sbin_sound {op : BinOp} {x y h : HV} (hs : sbin op x y = some h) {ρ : Nat → Nat} {R : HV → Prop} (hr : R (h.ren ρ)) : abin op (x.ren ρ) (y.ren ρ) R := by
  unfold sbin at hs
  split at hs <;> first
    | (cases hs; exact hr)
    | (split at hs
       · rename_i hc
         cases hs
         first
           | exact ⟨hc, hr⟩
           | exact ⟨hc.1, hc.2, hr⟩
       · cases hs)
    | cases hs
theorem asl_ren (ρ : Nat → Nat) (s : AS) (lo : Option Operand) (d : Int) : asl (s.ren ρ) lo d = asl s lo d := by
 unfold asl
 cases lo with
 | none => rfl
 | some x =>
  simp only [qaC]
  cases s.ev x with
  | none => rfl
  | some h => cases h <;> rfl
def sElem (T : TypeId → Option TyI) (t : TypeId) : Option Nat :=
 match T t with
 | some ⟨.slice e, _, _, _⟩ => (T e).map (·.size)
 | some ⟨.array _ e, _, _, _⟩ => (T e).map (·.size)
 | _ => none
def sField (T : TypeId → Option TyI) (S : TypeId) (f : Nat) : Option (Nat × TyI) :=
 match T S with
 | some ⟨.struct fs, _, _, _⟩ => match fs[f]? with
  | some fd => match T fd.type with
   | some U => if U.size = 0 then none else some (fd.offset, U)
   | none => none
  | none => none
 | _ => none
section
variable {P : Program} {T : TypeId → Option TyI}
theorem sElem_sound (hT : TabOk P T) {t : TypeId} {k : Nat} (h : sElem T t = some k) : qbu P t = some k := by
 unfold sElem at h
 split at h
 ·rename_i e _ _ _ ht
  obtain ⟨U, hU, rfl⟩ := Option.map_eq_some_iff.1 h
  simp [qbu, hT _ _ ht, hT _ _ hU]
 ·rename_i n e _ _ _ ht
  obtain ⟨U, hU, rfl⟩ := Option.map_eq_some_iff.1 h
  simp [qbu, hT _ _ ht, hT _ _ hU]
 ·cases h
theorem sField_sound (hT : TabOk P T) {S : TypeId} {f : Nat} {r : Nat × TyI} (h : sField T S f = some r) : fieldOf P S f = some r := by
 unfold sField at h
 split at h
 ·rename_i fs _ _ _ ht
  split at h
  ·rename_i fd hfd
   split at h
   ·rename_i U hU
    split at h
    ·cases h
    ·rename_i h0
     cases h
     simp [fieldOf, hT _ _ ht, hfd, hT _ _ hU, h0]
   ·cases h
  ·cases h
 ·cases h
end
noncomputable def aliveB (H : Heap) (id ver : Nat) : Bool := match hgetR H id with
 | some (v, _) => Nat.beq v ver
 | none => false
theorem aliveB_sound {H : Heap} {id ver : Nat} {ρ : Nat → Nat} (h : aliveB H id ver = true) : alive (renH ρ H) id (ρ ver) := by
 unfold aliveB at h
 rw [qav] at h
 unfold alive
 rw [hget_ren]
 cases hg : hget H id with
 | none => rw [hg] at h; cases h
 | some x =>
  obtain ⟨v, o⟩ := x
  rw [hg] at h
  have : v = ver := Nat.eq_of_beq_eq_true h
  simp [this]
def qaB {α : Type} (c : Bool) (x : Option α) : Option α := match c with
 | true => x
 | false => none
theorem qae {α : Type} {c : Bool} {x : Option α} {y : α} (h : qaB c x = some y) : c = true ∧ x = some y := by
 cases c with
 | true => exact ⟨rfl, h⟩
 | false => cases h
def sbinT (T : TypeId → Option TyI) (op : BinOp) (tx : TypeId) (x y : HV) : Option HV :=
 match x, y with
 | .bool a, .bool b => match op, T tx with
  | .eql, some ⟨.bool, _, _, _⟩ => some (.bool (a == b))
  | .neq, some ⟨.bool, _, _, _⟩ => some (.bool (!(a == b)))
  | _, _ => none
 | _, _ => sbin op x y
theorem sbinT_sound {P : Program} {T : TypeId → Option TyI} (hT : TabOk P T) {op : BinOp} {tx : TypeId} {x y h : HV} (hs : sbinT T op tx x y = some h) {ρ : Nat → Nat} {R : HV → Prop} (hr : R (h.ren ρ)) : qbi P op tx (x.ren ρ) (y.ren ρ) R := by
 unfold sbinT at hs
 split at hs
 ·split at hs
  ·rename_i hU
   cases hs
   simp only [HV.ren, qbi, hT _ _ hU]
   exact hr
  ·rename_i hU
   cases hs
   simp only [HV.ren, qbi, hT _ _ hU]
   exact hr
  ·cases hs
 ·rename_i hno
  have := sbin_sound hs hr
  unfold qbi
  split
  ·rename_i e1 e2
   exfalso
   cases x with
   | bool a => cases y with
    | bool b => exact hno _ _ rfl rfl
    | _ => cases e2
   | _ => cases e1
  ·rename_i e1 e2
   exfalso
   cases x with
   | agg a => simp [sbin] at hs
   | _ => cases e1
  ·exact this
noncomputable def svPick (s : AS) (c a b : Operand) : Option HV := match s.evR c, s.evR a, s.evR b with
  | some (.bool true), some h, some _ => some h
  | some (.bool false), some _, some h => some h
  | _, _, _ => none
noncomputable def svLoad (T : TypeId → Option TyI) (s : AS) (t : TypeId) (a : Operand) : Option HV := match T t, s.evR a with
  | some U, some (.fptr cs off) => sload U cs off
  | some U, some (.ptr id ver off) => match hgetR s.heap id with
   | some (ver', .arr _ _ cs) => qaB (Nat.beq ver ver') (sload U cs off)
   | _ => none
  | _, _ => none
noncomputable def svNil (s : AS) (x : Operand) : Option HV := match s.evR x with
  | some (.ptr id ver off) => qaB (aliveB s.heap id ver) (some (.ptr id ver off))
  | some (.fptr cs off) => some (.fptr cs off)
  | _ => none
noncomputable def svBin (T : TypeId → Option TyI) (s : AS) (op : BinOp) (tx : TypeId) (x y : Operand) : Option HV := match s.evR x, s.evR y with
  | some h, some g => sbinT T op tx h g
  | _, _ => none
noncomputable def svUn (s : AS) (op : UnOp) (x : Operand) : Option HV := match op, s.evR x with
  | .not, some (.bool b) => some (.bool (!b))
  | .neg, some (.int k n) => some (.int k (k.wrap (0 - n)))
  | _, _ => none
noncomputable def svConv (T : TypeId → Option TyI) (s : AS) (src dst : TypeId) (x : Operand) : Option HV := match T src, T dst, s.evR x with
  | some _, some ⟨.int k, _, _, _⟩, some (.int _ n) => some (.int k (k.wrap n))
  | some _, some ⟨.string, _, _, _⟩, some (.int _ n) => some (.str (Utf8.encode n).data.toList)
  | some _, some ⟨.string, _, _, _⟩, some (.str l) => some (.str l)
  | _, _, _ => none
noncomputable def svFunc (s : AS) (fn : Fn) (first caps : Array Operand) : Option HV := match first.toList.mapM s.evR, caps.toList.mapM s.evR with
  | some fs, some cs => some (.fn fn fs cs)
  | _, _ => none
noncomputable def svFieldAddr (T : TypeId → Option TyI) (s : AS) (S : TypeId) (x : Operand) (f : Nat) : Option HV := match sField T S f, s.evR x with
  | some (o, _), some (.ptr id ver off) => qaB (aliveB s.heap id ver) (some (.ptr id ver (off + o)))
  | some (o, _), some (.fptr cs off) => some (.fptr cs (off + o))
  | _, _ => none
noncomputable def svField (T : TypeId → Option TyI) (s : AS) (S : TypeId) (x : Operand) (f : Nat) : Option HV := match sField T S f, s.evR x with
  | some (o, U), some (.agg cs) => sload U cs o
  | _, _ => none
noncomputable def svIndexAddr (T : TypeId → Option TyI) (s : AS) (t : TypeId) (x i : Operand) : Option HV := match T t, sElem T t, s.evR x, s.evR i with
  | some ⟨.slice _, _, _, _⟩, some k', some (.sl k n cs), some (.int _ j) => qaB (decide (k = k' ∧ 0 ≤ j ∧ j < n)) (some (.fptr cs (j.toNat * k)))
  | some ⟨.slice _, _, _, _⟩, some k', some (.ar id ver k off n), some (.int _ j) => qaB (decide (k = k' ∧ 0 ≤ j ∧ j < n)) (qaB (aliveB s.heap id ver) (some (.ptr id ver (off + j.toNat * k))))
  | some ⟨.array len _, _, _, _⟩, some k', some (.ptr id ver off), some (.int _ j) => qaB (decide (0 ≤ j ∧ j < len)) (qaB (aliveB s.heap id ver) (some (.ptr id ver (off + j.toNat * k'))))
  | some ⟨.array len _, _, _, _⟩, some k', some (.fptr cs off), some (.int _ j) => qaB (decide (0 ≤ j ∧ j < len)) (some (.fptr cs (off + j.toNat * k')))
  | _, _, _, _ => none
noncomputable def svIndex (T : TypeId → Option TyI) (s : AS) (t : TypeId) (x i : Operand) : Option HV := match T t, s.evR x, s.evR i with
  | some ⟨.string, _, _, _⟩, some (.str l), some (.int _ j) => qaB (decide (0 ≤ j)) (match l[j.toNat]? with
   | some b => some (.int .u8 b.toNat)
   | none => none)
  | some ⟨.array len e, _, _, _⟩, some (.agg cs), some (.int _ j) => qaB (decide (0 ≤ j ∧ j < len)) (match T e with
   | some U => sload U cs (j.toNat * U.size)
   | none => none)
  | _, _, _ => none
noncomputable def svExtract (s : AS) (x : Operand) (i : Nat) : Option HV := match s.evR x with
  | some (.tup vs) => vs[i]?
  | _ => none
noncomputable def svSlice (T : TypeId → Option TyI) (s : AS) (t : TypeId) (x : Operand) (lo hi : Option Operand) : Option HV := match T t, sElem T t, s.evR x with
  | some ⟨.string, _, _, _⟩, _, some (.str l) => match aslR s lo 0, aslR s hi l.length with
   | some a, some b => qaB (decide (0 ≤ a ∧ a ≤ b ∧ b ≤ l.length)) (some (.str ((l.take b.toNat).drop a.toNat)))
   | _, _ => none
  | some ⟨.slice _, _, _, _⟩, some k', some (.sl k n cs) => match aslR s lo 0, aslR s hi n with
   | some a, some b => qaB (decide (k = k' ∧ 0 ≤ a ∧ a ≤ b ∧ b ≤ n)) (some (.sl k (b.toNat - a.toNat) ((cs.take (b.toNat * k)).drop (a.toNat * k))))
   | _, _ => none
  | some ⟨.slice _, _, _, _⟩, some k', some (.ar id ver k off n) => match aslR s lo 0, aslR s hi n with
   | some a, some b => qaB (decide (k = k' ∧ 0 ≤ a ∧ a ≤ b ∧ b ≤ n ∧ (a = 0 ∨ a < n))) (qaB (aliveB s.heap id ver) (some (.ar id ver k (off + a.toNat * k) (b.toNat - a.toNat))))
   | _, _ => none
  | _, _, _ => none
noncomputable def svCall (T : TypeId → Option TyI) (s : AS) (c : Call) : Option HV := match c.callee, c.argTypes.toList, c.args.toList with
  | .builtin .len, [t], [x] => match T t, s.evR x with
   | some ⟨.string, _, _, _⟩, some (.str l) => some (.int .i64 l.length)
   | some ⟨.slice _, _, _, _⟩, some (.sl _ n _) => some (.int .i64 n)
   | some ⟨.slice _, _, _, _⟩, some (.ar id ver _ _ n) => qaB (aliveB s.heap id ver) (some (.int .i64 n))
   | some ⟨.slice _, _, _, _⟩, some (.v (.slice none 0 0)) => some (.int .i64 0)
   | some ⟨.map _ _, _, _, _⟩, some (.v (.map none)) => some (.int .i64 0)
   | some ⟨.map _ _, _, _, _⟩, some (.mp id ver) => match hgetR s.heap id with
    | some (ver', .map es) => qaB (Nat.beq ver ver' && Nat.ble es.length maxLen) (some (.int .i64 es.length))
    | _ => none
   | _, _ => none
  | .builtin .min, _, [x, y] => match s.evR x, s.evR y with
   | some (.int k a), some (.int k' c) => qaB (decide (k = k')) (some (.int k (min a c)))
   | _, _ => none
  | .builtin .max, _, [x, y] => match s.evR x, s.evR y with
   | some (.int k a), some (.int k' c) => qaB (decide (k = k')) (some (.int k (max a c)))
   | _, _ => none
  | .builtin .min, _, [x, y, z] => match s.evR x, s.evR y, s.evR z with
   | some (.int k a), some (.int k' c), some (.int k'' d) => qaB (decide (k = k' ∧ k = k'')) (some (.int k (min (min a c) d)))
   | _, _, _ => none
  | .builtin .max, _, [x, y, z] => match s.evR x, s.evR y, s.evR z with
   | some (.int k a), some (.int k' c), some (.int k'' d) => qaB (decide (k = k' ∧ k = k'')) (some (.int k (max (max a c) d)))
   | _, _, _ => none
  | _, _, _ => none
noncomputable def sval (T : TypeId → Option TyI) (op : Op) (s : AS) : Option HV :=
 match op with
 | .move x => s.evR x
 | .assign x => s.evR x
 | .pick c a b => svPick s c a b
 | .load t a => svLoad T s t a
 | .nilCheck x => svNil s x
 | .binOp op tx x y _ => svBin T s op tx x y
 | .unOp op _ x => svUn s op x
 | .convert src dst x => svConv T s src dst x
 | .makeFunc fn first caps => svFunc s fn first caps
 | .fieldAddr S x f => svFieldAddr T s S x f
 | .field S x f => svField T s S x f
 | .indexAddr t x i => svIndexAddr T s t x i
 | .index t x i => svIndex T s t x i
 | .extract x i => svExtract s x i
 | .slice t x lo hi none => svSlice T s t x lo hi
 | .call c => svCall T s c
 | _ => none
theorem renE_len (ρ : Nat → Nat) : ∀ l, (renE ρ l).length = l.length
 | [] => rfl
 | _ :: l => by simp [renE, renE_len ρ l]
theorem hget_s (ρ : Nat → Nat) {s : AS} {id v : Nat} {o : AObj} (h : hget s.heap id = some (v, o)) : hget (s.ren ρ).heap id = some (ρ v, o.ren ρ) := by
 show hget (renH ρ s.heap) id = _
 rw [hget_ren, h]
 rfl
section
variable {P : Program} {T : TypeId → Option TyI} {s : AS} {ρ : Nat → Nat} {R : HV → Prop}
theorem sval_sound (hT : TabOk P T) {op : Op} {r : HV} (h : sval T op s = some r) (hr : R (r.ren ρ)) : aval P op (s.ren ρ) R := by
 unfold sval at h
 simp only [qa1, qav, qaA, qau, qaJ, qaQ, qap] at h
 split at h
 ·simp only [aval, qaC, h, Option.map_some]; exact hr
 ·simp only [aval, qaC, h, Option.map_some]; exact hr
 ·-- pick
  unfold svPick at h
  try simp only [qa1, qav, qaA, qau, qaJ, qaQ, qap] at h
  rename_i c a b
  split at h
  ·rename_i h1 g hc ha hb
   cases h
   simp only [aval, qaC, hc, ha, hb, Option.map_some, HV.ren]
   split
   all_goals simp_all
  ·rename_i g h1 hc ha hb
   cases h
   simp only [aval, qaC, hc, ha, hb, Option.map_some, HV.ren]
   split
   all_goals simp_all
  ·cases h
 ·-- load
  unfold svLoad at h
  try simp only [qa1, qav, qaA, qau, qaJ, qaQ, qap] at h
  split at h
  ·rename_i U cs off hU hx
   simp only [aval, qaC, hT _ _ hU, hx, Option.map_some, HV.ren]
   exact sload_sound h hr
  ·rename_i U id ver off hU hx
   split at h
   ·rename_i ver' k e cs hg
    obtain ⟨hv, h'⟩ := qae h
    have hv := Nat.eq_of_beq_eq_true hv
    subst hv
    simp only [aval, qaC, hT _ _ hU, hx, Option.map_some, HV.ren, hget_s ρ hg, AObj.ren]
    exact ⟨trivial, sload_sound h' hr⟩
   ·cases h
  ·cases h
 ·-- nilCheck
  unfold svNil at h
  try simp only [qa1, qav, qaA, qau, qaJ, qaQ, qap] at h
  split at h
  ·rename_i id ver off hx
   obtain ⟨hv, h⟩ := qae h
   cases h
   have := aliveB_sound (ρ := ρ) hv
   simp only [aval, qaC, hx, Option.map_some, HV.ren]
   unfold alive at this
   have e : (s.ren ρ).heap = renH ρ s.heap := rfl
   rw [e]
   cases hh : hget (renH ρ s.heap) id with
   | none => rw [hh] at this; exact this
   | some x => rw [hh] at this; exact ⟨this.symm, hr⟩
  ·rename_i cs off hx
   cases h
   simp only [aval, qaC, hx, Option.map_some, HV.ren]
   exact hr
  ·cases h
 ·-- binOp
  unfold svBin at h
  try simp only [qa1, qav, qaA, qau, qaJ, qaQ, qap] at h
  split at h
  ·rename_i x y hx hy
   simp only [aval, qaC, hx, hy, Option.map_some]
   exact sbinT_sound hT h hr
  ·cases h
 ·-- unOp
  unfold svUn at h
  try simp only [qa1, qav, qaA, qau, qaJ, qaQ, qap] at h
  split at h
  ·rename_i b hx
   cases h
   simp only [aval, qaC, hx, Option.map_some, HV.ren]
   exact hr
  ·rename_i k n hx
   cases h
   simp only [aval, qaC, hx, Option.map_some, HV.ren]
   exact hr
  ·cases h
 ·-- convert
  unfold svConv at h
  try simp only [qa1, qav, qaA, qau, qaJ, qaQ, qap] at h
  split at h
  ·rename_i U k _ _ _ k0 n hU hD hx
   cases h
   simp only [aval, qaC, hT _ _ hU, hT _ _ hD, hx, Option.map_some, HV.ren]
   exact hr
  ·rename_i U _ _ _ k0 n hU hD hx
   cases h
   simp only [aval, qaC, hT _ _ hU, hT _ _ hD, hx, Option.map_some, HV.ren]
   exact hr
  ·rename_i U _ _ _ l hU hD hx
   cases h
   simp only [aval, qaC, hT _ _ hU, hT _ _ hD, hx, Option.map_some, HV.ren]
   exact hr
  ·cases h
 ·-- makeFunc
  unfold svFunc at h
  try simp only [qa1, qav, qaA, qau, qaJ, qaQ, qap] at h
  split at h
  ·rename_i fs cs hf hc
   cases h
   simp only [aval, evL_ren, hf, hc, Option.map_some]
   exact hr
  ·cases h
 ·-- fieldAddr
  unfold svFieldAddr at h
  try simp only [qa1, qav, qaA, qau, qaJ, qaQ, qap] at h
  split at h
  ·rename_i o U id ver off hF hx
   obtain ⟨hv, h⟩ := qae h
   cases h
   simp only [aval, sField_sound hT hF, qaC, hx, Option.map_some, HV.ren]
   exact ⟨aliveB_sound hv, hr⟩
  ·rename_i o U cs off hF hx
   cases h
   simp only [aval, sField_sound hT hF, qaC, hx, Option.map_some, HV.ren]
   exact hr
  ·cases h
 ·-- field
  unfold svField at h
  try simp only [qa1, qav, qaA, qau, qaJ, qaQ, qap] at h
  split at h
  ·rename_i o U cs hF hx
   simp only [aval, sField_sound hT hF, qaC, hx, Option.map_some, HV.ren]
   exact sload_sound h hr
  ·cases h
 ·-- indexAddr
  unfold svIndexAddr at h
  try simp only [qa1, qav, qaA, qau, qaJ, qaQ, qap] at h
  split at h
  ·rename_i e _ _ _ k' k n cs kk j hU hE hx hi
   obtain ⟨hv, h⟩ := qae h
   cases h
   simp only [aval, hT _ _ hU, sElem_sound hT hE, qaC, hx, hi, Option.map_some, HV.ren]
   obtain ⟨h1, h2, h3⟩ := of_decide_eq_true hv
   exact ⟨h1, h2, h3, hr⟩
  ·rename_i e _ _ _ k' id ver k off n kk j hU hE hx hi
   obtain ⟨hv, h⟩ := qae h
   obtain ⟨ha, h⟩ := qae h
   cases h
   simp only [aval, hT _ _ hU, sElem_sound hT hE, qaC, hx, hi, Option.map_some, HV.ren]
   obtain ⟨h1, h2, h3⟩ := of_decide_eq_true hv
   exact ⟨h1, h2, h3, aliveB_sound ha, hr⟩
  ·rename_i len e _ _ _ k' id ver off kk j hU hE hx hi
   obtain ⟨hv, h⟩ := qae h
   obtain ⟨ha, h⟩ := qae h
   cases h
   simp only [aval, hT _ _ hU, sElem_sound hT hE, qaC, hx, hi, Option.map_some, HV.ren]
   obtain ⟨h1, h2⟩ := of_decide_eq_true hv
   exact ⟨h1, h2, aliveB_sound ha, hr⟩
  ·rename_i len e _ _ _ k' cs off kk j hU hE hx hi
   obtain ⟨hv, h⟩ := qae h
   cases h
   simp only [aval, hT _ _ hU, sElem_sound hT hE, qaC, hx, hi, Option.map_some, HV.ren]
   obtain ⟨h1, h2⟩ := of_decide_eq_true hv
   exact ⟨h1, h2, hr⟩
  ·cases h
 ·-- index
  unfold svIndex at h
  try simp only [qa1, qav, qaA, qau, qaJ, qaQ, qap] at h
  split at h
  ·rename_i _ _ _ l k j hU hx hi
   obtain ⟨hv, h⟩ := qae h
   split at h
   ·rename_i b hb
    cases h
    simp only [aval, hT _ _ hU, qaC, hx, hi, Option.map_some, HV.ren, hb]
    exact ⟨of_decide_eq_true hv, hr⟩
   ·cases h
  ·rename_i len e _ _ _ cs k j hU hx hi
   obtain ⟨hv, h⟩ := qae h
   split at h
   ·rename_i U hE
    simp only [aval, hT _ _ hU, qaC, hx, hi, Option.map_some, HV.ren, hT _ _ hE]
    obtain ⟨h1, h2⟩ := of_decide_eq_true hv
    exact ⟨h1, h2, sload_sound h hr⟩
   ·cases h
  ·cases h
 ·-- extract
  unfold svExtract at h
  try simp only [qa1, qav, qaA, qau, qaJ, qaQ, qap] at h
  split at h
  ·rename_i vs hx
   simp only [aval, qaC, hx, Option.map_some, HV.ren, renL_get, h]
   exact hr
  ·cases h
 ·-- slice
  unfold svSlice at h
  try simp only [qa1, qav, qaA, qau, qaJ, qaQ, qap] at h
  split at h
  ·rename_i _ _ _ l hU hx
   split at h
   ·rename_i a b ha hb
    obtain ⟨hv, h⟩ := qae h
    cases h
    simp only [aval, hT _ _ hU, qaC, hx, Option.map_some, HV.ren, asl_ren, ha, hb]
    obtain ⟨h1, h2, h3⟩ := of_decide_eq_true hv
    exact ⟨h1, h2, h3, hr⟩
   ·cases h
  ·rename_i e _ _ _ k' k n cs hU hE hx
   split at h
   ·rename_i a b ha hb
    obtain ⟨hv, h⟩ := qae h
    cases h
    simp only [aval, hT _ _ hU, sElem_sound hT hE, qaC, hx, Option.map_some, HV.ren, asl_ren, ha, hb]
    obtain ⟨h1, h2, h3, h4⟩ := of_decide_eq_true hv
    refine ⟨h1, h2, h3, h4, ?_⟩
    rw [← renL_take, ← renL_drop]
    exact hr
   ·cases h
  ·rename_i e _ _ _ k' id ver k off n hU hE hx
   split at h
   ·rename_i a b ha hb
    obtain ⟨hv, h⟩ := qae h
    obtain ⟨hl, h⟩ := qae h
    cases h
    simp only [aval, hT _ _ hU, sElem_sound hT hE, qaC, hx, Option.map_some, HV.ren, asl_ren, ha, hb]
    obtain ⟨h1, h2, h3, h4, h5⟩ := of_decide_eq_true hv
    exact ⟨h1, h2, h3, h4, h5, aliveB_sound hl, hr⟩
   ·cases h
  ·cases h
 ·-- call
  unfold svCall at h
  try simp only [qa1, qav, qaA, qau, qaJ, qaQ, qap] at h
  split at h
  ·rename_i c t x hc ht hx
   split at h
   ·rename_i _ _ _ l hU hl
    cases h
    simp only [aval, hc, ht, hx, hT _ _ hU, qaC, hl, Option.map_some, HV.ren]; exact hr
   ·rename_i e _ _ _ k n cs hU hl
    cases h
    simp only [aval, hc, ht, hx, hT _ _ hU, qaC, hl, Option.map_some, HV.ren]; exact hr
   ·rename_i e _ _ _ id ver k off n hU hl
    obtain ⟨hv, h⟩ := qae h
    cases h
    simp only [aval, hc, ht, hx, hT _ _ hU, qaC, hl, Option.map_some, HV.ren]; exact ⟨aliveB_sound hv, hr⟩
   ·rename_i e _ _ _ hU hl
    cases h
    simp only [aval, hc, ht, hx, hT _ _ hU, qaC, hl, Option.map_some, HV.ren]; exact hr
   ·rename_i e _ _ _ hU hl
    cases h
    simp only [aval, hc, ht, hx, hT _ _ hU, qaC, hl, Option.map_some, HV.ren]; exact hr
   ·rename_i e _ _ _ _ id ver hU hl
    split at h
    ·rename_i ver' es hg
     obtain ⟨hv, h⟩ := qae h
     cases h
     simp only [Bool.and_eq_true] at hv
     have hve := Nat.eq_of_beq_eq_true hv.1
     subst hve
     simp only [aval, hc, ht, hx, hT _ _ hU, qaC, hl, Option.map_some, HV.ren, hget_s ρ hg, AObj.ren, renE_len]
     exact ⟨trivial, Nat.le_of_ble_eq_true hv.2, hr⟩
    ·cases h
   ·cases h
  ·rename_i c x y hc hx
   split at h
   ·rename_i k a k' b ha hb
    obtain ⟨hv, h⟩ := qae h
    cases h
    simp only [aval, hc, hx, qaC, ha, hb, Option.map_some, HV.ren]
    exact ⟨.inl trivial, of_decide_eq_true hv, hr⟩
   ·cases h
  ·rename_i c x y hc hx
   split at h
   ·rename_i k a k' b ha hb
    obtain ⟨hv, h⟩ := qae h
    cases h
    simp only [aval, hc, hx, qaC, ha, hb, Option.map_some, HV.ren]
    exact ⟨.inr trivial, of_decide_eq_true hv, hr⟩
   ·cases h
  ·rename_i c x y z hc hx
   split at h
   ·rename_i k a k' b k'' d ha hb hd
    obtain ⟨hv, h⟩ := qae h
    cases h
    simp only [aval, hc, hx, qaC, ha, hb, hd, Option.map_some, HV.ren]
    obtain ⟨h1, h2⟩ := of_decide_eq_true hv
    exact ⟨.inl trivial, h1, h2, hr⟩
   ·cases h
  ·rename_i c x y z hc hx
   split at h
   ·rename_i k a k' b k'' d ha hb hd
    obtain ⟨hv, h⟩ := qae h
    cases h
    simp only [aval, hc, hx, qaC, ha, hb, hd, Option.map_some, HV.ren]
    obtain ⟨h1, h2⟩ := of_decide_eq_true hv
    exact ⟨.inr trivial, h1, h2, hr⟩
   ·cases h
  ·cases h
 ·cases h
end
end Go.AW
namespace Go.AW
open Go
def LoopKeep (H H' : Heap) : Prop := ∀ id v st pend f n snap ps a b, hget H id = some (v, .loop st pend f n snap ps a b) → ∀ x, hget H' id = some x → ∃ st' pend', x = (v, .loop st' pend' f n snap ps a b)
theorem LoopKeep.refl (H : Heap) : LoopKeep H H := fun _ _ _ _ _ _ _ _ _ _ h x hx => by rw [h] at hx; cases hx; exact ⟨_, _, rfl⟩
theorem LoopKeep.set {H : Heap} {id v : Nat} {o : AObj} (h : ∀ v st pend f n snap ps a b, hget H id ≠ some (v, .loop st pend f n snap ps a b)) : LoopKeep H (hset H id v o) := by
 intro j u st pend f n snap ps a b hj x hx
 rw [qag] at hx
 split at hx
 ·rename_i e; subst e; exact absurd hj (h _ _ _ _ _ _ _ _ _)
 ·rw [hj] at hx; cases hx; exact ⟨_, _, rfl⟩
theorem LoopKeep.setL {H : Heap} {id v : Nat} {st st' : LoopState} {pend pend' : Option Code} {f n : Nat} {snap : List (Nat × HV)} {ps : Array Tmp} {a b : Code}
  (h : hget H id = some (v, .loop st pend f n snap ps a b)) : LoopKeep H (hset H id v (.loop st' pend' f n snap ps a b)) := by
 intro j u st2 pend2 f2 n2 snap2 ps2 a2 b2 hj x hx
 rw [qag] at hx
 split at hx
 ·rename_i e; subst e; rw [h] at hj; cases hj; cases hx; exact ⟨_, _, rfl⟩
 ·rw [hj] at hx; cases hx; exact ⟨_, _, rfl⟩
theorem LoopKeep.trans {H H1 H2 : Heap} (h : LoopKeep H H1) (h' : LoopKeep H1 H2) (hd : ∀ id x, hget H id = some x → ∀ y, hget H2 id = some y → ∃ z, hget H1 id = some z) : LoopKeep H H2 := by
 intro j u st pend f n snap ps a b hj x hx
 obtain ⟨z, hz⟩ := hd j _ hj x hx
 obtain ⟨st1, p1, rfl⟩ := h _ _ _ _ _ _ _ _ _ _ hj z hz
 exact h' _ _ _ _ _ _ _ _ _ _ hz x hx
def Back (n : Nat) (H H' : Heap) : Prop := ∀ id, id < n → ∀ y, hget H' id = some y → ∃ z, hget H id = some z
theorem Back.refl (n : Nat) (H : Heap) : Back n H H := fun _ _ y h => ⟨y, h⟩
theorem Back.trans {n m : Nat} {H H1 H2 : Heap} (h : Back n H H1) (hn : n ≤ m) (h' : Back m H1 H2) : Back n H H2 := fun id hid y hy => by
 obtain ⟨z, hz⟩ := h' id (by omega) y hy
 exact h id hid z hz
theorem Back.set {n id v : Nat} {H : Heap} {o : AObj} (h : n ≤ id ∨ ∃ x, hget H id = some x) : Back n H (hset H id v o) := fun j hj y hy => by
 rw [qag] at hy
 split at hy
 ·rename_i e; subst e; exact h.elim (fun h => by omega) id
 ·exact ⟨y, hy⟩
theorem sch_lt {n id : Nat} {H : Heap} {x : Nat × AObj} (h : scH n H = true) (hg : hget H id = some x) : id < n := (sch_get (o := x.2) (v := x.1) h hg).1.1
theorem sch_fresh {n : Nat} {H : Heap} (h : scH n H = true) : hget H n = none := by
 cases hg : hget H n with
 | none => rfl
 | some x => exact absurd (sch_lt h hg) (by omega)
structure Step (n n' : Nat) (H H' : Heap) : Prop where
 le : n ≤ n'
 loop : LoopKeep H H'
 back : Back n H H'
theorem Step.refl (n : Nat) (H : Heap) : Step n n H H := ⟨Nat.le_refl _, LoopKeep.refl H, Back.refl n H⟩
theorem Step.trans {n n1 n2 : Nat} {H H1 H2 : Heap} (hs : scH n H = true) (h : Step n n1 H H1) (h' : Step n1 n2 H1 H2) : Step n n2 H H2 :=
 ⟨Nat.le_trans h.le h'.le, h.loop.trans h'.loop fun id x hx y hy => h'.back id (Nat.lt_of_lt_of_le (sch_lt hs hx) h.le) y hy, h.back.trans h.le h'.back⟩
inductive Task where
 | code (top : Bool) (N : Nat) (c : Code) (s : AS) (n : Nat)
 | call (f : FuncId) (args : List HV) (H : Heap) (n : Nat)
inductive Out where
 | code (e : Exit) (s : AS) (n : Nat)
 | call (rv : HV) (H : Heap) (n : Nat)
def Sem (P : Program) : Task → Out → Prop
 | .code top N c s n, .code e s' n' => s.sc n = true → s'.sc n' = true ∧ Step n n' s.heap s'.heap ∧
   ∀ (ρ : Nat → Nat) (ro : Option Nat) (Q : Exit → AS → Prop), (top = true → ro = none) → (∀ ρ', Agree n ρ ρ' → Q e (s'.ren ρ')) → AW P ro N c Q (s.ren ρ)
 | .call f args H n, .call rv H' n' => scL n args = true → scH n H = true → rv.sc n' = true ∧ scH n' H' = true ∧ Step n n' H H' ∧
   ∀ (ρ : Nat → Nat) (K : HV → Heap → Prop), (∀ ρ', Agree n ρ ρ' → K (rv.ren ρ') (renH ρ' H')) → ACall P f (renL ρ args) (renH ρ H) K
 | _, _ => False
def Good (P : Program) (r : Task → Option Out) : Prop := ∀ t o, r t = some o → Sem P t o
def OpOk (P : Program) (N : Nat) (o : Oper) (s : AS) (n : Nat) (s' : AS) (n' : Nat) : Prop := s'.sc n' = true ∧ Step n n' s.heap s'.heap ∧
 ∀ (ρ : Nat → Nat) (ro : Option Nat) (K : AS → Prop), (∀ ρ', Agree n ρ ρ' → K (s'.ren ρ')) → AOp P ro N o K (s.ren ρ)
noncomputable def fin (s : AS) (n : Nat) (d : Option Tmp) (h : HV) : Option (AS × Nat) := qaB (h.sc n) (some (s.putR d h, n))
noncomputable def new (s : AS) (n : Nat) (d : Option Tmp) (id : Nat) (o : AObj) (h : HV) : Option (AS × Nat) := qaB (o.sc n) (some (({ s with heap := hsetR s.heap id n o } : AS).putR d h, n + 1))
section
variable {P : Program} {N n n' : Nat} {o : Oper} {s s' : AS}
theorem sc_heap_of (hs : s.sc n = true) : scH n s.heap = true := by
 simp only [AS.sc, Bool.and_eq_true] at hs; exact hs.2
theorem sc_slots_of (hs : s.sc n = true) : scS n s.slots = true := by
 simp only [AS.sc, Bool.and_eq_true] at hs; exact hs.1
theorem put_heap' (s : AS) (d : Option Tmp) (h : HV) : (s.put d h).heap = s.heap := by cases d <;> rfl
theorem fin_ok {h : HV} (hs : s.sc n = true) (he : fin s n o.dst h = some (s', n')) (hk : ∀ (ρ : Nat → Nat) (ro : Option Nat) (K : AS → Prop), K ((s.ren ρ).put o.dst (h.ren ρ)) → AOp P ro N o K (s.ren ρ)) : OpOk P N o s n s' n' := by
 unfold fin at he
 rw [qaJ] at he
 obtain ⟨h1, h2⟩ := qae he
 cases h2
 refine ⟨sc_put hs h1, by rw [put_heap']; exact Step.refl _ _, fun ρ ro K hK => hk ρ ro K ?_⟩
 rw [← ren_put]
 exact hK ρ (Agree.refl _ _)
theorem new_ok {id : Nat} {ob : AObj} {h : HV} (hs : s.sc n = true) (hid : id = n ∨ ∃ v k e cs, hget s.heap id = some (v, .arr k e cs)) (hh : h.sc (n + 1) = true) (he : new s n o.dst id ob h = some (s', n'))
  (hk : ∀ (ρ : Nat → Nat) (ro : Option Nat) (K : AS → Prop), (∀ ver, K ((⟨(s.ren ρ).slots, hset (s.ren ρ).heap id ver (ob.ren ρ)⟩ : AS).put o.dst (h.ren (upd ρ n ver)))) → AOp P ro N o K (s.ren ρ)) : OpOk P N o s n s' n' := by
 unfold new at he
 rw [qaJ, qaA] at he
 obtain ⟨h1, h2⟩ := qae he
 cases h2
 have hsh := sc_heap_of hs
 have hidn : id < n + 1 := by
  rcases hid with rfl | ⟨v, k, e, cs, hg⟩
  ·omega
  ·have := sch_lt hsh hg; omega
 refine ⟨sc_put (sc_heap (AS.sc_mono (Nat.le_succ n) s hs) hidn (by omega) (AObj.sc_mono (Nat.le_succ n) ob h1)) hh, ?_, fun ρ ro K hK => hk ρ ro K fun ver => ?_⟩
 ·rw [put_heap']
  refine ⟨by omega, LoopKeep.set ?_, Back.set ?_⟩
  ·rcases hid with rfl | ⟨v, k, e, cs, hg⟩
   ·rw [sch_fresh hsh]; intros; simp
   ·rw [hg]; intros; simp
  ·rcases hid with rfl | ⟨v, k, e, cs, hg⟩
   ·exact .inl (Nat.le_refl _)
   ·exact .inr ⟨_, hg⟩
 ·have := hK (upd ρ n ver) (Agree.upd n ver ρ)
  rw [ren_put] at this
  have e : (⟨s.slots, hset s.heap id n ob⟩ : AS).ren (upd ρ n ver) = ⟨(s.ren ρ).slots, hset (s.ren ρ).heap id ver (ob.ren ρ)⟩ := by
   simp only [AS.ren, renH_set, upd_at]
   rw [← renS_agree (Agree.upd n ver ρ) _ (sc_slots_of hs), ← renH_agree (Agree.upd n ver ρ) _ hsh, ← AObj.ren_agree (Agree.upd n ver ρ) _ h1]
  rw [e] at this
  exact this
end
theorem aparts_ren (ρ : Nat → Nat) (s : AS) : ∀ ps : List (Nat × Operand), aparts (s.ren ρ) ps = (aparts s ps).map (renS ρ)
 | [] => rfl
 | p :: ps => by
  have ih := aparts_ren ρ s ps
  unfold aparts at ih ⊢
  simp only [List.mapM_cons, Option.pure_def, Option.bind_eq_bind]
  rw [ih, qaC]
  cases s.ev p.2 with
  | none => rfl
  | some h =>
   simp only [Option.map_some, Option.bind_some]
   cases List.mapM (fun p => Option.map (fun h => (p.fst, h)) (s.ev p.snd)) ps with
   | none => rfl
   | some qs => rfl
theorem afill_ren (ρ : Nat → Nat) (place : Nat → Option (Nat × Nat)) : ∀ (qs : List (Nat × HV)) (cells : List HV), afill place (renS ρ qs) (renL ρ cells) = (afill place qs cells).map (renL ρ)
 | [], cells => rfl
 | (i, h) :: qs, cells => by
  simp only [renS, afill, cells_ren]
  cases place i with
  | none => rfl
  | some p =>
   obtain ⟨off, size⟩ := p
   cases h.cells? with
   | none => rfl
   | some cs =>
    simp only [Option.map_some, renL_len]
    split
    ·rw [← renL_splice, afill_ren ρ place qs]
    ·rfl
theorem consts_ren (ρ : Nat → Nat) : ∀ (vs : List Value) (hs : List HV), vs.mapM constHV = some hs → renL ρ hs = hs
 | [], hs, h => by simp at h; subst h; rfl
 | v :: vs, hs, h => by
  simp only [List.mapM_cons, Option.pure_def, Option.bind_eq_bind, Option.bind_eq_some_iff] at h
  obtain ⟨c, hc, ds, hd, he⟩ := h
  cases he
  have h1 := constHV_ren ρ v
  rw [hc] at h1
  simp only [Option.map_some, Option.some.injEq] at h1
  simp only [renL, h1, consts_ren ρ vs ds hd]
theorem zcells_ren (ρ : Nat → Nat) {z : Value} {zs : List HV} (h : qa8 z = some zs) : renL ρ zs = zs := by
 have one : ∀ {v : Value}, (match constHV v with
   | some h => if h.one then some [h] else none
   | none => none) = some zs → renL ρ zs = zs := fun {v} h => by
  have h1 := constHV_ren ρ v
  split at h
  ·rename_i c hc
   rw [hc] at h1
   simp only [Option.map_some, Option.some.injEq] at h1
   split at h
   ·cases h; simp only [renL, h1]
   ·cases h
  ·cases h
 unfold qa8 at h
 split at h
 ·split at h
  ·rename_i hs hm
   split at h
   ·cases h; exact consts_ren ρ _ _ hm
   ·cases h
  ·cases h
 ·cases h
 ·exact one h
theorem zrep_ren (ρ : Nat → Nat) {zs : List HV} (h : renL ρ zs = zs) (n : Nat) : renL ρ (zrep zs n) = zrep zs n := by
 induction n with
 | zero => rfl
 | succ n ih =>
  simp only [zrep, List.replicate_succ, List.flatten_cons, qbw, h] at ih ⊢
  rw [ih]
noncomputable def sslice (T : TypeId → Option TyI) (s : AS) (t : TypeId) (n : Nat) (ps : List (Nat × Operand)) : Option (Nat × TypeId × List HV) :=
 match T t with
 | some ⟨.slice e, _, _, _⟩ => match T e with
  | some U => match qa8 U.zero, apartsR s ps with
   | some zs, some qs => qaB (Nat.beq zs.length U.size && Nat.ble (n * U.size) 16777216) (match afill (fun i => some (i * U.size, U.size)) qs (zrep zs n) with
    | some cs => some (U.size, e, cs)
    | none => none)
   | _, _ => none
  | none => none
 | _ => none
def sPlaces (T : TypeId → Option TyI) : List Field → Option (List (Nat × Nat))
 | [] => some []
 | f :: fs => match T f.type, sPlaces T fs with
  | some U, some l => some ((f.offset, U.size) :: l)
  | _, _ => none
noncomputable def sbuild (T : TypeId → Option TyI) (s : AS) (t : TypeId) (ps : List (Nat × Operand)) : Option HV :=
 match T t with
 | some ⟨.struct fs, _, _, z⟩ => match sPlaces T fs.toList, qa8 z, apartsR s ps with
  | some pl, some zs, some qs => match afill (fun i => pl[i]?) qs zs with
   | some cs => some (.agg cs)
   | none => none
  | _, _, _ => none
 | _ => none
noncomputable def ssrc (T : TypeId → Option TyI) (s : AS) (xt : TypeId) (k : Nat) (x : HV) : Option (Nat × List HV) :=
 match T xt, x with
 | some ⟨.slice _, _, _, _⟩, .sl k' m cs => qaB (Nat.beq k' k) (some (m, cs))
 | some ⟨.slice _, _, _, _⟩, .ar id ver k' off m => match hgetR s.heap id with
  | some (ver', .arr _ _ cs) => qaB (Nat.beq ver ver' && (Nat.beq k' k && Nat.ble (off + m * k) cs.length)) (some (m, (cs.drop off).take (m * k)))
  | _ => none
 | some ⟨.slice _, _, _, _⟩, .v (.slice none 0 0) => some (0, [])
 | some ⟨.string, _, _, _⟩, .str l => qaB (Nat.beq k 1) (some (l.length, l.map fun b => .int .u8 b.toNat))
 | _, _ => none
noncomputable def sbase (s : AS) (k : Nat) (e : TypeId) (x : HV) : Option (Nat × List HV) :=
 match x with
 | .v (.slice none 0 0) => some (0, [])
 | .ar id ver k' off n => match hgetR s.heap id with
  | some (ver', .arr _ e' cs) => qaB (Nat.beq ver ver' && (Nat.beq k' k && (Nat.beq e' e && (Nat.beq off 0 && Nat.ble (n * k) cs.length)))) (some (n, cs.take (n * k)))
  | _ => none
 | _ => none
section
variable {P : Program} {T : TypeId → Option TyI} {s : AS} {ρ : Nat → Nat}
theorem sslice_sound (hT : TabOk P T) {t : TypeId} {n k : Nat} {e : TypeId} {ps : List (Nat × Operand)} {cs : List HV} {R : Nat → TypeId → List HV → Prop} (h : sslice T s t n ps = some (k, e, cs)) (hr : R k e (renL ρ cs)) : aslice P (s.ren ρ) t n ps R := by
 unfold sslice at h
 simp only [qa1, qav, qaA, qau, qaJ, qaQ, qap] at h
 split at h
 ·rename_i e' _ _ _ ht
  split at h
  ·rename_i U hU
   split at h
   ·rename_i zs qs hz hq
    obtain ⟨hv, h⟩ := qae h
    simp only [Bool.and_eq_true] at hv
    split at h
    ·rename_i cs' hc
     cases h
     have hf := afill_ren ρ (fun i => some (i * U.size, U.size)) qs (zrep zs n)
     rw [hc, zrep_ren ρ (zcells_ren ρ hz)] at hf
     simp only [aslice, hT _ _ ht, hT _ _ hU, hz, aparts_ren, hq, Option.map_some, hf]
     exact ⟨Nat.eq_of_beq_eq_true hv.1, Nat.le_of_ble_eq_true hv.2, hr⟩
    ·cases h
   ·cases h
  ·cases h
 ·cases h
theorem sPlaces_sound (hT : TabOk P T) : ∀ {fs : List Field} {l : List (Nat × Nat)}, sPlaces T fs = some l → placesOf P fs = some l
 | [], l, h => h
 | f :: fs, l, h => by
  simp only [sPlaces] at h
  split at h
  ·rename_i U l' hU hl
   cases h
   simp [placesOf, hT _ _ hU, sPlaces_sound hT hl]
  ·cases h
theorem sbuild_sound (hT : TabOk P T) {t : TypeId} {ps : List (Nat × Operand)} {r : HV} {R : HV → Prop} (h : sbuild T s t ps = some r) (hr : R (r.ren ρ)) : abuild P (s.ren ρ) t ps R := by
 unfold sbuild at h
 simp only [qa1, qav, qaA, qau, qaJ, qaQ, qap] at h
 split at h
 ·rename_i fs _ _ z ht
  split at h
  ·rename_i pl zs qs hpl hz hq
   split at h
   ·rename_i cs hc
    cases h
    have hf := afill_ren ρ (fun i => pl[i]?) qs zs
    rw [hc, zcells_ren ρ hz] at hf
    simp only [abuild, hT _ _ ht, sPlaces_sound hT hpl, hz, aparts_ren, hq, Option.map_some, hf]
    exact hr
   ·cases h
  ·cases h
 ·cases h
theorem bytes_ren (ρ : Nat → Nat) (l : List UInt8) : renL ρ (l.map fun b => HV.int .u8 b.toNat) = l.map fun b => HV.int .u8 b.toNat := by
 induction l with
 | nil => rfl
 | cons b l ih => simp only [List.map_cons, renL, HV.ren, ih]
theorem ssrc_sound (hT : TabOk P T) {xt : TypeId} {k m : Nat} {x : HV} {cs : List HV} (h : ssrc T s xt k x = some (m, cs)) : asrc P (s.ren ρ) xt k (x.ren ρ) fun m' cs' => m' = m ∧ cs' = renL ρ cs := by
 unfold ssrc at h
 simp only [qa1, qav, qaA, qau, qaJ, qaQ, qap] at h
 split at h
 ·rename_i e _ _ _ k' m' cs' ht
  obtain ⟨hv, h⟩ := qae h
  cases h
  simp only [asrc, hT _ _ ht, HV.ren]
  exact ⟨Nat.eq_of_beq_eq_true hv, trivial, trivial⟩
 ·rename_i e _ _ _ id ver k' off m' ht
  split at h
  ·rename_i ver' k2 e2 cs' hg
   obtain ⟨hv, h⟩ := qae h
   cases h
   simp only [Bool.and_eq_true] at hv
   have h1 := Nat.eq_of_beq_eq_true hv.1
   subst h1
   simp only [asrc, hT _ _ ht, HV.ren, hget_s ρ hg, AObj.ren]
   refine ⟨trivial, Nat.eq_of_beq_eq_true hv.2.1, by rw [renL_len]; exact Nat.le_of_ble_eq_true hv.2.2, trivial, ?_⟩
   rw [renL_take, renL_drop]
  ·cases h
 ·rename_i e _ _ _ ht
  cases h
  simp only [asrc, hT _ _ ht, HV.ren]
  exact ⟨trivial, rfl⟩
 ·rename_i _ _ _ l ht
  obtain ⟨hv, h⟩ := qae h
  cases h
  simp only [asrc, hT _ _ ht, HV.ren]
  exact ⟨Nat.eq_of_beq_eq_true hv, trivial, (bytes_ren ρ l).symm⟩
 ·cases h
theorem sbase_sound {e : TypeId} {k m : Nat} {x : HV} {cs : List HV} (h : sbase s k e x = some (m, cs)) : abase (s.ren ρ) k e (x.ren ρ) fun m' cs' => m' = m ∧ cs' = renL ρ cs := by
 unfold sbase at h
 simp only [qa1, qav, qaA, qau, qaJ, qaQ, qap] at h
 split at h
 ·cases h
  simp only [abase, HV.ren]
  exact ⟨trivial, rfl⟩
 ·rename_i id ver k' off m'
  split at h
  ·rename_i ver' k2 e2 cs' hg
   obtain ⟨hv, h⟩ := qae h
   cases h
   simp only [Bool.and_eq_true] at hv
   have h1 := Nat.eq_of_beq_eq_true hv.1
   subst h1
   simp only [abase, HV.ren, hget_s ρ hg, AObj.ren]
   refine ⟨trivial, Nat.eq_of_beq_eq_true hv.2.1, Nat.eq_of_beq_eq_true hv.2.2.1, Nat.eq_of_beq_eq_true hv.2.2.2.1, by rw [renL_len]; exact Nat.le_of_ble_eq_true hv.2.2.2.2, trivial, ?_⟩
   rw [renL_take]
  ·cases h
 ·cases h
end
end Go.AW
namespace Go.AW
open Go
structure Tabs where
 ty : TypeId → Option TyI
 fn : FuncId → Option Func
 ext : FuncId → List HV → Option HV
 /-- functions that sort in place: texts (true), numbers (false) -/
 sort : FuncId → Option Bool
 /-- the slots that are read behind a region: by the function's number of slots, and the region's number -/
 keep : Nat → Nat → Option (List Nat)
 /-- known results of functions that change nothing, at arguments that name no owned object -/
 extP : FuncId → List HV → Option HV := fun _ _ => none
structure Tabs.Ok (P : Program) (T : Tabs) : Prop where
 ty : TabOk P T.ty
 fn : ∀ f x, T.fn f = some x → P.funcs[f]? = some x ∧ (x.name == "runtime.NumGoroutine") = false
 ext : ∀ f args r, T.ext f args = some r → Fresh P f args r
 sortS : ∀ f, T.sort f = some true → SortsS P f
 sortI : ∀ f, T.sort f = some false → SortsI P f
 draw : P.follows .mixedOrders = true
 extP : ∀ f args r, T.extP f args = some r → Pure P f args (· = r) := by intro f args r h; cases h
def noIterB (id : Nat) : Heap → Bool
 | [] => true
 | (_, _, .iter m _ _ _) :: H => (!Nat.beq m id) && noIterB id H
 | _ :: H => noIterB id H
def unseen (seen : List (List UInt8)) : List (List UInt8 × HV) → List (List UInt8 × HV)
 | [] => []
 | (k, v) :: es => if k ∈ seen then unseen seen es else (k, v) :: unseen seen es
noncomputable def opBox (o : Oper) (s : AS) (n : Nat) (e : TypeId) (x : Operand) : Option (AS × Nat) := match s.evR x with
  | some hv => match hv.cells? with
   | some cs => new s n o.dst n (.arr cs.length e cs) (.ptr n n 0)
   | none => none
  | none => none
noncomputable def opAlloc (T : Tabs) (o : Oper) (s : AS) (n : Nat) (e : TypeId) : Option (AS × Nat) := match T.ty e with
  | some U => match qa8 U.zero with
   | some zs => new s n o.dst n (.arr zs.length e zs) (.ptr n n 0)
   | none => none
  | none => none
noncomputable def opStore (T : Tabs) (o : Oper) (s : AS) (n : Nat) (t : TypeId) (x y : Operand) : Option (AS × Nat) := match s.evR x, s.evR y, T.ty t with
  | some (.ptr id ver off), some hv, some U => match hv.cells?, hgetR s.heap id with
   | some cs, some (ver', .arr k e xs) => qaB (Nat.beq ver ver' && (Nat.beq U.size cs.length && Nat.ble (off + cs.length) xs.length))
     (qaB (scL n (splice xs off cs)) (some (({ s with heap := hsetR s.heap id ver (.arr k e (splice xs off cs)) } : AS).putR o.dst (.v undef), n)))
   | _, _ => none
  | _, _, _ => none
noncomputable def opBuildSlice (T : Tabs) (o : Oper) (s : AS) (n : Nat) (t : TypeId) (m : Nat) (ps : Array (Nat × Operand)) : Option (AS × Nat) := qaB (Nat.ble m 16777216) (match sslice T.ty s t m ps.toList with
  | some (k, e, cs) => new s n o.dst n (.arr k e cs) (.ar n n k 0 m)
  | none => none)
noncomputable def opMakeSlice (T : Tabs) (o : Oper) (s : AS) (n : Nat) (t : TypeId) (x y : Operand) : Option (AS × Nat) := match T.ty t, s.evR x, s.evR y with
  | some ⟨.slice e, _, _, _⟩, some (.int .i64 l), some (.int .i64 c) => match T.ty e with
   | some Te => match qa8 Te.zero with
    | some zs => qaB (Nat.beq zs.length Te.size && decide (0 ≤ l ∧ l ≤ c ∧ c * Te.bytes ≤ 281474976710656)) (new s n o.dst n (.arr Te.size e (zrep zs l.toNat)) (.ar n n Te.size 0 l.toNat))
    | none => none
   | none => none
  | _, _, _ => none
noncomputable def opAppend (T : Tabs) (o : Oper) (s : AS) (n : Nat) (aa : Array Operand) (ts : Array TypeId) : Option (AS × Nat) := match aa.toList, ts.toList with
  | [x, y], [t, xt] => match T.ty t, s.evR x, s.evR y with
   | some ⟨.slice e, _, _, _⟩, some hx, some hy => match T.ty e with
    | some Te => match sbase s Te.size e hx, ssrc T.ty s xt Te.size hy with
     | some (m, cs), some (m', ds) => qaB ((qa8 Te.zero).any (fun zs => zs.length == Te.size) && (Nat.ble ((m + m') * Te.bytes) 140737488355328 && Nat.ble (m + m') maxLen))
       (new s n o.dst (qbv hx n) (.arr Te.size e (cs ++ ds)) (.ar (qbv hx n) n Te.size 0 (m + m')))
     | _, _ => none
    | none => none
   | _, _, _ => none
  | _, _ => none
noncomputable def opClear (T : Tabs) (o : Oper) (s : AS) (n : Nat) (aa : Array Operand) (ts : Array TypeId) : Option (AS × Nat) := match aa.toList, ts.toList with
  | [x], [t] => match T.ty t, s.evR x with
   | some ⟨.slice e, _, _, _⟩, some (.ar id ver _ off n') => match T.ty e, hgetR s.heap id with
    | some Te, some (ver', .arr k' e' xs) => match qa8 Te.zero with
     | some [z] => qaB (Nat.beq ver ver' && Nat.ble (off + n') xs.length) (qaB (scL n (xs.take off ++ List.replicate n' z ++ xs.drop (off + n')))
       (some (({ s with heap := hsetR s.heap id ver (.arr k' e' (xs.take off ++ List.replicate n' z ++ xs.drop (off + n'))) } : AS).putR o.dst (.tup []), n)))
     | _ => none
    | _, _ => none
   | _, _ => none
  | _, _ => none
noncomputable def opCopy (T : Tabs) (o : Oper) (s : AS) (n : Nat) (aa : Array Operand) (ts : Array TypeId) : Option (AS × Nat) := match aa.toList, ts.toList with
  | [x, y], [t, xt] => match T.ty t, s.evR x, s.evR y with
   | some ⟨.slice e, _, _, _⟩, some (.ar id ver _ off n'), some hy => match T.ty e, hgetR s.heap id with
    | some Te, some (ver', .arr k' e' xs) => match ssrc T.ty s xt Te.size hy with
     | some (m, ds) => qaB (Nat.beq ver ver' && (!isStr hy && Nat.ble (off + n' * Te.size) xs.length)) (qaB (scL n (xs.take off ++ ds.take (min m n' * Te.size) ++ xs.drop (off + min m n' * Te.size)))
       (some (({ s with heap := hsetR s.heap id ver (.arr k' e' (xs.take off ++ ds.take (min m n' * Te.size) ++ xs.drop (off + min m n' * Te.size))) } : AS).putR o.dst (.int .i64 ((min m n' : Nat) : Int)), n)))
     | none => none
    | _, _ => none
   | _, _, _ => none
  | _, _ => none
noncomputable def opCall (r : Task → Option Out) (o : Oper) (s : AS) (n : Nat) (f : Operand) (aa : Array Operand) : Option (AS × Nat) := match s.evR f, aa.toList.mapM s.evR with
  | some (.fn (.func g) fs cs), some hs => qaB (scL n (fs ++ hs ++ cs)) (match r (.call g (fs ++ hs ++ cs) s.heap n) with
   | some (.call rv H n') => some (({ s with heap := H } : AS).putR o.dst rv, n')
   | _ => none)
  | some (.yl id ver), some hs => match hgetR s.heap id with
   | some (ver', .loop .ready none f m snap ps assign body) => qaB (Nat.beq ver ver' && (Nat.beq ps.size hs.length && (ps.toList.all fun p => Nat.blt p m))) (qaB (scS n (setPs snap ps.toList hs))
     (match r (.code false m assign ⟨setPs snap ps.toList hs, s.heap⟩ n) with
     | some (.code .normal s1 n1) => match hgetR s1.heap id with
      | some (_, .loop .ready none _ _ _ _ _ _) => match r (.code false m body { s1 with heap := hsetR s1.heap id ver (.loop .busy none f m snap ps assign body) } n1) with
       | some (.code e s2 n2) => match hgetR s2.heap id with
        | some (_, .loop .busy none _ _ _ _ _ _) => match e with
         | .normal => some (({ s with heap := hsetR s2.heap id ver (.loop .ready none f m snap ps assign body) } : AS).putR o.dst (.bool true), n2)
         | .ret => some (({ s with heap := hsetR s2.heap id ver (.loop .done (some .ret) f m snap ps assign body) } : AS).putR o.dst (.bool false), n2)
         | .exit i => some (({ s with heap := hsetR s2.heap id ver (.loop .done (some (.exit i)) f m snap ps assign body) } : AS).putR o.dst (.bool false), n2)
         | _ => none
        | _ => none
       | _ => none
      | _ => none
     | _ => none))
   | _ => none
  | _, _ => none
noncomputable def opBuild (T : Tabs) (o : Oper) (s : AS) (n : Nat) (t : TypeId) (ps : Array (Nat × Operand)) : Option (AS × Nat) := match sbuild T.ty s t ps.toList with
  | some r => fin s n o.dst r
  | none => none
noncomputable def opMapUpdate (T : Tabs) (o : Oper) (s : AS) (n : Nat) (t : TypeId) (m x y : Operand) : Option (AS × Nat) := match T.ty t, s.evR m, s.evR x, s.evR y with
  | some ⟨.map kt _, _, _, _⟩, some (.mp id ver), some (.str k), some hv => match T.ty kt, hgetR s.heap id with
   | some ⟨.string, _, _, _⟩, some (ver', .map es) => qaB (Nat.beq ver ver' && noIterB id s.heap) (qaB (scE n (mput k hv es))
     (some (({ s with heap := hsetR s.heap id ver (.map (mput k hv es)) } : AS).putR o.dst (.v undef), n)))
   | _, _ => none
  | _, _, _, _ => none
noncomputable def opLookup (T : Tabs) (o : Oper) (s : AS) (n : Nat) (t : TypeId) (m x : Operand) : Option (AS × Nat) := match T.ty t, s.evR m, s.evR x with
  | some ⟨.map kt et, _, _, _⟩, some (.mp id ver), some (.str k) => match T.ty kt, T.ty et, hgetR s.heap id with
   | some ⟨.string, _, _, _⟩, some Te, some (ver', .map es) => match constHV Te.zero with
    | some z => qaB (Nat.beq ver ver') (fin s n o.dst ((alook k es).getD z))
    | none => none
   | _, _, _ => none
  | _, _, _ => none
noncomputable def opRange (T : Tabs) (o : Oper) (s : AS) (n : Nat) (t : TypeId) (m : Operand) : Option (AS × Nat) := match T.ty t, s.evR m with
  | some ⟨.map _ _, _, _, _⟩, some (.mp mid mver) => match hgetR s.heap mid with
   | some (mver', .map _) => qaB (Nat.beq mver mver') (new s n o.dst n (.iter mid mver [] false) (.it n n))
   | _ => none
  | _, _ => none
noncomputable def opNext (o : Oper) (s : AS) (n : Nat) (x : Operand) : Option (AS × Nat) := match s.evR x with
  | some (.it id ver) => match hgetR s.heap id with
   | some (ver', .iter mid mver seen _) => match hgetR s.heap mid with
    | some (mver', .map es) => qaB (Nat.beq ver ver' && Nat.beq mver mver') (match unseen seen es with
     | [] => fin s n o.dst (.tup [.bool false])
     | [(k, v)] => qaB (v.sc n) (some (({ s with heap := hsetR s.heap id ver (.iter mid mver (k :: seen) true) } : AS).putR o.dst (.tup [.bool true, .str k, v]), n))
     | _ => none)
    | _ => none
   | _ => none
  | _ => none
noncomputable def opEntry (o : Oper) (s : AS) (n : Nat) (x : Operand) : Option (AS × Nat) := match s.evR x with
  | some (.it id ver) => match hgetR s.heap id with
   | some (ver', .iter mid mver (k :: _) true) => match hgetR s.heap mid with
    | some (mver', .map es) => qaB (Nat.beq ver ver' && Nat.beq mver mver') (match alook k es with
     | some v => fin s n o.dst (.tup [.str k, v])
     | none => none)
    | _ => none
   | _ => none
  | _ => none
noncomputable def sop (r : Task → Option Out) (T : Tabs) (o : Oper) (s : AS) (n : Nat) : Option (AS × Nat) :=
 match o.op with
 | .box e x => opBox o s n e x
 | .alloc e => opAlloc T o s n e
 | .store t x y => opStore T o s n t x y
 | .buildSlice t m ps => opBuildSlice T o s n t m ps
 | .makeSlice t x y => opMakeSlice T o s n t x y
 | .call ⟨.builtin .append, aa, ts⟩ => opAppend T o s n aa ts
 | .call ⟨.builtin .clear, aa, ts⟩ => opClear T o s n aa ts
 | .call ⟨.builtin .copy, aa, ts⟩ => opCopy T o s n aa ts
 | .call ⟨.value f, aa, _⟩ => opCall r o s n f aa
 | .build t ps => opBuild T o s n t ps
 | .makeMap _ none => new s n o.dst n (.map []) (.mp n n)
 | .mapUpdate t m x y => opMapUpdate T o s n t m x y
 | .insert t m x y => opMapUpdate T o s n t m x y
 | .lookup t m x false => opLookup T o s n t m x
 | .range t m => opRange T o s n t m
 | .next x false => opNext o s n x
 | .entry x => opEntry o s n x
 | op => match sval T.ty op s with
  | some h => fin s n o.dst h
  | none => none
theorem alook_ren (ρ : Nat → Nat) (k : List UInt8) : ∀ es, alook k (renE ρ es) = (alook k es).map (HV.ren ρ)
 | [] => rfl
 | (q, h) :: es => by
  simp only [renE, alook]
  split
  ·rfl
  ·exact alook_ren ρ k es
theorem mput_ren (ρ : Nat → Nat) (k : List UInt8) (h : HV) : ∀ es, renE ρ (mput k h es) = mput k (h.ren ρ) (renE ρ es)
 | [] => rfl
 | (q, g) :: es => by
  simp only [renE, mput]
  split
  ·rfl
  ·simp only [renE, mput_ren ρ k h es]
theorem noIterB_sound {id : Nat} {ρ : Nat → Nat} : ∀ {H : Heap}, noIterB id H = true → noIter id (renH ρ H)
 | [], _ => trivial
 | (i, v, .iter m mv seen cur) :: H, h => by
  simp only [noIterB, Bool.and_eq_true] at h
  refine ⟨fun e => ?_, noIterB_sound h.2⟩
  subst e
  simp at h
 | (i, v, .arr _ _ _) :: H, h => noIterB_sound (H := H) h
 | (i, v, .map _) :: H, h => noIterB_sound (H := H) h
 | (i, v, .loop _ _ _ _ _ _ _ _) :: H, h => noIterB_sound (H := H) h
 | (i, v, .kmap _) :: H, h => noIterB_sound (H := H) h
theorem mem_renE {ρ : Nat → Nat} {k : List UInt8} {v : HV} : ∀ {es : List (List UInt8 × HV)}, (k, v) ∈ renE ρ es → ∃ u, (k, u) ∈ es ∧ v = u.ren ρ
 | [], h => by cases h
 | (q, g) :: es, h => by
  simp only [renE, List.mem_cons] at h
  rcases h with h | h
  ·cases h; exact ⟨g, List.mem_cons_self .., rfl⟩
  ·obtain ⟨u, h1, h2⟩ := mem_renE h
   exact ⟨u, List.mem_cons_of_mem _ h1, h2⟩
theorem mem_renE' {ρ : Nat → Nat} {k : List UInt8} {u : HV} : ∀ {es : List (List UInt8 × HV)}, (k, u) ∈ es → (k, u.ren ρ) ∈ renE ρ es
 | [], h => by cases h
 | (q, g) :: es, h => by
  simp only [renE, List.mem_cons] at h ⊢
  rcases h with h | h
  ·cases h; exact .inl rfl
  ·exact .inr (mem_renE' h)
theorem mem_unseen {seen : List (List UInt8)} {k : List UInt8} {v : HV} : ∀ {es : List (List UInt8 × HV)}, (k, v) ∈ unseen seen es ↔ (k, v) ∈ es ∧ k ∉ seen
 | [] => by simp [unseen]
 | (q, g) :: es => by
  simp only [unseen]
  split
  ·rename_i hq
   rw [mem_unseen (es := es)]
   simp only [List.mem_cons]
   constructor
   ·exact fun h => ⟨.inr h.1, h.2⟩
   ·rintro ⟨h | h, h2⟩
    ·cases h; exact absurd hq h2
    ·exact ⟨h, h2⟩
  ·rename_i hq
   simp only [List.mem_cons, mem_unseen (es := es)]
   constructor
   ·rintro (h | h)
    ·cases h; exact ⟨.inl rfl, hq⟩
    ·exact ⟨.inr h.1, h.2⟩
   ·rintro ⟨h | h, h2⟩
    ·exact .inl h
    ·exact .inr ⟨h, h2⟩
section
variable {P : Program} {T : Tabs} {N n n' : Nat} {o : Oper} {s s' : AS} {r : Task → Option Out}
theorem set_ok {id ver : Nat} {x ob : AObj} {h : HV} (hs : s.sc n = true) (hg : hget s.heap id = some (ver, x)) (hx : ∀ st pend f n snap ps a b, x ≠ .loop st pend f n snap ps a b) (ho : ob.sc n = true) (hh : h.sc n = true)
  (hk : ∀ (ρ : Nat → Nat) (ro : Option Nat) (K : AS → Prop), K ((⟨(s.ren ρ).slots, hset (s.ren ρ).heap id (ρ ver) (ob.ren ρ)⟩ : AS).put o.dst (h.ren ρ)) → AOp P ro N o K (s.ren ρ)) :
  OpOk P N o s n (({ s with heap := hset s.heap id ver ob } : AS).put o.dst h) n := by
 have hl := sch_get (sc_heap_of hs) hg
 refine ⟨sc_put (sc_heap hs hl.1.1 hl.1.2 ho) hh, ?_, fun ρ ro K hK => hk ρ ro K ?_⟩
 ·rw [put_heap']
  exact ⟨Nat.le_refl _, LoopKeep.set fun v st pend f n snap ps a b e => by rw [hg] at e; cases e; exact hx _ _ _ _ _ _ _ _ rfl, Back.set (.inr ⟨_, hg⟩)⟩
 ·have := hK ρ (Agree.refl _ _)
  rw [ren_put] at this
  simpa only [AS.ren, renH_set] using this
theorem evL_sc {xs : List Operand} {hs : List HV} (h : xs.mapM s.ev = some hs) (ρ : Nat → Nat) : xs.mapM (s.ren ρ).ev = some (renL ρ hs) := by rw [evL_ren, h]; rfl
theorem setPs_ren (ρ : Nat → Nat) : ∀ (ps : List Tmp) (snap : List (Nat × HV)) (hs : List HV), renS ρ (setPs snap ps hs) = setPs (renS ρ snap) ps (renL ρ hs)
 | [], snap, hs => by simp [setPs]
 | p :: ps, snap, [] => by simp [setPs, renL]
 | p :: ps, snap, h :: hs => by simp only [setPs, renL, setPs_ren ρ ps, renS_set]
theorem sval_ok (hT : T.Ok P) (hN : okd N o.dst = true) (hs : s.sc n = true) (h : (match sval T.ty o.op s with
  | some h => fin s n o.dst h
  | none => none) = some (s', n')) : OpOk P N o s n s' n' := by
 split at h
 ·rename_i hv hev
  exact fin_ok hs h fun ρ ro K hK => AOp.pure hN (sval_sound hT.ty hev hK)
 ·cases h
theorem yield_ok (hr : Good P r) (hN : okd N o.dst = true) (hs : s.sc n = true) {c : Call} {g : Operand} {id ver : Nat} {hs' : List HV} (hop : o.op = .call c) (hc : c.callee = .value g) (hg : s.ev g = some (.yl id ver)) (ha : c.args.toList.mapM s.ev = some hs')
    (h : (match hget s.heap id with
      | some (ver', .loop .ready none f m snap ps assign body) => qaB (Nat.beq ver ver' && (Nat.beq ps.size hs'.length && (ps.toList.all fun p => Nat.blt p m))) (qaB (scS n (setPs snap ps.toList hs'))
          (match r (.code false m assign ⟨setPs snap ps.toList hs', s.heap⟩ n) with
          | some (.code .normal s1 n1) => match hget s1.heap id with
            | some (_, .loop .ready none _ _ _ _ _ _) => match r (.code false m body { s1 with heap := hset s1.heap id ver (.loop .busy none f m snap ps assign body) } n1) with
              | some (.code e s2 n2) => match hget s2.heap id with
                | some (_, .loop .busy none _ _ _ _ _ _) => match e with
                  | .normal => some (({ s with heap := hset s2.heap id ver (.loop .ready none f m snap ps assign body) } : AS).put o.dst (.bool true), n2)
                  | .ret => some (({ s with heap := hset s2.heap id ver (.loop .done (some .ret) f m snap ps assign body) } : AS).put o.dst (.bool false), n2)
                  | .exit i => some (({ s with heap := hset s2.heap id ver (.loop .done (some (.exit i)) f m snap ps assign body) } : AS).put o.dst (.bool false), n2)
                  | _ => none
                | _ => none
              | _ => none
            | _ => none
          | _ => none))
      | _ => none) = some (s', n')) : OpOk P N o s n s' n' := by
  have hsh := sc_heap_of hs
  split at h
  · rename_i ver' f m snap ps assign body hgl
    replace h := qae h
    obtain ⟨h1, h⟩ := h
    replace h := qae h
    obtain ⟨h2, h⟩ := h
    simp only [Bool.and_eq_true, List.all_eq_true] at h1
    have hv := Nat.eq_of_beq_eq_true h1.1
    subst hv
    have hps := Nat.eq_of_beq_eq_true h1.2.1
    have hpm : ∀ p ∈ ps.toList, p < m := fun p hp => blt_lt (h1.2.2 p hp)
    have hlsc := sch_get hsh hgl
    split at h
    · rename_i s1 n1 hr1
      obtain ⟨hs1, st1, hw1⟩ := hr _ _ hr1 (by simp only [AS.sc, h2, hsh, Bool.and_self])
      split at h
      · rename_i v1 f1 m1 snap1 ps1 as1 bd1 hg1
        obtain ⟨_, _, he1⟩ := st1.loop _ _ _ _ _ _ _ _ _ _ hgl _ hg1
        cases he1
        have hlsc1 := sch_get (sc_heap_of hs1) hg1
        have hsb : ({ s1 with heap := hset s1.heap id ver (.loop .busy none f m snap ps assign body) } : AS).sc n1 = true := sc_heap hs1 hlsc1.1.1 hlsc1.1.2 hlsc1.2
        split at h
        · rename_i e s2 n2 hr2
          obtain ⟨hs2, st2, hw2⟩ := hr _ _ hr2 hsb
          have stb : Step n1 n1 s1.heap (hset s1.heap id ver (.loop .busy none f m snap ps assign body)) := ⟨Nat.le_refl _, LoopKeep.setL hg1, Back.set (.inr ⟨_, hg1⟩)⟩
          have st12 := (st1.trans hsh stb).trans hsh st2
          split at h
          · rename_i v2 f2 m2 snap2 ps2 as2 bd2 hg2
            obtain ⟨_, _, he2⟩ := st12.loop _ _ _ _ _ _ _ _ _ _ hgl _ hg2
            cases he2
            have hlsc2 := sch_get (sc_heap_of hs2) hg2
            -- what a round comes to
            have done : ∀ (st : LoopState) (pend : Option Code) (b : Bool), (∀ (ρ' : Nat → Nat) (K : HV → Heap → Prop) (e' : Exit), e' = e →
                  K (.bool b) (hset (s2.ren ρ').heap id (ρ' ver) (.loop st pend (ρ' f) m (renS ρ' snap) ps assign body)) → rndQ id (ρ' ver) (ρ' f) m (renS ρ' snap) ps assign body K e' (s2.ren ρ')) →
                OpOk P N o s n (({ s with heap := hset s2.heap id ver (.loop st pend f m snap ps assign body) } : AS).put o.dst (.bool b)) n2 := by
              intro st pend b hq
              have hsn : ({ s with heap := hset s2.heap id ver (.loop st pend f m snap ps assign body) } : AS).sc n2 = true := by
                have := scS_mono st12.le _ (sc_slots_of hs)
                have h3 := scH_set _ id ver (.loop st pend f m snap ps assign body) (sc_heap_of hs2) hlsc2.1.1 hlsc2.1.2 hlsc2.2
                simp only [AS.sc, this, h3, Bool.and_self]
              refine ⟨sc_put hsn rfl, ?_, fun ρ ro K hK => ?_⟩
              · rw [put_heap']
                exact st12.trans hsh ⟨Nat.le_refl _, LoopKeep.setL hg2, Back.set (.inr ⟨_, hg2⟩)⟩
              · have hg' : (s.ren ρ).ev g = some (.yl id (ρ ver)) := by rw [qaC, hg]; rfl
                refine AOp.yield hop hc hN hg' (evL_sc ha ρ) ?_
                refine ⟨ρ f, m, renS ρ snap, ps, assign, body, hget_s ρ hgl, by rw [renL_len]; exact hps, hpm, fun l => ?_⟩
                have e0 : (⟨setPs (renS ρ snap) ps.toList (renL ρ hs'), (s.ren ρ).heap⟩ : AS) = (⟨setPs snap ps.toList hs', s.heap⟩ : AS).ren ρ := by simp only [AS.ren, setPs_ren]
                rw [e0]
                refine hw1 ρ (some l) _ (fun h => by cases h) fun ρ1 ha1 => ⟨rfl, ?_, ?_⟩
                · have := hget_s ρ1 hg1
                  simp only [AObj.ren] at this
                  rw [this, ha1 ver hlsc.1.2]
                  have h4 := hlsc.2
                  simp only [AObj.sc, Bool.and_eq_true] at h4
                  rw [ha1 f (blt_lt h4.1), renS_agree ha1 _ h4.2]
                · have h4 := hlsc.2
                  simp only [AObj.sc, Bool.and_eq_true] at h4
                  have e1 : ({ s1.ren ρ1 with heap := hset (s1.ren ρ1).heap id (ρ ver) (.loop .busy none (ρ f) m (renS ρ snap) ps assign body) } : AS) = ({ s1 with heap := hset s1.heap id ver (.loop .busy none f m snap ps assign body) } : AS).ren ρ1 := by
                    simp only [AS.ren, renH_set, AObj.ren]
                    rw [ha1 ver hlsc.1.2, ha1 f (blt_lt h4.1), renS_agree ha1 _ h4.2]
                  rw [e1]
                  refine hw2 ρ1 (some l) _ (fun h => by cases h) fun ρ2 ha2 => ?_
                  have ha02 : Agree n ρ ρ2 := ha1.trans st1.le ha2
                  rw [ha02 ver hlsc.1.2, ha02 f (blt_lt h4.1), renS_agree ha02 _ h4.2]
                  refine hq ρ2 _ e rfl ?_
                  have := hK ρ2 ha02
                  rw [ren_put] at this
                  have e2 : ({ s with heap := hset s2.heap id ver (.loop st pend f m snap ps assign body) } : AS).ren ρ2 = { s.ren ρ with heap := hset (s2.ren ρ2).heap id (ρ2 ver) (.loop st pend (ρ2 f) m (renS ρ2 snap) ps assign body) } := by
                    simp only [AS.ren, renH_set, AObj.ren]
                    rw [renS_agree ha02 _ (sc_slots_of hs)]
                  rw [e2] at this
                  exact this
            have hgb : ∀ ρ' : Nat → Nat, hget (s2.ren ρ').heap id = some (ρ' ver, .loop .busy none (ρ' f) m (renS ρ' snap) ps assign body) := fun ρ' => hget_s ρ' hg2
            split at h
            · cases h
              exact done _ _ _ fun ρ' K e' he hK => by subst he; exact ⟨hgb ρ', hK⟩
            · cases h
              exact done _ _ _ fun ρ' K e' he hK => by subst he; exact ⟨hgb ρ', hK⟩
            · cases h
              exact done _ _ _ fun ρ' K e' he hK => by subst he; exact ⟨hgb ρ', hK⟩
            · cases h
          · cases h
        · cases h
      · cases h
    · cases h
  · cases h
theorem sop_ok (hT : T.Ok P) (hr : Good P r) (hN : okd N o.dst = true) (hs : s.sc n = true) (h : sop r T o s n = some (s', n')) : OpOk P N o s n s' n' := by
 have hsh := sc_heap_of hs
 have self : ∀ m, Nat.blt m (m + 1) = true := fun m => by simp [Nat.blt_eq]
 unfold sop at h
 split at h
 ·-- box
  rename_i e x hop
  unfold opBox at h
  try simp only [qa1, qav, qaA, qau, qaJ, qaQ, qap] at h
  split at h
  ·rename_i hv hx
   split at h
   ·rename_i cs hcs
    refine new_ok (ob := .arr cs.length e cs) (h := .ptr n n 0) hs (.inl rfl) (self n) h fun ρ ro K hK => ?_
    have h1 : (s.ren ρ).ev x = some (hv.ren ρ) := by rw [qaC, hx]; rfl
    have h2 : (hv.ren ρ).cells? = some (renL ρ cs) := by rw [cells_ren, hcs]; rfl
    refine AOp.boxM n hop hN h1 h2 fun ver => ?_
    have := hK ver
    simp only [HV.ren, upd_at, AObj.ren] at this
    rw [renL_len]
    exact this
   ·cases h
  ·cases h
 ·-- alloc
  rename_i e hop
  unfold opAlloc at h
  try simp only [qa1, qav, qaA, qau, qaJ, qaQ, qap] at h
  split at h
  ·rename_i U hU
   split at h
   ·rename_i zs hz
    refine new_ok (ob := .arr zs.length e zs) (h := .ptr n n 0) hs (.inl rfl) (self n) h fun ρ ro K hK => ?_
    refine AOp.alloc n hop hN (hT.ty _ _ hU) hz fun ver => ?_
    have := hK ver
    simp only [HV.ren, upd_at, AObj.ren, zcells_ren ρ hz] at this
    exact this
   ·cases h
  ·cases h
 ·-- store
  rename_i t x y hop
  unfold opStore at h
  try simp only [qa1, qav, qaA, qau, qaJ, qaQ, qap] at h
  split at h
  ·rename_i id ver off hv U hx hy hU
   split at h
   ·rename_i cs ver' k e xs hcs hg
    replace h := qae h
    obtain ⟨h1, h⟩ := h
    replace h := qae h
    obtain ⟨h2, h⟩ := h
    cases h
    simp only [Bool.and_eq_true] at h1
    have hv' := Nat.eq_of_beq_eq_true h1.1
    subst hv'
    refine set_ok (x := .arr k e xs) hs hg (by intros; simp) h2 rfl fun ρ ro K hK => ?_
    have e1 : (s.ren ρ).ev x = some (.ptr id (ρ ver) off) := by rw [qaC, hx]; rfl
    have e2 : (s.ren ρ).ev y = some (hv.ren ρ) := by rw [qaC, hy]; rfl
    have e3 : (hv.ren ρ).cells? = some (renL ρ cs) := by rw [cells_ren, hcs]; rfl
    refine AOp.store hop hN e1 e2 e3 (hget_s ρ hg) (hT.ty _ _ hU) (by rw [renL_len]; exact Nat.eq_of_beq_eq_true h1.2.1) (by rw [renL_len, renL_len]; exact Nat.le_of_ble_eq_true h1.2.2) ?_
    simp only [AObj.ren, renL_splice] at hK
    exact hK
   ·cases h
  ·cases h
 ·-- buildSlice
  rename_i t m ps hop
  unfold opBuildSlice at h
  try simp only [qa1, qav, qaA, qau, qaJ, qaQ, qap] at h
  replace h := qae h
  obtain ⟨h1, h⟩ := h
  split at h
  ·rename_i k e cs hsl
   refine new_ok (ob := .arr k e cs) (h := .ar n n k 0 m) hs (.inl rfl) (self n) h fun ρ ro K hK => ?_
   refine AOp.buildSliceM n hop hN (Nat.le_of_ble_eq_true h1) (sslice_sound hT.ty hsl fun ver => ?_)
   have := hK ver
   simp only [HV.ren, upd_at, AObj.ren] at this
   exact this
  ·cases h
 ·-- makeSlice
  rename_i t x y hop
  unfold opMakeSlice at h
  try simp only [qa1, qav, qaA, qau, qaJ, qaQ, qap] at h
  split at h
  ·rename_i e sz by' z l c hU hx hy
   split at h
   ·rename_i Te hTe
    split at h
    ·rename_i zs hz
     replace h := qae h
     obtain ⟨h1, h⟩ := h
     simp only [Bool.and_eq_true] at h1
     obtain ⟨h2, h3, h4⟩ := of_decide_eq_true h1.2
     refine new_ok (ob := .arr Te.size e (zrep zs l.toNat)) (h := .ar n n Te.size 0 l.toNat) hs (.inl rfl) (self n) h fun ρ ro K hK => ?_
     have e1 : (s.ren ρ).ev x = some (.int .i64 l) := by rw [qaC, hx]; rfl
     have e2 : (s.ren ρ).ev y = some (.int .i64 c) := by rw [qaC, hy]; rfl
     refine AOp.makeSlice (k1 := .i64) (k2 := .i64) n hop hN (hT.ty _ _ hU) rfl (hT.ty _ _ hTe) hz (Nat.eq_of_beq_eq_true h1.1) e1 e2 h2 h3 h4 fun ver => ?_
     have := hK ver
     simp only [HV.ren, upd_at, AObj.ren, zrep_ren ρ (zcells_ren ρ hz)] at this
     exact this
    ·cases h
   ·cases h
  ·cases h
 ·-- append
  rename_i aa ts hop
  unfold opAppend at h
  try simp only [qa1, qav, qaA, qau, qaJ, qaQ, qap] at h
  split at h
  ·rename_i x y t xt ha ht
   split at h
   ·rename_i e sz by' z hx hy hU hex hey
    split at h
    ·rename_i Te hTe
     split at h
     ·rename_i m cs m' ds hb hsr
      replace h := qae h
      obtain ⟨h1, h⟩ := h
      simp only [Bool.and_eq_true] at h1
      have has : aa = #[x, y] := Array.toList_inj.1 (by simpa using ha)
      have hts : ts = #[t, xt] := Array.toList_inj.1 (by simpa using ht)
      subst has hts
      have hid : qbv hx n = n ∨ ∃ v k e' cs', hget s.heap (qbv hx n) = some (v, .arr k e' cs') := by
       unfold sbase at hb
       rw [qav] at hb
       split at hb
       ·exact .inl rfl
       ·rename_i id ver k' off n2
        split at hb
        ·rename_i ver' k2 e2 cs2 hg
         exact .inr ⟨_, _, _, _, hg⟩
        ·cases hb
       ·cases hb
      refine new_ok (ob := .arr Te.size e (cs ++ ds)) (h := .ar (qbv hx n) n Te.size 0 (m + m')) hs hid (self n) h fun ρ ro K hK => ?_
      have e1 : (s.ren ρ).ev x = some (hx.ren ρ) := by rw [qaC, hex]; rfl
      have e2 : (s.ren ρ).ev y = some (hy.ren ρ) := by rw [qaC, hey]; rfl
      have e3 : qbv (hx.ren ρ) n = qbv hx n := by cases hx <;> rfl
      refine AOp.append n hop hN (hT.ty _ _ hU) rfl (hT.ty _ _ hTe) h1.1 e1 e2 (sbase_sound hb) (ssrc_sound hT.ty hsr) (Nat.le_of_ble_eq_true h1.2.1) (Nat.le_of_ble_eq_true h1.2.2) fun ver => ?_
      rw [e3]
      have := hK ver
      simp only [HV.ren, upd_at, AObj.ren, qbw] at this
      exact this
     ·cases h
    ·cases h
   ·cases h
  ·cases h
 ·-- clear
  rename_i aa ts hop
  unfold opClear at h
  try simp only [qa1, qav, qaA, qau, qaJ, qaQ, qap] at h
  split at h
  ·rename_i x t ha ht
   split at h
   ·rename_i e sz by' z id ver k off m hU hx
    split at h
    ·rename_i Te ver' k' e' xs hTe hg
     split at h
     ·rename_i z' hz
      replace h := qae h
      obtain ⟨h1, h⟩ := h
      replace h := qae h
      obtain ⟨h2, h⟩ := h
      cases h
      simp only [Bool.and_eq_true] at h1
      have hv' := Nat.eq_of_beq_eq_true h1.1
      subst hv'
      have has : aa = #[x] := Array.toList_inj.1 (by simpa using ha)
      have hts : ts = #[t] := Array.toList_inj.1 (by simpa using ht)
      subst has hts
      refine set_ok (x := .arr k' e' xs) hs hg (by intros; simp) h2 rfl fun ρ ro K hK => ?_
      have e1 : (s.ren ρ).ev x = some (.ar id (ρ ver) k off m) := by rw [qaC, hx]; rfl
      refine AOp.clear hop hN (hT.ty _ _ hU) rfl (hT.ty _ _ hTe) hz e1 (hget_s ρ hg) (by rw [renL_len]; exact Nat.le_of_ble_eq_true h1.2) ?_
      have hzr : z'.ren ρ = z' := by
       have := zcells_ren ρ hz
       simp only [renL, List.cons.injEq, and_true] at this
       exact this
      have hrr : renL ρ (List.replicate m z') = List.replicate m z' := by rw [renL_map, List.map_replicate, hzr]
      simp only [AObj.ren, qbw, renL_take, renL_drop, hrr] at hK
      exact hK
     ·cases h
    ·cases h
   ·cases h
  ·cases h
 ·-- copy
  rename_i aa ts hop
  unfold opCopy at h
  try simp only [qa1, qav, qaA, qau, qaJ, qaQ, qap] at h
  split at h
  ·rename_i x y t xt ha ht
   split at h
   ·rename_i e sz by' z id ver k off m' hy hU hex hey
    split at h
    ·rename_i Te ver' k' e' xs hTe hg
     split at h
     ·rename_i m ds hsr
      replace h := qae h
      obtain ⟨h1, h⟩ := h
      replace h := qae h
      obtain ⟨h2, h⟩ := h
      cases h
      simp only [Bool.and_eq_true] at h1
      have hv' := Nat.eq_of_beq_eq_true h1.1
      subst hv'
      have has : aa = #[x, y] := Array.toList_inj.1 (by simpa using ha)
      have hts : ts = #[t, xt] := Array.toList_inj.1 (by simpa using ht)
      subst has hts
      refine set_ok (x := .arr k' e' xs) hs hg (by intros; simp) h2 rfl fun ρ ro K hK => ?_
      have e1 : (s.ren ρ).ev x = some (.ar id (ρ ver) k off m') := by rw [qaC, hex]; rfl
      have e2 : (s.ren ρ).ev y = some (hy.ren ρ) := by rw [qaC, hey]; rfl
      refine AOp.copy hop hN (hT.ty _ _ hU) rfl (hT.ty _ _ hTe) e1 e2 (fun l e => ?_) (hget_s ρ hg) (ssrc_sound hT.ty hsr) (by rw [renL_len]; exact Nat.le_of_ble_eq_true h1.2.2) ?_
      ·have h3 := h1.2.1
       cases hy <;> simp [HV.ren, isStr] at e h3
      ·simp only [AObj.ren, qbw, renL_take, renL_drop] at hK
       exact hK
     ·cases h
    ·cases h
   ·cases h
  ·cases h
 ·-- call
  rename_i f aa ts hop
  unfold opCall at h
  try simp only [qa1, qav, qaA, qau, qaJ, qaQ, qap] at h
  split at h
  ·rename_i g fs cs hs' hf ha
   replace h := qae h
   obtain ⟨h1, h⟩ := h
   split at h
   ·rename_i rv H n1 hr1
    cases h
    obtain ⟨h2, h3, st, hc⟩ := hr _ _ hr1 h1 hsh
    have hsl := sc_slots_of hs
    refine ⟨sc_put (by simp only [AS.sc, scS_mono st.le _ hsl, h3, Bool.and_self]) h2, by rw [put_heap']; exact st, fun ρ ro K hK => ?_⟩
    have e1 : (s.ren ρ).ev f = some (.fn (.func g) (renL ρ fs) (renL ρ cs)) := by rw [qaC, hf]; rfl
    refine AOp.call hop rfl hN e1 (evL_sc ha ρ) ?_
    rw [← qbw, ← qbw]
    refine hc ρ _ fun ρ' hag => ?_
    have := hK ρ' hag
    rw [ren_put] at this
    have e2 : ({ s with heap := H } : AS).ren ρ' = { s.ren ρ with heap := renH ρ' H } := by
     simp only [AS.ren]
     rw [renS_agree hag _ hsl]
    rw [e2] at this
    exact this
   ·cases h
  ·rename_i id ver hs' hf ha
   exact yield_ok hr hN hs hop rfl hf ha h
  ·cases h
 ·-- build
  rename_i t ps hop
  unfold opBuild at h
  try simp only [qa1, qav, qaA, qau, qaJ, qaQ, qap] at h
  split at h
  ·rename_i rv hb
   exact fin_ok hs h fun ρ ro K hK => AOp.build hop hN (sbuild_sound hT.ty hb hK)
  ·cases h
 ·-- makeMap
  rename_i t hop
  refine new_ok (ob := .map []) (h := .mp n n) hs (.inl rfl) (self n) h fun ρ ro K hK => ?_
  refine AOp.makeMap n hop hN fun ver => ?_
  have := hK ver
  simp only [HV.ren, upd_at, AObj.ren, renE] at this
  exact this
 ·-- mapUpdate
  rename_i t m x y hop
  unfold opMapUpdate at h
  try simp only [qa1, qav, qaA, qau, qaJ, qaQ, qap] at h
  split at h
  ·rename_i kt et sz by' z id ver k hv hU hm hx hy
   split at h
   ·rename_i sz2 by2 z2 ver' es hTk hg
    replace h := qae h
    obtain ⟨h1, h⟩ := h
    replace h := qae h
    obtain ⟨h2, h⟩ := h
    cases h
    simp only [Bool.and_eq_true] at h1
    have hv' := Nat.eq_of_beq_eq_true h1.1
    subst hv'
    refine set_ok (x := .map es) hs hg (by intros; simp) h2 rfl fun ρ ro K hK => ?_
    have e1 : (s.ren ρ).ev m = some (.mp id (ρ ver)) := by rw [qaC, hm]; rfl
    have e2 : (s.ren ρ).ev x = some (.str k) := by rw [qaC, hx]; rfl
    have e3 : (s.ren ρ).ev y = some (hv.ren ρ) := by rw [qaC, hy]; rfl
    refine AOp.mapUpdate (.inl hop) hN (hT.ty _ _ hU) rfl (hT.ty _ _ hTk) rfl e1 e2 e3 (hget_s ρ hg) (noIterB_sound h1.2) ?_
    simp only [AObj.ren, mput_ren] at hK
    exact hK
   ·cases h
  ·cases h
 ·-- insert
  rename_i t m x y hop
  unfold opMapUpdate at h
  try simp only [qa1, qav, qaA, qau, qaJ, qaQ, qap] at h
  split at h
  ·rename_i kt et sz by' z id ver k hv hU hm hx hy
   split at h
   ·rename_i sz2 by2 z2 ver' es hTk hg
    replace h := qae h
    obtain ⟨h1, h⟩ := h
    replace h := qae h
    obtain ⟨h2, h⟩ := h
    cases h
    simp only [Bool.and_eq_true] at h1
    have hv' := Nat.eq_of_beq_eq_true h1.1
    subst hv'
    refine set_ok (x := .map es) hs hg (by intros; simp) h2 rfl fun ρ ro K hK => ?_
    have e1 : (s.ren ρ).ev m = some (.mp id (ρ ver)) := by rw [qaC, hm]; rfl
    have e2 : (s.ren ρ).ev x = some (.str k) := by rw [qaC, hx]; rfl
    have e3 : (s.ren ρ).ev y = some (hv.ren ρ) := by rw [qaC, hy]; rfl
    refine AOp.mapUpdate (.inr hop) hN (hT.ty _ _ hU) rfl (hT.ty _ _ hTk) rfl e1 e2 e3 (hget_s ρ hg) (noIterB_sound h1.2) ?_
    simp only [AObj.ren, mput_ren] at hK
    exact hK
   ·cases h
  ·cases h
 ·-- lookup
  rename_i t m x hop
  unfold opLookup at h
  try simp only [qa1, qav, qaA, qau, qaJ, qaQ, qap] at h
  split at h
  ·rename_i kt et sz by' z id ver k hU hm hx
   split at h
   ·rename_i sz2 by2 z2 Te ver' es hTk hTe hg
    split at h
    ·rename_i z3 hz
     replace h := qae h
     obtain ⟨h1, h⟩ := h
     have hv' := Nat.eq_of_beq_eq_true h1
     subst hv'
     refine fin_ok hs h fun ρ ro K hK => ?_
     have e1 : (s.ren ρ).ev m = some (.mp id (ρ ver)) := by rw [qaC, hm]; rfl
     have e2 : (s.ren ρ).ev x = some (.str k) := by rw [qaC, hx]; rfl
     refine AOp.lookup hop hN (hT.ty _ _ hU) rfl (hT.ty _ _ hTk) rfl (hT.ty _ _ hTe) hz e1 e2 (hget_s ρ hg) ?_
     rw [alook_ren]
     have h5 := constHV_ren ρ Te.zero
     rw [hz] at h5
     simp only [Option.map_some, Option.some.injEq] at h5
     cases hl : alook k es with
     | none => rw [hl] at hK; simp only [Option.getD_none, h5, Option.map_none] at hK ⊢; exact hK
     | some q => rw [hl] at hK; exact hK
    ·cases h
   ·cases h
  ·cases h
 ·-- range
  rename_i t m hop
  unfold opRange at h
  try simp only [qa1, qav, qaA, qau, qaJ, qaQ, qap] at h
  split at h
  ·rename_i kt et sz by' z mid mver hU hm
   split at h
   ·rename_i mver' es hg
    replace h := qae h
    obtain ⟨h1, h⟩ := h
    have hv' := Nat.eq_of_beq_eq_true h1
    subst hv'
    have hlt := sch_get hsh hg
    refine new_ok (ob := .iter mid mver [] false) (h := .it n n) hs (.inl rfl) (self n) h fun ρ ro K hK => ?_
    have e1 : (s.ren ρ).ev m = some (.mp mid (ρ mver)) := by rw [qaC, hm]; rfl
    refine AOp.range n hop hN (hT.ty _ _ hU) rfl e1 (hget_s ρ hg) (by have := hlt.1.1; omega) fun ver => ?_
    have := hK ver
    simp only [HV.ren, upd_at, AObj.ren] at this
    exact this
   ·cases h
  ·cases h
 ·-- next
  rename_i x hop
  unfold opNext at h
  try simp only [qa1, qav, qaA, qau, qaJ, qaQ, qap] at h
  split at h
  ·rename_i id ver hx
   split at h
   ·rename_i ver' mid mver seen cur hg
    split at h
    ·rename_i mver' es hgm
     replace h := qae h
     obtain ⟨h1, h⟩ := h
     simp only [Bool.and_eq_true] at h1
     have hv' := Nat.eq_of_beq_eq_true h1.1
     subst hv'
     have hv' := Nat.eq_of_beq_eq_true h1.2
     subst hv'
     split at h
     ·rename_i hu
      refine fin_ok hs h fun ρ ro K hK => ?_
      have e1 : (s.ren ρ).ev x = some (.it id (ρ ver)) := by rw [qaC, hx]; rfl
      refine AOp.next hop hN e1 (hget_s ρ hg) (hget_s ρ hgm) (fun _ => hK) fun k v hkv hks => ?_
      obtain ⟨u, hu1, _⟩ := mem_renE hkv
      have := mem_unseen.2 ⟨hu1, hks⟩
      rw [hu] at this
      cases this
     ·rename_i k v hu
      replace h := qae h
      obtain ⟨h2, h⟩ := h
      cases h
      have hlm := sch_get hsh hgm
      refine set_ok (x := .iter mid mver seen cur) hs hg (by intros; simp) (by simp only [AObj.sc]; simpa [Nat.blt_eq] using hlm.1.2) (by simp only [HV.sc, scL, h2, Bool.and_self]) fun ρ ro K hK => ?_
      have e1 : (s.ren ρ).ev x = some (.it id (ρ ver)) := by rw [qaC, hx]; rfl
      refine AOp.next hop hN e1 (hget_s ρ hg) (hget_s ρ hgm) (fun hall => ?_) fun k' v' hkv hks => ?_
      ·have hm : (k, v) ∈ unseen seen es := by rw [hu]; exact List.mem_cons_self ..
       obtain ⟨h3, h4⟩ := mem_unseen.1 hm
       exact absurd (hall _ (mem_renE' h3)) h4
      ·obtain ⟨u, hu1, rfl⟩ := mem_renE hkv
       have := mem_unseen.2 ⟨hu1, hks⟩
       rw [hu] at this
       simp only [List.mem_singleton] at this
       cases this
       exact hK
     ·cases h
    ·cases h
   ·cases h
  ·cases h
 ·-- entry
  rename_i x hop
  unfold opEntry at h
  try simp only [qa1, qav, qaA, qau, qaJ, qaQ, qap] at h
  split at h
  ·rename_i id ver hx
   split at h
   ·rename_i ver' mid mver k seen hg
    split at h
    ·rename_i mver' es hgm
     replace h := qae h
     obtain ⟨h1, h⟩ := h
     simp only [Bool.and_eq_true] at h1
     have hv' := Nat.eq_of_beq_eq_true h1.1
     subst hv'
     have hv' := Nat.eq_of_beq_eq_true h1.2
     subst hv'
     split at h
     ·rename_i v hl
      refine fin_ok hs h fun ρ ro K hK => ?_
      have e1 : (s.ren ρ).ev x = some (.it id (ρ ver)) := by rw [qaC, hx]; rfl
      have e2 : alook k (renE ρ es) = some (v.ren ρ) := by rw [alook_ren, hl]; rfl
      exact AOp.entry hop hN e1 (hget_s ρ hg) (hget_s ρ hgm) e2 hK
     ·cases h
    ·cases h
   ·cases h
  ·cases h
 ·exact sval_ok hT hN hs h
end
end Go.AW

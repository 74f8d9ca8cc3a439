import Derived.Test.YtlddcjolelmpmaaGreatBs2
import Derived.Lib.Bytealg
import Derived.Lib.Slices
import Derived.Lib.Strings
import Derived.Lib.Walk
import Derived.Shelf.Slices.CompactI
import Derived.Shelf.SortM.Plain
import Derived.Shelf.SortM.SortNone
import Derived.Shelf.Strings.Count
import Derived.Test.YtlddcjolelmpmaaGreatChecked
import Derived.Test.YtlddcjolelmpmaaGreatProg
set_option linter.unusedSimpArgs false
set_option linter.unusedVariables false
noncomputable section
namespace Go.AW
open Go
def qoH : Op → Bool
 | .move _ | .assign _ | .fieldAddr .. | .indexAddr .. => true
 | _ => false
section
variable {P : Program} {ro : Option Nat} {N B : Nat} {s : AS} {μ : Mu} {a : Act} {w : World}
theorem qpD (hs : SRel ro N B μ s a w) (o : Oper) {R : HV → Prop} (hp : qoH o.op = true) (h : aval P o.op s R) :
  ∃ v, ∀ w', (execOp a.eval o).run P w' = .ok (.value v) w' := by
 unfold aval at h
 split at h
 ·rename_i x hop
  exact ⟨a.eval x, fun w' => by simp [execOp, hop]⟩
 ·rename_i x hop
  exact ⟨a.eval x, fun w' => by simp [execOp, hop]⟩
 all_goals first
  | (rename_i hop; rw [hop] at hp; cases hp; done)
  | exact h.elim
  | skip
 ·rename_i S x f hop
  split at h
  ·rename_i o' T id ver off hf hx
   obtain ⟨fs, fd, hu, hfd, rfl, hT, h0⟩ := qdT hf
   obtain ⟨hlive, h⟩ := h
   rcases hs.ev hx with ⟨b, hl, he⟩ | ⟨hd, ad, he⟩
   ·exact ⟨.pointer (some ⟨b, off + fd.offset, none⟩), fun w' => by simp [execOp, hop, he, Instr.fieldAt, Instr.sureAddr, hu, hfd, fieldPlace, qa3 hT, h0, Addr.add_lit]⟩
   exact absurd hd (hs.notDead hlive)
  ·rename_i o' T cs off hf hx
   obtain ⟨fs, fd, hu, hfd, rfl, hT, h0⟩ := qdT hf
   obtain ⟨h9, b, base, vs, he, ho, hsg, hl⟩ := hs.ev hx
   exact ⟨.pointer (some ⟨b, base + (off + fd.offset), none⟩), fun w' => by simp [execOp, hop, he, Instr.fieldAt, Instr.sureAddr, hu, hfd, fieldPlace, qa3 hT, h0, Addr.add_lit, Nat.add_assoc]⟩
  exact h.elim
 rename_i t x i hop
 split at h
 ·rename_i e sz by' z k' k n cs ki j hT hk hx hi
  obtain ⟨rfl, h0, h1, h⟩ := h
  obtain ⟨hi', _⟩ := hs.ev hi
  obtain ⟨h9, hcl, _, ⟨hn0, _⟩ | ⟨b, off, cap, vs, he, hcap, ho, hsg, hl⟩⟩ := hs.ev hx
  ·omega
  have hu := qaM hT
  have hz := fun w => qcn hT rfl hk w
  exact ⟨.pointer (some ⟨b, off + j.toNat * k, none⟩), fun w' => by simp [execOp, hop, he, hi', Instr.indexAt, asIntOf, hu, h0, h1, hz, Addr.add_lit]⟩
 ·rename_i e sz by' z k' id ver k off n ki j hT hk hx hi
  obtain ⟨rfl, h0, h1, hlive, h⟩ := h
  obtain ⟨hi', _⟩ := hs.ev hi
  have hu := qaM hT
  have hz := fun w => qcn hT rfl hk w
  rcases hs.ev hx with ⟨l, hl, ⟨_, _, hn, _⟩ | ⟨b, cap, cur, e', rfl, he, hnc, hcm, hrow, hsz⟩⟩ | ⟨hd, ad, m, c, he⟩
  ·omega
  ·exact ⟨.pointer (some ⟨b, off + j.toNat * k, none⟩), fun w' => by simp [execOp, hop, he, hi', Instr.indexAt, asIntOf, hu, h0, h1, hz, Addr.add_lit]⟩
  exact absurd hd (hs.notDead hlive)
 ·rename_i len e sz by' z k' id ver off ki j hT hk hx hi
  obtain ⟨h0, h1, hlive, h⟩ := h
  obtain ⟨hi', _⟩ := hs.ev hi
  have hu := qaM hT
  have hz := fun w => qdK hT rfl hk w
  rcases hs.ev hx with ⟨b, hl, he⟩ | ⟨hd, ad, he⟩
  ·exact ⟨.pointer (some ⟨b, off + j.toNat * k', none⟩), fun w' => by simp [execOp, hop, he, hi', Instr.indexAt, Instr.sureAddr, asIntOf, hu, h0, h1, hz, Addr.add_lit]⟩
  exact absurd hd (hs.notDead hlive)
 ·rename_i len e sz by' z k' cs off ki j hT hk hx hi
  obtain ⟨h0, h1, h⟩ := h
  obtain ⟨hi', _⟩ := hs.ev hi
  have hu := qaM hT
  have hz := fun w => qdK hT rfl hk w
  obtain ⟨h9, b, base, vs, he, ho, hsg, hl⟩ := hs.ev hx
  exact ⟨.pointer (some ⟨b, base + (off + j.toNat * k'), none⟩), fun w' => by simp [execOp, hop, he, hi', Instr.indexAt, Instr.sureAddr, asIntOf, hu, h0, h1, hz, Addr.add_lit, Nat.add_assoc]⟩
 exact h.elim
end
section
variable {P : Program} {N : Nat} {s : AS} {ops : Array Oper} {o : Oper} {K : AS → Prop} {F : List Nat → AS → Prop} {L : List Nat}
def qqv (ops : Array Oper) (L : List Nat) (i : Nat) : Bool := match ops[i]? with
 | some oi => (List.range ops.size).all fun j => j == i || L.contains j || (da ops j).contains i || match ops[j]? with
  | some oj => oi.apart ops oj
  | none => true
 | none => false
def qrC (ops : Array Oper) : Bool := ops.toList.all fun o => match o.op with | .select .. => false | _ => true
theorem qjC (h : qrC ops = true) (j : Nat) (o : Oper) (cs : Array SelectCase) (b : Bool) (ho : ops[j]? = some o) : o.op ≠ .select cs b := by
 intro heq
 have hm : o ∈ ops.toList := List.mem_of_getElem? (i := j) (by rw [Array.getElem?_toList]; exact ho)
 have := List.all_eq_true.1 h o hm
 simp [heq] at this
def qqM (N : Nat) (ops : Array Oper) (L : List Nat) (i : Nat) : Bool := match ops[i]? with
 | some o => o.guard.isNone && okd N o.dst && qoH o.op && qrC ops && !L.contains i && (da ops i).all L.contains && qqv ops L i && daOk ops
 | none => false
theorem qhB {i d : Nat} {v : HV} {sl : List (Nat × HV)} {H : Heap} (hF : F = AnyL P none N ops K) (ho : ops[i]? = some o) (hc : qqM N ops L i = true) (h0 : (o.dst, qhU o.op) = (some d, true)) (hv : aval P o.op ⟨sl, H⟩ (· = v)) (k : F (i :: L) ⟨(d, v) :: sl, H⟩) : F L ⟨sl, H⟩ := by
 subst hF
 intro w0 μ0 fuel listed μ1 a1 w1 hl hcn hlist hs hE
 unfold qqM at hc
 rw [ho] at hc
 simp only [Bool.and_eq_true, Bool.not_eq_true', List.all_eq_true] at hc
 obtain ⟨⟨⟨⟨⟨⟨⟨hg, hN⟩, hp⟩, hsel⟩, hiL⟩, hready⟩, hfree⟩, hda⟩ := hc
 have hda' := qdU hda
 have his : i < ops.size := (Array.getElem?_eq_some_iff.1 ho).1
 have hin : listed.getD i false = false := by rw [hlist i his]; exact hiL
 have hg' : o.guard = none := by
  cases h : o.guard with
  | none => rfl
  | some x => rw [h] at hg; cases hg
 cases fuel with
 | zero =>
  have := qfL (listed := listed) (i := i) (by rw [qbI (by omega)]; exact hin)
  omega
 | succ fuel =>
  obtain ⟨u, hu⟩ := qpD hs o hp hv
  have hop : AOp P none N o (AnyL P none N ops K (i :: L)) ⟨sl, H⟩ := qrK (fid := 0) (mt := []) hN (qaf h0 hv (qah k))
  have hwp := hop w0 μ0 μ1 a1 w1 (fun a w => wpAnyIn (qd7 none) 0 P .any ops (Post none N (fun e s' => e = .normal ∧ K s') w0 μ0) fuel (listed.setIfInBounds i true) a w) (fun _ _ _ => False) hs hE (fun μ2 s2 a2 w2 hk hs2 hE2 => hk w0 μ0 fuel _ μ2 a2 w2 (by simp [hl]) (by
   have := qeI (listed := listed) (i := i) (by rw [qbI (by omega)]; exact hin)
   omega) (fun k hk => by
   by_cases hki : i = k
   ·subst hki
    have : i < listed.size := by omega
    simp [this]
   rw [getD_set_ne false hki, hlist k hk]
   simp only [List.contains_cons]
   have : (k == i) = false := by simpa using fun e => hki e.symm
   rw [this, Bool.false_or]) hs2 hE2)
  have hnext := hwp.2
  rw [qfb, Oper.semAt_none, hu w1] at hnext
  refine wpAnyIn_first (oi := o) (v := u) (qfb none) ho (qjC hsel) (fun c a w hq => absurd rfl (hq.1 c)) fuel listed a1 w1 (fun j oj hj hne hun hno => ?_) ?_ ⟨.inl ⟨?_, hu⟩, fun w => ?_⟩ hnext
  ·unfold qqv at hfree
   rw [ho] at hfree
   have hjs := (Array.getElem?_eq_some_iff.1 hj).1
   have := List.all_eq_true.1 hfree j (List.mem_range.2 hjs)
   simp only [Bool.or_eq_true, beq_iff_eq, hj] at this
   rcases this with ((h | h) | h) | h
   ·exact absurd h hne
   ·have hx := hlist j hjs
    rw [qbI (by omega)] at hun
    rw [hun, h] at hx
    cases hx
   ·exfalso
    have h : i ∈ da ops j := by simpa using h
    simp only [da, hj, List.mem_map, List.mem_filter] at h
    obtain ⟨e, ⟨he, hb⟩, hei⟩ := h
    exact hno e (by simpa using he) hb hei
   exact h
  ·refine mem_ready.2 ⟨by rw [qbI (by omega)]; exact hin, o, ho, fun e he hb => ?_⟩
   have hk : e.on ∈ da ops i := by
    simp only [da, ho, List.mem_map, List.mem_filter]
    exact ⟨e, ⟨by simpa using he, hb⟩, rfl⟩
   rw [hlist _ (Nat.lt_trans (hda' i his _ hk) his)]
   exact hready _ hk
  ·unfold Region.wanted
   rw [hg']
  unfold Oper.about
  cases hh : o.op <;> first | rfl | (rw [hh] at hp; cases hp)
end
section
variable {P : Program} {N B : Nat} {s : AS} {ops : Array Oper} {o : Oper} {K : AS → Prop} {F : List Nat → AS → Prop} {L : List Nat}
def lit : HV → Bool
 | .int _ _ | .bool _ | .str _ => true
 | _ => false
theorem qo7 {w w' : World} {μ μ' : Mu} {h : HV} {v : Value} (hl : lit h = true) (hr : Rep w μ h v) : Rep w' μ' h v := by
 cases h <;> first | exact hr | cases hl
theorem qrG {w w' : World} {μ μ' : Mu} {h : HV} {v v' : Value} (hl : lit h = true) (hr : Rep w μ h v) (hr' : Rep w' μ' h v') : v = v' := by
 cases h <;> first | (cases hl; done) | (exact hr.1.trans hr'.1.symm) | (exact Eq.trans hr (Eq.symm hr'))
def Free (P : Program) (o : Oper) (s : AS) (v : HV) : Prop := aval P o.op s (· = v) ∧ (∀ c, o.op ≠ .call c) ∧
 ∀ (B N : Nat) (μ : Mu) (a : Act) (w : World), SRel none N B μ s a w → ∃ u, ∀ w', (execOp a.eval o).run P w' = .ok (.value u) w'
theorem qsR {op : BinOp} {tx : TypeId} {x y : Operand} {u : TypeId} {h g r : HV} (hop : o.op = .binOp op tx x y u) (hx : s.ev x = some h) (hy : s.ev y = some g) (hb : qbl P op tx h g (· = r)) (hl : (lit h && lit g && lit r) = true) : Free P o s r := by
 simp only [Bool.and_eq_true] at hl
 obtain ⟨⟨l1, l2⟩, l3⟩ := hl
 refine ⟨by rw [hop]; exact qae hx hy hb, (fun c e => by rw [hop] at e; cases e), fun B N μ a w hs => ?_⟩
 obtain ⟨q, hv, _, he, hr⟩ := qgg (P := P) (w := w) (tx := tx) (hs.ev hx) (hs.ev hy) hb
 refine ⟨q, fun w' => ?_⟩
 have hx' := qo7 (w' := w') (μ' := μ) l1 (hs.ev hx)
 have hy' := qo7 (w' := w') (μ' := μ) l2 (hs.ev hy)
 obtain ⟨q', hv', h1, he', hr'⟩ := qgg (P := P) (tx := tx) hx' hy' hb
 subst he
 subst he'
 have := qrG l3 hr hr'
 subst this
 simp [execOp, hop, qjb hx' hy' hb, h1]
theorem qmp {src dst : TypeId} {x : Operand} {S : TyI} {k k' : IntKind} {c d : Nat} {z : Value} {n : Int} (hop : o.op = .convert src dst x) (hS : ty P src = some S) (hd : ty P dst = some ⟨.int k, c, d, z⟩) (hx : s.ev x = some (.int k' n)) : Free P o s (.int k (k.wrap n)) := by
 refine ⟨by rw [hop]; exact qj4 hS hd hx, (fun c e => by rw [hop] at e; cases e), fun B N μ a w hs => ⟨.int k (k.wrap n), fun w' => ?_⟩⟩
 obtain ⟨h1, _⟩ := hs.ev hx
 have hu := qaM hd
 simp [execOp, hop, h1, convert, qaM hS, hu, Conv.intToInt]
def qoh (N : Nat) (ops : Array Oper) (L : List Nat) (i : Nat) : Bool := match ops[i]? with
 | some o => o.guard.isNone && okd N o.dst && qrC ops && !L.contains i && (da ops i).all L.contains && qqv ops L i && daOk ops
 | none => false
theorem qiU {i d : Nat} {v : HV} {sl : List (Nat × HV)} {H : Heap} (hF : F = AnyL P none N ops K) (ho : ops[i]? = some o) (hc : qoh N ops L i = true) (h0 : (o.dst, qhU o.op) = (some d, true)) (hv : Free P o ⟨sl, H⟩ v) (k : F (i :: L) ⟨(d, v) :: sl, H⟩) : F L ⟨sl, H⟩ := by
 subst hF
 obtain ⟨hv, hnc, hfr⟩ := hv
 intro w0 μ0 fuel listed μ1 a1 w1 hl hcn hlist hs hE
 unfold qoh at hc
 rw [ho] at hc
 simp only [Bool.and_eq_true, Bool.not_eq_true', List.all_eq_true] at hc
 obtain ⟨⟨⟨⟨⟨⟨hg, hN⟩, hsel⟩, hiL⟩, hready⟩, hfree⟩, hda⟩ := hc
 have hda' := qdU hda
 have his : i < ops.size := (Array.getElem?_eq_some_iff.1 ho).1
 have hin : listed.getD i false = false := by rw [hlist i his]; exact hiL
 have hg' : o.guard = none := by
  cases h : o.guard with
  | none => rfl
  | some x => rw [h] at hg; cases hg
 cases fuel with
 | zero =>
  have := qfL (listed := listed) (i := i) (by rw [qbI (by omega)]; exact hin)
  omega
 | succ fuel =>
  obtain ⟨u, hu⟩ := hfr _ _ _ _ _ hs
  have hop : AOp P none N o (AnyL P none N ops K (i :: L)) ⟨sl, H⟩ := qrK (fid := 0) (mt := []) hN (qaf h0 hv (qah k))
  have hwp := hop w0 μ0 μ1 a1 w1 (fun a w => wpAnyIn (qd7 none) 0 P .any ops (Post none N (fun e s' => e = .normal ∧ K s') w0 μ0) fuel (listed.setIfInBounds i true) a w) (fun _ _ _ => False) hs hE (fun μ2 s2 a2 w2 hk hs2 hE2 => hk w0 μ0 fuel _ μ2 a2 w2 (by simp [hl]) (by
   have := qeI (listed := listed) (i := i) (by rw [qbI (by omega)]; exact hin)
   omega) (fun k hk => by
   by_cases hki : i = k
   ·subst hki
    have : i < listed.size := by omega
    simp [this]
   rw [getD_set_ne false hki, hlist k hk]
   simp only [List.contains_cons]
   have : (k == i) = false := by simpa using fun e => hki e.symm
   rw [this, Bool.false_or]) hs2 hE2)
  have hnext := hwp.2
  rw [qfb, Oper.semAt_none, hu w1] at hnext
  refine wpAnyIn_first (oi := o) (v := u) (qfb none) ho (qjC hsel) (fun c a w hq => absurd rfl (hq.1 c)) fuel listed a1 w1 (fun j oj hj hne hun hno => ?_) ?_ ⟨.inl ⟨?_, hu⟩, fun w => ?_⟩ hnext
  ·unfold qqv at hfree
   rw [ho] at hfree
   have hjs := (Array.getElem?_eq_some_iff.1 hj).1
   have := List.all_eq_true.1 hfree j (List.mem_range.2 hjs)
   simp only [Bool.or_eq_true, beq_iff_eq, hj] at this
   rcases this with ((h | h) | h) | h
   ·exact absurd h hne
   ·have hx := hlist j hjs
    rw [qbI (by omega)] at hun
    rw [hun, h] at hx
    cases hx
   ·exfalso
    have h : i ∈ da ops j := by simpa using h
    simp only [da, hj, List.mem_map, List.mem_filter] at h
    obtain ⟨e, ⟨he, hb⟩, hei⟩ := h
    exact hno e (by simpa using he) hb hei
   exact h
  ·refine mem_ready.2 ⟨by rw [qbI (by omega)]; exact hin, o, ho, fun e he hb => ?_⟩
   have hk : e.on ∈ da ops i := by
    simp only [da, ho, List.mem_map, List.mem_filter]
    exact ⟨e, ⟨by simpa using he, hb⟩, rfl⟩
   rw [hlist _ (Nat.lt_trans (hda' i his _ hk) his)]
   exact hready _ hk
  ·unfold Region.wanted
   rw [hg']
  unfold Oper.about
  split
  ·rename_i c h; exact absurd h (hnc c)
  rfl
end
theorem qme {S X : Type} {body : S → Option (Stp S X)} {Q : X → Prop} (n : Nat) (I : Nat → S → Prop)
  (step : ∀ i s, i < n → I i s → (∃ s', body s = some (.next s') ∧ I (i + 1) s') ∨ ∃ x, body s = some (.exit x) ∧ Q x) (fin : ∀ s, I n s → ∃ x, body s = some (.exit x) ∧ Q x) :
  ∀ (k : Nat) (s : S), k ≤ n → I k s → ∃ x, loopW body s = some x ∧ Q x := by
 intro k s hk h
 obtain ⟨d, rfl⟩ : ∃ d, n = k + d := ⟨n - k, by omega⟩
 induction d generalizing k s with
 | zero =>
  obtain ⟨x, h1, h2⟩ := fin s h
  exact ⟨x, qeT h1, h2⟩
 | succ d ih =>
  rcases step k s (by omega) h with ⟨s', h1, h2⟩ | ⟨x, h1, h2⟩
  ·have e : k + (d + 1) = (k + 1) + d := by omega
   rw [e] at step fin
   obtain ⟨x, h3, h4⟩ := ih (k + 1) s' h2 step fin (by omega)
   exact ⟨x, by rw [qhc h1]; exact h3, h4⟩
  exact ⟨x, qeT h1, h2⟩
theorem qgz {S X : Type} {body : S → Option (Stp S X)} (st : Nat → S) (n : Nat) (p : Nat → Bool) (xr xf : X) (h : ∀ i, i < n → body (st i) = if p i = true then some (.exit xr) else some (.next (st (i + 1)))) (hf : body (st n) = some (.exit xf)) {s0 : S} (hs0 : s0 = st 0) :
  loopW body s0 = some (if (List.range n).any p = true then xr else xf) := by
 subst hs0
 obtain ⟨x, hx, hq⟩ := qme (body := body) (Q := fun x => x = if (List.range n).any p = true then xr else xf) n (fun i s => s = st i ∧ (List.range i).any p = false) (fun i s hi ⟨hs, ha⟩ => by
  subst hs
  rw [h i hi]
  by_cases hp : p i = true
  ·refine .inr ⟨xr, by rw [if_pos hp], ?_⟩
   rw [if_pos]
   exact List.any_eq_true.2 ⟨i, List.mem_range.2 hi, hp⟩
  refine .inl ⟨_, by rw [if_neg hp], rfl, ?_⟩
  rw [List.range_succ, List.any_append, ha]
  simpa using hp) (fun s ⟨hs, ha⟩ => by subst hs; exact ⟨xf, hf, by rw [if_neg]; rw [ha]; simp⟩) 0 (st 0) (Nat.zero_le _) ⟨rfl, rfl⟩
 rw [hx, hq]
theorem qch {S X : Type} {body : S → Option (Stp S X)} (st : Nat → S) (n : Nat) (x : X) (h : ∀ i, i < n → body (st i) = some (.next (st (i + 1)))) (hf : body (st n) = some (.exit x)) {s0 : S} (hs0 : s0 = st 0) : loopW body s0 = some x := by
 subst hs0
 obtain ⟨y, hy, hq⟩ := qme (body := body) (Q := fun y => y = x) n (fun i s => s = st i) (fun i s hi hs => by subst hs; exact .inl ⟨_, h i hi, rfl⟩) (fun s hs => by subst hs; exact ⟨x, hf, rfl⟩) 0 (st 0) (Nat.zero_le _) rfl
 rw [hy, hq]
theorem qfN {X R : Type} {o : Option X} {x : X} {M : X → Option R} {r : Option R} (h : o = some x) (k : M x = r) : o.bind M = r := by rw [h]; exact k
theorem lpL {V R Y : Type} {o : Option (Ou V R)} {x : Ou V R} {M : V → Option Y} {Rt : R → Option Y} {r : Option Y} (h : o = some x) (k : lpO (some x) M Rt = r) : lpO o M Rt = r := by rw [h]; exact k
theorem nx {i n : Nat} (hn : n ≤ 9223372036854775807) (h : i < n) : IntKind.wrap .i64 ((i : Int) + 1) = ((i + 1 : Nat) : Int) := by
 rw [w64 (by omega) (by omega)]; omega
theorem ix {α : Type} {l : List α} {i : Nat} (h : i < l.length) : idx l (i : Int) = some l[i] := by rw [qfI, List.getElem?_eq_getElem h]
theorem qcd {i n : Nat} (h : i < n) : (i : Int) < (n : Int) := by omega
theorem qaP (n : Nat) : ¬ (n : Int) < (n : Int) := by omega
abbrev qam := Int × Int × Int
abbrev qa4 (x : qam) : List HV := [HV.int .i64 x.1, HV.int .i64 x.2.1, HV.int .i64 x.2.2]
abbrev eFromLabelTo : EncL qam := encF 3 qa4 (fun _ => rfl)
abbrev qaa := Int × Int × (List (qam))
abbrev qaW (l : List Int) : List Int := Lib.compact l
theorem qjO (l : List Int) : (qaW l).length ≤ l.length := by
 show (Lib.compactUpTo l.toArray l.length).length ≤ l.length
 unfold Lib.compactUpTo
 rw [List.length_map]
 exact Nat.le_trans (List.length_filter_le _ _) (by simp)
theorem qi4 {l : List Int} {x : Int} (h : x ∈ qaW l) : x ∈ l := by
 have h : x ∈ Lib.compactUpTo l.toArray l.length := h
 unfold Lib.compactUpTo at h
 obtain ⟨j, hj, rfl⟩ := List.mem_map.1 h
 have hj := List.mem_range.1 (List.mem_filter.1 hj).1
 have : l.toArray[j]! = l[j] := by simp [hj]
 rw [this]
 exact List.getElem_mem hj
def qaT (l : List UInt8) (c : Int) : Option Int := some (Lib.indexByte l c.toNat.toUInt8)
def qel (es : List qam) (s : Int) : List (Int × qam) := (es.zipIdx.filter fun p => decide (p.1.1 = s)).map fun p => ((p.2 : Int), p.1)
theorem qmg (es : List qam) (s : Int) {i : Nat} (h : i < es.length) : qel (es.take (i + 1)) s = qel (es.take i) s ++ if es[i].1 = s then [((i : Int), es[i])] else [] := by
 have e : es.take (i + 1) = es.take i ++ [es[i]] := by rw [List.take_add_one, List.getElem?_eq_getElem h]; rfl
 rw [e]
 simp only [qel, List.zipIdx_append, List.filter_append, List.map_append, List.length_take, Nat.min_eq_left (Nat.le_of_lt h), Nat.zero_add]
 congr 1
 by_cases hs : es[i].1 = s <;> simp [List.zipIdx_cons, hs]
theorem qli (es : List qam) (s : Int) : ∀ (i : Nat), ∃ rest, qel es s = qel (es.take i) s ++ rest := fun i => by
 refine ⟨((es.drop i).zipIdx (es.take i).length |>.filter fun p => decide (p.1.1 = s)).map fun p => ((p.2 : Int), p.1), ?_⟩
 conv => lhs; rw [← List.take_append_drop i es]
 simp only [qel, List.zipIdx_append, List.filter_append, List.map_append, Nat.zero_add]
def qcs (g : qaa) (s : Int) : Option (List (Int × qam)) := if g.2.2.length ≤ 9223372036854775807 then some (qel g.2.2 s) else none
abbrev qaC := (List UInt8) × (List (Int))
abbrev qpz (x : qaC) : List HV := [HV.str x.1, slE eInt x.2]
abbrev eWordEnds : EncL qaC := encF 2 qpz (fun _ => rfl)
def qdQ (p0 : qam) : Option ((List (Int))) :=
 some [p0.1, p0.2.1, p0.2.2]
def qcz (p0 : Int) : Option (Bool) :=
 some (decide (p0 ≠ p0))
def qb9 (p0 : Int) (p1 : Int) : Option (Int) :=
 (qcz p0).bind fun x1 =>
 (qcz p1).bind fun x3 =>
 if x1 = true then
  if x3 = true then
   some 0
  else
   some (-1)
 else
  if x3 = true then
   some 1
  else
   if p0 < p1 then
    some (-1)
   else
    if p1 < p0 then
     some 1
    else
     some 0
def qbj (p0 : List (Int)) (p1 : List (Int)) : Option (Int) :=
 lpO (loopW (S := Int) (X := Ou (Unit) (Int)) (fun a1 =>
   if a1 < ((p0).length : Int) then
    (idx p0 a1).bind fun x5 =>
    if ((p1).length : Int) ≤ a1 then
     some (Stp.exit (Ou.ret 1))
    else
     (idx p1 a1).bind fun x7 =>
     (qb9 x5 x7).bind fun x9 =>
     if x9 ≠ 0 then
      some (Stp.exit (Ou.ret x9))
     else
      some (Stp.next (IntKind.wrap .i64 (a1 + 1)))
   else
    some (Stp.exit (Ou.go ()))) 0) (fun a11 =>
   if ((p0).length : Int) < ((p1).length : Int) then
    some (-1)
   else
    some 0) some
def qbn (p0 : qam) (p1 : qam) : Option (Int) :=
 (qdQ p0).bind fun x1 =>
 (qdQ p1).bind fun x3 =>
 (qbj x1 x3).bind fun x5 =>
 some x5
def qbv (p0 : qaa) : Option (Int) :=
 jp (fun (a1 : Bool) =>
  if a1 = true then
   some 12
  else
   if p0.2.1 < 0 then
    some 2
   else
    jp (fun (a4 : Bool) =>
     if a4 = true then
      some 4
     else
      lpO (loopW (S := Int) (X := Ou (Unit) (Int)) (fun a7 =>
        if a7 < ((p0.2.2).length : Int) then
         (idx p0.2.2 a7).bind fun x11 =>
         jp (fun (a14 : Bool) =>
          if a14 = true then
           some (Stp.exit (Ou.ret 2))
          else
           jp (fun (a17 : Bool) =>
            if a17 = true then
             some (Stp.exit (Ou.ret 10))
            else
             some (Stp.next (IntKind.wrap .i64 (a7 + 1))))
            fun k19 =>
            if 0 < a7 then
             (idx p0.2.2 (IntKind.wrap .i64 (a7 - 1))).bind fun x20 =>
             (qbn x20 x11).bind fun x22 =>
             k19 (decide (0 ≤ x22))
            else
             k19 false)
          fun k16 =>
          if (min (min x11.1 x11.2.1) x11.2.2) < 0 then
           k16 true
          else
           if p0.2.1 ≤ (max x11.1 x11.2.2) then
            k16 true
           else
            k16 (decide (p0.1 ≤ x11.2.1))
        else
         some (Stp.exit (Ou.go ()))) 0) (fun a27 =>
        some 0) some)
     fun k6 =>
     if 64 < p0.2.1 then
      k6 true
     else
      k6 (decide (1024 < ((p0.2.2).length : Int))))
  fun k3 =>
  if p0.1 < 1 then
   k3 true
  else
   k3 (decide (256 < p0.1))
def qck (p0 : qaa) (p1 : List (Int)) : Option (Int) :=
 lpO (loopW (S := Int) (X := Ou (Unit) (Int)) (fun a1 =>
   if a1 < ((p1).length : Int) then
    (idx p1 a1).bind fun x5 =>
    jp (fun (a7 : Bool) =>
     if a7 = true then
      some (Stp.exit (Ou.ret 25))
     else
      jp (fun (a10 : Bool) =>
       if a10 = true then
        some (Stp.exit (Ou.ret 10))
       else
        some (Stp.next (IntKind.wrap .i64 (a1 + 1))))
       fun k12 =>
       if 0 < a1 then
        (idx p1 (IntKind.wrap .i64 (a1 - 1))).bind fun x13 =>
        k12 (decide (x5 ≤ x13))
       else
        k12 false)
     fun k9 =>
     if x5 < 0 then
      k9 true
     else
      k9 (decide (p0.2.1 ≤ x5))
   else
    some (Stp.exit (Ou.go ()))) 0) (fun a17 =>
   some 0) some
def qdR (p0 : qaa) (p1 : List (Int)) (p2 : Int) : Option ((List (Int)) × Int) :=
 (qbv p0).bind fun x1 =>
 if x1 ≠ 0 then
  some ([], 1)
 else
  (qck p0 p1).bind fun x3 =>
  if x3 ≠ 0 then
   some ([], x3)
  else
   jp (fun (a5 : Bool) =>
    if a5 = true then
     some ([], 2)
    else
     (loopW (S := Int × (List Int)) (X := (List Int)) (fun a9 =>
       if a9.1 < ((p1).length : Int) then
        (idx p1 a9.1).bind fun x13 =>
        (qcs p0 x13).bind fun L15 =>
        lpO (forL (S := (List Int)) (X := Unit) (fun a17 (x19 : Int × qam) =>
          if x19.2.2.1 = p2 then
           if fits 8 ((a17 : List Int).length + ([x19.2.2.2]).length) then
            some (Stp.next (a17 ++ [x19.2.2.2]))
           else none
          else
           some (Stp.next a17)) L15 a9.2) (fun a26 =>
          some (Stp.next (IntKind.wrap .i64 (a9.1 + 1), a26))) fun a28 =>
          none
       else
        some (Stp.exit a9.2)) (0, ([] : List Int))).bind fun a31 =>
     if (a31).length < 4611686018427387904 then
      some (qaW (sortI a31), 0)
     else none)
    fun k7 =>
    if p2 < 0 then
     k7 true
    else
     k7 (decide (p0.1 ≤ p2))
def qcx (p0 : qam) (p1 : qam) : Option (Int) :=
 lpO (loopW (S := Int) (X := Ou (Unit) (Int)) (fun a1 =>
   if a1 < 3 then
    (idx [p0.1, p0.2.1, p0.2.2] a1).bind fun x5 =>
    (idx [p1.1, p1.2.1, p1.2.2] a1).bind fun x7 =>
    if x5 < x7 then
     some (Stp.exit (Ou.ret (-1)))
    else
     (idx [p0.1, p0.2.1, p0.2.2] a1).bind fun x9 =>
     (idx [p1.1, p1.2.1, p1.2.2] a1).bind fun x11 =>
     if x11 < x9 then
      some (Stp.exit (Ou.ret 1))
     else
      some (Stp.next (IntKind.wrap .i64 (a1 + 1)))
   else
    some (Stp.exit (Ou.go ()))) 0) (fun a13 =>
   some 0) some
def qaS (p0 : qaa) : Option (Int) :=
 jp (fun (a1 : Bool) =>
  if a1 = true then
   some 12
  else
   if p0.2.1 < 0 then
    some 2
   else
    jp (fun (a4 : Bool) =>
     if a4 = true then
      some 4
     else
      lpO (loopW (S := Int) (X := Ou (Unit) (Int)) (fun a7 =>
        if a7 < ((p0.2.2).length : Int) then
         (idx p0.2.2 a7).bind fun x11 =>
         jp (fun (a14 : Bool) =>
          if a14 = true then
           some (Stp.exit (Ou.ret 2))
          else
           jp (fun (a17 : Bool) =>
            if a17 = true then
             some (Stp.exit (Ou.ret 10))
            else
             some (Stp.next (IntKind.wrap .i64 (a7 + 1))))
            fun k19 =>
            if 0 < a7 then
             (idx p0.2.2 (IntKind.wrap .i64 (a7 - 1))).bind fun x20 =>
             (qcx x20 x11).bind fun x22 =>
             k19 (decide (0 ≤ x22))
            else
             k19 false)
          fun k16 =>
          if x11.1 < 0 then
           k16 true
          else
           if p0.2.1 ≤ x11.1 then
            k16 true
           else
            if x11.2.2 < 0 then
             k16 true
            else
             if p0.2.1 ≤ x11.2.2 then
              k16 true
             else
              if x11.2.1 < 0 then
               k16 true
              else
               k16 (decide (p0.1 ≤ x11.2.1))
        else
         some (Stp.exit (Ou.go ()))) 0) (fun a30 =>
        some 0) some)
     fun k6 =>
     if 64 < p0.2.1 then
      k6 true
     else
      k6 (decide (1024 < ((p0.2.2).length : Int))))
  fun k3 =>
  if p0.1 < 1 then
   k3 true
  else
   k3 (decide (256 < p0.1))
def qbQ (p0 : qaa) : Option (Int) :=
 (qaS p0).bind fun x1 =>
 if x1 ≠ 0 then
  some 1
 else
  if 16 < p0.1 then
   some 12
  else
   some 0
def qa2 (p0 : qaa) (p1 : Int) : Option (Int) :=
 (qbQ p0).bind fun x1 =>
 if x1 ≠ 0 then
  some x1
 else
  jp (fun (a3 : Bool) =>
   if a3 = true then
    some 2
   else
    some 0)
   fun k5 =>
   if p1 < 0 then
    k5 true
   else
    k5 (decide (4096 < p1))
def qdy (p0 : List (Int)) (p1 : Int) : Option (Bool) :=
 lpO (loopW (S := Int) (X := Ou (Unit) (Bool)) (fun a1 =>
   if a1 < ((p0).length : Int) then
    (idx p0 a1).bind fun x5 =>
    if x5 = p1 then
     some (Stp.exit (Ou.ret true))
    else
     some (Stp.next (IntKind.wrap .i64 (a1 + 1)))
   else
    some (Stp.exit (Ou.go ()))) 0) (fun a7 =>
   some false) some
def qc4 (p0 : qaa) (p1 : List (Int)) (p2 : Int) : Option ((List (Int))) :=
 (loopW (S := Int × (List Int)) (X := (List Int)) (fun a2 =>
   if a2.1 < p0.2.1 then
    jp (fun (a6 : (List Int)) =>
     some (Stp.next (IntKind.wrap .i64 (a2.1 + 1), a6)))
     fun k8 =>
     (loopW (S := Bool × Int) (X := Bool) (fun a9 =>
       if a9.2 < ((p0.2.2).length : Int) then
        jp (fun (a13 : Bool) =>
         some (Stp.next (a13, IntKind.wrap .i64 (a9.2 + 1))))
         fun k15 =>
         jp (fun (a16 : Bool) =>
          if a16 = true then
           k15 true
          else
           k15 a9.1)
          fun k18 =>
          (idx p0.2.2 a9.2).bind fun x19 =>
          if x19.2.2 = a2.1 then
           (idx p0.2.2 a9.2).bind fun x21 =>
           if x21.2.1 = p2 then
            (idx p0.2.2 a9.2).bind fun x23 =>
            (qdy p1 x23.1).bind fun x25 =>
            k18 x25
           else
            k18 false
          else
           k18 false
       else
        some (Stp.exit a9.1)) (false, 0)).bind fun a29 =>
     if a29 = true then
      if fits 8 ((a2.2 : List Int).length + ([a2.1]).length) then
       k8 (a2.2 ++ [a2.1])
      else none
     else
      k8 a2.2
   else
    some (Stp.exit a2.2)) (0, [])).bind fun a33 =>
 some a33
def qbP (p0 : qaa) (p1 : List (qaC)) : Option ((List (qaC))) :=
 (loopW (S := Int × (List qaC)) (X := (List qaC)) (fun a2 =>
   if a2.1 < ((p1).length : Int) then
    (loopW (S := Int × (List qaC)) (X := (List qaC)) (fun a6 =>
      if a6.1 < p0.1 then
       jp (fun (a10 : (List qaC)) =>
        some (Stp.next (IntKind.wrap .i64 (a6.1 + 1), a10)))
        fun k12 =>
        (idx p1 a2.1).bind fun x13 =>
        (qc4 p0 x13.2 a6.1).bind fun x15 =>
        if 0 < ((x15).length : Int) then
         (idx p1 a2.1).bind fun x17 =>
         if 0 ≤ (a6.1 : Int) ∧ (a6.1 : Int) ≤ IntKind.wrap .i64 (a6.1 + 1) ∧ IntKind.wrap .i64 (a6.1 + 1) ≤ (([48, 49, 50, 51, 52, 53, 54, 55, 56, 57, 97, 98, 99, 100, 101, 102] : List UInt8).length : Int) then
          if x17.1.length + ((([48, 49, 50, 51, 52, 53, 54, 55, 56, 57, 97, 98, 99, 100, 101, 102] : List UInt8).take (IntKind.wrap .i64 (a6.1 + 1)).toNat).drop (a6.1).toNat).length ≤ maxLen then
           if fits 40 ((a6.2 : List qaC).length + ([(x17.1 ++ ((([48, 49, 50, 51, 52, 53, 54, 55, 56, 57, 97, 98, 99, 100, 101, 102] : List UInt8).take (IntKind.wrap .i64 (a6.1 + 1)).toNat).drop (a6.1).toNat), x15)]).length) then
            k12 (a6.2 ++ [(x17.1 ++ ((([48, 49, 50, 51, 52, 53, 54, 55, 56, 57, 97, 98, 99, 100, 101, 102] : List UInt8).take (IntKind.wrap .i64 (a6.1 + 1)).toNat).drop (a6.1).toNat), x15)])
           else none
          else none
         else none
        else
         k12 a6.2
      else
       some (Stp.exit a6.2)) (0, a2.2)).bind fun a23 =>
    some (Stp.next (IntKind.wrap .i64 (a2.1 + 1), a23))
   else
    some (Stp.exit a2.2)) (0, [])).bind fun a25 =>
 some a25
def qdj (p0 : qaa) (p1 : List (Int)) (p2 : Int) : Option ((List (qaC)) × Int) :=
 jp (fun (a2 : (List qaC)) =>
  lpO (loopW (S := (List qaC) × Int) (X := Ou ((List qaC)) ((List (qaC)) × Int)) (fun a5 =>
    jp (fun (a9 : Bool) =>
     if a9 = true then
      (qbP p0 a5.1).bind fun x12 =>
      if 4096 < ((x12).length : Int) then
       some (Stp.exit (Ou.ret ([], 4)))
      else
       some (Stp.next (x12, IntKind.wrap .i64 (a5.2 + 1)))
     else
      some (Stp.exit (Ou.go a5.1)))
     fun k11 =>
     if a5.2 < p2 then
      k11 (decide (0 < ((a5.1).length : Int)))
     else
      k11 false) (a2, 0)) (fun a15 =>
    some (a15, 0)) some)
  fun k4 =>
  if 0 < ((p1).length : Int) then
   if fits 40 (([] : List qaC).length + ([(([] : List UInt8), p1)]).length) then
    k4 (([] : List qaC) ++ [(([] : List UInt8), p1)])
   else none
  else
   k4 []
def qdz (p0 : qaa) : Option ((List (Int))) :=
 (loopW (S := Int × (List Int)) (X := (List Int)) (fun a2 =>
   if a2.1 < p0.2.1 then
    if fits 8 ((a2.2 : List Int).length + ([a2.1]).length) then
     some (Stp.next (IntKind.wrap .i64 (a2.1 + 1), a2.2 ++ [a2.1]))
    else none
   else
    some (Stp.exit a2.2)) (0, [])).bind fun a8 =>
 some a8
def qdk (p0 : List (qaC)) : Option ((List (List UInt8))) :=
 (loopW (S := Int × (List (List UInt8))) (X := (List (List UInt8))) (fun a2 =>
   if a2.1 < ((p0).length : Int) then
    (idx p0 a2.1).bind fun x6 =>
    if fits 16 ((a2.2 : List (List UInt8)).length + ([x6.1]).length) then
     some (Stp.next (IntKind.wrap .i64 (a2.1 + 1), a2.2 ++ [x6.1]))
    else none
   else
    some (Stp.exit a2.2)) (0, [])).bind fun a10 =>
 some a10
def qcG (p0 : qaa) (p1 : Int) : Option ((List (List UInt8)) × Int) :=
 (qa2 p0 p1).bind fun x1 =>
 if x1 ≠ 0 then
  some ([], x1)
 else
  (qdz p0).bind fun x3 =>
  (qdj p0 x3 p1).bind fun x5 =>
  if x5.2 ≠ 0 then
   some ([], x5.2)
  else
   (qdk x5.1).bind fun x7 =>
   some (x7, 0)
def qbb (p0 : qaa) (p1 : List (Int)) (p2 : Int) : Option ((List (Int))) :=
 (qaT [48, 49, 50, 51, 52, 53, 54, 55, 56, 57, 97, 98, 99, 100, 101, 102] p2).bind fun x1 =>
 (qdR p0 p1 x1).bind fun x3 =>
 some x3.1
def qbA (p0 : qaa) : Option ((List (Int))) :=
 if 0 ≤ (p0.2.1 : Int) ∧ (p0.2.1 : Int) ≤ p0.2.1 ∧ (p0.2.1 : Int) * 8 ≤ 281474976710656 then
  (loopW (S := Int × (List Int)) (X := (List Int)) (fun a3 =>
    if a3.1 < (((List.replicate (p0.2.1).toNat (0 : Int)).length : Nat) : Int) then
     (idx a3.2 a3.1).bind fun x7 =>
     some (Stp.next (IntKind.wrap .i64 (a3.1 + 1), (a3.2).set (a3.1).toNat a3.1))
    else
     some (Stp.exit a3.2)) (0, List.replicate (p0.2.1).toNat (0 : Int))).bind fun a9 =>
  some a9
 else none
def qa1 (p0 : qaa) : Option (Int) :=
 (qbv p0).bind fun x1 =>
 if x1 ≠ 0 then
  some 1
 else
  if 16 < p0.1 then
   some 12
  else
   some 0
def qbS (p0 : qaa) (p1 : Int) : Option (Int) :=
 (qa1 p0).bind fun x1 =>
 if x1 ≠ 0 then
  some x1
 else
  jp (fun (a3 : Bool) =>
   if a3 = true then
    some 2
   else
    some 0)
   fun k5 =>
   if p1 < 0 then
    k5 true
   else
    k5 (decide (4096 < p1))
def qcc (p0 : Int) : Option (Bool) :=
 jp (fun (a1 : Bool) =>
  some a1)
  fun k3 =>
  if 1 ≤ p0 then
   k3 (decide (p0 ≤ 16))
  else
   k3 false
def qcu (p0 : Int) (p1 : List UInt8) : Option (Int) :=
 (qcc p0).bind fun x1 =>
 if (!x1) = true then
  some 12
 else
  if 65536 < ((p1).length : Int) then
   some 4
  else
   lpO (loopW (S := Int) (X := Ou (Unit) (Int)) (fun a3 =>
     if a3 < ((p1).length : Int) then
      if 0 ≤ (0 : Int) ∧ (0 : Int) ≤ p0 ∧ p0 ≤ (([48, 49, 50, 51, 52, 53, 54, 55, 56, 57, 97, 98, 99, 100, 101, 102] : List UInt8).length : Int) then
       (idx p1 a3).bind fun x8 =>
       (qaT ((([48, 49, 50, 51, 52, 53, 54, 55, 56, 57, 97, 98, 99, 100, 101, 102] : List UInt8).take (p0).toNat).drop (0 : Int).toNat) (x8.toNat : Int)).bind fun x10 =>
       if x10 < 0 then
        some (Stp.exit (Ou.ret 13))
       else
        some (Stp.next (IntKind.wrap .i64 (a3 + 1)))
      else none
     else
      some (Stp.exit (Ou.go ()))) 0) (fun a12 =>
     some 0) some
def qbg (p0 : qaa) (p1 : List UInt8) : Option (Int) :=
 (qa1 p0).bind fun x1 =>
 if x1 ≠ 0 then
  some x1
 else
  (qcu p0.1 p1).bind fun x3 =>
  some x3
abbrev qgi := Bool × (List UInt8)
def qcm (p0 : List (Int)) : Option ((List (Int))) :=
 (loopW (S := (List Int)) (X := (List Int)) (fun a1 =>
   jp (fun (a5 : Bool) =>
    if a5 = true then
     if 0 ≤ (0 : Int) ∧ (0 : Int) ≤ IntKind.wrap .i64 (((a1).length : Int) - 1) ∧ IntKind.wrap .i64 (((a1).length : Int) - 1) ≤ (a1.length : Int) then
      some (Stp.next ((a1.take (IntKind.wrap .i64 (((a1).length : Int) - 1)).toNat).drop (0 : Int).toNat))
     else none
    else
     some (Stp.exit a1))
    fun k7 =>
    if 0 < ((a1).length : Int) then
     (idx a1 (IntKind.wrap .i64 (((a1).length : Int) - 1))).bind fun x9 =>
     k7 (decide (x9 = 0))
    else
     k7 false) p0).bind fun a12 =>
 some a12
def qcZ (p0 : Bool) (p1 : List (Int)) : Option (qgi) :=
 (qcm p1).bind fun x2 =>
 if ((x2).length : Int) = 0 then
  some (false, ([] : List UInt8))
 else
  if 0 ≤ (0 : Int) ∧ (0 : Int) ≤ IntKind.wrap .i64 (4 * ((x2).length : Int)) ∧ (IntKind.wrap .i64 (4 * ((x2).length : Int)) : Int) * 1 ≤ 281474976710656 then
   (loopW (S := Int × (List Int)) (X := (List Int)) (fun a6 =>
     if 0 ≤ a6.1 then
      (loopW (S := Int × (List Int)) (X := (List Int)) (fun a10 =>
        if 0 ≤ a10.1 then
         jp (fun (a14 : (List Int)) =>
          some (Stp.next (IntKind.wrap .i64 (a10.1 - 1), a14)))
          fun k16 =>
          (idx x2 a6.1).bind fun x17 =>
          if 0 ≤ (IntKind.wrap .i64 (8 * a10.1)) then
           jp (fun (a20 : Bool) =>
            if a20 = true then
             if fits 1 ((a10.2 : List Int).length + ([IntKind.wrap .u8 (Int.fdiv x17 (2 ^ (min ((IntKind.wrap .i64 (8 * a10.1))).toNat (IntKind.bits .u32))))]).length) then
              k16 (a10.2 ++ [IntKind.wrap .u8 (Int.fdiv x17 (2 ^ (min ((IntKind.wrap .i64 (8 * a10.1))).toNat (IntKind.bits .u32))))])
             else none
            else
             k16 a10.2)
            fun k22 =>
            if (IntKind.wrap .u8 (Int.fdiv x17 (2 ^ (min ((IntKind.wrap .i64 (8 * a10.1))).toNat (IntKind.bits .u32))))) ≠ 0 then
             k22 true
            else
             k22 (decide (0 < (((a10.2).length : Nat) : Int)))
          else none
        else
         some (Stp.exit a10.2)) (3, a6.2)).bind fun a26 =>
      some (Stp.next (IntKind.wrap .i64 (a6.1 - 1), a26))
     else
      some (Stp.exit a6.2)) (IntKind.wrap .i64 (((x2).length : Int) - 1), List.replicate (0 : Int).toNat (0 : Int))).bind fun a28 =>
   some (p0, a28.map fun n => UInt8.ofNat n.toNat)
  else none
def m_law31_awake : Option Bool := some true
def qfF (s sub : List UInt8) : Option Int := match sub with
 | [c] => some ((Lib.countByte s c : Nat) : Int)
 | _ => none
abbrev qgh := qgi × qgi
abbrev qhj (x : qgh) : List HV := [HV.bool x.1.1, HV.str x.1.2, HV.bool x.2.1, HV.str x.2.2]
abbrev hI (n : Int) : HV := .int .i64 n
abbrev nS : List UInt8 := []
abbrev jF (j : List (List UInt8) × List (List UInt8)) : HV := .fptr [slE eStr j.1, slE eStr j.2] 0
abbrev jA (j : List (List UInt8) × List (List UInt8)) : HV := .agg [slE eStr j.1, slE eStr j.2]
abbrev gF (g : qaa) : HV := .fptr [.int .i64 g.1, .int .i64 g.2.1, slE eFromLabelTo g.2.2] 0
abbrev gA (g : qaa) : HV := .agg [.int .i64 g.1, .int .i64 g.2.1, slE eFromLabelTo g.2.2]
abbrev zND : List HV := [.bool false, .str [], .bool false, .str []]
theorem to_L {s s' : AS} {G : AS → Prop} (h : G s') (h1 : gets s.slots s'.slots = qnB s'.slots := by exact rfl) (h2 : qnR s.heap s'.heap = qjJ s'.heap := by exact rfl) : s.to G := qa9 (le_q h1 h2) h
theorem bf {P : Program} {ro : Option Nat} {N : Nat} {all : Array Oper} {s : AS} {c : Code} {Q : Exit → AS → Prop} {K : AS → Prop} (hK : ∀ s', AW P ro N c Q s' → K s') (s' : AS) (h : AW P ro N c Q s') (h1 : gets s.slots s'.slots = qnB s'.slots := by exact rfl) (h2 : qnR s.heap s'.heap = qjJ s'.heap := by exact rfl) : bops P ro N all [] K s := qnY hK (le_q h1 h2) h
theorem lg {P : Program} {ro : Option Nat} {N : Nat} {ops : Array Oper} {s s' : AS} {K : AS → Prop} {F : List Nat → AS → Prop} {L L' : List Nat} (hF : F = AnyL P ro N ops K) (h : F L' s') (hsame : (List.range ops.size).all (fun i => L.contains i == L'.contains i) = true := by exact rfl) (h1 : gets s.slots s'.slots = qnB s'.slots := by exact rfl) (h2 : qnR s.heap s'.heap = qjJ s'.heap := by exact rfl) : F L s := l_go hF hsame h (le_q h1 h2)
theorem cT {p : Prop} [Decidable p] {R : Type} {a b : Option R} {r : R} (hc : decide p = true) (h : (if p then a else b) = some r) : p ∧ a = some r := ⟨of_decide_eq_true hc, ifT (of_decide_eq_true hc) h⟩
theorem cF {p : Prop} [Decidable p] {R : Type} {a b : Option R} {r : R} (hc : decide p = false) (h : (if p then a else b) = some r) : ¬ p ∧ b = some r := ⟨of_decide_eq_false hc, ifF (of_decide_eq_false hc) h⟩
theorem lb {n m : Nat} (h : Nat.ble n m = true) : n ≤ m := Nat.le_of_ble_eq_true h
theorem l_ov {P : Program} {ro : Option Nat} {N i d : Nat} {ops : Array Oper} {o : Oper} {G : AS → Prop} {v : HV} {sl : List (Nat × HV)} {H : Heap} (ho : ops[i]? = some o) (hg : o.guard = none) (hN : okd N o.dst = true) (h0 : (o.dst, qhU o.op) = (some d, true)) (hv : aval P o.op ⟨sl, H⟩ (· = v)) (k : G ⟨(d, v) :: sl, H⟩) : AOpI P ro N ops i G ⟨sl, H⟩ := l_op (fid := 0) (mt := []) ho hg hN (qaf h0 hv (qah k))
theorem oi {α : Type} {a b : α} (h : some a = some b) : a = b := Option.some.inj h
abbrev ASf := List (Nat × HV) → Heap → AS
open Go.Proofs
theorem ty2 : ty Tryz.prog 2 = some { desc := TypeDesc.int IntKind.i64, size := 1, bytes := 8, zero := Value.int IntKind.i64 (0) } := by kernel_rfl
theorem ty3 : ty Tryz.prog 3 = some { desc := TypeDesc.int IntKind.i64, size := 1, bytes := 8, zero := Value.int IntKind.i64 (0) } := by kernel_rfl
theorem ty4 : ty Tryz.prog 4 = some { desc := TypeDesc.bool, size := 1, bytes := 1, zero := Value.bool false } := by kernel_rfl
theorem ty5 : ty Tryz.prog 5 = some { desc := TypeDesc.int IntKind.u8, size := 1, bytes := 1, zero := Value.int IntKind.u8 (0) } := by kernel_rfl
theorem ty6 : ty Tryz.prog 6 = some { desc := TypeDesc.int IntKind.u8, size := 1, bytes := 1, zero := Value.int IntKind.u8 (0) } := by kernel_rfl
theorem ty9 : ty Tryz.prog 9 = some { desc := TypeDesc.string, size := 1, bytes := 16, zero := Value.string { data := #[] } } := by kernel_rfl
theorem ty10 : ty Tryz.prog 10 = some { desc := TypeDesc.string, size := 1, bytes := 16, zero := Value.string { data := #[] } } := by kernel_rfl
theorem ty11 : ty Tryz.prog 11 = some { desc := TypeDesc.string, size := 1, bytes := 16, zero := Value.string { data := #[] } } := by kernel_rfl
theorem ty12 : ty Tryz.prog 12 = some { desc := TypeDesc.int IntKind.u64, size := 1, bytes := 8, zero := Value.int IntKind.u64 (0) } := by kernel_rfl
theorem ty15 : ty Tryz.prog 15 = some { desc := TypeDesc.pointer 246, size := 1, bytes := 8, zero := Value.pointer none } := by kernel_rfl
theorem ty16 : ty Tryz.prog 16 = some { desc := TypeDesc.pointer 249, size := 1, bytes := 8, zero := Value.pointer none } := by kernel_rfl
theorem ty17 : ty Tryz.prog 17 = some { desc := TypeDesc.pointer 256, size := 1, bytes := 8, zero := Value.pointer none } := by kernel_rfl
theorem ty21 : ty Tryz.prog 21 = some { desc := TypeDesc.int IntKind.i32, size := 1, bytes := 4, zero := Value.int IntKind.i32 (0) } := by kernel_rfl
theorem ty22 : ty Tryz.prog 22 = some { desc := TypeDesc.slice 9, size := 1, bytes := 24, zero := Value.slice none 0 0 } := by kernel_rfl
theorem ty23 : ty Tryz.prog 23 = some { desc := TypeDesc.struct { toList := [{ name := "Words", type := 22, offset := 0, embedded := false, tag := "", pkgPath := "", byteOffset := 0 }, { name := "Merges", type := 22, offset := 1, embedded := false, tag := "", pkgPath := "", byteOffset := 24 }] }, size := 2, bytes := 48, zero := Value.agg #[Value.slice none 0 0, Value.slice none 0 0] } := by kernel_rfl
theorem ty24 : ty Tryz.prog 24 = some { desc := TypeDesc.struct { toList := [{ name := "Words", type := 22, offset := 0, embedded := false, tag := "", pkgPath := "", byteOffset := 0 }, { name := "Merges", type := 22, offset := 1, embedded := false, tag := "", pkgPath := "", byteOffset := 24 }] }, size := 2, bytes := 48, zero := Value.agg #[Value.slice none 0 0, Value.slice none 0 0] } := by kernel_rfl
theorem ty25 : ty Tryz.prog 25 = some { desc := TypeDesc.slice 128, size := 1, bytes := 24, zero := Value.slice none 0 0 } := by kernel_rfl
theorem ty26 : ty Tryz.prog 26 = some { desc := TypeDesc.struct { toList := [{ name := "Labels", type := 3, offset := 0, embedded := false, tag := "", pkgPath := "", byteOffset := 0 }, { name := "States", type := 3, offset := 1, embedded := false, tag := "", pkgPath := "", byteOffset := 8 }, { name := "Edges", type := 25, offset := 2, embedded := false, tag := "", pkgPath := "", byteOffset := 16 }] }, size := 3, bytes := 40, zero := Value.agg #[Value.int IntKind.i64 (0), Value.int IntKind.i64 (0), Value.slice none 0 0] } := by kernel_rfl
theorem ty27 : ty Tryz.prog 27 = some { desc := TypeDesc.struct { toList := [{ name := "Labels", type := 3, offset := 0, embedded := false, tag := "", pkgPath := "", byteOffset := 0 }, { name := "States", type := 3, offset := 1, embedded := false, tag := "", pkgPath := "", byteOffset := 8 }, { name := "Edges", type := 25, offset := 2, embedded := false, tag := "", pkgPath := "", byteOffset := 16 }] }, size := 3, bytes := 40, zero := Value.agg #[Value.int IntKind.i64 (0), Value.int IntKind.i64 (0), Value.slice none 0 0] } := by kernel_rfl
theorem ty28 : ty Tryz.prog 28 = some { desc := TypeDesc.slice 5, size := 1, bytes := 24, zero := Value.slice none 0 0 } := by kernel_rfl
theorem ty31 : ty Tryz.prog 31 = some { desc := TypeDesc.slice 3, size := 1, bytes := 24, zero := Value.slice none 0 0 } := by kernel_rfl
theorem ty33 : ty Tryz.prog 33 = some { desc := TypeDesc.int IntKind.i64, size := 1, bytes := 8, zero := Value.int IntKind.i64 (0) } := by kernel_rfl
theorem ty41 : ty Tryz.prog 41 = some { desc := TypeDesc.struct { toList := [{ name := "Neg", type := 4, offset := 0, embedded := false, tag := "", pkgPath := "", byteOffset := 0 }, { name := "Mag", type := 9, offset := 1, embedded := false, tag := "", pkgPath := "", byteOffset := 8 }] }, size := 2, bytes := 24, zero := Value.agg #[Value.bool false, Value.string { data := #[] }] } := by kernel_rfl
theorem ty42 : ty Tryz.prog 42 = some { desc := TypeDesc.struct { toList := [{ name := "Neg", type := 4, offset := 0, embedded := false, tag := "", pkgPath := "", byteOffset := 0 }, { name := "Mag", type := 9, offset := 1, embedded := false, tag := "", pkgPath := "", byteOffset := 8 }] }, size := 2, bytes := 24, zero := Value.agg #[Value.bool false, Value.string { data := #[] }] } := by kernel_rfl
theorem ty43 : ty Tryz.prog 43 = some { desc := TypeDesc.struct { toList := [{ name := "Num", type := 42, offset := 0, embedded := false, tag := "", pkgPath := "", byteOffset := 0 }, { name := "Den", type := 42, offset := 2, embedded := false, tag := "", pkgPath := "", byteOffset := 24 }] }, size := 4, bytes := 48, zero := Value.agg { toList := [Value.bool false, Value.string { data := #[] }, Value.bool false, Value.string { data := #[] }] } } := by kernel_rfl
theorem ty44 : ty Tryz.prog 44 = some { desc := TypeDesc.struct { toList := [{ name := "Num", type := 42, offset := 0, embedded := false, tag := "", pkgPath := "", byteOffset := 0 }, { name := "Den", type := 42, offset := 2, embedded := false, tag := "", pkgPath := "", byteOffset := 24 }] }, size := 4, bytes := 48, zero := Value.agg { toList := [Value.bool false, Value.string { data := #[] }, Value.bool false, Value.string { data := #[] }] } } := by kernel_rfl
theorem ty55 : ty Tryz.prog 55 = some { desc := TypeDesc.func #[31] #[4] false, size := 1, bytes := 8, zero := Value.nilFunc } := by kernel_rfl
theorem ty78 : ty Tryz.prog 78 = some { desc := TypeDesc.pointer 80, size := 1, bytes := 8, zero := Value.pointer none } := by kernel_rfl
theorem ty79 : ty Tryz.prog 79 = some { desc := TypeDesc.struct { toList := [{ name := "addr", type := 78, offset := 0, embedded := false, tag := "", pkgPath := "strings", byteOffset := 0 }, { name := "buf", type := 28, offset := 1, embedded := false, tag := "", pkgPath := "strings", byteOffset := 8 }] }, size := 2, bytes := 32, zero := Value.agg #[Value.pointer none, Value.slice none 0 0] } := by kernel_rfl
theorem ty80 : ty Tryz.prog 80 = some { desc := TypeDesc.struct { toList := [{ name := "addr", type := 78, offset := 0, embedded := false, tag := "", pkgPath := "strings", byteOffset := 0 }, { name := "buf", type := 28, offset := 1, embedded := false, tag := "", pkgPath := "strings", byteOffset := 8 }] }, size := 2, bytes := 32, zero := Value.agg #[Value.pointer none, Value.slice none 0 0] } := by kernel_rfl
theorem ty97 : ty Tryz.prog 97 = some { desc := TypeDesc.int IntKind.u64, size := 1, bytes := 8, zero := Value.int IntKind.u64 (0) } := by kernel_rfl
theorem qnA : ty Tryz.prog 103 = some { desc := TypeDesc.int IntKind.u64, size := 1, bytes := 8, zero := Value.int IntKind.u64 (0) } := by kernel_rfl
theorem qhP : ty Tryz.prog 105 = some { desc := TypeDesc.int IntKind.u32, size := 1, bytes := 4, zero := Value.int IntKind.u32 (0) } := by kernel_rfl
theorem qtq : ty Tryz.prog 106 = some { desc := TypeDesc.slice 105, size := 1, bytes := 24, zero := Value.slice none 0 0 } := by kernel_rfl
theorem qf9 : ty Tryz.prog 107 = some { desc := TypeDesc.slice 105, size := 1, bytes := 24, zero := Value.slice none 0 0 } := by kernel_rfl
theorem qtp : ty Tryz.prog 127 = some { desc := TypeDesc.struct { toList := [{ name := "From", type := 3, offset := 0, embedded := false, tag := "", pkgPath := "", byteOffset := 0 }, { name := "Label", type := 3, offset := 1, embedded := false, tag := "", pkgPath := "", byteOffset := 8 }, { name := "To", type := 3, offset := 2, embedded := false, tag := "", pkgPath := "", byteOffset := 16 }] }, size := 3, bytes := 24, zero := Value.agg { toList := [Value.int IntKind.i64 (0), Value.int IntKind.i64 (0), Value.int IntKind.i64 (0)] } } := by kernel_rfl
theorem qcN : ty Tryz.prog 128 = some { desc := TypeDesc.struct { toList := [{ name := "From", type := 3, offset := 0, embedded := false, tag := "", pkgPath := "", byteOffset := 0 }, { name := "Label", type := 3, offset := 1, embedded := false, tag := "", pkgPath := "", byteOffset := 8 }, { name := "To", type := 3, offset := 2, embedded := false, tag := "", pkgPath := "", byteOffset := 16 }] }, size := 3, bytes := 24, zero := Value.agg { toList := [Value.int IntKind.i64 (0), Value.int IntKind.i64 (0), Value.int IntKind.i64 (0)] } } := by kernel_rfl
theorem qto : ty Tryz.prog 134 = some { desc := TypeDesc.pointer 5, size := 1, bytes := 8, zero := Value.pointer none } := by kernel_rfl
theorem qrh : ty Tryz.prog 149 = some { desc := TypeDesc.func #[128] #[31] false, size := 1, bytes := 8, zero := Value.nilFunc } := by kernel_rfl
theorem qcK : ty Tryz.prog 151 = some { desc := TypeDesc.slice 31, size := 1, bytes := 24, zero := Value.slice none 0 0 } := by kernel_rfl
theorem qtn : ty Tryz.prog 155 = some { desc := TypeDesc.map 9 31, size := 1, bytes := 8, zero := Value.map none } := by kernel_rfl
theorem qfX : ty Tryz.prog 161 = some { desc := TypeDesc.slice 192, size := 1, bytes := 24, zero := Value.slice none 0 0 } := by kernel_rfl
theorem qtm : ty Tryz.prog 174 = some { desc := TypeDesc.map 9 4, size := 1, bytes := 8, zero := Value.map none } := by kernel_rfl
theorem qtl : ty Tryz.prog 180 = some { desc := TypeDesc.array 8 5, size := 8, bytes := 8, zero := Value.agg { toList := [Value.int IntKind.u8 (0), Value.int IntKind.u8 (0), Value.int IntKind.u8 (0), Value.int IntKind.u8 (0), Value.int IntKind.u8 (0), Value.int IntKind.u8 (0), Value.int IntKind.u8 (0), Value.int IntKind.u8 (0)] } } := by kernel_rfl
theorem qob : ty Tryz.prog 186 = some { desc := TypeDesc.func #[3] #[] false, size := 1, bytes := 8, zero := Value.nilFunc } := by kernel_rfl
theorem qhO : ty Tryz.prog 188 = some { desc := TypeDesc.slice 189, size := 1, bytes := 24, zero := Value.slice none 0 0 } := by kernel_rfl
theorem qdM : ty Tryz.prog 189 = some { desc := TypeDesc.slice 4, size := 1, bytes := 24, zero := Value.slice none 0 0 } := by kernel_rfl
theorem qtk : ty Tryz.prog 191 = some { desc := TypeDesc.struct { toList := [{ name := "Word", type := 9, offset := 0, embedded := false, tag := "", pkgPath := "", byteOffset := 0 }, { name := "Ends", type := 31, offset := 1, embedded := false, tag := "", pkgPath := "", byteOffset := 16 }] }, size := 2, bytes := 40, zero := Value.agg #[Value.string { data := #[] }, Value.slice none 0 0] } := by kernel_rfl
theorem qj6 : ty Tryz.prog 192 = some { desc := TypeDesc.struct { toList := [{ name := "Word", type := 9, offset := 0, embedded := false, tag := "", pkgPath := "", byteOffset := 0 }, { name := "Ends", type := 31, offset := 1, embedded := false, tag := "", pkgPath := "", byteOffset := 16 }] }, size := 2, bytes := 40, zero := Value.agg #[Value.string { data := #[] }, Value.slice none 0 0] } := by kernel_rfl
theorem qtj : ty Tryz.prog 217 = some { desc := TypeDesc.int IntKind.i64, size := 1, bytes := 8, zero := Value.int IntKind.i64 (0) } := by kernel_rfl
theorem qti : ty Tryz.prog 224 = some { desc := TypeDesc.array 8 9, size := 8, bytes := 128, zero := Value.agg { toList := [Value.string { data := #[] }, Value.string { data := #[] }, Value.string { data := #[] }, Value.string { data := #[] }, Value.string { data := #[] }, Value.string { data := #[] }, Value.string { data := #[] }, Value.string { data := #[] }] } } := by kernel_rfl
theorem qth : ty Tryz.prog 232 = some { desc := TypeDesc.int IntKind.u64, size := 1, bytes := 8, zero := Value.int IntKind.u64 (0) } := by kernel_rfl
theorem qtg : ty Tryz.prog 236 = some { desc := TypeDesc.pointer 3, size := 1, bytes := 8, zero := Value.pointer none } := by kernel_rfl
theorem qtf : ty Tryz.prog 241 = some { desc := TypeDesc.pointer 232, size := 1, bytes := 8, zero := Value.pointer none } := by kernel_rfl
theorem qte : ty Tryz.prog 247 = some { desc := TypeDesc.array 0 16, size := 0, bytes := 0, zero := Value.agg #[] } := by kernel_rfl
theorem qtd : ty Tryz.prog 250 = some { desc := TypeDesc.int IntKind.u8, size := 1, bytes := 1, zero := Value.int IntKind.u8 (0) } := by kernel_rfl
theorem qtc : ty Tryz.prog 251 = some { desc := TypeDesc.int IntKind.u8, size := 1, bytes := 1, zero := Value.int IntKind.u8 (0) } := by kernel_rfl
theorem qtb : ty Tryz.prog 253 = some { desc := TypeDesc.int IntKind.i32, size := 1, bytes := 4, zero := Value.int IntKind.i32 (0) } := by kernel_rfl
theorem qta : ty Tryz.prog 254 = some { desc := TypeDesc.int IntKind.i32, size := 1, bytes := 4, zero := Value.int IntKind.i32 (0) } := by kernel_rfl
attribute [go_sem] ty2 ty3 ty4 ty5 ty6 ty9 ty10 ty11 ty12 ty15 ty16 ty17 ty21 ty22 ty23 ty24 ty25 ty26 ty27 ty28 ty31 ty33 ty41 ty42 ty43 ty44 ty55 ty78 ty79 ty80 ty97 qnA qhP qtq qf9 qtp qcN qto qrh qcK qtn qfX qtm qtl qob qhO qdM qtk qj6 qtj qti qth qtg qtf qte qtd qtc qtb qta
theorem follows : Tryz.prog.follows .mixedOrders = true := by kernel_rfl
theorem qdS : qbt Tryz.prog 24 0 = some (0, { desc := TypeDesc.slice 9, size := 1, bytes := 24, zero := Value.slice none 0 0 }) := by kernel_rfl
theorem qhD : qbt Tryz.prog 24 1 = some (1, { desc := TypeDesc.slice 9, size := 1, bytes := 24, zero := Value.slice none 0 0 }) := by kernel_rfl
theorem qez : qbt Tryz.prog 27 0 = some (0, { desc := TypeDesc.int IntKind.i64, size := 1, bytes := 8, zero := Value.int IntKind.i64 (0) }) := by kernel_rfl
theorem qcp : qbt Tryz.prog 27 1 = some (1, { desc := TypeDesc.int IntKind.i64, size := 1, bytes := 8, zero := Value.int IntKind.i64 (0) }) := by kernel_rfl
theorem qbi : qbt Tryz.prog 27 2 = some (2, { desc := TypeDesc.slice 128, size := 1, bytes := 24, zero := Value.slice none 0 0 }) := by kernel_rfl
theorem qq4 : qbt Tryz.prog 80 1 = some (1, { desc := TypeDesc.slice 5, size := 1, bytes := 24, zero := Value.slice none 0 0 }) := by kernel_rfl
theorem qcC : qbt Tryz.prog 128 0 = some (0, { desc := TypeDesc.int IntKind.i64, size := 1, bytes := 8, zero := Value.int IntKind.i64 (0) }) := by kernel_rfl
theorem qdC : qbt Tryz.prog 128 1 = some (1, { desc := TypeDesc.int IntKind.i64, size := 1, bytes := 8, zero := Value.int IntKind.i64 (0) }) := by kernel_rfl
theorem qdZ : qbt Tryz.prog 128 2 = some (2, { desc := TypeDesc.int IntKind.i64, size := 1, bytes := 8, zero := Value.int IntKind.i64 (0) }) := by kernel_rfl
theorem qpn : qbt Tryz.prog 192 0 = some (0, { desc := TypeDesc.string, size := 1, bytes := 16, zero := Value.string { data := #[] } }) := by kernel_rfl
theorem qrW : qbt Tryz.prog 192 1 = some (1, { desc := TypeDesc.slice 3, size := 1, bytes := 24, zero := Value.slice none 0 0 }) := by kernel_rfl
theorem es22 : qbk Tryz.prog 22 = some 1 := by kernel_rfl
theorem es25 : qbk Tryz.prog 25 = some 3 := by kernel_rfl
theorem es31 : qbk Tryz.prog 31 = some 1 := by kernel_rfl
theorem qpu : qbk Tryz.prog 107 = some 1 := by kernel_rfl
theorem qnS : qbk Tryz.prog 151 = some 1 := by kernel_rfl
theorem qrX : qbk Tryz.prog 161 = some 2 := by kernel_rfl
theorem qqx : qbk Tryz.prog 188 = some 1 := by kernel_rfl
theorem qkJ : qbk Tryz.prog 189 = some 1 := by kernel_rfl
theorem hk44 (x0 : Bool) (x1 : List UInt8) (x2 : Bool) (x3 : List UInt8) : hkey Tryz.prog 5 44 [HV.bool x0, HV.str x1, HV.bool x2, HV.str x3] = some [Lit.bool x0, Lit.string x1, Lit.bool x2, Lit.string x3] := by kernel_rfl
theorem hc44 : Tryz.prog.eqGuardType Tryz.prog.depth 44 = false ∧ Tryz.prog.keyTypeAt 5 44 = true ∧ qiw Tryz.prog 44 = true := ⟨by kernel_rfl, by kernel_rfl, by kernel_rfl⟩
theorem hq44 (x y : (Bool × List UInt8) × (Bool × List UInt8)) : x = y ↔ [Lit.bool x.1.1, Lit.string x.1.2, Lit.bool x.2.1, Lit.string x.2.2] = [Lit.bool y.1.1, Lit.string y.1.2, Lit.bool y.2.1, Lit.string y.2.2] := by simp [Prod.ext_iff, and_assoc]
def strs (l : List (List UInt8)) : HV := .sl 1 l.length (l.map .str)
def ints (l : List Int) : HV := .sl 1 l.length (l.map (.int .i64))
def num (n : Int) : HV := .int .i64 n
theorem qnV (l : List (List UInt8)) : clean (strs l) := qnW fun _ _ => trivial
theorem qgM {i n : Nat} (h : n ≤ 9223372036854775807) (hi : i < n) : IntKind.wrap .i64 ((i : Int) + 1) = ((i + 1 : Nat) : Int) := by
 rw [w64 (by omega) (by omega)]; omega
theorem qq6 {i n : Nat} (h : decide ((i : Int) < (n : Int)) = false) (hi : i ≤ n) : i = n := by
 have : ¬ i < n := by simpa using h
 omega
theorem Pure.use {P : Program} {f : FuncId} {args : List HV} {H : Heap} {K : HV → Heap → Prop} {R : HV → Prop} (hp : Pure P f args R) (hK : ∀ r, R r → K r H) : ACall P f args H K := ACall.pure0 hp hK
end Go.AW

namespace Go.Proofs
open Go
def zaD : Go.Shelf.Ren := ⟨fun | 6 => 185 | 8 => 65 | 9 => 214 | 19 => 116 | 20 => 117 | 21 => 235 | 22 => 236 | 23 => 237 | 24 => 238 | 25 => 239 | 26 => 240 | 27 => 104 | 28 => 241 | 29 => 242 | 36 => 252 | 31 => 245 | 32 => 246 | 37 => 253 | 38 => 254 | 39 => 155 | 41 => 256 | n => n, fun | 27 => 22 | 29 => 9 | 3 => 3 | 32 => 97 | 26 => 22 | 0 => 0 | 44 => 105 | 46 => 103 | 4 => 4 | 36 => 218 | 35 => 217 | 41 => 133 | 5 => 5 | 9 => 9 | 53 => 232 | 57 => 236 | 63 => 241 | 64 => 242 | n => n, fun | n => n⟩
theorem Tryz.sortS : Go.Proofs.SlLaysM.n6 Tryz.prog zaD where
 mixed := by kernel_rfl
 f6 := ⟨"slices.Sort[[]string,string]", by decide, Tryz.func185.trans (congrArg some (by kernel_rfl))⟩
 f8 := Tryz.func65.trans (congrArg some (by kernel_rfl))
 f9 := ⟨"slices.pdqsortOrdered[string]", by decide, Tryz.func214.trans (congrArg some (by kernel_rfl))⟩
 f19 := Tryz.func116.trans (congrArg some (by kernel_rfl))
 f20 := Tryz.func117.trans (congrArg some (by kernel_rfl))
 f21 := ⟨"slices.insertionSortOrdered[string]", by decide, Tryz.func235.trans (congrArg some (by kernel_rfl))⟩
 f22 := ⟨"slices.heapSortOrdered[string]", by decide, Tryz.func236.trans (congrArg some (by kernel_rfl))⟩
 f23 := ⟨"slices.breakPatternsOrdered[string]", by decide, Tryz.func237.trans (congrArg some (by kernel_rfl))⟩
 f24 := ⟨"slices.choosePivotOrdered[string]", by decide, Tryz.func238.trans (congrArg some (by kernel_rfl))⟩
 f25 := ⟨"slices.reverseRangeOrdered[string]", by decide, Tryz.func239.trans (congrArg some (by kernel_rfl))⟩
 f26 := ⟨"slices.partialInsertionSortOrdered[string]", by decide, Tryz.func240.trans (congrArg some (by kernel_rfl))⟩
 f27 := ⟨"cmp.Less[string]", by decide, Tryz.func104.trans (congrArg some (by kernel_rfl))⟩
 f28 := ⟨"slices.partitionEqualOrdered[string]", by decide, Tryz.func241.trans (congrArg some (by kernel_rfl))⟩
 f29 := ⟨"slices.partitionOrdered[string]", by decide, Tryz.func242.trans (congrArg some (by kernel_rfl))⟩
 f31 := Tryz.func245.trans (congrArg some (by kernel_rfl))
 f32 := Tryz.func246.trans (congrArg some (by kernel_rfl))
 f36 := ⟨"slices.siftDownOrdered[string]", by decide, Tryz.func252.trans (congrArg some (by kernel_rfl))⟩
 f37 := ⟨"slices.medianAdjacentOrdered[string]", by decide, Tryz.func253.trans (congrArg some (by kernel_rfl))⟩
 f38 := ⟨"slices.medianOrdered[string]", by decide, Tryz.func254.trans (congrArg some (by kernel_rfl))⟩
 f39 := ⟨"cmp.isNaN[string]", by decide, Tryz.func155.trans (congrArg some (by kernel_rfl))⟩
 f41 := ⟨"slices.order2Ordered[string]", by decide, Tryz.func256.trans (congrArg some (by kernel_rfl))⟩
 t0 := Tryz.underlying0
 a0 := Tryz.isAgg0
 z0 := Tryz.sizeOf0
 v0 := Tryz.zeroValue0
 t3 := Tryz.underlying3
 a3 := Tryz.isAgg3
 z3 := Tryz.sizeOf3
 v3 := Tryz.zeroValue3
 t4 := Tryz.underlying4
 a4 := Tryz.isAgg4
 z4 := Tryz.sizeOf4
 v4 := Tryz.zeroValue4
 t5 := Tryz.underlying5
 a5 := Tryz.isAgg5
 z5 := Tryz.sizeOf5
 v5 := Tryz.zeroValue5
 t9 := Tryz.underlying9
 a9 := Tryz.isAgg9
 z9 := Tryz.sizeOf9
 v9 := Tryz.zeroValue9
 t26 := Tryz.underlying22
 a26 := Tryz.isAgg22
 z26 := Tryz.sizeOf22
 v26 := Tryz.zeroValue22
 t27 := Tryz.underlying22
 a27 := Tryz.isAgg22
 z27 := Tryz.sizeOf22
 v27 := Tryz.zeroValue22
 t29 := Tryz.underlying9
 a29 := Tryz.isAgg9
 z29 := Tryz.sizeOf9
 v29 := Tryz.zeroValue9
 t32 := Tryz.underlying97
 a32 := Tryz.isAgg97
 z32 := Tryz.sizeOf97
 v32 := Tryz.zeroValue97
 t35 := Tryz.underlying217
 a35 := Tryz.isAgg217
 z35 := Tryz.sizeOf217
 v35 := Tryz.zeroValue217
 t36 := Tryz.underlying218
 a36 := Tryz.isAgg218
 z36 := Tryz.sizeOf218
 v36 := Tryz.zeroValue218
 t41 := Tryz.underlying133
 a41 := Tryz.isAgg133
 z41 := Tryz.sizeOf133
 v41 := Tryz.zeroValue133
 t44 := Tryz.underlying105
 a44 := Tryz.isAgg105
 z44 := Tryz.sizeOf105
 v44 := Tryz.zeroValue105
 t46 := Tryz.underlying103
 a46 := Tryz.isAgg103
 z46 := Tryz.sizeOf103
 v46 := Tryz.zeroValue103
 t53 := Tryz.underlying232
 a53 := Tryz.isAgg232
 z53 := Tryz.sizeOf232
 v53 := Tryz.zeroValue232
 t57 := Tryz.underlying236
 a57 := Tryz.isAgg236
 z57 := Tryz.sizeOf236
 v57 := Tryz.zeroValue236
 t63 := Tryz.underlying241
 a63 := Tryz.isAgg241
 z63 := Tryz.sizeOf241
 v63 := Tryz.zeroValue241
 t64 := Tryz.underlying242
 a64 := Tryz.isAgg242
 z64 := Tryz.sizeOf242
 v64 := Tryz.zeroValue242
def zaE : Go.Shelf.Ren := ⟨fun | 5 => 160 | 8 => 65 | 7 => 195 | 19 => 116 | 20 => 117 | 10 => 218 | 11 => 219 | 12 => 220 | 13 => 221 | 14 => 222 | 15 => 223 | 16 => 76 | 17 => 224 | 18 => 225 | 30 => 244 | 31 => 245 | 32 => 246 | 33 => 247 | 34 => 248 | 35 => 125 | 40 => 255 | n => n, fun | 23 => 31 | 25 => 3 | 3 => 3 | 32 => 97 | 22 => 31 | 0 => 0 | 44 => 105 | 46 => 103 | 4 => 4 | 36 => 218 | 35 => 217 | 41 => 133 | 5 => 5 | 9 => 9 | 53 => 232 | 57 => 236 | 63 => 241 | 64 => 242 | n => n, fun | n => n⟩
theorem Tryz.sortI : Go.Proofs.SlLaysM.n5 Tryz.prog zaE where
 mixed := by kernel_rfl
 f5 := ⟨"slices.Sort[[]int,int]", by decide, Tryz.func160.trans (congrArg some (by kernel_rfl))⟩
 f7 := ⟨"slices.pdqsortOrdered[int]", by decide, Tryz.func195.trans (congrArg some (by kernel_rfl))⟩
 f8 := Tryz.func65.trans (congrArg some (by kernel_rfl))
 f10 := ⟨"slices.insertionSortOrdered[int]", by decide, Tryz.func218.trans (congrArg some (by kernel_rfl))⟩
 f11 := ⟨"slices.heapSortOrdered[int]", by decide, Tryz.func219.trans (congrArg some (by kernel_rfl))⟩
 f12 := ⟨"slices.breakPatternsOrdered[int]", by decide, Tryz.func220.trans (congrArg some (by kernel_rfl))⟩
 f13 := ⟨"slices.choosePivotOrdered[int]", by decide, Tryz.func221.trans (congrArg some (by kernel_rfl))⟩
 f14 := ⟨"slices.reverseRangeOrdered[int]", by decide, Tryz.func222.trans (congrArg some (by kernel_rfl))⟩
 f15 := ⟨"slices.partialInsertionSortOrdered[int]", by decide, Tryz.func223.trans (congrArg some (by kernel_rfl))⟩
 f16 := ⟨"cmp.Less[int]", by decide, Tryz.func76.trans (congrArg some (by kernel_rfl))⟩
 f17 := ⟨"slices.partitionEqualOrdered[int]", by decide, Tryz.func224.trans (congrArg some (by kernel_rfl))⟩
 f18 := ⟨"slices.partitionOrdered[int]", by decide, Tryz.func225.trans (congrArg some (by kernel_rfl))⟩
 f19 := Tryz.func116.trans (congrArg some (by kernel_rfl))
 f20 := Tryz.func117.trans (congrArg some (by kernel_rfl))
 f30 := ⟨"slices.siftDownOrdered[int]", by decide, Tryz.func244.trans (congrArg some (by kernel_rfl))⟩
 f31 := Tryz.func245.trans (congrArg some (by kernel_rfl))
 f32 := Tryz.func246.trans (congrArg some (by kernel_rfl))
 f33 := ⟨"slices.medianAdjacentOrdered[int]", by decide, Tryz.func247.trans (congrArg some (by kernel_rfl))⟩
 f34 := ⟨"slices.medianOrdered[int]", by decide, Tryz.func248.trans (congrArg some (by kernel_rfl))⟩
 f35 := ⟨"cmp.isNaN[int]", by decide, Tryz.func125.trans (congrArg some (by kernel_rfl))⟩
 f40 := ⟨"slices.order2Ordered[int]", by decide, Tryz.func255.trans (congrArg some (by kernel_rfl))⟩
 t0 := Tryz.underlying0
 a0 := Tryz.isAgg0
 z0 := Tryz.sizeOf0
 v0 := Tryz.zeroValue0
 t3 := Tryz.underlying3
 a3 := Tryz.isAgg3
 z3 := Tryz.sizeOf3
 v3 := Tryz.zeroValue3
 t4 := Tryz.underlying4
 a4 := Tryz.isAgg4
 z4 := Tryz.sizeOf4
 v4 := Tryz.zeroValue4
 t5 := Tryz.underlying5
 a5 := Tryz.isAgg5
 z5 := Tryz.sizeOf5
 v5 := Tryz.zeroValue5
 t9 := Tryz.underlying9
 a9 := Tryz.isAgg9
 z9 := Tryz.sizeOf9
 v9 := Tryz.zeroValue9
 t22 := Tryz.underlying31
 a22 := Tryz.isAgg31
 z22 := Tryz.sizeOf31
 v22 := Tryz.zeroValue31
 t23 := Tryz.underlying31
 a23 := Tryz.isAgg31
 z23 := Tryz.sizeOf31
 v23 := Tryz.zeroValue31
 t25 := Tryz.underlying3
 a25 := Tryz.isAgg3
 z25 := Tryz.sizeOf3
 v25 := Tryz.zeroValue3
 t32 := Tryz.underlying97
 a32 := Tryz.isAgg97
 z32 := Tryz.sizeOf97
 v32 := Tryz.zeroValue97
 t35 := Tryz.underlying217
 a35 := Tryz.isAgg217
 z35 := Tryz.sizeOf217
 v35 := Tryz.zeroValue217
 t36 := Tryz.underlying218
 a36 := Tryz.isAgg218
 z36 := Tryz.sizeOf218
 v36 := Tryz.zeroValue218
 t41 := Tryz.underlying133
 a41 := Tryz.isAgg133
 z41 := Tryz.sizeOf133
 v41 := Tryz.zeroValue133
 t44 := Tryz.underlying105
 a44 := Tryz.isAgg105
 z44 := Tryz.sizeOf105
 v44 := Tryz.zeroValue105
 t46 := Tryz.underlying103
 a46 := Tryz.isAgg103
 z46 := Tryz.sizeOf103
 v46 := Tryz.zeroValue103
 t53 := Tryz.underlying232
 a53 := Tryz.isAgg232
 z53 := Tryz.sizeOf232
 v53 := Tryz.zeroValue232
 t57 := Tryz.underlying236
 a57 := Tryz.isAgg236
 z57 := Tryz.sizeOf236
 v57 := Tryz.zeroValue236
 t63 := Tryz.underlying241
 a63 := Tryz.isAgg241
 z63 := Tryz.sizeOf241
 v63 := Tryz.zeroValue241
 t64 := Tryz.underlying242
 a64 := Tryz.isAgg242
 z64 := Tryz.sizeOf242
 v64 := Tryz.zeroValue242
end Go.Proofs
namespace Go.AW
open Go
section
open Go Go.Proofs Go.Sort
theorem qh1 {α : Type} {w : World} {μ : Mu} {f : α → HV} {g : α → Value} : ∀ {l : List α}, RepL w μ (l.map f) (l.map g) ↔ ∀ x ∈ l, Rep w μ (f x) (g x)
 | [] => by simp [RepL]
 | a :: l => by
  simp only [List.map_cons, RepL, List.mem_cons, forall_eq_or_imp]
  constructor
  ·rintro ⟨x, xs, e, h1, h2⟩
   cases e
   exact ⟨h1, qh1.1 h2⟩
  exact fun ⟨h1, h2⟩ => ⟨_, _, rfl, h1, qh1.2 h2⟩
theorem qhx {α : Type} [Inhabited α] {enc : α → Value} {f : α → HV} (hf1 : ∀ x, (f x).one = true) {w : World} {μ : Mu} {H : Heap} {id ver b k : Nat} {e : TypeId} {l d : List α} (hs : SR w μ H) (hg : hget H id = some (ver, .arr k e (l.map f)))
  (hl : μ.loc id = some (ver, some b)) (hrep : ∀ x ∈ l, Rep w μ (f x) (enc x)) (hor : OR w μ (.arr k e (l.map f)) (some b)) (hv : ∀ vs, RepL w μ (l.map f) vs → vs = l.map enc) (hp : d.Perm l) (n : Nat) (os : Array Obj) :
  SR (grow (putRow enc (Sort.ahead w n) b 0 d.toArray) os) μ (hset H id ver (.arr k e (d.map f))) ∧ Evo w μ (grow (putRow enc (Sort.ahead w n) b 0 d.toArray) os) μ := by
 obtain ⟨h0, cur, vs, rest, hrow, hcl, hrl⟩ := hor
 have hvs := hv vs hrl
 subst hvs
 have hlen : d.length = l.length := hp.length_eq
 have hcsz : cur.size = l.length + rest.length := by rw [← Array.length_toList, hcl]; simp
 -- the world with the row put
 have hb := hrow.lt
 obtain ⟨lo, hi, hbk, hfr⟩ := hrow
 have hbk' : (putRow enc (Sort.ahead w n) b 0 d.toArray).heap[b]? = some (.cells (putCells enc 0 d.toArray cur) e (lo, hi)) := by
  show (w.heap.modify b _)[b]? = _
  rw [Array.getElem?_modify, if_pos rfl, hbk]
  rfl
 have hcur' : (putCells enc 0 d.toArray cur).toList = d.map enc ++ rest := by
  apply List.ext_getElem?
  intro i
  rw [Array.getElem?_toList]
  simp only [putCells, Array.getElem?_mapIdx]
  have hc : cur[i]? = (l.map enc ++ rest)[i]? := by rw [← hcl, Array.getElem?_toList]
  rw [hc]
  rcases Nat.lt_or_ge i d.length with hi | hi
  ·rw [List.getElem?_append_left (by simp; omega), List.getElem?_append_left (by simpa using hi), List.getElem?_map, List.getElem?_map, List.getElem?_eq_getElem (by omega : i < l.length), List.getElem?_eq_getElem hi]
   simp only [Option.map_some]
   rw [if_pos ⟨Nat.zero_le _, by simpa using hi⟩]
   simp [hi]
  rw [List.getElem?_append_right (by simp; omega), List.getElem?_append_right (by simpa using hi)]
  simp only [List.length_map, hlen]
  cases rest[i - l.length]? with
  | none => rfl
  | some x =>
   simp only [Option.map_some]
   rw [if_neg (by simp; omega)]
 have hsz1 : (putRow enc (Sort.ahead w n) b 0 d.toArray).heap.size = w.heap.size := by rw [size_putRow]; rfl
 have hrow1 : Row (putRow enc (Sort.ahead w n) b 0 d.toArray) b (putCells enc 0 d.toArray cur) e := ⟨lo, hi, hbk', by simpa [putCells] using hfr⟩
 have hold : ∀ b', b' ≠ b → (putRow enc (Sort.ahead w n) b 0 d.toArray).heap[b']? = w.heap[b']? := fun b' hne => by
  show (w.heap.modify b _)[b']? = _
  rw [Array.getElem?_modify, if_neg (fun e => hne e.symm)]
 obtain ⟨h1, h2⟩ := hs.updArr (cs' := d.map f) (w' := putRow enc (Sort.ahead w n) b 0 d.toArray) hg hl ⟨rfl, rfl, rfl⟩ hsz1 hold ⟨lo, hi, hbk, hfr⟩ hrow1 (by simp [putCells]) fun E => by
  refine ⟨fun c hc => ?_, _, d.map enc, rest, hrow1, hcur', qh1.2 fun x hx => Rep.evo E hs.ok _ _ (hrep x (hp.mem_iff.1 hx))⟩
  obtain ⟨x, _, rfl⟩ := List.mem_map.1 hc
  exact hf1 x
 have g : Grow (putRow enc (Sort.ahead w n) b 0 d.toArray) (grow (putRow enc (Sort.ahead w n) b 0 d.toArray) os) :=
  ⟨⟨rfl, rfl, rfl⟩, by rw [size_grow]; omega, fun b' hb' => by
   show (_ ++ os)[b']? = _
   rw [Array.getElem?_append_left hb']⟩
 exact ⟨h1.grow g, h2.trans (Evo.grow h1 g)⟩
theorem qiX {α : Type} [Inhabited α] {enc : α → Value} {w : World} {b : Nat} {cur : Array Value} {e : TypeId} {l : List α} {rest : List Value} (hrow : Row w b cur e) (hcl : cur.toList = l.map enc ++ rest) : Holds enc w b 0 l.toArray := by
 intro j hj
 have hj' : j < l.length := by simpa using hj
 have hc : cur[j]? = some (enc l[j]) := by
  rw [← Array.getElem?_toList, hcl, List.getElem?_append_left (by simpa using hj'), List.getElem?_map, List.getElem?_eq_getElem hj']
  rfl
 refine ⟨?_, ?_⟩
 ·rw [Nat.zero_add, hrow.cell, hc]
  simp [hj']
 rw [Nat.zero_add]
 exact hrow.free (Array.getElem?_eq_some_iff.1 hc).1
theorem qiG {w : World} {μ : Mu} : ∀ {l : List (List UInt8)} {vs : List Value}, RepL w μ (l.map .str) vs → vs = l.map encStr ∧ ∀ x ∈ l, Rep w μ (.str x) (encStr x)
 | [], vs, h => by simp only [List.map_nil, RepL] at h; subst h; exact ⟨rfl, by simp⟩
 | a :: l, vs, ⟨x, xs, e, h1, h2⟩ => by
  obtain ⟨h3, h4⟩ := qiG h2
  obtain ⟨rfl, hl⟩ := h1
  subst e
  rw [h3]
  exact ⟨rfl, by simpa using ⟨⟨rfl, hl⟩, h4⟩⟩
theorem qfz {w : World} {μ : Mu} : ∀ {l : List Int} {vs : List Value}, RepL w μ (l.map (.int .i64)) vs → vs = l.map (Value.int .i64) ∧ ∀ x ∈ l, Rep w μ (.int .i64 x) (Value.int .i64 x)
 | [], vs, h => by simp only [List.map_nil, RepL] at h; subst h; exact ⟨rfl, by simp⟩
 | a :: l, vs, ⟨x, xs, e, h1, h2⟩ => by
  obtain ⟨h3, h4⟩ := qfz h2
  obtain ⟨rfl, hl⟩ := h1
  subst e
  rw [h3]
  exact ⟨rfl, by simpa using ⟨⟨rfl, hl⟩, h4⟩⟩
theorem w45 {H : Heap} {id ver : Nat} {e : TypeId} {l : List (List UInt8)} {K : HV → Heap → Prop} (hg : hget H id = some (ver, .arr 1 e (l.map .str))) (hlen : l.length < 4611686018427387904)
  (hK : K (.tup []) (hset H id ver (.arr 1 e ((sortS l).map .str)))) : ACall Tryz.prog 185 [.ar id ver 1 0 l.length] H K := by
 refine ⟨qdo Tryz.func185 rfl rfl, fun μ w vs hs hr _ => ?_⟩
 obtain ⟨x, xs, rfl, hr, hn⟩ := hr
 cases hn
 obtain ⟨lo, hl, hor⟩ := hs.has _ _ _ hg
 rcases hr with ⟨lo', hl', h⟩ | ⟨hd, _⟩
 ·rw [hl] at hl'
  cases hl'
  rcases h with ⟨rfl, rfl, h0, _⟩ | ⟨b, cap, cur, e', rfl, rfl, hcap, _, hrow, hsz⟩
  ·have h0' : l = [] := List.eq_nil_of_length_eq_zero h0
   subst h0'
   refine (AnyM.slices_Sort_string_none Tryz.sortS none 0 w).mono ?_
   rintro e' w' ⟨rfl, rfl⟩
   have hset_same : SR w' μ (hset H id ver (.arr 1 e ((sortS []).map .str))) := by
    refine ⟨hs.ok, fun j v o ho => ?_, fun j x hx => ?_, hs.inj, hs.held⟩
    ·rw [qal] at ho
     split at ho
     ·rename_i ej; subst ej; cases ho; exact ⟨none, hl, by show (sortS []).map HV.str = []; simp [sortS]⟩
     exact hs.has _ _ _ ho
    rw [qal]
    split
    ·exact ⟨_, rfl⟩
    exact hs.only _ _ hx
   exact ⟨_, .tup [], _, μ, rfl, hK, hset_same, ⟨[], rfl, rfl⟩, Evo.refl _ _⟩
  have hor' := hor
  obtain ⟨h0, cur', vs', rest, hrow', hcl, hrl⟩ := hor
  obtain ⟨hvs, hreps⟩ := qiG hrl
  subst hvs
  refine (AnyM.slices_Sort_string Tryz.sortS b 0 cap l w (qiX hrow' hcl) hrow'.lt hlen).mono ?_
  rintro e2 w' ⟨rfl, n, os, rfl⟩
  obtain ⟨h1, h2⟩ := qhx (f := HV.str) (fun _ => rfl) hs hg hl hreps hor' (fun vs hv => (qiG hv).1) (List.mergeSort_perm l _) n os
  exact ⟨_, .tup [], _, μ, rfl, hK, h1, ⟨[], rfl, rfl⟩, h2⟩
 exact absurd hl (hd.2 lo)
theorem w45n {H : Heap} {K : HV → Heap → Prop} (hK : K (.tup []) H) : ACall Tryz.prog 185 [.v (.slice none 0 0)] H K := by
 refine ⟨qdo Tryz.func185 rfl rfl, fun μ w vs hs hr _ => ?_⟩
 obtain ⟨x, xs, rfl, hr, hn⟩ := hr
 cases hn
 cases hr
 refine (AnyM.slices_Sort_string_none Tryz.sortS none 0 w).mono ?_
 rintro e' w' ⟨rfl, rfl⟩
 exact ⟨_, .tup [], _, μ, rfl, hK, hs, ⟨[], rfl, rfl⟩, Evo.refl _ _⟩
theorem w179 {H : Heap} {id ver : Nat} {e : TypeId} {l : List Int} {K : HV → Heap → Prop} (hg : hget H id = some (ver, .arr 1 e (l.map (.int .i64)))) (hlen : l.length < 4611686018427387904)
  (hK : K (.tup []) (hset H id ver (.arr 1 e ((sortI l).map (.int .i64))))) : ACall Tryz.prog 160 [.ar id ver 1 0 l.length] H K := by
 refine ⟨qdo Tryz.func160 rfl rfl, fun μ w vs hs hr _ => ?_⟩
 obtain ⟨x, xs, rfl, hr, hn⟩ := hr
 cases hn
 obtain ⟨lo, hl, hor⟩ := hs.has _ _ _ hg
 rcases hr with ⟨lo', hl', h⟩ | ⟨hd, _⟩
 ·rw [hl] at hl'
  cases hl'
  rcases h with ⟨rfl, rfl, h0, _⟩ | ⟨b, cap, cur, e', rfl, rfl, hcap, _, hrow, hsz⟩
  ·have h0' : l = [] := List.eq_nil_of_length_eq_zero h0
   subst h0'
   refine (AnyM.slices_Sort_int_none Tryz.sortI none 0 w).mono ?_
   rintro e' w' ⟨rfl, rfl⟩
   refine ⟨_, .tup [], _, μ, rfl, hK, ?_, ⟨[], rfl, rfl⟩, Evo.refl _ _⟩
   have : (sortI []).map (HV.int .i64) = [] := by simp [sortI]
   rw [this]
   exact hs.same hg
  have hor' := hor
  obtain ⟨h0, cur', vs', rest, hrow', hcl, hrl⟩ := hor
  obtain ⟨hvs, hreps⟩ := qfz hrl
  subst hvs
  refine (AnyM.slices_Sort_int Tryz.sortI b 0 cap l w (qiX hrow' hcl) hrow'.lt hlen).mono ?_
  rintro e2 w' ⟨rfl, n, os, rfl⟩
  obtain ⟨h1, h2⟩ := qhx (f := HV.int .i64) (fun _ => rfl) hs hg hl hreps hor' (fun vs hv => (qfz hv).1) (List.mergeSort_perm l _) n os
  exact ⟨_, .tup [], _, μ, rfl, hK, h1, ⟨[], rfl, rfl⟩, h2⟩
 exact absurd hl (hd.2 lo)
theorem qp1 : qnx Tryz.prog 160 := by
 refine ⟨fun _ _ _ _ _ _ hg hl hK => w179 hg hl hK, fun H K hK => ⟨qdo Tryz.func160 rfl rfl, fun μ w vs hs hr _ => ?_⟩⟩
 obtain ⟨x, xs, rfl, hr, hn⟩ := hr
 cases hn
 cases hr
 refine (AnyM.slices_Sort_int_none Tryz.sortI none 0 w).mono ?_
 rintro e' w' ⟨rfl, rfl⟩
 exact ⟨_, .tup [], _, μ, rfl, hK, hs, ⟨[], rfl, rfl⟩, Evo.refl _ _⟩
end
section
open Go Go.Proofs Go.Sort Go.Lib
theorem qoF {α : Type} [Inhabited α] {enc : α → Value} {f : α → HV} (hf1 : ∀ x, (f x).one = true) {w : World} {μ : Mu} {H : Heap} {id ver b k : Nat} {e : TypeId} {l d : List α} (hs : SR w μ H) (hg : hget H id = some (ver, .arr k e (l.map f)))
  (hl : μ.loc id = some (ver, some b)) (hrep : ∀ x ∈ d, Rep w μ (f x) (enc x)) (hor : OR w μ (.arr k e (l.map f)) (some b)) (hv : ∀ vs, RepL w μ (l.map f) vs → vs = l.map enc) (hlen : d.length = l.length) (n : Nat) :
  SR (putRow enc (Sort.ahead w n) b 0 d.toArray) μ (hset H id ver (.arr k e (d.map f))) ∧ Evo w μ (putRow enc (Sort.ahead w n) b 0 d.toArray) μ := by
 obtain ⟨h0, cur, vs, rest, hrow, hcl, hrl⟩ := hor
 have hvs := hv vs hrl
 subst hvs
 have hcsz : cur.size = l.length + rest.length := by rw [← Array.length_toList, hcl]; simp
 obtain ⟨lo, hi, hbk, hfr⟩ := hrow
 have hbk' : (putRow enc (Sort.ahead w n) b 0 d.toArray).heap[b]? = some (.cells (putCells enc 0 d.toArray cur) e (lo, hi)) := by
  show (w.heap.modify b _)[b]? = _
  rw [Array.getElem?_modify, if_pos rfl, hbk]
  rfl
 have hcur' : (putCells enc 0 d.toArray cur).toList = d.map enc ++ rest := by
  apply List.ext_getElem?
  intro i
  rw [Array.getElem?_toList]
  simp only [putCells, Array.getElem?_mapIdx]
  have hc : cur[i]? = (l.map enc ++ rest)[i]? := by rw [← hcl, Array.getElem?_toList]
  rw [hc]
  rcases Nat.lt_or_ge i d.length with hi | hi
  ·rw [List.getElem?_append_left (by simp; omega), List.getElem?_append_left (by simpa using hi), List.getElem?_map, List.getElem?_map, List.getElem?_eq_getElem (by omega : i < l.length), List.getElem?_eq_getElem hi]
   simp only [Option.map_some]
   rw [if_pos ⟨Nat.zero_le _, by simpa using hi⟩]
   simp [hi]
  rw [List.getElem?_append_right (by simp; omega), List.getElem?_append_right (by simpa using hi)]
  simp only [List.length_map, hlen]
  cases rest[i - l.length]? with
  | none => rfl
  | some x =>
   simp only [Option.map_some]
   rw [if_neg (by simp; omega)]
 have hsz1 : (putRow enc (Sort.ahead w n) b 0 d.toArray).heap.size = w.heap.size := by rw [size_putRow]; rfl
 have hrow1 : Row (putRow enc (Sort.ahead w n) b 0 d.toArray) b (putCells enc 0 d.toArray cur) e := ⟨lo, hi, hbk', by simpa [putCells] using hfr⟩
 have hold : ∀ b', b' ≠ b → (putRow enc (Sort.ahead w n) b 0 d.toArray).heap[b']? = w.heap[b']? := fun b' hne => by
  show (w.heap.modify b _)[b']? = _
  rw [Array.getElem?_modify, if_neg (fun e => hne e.symm)]
 exact hs.updArr (cs' := d.map f) (w' := putRow enc (Sort.ahead w n) b 0 d.toArray) hg hl ⟨rfl, rfl, rfl⟩ hsz1 hold ⟨lo, hi, hbk, hfr⟩ hrow1 (by simp [putCells]) fun E => by
  refine ⟨fun c hc => ?_, _, d.map enc, rest, hrow1, hcur', qh1.2 fun x hx => Rep.evo E hs.ok _ _ (hrep x hx)⟩
  obtain ⟨x, _, rfl⟩ := List.mem_map.1 hc
  exact hf1 x
end
end Go.AW
namespace Go.Proofs
open Go
set_option maxHeartbeats 1000000 in
set_option maxRecDepth 100000 in
theorem zao (s : ByteArray) (c : Int) (w : World) :
  Calls Tryz.prog 162 #[.string s, .int .u8 c] w fun e w' => e = .returned (.int .i64 (Lib.indexByte s.data.toList c.toNat.toUInt8)) ∧ w' = w := by
 go_enter Tryz.func162, Tryz.ntmps162
 go_wp2
 rw [run_callFunc_extern Tryz.func196 (by kernel_rfl) (by kernel_rfl) (by kernel_rfl) (e := Extern.BytealgIndexByte.indexByte) (by kernel_rfl), Lib.run_indexByteString]
 simp only [Result.andThen]
 rw [Oper.upon_value]
 go_wp2
 go_ret
 exact ⟨rfl, rfl⟩
set_option maxHeartbeats 1000000 in
theorem zas (s : ByteArray) (c : Int) (w : World) :
  Calls Tryz.prog 109 #[.string s, .int .u8 c] w fun e w' => e = .returned (.int .i64 (Lib.indexByte s.data.toList c.toNat.toUInt8)) ∧ w' = w := by
 go_enter Tryz.func109, Tryz.ntmps109
 go_wp2_with (go_at_call 162; refine (zao _ _ _).mono ?_; rintro e w' ⟨rfl, rfl⟩)
 go_ret
 exact ⟨rfl, rfl⟩
end Go.Proofs
namespace Go.AW
open Go Go.Proofs
theorem qsI (l : List UInt8) (c : UInt8) (hl : l.length ≤ maxLen) : (Lit.int .i64 (Lib.indexByte l c)).wf = true := by
 have h : ∀ l : List UInt8, -1 ≤ Lib.indexByte l c ∧ Lib.indexByte l c ≤ l.length := by
  intro l
  induction l with
  | nil => simp [Lib.indexByte]
  | cons a l ih =>
   simp only [Lib.indexByte, List.length_cons]
   split
   ·omega
   split
   ·omega
   omega
 have := h l
 simp only [maxLen] at hl
 simp only [Lit.wf, IntKind.min, IntKind.max, IntKind.signed, IntKind.bits, Bool.and_eq_true, decide_eq_true_eq]
 simp
 omega
theorem w51 (l : List UInt8) (c : Int) : Pure Tryz.prog 109 [.str l, .int .u8 c] (· = .int .i64 (Lib.indexByte l c.toNat.toUInt8)) := by
 refine ⟨qdo Tryz.func109 rfl rfl, fun μ w vs hs hr _ => ?_⟩
 obtain ⟨x, xs, rfl, ⟨rfl, hl⟩, y, ys, rfl, ⟨rfl, _⟩, hn⟩ := hr
 cases hn
 refine (zas ⟨l.toArray⟩ c w).mono ?_
 rintro e w' ⟨rfl, rfl⟩
 exact ⟨_, _, [], μ, rfl, ⟨rfl, trivial, rfl⟩, hs, ⟨by simp, qsI l _ hl⟩, Evo.refl _ _⟩
end Go.AW
namespace Go.Proofs
open Go
def zaG : Go.Shelf.Ren := ⟨fun | 20 => 161 | n => n, fun | 22 => 31 | 3 => 3 | 4 => 4 | 0 => 0 | n => n, fun | n => n⟩
theorem zaJ : Go.Proofs.Lays2.n20 Tryz.prog zaG where
 mixed := by kernel_rfl
 f20 := Tryz.func161.trans (congrArg some (by kernel_rfl))
 t0 := Tryz.underlying0
 a0 := Tryz.isAgg0
 z0 := Tryz.sizeOf0
 v0 := Tryz.zeroValue0
 t3 := Tryz.underlying3
 a3 := Tryz.isAgg3
 z3 := Tryz.sizeOf3
 v3 := Tryz.zeroValue3
 t4 := Tryz.underlying4
 a4 := Tryz.isAgg4
 z4 := Tryz.sizeOf4
 v4 := Tryz.zeroValue4
 t22 := Tryz.underlying31
 a22 := Tryz.isAgg31
 z22 := Tryz.sizeOf31
 v22 := Tryz.zeroValue31
 i3 := by kernel_rfl
end Go.Proofs
namespace Go.AW
open Go Go.Proofs Go.Sort Go.Lib
theorem qr3 : qnx Tryz.prog 160 := qp1
theorem w180 {H : Heap} {id ver : Nat} {e : TypeId} {l : List Int} {K : HV → Heap → Prop} (hg : hget H id = some (ver, .arr 1 e (l.map (.int .i64))))
  (hK : K (.ar id ver 1 0 (qaW l).length) (hset H id ver (.arr 1 e ((qaW l ++ List.replicate (l.length - (qaW l).length) 0).map (.int .i64))))) : ACall Tryz.prog 161 [.ar id ver 1 0 l.length] H K := by
 refine ⟨qdo Tryz.func161 rfl rfl, fun μ w vs hs hr _ => ?_⟩
 obtain ⟨x, xs, rfl, hr, hn⟩ := hr
 cases hn
 obtain ⟨lo, hl, hor⟩ := hs.has _ _ _ hg
 rcases hr with ⟨lo', hl', h⟩ | ⟨hd, _⟩
 ·rw [hl] at hl'
  cases hl'
  rcases h with ⟨rfl, rfl, h0, _⟩ | ⟨b, cap, cur, e', rfl, rfl, hcap, hcm, hrow, hsz⟩
  ·have hl0 := List.eq_nil_of_length_eq_zero h0
   subst hl0
   refine (Any.slices_Compact_int_empty zaJ none 0 w).mono ?_
   rintro e2 w' ⟨rfl, rfl⟩
   refine ⟨_, .ar id ver 1 0 0, _, μ, rfl, hK, hs.reobj hg fun l hl hor => hor, .inl ⟨none, hl, .inl ⟨rfl, rfl, rfl, rfl⟩⟩, Evo.refl _ _⟩
  have hor' := hor
  obtain ⟨h0, cur', vs', rest, hrow', hcl, hrl⟩ := hor
  obtain ⟨hvs, hreps⟩ := qfz hrl
  subst hvs
  refine (Any.slices_Compact_int zaJ b 0 cap l w (qiX hrow' hcl) (by have := hcm; simp only [maxLen] at this; omega) hcap).mono ?_
  rintro e2 w' ⟨rfl, n, rfl⟩
  have hle := qjO l
  have hlen : (qaW l ++ List.replicate (l.length - (qaW l).length) (0 : Int)).length = l.length := by simp; omega
  obtain ⟨h1, h2⟩ := qoF (f := HV.int .i64) (fun _ => rfl) hs hg hl (d := qaW l ++ List.replicate (l.length - (qaW l).length) 0) (fun x hx => by
   rcases List.mem_append.1 hx with hx | hx
   ·exact hreps x (qi4 hx)
   rw [List.eq_of_mem_replicate hx]; exact ⟨rfl, rfl⟩) hor' (fun vs hv => (qfz hv).1) hlen n
  refine ⟨_, .ar id ver 1 0 (qaW l).length, _, μ, rfl, hK, h1, .inl ⟨some b, hl, .inr ⟨b, cap, putCells (Value.int .i64) 0 (qaW l ++ List.replicate (l.length - (qaW l).length) 0).toArray cur, e', rfl, by simp, by omega, hcm, ?_, ?_⟩⟩, h2⟩
  ·obtain ⟨lo, hi, hbk, hfr⟩ := hrow
   refine ⟨lo, hi, ?_, by simpa [putCells] using hfr⟩
   show (w.heap.modify b _)[b]? = _
   rw [Array.getElem?_modify, if_pos rfl, hbk]
   rfl
  simp only [putCells, Array.size_mapIdx]; exact hsz
 exact absurd hl (hd.2 lo)
theorem qnX {H H' : Heap} {id ver n : Nat} {e : TypeId} {l : List Int} {K : HV → Heap → Prop} (hn : n = l.length) (hg : hget H id = some (ver, .arr 1 e (l.map (.int .i64)))) (hle : ∀ j x, hget H' j = some x → hget H j = some x) (hno : hget H' id = none)
  (hK : K (slE eInt (qaW l)) H') : ACall Tryz.prog 161 [.ar id ver 1 0 n] H K := by
 subst hn
 have hlen := qjO l
 refine ACall.freeze 2 [(id, ver, .arr 1 e ((qaW l ++ List.replicate (l.length - (qaW l).length) 0).map (.int .i64)))] H' (w180 hg ⟨fun j x hx => ?_, fun j x hx => ?_, ?_⟩)
 ·rw [qal, if_neg (fun e => by rw [e, hno] at hx; cases hx)]
  exact hle j x hx
 ·simp only [hget] at hx
  split at hx
  ·rename_i e
   subst e
   cases hx
   exact ⟨by rw [qal, if_pos rfl], hno⟩
  cases hx
 have : frz 2 [(id, ver, .arr 1 e ((qaW l ++ List.replicate (l.length - (qaW l).length) 0).map (.int .i64)))] (.ar id ver 1 0 (qaW l).length) = slE eInt (qaW l) := by
  have h0 : hget [(id, ver, AObj.arr 1 e ((qaW l ++ List.replicate (l.length - (qaW l).length) 0).map (.int .i64)))] id = some (ver, .arr 1 e ((qaW l ++ List.replicate (l.length - (qaW l).length) 0).map (.int .i64))) := by simp only [hget, if_true]
  rw [frz, h0]
  have h1 : ver = ver ∧ 0 + (qaW l).length * 1 ≤ ((qaW l ++ List.replicate (l.length - (qaW l).length) (0 : Int)).map (HV.int .i64)).length := ⟨rfl, by simp⟩
  refine (if_pos h1).trans ?_
  rw [List.drop_zero, Nat.mul_one, List.map_append, List.take_left' (List.length_map _), List.map_map]
  rfl
 rw [this]
 exact hK
theorem qc1 {l : List UInt8} {c r : Int} (h : qaT l c = some r) : Pure Tryz.prog 109 [HV.str l, HV.int .u8 c] (· = HV.int .i64 r) := by
 cases h
 exact w51 l c
end Go.AW
namespace Go.AW
open Go
def letters : List UInt8 := [48, 49, 50, 51, 52, 53, 54, 55, 56, 57, 97, 98, 99, 100, 101, 102]
abbrev WS := List UInt8 × List Int
def ext1 (stp : List Int → UInt8 → List Int) (cs : List UInt8) (x : WS) : List WS := cs.filterMap fun c => if stp x.2 c = [] then none else some (x.1 ++ [c], stp x.2 c)
def lvl (stp : List Int → UInt8 → List Int) (cs : List UInt8) (set : List Int) : Nat → List WS
 | 0 => if set = [] then [] else [([], set)]
 | i + 1 => (lvl stp cs set i).flatMap (ext1 stp cs)
def ent (x : WS) : List UInt8 × HV := (x.1, ints x.2)
section
variable {stp : List Int → UInt8 → List Int} {cs : List UInt8} {set : List Int}
theorem qdH {x y : WS} : y ∈ ext1 stp cs x ↔ ∃ c ∈ cs, stp x.2 c ≠ [] ∧ y = (x.1 ++ [c], stp x.2 c) := by
 simp only [ext1, List.mem_filterMap]
 constructor
 ·rintro ⟨c, hc, h⟩
  split at h
  ·cases h
  rename_i hn; cases h; exact ⟨c, hc, hn, rfl⟩
 rintro ⟨c, hc, hn, rfl⟩
 exact ⟨c, hc, by rw [if_neg hn]⟩
theorem qps (x : WS) (h : cs.Nodup) : ((ext1 stp cs x).map (·.1)).Nodup := by
 induction cs with
 | nil => simp [ext1]
 | cons c cs ih =>
  have hc := List.nodup_cons.1 h
  have ih' := ih hc.2
  simp only [ext1, List.filterMap_cons] at ih' ⊢
  split
  ·exact ih'
  rename_i y hy
  split at hy
  ·cases hy
  cases hy
  simp only [List.map_cons, List.nodup_cons]
  refine ⟨fun hm => ?_, ih'⟩
  obtain ⟨z, hz, he⟩ := List.mem_map.1 hm
  obtain ⟨d, hd, _, rfl⟩ := qdH.1 hz
  have := List.append_cancel_left he
  cases this
  exact hc.1 hd
theorem qlx (h : cs.Nodup) : ∀ {l : List WS}, (l.map (·.1)).Nodup → ((l.flatMap (ext1 stp cs)).map (·.1)).Nodup
 | [], _ => by simp
 | x :: l, hl => by
  simp only [List.map_cons, List.nodup_cons] at hl
  simp only [List.flatMap_cons, List.map_append]
  refine List.nodup_append.2 ⟨qps x h, qlx h hl.2, ?_⟩
  intro a ha b hb e
  subst e
  obtain ⟨y, hy, rfl⟩ := List.mem_map.1 ha
  obtain ⟨c, _, _, rfl⟩ := qdH.1 hy
  obtain ⟨z, hz, he⟩ := List.mem_map.1 hb
  obtain ⟨x', hx', hz'⟩ := List.mem_flatMap.1 hz
  obtain ⟨d, _, _, rfl⟩ := qdH.1 hz'
  have h1 : x'.1 = x.1 := by
   have := congrArg List.dropLast he
   simpa using this
  exact hl.1 (h1 ▸ List.mem_map.2 ⟨x', hx', rfl⟩)
theorem qh7 (h : cs.Nodup) : ∀ i, ((lvl stp cs set i).map (·.1)).Nodup
 | 0 => by simp only [lvl]; split <;> simp
 | i + 1 => qlx h (qh7 h i)
theorem qiS : ∀ (i : Nat) (x : WS), x ∈ lvl stp cs set i → x.1.length = i
 | 0, x, h => by
  simp only [lvl] at h
  split at h
  ·cases h
  simp at h; subst h; rfl
 | i + 1, x, h => by
  obtain ⟨y, hy, hx⟩ := List.mem_flatMap.1 h
  obtain ⟨c, _, _, rfl⟩ := qdH.1 hx
  have := qiS i y hy
  simp [this]
theorem qku {A : List Int → Prop} (h0 : A set) (hs : ∀ a c, A a → c ∈ cs → A (stp a c)) : ∀ (i : Nat) (x : WS), x ∈ lvl stp cs set i → A x.2
 | 0, x, h => by
  simp only [lvl] at h
  split at h
  ·cases h
  simp at h; subst h; exact h0
 | i + 1, x, h => by
  obtain ⟨y, hy, hx⟩ := List.mem_flatMap.1 h
  obtain ⟨c, hc, _, rfl⟩ := qdH.1 hx
  exact hs _ _ (qku h0 hs i y hy) hc
theorem qmb {i : Nat} (h : lvl stp cs set i = []) : ∀ {j : Nat}, i ≤ j → lvl stp cs set j = []
 | 0, hj => by
  have : i = 0 := by omega
  subst this; exact h
 | j + 1, hj => by
  rcases Nat.lt_or_ge i (j + 1) with h' | h'
  ·simp only [lvl, qmb h (j := j) (by omega), List.flatMap_nil]
  have : i = j + 1 := by omega
  subst this; exact h
theorem qiL {l l' : List WS} (h : l.Perm l') : (l.flatMap (ext1 stp cs)).Perm (l'.flatMap (ext1 stp cs)) := h.flatMap_right _
theorem qiK {l : List WS} {es : List (List UInt8 × HV)} (h : es.Perm (l.map ent)) (hl : (l.map (·.1)).Nodup) : (es.map (·.1)).Nodup := by
 have h1 := h.map (·.1)
 rw [List.map_map] at h1
 exact h1.nodup_iff.2 (by simpa [Function.comp_def, ent] using hl)
theorem qo1 {vis rest l : List WS} {es : List (List UInt8 × HV)} {k : List UInt8} {v : HV} (hp : (vis ++ rest).Perm l) (he : es.Perm (l.map ent)) (hm : (k, v) ∈ es) (hk : k ∉ vis.map (·.1)) :
  ∃ x l1 l2, rest = l1 ++ x :: l2 ∧ (k, v) = ent x ∧ ((x :: vis) ++ (l1 ++ l2)).Perm l := by
 have h1 : (k, v) ∈ (vis ++ rest).map ent := ((hp.map ent).symm.mem_iff).1 (he.mem_iff.1 hm)
 obtain ⟨x, hx, hxe⟩ := List.mem_map.1 h1
 have hxr : x ∈ rest := by
  rcases List.mem_append.1 hx with h | h
  ·exfalso
   refine hk (List.mem_map.2 ⟨x, h, ?_⟩)
   have := congrArg Prod.fst hxe
   exact this
  exact h
 obtain ⟨l1, l2, rfl⟩ := List.append_of_mem hxr
 refine ⟨x, l1, l2, rfl, hxe.symm, List.Perm.trans ?_ hp⟩
 have e1 : (x :: vis) ++ (l1 ++ l2) = x :: ((vis ++ l1) ++ l2) := by simp
 have e2 : vis ++ (l1 ++ x :: l2) = (vis ++ l1) ++ x :: l2 := by simp
 rw [e1, e2]
 exact List.perm_middle.symm
theorem qp9 {vis rest l : List WS} {es : List (List UInt8 × HV)} (hl : (l.map (·.1)).Nodup) (hp : (vis ++ rest).Perm l) (he : es.Perm (l.map ent)) (hall : ∀ p ∈ es, p.1 ∈ vis.map (·.1)) : rest = [] := by
 cases rest with
 | nil => rfl
 | cons x rest =>
  exfalso
  have hx : ent x ∈ es := he.mem_iff.2 (List.mem_map.2 ⟨x, hp.mem_iff.1 (by simp), rfl⟩)
  have hk := hall _ hx
  have hn : ((vis ++ x :: rest).map (·.1)).Nodup := (hp.map (·.1)).nodup_iff.2 hl
  simp only [List.map_append, List.map_cons] at hn
  exact (List.nodup_append.1 hn).2.2 _ hk _ (List.mem_cons_self ..) rfl
theorem qlB (x : WS) {j : Nat} (hj : j < cs.length) : ext1 stp (cs.take (j + 1)) x = ext1 stp (cs.take j) x ++ (if stp x.2 cs[j] = [] then [] else [(x.1 ++ [cs[j]], stp x.2 cs[j])]) := by
 rw [List.take_add_one, List.getElem?_eq_getElem hj]
 simp only [ext1, Option.toList_some, List.filterMap_append]
 congr 1
 simp only [List.filterMap_cons, List.filterMap_nil]
 split <;> simp_all
theorem qrM {vis : List WS} {x : WS} (hcs : cs.Nodup) (hx : x.1 ∉ vis.map (·.1)) {j : Nat} (hj : j < cs.length) {es : List (List UInt8 × HV)} (he : es.Perm ((vis.flatMap (ext1 stp cs) ++ ext1 stp (cs.take j) x).map ent)) :
  qdp (x.1 ++ [cs[j]]) es = none := by
 rw [qhn]
 intro hm
 have h1 := (he.map (·.1)).mem_iff.1 hm
 rw [List.map_map, List.map_append, List.mem_append] at h1
 rcases h1 with h | h
 ·obtain ⟨y, hy, hye⟩ := List.mem_map.1 h
  obtain ⟨z, hz, hzy⟩ := List.mem_flatMap.1 hy
  obtain ⟨d, _, _, rfl⟩ := qdH.1 hzy
  have h2 : z.1 = x.1 := by
   have := congrArg List.dropLast hye
   simpa [ent] using this
  exact hx (h2 ▸ List.mem_map.2 ⟨z, hz, rfl⟩)
 obtain ⟨y, hy, hye⟩ := List.mem_map.1 h
 obtain ⟨d, hd, _, rfl⟩ := qdH.1 hy
 have h2 : d = cs[j] := by
  have h3 : x.1 ++ [d] = x.1 ++ [cs[j]] := hye
  have := List.append_cancel_left h3
  simpa using this
 rw [h2] at hd
 obtain ⟨k, hk, hke⟩ := List.mem_take_iff_getElem.1 hd
 have := (List.getElem_inj (h₀ := by omega) (h₁ := hj) hcs).1 hke
 omega
end
def qnM (stp : List Int → UInt8 → List Int) (cs : List UInt8) (set : List Int) (n : Nat) : Bool := (List.range n).all fun j => decide ((lvl stp cs set (j + 1)).length ≤ 4096)
theorem qfB {stp : List Int → UInt8 → List Int} {cs : List UInt8} {set : List Int} {n : Nat} : qnM stp cs set n = true ↔ ∀ j, 1 ≤ j → j ≤ n → (lvl stp cs set j).length ≤ 4096 := by
 simp only [qnM, List.all_eq_true, List.mem_range, decide_eq_true_eq]
 constructor
 ·intro h j h1 h2
  have := h (j - 1) (by omega)
  rwa [show j - 1 + 1 = j by omega] at this
 exact fun h j hj => h (j + 1) (by omega) (by omega)
theorem qlR : ∀ c ∈ letters, (Utf8.encode (c.toNat : Int)).data.toList = [c] := by decide
theorem letters_nodup : letters.Nodup := by decide
theorem qqw {n : Int} (h : fact (.int .i64 n)) : -9223372036854775808 ≤ n ∧ n ≤ 9223372036854775807 := by
 simpa [fact, Lit.wf, IntKind.min, IntKind.max, IntKind.signed, IntKind.bits] using h
theorem qq5 {a b : Nat} (h : decide ((a : Int) < (b : Int)) = true) : a < b := by simpa using h
theorem AW.cjoin2 {P : Program} {ro : Option Nat} {N : Nat} {s : AS} {Q : Exit → AS → Prop} {c : Operand} {x y z : Code} {t : Bool} {α : Type} (St : α → AS) (I : α → Prop) (hc : s.ev c = some (.bool t))
  (h1 : t = true → AW P ro N x (qeD (fun s' => ∃ a, I a ∧ s'.le (St a)) Q) s) (h2 : t = false → AW P ro N y (qeD (fun s' => ∃ a, I a ∧ s'.le (St a)) Q) s)
  (h3 : ∀ a, I a → AW P ro N z Q (St a)) : AW P ro N (.cond c x y) (qeD (AW P ro N z Q) Q) s := by
 refine (zae hc h1 h2).mono ?_
 rintro e s' h
 cases e with
 | normal => obtain ⟨a, ha, hl⟩ := h; exact AW.weaken (h3 a ha) hl
 | exit id => exact h
 | goto l => exact h
 | ret => exact h
 | panic ch => exact h
 | outgrown => exact h
open Go.Proofs
theorem qsO : qbt Tryz.prog 27 0 = some (0, { desc := TypeDesc.int .i64, size := 1, bytes := 8, zero := Value.int .i64 0 }) := by kernel_rfl
theorem qsN : qbt Tryz.prog 27 1 = some (1, { desc := TypeDesc.int .i64, size := 1, bytes := 8, zero := Value.int .i64 0 }) := by kernel_rfl
theorem qsM : qbt Tryz.prog 27 2 = some (2, { desc := TypeDesc.slice 128, size := 1, bytes := 24, zero := Value.slice none 0 0 }) := by kernel_rfl
theorem qrU : qbt Tryz.prog 128 0 = some (0, { desc := TypeDesc.int .i64, size := 1, bytes := 8, zero := Value.int .i64 0 }) := by kernel_rfl
theorem qrT : qbt Tryz.prog 128 1 = some (1, { desc := TypeDesc.int .i64, size := 1, bytes := 8, zero := Value.int .i64 0 }) := by kernel_rfl
theorem qrS : qbt Tryz.prog 128 2 = some (2, { desc := TypeDesc.int .i64, size := 1, bytes := 8, zero := Value.int .i64 0 }) := by kernel_rfl
attribute [go_sem high] qsO qsN qsM qrU qrT qrS
theorem qcB {id v : Nat} {o : AObj} {H : Heap} : hget ((id, v, o) :: H) id = some (v, o) := by simp [hget]
set_option maxHeartbeats 1000000 in
theorem w79 {L n : Nat} {gS gE : HV} {stp : List Int → UInt8 → List Int} {set : List Int} {A : List Int → Prop} (hL : L ≤ 16) (h1g : gS.one = true) (h1e : gE.one = true) (hA0 : A set) (hA : ∀ a c, A a → c ∈ letters.take L → A (stp a c))
  (hstep : ∀ a c, A a → c ∈ letters.take L → Pure Tryz.prog 111 [.agg [num L, gS, gE], ints a, .int .u8 c.toNat] (· = ints (stp a c))) :
  ACall Tryz.prog 143 [.agg [num L, gS, gE], ints set, num n] [] fun r H' =>
   ((∀ j, 1 ≤ j → j ≤ n → (lvl stp (letters.take L) set j).length ≤ 4096) ∧ ∃ id ver es, r = .tup [.mp id ver, .bool true] ∧ H' = [(id, ver, .map es)] ∧ es.Perm ((lvl stp (letters.take L) set n).map ent)) ∨
   (∃ j, 1 ≤ j ∧ j ≤ n ∧ 4096 < (lvl stp (letters.take L) set j).length ∧ r = .tup [.v (.map none), .bool false] ∧ H' = []) := by
 refine zaz (qdo Tryz.func143 rfl rfl) fun hf => ?_
 have hn : n ≤ 9223372036854775807 := by
  have := qqw hf.2.2.1
  omega
 refine ACall.of_body Tryz.func143 rfl rfl (Nat.le_of_ble_eq_true rfl) ?_
 unfold Tryz.f143
 dsimp only [qaH, Nat.reduceAdd]
 simp only [num] at *
 refine zah (fid := 79) (mt := []) [1, 2, 3] rfl fun K hK => ?_
 simp only [go_sem, reduceIte, Nat.reduceEqDiff, Int.reduceLE]
 refine hK _ ?_
 clear hK K
 refine zah (fid := 79) (mt := []) [1, 2, 3, 8] rfl fun K hK => ?_
 simp only [go_sem, reduceIte, Nat.reduceEqDiff, Int.reduceLE]
 intro v0
 refine hK _ ?_
 clear hK K
 refine zad ?_
 refine zah (fid := 79) (mt := []) [1, 2, 3, 8, 18] rfl fun K hK => ?_
 simp only [go_sem, ints, reduceIte, Nat.reduceEqDiff, Int.reduceLE]
 refine hK _ ?_
 clear hK K
 have h00 : ((0 : Nat) : Int) = 0 := rfl
 refine AW.cjoin2 (fun es : List (List UInt8 × HV) => ⟨[(2, .int .i64 n), (3, .fptr [.int .i64 L, gS, gE] 0), (8, .mp (79 * 1000 + 15) v0)], [(79 * 1000 + 15, v0, .map es)]⟩) (fun es => es = (lvl stp (letters.take L) set 0).map ent) rfl (fun hc => ?_) (fun hc => ?_) ?_
 ·have hc : 0 < set.length := by simpa using hc
  refine AW.region (fid := 79) (mt := []) [2, 3, 8] rfl fun K hK => ?_
  simp only [go_sem, reduceIte, Nat.reduceEqDiff, Int.reduceLE, List.length_nil, Nat.zero_le, mput]
  refine hK _ ?_
  clear hK K
  have hne : set ≠ [] := by rintro rfl; simp at hc
  refine ⟨[([], ints set)], by simp [lvl, hne, ent], zak ⟨rfl, rfl, rfl, trivial⟩ ⟨qcB, trivial⟩⟩
 ·have hc : set = [] := by
   have : ¬ 0 < set.length := by simpa using hc
   exact List.eq_nil_of_length_eq_zero (by omega)
  refine zac ⟨[], by simp [lvl, hc], zak ⟨rfl, rfl, rfl, trivial⟩ ⟨qcB, trivial⟩⟩
 rintro es0 rfl
 refine zad ?_
 refine zah (fid := 79) (mt := []) [3, 8, 21, 22] rfl fun K hK => ?_
 simp only [go_sem, reduceIte, Nat.reduceEqDiff, Int.reduceLE]
 refine hK _ ?_
 clear hK K
 refine zaf ?_
 refine AW.loopS (fun p : Nat × Nat × Nat × List (List UInt8 × HV) => ⟨[(3, .fptr [.int .i64 L, gS, gE] 0), (8, .mp p.2.1 p.2.2.1), (21, .int .i64 n), (22, .int .i64 p.1)], [(p.2.1, p.2.2.1, .map p.2.2.2)]⟩)
  (fun p => p.1 ≤ n ∧ p.2.2.2.Perm ((lvl stp (letters.take L) set p.1).map ent) ∧ ∀ j, 1 ≤ j → j ≤ p.1 → (lvl stp (letters.take L) set j).length ≤ 4096) (fun p => n - p.1) (0, _, _, _)
  (zak ⟨rfl, rfl, rfl, rfl, trivial⟩ ⟨rfl, trivial⟩) ⟨Nat.zero_le _, List.Perm.refl _, fun j h1 h2 => by dsimp only at h2; omega⟩ ?_
 rintro ⟨i, aid, av, es⟩ ⟨hi, hes, hsz⟩
 dsimp only at hi hes hsz ⊢
 refine zah (fid := 79) (mt := []) [3, 8, 21, 22, 23] rfl fun K hK => ?_
 simp only [go_sem, reduceIte, Nat.reduceEqDiff, Int.reduceLE]
 refine hK _ ?_
 clear hK K
 refine zam rfl (fun hc => ?_) (fun hc => ?_)
 ·have hi' := qq5 hc
  obtain ⟨f, hf1, hf2⟩ : ∃ f : Nat, f * 1000 + 24 ≠ aid ∧ f * 1000 + 26 ≠ aid := ⟨aid + 1, by omega, by omega⟩
  have hf3 := Ne.symm hf1
  have hf4 := Ne.symm hf2
  refine zac ?_
  refine zad (zaf ?_)
  refine zah (fid := f) (mt := []) [3, 8, 9, 21, 22] rfl fun K hK => ?_
  simp only [go_sem, reduceIte, Nat.reduceEqDiff, Int.reduceLE, hf1, hf2, hf3, hf4]
  intro nv
  refine hK _ ?_
  clear hK K
  refine zad ?_
  refine zah (fid := f) (mt := []) [3, 9, 21, 22, 26] rfl fun K hK => ?_
  simp only [go_sem, reduceIte, Nat.reduceEqDiff, Int.reduceLE, hf1, hf2, hf3, hf4, Nat.add_left_cancel_iff]
  refine ⟨hf2, fun iv => hK _ ?_⟩
  clear hK K
  refine zaf ?_
  have hlk := qh7 (stp := stp) (set := set) (cs := letters.take L) (letters_nodup.sublist (List.take_sublist _ _)) i
  refine AW.loopS (fun p : List WS × List WS × List (List UInt8 × HV) × Bool => ⟨[(3, .fptr [.int .i64 L, gS, gE] 0), (9, .mp (f * 1000 + 24) nv), (21, .int .i64 n), (22, .int .i64 i), (26, .it (f * 1000 + 26) iv)],
    [(aid, av, .map es), (f * 1000 + 24, nv, .map p.2.2.1), (f * 1000 + 26, iv, .iter aid av (p.1.map (·.1)) p.2.2.2)]⟩)
   (fun p => (p.1 ++ p.2.1).Perm (lvl stp (letters.take L) set i) ∧ p.2.2.1.Perm ((p.1.flatMap (ext1 stp (letters.take L))).map ent) ∧ (p.1.flatMap (ext1 stp (letters.take L))).length ≤ 4096) (fun p => p.2.1.length) ([], lvl stp (letters.take L) set i, [], false)
   (zak ⟨rfl, rfl, rfl, rfl, rfl, trivial⟩ ⟨qcB, by simp [hget, hf1, hf2, hf3, hf4], by simp [hget, hf1, hf2, hf3, hf4], trivial⟩) ⟨List.Perm.refl _, List.Perm.refl _, Nat.zero_le _⟩ ?_
  rintro ⟨vis, rest, es', cur⟩ ⟨hvr, hes', hlen⟩
  dsimp only at hvr hes' hlen ⊢
  refine zah (fid := f) (mt := []) [3, 9, 21, 22, 26, 28] rfl fun K hK => ?_
  simp only [go_sem, reduceIte, Nat.reduceEqDiff, Int.reduceLE, hf1, hf2, hf3, hf4, Nat.add_left_cancel_iff]
  refine ⟨fun hall => hK _ ?_, fun k v hkv hks => hK _ ?_⟩
  ·clear hK K
   have hr := qp9 hlk hvr hes hall
   subst hr
   rw [List.append_nil] at hvr
   have hnx : es'.Perm ((lvl stp (letters.take L) set (i + 1)).map ent) := hes'.trans ((qiL hvr).map ent)
   have hln : (lvl stp (letters.take L) set (i + 1)).length ≤ 4096 := by
    have := (qiL (stp := stp) (cs := letters.take L) hvr).length_eq
    show ((lvl stp (letters.take L) set i).flatMap _).length ≤ 4096
    omega
   have hsz' : ∀ j, 1 ≤ j → j ≤ i + 1 → (lvl stp (letters.take L) set j).length ≤ 4096 := fun j h1 h2 => by
    rcases Nat.lt_or_ge i j with h | h
    ·have : j = i + 1 := by omega
     subst this; exact hln
    exact hsz j h1 h
   refine zam rfl (fun hc => by cases hc) (fun _ => ?_)
   refine AW.exit ?_
   refine zah (fid := f) (mt := []) [3, 8, 21, 22] rfl fun K hK => ?_
   simp only [go_sem, reduceIte, Nat.reduceEqDiff, Int.reduceLE, hf1, hf2, hf3, hf4, Nat.add_left_cancel_iff]
   refine hK _ ?_
   clear hK K
   refine zah (fid := f) (mt := []) [3, 8, 21, 22, 59] rfl fun K hK => ?_
   simp only [go_sem, reduceIte, Nat.reduceEqDiff, Int.reduceLE, hf1, hf2, hf3, hf4, Nat.add_left_cancel_iff]
   refine ⟨by rw [hes'.length_eq, List.length_map]; simp only [maxLen]; omega, hK _ ?_⟩
   clear hK K
   refine zae rfl (fun hc => ?_) (fun hc => ?_)
   ·have h0 : es' = [] := by
     have : (es'.length : Int) = 0 := by simpa using hc
     exact List.eq_nil_of_length_eq_zero (by omega)
    subst h0
    have hl0 : lvl stp (letters.take L) set (i + 1) = [] := by
     have := hnx.length_eq
     simp only [List.length_nil, List.length_map] at this
     exact List.eq_nil_of_length_eq_zero this.symm
    have hlj := @qmb stp (letters.take L) set (i + 1) hl0
    refine AW.exit ?_
    refine zah (fid := 79) (mt := []) [6, 7] rfl fun K hK => ?_
    simp only [go_sem, reduceIte, Nat.reduceEqDiff, Int.reduceLE, hf1, hf2, hf3, hf4, Nat.add_left_cancel_iff]
    refine hK _ ?_
    clear hK K
    refine AW.ret ⟨.inr rfl, ?_⟩
    simp only [go_sem, reduceIte, Nat.reduceEqDiff]
    refine ⟨_, [(f * 1000 + 24, nv, .map [])], Conv.drop (qci ⟨by simp [hget, hf1, hf2, hf3, hf4], trivial⟩), .inl ⟨fun j h1 h2 => ?_, _, _, _, rfl, rfl, ?_⟩⟩
    ·rcases Nat.lt_or_ge (i + 1) j with h | h
     ·rw [hlj (by omega)]; simp
     exact hsz' j h1 h
    rw [hlj (by omega)]; exact List.Perm.refl _
   refine zac ?_
   refine AW.region (fid := 79) (mt := []) [3, 8, 21, 22] rfl fun K hK => ?_
   simp only [go_sem, reduceIte, Nat.reduceEqDiff, Int.reduceLE]
   refine hK _ ?_
   clear hK K
   refine ⟨(i + 1, f * 1000 + 24, nv, es'), ⟨by dsimp only; omega, hnx, hsz'⟩, by dsimp only; omega, ?_⟩
   dsimp only
   rw [qgM hn hi']
   exact zak ⟨rfl, rfl, rfl, rfl, trivial⟩ ⟨by simp [hget, hf1, hf2, hf3, hf4], trivial⟩
  clear hK K
  obtain ⟨x, l1, l2, rfl, hx, hvr'⟩ := qo1 hvr hes hkv hks
  cases hx
  have hxl : x ∈ lvl stp (letters.take L) set i := hvr'.mem_iff.1 (by simp)
  have hxA : A x.2 := qku hA0 hA i x hxl
  have hxn : x.1.length = i := qiS i x hxl
  refine zam rfl (fun _ => ?_) (fun hc => by cases hc)
  refine zac ?_
  refine zaf ?_
  refine zah (fid := f) (mt := []) [3, 9, 10, 11, 21, 22, 26] rfl fun K hK => ?_
  simp only [go_sem, reduceIte, Nat.reduceEqDiff, Int.reduceLE, hf1, hf2, hf3, hf4, Nat.add_left_cancel_iff]
  refine ⟨_, qgR (qiK hes hlk) hkv, hK _ ?_⟩
  clear hK K
  refine zad ?_
  refine zah (fid := f) (mt := []) [3, 9, 10, 11, 21, 22, 26, 33, 34] rfl fun K hK => ?_
  simp only [go_sem, reduceIte, Nat.reduceEqDiff, Int.reduceLE, List.getElem?_cons_zero, Nat.add_zero]
  refine hK _ ?_
  clear hK K
  refine zaf ?_
  refine AW.loopS (fun p : Nat × List (List UInt8 × HV) => ⟨[(3, .fptr [.int .i64 L, gS, gE] 0), (9, .mp (f * 1000 + 24) nv), (10, .str x.1), (11, ints x.2), (21, .int .i64 n), (22, .int .i64 i), (26, .it (f * 1000 + 26) iv), (33, .int .i64 L), (34, .int .i64 p.1)],
    [(aid, av, .map es), (f * 1000 + 24, nv, .map p.2), (f * 1000 + 26, iv, .iter aid av (x.1 :: vis.map (·.1)) true)]⟩)
   (fun p => p.1 ≤ L ∧ p.2.Perm ((vis.flatMap (ext1 stp (letters.take L)) ++ ext1 stp ((letters.take L).take p.1) x).map ent)) (fun p => L - p.1) (0, es')
   (zak ⟨rfl, rfl, rfl, rfl, rfl, rfl, rfl, rfl, rfl, trivial⟩ ⟨qcB, by simp [hget, hf1, hf2, hf3, hf4], by simp [hget, hf1, hf2, hf3, hf4], trivial⟩) ⟨Nat.zero_le _, by simpa [ext1] using hes'⟩ ?_
  rintro ⟨j, es2⟩ ⟨hj, hes2⟩
  dsimp only at hj hes2 ⊢
  refine zah (fid := f) (mt := []) [3, 9, 10, 11, 21, 22, 26, 33, 34, 35] rfl fun K hK => ?_
  simp only [go_sem, reduceIte, Nat.reduceEqDiff, Int.reduceLE]
  refine hK _ ?_
  clear hK K
  refine zam rfl (fun hc => ?_) (fun hc => ?_)
  ·have hj' := qq5 hc
   have hjl : j < letters.length := by show j < 16; omega
   have hjt : j < (letters.take L).length := by rw [List.length_take]; exact Nat.lt_min.2 ⟨hj', hjl⟩
   have hcj : (letters.take L)[j] = letters[j] := List.getElem_take
   have hmem : letters[j] ∈ letters.take L := hcj ▸ List.getElem_mem hjt
   refine zac ?_
   refine zad (zaf ?_)
   refine zah (fid := f) (mt := []) [3, 9, 10, 11, 12, 21, 22, 26, 33, 34] rfl fun K hK => ?_
   simp only [go_sem, reduceIte, Nat.reduceEqDiff, Int.reduceLE]
   refine hK _ ?_
   clear hK K
   have hlj : ([48, 49, 50, 51, 52, 53, 54, 55, 56, 57, 97, 98, 99, 100, 101, 102] : List UInt8)[j]? = some letters[j] := List.getElem?_eq_getElem (l := letters) hjl
   refine zah (fid := f) (mt := []) [3, 9, 10, 11, 13, 21, 22, 26, 33, 34] rfl fun K hK => ?_
   simp only [go_sem, reduceIte, Nat.reduceEqDiff, Int.reduceLE, List.length_nil, List.length_cons, Nat.reduceAdd, Nat.reduceLeDiff, hlj]
   refine ⟨by omega, hK _ ?_⟩
   clear hK K
   refine zah (fid := f) (mt := []) [3, 9, 10, 11, 13, 14, 21, 22, 26, 33, 34] rfl fun K hK => ?_
   simp only [go_sem, reduceIte, Nat.reduceEqDiff, Int.reduceLE, List.length_nil, List.length_cons, Nat.reduceAdd, Nat.reduceLeDiff, List.drop_zero, List.take_succ_cons, List.take_zero]
   refine (hstep x.2 letters[j] hxA hmem).use fun r hr => ?_
   subst hr
   refine hK _ ?_
   clear hK K
   refine zah (fid := f) (mt := []) [3, 9, 10, 11, 13, 14, 21, 22, 26, 33, 34, 45] rfl fun K hK => ?_
   simp only [go_sem, ints, reduceIte, Nat.reduceEqDiff, Int.reduceLE]
   refine hK _ ?_
   clear hK K
   have hxk : x.1 ∉ vis.map (·.1) := hks
   have htake := qlB (stp := stp) x hjt
   rw [hcj] at htake
   refine zae rfl (fun hc => ?_) (fun hc => ?_)
   ·have hne : stp x.2 letters[j] ≠ [] := by
     intro h0
     rw [h0] at hc
     simp at hc
    rw [if_neg hne] at htake
    have hnew : qdp (x.1 ++ [letters[j]]) es2 = none := hcj ▸ qrM (letters_nodup.sublist (List.take_sublist _ _)) hxk hjt hes2
    refine AW.region (fid := f) (mt := []) [3, 9, 10, 11, 21, 22, 26, 33, 34] rfl fun K hK => ?_
    simp only [go_sem, reduceIte, Nat.reduceEqDiff, Int.reduceLE, hf1, hf2, hf3, hf4, Nat.add_left_cancel_iff, qlR _ (List.getElem_mem hjl)]
    refine ⟨by simp only [List.length_cons, List.length_nil, maxLen, hxn]; omega, hf3, hK _ ?_⟩
    clear hK K
    refine AW.region (fid := f) (mt := []) [3, 9, 10, 11, 21, 22, 26, 33, 34] rfl fun K hK => ?_
    simp only [go_sem, reduceIte, Nat.reduceEqDiff, Int.reduceLE]
    refine hK _ ?_
    clear hK K
    refine ⟨(j + 1, mput (x.1 ++ [letters[j]]) (ints (stp x.2 letters[j])) es2), ⟨by dsimp only; omega, ?_⟩, by dsimp only; omega, ?_⟩
    ·dsimp only
     rw [qkq hnew, htake, ← List.append_assoc, List.map_append]
     exact hes2.append (List.Perm.refl _)
    dsimp only
    rw [qgM (by omega) hj']
    exact zak ⟨rfl, rfl, rfl, rfl, rfl, rfl, rfl, rfl, rfl, trivial⟩ ⟨qcB, by simp [hget, hf1, hf2, hf3, hf4, ints], by simp [hget, hf1, hf2, hf3, hf4], trivial⟩
   have he : stp x.2 letters[j] = [] := by
    have : ¬ 0 < (stp x.2 letters[j]).length := by simpa using hc
    exact List.eq_nil_of_length_eq_zero (by omega)
   rw [if_pos he, List.append_nil] at htake
   refine zac ?_
   refine AW.region (fid := f) (mt := []) [3, 9, 10, 11, 21, 22, 26, 33, 34] rfl fun K hK => ?_
   simp only [go_sem, reduceIte, Nat.reduceEqDiff, Int.reduceLE]
   refine hK _ ?_
   clear hK K
   refine ⟨(j + 1, es2), ⟨by dsimp only; omega, ?_⟩, by dsimp only; omega, ?_⟩
   ·dsimp only
    rw [htake]
    exact hes2
   dsimp only
   rw [qgM (by omega) hj']
   exact zak ⟨rfl, rfl, rfl, rfl, rfl, rfl, rfl, rfl, rfl, trivial⟩ ⟨qcB, by simp [hget, hf1, hf2, hf3, hf4], by simp [hget, hf1, hf2, hf3, hf4], trivial⟩
  have hj2 := qq6 hc hj
  subst hj2
  have htk : (letters.take j).take j = letters.take j := by rw [List.take_take, Nat.min_self]
  rw [htk] at hes2
  have hes3 : es2.Perm (((x :: vis).flatMap (ext1 stp (letters.take j))).map ent) := by
   refine hes2.trans (List.Perm.map _ ?_)
   rw [List.flatMap_cons]
   exact List.perm_append_comm
  refine AW.exit ?_
  refine zah (fid := f) (mt := []) [3, 9, 21, 22, 26, 55] rfl fun K hK => ?_
  simp only [go_sem, reduceIte, Nat.reduceEqDiff, Int.reduceLE, hf1, hf2, hf3, hf4, Nat.add_left_cancel_iff]
  have hle2 : es2.length = ((x :: vis).flatMap (ext1 stp (letters.take j))).length := by rw [hes3.length_eq, List.length_map]
  have htot : ((x :: vis).flatMap (ext1 stp (letters.take j))).length ≤ (lvl stp (letters.take j) set (i + 1)).length := by
   have := (qiL (stp := stp) (cs := letters.take j) hvr').length_eq
   rw [List.flatMap_append, List.length_append] at this
   show _ ≤ ((lvl stp (letters.take j) set i).flatMap _).length
   omega
  have hsmall : es2.length ≤ maxLen := by
   have hb : ∀ (y : WS), (ext1 stp (letters.take j) y).length ≤ 16 := fun y => by
    refine Nat.le_trans (List.length_filterMap_le _ _) ?_
    rw [List.length_take]
    exact Nat.le_trans (Nat.min_le_left _ _) hL
   rw [hle2, List.flatMap_cons, List.length_append]
   have := hb x
   simp only [maxLen]
   omega
  refine ⟨hsmall, hK _ ?_⟩
  clear hK K
  refine zae rfl (fun hc => ?_) (fun hc => ?_)
  ·have hbig : 4096 < es2.length := by
    have : (4096 : Int) < es2.length := by simpa using hc
    omega
   refine zah (fid := 79) (mt := []) [6, 7] rfl fun K hK => ?_
   simp only [go_sem, reduceIte, Nat.reduceEqDiff, Int.reduceLE]
   refine hK _ ?_
   clear hK K
   refine AW.ret ⟨.inr rfl, ?_⟩
   simp only [go_sem, reduceIte, Nat.reduceEqDiff]
   exact ⟨_, [], Conv.drop (fun _ _ h => by cases h), .inr ⟨i + 1, by omega, by omega, by omega, rfl, rfl⟩⟩
  have hsm : es2.length ≤ 4096 := by
   have : ¬ (4096 : Int) < es2.length := by simpa using hc
   omega
  refine zac ?_
  refine ⟨(x :: vis, l1 ++ l2, es2, true), ⟨hvr', hes3, by dsimp only; omega⟩, by simp, ?_⟩
  exact zak ⟨rfl, rfl, rfl, rfl, rfl, trivial⟩ ⟨qcB, by simp [hget, hf1, hf2, hf3, hf4], by simp [hget, hf1, hf2, hf3, hf4], trivial⟩
 have hi2 := qq6 hc hi
 subst hi2
 refine AW.exit ?_
 refine zah (fid := 79) (mt := []) [6, 7] rfl fun K hK => ?_
 simp only [go_sem, reduceIte, Nat.reduceEqDiff, Int.reduceLE]
 refine hK _ ?_
 clear hK K
 refine AW.ret ⟨.inr rfl, ?_⟩
 simp only [go_sem, reduceIte, Nat.reduceEqDiff]
 exact ⟨_, _, Conv.refl _ _, .inl ⟨hsz, _, _, _, rfl, rfl, hes⟩⟩
theorem qcA {l l' : List (Nat × HV)} {H : Heap} (h : leS l l') : (⟨l, H⟩ : AS).le ⟨l', H⟩ := ⟨qaO h, fun _ _ h => h⟩
set_option maxRecDepth 100000 in
theorem qhT {g : qaa} {s : Int} {L : List (Int × qam)} (h : qcs g s = some L) : qnw Tryz.prog 194 [] [gF g, .fptr [hI s] 0] (L.map fun x => [hI x.1, .agg [hI x.2.1, hI x.2.2.1, hI x.2.2.2]]) := by
  unfold qcs at h
  split at h
  · rename_i hm
    cases h
    obtain ⟨gl, gs, es⟩ := g
    dsimp only at hm ⊢
    intro id ver H J Stop K hmn h0 hstep hdone hstop
    refine ACall.of_body Tryz.func194 rfl rfl (lb rfl) ?_
    unfold Tryz.f194
    dsimp only [qaH, Nat.reduceAdd]
    refine zaa rfl fun K1 hK => ?_
    refine bv rfl (qac qbi rfl) (bv rfl (qab ty25 rfl (qan rfl rfl)) (bv rfl (qaI rfl rfl ty25 rfl) (mv rfl rfl ?_)))
    refine qah (hK _ (AW.to (qa9 (s' := ⟨[(0, .yl id ver), (2, .fptr [hI s] 0), (7, slE eFromLabelTo es), (8, .int .i64 (es.length : Int)), (9, .int .i64 ((0 : Nat) : Int))], H⟩) (qcA ⟨rfl, rfl, rfl, rfl, rfl, trivial⟩) ?_)))
    clear hK K1
    refine zaf ?_
    refine AW.loopS (fun p : Nat × Heap => ⟨[(0, .yl id ver), (2, .fptr [hI s] 0), (7, slE eFromLabelTo es), (8, .int .i64 (es.length : Int)), (9, .int .i64 (p.1 : Int))], p.2⟩)
      (fun p => p.1 ≤ es.length ∧ J (qel (es.take p.1) s).length p.2) (fun p => es.length - p.1) (0, H) (AS.le_refl _) ⟨Nat.zero_le _, h0⟩ ?_
    rintro ⟨i, H1⟩ ⟨hi, hj⟩
    dsimp only at hi hj ⊢
    refine zaa rfl fun K1 hK => ?_
    refine bv rfl (qae rfl rfl qaV) ?_
    refine qah (hK _ ?_)
    clear hK K1
    refine zam rfl (fun hc => ?_) (fun hc => ?_)
    · have hi' : i < es.length := by have := of_decide_eq_true hc; omega
      have hx : idx es (i : Int) = some es[i] := ix hi'
      obtain ⟨f, hf⟩ := qne H1 5
      refine zac ?_
      refine zad (zaf ?_)
      refine zaa rfl fun K1 hK => ?_
      refine mv rfl rfl (bv rfl (qaJ ty25 es25 rfl rfl (qaw hx)) (bv rfl (qab qcN rfl (qlm eFromLabelTo hx rfl rfl)) ?_))
      refine b_op rfl (qba (fid := f) (zs := [hI 0, hI 0, hI 0]) (f * 1000 + 5) rfl rfl qcN rfl (fun ov => ?_))
      refine mv rfl rfl ?_
      refine b_op rfl (qaD (cs := qa4 es[i]) (zs := qa4 es[i]) rfl rfl rfl qcN rfl qcB rfl rfl rfl ?_)
      refine qah (hK _ (AW.to (qa9 (s' := ⟨[(0, .yl id ver), (2, .fptr [hI s] 0), (4, .int .i64 (i : Int)), (5, .ptr (f * 1000 + 5) ov 0), (7, slE eFromLabelTo es), (8, .int .i64 (es.length : Int)), (9, .int .i64 (i : Int))], (f * 1000 + 5, ov, .arr 3 128 (qa4 es[i])) :: H1⟩) ⟨qaO ⟨rfl, rfl, rfl, rfl, rfl, rfl, rfl, trivial⟩, fun j x hx => ?_⟩ ?_)))
      · simp only [hget] at hx ⊢
        split <;> rename_i hij
        · rw [if_pos hij] at hx; exact hx
        first | exact hx | (rw [if_neg hij] at hx; first | exact hx | (rw [if_neg hij]; exact hx)) | (rw [if_neg hij]; exact hx)
      clear hK K1
      have hJ1 := hmn _ _ _ hj (qr0 (ver := ov) (ob := .arr 3 128 (qa4 es[i])) hf)
      refine zaa rfl fun K1 hK => ?_
      refine bv rfl (qao qcC rfl qcB) (bv rfl (qar ty33 rfl qcB (qan rfl rfl)) (bv rfl (qab ty33 rfl (qan rfl rfl)) (bv rfl (qae rfl rfl qd1) (mv rfl rfl ?_))))
      have htk := qmg es s hi'
      by_cases hs : es[i].1 = s
      · rw [if_pos hs] at htk
        obtain ⟨rest, hr⟩ := qli es s (i + 1)
        rw [htk] at hr
        refine b_T rfl rfl rfl rfl (decide_eq_true hs) (qaf rfl (qas rfl rfl).2 ?_)
        refine b_T rfl rfl rfl rfl rfl (qaf rfl (qas rfl rfl).2 ?_)
        refine b_T rfl rfl rfl rfl rfl (qaf rfl (qar qcN rfl qcB (qav (ds := qa4 es[i]) rfl (lb rfl) rfl)) ?_)
        refine b_T rfl rfl rfl rfl rfl (qoS (hs := [hI (i : Int), .agg (qa4 es[i])]) rfl rfl rfl ?_)
        refine (hstep (qel (es.take i) s).length [hI (i : Int), .agg (qa4 es[i])] _ ?_ hJ1).mono ?_
        · rw [List.getElem?_map, hr, List.append_assoc, List.getElem?_append_right (Nat.le_refl _), Nat.sub_self]
          rfl
        rintro r H2 ⟨b, rfl, h3, h4⟩
        refine b_T rfl rfl rfl rfl rfl (qaf rfl (qfu rfl) ?_)
        refine bv rfl (qaj rfl rfl rfl) ?_
        refine qah (hK _ (AW.to (qa9 (s' := ⟨[(0, .yl id ver), (2, .fptr [hI s] 0), (7, slE eFromLabelTo es), (8, .int .i64 (es.length : Int)), (9, .int .i64 (i : Int)), (24, .bool (!b))], H2⟩) (qcA ⟨rfl, rfl, rfl, rfl, rfl, rfl, trivial⟩) ?_)))
        clear hK K1
        refine zae rfl (fun hc => ?_) (fun hc => ?_)
        · have hb : b = false := by simpa using hc
          refine AW.ret ⟨.inr rfl, ?_⟩
          simp only [go_sem, reduceIte, Nat.reduceEqDiff]
          exact ⟨_, _, Conv.refl _ _, hstop _ (h4 hb)⟩
        have hb : b = true := by simpa using hc
        refine zac ?_
        refine AW.region (fid := f) (mt := []) [0, 2, 7, 8, 9] rfl fun K hK => ?_
        simp only [go_sem, reduceIte, Nat.reduceEqDiff, Int.reduceLE]
        refine hK _ ?_
        refine ⟨(i + 1, H2), ⟨by dsimp only; omega, ?_⟩, by dsimp only; omega, ?_⟩
        · dsimp only
          rw [htk, List.length_append]
          exact h3 hb
        dsimp only
        rw [qgM hm hi']
        exact AS.le_refl _
      rw [if_neg hs, List.append_nil] at htk
      refine b_F rfl rfl rfl rfl rfl (decide_eq_false hs) ?_
      iterate 4 refine b_F rfl rfl rfl rfl rfl rfl ?_
      refine bv rfl (qak rfl rfl rfl) ?_
      refine qah (hK _ (AW.to (qa9 (s' := ⟨[(0, .yl id ver), (2, .fptr [hI s] 0), (7, slE eFromLabelTo es), (8, .int .i64 (es.length : Int)), (9, .int .i64 (i : Int)), (24, .bool false)], _⟩) (qcA ⟨rfl, rfl, rfl, rfl, rfl, rfl, trivial⟩) ?_)))
      clear hK K1
      refine zae rfl (fun hc => by cases hc) (fun _ => ?_)
      refine zac ?_
      refine AW.region (fid := f) (mt := []) [0, 2, 7, 8, 9] rfl fun K hK => ?_
      simp only [go_sem, reduceIte, Nat.reduceEqDiff, Int.reduceLE]
      refine hK _ ?_
      refine ⟨(i + 1, (f * 1000 + 5, ov, .arr 3 128 (qa4 es[i])) :: H1), ⟨by dsimp only; omega, ?_⟩, by dsimp only; omega, ?_⟩
      · dsimp only
        rw [htk]
        exact hJ1
      dsimp only
      rw [qgM hm hi']
      exact AS.le_refl _
    have hi2 : es.length ≤ i := by have := of_decide_eq_false hc; omega
    have hie : i = es.length := by omega
    subst hie
    rw [List.take_length] at hj
    refine AW.exit ?_
    refine ⟨.inl rfl, ?_⟩
    simp only [go_sem, reduceIte, Nat.reduceEqDiff]
    exact ⟨_, _, Conv.refl _ _, hdone _ (by rw [List.length_map]; exact hj)⟩
  cases h
end Go.AW
namespace Go.Proofs
open Go
def zaF : Go.Shelf.Ren := ⟨fun | 138 => 112 | 195 => 163 | 218 => 164 | 143 => 165 | 219 => 197 | 217 => 162 | 225 => 226 | 224 => 227 | 267 => 228 | 266 => 196 | 314 => 249 | n => n, fun | 9 => 9 | 3 => 3 | 4 => 4 | 5 => 5 | 0 => 0 | 46 => 97 | 146 => 212 | 51 => 105 | n => n, fun | 1 => 0 | n => n⟩
theorem Tryz.count : Go.Proofs.Lays.n138 Tryz.prog zaF where
 mixed := by kernel_rfl
 f138 := Tryz.func112.trans (congrArg some (by kernel_rfl))
 f143 := Tryz.func165.trans (congrArg some (by kernel_rfl))
 f195 := Tryz.func163.trans (congrArg some (by kernel_rfl))
 f217 := Tryz.func162.trans (congrArg some (by kernel_rfl))
 f218 := Tryz.func164.trans (congrArg some (by kernel_rfl))
 f219 := Tryz.func197.trans (congrArg some (by kernel_rfl))
 f224 := Tryz.func227.trans (congrArg some (by kernel_rfl))
 f225 := Tryz.func226.trans (congrArg some (by kernel_rfl))
 f266 := Tryz.func196.trans (congrArg some (by kernel_rfl))
 f267 := Tryz.func228.trans (congrArg some (by kernel_rfl))
 f314 := Tryz.func249.trans (congrArg some (by kernel_rfl))
 t0 := Tryz.underlying0
 a0 := Tryz.isAgg0
 z0 := Tryz.sizeOf0
 v0 := Tryz.zeroValue0
 t3 := Tryz.underlying3
 a3 := Tryz.isAgg3
 z3 := Tryz.sizeOf3
 v3 := Tryz.zeroValue3
 t4 := Tryz.underlying4
 a4 := Tryz.isAgg4
 z4 := Tryz.sizeOf4
 v4 := Tryz.zeroValue4
 t5 := Tryz.underlying5
 a5 := Tryz.isAgg5
 z5 := Tryz.sizeOf5
 v5 := Tryz.zeroValue5
 t9 := Tryz.underlying9
 a9 := Tryz.isAgg9
 z9 := Tryz.sizeOf9
 v9 := Tryz.zeroValue9
 t46 := Tryz.underlying97
 a46 := Tryz.isAgg97
 z46 := Tryz.sizeOf97
 v46 := Tryz.zeroValue97
 t51 := Tryz.underlying105
 a51 := Tryz.isAgg105
 z51 := Tryz.sizeOf105
 v51 := Tryz.zeroValue105
 t146 := Tryz.underlying212
 a146 := Tryz.isAgg212
 z146 := Tryz.sizeOf212
 v146 := Tryz.zeroValue212
 g1 := by kernel_rfl
end Go.Proofs
namespace Go.AW
open Go Go.Proofs
theorem qpw (l : List UInt8) (c : UInt8) : Lib.countByte l c ≤ l.length := List.count_le_length
theorem qpv (l : List UInt8) (c : UInt8) (hl : l.length ≤ maxLen) : (Lit.int .i64 ((Lib.countByte l c : Nat) : Int)).wf = true := by
 have := qpw l c
 simp only [maxLen] at hl
 simp only [Lit.wf, IntKind.min, IntKind.max, IntKind.signed, IntKind.bits, Bool.and_eq_true, decide_eq_true_eq]
 simp
 omega
theorem qid {a0 a1 : List UInt8} {r : Int} (h : qfF a0 a1 = some r) : Pure Tryz.prog 112 [HV.str a0, HV.str a1] (· = HV.int .i64 r) := by
 unfold qfF at h
 split at h
 ·rename_i c
  cases h
  refine ⟨qdo Tryz.func112 rfl rfl, fun μ w vs hs hr _ => ?_⟩
  obtain ⟨x, xs, rfl, ⟨rfl, hl⟩, y, ys, rfl, ⟨rfl, _⟩, hn⟩ := hr
  cases hn
  refine (Any.strings_Count_one Tryz.count ⟨a0.toArray⟩ c w).mono ?_
  rintro e w' ⟨rfl, rfl⟩
  exact ⟨_, _, [], μ, rfl, ⟨rfl, trivial, rfl⟩, hs, ⟨by simp, qpv a0 c hl⟩, Evo.refl _ _⟩
 cases h
mutual
def HV.ren (ρ : Nat → Nat) : HV → HV
 | .int k n => .int k n
 | .bool b => .bool b
 | .str l => .str l
 | .v x => .v x
 | .agg cs => .agg (renL ρ cs)
 | .tup cs => .tup (renL ρ cs)
 | .sl k n cs => .sl k n (renL ρ cs)
 | .ar id ver k off n => .ar id (ρ ver) k off n
 | .ptr id ver off => .ptr id (ρ ver) off
 | .fptr cs off => .fptr (renL ρ cs) off
 | .fn f fs cs => .fn f (renL ρ fs) (renL ρ cs)
 | .mp id ver => .mp id (ρ ver)
 | .yl id ver => .yl id (ρ ver)
 | .it id ver => .it id (ρ ver)
def renL (ρ : Nat → Nat) : List HV → List HV
 | [] => []
 | c :: cs => c.ren ρ :: renL ρ cs
end
theorem qeu (ρ : Nat → Nat) : ∀ cs, renL ρ cs = cs.map (HV.ren ρ)
 | [] => by simp [renL]
 | c :: cs => by simp [renL, qeu ρ cs]
def renS (ρ : Nat → Nat) : List (Nat × HV) → List (Nat × HV)
 | [] => []
 | (t, h) :: l => (t, h.ren ρ) :: renS ρ l
def renE (ρ : Nat → Nat) : List (List UInt8 × HV) → List (List UInt8 × HV)
 | [] => []
 | (t, h) :: l => (t, h.ren ρ) :: renE ρ l
def AObj.ren (ρ : Nat → Nat) : AObj → AObj
 | .arr k e cs => .arr k e (renL ρ cs)
 | .map es => .map (renE ρ es)
 | .iter mid mver seen cur => .iter mid (ρ mver) seen cur
 | .loop st pend f n snap ps assign body => .loop st pend (ρ f) n (renS ρ snap) ps assign body
 | .kmap es => .kmap es
def renH (ρ : Nat → Nat) : Heap → Heap
 | [] => []
 | (i, v, o) :: l => (i, ρ v, o.ren ρ) :: renH ρ l
def AS.ren (ρ : Nat → Nat) (s : AS) : AS := ⟨renS ρ s.slots, renH ρ s.heap⟩
theorem qes (ρ : Nat → Nat) : ∀ (l : List (Nat × HV)) (t : Nat), sget (renS ρ l) t = (sget l t).map (HV.ren ρ)
 | [], t => rfl
 | (i, h) :: l, t => by
  simp only [renS, sget]
  split
  ·rfl
  exact qes ρ l t
theorem qdJ (ρ : Nat → Nat) : ∀ (l : Heap) (t : Nat), hget (renH ρ l) t = (hget l t).map fun x => (ρ x.1, x.2.ren ρ)
 | [], t => rfl
 | (i, v, o) :: l, t => by
  simp only [renH, hget]
  split
  ·rfl
  exact qdJ ρ l t
theorem qkk (ρ : Nat → Nat) : ∀ (l : List (Nat × HV)) (t : Nat) (h : HV), renS ρ (sset l t h) = sset (renS ρ l) t (h.ren ρ)
 | [], t, h => rfl
 | (i, g) :: l, t, h => by
  simp only [renS, sset]
  split
  ·rfl
  simp only [renS, qkk ρ l t h]
theorem qd5 (ρ : Nat → Nat) : ∀ (l : Heap) (t v : Nat) (o : AObj), renH ρ (hset l t v o) = hset (renH ρ l) t (ρ v) (o.ren ρ)
 | [], t, v, o => rfl
 | (i, w, p) :: l, t, v, o => by
  simp only [renH, hset]
  split
  ·rfl
  simp only [renH, qd5 ρ l t v o]
theorem qdW (ρ : Nat → Nat) (s : AS) (d : Option Tmp) (h : HV) : (s.put d h).ren ρ = (s.ren ρ).put d (h.ren ρ) := by
 cases d with
 | none => rfl
 | some t => simp [AS.put, AS.ren, qkk]
theorem qfe (ρ : Nat → Nat) (v : Value) : (qcj v).map (HV.ren ρ) = qcj v := by
 cases v with
 | int k n => simp only [qcj]; split <;> rfl
 | string s => simp only [qcj]; split <;> rfl
 | _ => rfl
theorem qaK (ρ : Nat → Nat) (s : AS) (x : Operand) : (s.ren ρ).ev x = (s.ev x).map (HV.ren ρ) := by
 cases x with
 | tmp t => exact qes ρ s.slots t
 | const v => exact (qfe ρ v).symm
 | global g => rfl
 | func f => rfl
theorem qmq (ρ : Nat → Nat) (s : AS) : ∀ xs : List Operand, xs.mapM (s.ren ρ).ev = (xs.mapM s.ev).map (renL ρ)
 | [] => rfl
 | x :: xs => by
  simp only [List.mapM_cons, Option.pure_def, Option.bind_eq_bind, qaK, qmq ρ s xs]
  cases s.ev x with
  | none => rfl
  | some h => cases xs.mapM s.ev <;> rfl
theorem qgO (ρ : Nat → Nat) (h : HV) : (h.ren ρ).cells? = h.cells?.map (renL ρ) := by
 cases h with
 | v x => simp only [HV.ren, HV.cells?]; split <;> rfl
 | _ => rfl
theorem qco (ρ : Nat → Nat) (cs : List HV) : (renL ρ cs).length = cs.length := by simp [qeu]
theorem qmX (ρ : Nat → Nat) (cs : List HV) (i : Nat) : (renL ρ cs)[i]? = cs[i]?.map (HV.ren ρ) := by simp [qeu]
theorem qdO (ρ : Nat → Nat) (cs : List HV) (i : Nat) : renL ρ (cs.drop i) = (renL ρ cs).drop i := by simp [qeu]
theorem qdg (ρ : Nat → Nat) (cs : List HV) (i : Nat) : renL ρ (cs.take i) = (renL ρ cs).take i := by simp [qeu]
theorem qbr (ρ : Nat → Nat) (cs ds : List HV) : renL ρ (cs ++ ds) = renL ρ cs ++ renL ρ ds := by simp [qeu]
theorem qqa (ρ : Nat → Nat) (cs : List HV) (i : Nat) (c : HV) : renL ρ (cs.set i c) = (renL ρ cs).set i (c.ren ρ) := by simp [qeu, List.map_set]
theorem qiI (ρ : Nat → Nat) (xs : List HV) (off : Nat) (cs : List HV) : renL ρ (qde xs off cs) = qde (renL ρ xs) off (renL ρ cs) := by
 match cs with
 | [] => simp [qde, renL, qbr, qdg, qdO]
 | [c] => simp [qde, renL, qqa]
 | c :: d :: cs => simp [qde, renL, qbr, qdg, qdO, qco]
mutual
def HV.sc (n : Nat) : HV → Bool
 | .agg cs | .tup cs | .sl _ _ cs | .fptr cs _ => scL n cs
 | .ar _ ver _ _ _ | .ptr _ ver _ | .mp _ ver | .yl _ ver | .it _ ver => Nat.blt ver n
 | .fn _ fs cs => scL n fs && scL n cs
 | _ => true
def scL (n : Nat) : List HV → Bool
 | [] => true
 | c :: cs => c.sc n && scL n cs
end
def scS (n : Nat) : List (Nat × HV) → Bool
 | [] => true
 | (_, h) :: l => h.sc n && scS n l
def scE (n : Nat) : List (List UInt8 × HV) → Bool
 | [] => true
 | (_, h) :: l => h.sc n && scE n l
def AObj.sc (n : Nat) : AObj → Bool
 | .arr _ _ cs => scL n cs
 | .map es => scE n es
 | .iter _ mver _ _ => Nat.blt mver n
 | .loop _ _ f _ snap _ _ _ => Nat.blt f n && scS n snap
 | .kmap _ => true
def scH (n : Nat) : Heap → Bool
 | [] => true
 | (i, v, o) :: l => (Nat.blt i n && Nat.blt v n) && o.sc n && scH n l
def AS.sc (n : Nat) (s : AS) : Bool := scS n s.slots && scH n s.heap
def Agree (n : Nat) (ρ ρ' : Nat → Nat) : Prop := ∀ v, v < n → ρ v = ρ' v
theorem Agree.refl (n : Nat) (ρ : Nat → Nat) : Agree n ρ ρ := fun _ _ => rfl
theorem Agree.trans {n m : Nat} {ρ ρ' ρ'' : Nat → Nat} (h : Agree n ρ ρ') (hn : n ≤ m) (h' : Agree m ρ' ρ'') : Agree n ρ ρ'' := fun v hv => (h v hv).trans (h' v (by omega))
def upd (ρ : Nat → Nat) (n v : Nat) : Nat → Nat := fun x => if x = n then v else ρ x
theorem Agree.upd (n v : Nat) (ρ : Nat → Nat) : Agree n ρ (upd ρ n v) := fun x hx => by simp only [AW.upd]; rw [if_neg (by omega)]
theorem qgq (ρ : Nat → Nat) (n v : Nat) : upd ρ n v n = v := by simp [AW.upd]
section
variable {n m : Nat} {ρ ρ' : Nat → Nat}
theorem qcq {a b : Nat} (h : Nat.blt a b = true) : a < b := by simpa [Nat.blt_eq] using h
mutual
theorem HV.ren_agree (ha : Agree n ρ ρ') : ∀ h : HV, h.sc n = true → h.ren ρ = h.ren ρ'
 | .int _ _, _ => rfl
 | .bool _, _ => rfl
 | .str _, _ => rfl
 | .v _, _ => rfl
 | .agg cs, h => congrArg HV.agg (qb0 ha cs h)
 | .tup cs, h => congrArg HV.tup (qb0 ha cs h)
 | .sl k m cs, h => congrArg (HV.sl k m) (qb0 ha cs h)
 | .ar id ver k off m, h => by simp only [HV.ren]; rw [ha ver (qcq h)]
 | .ptr id ver off, h => by simp only [HV.ren]; rw [ha ver (qcq h)]
 | .fptr cs off, h => congrArg (fun x => HV.fptr x off) (qb0 ha cs h)
 | .fn f fs cs, h => by
  simp only [HV.sc, Bool.and_eq_true] at h
  simp only [HV.ren]
  rw [qb0 ha fs h.1, qb0 ha cs h.2]
 | .mp id ver, h => by simp only [HV.ren]; rw [ha ver (qcq h)]
 | .yl id ver, h => by simp only [HV.ren]; rw [ha ver (qcq h)]
 | .it id ver, h => by simp only [HV.ren]; rw [ha ver (qcq h)]
theorem qb0 (ha : Agree n ρ ρ') : ∀ cs : List HV, scL n cs = true → renL ρ cs = renL ρ' cs
 | [], _ => rfl
 | c :: cs, h => by
  simp only [scL, Bool.and_eq_true] at h
  simp only [renL]
  rw [HV.ren_agree ha c h.1, qb0 ha cs h.2]
end
theorem qbM (ha : Agree n ρ ρ') : ∀ l, scS n l = true → renS ρ l = renS ρ' l
 | [], _ => rfl
 | (_, c) :: cs, h => by
  simp only [scS, Bool.and_eq_true] at h
  simp only [renS]
  rw [HV.ren_agree ha c h.1, qbM ha cs h.2]
theorem qjz (ha : Agree n ρ ρ') : ∀ l, scE n l = true → renE ρ l = renE ρ' l
 | [], _ => rfl
 | (_, c) :: cs, h => by
  simp only [scE, Bool.and_eq_true] at h
  simp only [renE]
  rw [HV.ren_agree ha c h.1, qjz ha cs h.2]
theorem AObj.ren_agree (ha : Agree n ρ ρ') : ∀ o : AObj, o.sc n = true → o.ren ρ = o.ren ρ'
 | .arr k e cs, h => congrArg (AObj.arr k e) (qb0 ha cs h)
 | .map es, h => congrArg AObj.map (qjz ha es h)
 | .iter mid mver seen cur, h => by simp only [AObj.ren]; rw [ha mver (qcq h)]
 | .loop st pend f n' snap ps a b, h => by
  simp only [AObj.sc, Bool.and_eq_true] at h
  simp only [AObj.ren]; rw [ha f (qcq h.1), qbM ha snap h.2]
 | .kmap es, _ => rfl
theorem qfR (ha : Agree n ρ ρ') : ∀ l, scH n l = true → renH ρ l = renH ρ' l
 | [], _ => rfl
 | (i, v, o) :: cs, h => by
  simp only [scH, Bool.and_eq_true] at h
  simp only [renH]
  rw [ha v (qcq h.1.1.2), AObj.ren_agree ha o h.1.2, qfR ha cs h.2]
theorem AS.ren_agree (ha : Agree n ρ ρ') (s : AS) (h : s.sc n = true) : s.ren ρ = s.ren ρ' := by
 simp only [AS.sc, Bool.and_eq_true] at h
 simp only [AS.ren]
 rw [qbM ha _ h.1, qfR ha _ h.2]
theorem qd9 {a : Nat} (hm : n ≤ m) (h : Nat.blt a n = true) : Nat.blt a m = true := by
 have := qcq h
 simp [Nat.blt_eq]; omega
mutual
theorem HV.sc_mono (hm : n ≤ m) : ∀ h : HV, h.sc n = true → h.sc m = true
 | .int _ _, _ => rfl
 | .bool _, _ => rfl
 | .str _, _ => rfl
 | .v _, _ => rfl
 | .agg cs, h => qdG hm cs h
 | .tup cs, h => qdG hm cs h
 | .sl k _ cs, h => qdG hm cs h
 | .ar id ver k off _, h => qd9 hm h
 | .ptr id ver off, h => qd9 hm h
 | .fptr cs off, h => qdG hm cs h
 | .fn f fs cs, h => by
  simp only [HV.sc, Bool.and_eq_true] at h ⊢
  exact ⟨qdG hm fs h.1, qdG hm cs h.2⟩
 | .mp id ver, h => qd9 hm h
 | .yl id ver, h => qd9 hm h
 | .it id ver, h => qd9 hm h
theorem qdG (hm : n ≤ m) : ∀ cs : List HV, scL n cs = true → scL m cs = true
 | [], _ => rfl
 | c :: cs, h => by
  simp only [scL, Bool.and_eq_true] at h ⊢
  exact ⟨HV.sc_mono hm c h.1, qdG hm cs h.2⟩
end
theorem qet (hm : n ≤ m) : ∀ l, scS n l = true → scS m l = true
 | [], _ => rfl
 | (_, c) :: cs, h => by
  simp only [scS, Bool.and_eq_true] at h ⊢
  exact ⟨HV.sc_mono hm c h.1, qet hm cs h.2⟩
theorem qmM (hm : n ≤ m) : ∀ l, scE n l = true → scE m l = true
 | [], _ => rfl
 | (_, c) :: cs, h => by
  simp only [scE, Bool.and_eq_true] at h ⊢
  exact ⟨HV.sc_mono hm c h.1, qmM hm cs h.2⟩
theorem AObj.sc_mono (hm : n ≤ m) : ∀ o : AObj, o.sc n = true → o.sc m = true
 | .arr k e cs, h => qdG hm cs h
 | .map es, h => qmM hm es h
 | .iter mid mver seen cur, h => qd9 hm h
 | .loop st pend f n' snap ps a b, h => by
  simp only [AObj.sc, Bool.and_eq_true] at h ⊢
  exact ⟨qd9 hm h.1, qet hm snap h.2⟩
 | .kmap es, _ => rfl
theorem qkb (hm : n ≤ m) : ∀ l, scH n l = true → scH m l = true
 | [], _ => rfl
 | (i, v, o) :: cs, h => by
  simp only [scH, Bool.and_eq_true] at h ⊢
  exact ⟨⟨⟨qd9 hm h.1.1.1, qd9 hm h.1.1.2⟩, AObj.sc_mono hm o h.1.2⟩, qkb hm cs h.2⟩
theorem AS.sc_mono (hm : n ≤ m) (s : AS) (h : s.sc n = true) : s.sc m = true := by
 simp only [AS.sc, Bool.and_eq_true] at h ⊢
 exact ⟨qet hm _ h.1, qkb hm _ h.2⟩
theorem qov : ∀ (l : List (Nat × HV)) (t : Nat) (h : HV), scS n l = true → h.sc n = true → scS n (sset l t h) = true
 | [], t, h, _, hh => by simp [sset, scS, hh]
 | (i, g) :: l, t, h, hl, hh => by
  simp only [scS, Bool.and_eq_true] at hl
  simp only [sset]
  split
  ·simp [scS, hh, hl.2]
  simp only [scS, Bool.and_eq_true]
  exact ⟨hl.1, qov l t h hl.2 hh⟩
theorem qgb : ∀ (l : Heap) (t v : Nat) (o : AObj), scH n l = true → t < n → v < n → o.sc n = true → scH n (hset l t v o) = true
 | [], t, v, o, _, ht, hv, hh => by simp [hset, scH, hh, Nat.blt_eq, hv, ht]
 | (i, w, g) :: l, t, v, o, hl, ht, hv, hh => by
  simp only [scH, Bool.and_eq_true] at hl
  simp only [hset]
  split
  ·rename_i e
   subst e
   simp [scH, hh, hl.2, Nat.blt_eq, hv, ht]
  simp only [scH, Bool.and_eq_true]
  exact ⟨hl.1, qgb l t v o hl.2 ht hv hh⟩
theorem qfj {s : AS} {d : Option Tmp} {h : HV} (hs : s.sc n = true) (hh : h.sc n = true) : (s.put d h).sc n = true := by
 cases d with
 | none => exact hs
 | some t =>
  simp only [AS.sc, Bool.and_eq_true] at hs
  simp only [AS.put, AS.sc, Bool.and_eq_true]
  exact ⟨qov _ _ _ hs.1 hh, hs.2⟩
theorem ql0 {s : AS} {id v : Nat} {o : AObj} (hs : s.sc n = true) (ht : id < n) (hv : v < n) (hh : o.sc n = true) : ({ s with heap := hset s.heap id v o } : AS).sc n = true := by
 simp only [AS.sc, Bool.and_eq_true] at hs ⊢
 exact ⟨hs.1, qgb _ _ _ _ hs.2 ht hv hh⟩
theorem qsn {l : List (Nat × HV)} {t : Nat} {h : HV} (hl : scS n l = true) (hg : sget l t = some h) : h.sc n = true := by
 induction l with
 | nil => cases hg
 | cons x l ih =>
  obtain ⟨i, g⟩ := x
  simp only [scS, Bool.and_eq_true] at hl
  simp only [sget] at hg
  split at hg
  ·cases hg; exact hl.1
  exact ih hl.2 hg
theorem qe1 {l : Heap} {id v : Nat} {o : AObj} (hl : scH n l = true) (hg : hget l id = some (v, o)) : (id < n ∧ v < n) ∧ o.sc n = true := by
 induction l with
 | nil => cases hg
 | cons x l ih =>
  obtain ⟨i, w, g⟩ := x
  simp only [scH, Bool.and_eq_true] at hl
  simp only [hget] at hg
  split at hg
  ·rename_i e; subst e; cases hg; exact ⟨⟨qcq hl.1.1.1, qcq hl.1.1.2⟩, hl.1.2⟩
  exact ih hl.2 hg
end
def qiz (l : List (Nat × HV)) : Nat → Option HV :=
 List.rec (motive := fun _ => Nat → Option HV) (fun _ => none) (fun p _ ih t => Bool.rec (motive := fun _ => Option HV) (ih t) (some p.2) (Nat.beq t p.1)) l
def qp0 (l : List (Nat × HV)) : Nat → HV → List (Nat × HV) :=
 List.rec (motive := fun _ => Nat → HV → List (Nat × HV)) (fun t v => [(t, v)]) (fun p l ih t v => Bool.rec (motive := fun _ => List (Nat × HV)) (p :: ih t v) ((p.1, v) :: l) (Nat.beq t p.1)) l
def qdY (l : Heap) : Nat → Option (Nat × AObj) :=
 List.rec (motive := fun _ => Nat → Option (Nat × AObj)) (fun _ => none) (fun p _ ih t => Bool.rec (motive := fun _ => Option (Nat × AObj)) (ih t) (some (p.2.1, p.2.2)) (Nat.beq t p.1)) l
def qfm (l : Heap) : Nat → Nat → AObj → Heap :=
 List.rec (motive := fun _ => Nat → Nat → AObj → Heap) (fun t v o => [(t, v, o)]) (fun p l ih t v o => Bool.rec (motive := fun _ => Heap) (p :: ih t v o) ((p.1, v, o) :: l) (Nat.beq t p.1)) l
theorem qnp {α : Type} (a b : Nat) (x y : α) : Bool.rec (motive := fun _ => α) y x (Nat.beq a b) = if a = b then x else y := by
 by_cases h : a = b
 ·subst h
  rw [if_pos rfl, Nat.beq_refl]
 rw [if_neg h]
 have : Nat.beq a b = false := by
  cases hb : Nat.beq a b with
  | false => rfl
  | true => exact absurd (Nat.eq_of_beq_eq_true hb) h
 rw [this]
theorem qax : qiz = sget := by
 funext l
 induction l with
 | nil => rfl
 | cons p l ih =>
  funext t
  obtain ⟨i, v⟩ := p
  show Bool.rec (motive := fun _ => Option HV) (qiz l t) (some v) (Nat.beq t i) = _
  rw [qnp, ih]
  rfl
theorem qpZ : qp0 = sset := by
 funext l
 induction l with
 | nil => rfl
 | cons p l ih =>
  funext t v
  obtain ⟨i, u⟩ := p
  show Bool.rec (motive := fun _ => List (Nat × HV)) ((i, u) :: qp0 l t v) ((i, v) :: l) (Nat.beq t i) = _
  rw [qnp, ih]
  rfl
theorem qay : qdY = hget := by
 funext l
 induction l with
 | nil => rfl
 | cons p l ih =>
  funext t
  obtain ⟨i, v, o⟩ := p
  show Bool.rec (motive := fun _ => Option (Nat × AObj)) (qdY l t) (some (v, o)) (Nat.beq t i) = _
  rw [qnp, ih]
  rfl
theorem qaE : qfm = hset := by
 funext l
 induction l with
 | nil => rfl
 | cons p l ih =>
  funext t v o
  obtain ⟨i, u, q⟩ := p
  show Bool.rec (motive := fun _ => Heap) ((i, u, q) :: qfm l t v o) ((i, v, o) :: l) (Nat.beq t i) = _
  rw [qnp, ih]
  rfl
def AS.evR (s : AS) (x : Operand) : Option HV := match x with
 | .tmp t => qiz s.slots t
 | .const v => qcj v
 | .global g => some (.v (.pointer (some ⟨g, 0, none⟩)))
 | .func f => some (.fn (.func f) [] [])
theorem qa0 : AS.evR = AS.ev := by
 funext s x
 cases x with
 | tmp t => show qiz s.slots t = sget s.slots t; rw [qax]
 | const v => rfl
 | global g => rfl
 | func f => rfl
def AS.putR (s : AS) (d : Option Tmp) (h : HV) : AS := match d with
 | some t => { s with slots := qp0 s.slots t h }
 | none => s
theorem qaN : AS.putR = AS.put := by
 funext s d h
 cases d with
 | none => rfl
 | some t => show ({ s with slots := qp0 s.slots t h } : AS) = { s with slots := sset s.slots t h }; rw [qpZ]
def aslR (s : AS) (lo : Option Operand) (d : Int) : Option Int := match lo with
 | none => some d
 | some x => match s.evR x with
  | some (.int _ n) => some n
  | _ => none
theorem qaU : aslR = asl := by
 funext s lo d
 unfold aslR asl
 rw [qa0]
 rfl
def qkM (s : AS) (ps : List (Nat × Operand)) : Option (List (Nat × HV)) := ps.mapM fun p => (s.evR p.2).map fun h => (p.1, h)
theorem qau : qkM = qdq := by
 funext s ps
 unfold qkM qdq
 rw [qa0]
def qjh (l : List (Nat × HV)) : List Nat → List (Nat × HV)
 | [] => []
 | t :: ts => match sget l t with
  | some v => (t, v) :: qjh l ts
  | none => qjh l ts
def qqs {α : Type} (l : List (Nat × HV)) (ks : List Nat) : (List (Nat × HV) → α) → α :=
 List.rec (motive := fun _ => (List (Nat × HV) → α) → α) (fun k => k []) (fun t _ ih k => match qiz l t with
  | some v => ih (fun l' => k ((t, v) :: l'))
  | none => ih k) ks
theorem qkC {α : Type} (l : List (Nat × HV)) : ∀ (ks : List Nat) (k : List (Nat × HV) → α), qqs l ks k = k (qjh l ks)
 | [], _ => rfl
 | t :: ts, k => by
  show (match qiz l t with
   | some v => qqs l ts (fun l' => k ((t, v) :: l'))
   | none => qqs l ts k) = _
  rw [qax]
  simp only [qjh]
  cases sget l t with
  | none => exact qkC l ts k
  | some v => exact qkC l ts _
theorem qiV {l : List (Nat × HV)} : ∀ {ks : List Nat} {t : Nat} {h : HV}, sget (qjh l ks) t = some h → sget l t = some h
 | [], _, _, h => by cases h
 | k :: ks, t, g, h => by
  simp only [qjh] at h
  cases hk : sget l k with
  | none => rw [hk] at h; exact qiV h
  | some v =>
   rw [hk] at h
   simp only [sget] at h
   split at h
   ·rename_i e
    subst e
    rw [hk]
    exact h
   exact qiV h
theorem qkB {n : Nat} {l : List (Nat × HV)} (hl : scS n l = true) : ∀ ks : List Nat, scS n (qjh l ks) = true
 | [] => rfl
 | k :: ks => by
  simp only [qjh]
  cases hk : sget l k with
  | none => exact qkB hl ks
  | some v =>
   simp only [scS, Bool.and_eq_true]
   exact ⟨qsn hl hk, qkB hl ks⟩
theorem qqr (ρ : Nat → Nat) (s : AS) (ks : List Nat) : (s.ren ρ).le ((⟨qjh s.slots ks, s.heap⟩ : AS).ren ρ) := by
 refine ⟨fun t hv h => ?_, fun _ _ h => h⟩
 simp only [AS.ren] at h ⊢
 rw [qes] at h ⊢
 cases hk : sget (qjh s.slots ks) t with
 | none => rw [hk] at h; cases h
 | some v => rw [hk] at h; rw [qiV hk]; exact h
def qkO (P : Program) (T : TypeId → Option TyI) : Prop := ∀ t x, T t = some x → ty P t = some x
def qk1 (T : TyI) (cs : List HV) (off : Nat) : Option HV :=
 bif aggD T.desc then (bif Nat.ble (off + T.size) cs.length then some (.agg ((cs.drop off).take T.size)) else none) else cs[off]?
theorem qdt {T : TyI} {cs : List HV} {off : Nat} {h : HV} (hs : qk1 T cs off = some h) {ρ : Nat → Nat} {R : HV → Prop} (hr : R (h.ren ρ)) : qc9 T (renL ρ cs) off R := by
 unfold qk1 at hs
 unfold qc9
 cases ha : aggD T.desc with
 | true =>
  rw [ha] at hs
  simp only [cond_true, if_true] at hs ⊢
  by_cases hb : Nat.ble (off + T.size) cs.length = true
  ·rw [hb] at hs
   cases hs
   refine ⟨by rw [qco]; exact Nat.le_of_ble_eq_true hb, ?_⟩
   simpa only [HV.ren, qdg, qdO] using hr
  simp [Bool.not_eq_true _ ▸ hb] at hs
 | false =>
  rw [ha] at hs
  simp only [cond_false, Bool.false_eq_true, if_false] at hs ⊢
  rw [qmX, hs]
  exact hr
def sbin (op : BinOp) (x y : HV) : Option HV :=
 match op, x, y with
 | .add, .int k a, .int k' b => if k = k' then some (.int k (k.wrap (a + b))) else none
 | .sub, .int k a, .int k' b => if k = k' then some (.int k (k.wrap (a - b))) else none
 | .mul, .int k a, .int k' b => if k = k' then some (.int k (k.wrap (a * b))) else none
 | .quo, .int k a, .int k' b => if k = k' ∧ b ≠ 0 then some (.int k (k.wrap (a.tdiv b))) else none
 | .rem, .int k a, .int k' b => if k = k' ∧ b ≠ 0 then some (.int k (a.tmod b)) else none
 | .eql, .int k a, .int k' b => if k = k' then some (.bool (decide (a = b))) else none
 | .neq, .int k a, .int k' b => if k = k' then some (.bool (decide (a ≠ b))) else none
 | .lss, .int k a, .int k' b => if k = k' then some (.bool (decide (a < b))) else none
 | .leq, .int k a, .int k' b => if k = k' then some (.bool (decide (a ≤ b))) else none
 | .gtr, .int k a, .int k' b => if k = k' then some (.bool (decide (b < a))) else none
 | .geq, .int k a, .int k' b => if k = k' then some (.bool (decide (b ≤ a))) else none
 | .add, .str a, .str b => if a.length + b.length ≤ maxLen then some (.str (a ++ b)) else none
 | .eql, .str a, .str b => some (.bool (decide (a = b)))
 | .neq, .str a, .str b => some (.bool (decide (a ≠ b)))
 | .lss, .str a, .str b => some (.bool (Op.bytesLess a b))
 | .gtr, .str a, .str b => some (.bool (!(Op.bytesLess a b || decide (a = b))))
 | .leq, .str a, .str b => some (.bool (Op.bytesLess a b || decide (a = b)))
 | .geq, .str a, .str b => some (.bool (!(Op.bytesLess a b)))
 | .shl, .int k a, .int _ b => if 0 ≤ b then some (.int k (k.wrap (a * 2 ^ min b.toNat k.bits))) else none
 | .shr, .int k a, .int _ b => if 0 ≤ b then some (.int k (a.fdiv (2 ^ min b.toNat k.bits))) else none
 | .and, .int k a, .int k' b => if k = k' then some (.int k (k.wrap (BitVec.ofInt k.bits a &&& BitVec.ofInt k.bits b).toNat)) else none
 | .or, .int k a, .int k' b => if k = k' then some (.int k (k.wrap (BitVec.ofInt k.bits a ||| BitVec.ofInt k.bits b).toNat)) else none
 | .xor, .int k a, .int k' b => if k = k' then some (.int k (k.wrap (BitVec.ofInt k.bits a ^^^ BitVec.ofInt k.bits b).toNat)) else none
 | _, _, _ => none
theorem qnD {op : BinOp} {x y h : HV} (hs : sbin op x y = some h) {ρ : Nat → Nat} {R : HV → Prop} (hr : R (h.ren ρ)) : abin op (x.ren ρ) (y.ren ρ) R := by
  unfold sbin at hs
  split at hs <;> first
    | (cases hs; exact hr)
    | (split at hs
       · rename_i hc
         cases hs
         first
           | exact ⟨hc, hr⟩
           | exact ⟨hc.1, hc.2, hr⟩
       cases hs)
    | cases hs
theorem qmy (ρ : Nat → Nat) (s : AS) (lo : Option Operand) (d : Int) : asl (s.ren ρ) lo d = asl s lo d := by
 unfold asl
 cases lo with
 | none => rfl
 | some x =>
  simp only [qaK]
  cases s.ev x with
  | none => rfl
  | some h => cases h <;> rfl
def qp7 (T : TypeId → Option TyI) (t : TypeId) : Option Nat :=
 match T t with
 | some ⟨.slice e, _, _, _⟩ => (T e).map (·.size)
 | some ⟨.array _ e, _, _, _⟩ => (T e).map (·.size)
 | _ => none
def qmO (T : TypeId → Option TyI) (S : TypeId) (f : Nat) : Option (Nat × TyI) :=
 match T S with
 | some ⟨.struct fs, _, _, _⟩ => match fs[f]? with
  | some fd => match T fd.type with
   | some U => if U.size = 0 then none else some (fd.offset, U)
   | none => none
  | none => none
 | _ => none
section
variable {P : Program} {T : TypeId → Option TyI}
theorem qdw (hT : qkO P T) {t : TypeId} {k : Nat} (h : qp7 T t = some k) : qbk P t = some k := by
 unfold qp7 at h
 split at h
 ·rename_i e _ _ _ ht
  obtain ⟨U, hU, rfl⟩ := Option.map_eq_some_iff.1 h
  simp [qbk, hT _ _ ht, hT _ _ hU]
 ·rename_i n e _ _ _ ht
  obtain ⟨U, hU, rfl⟩ := Option.map_eq_some_iff.1 h
  simp [qbk, hT _ _ ht, hT _ _ hU]
 cases h
theorem qfy (hT : qkO P T) {S : TypeId} {f : Nat} {r : Nat × TyI} (h : qmO T S f = some r) : qbt P S f = some r := by
 unfold qmO at h
 split at h
 ·rename_i fs _ _ _ ht
  split at h
  ·rename_i fd hfd
   split at h
   ·rename_i U hU
    split at h
    ·cases h
    rename_i h0
    cases h
    simp [qbt, hT _ _ ht, hfd, hT _ _ hU, h0]
   cases h
  cases h
 cases h
end
def qhG (H : Heap) (id ver : Nat) : Bool := match qdY H id with
 | some (v, _) => Nat.beq v ver
 | none => false
theorem qc7 {H : Heap} {id ver : Nat} {ρ : Nat → Nat} (h : qhG H id ver = true) : qgS (renH ρ H) id (ρ ver) := by
 unfold qhG at h
 rw [qay] at h
 unfold qgS
 rw [qdJ]
 cases hg : hget H id with
 | none => rw [hg] at h; cases h
 | some x =>
  obtain ⟨v, o⟩ := x
  rw [hg] at h
  have : v = ver := Nat.eq_of_beq_eq_true h
  simp [this]
def qaF {α : Type} (c : Bool) (x : Option α) : Option α := match c with
 | true => x
 | false => none
theorem qag {α : Type} {c : Bool} {x : Option α} {y : α} (h : qaF c x = some y) : c = true ∧ x = some y := by
 cases c with
 | true => exact ⟨rfl, h⟩
 | false => cases h
def qrs (T : TypeId → Option TyI) (op : BinOp) (tx : TypeId) (x y : HV) : Option HV :=
 match x, y with
 | .bool a, .bool b => match op, T tx with
  | .eql, some ⟨.bool, _, _, _⟩ => some (.bool (a == b))
  | .neq, some ⟨.bool, _, _, _⟩ => some (.bool (!(a == b)))
  | _, _ => none
 | _, _ => sbin op x y
theorem ql1 {P : Program} {T : TypeId → Option TyI} (hT : qkO P T) {op : BinOp} {tx : TypeId} {x y h : HV} (hs : qrs T op tx x y = some h) {ρ : Nat → Nat} {R : HV → Prop} (hr : R (h.ren ρ)) : qbl P op tx (x.ren ρ) (y.ren ρ) R := by
 unfold qrs at hs
 split at hs
 ·split at hs
  ·rename_i hU
   cases hs
   simp only [HV.ren, qbl, hT _ _ hU]
   exact hr
  ·rename_i hU
   cases hs
   simp only [HV.ren, qbl, hT _ _ hU]
   exact hr
  cases hs
 rename_i hno
 have := qnD hs hr
 unfold qbl
 split
 ·rename_i e1 e2
  exfalso
  cases x with
  | bool a => cases y with
   | bool b => exact hno _ _ rfl rfl
   | _ => cases e2
  | _ => cases e1
 ·rename_i e1 e2
  exfalso
  cases x with
  | agg a => simp [sbin] at hs
  | _ => cases e1
 exact this
def qqN (s : AS) (c a b : Operand) : Option HV := match s.evR c, s.evR a, s.evR b with
  | some (.bool true), some h, some _ => some h
  | some (.bool false), some _, some h => some h
  | _, _, _ => none
def qqO (T : TypeId → Option TyI) (s : AS) (t : TypeId) (a : Operand) : Option HV := match T t, s.evR a with
  | some U, some (.fptr cs off) => qk1 U cs off
  | some U, some (.ptr id ver off) => match qdY s.heap id with
   | some (ver', .arr _ _ cs) => qaF (Nat.beq ver ver') (qk1 U cs off)
   | _ => none
  | _, _ => none
def qsi (s : AS) (x : Operand) : Option HV := match s.evR x with
  | some (.ptr id ver off) => qaF (qhG s.heap id ver) (some (.ptr id ver off))
  | some (.fptr cs off) => some (.fptr cs off)
  | _ => none
def qsj (T : TypeId → Option TyI) (s : AS) (op : BinOp) (tx : TypeId) (x y : Operand) : Option HV := match s.evR x, s.evR y with
  | some h, some g => qrs T op tx h g
  | _, _ => none
def svUn (s : AS) (op : UnOp) (x : Operand) : Option HV := match op, s.evR x with
  | .not, some (.bool b) => some (.bool (!b))
  | .neg, some (.int k n) => some (.int k (k.wrap (0 - n)))
  | _, _ => none
def qqQ (T : TypeId → Option TyI) (s : AS) (src dst : TypeId) (x : Operand) : Option HV := match T src, T dst, s.evR x with
  | some _, some ⟨.int k, _, _, _⟩, some (.int _ n) => some (.int k (k.wrap n))
  | some _, some ⟨.string, _, _, _⟩, some (.int _ n) => some (.str (Utf8.encode n).data.toList)
  | some _, some ⟨.string, _, _, _⟩, some (.str l) => some (.str l)
  | _, _, _ => none
def qqP (s : AS) (fn : Fn) (first caps : Array Operand) : Option HV := match first.toList.mapM s.evR, caps.toList.mapM s.evR with
  | some fs, some cs => some (.fn fn fs cs)
  | _, _ => none
def qiv (T : TypeId → Option TyI) (s : AS) (S : TypeId) (x : Operand) (f : Nat) : Option HV := match qmO T S f, s.evR x with
  | some (o, _), some (.ptr id ver off) => qaF (qhG s.heap id ver) (some (.ptr id ver (off + o)))
  | some (o, _), some (.fptr cs off) => some (.fptr cs (off + o))
  | _, _ => none
def qok (T : TypeId → Option TyI) (s : AS) (S : TypeId) (x : Operand) (f : Nat) : Option HV := match qmO T S f, s.evR x with
  | some (o, U), some (.agg cs) => qk1 U cs o
  | _, _ => none
def qiu (T : TypeId → Option TyI) (s : AS) (t : TypeId) (x i : Operand) : Option HV := match T t, qp7 T t, s.evR x, s.evR i with
  | some ⟨.slice _, _, _, _⟩, some k', some (.sl k n cs), some (.int _ j) => qaF (decide (k = k' ∧ 0 ≤ j ∧ j < n)) (some (.fptr cs (j.toNat * k)))
  | some ⟨.slice _, _, _, _⟩, some k', some (.ar id ver k off n), some (.int _ j) => qaF (decide (k = k' ∧ 0 ≤ j ∧ j < n)) (qaF (qhG s.heap id ver) (some (.ptr id ver (off + j.toNat * k))))
  | some ⟨.array len _, _, _, _⟩, some k', some (.ptr id ver off), some (.int _ j) => qaF (decide (0 ≤ j ∧ j < len)) (qaF (qhG s.heap id ver) (some (.ptr id ver (off + j.toNat * k'))))
  | some ⟨.array len _, _, _, _⟩, some k', some (.fptr cs off), some (.int _ j) => qaF (decide (0 ≤ j ∧ j < len)) (some (.fptr cs (off + j.toNat * k')))
  | _, _, _, _ => none
def qoj (T : TypeId → Option TyI) (s : AS) (t : TypeId) (x i : Operand) : Option HV := match T t, s.evR x, s.evR i with
  | some ⟨.string, _, _, _⟩, some (.str l), some (.int _ j) => qaF (decide (0 ≤ j)) (match l[j.toNat]? with
   | some b => some (.int .u8 b.toNat)
   | none => none)
  | some ⟨.array len e, _, _, _⟩, some (.agg cs), some (.int _ j) => qaF (decide (0 ≤ j ∧ j < len)) (match T e with
   | some U => qk1 U cs (j.toNat * U.size)
   | none => none)
  | _, _, _ => none
def qkW (s : AS) (x : Operand) (i : Nat) : Option HV := match s.evR x with
  | some (.tup vs) => vs[i]?
  | _ => none
def qoi (T : TypeId → Option TyI) (s : AS) (t : TypeId) (x : Operand) (lo hi : Option Operand) : Option HV := match T t, qp7 T t, s.evR x with
  | some ⟨.string, _, _, _⟩, _, some (.str l) => match aslR s lo 0, aslR s hi l.length with
   | some a, some b => qaF (decide (0 ≤ a ∧ a ≤ b ∧ b ≤ l.length)) (some (.str ((l.take b.toNat).drop a.toNat)))
   | _, _ => none
  | some ⟨.slice _, _, _, _⟩, some k', some (.sl k n cs) => match aslR s lo 0, aslR s hi n with
   | some a, some b => qaF (decide (k = k' ∧ 0 ≤ a ∧ a ≤ b ∧ b ≤ n)) (some (.sl k (b.toNat - a.toNat) ((cs.take (b.toNat * k)).drop (a.toNat * k))))
   | _, _ => none
  | some ⟨.slice _, _, _, _⟩, some k', some (.ar id ver k off n) => match aslR s lo 0, aslR s hi n with
   | some a, some b => qaF (decide (k = k' ∧ 0 ≤ a ∧ a ≤ b ∧ b ≤ n ∧ (a = 0 ∨ a < n))) (qaF (qhG s.heap id ver) (some (.ar id ver k (off + a.toNat * k) (b.toNat - a.toNat))))
   | _, _ => none
  | _, _, _ => none
def qqR (T : TypeId → Option TyI) (s : AS) (c : Call) : Option HV := match c.callee, c.argTypes.toList, c.args.toList with
  | .builtin .len, [t], [x] => match T t, s.evR x with
   | some ⟨.string, _, _, _⟩, some (.str l) => some (.int .i64 l.length)
   | some ⟨.slice _, _, _, _⟩, some (.sl _ n _) => some (.int .i64 n)
   | some ⟨.slice _, _, _, _⟩, some (.ar id ver _ _ n) => qaF (qhG s.heap id ver) (some (.int .i64 n))
   | some ⟨.slice _, _, _, _⟩, some (.v (.slice none 0 0)) => some (.int .i64 0)
   | some ⟨.map _ _, _, _, _⟩, some (.v (.map none)) => some (.int .i64 0)
   | some ⟨.map _ _, _, _, _⟩, some (.mp id ver) => match qdY s.heap id with
    | some (ver', .map es) => qaF (Nat.beq ver ver' && Nat.ble es.length maxLen) (some (.int .i64 es.length))
    | _ => none
   | _, _ => none
  | .builtin .min, _, [x, y] => match s.evR x, s.evR y with
   | some (.int k a), some (.int k' c) => qaF (decide (k = k')) (some (.int k (min a c)))
   | _, _ => none
  | .builtin .max, _, [x, y] => match s.evR x, s.evR y with
   | some (.int k a), some (.int k' c) => qaF (decide (k = k')) (some (.int k (max a c)))
   | _, _ => none
  | .builtin .min, _, [x, y, z] => match s.evR x, s.evR y, s.evR z with
   | some (.int k a), some (.int k' c), some (.int k'' d) => qaF (decide (k = k' ∧ k = k'')) (some (.int k (min (min a c) d)))
   | _, _, _ => none
  | .builtin .max, _, [x, y, z] => match s.evR x, s.evR y, s.evR z with
   | some (.int k a), some (.int k' c), some (.int k'' d) => qaF (decide (k = k' ∧ k = k'')) (some (.int k (max (max a c) d)))
   | _, _, _ => none
  | _, _, _ => none
def sval (T : TypeId → Option TyI) (op : Op) (s : AS) : Option HV :=
 match op with
 | .move x => s.evR x
 | .assign x => s.evR x
 | .pick c a b => qqN s c a b
 | .load t a => qqO T s t a
 | .nilCheck x => qsi s x
 | .binOp op tx x y _ => qsj T s op tx x y
 | .unOp op _ x => svUn s op x
 | .convert src dst x => qqQ T s src dst x
 | .makeFunc fn first caps => qqP s fn first caps
 | .fieldAddr S x f => qiv T s S x f
 | .field S x f => qok T s S x f
 | .indexAddr t x i => qiu T s t x i
 | .index t x i => qoj T s t x i
 | .extract x i => qkW s x i
 | .slice t x lo hi none => qoi T s t x lo hi
 | .call c => qqR T s c
 | _ => none
theorem qmY (ρ : Nat → Nat) : ∀ l, (renE ρ l).length = l.length
 | [] => rfl
 | _ :: l => by simp [renE, qmY ρ l]
theorem qcU (ρ : Nat → Nat) {s : AS} {id v : Nat} {o : AObj} (h : hget s.heap id = some (v, o)) : hget (s.ren ρ).heap id = some (ρ v, o.ren ρ) := by
 show hget (renH ρ s.heap) id = _
 rw [qdJ, h]
 rfl
section
variable {P : Program} {T : TypeId → Option TyI} {s : AS} {ρ : Nat → Nat} {R : HV → Prop}
theorem qjp (hT : qkO P T) {op : Op} {r : HV} (h : sval T op s = some r) (hr : R (r.ren ρ)) : aval P op (s.ren ρ) R := by
 unfold sval at h
 simp only [qa0, qay, qaE, qax, qaN, qaU, qau] at h
 split at h
 ·simp only [aval, qaK, h, Option.map_some]; exact hr
 ·simp only [aval, qaK, h, Option.map_some]; exact hr
 ·-- pick
  unfold qqN at h
  try simp only [qa0, qay, qaE, qax, qaN, qaU, qau] at h
  rename_i c a b
  split at h
  ·rename_i h1 g hc ha hb
   cases h
   simp only [aval, qaK, hc, ha, hb, Option.map_some, HV.ren]
   split
   all_goals simp_all
  ·rename_i g h1 hc ha hb
   cases h
   simp only [aval, qaK, hc, ha, hb, Option.map_some, HV.ren]
   split
   all_goals simp_all
  cases h
 ·-- load
  unfold qqO at h
  try simp only [qa0, qay, qaE, qax, qaN, qaU, qau] at h
  split at h
  ·rename_i U cs off hU hx
   simp only [aval, qaK, hT _ _ hU, hx, Option.map_some, HV.ren]
   exact qdt h hr
  ·rename_i U id ver off hU hx
   split at h
   ·rename_i ver' k e cs hg
    obtain ⟨hv, h'⟩ := qag h
    have hv := Nat.eq_of_beq_eq_true hv
    subst hv
    simp only [aval, qaK, hT _ _ hU, hx, Option.map_some, HV.ren, qcU ρ hg, AObj.ren]
    exact ⟨trivial, qdt h' hr⟩
   cases h
  cases h
 ·-- nilCheck
  unfold qsi at h
  try simp only [qa0, qay, qaE, qax, qaN, qaU, qau] at h
  split at h
  ·rename_i id ver off hx
   obtain ⟨hv, h⟩ := qag h
   cases h
   have := qc7 (ρ := ρ) hv
   simp only [aval, qaK, hx, Option.map_some, HV.ren]
   unfold qgS at this
   have e : (s.ren ρ).heap = renH ρ s.heap := rfl
   rw [e]
   cases hh : hget (renH ρ s.heap) id with
   | none => rw [hh] at this; exact this
   | some x => rw [hh] at this; exact ⟨this.symm, hr⟩
  ·rename_i cs off hx
   cases h
   simp only [aval, qaK, hx, Option.map_some, HV.ren]
   exact hr
  cases h
 ·-- binOp
  unfold qsj at h
  try simp only [qa0, qay, qaE, qax, qaN, qaU, qau] at h
  split at h
  ·rename_i x y hx hy
   simp only [aval, qaK, hx, hy, Option.map_some]
   exact ql1 hT h hr
  cases h
 ·-- unOp
  unfold svUn at h
  try simp only [qa0, qay, qaE, qax, qaN, qaU, qau] at h
  split at h
  ·rename_i b hx
   cases h
   simp only [aval, qaK, hx, Option.map_some, HV.ren]
   exact hr
  ·rename_i k n hx
   cases h
   simp only [aval, qaK, hx, Option.map_some, HV.ren]
   exact hr
  cases h
 ·-- convert
  unfold qqQ at h
  try simp only [qa0, qay, qaE, qax, qaN, qaU, qau] at h
  split at h
  ·rename_i U k _ _ _ k0 n hU hD hx
   cases h
   simp only [aval, qaK, hT _ _ hU, hT _ _ hD, hx, Option.map_some, HV.ren]
   exact hr
  ·rename_i U _ _ _ k0 n hU hD hx
   cases h
   simp only [aval, qaK, hT _ _ hU, hT _ _ hD, hx, Option.map_some, HV.ren]
   exact hr
  ·rename_i U _ _ _ l hU hD hx
   cases h
   simp only [aval, qaK, hT _ _ hU, hT _ _ hD, hx, Option.map_some, HV.ren]
   exact hr
  cases h
 ·-- makeFunc
  unfold qqP at h
  try simp only [qa0, qay, qaE, qax, qaN, qaU, qau] at h
  split at h
  ·rename_i fs cs hf hc
   cases h
   simp only [aval, qmq, hf, hc, Option.map_some]
   exact hr
  cases h
 ·-- fieldAddr
  unfold qiv at h
  try simp only [qa0, qay, qaE, qax, qaN, qaU, qau] at h
  split at h
  ·rename_i o U id ver off hF hx
   obtain ⟨hv, h⟩ := qag h
   cases h
   simp only [aval, qfy hT hF, qaK, hx, Option.map_some, HV.ren]
   exact ⟨qc7 hv, hr⟩
  ·rename_i o U cs off hF hx
   cases h
   simp only [aval, qfy hT hF, qaK, hx, Option.map_some, HV.ren]
   exact hr
  cases h
 ·-- field
  unfold qok at h
  try simp only [qa0, qay, qaE, qax, qaN, qaU, qau] at h
  split at h
  ·rename_i o U cs hF hx
   simp only [aval, qfy hT hF, qaK, hx, Option.map_some, HV.ren]
   exact qdt h hr
  cases h
 ·-- indexAddr
  unfold qiu at h
  try simp only [qa0, qay, qaE, qax, qaN, qaU, qau] at h
  split at h
  ·rename_i e _ _ _ k' k n cs kk j hU hE hx hi
   obtain ⟨hv, h⟩ := qag h
   cases h
   simp only [aval, hT _ _ hU, qdw hT hE, qaK, hx, hi, Option.map_some, HV.ren]
   obtain ⟨h1, h2, h3⟩ := of_decide_eq_true hv
   exact ⟨h1, h2, h3, hr⟩
  ·rename_i e _ _ _ k' id ver k off n kk j hU hE hx hi
   obtain ⟨hv, h⟩ := qag h
   obtain ⟨ha, h⟩ := qag h
   cases h
   simp only [aval, hT _ _ hU, qdw hT hE, qaK, hx, hi, Option.map_some, HV.ren]
   obtain ⟨h1, h2, h3⟩ := of_decide_eq_true hv
   exact ⟨h1, h2, h3, qc7 ha, hr⟩
  ·rename_i len e _ _ _ k' id ver off kk j hU hE hx hi
   obtain ⟨hv, h⟩ := qag h
   obtain ⟨ha, h⟩ := qag h
   cases h
   simp only [aval, hT _ _ hU, qdw hT hE, qaK, hx, hi, Option.map_some, HV.ren]
   obtain ⟨h1, h2⟩ := of_decide_eq_true hv
   exact ⟨h1, h2, qc7 ha, hr⟩
  ·rename_i len e _ _ _ k' cs off kk j hU hE hx hi
   obtain ⟨hv, h⟩ := qag h
   cases h
   simp only [aval, hT _ _ hU, qdw hT hE, qaK, hx, hi, Option.map_some, HV.ren]
   obtain ⟨h1, h2⟩ := of_decide_eq_true hv
   exact ⟨h1, h2, hr⟩
  cases h
 ·-- index
  unfold qoj at h
  try simp only [qa0, qay, qaE, qax, qaN, qaU, qau] at h
  split at h
  ·rename_i _ _ _ l k j hU hx hi
   obtain ⟨hv, h⟩ := qag h
   split at h
   ·rename_i b hb
    cases h
    simp only [aval, hT _ _ hU, qaK, hx, hi, Option.map_some, HV.ren, hb]
    exact ⟨of_decide_eq_true hv, hr⟩
   cases h
  ·rename_i len e _ _ _ cs k j hU hx hi
   obtain ⟨hv, h⟩ := qag h
   split at h
   ·rename_i U hE
    simp only [aval, hT _ _ hU, qaK, hx, hi, Option.map_some, HV.ren, hT _ _ hE]
    obtain ⟨h1, h2⟩ := of_decide_eq_true hv
    exact ⟨h1, h2, qdt h hr⟩
   cases h
  cases h
 ·-- extract
  unfold qkW at h
  try simp only [qa0, qay, qaE, qax, qaN, qaU, qau] at h
  split at h
  ·rename_i vs hx
   simp only [aval, qaK, hx, Option.map_some, HV.ren, qmX, h]
   exact hr
  cases h
 ·-- slice
  unfold qoi at h
  try simp only [qa0, qay, qaE, qax, qaN, qaU, qau] at h
  split at h
  ·rename_i _ _ _ l hU hx
   split at h
   ·rename_i a b ha hb
    obtain ⟨hv, h⟩ := qag h
    cases h
    simp only [aval, hT _ _ hU, qaK, hx, Option.map_some, HV.ren, qmy, ha, hb]
    obtain ⟨h1, h2, h3⟩ := of_decide_eq_true hv
    exact ⟨h1, h2, h3, hr⟩
   cases h
  ·rename_i e _ _ _ k' k n cs hU hE hx
   split at h
   ·rename_i a b ha hb
    obtain ⟨hv, h⟩ := qag h
    cases h
    simp only [aval, hT _ _ hU, qdw hT hE, qaK, hx, Option.map_some, HV.ren, qmy, ha, hb]
    obtain ⟨h1, h2, h3, h4⟩ := of_decide_eq_true hv
    refine ⟨h1, h2, h3, h4, ?_⟩
    rw [← qdg, ← qdO]
    exact hr
   cases h
  ·rename_i e _ _ _ k' id ver k off n hU hE hx
   split at h
   ·rename_i a b ha hb
    obtain ⟨hv, h⟩ := qag h
    obtain ⟨hl, h⟩ := qag h
    cases h
    simp only [aval, hT _ _ hU, qdw hT hE, qaK, hx, Option.map_some, HV.ren, qmy, ha, hb]
    obtain ⟨h1, h2, h3, h4, h5⟩ := of_decide_eq_true hv
    exact ⟨h1, h2, h3, h4, h5, qc7 hl, hr⟩
   cases h
  cases h
 ·-- call
  unfold qqR at h
  try simp only [qa0, qay, qaE, qax, qaN, qaU, qau] at h
  split at h
  ·rename_i c t x hc ht hx
   split at h
   ·rename_i _ _ _ l hU hl
    cases h
    simp only [aval, hc, ht, hx, hT _ _ hU, qaK, hl, Option.map_some, HV.ren]; exact hr
   ·rename_i e _ _ _ k n cs hU hl
    cases h
    simp only [aval, hc, ht, hx, hT _ _ hU, qaK, hl, Option.map_some, HV.ren]; exact hr
   ·rename_i e _ _ _ id ver k off n hU hl
    obtain ⟨hv, h⟩ := qag h
    cases h
    simp only [aval, hc, ht, hx, hT _ _ hU, qaK, hl, Option.map_some, HV.ren]; exact ⟨qc7 hv, hr⟩
   ·rename_i e _ _ _ hU hl
    cases h
    simp only [aval, hc, ht, hx, hT _ _ hU, qaK, hl, Option.map_some, HV.ren]; exact hr
   ·rename_i e _ _ _ hU hl
    cases h
    simp only [aval, hc, ht, hx, hT _ _ hU, qaK, hl, Option.map_some, HV.ren]; exact hr
   ·rename_i e _ _ _ _ id ver hU hl
    split at h
    ·rename_i ver' es hg
     obtain ⟨hv, h⟩ := qag h
     cases h
     simp only [Bool.and_eq_true] at hv
     have hve := Nat.eq_of_beq_eq_true hv.1
     subst hve
     simp only [aval, hc, ht, hx, hT _ _ hU, qaK, hl, Option.map_some, HV.ren, qcU ρ hg, AObj.ren, qmY]
     exact ⟨trivial, Nat.le_of_ble_eq_true hv.2, hr⟩
    cases h
   cases h
  ·rename_i c x y hc hx
   split at h
   ·rename_i k a k' b ha hb
    obtain ⟨hv, h⟩ := qag h
    cases h
    simp only [aval, hc, hx, qaK, ha, hb, Option.map_some, HV.ren]
    exact ⟨.inl trivial, of_decide_eq_true hv, hr⟩
   cases h
  ·rename_i c x y hc hx
   split at h
   ·rename_i k a k' b ha hb
    obtain ⟨hv, h⟩ := qag h
    cases h
    simp only [aval, hc, hx, qaK, ha, hb, Option.map_some, HV.ren]
    exact ⟨.inr trivial, of_decide_eq_true hv, hr⟩
   cases h
  ·rename_i c x y z hc hx
   split at h
   ·rename_i k a k' b k'' d ha hb hd
    obtain ⟨hv, h⟩ := qag h
    cases h
    simp only [aval, hc, hx, qaK, ha, hb, hd, Option.map_some, HV.ren]
    obtain ⟨h1, h2⟩ := of_decide_eq_true hv
    exact ⟨.inl trivial, h1, h2, hr⟩
   cases h
  ·rename_i c x y z hc hx
   split at h
   ·rename_i k a k' b k'' d ha hb hd
    obtain ⟨hv, h⟩ := qag h
    cases h
    simp only [aval, hc, hx, qaK, ha, hb, hd, Option.map_some, HV.ren]
    obtain ⟨h1, h2⟩ := of_decide_eq_true hv
    exact ⟨.inr trivial, h1, h2, hr⟩
   cases h
  cases h
 cases h
end
def LoopKeep (H H' : Heap) : Prop := ∀ id v st pend f n snap ps a b, hget H id = some (v, .loop st pend f n snap ps a b) → ∀ x, hget H' id = some x → ∃ st' pend', x = (v, .loop st' pend' f n snap ps a b)
theorem LoopKeep.refl (H : Heap) : LoopKeep H H := fun _ _ _ _ _ _ _ _ _ _ h x hx => by rw [h] at hx; cases hx; exact ⟨_, _, rfl⟩
theorem LoopKeep.set {H : Heap} {id v : Nat} {o : AObj} (h : ∀ v st pend f n snap ps a b, hget H id ≠ some (v, .loop st pend f n snap ps a b)) : LoopKeep H (hset H id v o) := by
 intro j u st pend f n snap ps a b hj x hx
 rw [qal] at hx
 split at hx
 ·rename_i e; subst e; exact absurd hj (h _ _ _ _ _ _ _ _ _)
 rw [hj] at hx; cases hx; exact ⟨_, _, rfl⟩
theorem zar {H : Heap} {id v : Nat} {st st' : LoopState} {pend pend' : Option Code} {f n : Nat} {snap : List (Nat × HV)} {ps : Array Tmp} {a b : Code}
  (h : hget H id = some (v, .loop st pend f n snap ps a b)) : LoopKeep H (hset H id v (.loop st' pend' f n snap ps a b)) := by
 intro j u st2 pend2 f2 n2 snap2 ps2 a2 b2 hj x hx
 rw [qal] at hx
 split at hx
 ·rename_i e; subst e; rw [h] at hj; cases hj; cases hx; exact ⟨_, _, rfl⟩
 rw [hj] at hx; cases hx; exact ⟨_, _, rfl⟩
theorem LoopKeep.trans {H H1 H2 : Heap} (h : LoopKeep H H1) (h' : LoopKeep H1 H2) (hd : ∀ id x, hget H id = some x → ∀ y, hget H2 id = some y → ∃ z, hget H1 id = some z) : LoopKeep H H2 := by
 intro j u st pend f n snap ps a b hj x hx
 obtain ⟨z, hz⟩ := hd j _ hj x hx
 obtain ⟨st1, p1, rfl⟩ := h _ _ _ _ _ _ _ _ _ _ hj z hz
 exact h' _ _ _ _ _ _ _ _ _ _ hz x hx
def Back (n : Nat) (H H' : Heap) : Prop := ∀ id, id < n → ∀ y, hget H' id = some y → ∃ z, hget H id = some z
theorem Back.refl (n : Nat) (H : Heap) : Back n H H := fun _ _ y h => ⟨y, h⟩
theorem Back.trans {n m : Nat} {H H1 H2 : Heap} (h : Back n H H1) (hn : n ≤ m) (h' : Back m H1 H2) : Back n H H2 := fun id hid y hy => by
 obtain ⟨z, hz⟩ := h' id (by omega) y hy
 exact h id hid z hz
theorem Back.set {n id v : Nat} {H : Heap} {o : AObj} (h : n ≤ id ∨ ∃ x, hget H id = some x) : Back n H (hset H id v o) := fun j hj y hy => by
 rw [qal] at hy
 split at hy
 ·rename_i e; subst e; exact h.elim (fun h => by omega) id
 exact ⟨y, hy⟩
theorem qou {n id : Nat} {H : Heap} {x : Nat × AObj} (h : scH n H = true) (hg : hget H id = some x) : id < n := (qe1 (o := x.2) (v := x.1) h hg).1.1
theorem qk6 {n : Nat} {H : Heap} (h : scH n H = true) : hget H n = none := by
 cases hg : hget H n with
 | none => rfl
 | some x => exact absurd (qou h hg) (by omega)
structure Step (n n' : Nat) (H H' : Heap) : Prop where
 le : n ≤ n'
 loop : LoopKeep H H'
 back : Back n H H'
theorem Step.refl (n : Nat) (H : Heap) : Step n n H H := ⟨Nat.le_refl _, LoopKeep.refl H, Back.refl n H⟩
theorem Step.trans {n n1 n2 : Nat} {H H1 H2 : Heap} (hs : scH n H = true) (h : Step n n1 H H1) (h' : Step n1 n2 H1 H2) : Step n n2 H H2 :=
 ⟨Nat.le_trans h.le h'.le, h.loop.trans h'.loop fun id x hx y hy => h'.back id (Nat.lt_of_lt_of_le (qou hs hx) h.le) y hy, h.back.trans h.le h'.back⟩
inductive Task where
 | code (top : Bool) (N : Nat) (c : Code) (s : AS) (n : Nat)
 | call (f : FuncId) (args : List HV) (H : Heap) (n : Nat)
inductive Out where
 | code (e : Exit) (s : AS) (n : Nat)
 | call (rv : HV) (H : Heap) (n : Nat)
def Sem (P : Program) : Task → Out → Prop
 | .code top N c s n, .code e s' n' => s.sc n = true → s'.sc n' = true ∧ Step n n' s.heap s'.heap ∧
   ∀ (ρ : Nat → Nat) (ro : Option Nat) (Q : Exit → AS → Prop), (top = true → ro = none) → (∀ ρ', Agree n ρ ρ' → Q e (s'.ren ρ')) → AW P ro N c Q (s.ren ρ)
 | .call f args H n, .call rv H' n' => scL n args = true → scH n H = true → rv.sc n' = true ∧ scH n' H' = true ∧ Step n n' H H' ∧
   ∀ (ρ : Nat → Nat) (K : HV → Heap → Prop), (∀ ρ', Agree n ρ ρ' → K (rv.ren ρ') (renH ρ' H')) → ACall P f (renL ρ args) (renH ρ H) K
 | _, _ => False
def Good (P : Program) (r : Task → Option Out) : Prop := ∀ t o, r t = some o → Sem P t o
def OpOk (P : Program) (N : Nat) (o : Oper) (s : AS) (n : Nat) (s' : AS) (n' : Nat) : Prop := s'.sc n' = true ∧ Step n n' s.heap s'.heap ∧
 ∀ (ρ : Nat → Nat) (ro : Option Nat) (K : AS → Prop), (∀ ρ', Agree n ρ ρ' → K (s'.ren ρ')) → AOp P ro N o K (s.ren ρ)
def fin (s : AS) (n : Nat) (d : Option Tmp) (h : HV) : Option (AS × Nat) := qaF (h.sc n) (some (s.putR d h, n))
def new (s : AS) (n : Nat) (d : Option Tmp) (id : Nat) (o : AObj) (h : HV) : Option (AS × Nat) := qaF (o.sc n) (some (({ s with heap := qfm s.heap id n o } : AS).putR d h, n + 1))
section
variable {P : Program} {N n n' : Nat} {o : Oper} {s s' : AS}
theorem qbL (hs : s.sc n = true) : scH n s.heap = true := by
 simp only [AS.sc, Bool.and_eq_true] at hs; exact hs.2
theorem qbT (hs : s.sc n = true) : scS n s.slots = true := by
 simp only [AS.sc, Bool.and_eq_true] at hs; exact hs.1
theorem qcR (s : AS) (d : Option Tmp) (h : HV) : (s.put d h).heap = s.heap := by cases d <;> rfl
theorem qlz {h : HV} (hs : s.sc n = true) (he : fin s n o.dst h = some (s', n')) (hk : ∀ (ρ : Nat → Nat) (ro : Option Nat) (K : AS → Prop), K ((s.ren ρ).put o.dst (h.ren ρ)) → AOp P ro N o K (s.ren ρ)) : OpOk P N o s n s' n' := by
 unfold fin at he
 rw [qaN] at he
 obtain ⟨h1, h2⟩ := qag he
 cases h2
 refine ⟨qfj hs h1, by rw [qcR]; exact Step.refl _ _, fun ρ ro K hK => hk ρ ro K ?_⟩
 rw [← qdW]
 exact hK ρ (Agree.refl _ _)
theorem qiQ {id : Nat} {ob : AObj} {h : HV} (hs : s.sc n = true) (hid : id = n ∨ ∃ v k e cs, hget s.heap id = some (v, .arr k e cs)) (hh : h.sc (n + 1) = true) (he : new s n o.dst id ob h = some (s', n'))
  (hk : ∀ (ρ : Nat → Nat) (ro : Option Nat) (K : AS → Prop), (∀ ver, K ((⟨(s.ren ρ).slots, hset (s.ren ρ).heap id ver (ob.ren ρ)⟩ : AS).put o.dst (h.ren (upd ρ n ver)))) → AOp P ro N o K (s.ren ρ)) : OpOk P N o s n s' n' := by
 unfold new at he
 rw [qaN, qaE] at he
 obtain ⟨h1, h2⟩ := qag he
 cases h2
 have hsh := qbL hs
 have hidn : id < n + 1 := by
  rcases hid with rfl | ⟨v, k, e, cs, hg⟩
  ·omega
  have := qou hsh hg; omega
 refine ⟨qfj (ql0 (AS.sc_mono (Nat.le_succ n) s hs) hidn (by omega) (AObj.sc_mono (Nat.le_succ n) ob h1)) hh, ?_, fun ρ ro K hK => hk ρ ro K fun ver => ?_⟩
 ·rw [qcR]
  refine ⟨by omega, LoopKeep.set ?_, Back.set ?_⟩
  ·rcases hid with rfl | ⟨v, k, e, cs, hg⟩
   ·rw [qk6 hsh]; intros; simp
   rw [hg]; intros; simp
  rcases hid with rfl | ⟨v, k, e, cs, hg⟩
  ·exact .inl (Nat.le_refl _)
  exact .inr ⟨_, hg⟩
 have := hK (upd ρ n ver) (Agree.upd n ver ρ)
 rw [qdW] at this
 have e : (⟨s.slots, hset s.heap id n ob⟩ : AS).ren (upd ρ n ver) = ⟨(s.ren ρ).slots, hset (s.ren ρ).heap id ver (ob.ren ρ)⟩ := by
  simp only [AS.ren, qd5, qgq]
  rw [← qbM (Agree.upd n ver ρ) _ (qbT hs), ← qfR (Agree.upd n ver ρ) _ hsh, ← AObj.ren_agree (Agree.upd n ver ρ) _ h1]
 rw [e] at this
 exact this
end
theorem qhl (ρ : Nat → Nat) (s : AS) : ∀ ps : List (Nat × Operand), qdq (s.ren ρ) ps = (qdq s ps).map (renS ρ)
 | [] => rfl
 | p :: ps => by
  have ih := qhl ρ s ps
  unfold qdq at ih ⊢
  simp only [List.mapM_cons, Option.pure_def, Option.bind_eq_bind]
  rw [ih, qaK]
  cases s.ev p.2 with
  | none => rfl
  | some h =>
   simp only [Option.map_some, Option.bind_some]
   cases List.mapM (fun p => Option.map (fun h => (p.fst, h)) (s.ev p.snd)) ps with
   | none => rfl
   | some qs => rfl
theorem qja (ρ : Nat → Nat) (place : Nat → Option (Nat × Nat)) : ∀ (qs : List (Nat × HV)) (cells : List HV), qfP place (renS ρ qs) (renL ρ cells) = (qfP place qs cells).map (renL ρ)
 | [], cells => rfl
 | (i, h) :: qs, cells => by
  simp only [renS, qfP, qgO]
  cases place i with
  | none => rfl
  | some p =>
   obtain ⟨off, size⟩ := p
   cases h.cells? with
   | none => rfl
   | some cs =>
    simp only [Option.map_some, qco]
    split
    ·rw [← qiI, qja ρ place qs]
    rfl
theorem qjN (ρ : Nat → Nat) : ∀ (vs : List Value) (hs : List HV), vs.mapM qcj = some hs → renL ρ hs = hs
 | [], hs, h => by simp at h; subst h; rfl
 | v :: vs, hs, h => by
  simp only [List.mapM_cons, Option.pure_def, Option.bind_eq_bind, Option.bind_eq_some_iff] at h
  obtain ⟨c, hc, ds, hd, he⟩ := h
  cases he
  have h1 := qfe ρ v
  rw [hc] at h1
  simp only [Option.map_some, Option.some.injEq] at h1
  simp only [renL, h1, qjN ρ vs ds hd]
theorem qeJ (ρ : Nat → Nat) {z : Value} {zs : List HV} (h : qa8 z = some zs) : renL ρ zs = zs := by
 have one : ∀ {v : Value}, (match qcj v with
   | some h => if h.one then some [h] else none
   | none => none) = some zs → renL ρ zs = zs := fun {v} h => by
  have h1 := qfe ρ v
  split at h
  ·rename_i c hc
   rw [hc] at h1
   simp only [Option.map_some, Option.some.injEq] at h1
   split at h
   ·cases h; simp only [renL, h1]
   cases h
  cases h
 unfold qa8 at h
 split at h
 ·split at h
  ·rename_i hs hm
   split at h
   ·cases h; exact qjN ρ _ _ hm
   cases h
  cases h
 ·cases h
 exact one h
theorem qmB (ρ : Nat → Nat) {zs : List HV} (h : renL ρ zs = zs) (n : Nat) : renL ρ (zrep zs n) = zrep zs n := by
 induction n with
 | zero => rfl
 | succ n ih =>
  simp only [zrep, List.replicate_succ, List.flatten_cons, qbr, h] at ih ⊢
  rw [ih]
def qmJ (T : TypeId → Option TyI) (s : AS) (t : TypeId) (n : Nat) (ps : List (Nat × Operand)) : Option (Nat × TypeId × List HV) :=
 match T t with
 | some ⟨.slice e, _, _, _⟩ => match T e with
  | some U => match qa8 U.zero, qkM s ps with
   | some zs, some qs => qaF (Nat.beq zs.length U.size && Nat.ble (n * U.size) 16777216) (match qfP (fun i => some (i * U.size, U.size)) qs (zrep zs n) with
    | some cs => some (U.size, e, cs)
    | none => none)
   | _, _ => none
  | none => none
 | _ => none
def qkc (T : TypeId → Option TyI) : List Field → Option (List (Nat × Nat))
 | [] => some []
 | f :: fs => match T f.type, qkc T fs with
  | some U, some l => some ((f.offset, U.size) :: l)
  | _, _ => none
def qow (T : TypeId → Option TyI) (s : AS) (t : TypeId) (ps : List (Nat × Operand)) : Option HV :=
 match T t with
 | some ⟨.struct fs, _, _, z⟩ => match qkc T fs.toList, qa8 z, qkM s ps with
  | some pl, some zs, some qs => match qfP (fun i => pl[i]?) qs zs with
   | some cs => some (.agg cs)
   | none => none
  | _, _, _ => none
 | _ => none
def ssrc (T : TypeId → Option TyI) (s : AS) (xt : TypeId) (k : Nat) (x : HV) : Option (Nat × List HV) :=
 match T xt, x with
 | some ⟨.slice _, _, _, _⟩, .sl k' m cs => qaF (Nat.beq k' k) (some (m, cs))
 | some ⟨.slice _, _, _, _⟩, .ar id ver k' off m => match qdY s.heap id with
  | some (ver', .arr _ _ cs) => qaF (Nat.beq ver ver' && (Nat.beq k' k && Nat.ble (off + m * k) cs.length)) (some (m, (cs.drop off).take (m * k)))
  | _ => none
 | some ⟨.slice _, _, _, _⟩, .v (.slice none 0 0) => some (0, [])
 | some ⟨.string, _, _, _⟩, .str l => qaF (Nat.beq k 1) (some (l.length, l.map fun b => .int .u8 b.toNat))
 | _, _ => none
def qp6 (s : AS) (k : Nat) (e : TypeId) (x : HV) : Option (Nat × List HV) :=
 match x with
 | .v (.slice none 0 0) => some (0, [])
 | .ar id ver k' off n => match qdY s.heap id with
  | some (ver', .arr _ e' cs) => qaF (Nat.beq ver ver' && (Nat.beq k' k && (Nat.beq e' e && (Nat.beq off 0 && Nat.ble (n * k) cs.length)))) (some (n, cs.take (n * k)))
  | _ => none
 | _ => none
section
variable {P : Program} {T : TypeId → Option TyI} {s : AS} {ρ : Nat → Nat}
theorem qhw (hT : qkO P T) {t : TypeId} {n k : Nat} {e : TypeId} {ps : List (Nat × Operand)} {cs : List HV} {R : Nat → TypeId → List HV → Prop} (h : qmJ T s t n ps = some (k, e, cs)) (hr : R k e (renL ρ cs)) : qbJ P (s.ren ρ) t n ps R := by
 unfold qmJ at h
 simp only [qa0, qay, qaE, qax, qaN, qaU, qau] at h
 split at h
 ·rename_i e' _ _ _ ht
  split at h
  ·rename_i U hU
   split at h
   ·rename_i zs qs hz hq
    obtain ⟨hv, h⟩ := qag h
    simp only [Bool.and_eq_true] at hv
    split at h
    ·rename_i cs' hc
     cases h
     have hf := qja ρ (fun i => some (i * U.size, U.size)) qs (zrep zs n)
     rw [hc, qmB ρ (qeJ ρ hz)] at hf
     simp only [qbJ, hT _ _ ht, hT _ _ hU, hz, qhl, hq, Option.map_some, hf]
     exact ⟨Nat.eq_of_beq_eq_true hv.1, Nat.le_of_ble_eq_true hv.2, hr⟩
    cases h
   cases h
  cases h
 cases h
theorem qgw (hT : qkO P T) : ∀ {fs : List Field} {l : List (Nat × Nat)}, qkc T fs = some l → qd6 P fs = some l
 | [], l, h => h
 | f :: fs, l, h => by
  simp only [qkc] at h
  split at h
  ·rename_i U l' hU hl
   cases h
   simp [qd6, hT _ _ hU, qgw hT hl]
  cases h
theorem qk7 (hT : qkO P T) {t : TypeId} {ps : List (Nat × Operand)} {r : HV} {R : HV → Prop} (h : qow T s t ps = some r) (hr : R (r.ren ρ)) : qcX P (s.ren ρ) t ps R := by
 unfold qow at h
 simp only [qa0, qay, qaE, qax, qaN, qaU, qau] at h
 split at h
 ·rename_i fs _ _ z ht
  split at h
  ·rename_i pl zs qs hpl hz hq
   split at h
   ·rename_i cs hc
    cases h
    have hf := qja ρ (fun i => pl[i]?) qs zs
    rw [hc, qeJ ρ hz] at hf
    simp only [qcX, hT _ _ ht, qgw hT hpl, hz, qhl, hq, Option.map_some, hf]
    exact hr
   cases h
  cases h
 cases h
theorem qpA (ρ : Nat → Nat) (l : List UInt8) : renL ρ (l.map fun b => HV.int .u8 b.toNat) = l.map fun b => HV.int .u8 b.toNat := by
 induction l with
 | nil => rfl
 | cons b l ih => simp only [List.map_cons, renL, HV.ren, ih]
theorem qjr (hT : qkO P T) {xt : TypeId} {k m : Nat} {x : HV} {cs : List HV} (h : ssrc T s xt k x = some (m, cs)) : asrc P (s.ren ρ) xt k (x.ren ρ) fun m' cs' => m' = m ∧ cs' = renL ρ cs := by
 unfold ssrc at h
 simp only [qa0, qay, qaE, qax, qaN, qaU, qau] at h
 split at h
 ·rename_i e _ _ _ k' m' cs' ht
  obtain ⟨hv, h⟩ := qag h
  cases h
  simp only [asrc, hT _ _ ht, HV.ren]
  exact ⟨Nat.eq_of_beq_eq_true hv, trivial, trivial⟩
 ·rename_i e _ _ _ id ver k' off m' ht
  split at h
  ·rename_i ver' k2 e2 cs' hg
   obtain ⟨hv, h⟩ := qag h
   cases h
   simp only [Bool.and_eq_true] at hv
   have h1 := Nat.eq_of_beq_eq_true hv.1
   subst h1
   simp only [asrc, hT _ _ ht, HV.ren, qcU ρ hg, AObj.ren]
   refine ⟨trivial, Nat.eq_of_beq_eq_true hv.2.1, by rw [qco]; exact Nat.le_of_ble_eq_true hv.2.2, trivial, ?_⟩
   rw [qdg, qdO]
  cases h
 ·rename_i e _ _ _ ht
  cases h
  simp only [asrc, hT _ _ ht, HV.ren]
  exact ⟨trivial, rfl⟩
 ·rename_i _ _ _ l ht
  obtain ⟨hv, h⟩ := qag h
  cases h
  simp only [asrc, hT _ _ ht, HV.ren]
  exact ⟨Nat.eq_of_beq_eq_true hv, trivial, (qpA ρ l).symm⟩
 cases h
theorem ql2 {e : TypeId} {k m : Nat} {x : HV} {cs : List HV} (h : qp6 s k e x = some (m, cs)) : qfY (s.ren ρ) k e (x.ren ρ) fun m' cs' => m' = m ∧ cs' = renL ρ cs := by
 unfold qp6 at h
 simp only [qa0, qay, qaE, qax, qaN, qaU, qau] at h
 split at h
 ·cases h
  simp only [qfY, HV.ren]
  exact ⟨trivial, rfl⟩
 ·rename_i id ver k' off m'
  split at h
  ·rename_i ver' k2 e2 cs' hg
   obtain ⟨hv, h⟩ := qag h
   cases h
   simp only [Bool.and_eq_true] at hv
   have h1 := Nat.eq_of_beq_eq_true hv.1
   subst h1
   simp only [qfY, HV.ren, qcU ρ hg, AObj.ren]
   refine ⟨trivial, Nat.eq_of_beq_eq_true hv.2.1, Nat.eq_of_beq_eq_true hv.2.2.1, Nat.eq_of_beq_eq_true hv.2.2.2.1, by rw [qco]; exact Nat.le_of_ble_eq_true hv.2.2.2.2, trivial, ?_⟩
   rw [qdg]
  cases h
 cases h
end
structure Tabs where
 ty : TypeId → Option TyI
 fn : FuncId → Option Func
 ext : FuncId → List HV → Option HV
 /-- functions that sort in place: texts (true), numbers (false) -/
 sort : FuncId → Option Bool
 /-- the slots that are read behind a region: by the function's number of slots, and the region's number -/
 keep : Nat → Nat → Option (List Nat)
 /-- known results of functions that change nothing, at arguments that name no owned object -/
 extP : FuncId → List HV → Option HV := fun _ _ => none
structure Tabs.Ok (P : Program) (T : Tabs) : Prop where
 ty : qkO P T.ty
 fn : ∀ f x, T.fn f = some x → P.funcs[f]? = some x ∧ (x.name == "runtime.NumGoroutine") = false
 ext : ∀ f args r, T.ext f args = some r → Fresh P f args r
 sortS : ∀ f, T.sort f = some true → qs2 P f
 sortI : ∀ f, T.sort f = some false → qnx P f
 draw : P.follows .mixedOrders = true
 extP : ∀ f args r, T.extP f args = some r → Pure P f args (· = r) := by intro f args r h; cases h
def qiP (id : Nat) : Heap → Bool
 | [] => true
 | (_, _, .iter m _ _ _) :: H => (!Nat.beq m id) && qiP id H
 | _ :: H => qiP id H
def qis (seen : List (List UInt8)) : List (List UInt8 × HV) → List (List UInt8 × HV)
 | [] => []
 | (k, v) :: es => if k ∈ seen then qis seen es else (k, v) :: qis seen es
def qsx (o : Oper) (s : AS) (n : Nat) (e : TypeId) (x : Operand) : Option (AS × Nat) := match s.evR x with
  | some hv => match hv.cells? with
   | some cs => new s n o.dst n (.arr cs.length e cs) (.ptr n n 0)
   | none => none
  | none => none
def qoQ (T : Tabs) (o : Oper) (s : AS) (n : Nat) (e : TypeId) : Option (AS × Nat) := match T.ty e with
  | some U => match qa8 U.zero with
   | some zs => new s n o.dst n (.arr zs.length e zs) (.ptr n n 0)
   | none => none
  | none => none
def qoL (T : Tabs) (o : Oper) (s : AS) (n : Nat) (t : TypeId) (x y : Operand) : Option (AS × Nat) := match s.evR x, s.evR y, T.ty t with
  | some (.ptr id ver off), some hv, some U => match hv.cells?, qdY s.heap id with
   | some cs, some (ver', .arr k e xs) => qaF (Nat.beq ver ver' && (Nat.beq U.size cs.length && Nat.ble (off + cs.length) xs.length))
     (qaF (scL n (qde xs off cs)) (some (({ s with heap := qfm s.heap id ver (.arr k e (qde xs off cs)) } : AS).putR o.dst (.v undef), n)))
   | _, _ => none
  | _, _, _ => none
def qhy (T : Tabs) (o : Oper) (s : AS) (n : Nat) (t : TypeId) (m : Nat) (ps : Array (Nat × Operand)) : Option (AS × Nat) := qaF (Nat.ble m 16777216) (match qmJ T.ty s t m ps.toList with
  | some (k, e, cs) => new s n o.dst n (.arr k e cs) (.ar n n k 0 m)
  | none => none)
def qiN (T : Tabs) (o : Oper) (s : AS) (n : Nat) (t : TypeId) (x y : Operand) : Option (AS × Nat) := match T.ty t, s.evR x, s.evR y with
  | some ⟨.slice e, _, _, _⟩, some (.int .i64 l), some (.int .i64 c) => match T.ty e with
   | some Te => match qa8 Te.zero with
    | some zs => qaF (Nat.beq zs.length Te.size && decide (0 ≤ l ∧ l ≤ c ∧ c * Te.bytes ≤ 281474976710656)) (new s n o.dst n (.arr Te.size e (zrep zs l.toNat)) (.ar n n Te.size 0 l.toNat))
    | none => none
   | none => none
  | _, _, _ => none
def qm1 (T : Tabs) (o : Oper) (s : AS) (n : Nat) (aa : Array Operand) (ts : Array TypeId) : Option (AS × Nat) := match aa.toList, ts.toList with
  | [x, y], [t, xt] => match T.ty t, s.evR x, s.evR y with
   | some ⟨.slice e, _, _, _⟩, some hx, some hy => match T.ty e with
    | some Te => match qp6 s Te.size e hx, ssrc T.ty s xt Te.size hy with
     | some (m, cs), some (m', ds) => qaF ((qa8 Te.zero).any (fun zs => zs.length == Te.size) && (Nat.ble ((m + m') * Te.bytes) 140737488355328 && Nat.ble (m + m') maxLen))
       (new s n o.dst (qbq hx n) (.arr Te.size e (cs ++ ds)) (.ar (qbq hx n) n Te.size 0 (m + m')))
     | _, _ => none
    | none => none
   | _, _, _ => none
  | _, _ => none
def qoO (T : Tabs) (o : Oper) (s : AS) (n : Nat) (aa : Array Operand) (ts : Array TypeId) : Option (AS × Nat) := match aa.toList, ts.toList with
  | [x], [t] => match T.ty t, s.evR x with
   | some ⟨.slice e, _, _, _⟩, some (.ar id ver _ off n') => match T.ty e, qdY s.heap id with
    | some Te, some (ver', .arr k' e' xs) => match qa8 Te.zero with
     | some [z] => qaF (Nat.beq ver ver' && Nat.ble (off + n') xs.length) (qaF (scL n (xs.take off ++ List.replicate n' z ++ xs.drop (off + n')))
       (some (({ s with heap := qfm s.heap id ver (.arr k' e' (xs.take off ++ List.replicate n' z ++ xs.drop (off + n'))) } : AS).putR o.dst (.tup []), n)))
     | _ => none
    | _, _ => none
   | _, _ => none
  | _, _ => none
def qqY (T : Tabs) (o : Oper) (s : AS) (n : Nat) (aa : Array Operand) (ts : Array TypeId) : Option (AS × Nat) := match aa.toList, ts.toList with
  | [x, y], [t, xt] => match T.ty t, s.evR x, s.evR y with
   | some ⟨.slice e, _, _, _⟩, some (.ar id ver _ off n'), some hy => match T.ty e, qdY s.heap id with
    | some Te, some (ver', .arr k' e' xs) => match ssrc T.ty s xt Te.size hy with
     | some (m, ds) => qaF (Nat.beq ver ver' && (!qrN hy && Nat.ble (off + n' * Te.size) xs.length)) (qaF (scL n (xs.take off ++ ds.take (min m n' * Te.size) ++ xs.drop (off + min m n' * Te.size)))
       (some (({ s with heap := qfm s.heap id ver (.arr k' e' (xs.take off ++ ds.take (min m n' * Te.size) ++ xs.drop (off + min m n' * Te.size))) } : AS).putR o.dst (.int .i64 ((min m n' : Nat) : Int)), n)))
     | none => none
    | _, _ => none
   | _, _, _ => none
  | _, _ => none
def qqZ (r : Task → Option Out) (o : Oper) (s : AS) (n : Nat) (f : Operand) (aa : Array Operand) : Option (AS × Nat) := match s.evR f, aa.toList.mapM s.evR with
  | some (.fn (.func g) fs cs), some hs => qaF (scL n (fs ++ hs ++ cs)) (match r (.call g (fs ++ hs ++ cs) s.heap n) with
   | some (.call rv H n') => some (({ s with heap := H } : AS).putR o.dst rv, n')
   | _ => none)
  | some (.yl id ver), some hs => match qdY s.heap id with
   | some (ver', .loop .ready none f m snap ps assign body) => qaF (Nat.beq ver ver' && (Nat.beq ps.size hs.length && (ps.toList.all fun p => Nat.blt p m))) (qaF (scS n (qeq snap ps.toList hs))
     (match r (.code false m assign ⟨qeq snap ps.toList hs, s.heap⟩ n) with
     | some (.code .normal s1 n1) => match qdY s1.heap id with
      | some (_, .loop .ready none _ _ _ _ _ _) => match r (.code false m body { s1 with heap := qfm s1.heap id ver (.loop .busy none f m snap ps assign body) } n1) with
       | some (.code e s2 n2) => match qdY s2.heap id with
        | some (_, .loop .busy none _ _ _ _ _ _) => match e with
         | .normal => some (({ s with heap := qfm s2.heap id ver (.loop .ready none f m snap ps assign body) } : AS).putR o.dst (.bool true), n2)
         | .ret => some (({ s with heap := qfm s2.heap id ver (.loop .done (some .ret) f m snap ps assign body) } : AS).putR o.dst (.bool false), n2)
         | .exit i => some (({ s with heap := qfm s2.heap id ver (.loop .done (some (.exit i)) f m snap ps assign body) } : AS).putR o.dst (.bool false), n2)
         | _ => none
        | _ => none
       | _ => none
      | _ => none
     | _ => none))
   | _ => none
  | _, _ => none
def qoP (T : Tabs) (o : Oper) (s : AS) (n : Nat) (t : TypeId) (ps : Array (Nat × Operand)) : Option (AS × Nat) := match qow T.ty s t ps.toList with
  | some r => fin s n o.dst r
  | none => none
def qe2 (T : Tabs) (o : Oper) (s : AS) (n : Nat) (t : TypeId) (m x y : Operand) : Option (AS × Nat) := match T.ty t, s.evR m, s.evR x, s.evR y with
  | some ⟨.map kt _, _, _, _⟩, some (.mp id ver), some (.str k), some hv => match T.ty kt, qdY s.heap id with
   | some ⟨.string, _, _, _⟩, some (ver', .map es) => qaF (Nat.beq ver ver' && qiP id s.heap) (qaF (scE n (mput k hv es))
     (some (({ s with heap := qfm s.heap id ver (.map (mput k hv es)) } : AS).putR o.dst (.v undef), n)))
   | _, _ => none
  | _, _, _, _ => none
def qm0 (T : Tabs) (o : Oper) (s : AS) (n : Nat) (t : TypeId) (m x : Operand) : Option (AS × Nat) := match T.ty t, s.evR m, s.evR x with
  | some ⟨.map kt et, _, _, _⟩, some (.mp id ver), some (.str k) => match T.ty kt, T.ty et, qdY s.heap id with
   | some ⟨.string, _, _, _⟩, some Te, some (ver', .map es) => match qcj Te.zero with
    | some z => qaF (Nat.beq ver ver') (fin s n o.dst ((qdp k es).getD z))
    | none => none
   | _, _, _ => none
  | _, _, _ => none
def qoM (T : Tabs) (o : Oper) (s : AS) (n : Nat) (t : TypeId) (m : Operand) : Option (AS × Nat) := match T.ty t, s.evR m with
  | some ⟨.map _ _, _, _, _⟩, some (.mp mid mver) => match qdY s.heap mid with
   | some (mver', .map _) => qaF (Nat.beq mver mver') (new s n o.dst n (.iter mid mver [] false) (.it n n))
   | _ => none
  | _, _ => none
def qqX (o : Oper) (s : AS) (n : Nat) (x : Operand) : Option (AS × Nat) := match s.evR x with
  | some (.it id ver) => match qdY s.heap id with
   | some (ver', .iter mid mver seen _) => match qdY s.heap mid with
    | some (mver', .map es) => qaF (Nat.beq ver ver' && Nat.beq mver mver') (match qis seen es with
     | [] => fin s n o.dst (.tup [.bool false])
     | [(k, v)] => qaF (v.sc n) (some (({ s with heap := qfm s.heap id ver (.iter mid mver (k :: seen) true) } : AS).putR o.dst (.tup [.bool true, .str k, v]), n))
     | _ => none)
    | _ => none
   | _ => none
  | _ => none
def qoN (o : Oper) (s : AS) (n : Nat) (x : Operand) : Option (AS × Nat) := match s.evR x with
  | some (.it id ver) => match qdY s.heap id with
   | some (ver', .iter mid mver (k :: _) true) => match qdY s.heap mid with
    | some (mver', .map es) => qaF (Nat.beq ver ver' && Nat.beq mver mver') (match qdp k es with
     | some v => fin s n o.dst (.tup [.str k, v])
     | none => none)
    | _ => none
   | _ => none
  | _ => none
def sop (r : Task → Option Out) (T : Tabs) (o : Oper) (s : AS) (n : Nat) : Option (AS × Nat) :=
 match o.op with
 | .box e x => qsx o s n e x
 | .alloc e => qoQ T o s n e
 | .store t x y => qoL T o s n t x y
 | .buildSlice t m ps => qhy T o s n t m ps
 | .makeSlice t x y => qiN T o s n t x y
 | .call ⟨.builtin .append, aa, ts⟩ => qm1 T o s n aa ts
 | .call ⟨.builtin .clear, aa, ts⟩ => qoO T o s n aa ts
 | .call ⟨.builtin .copy, aa, ts⟩ => qqY T o s n aa ts
 | .call ⟨.value f, aa, _⟩ => qqZ r o s n f aa
 | .build t ps => qoP T o s n t ps
 | .makeMap _ none => new s n o.dst n (.map []) (.mp n n)
 | .mapUpdate t m x y => qe2 T o s n t m x y
 | .insert t m x y => qe2 T o s n t m x y
 | .lookup t m x false => qm0 T o s n t m x
 | .range t m => qoM T o s n t m
 | .next x false => qqX o s n x
 | .entry x => qoN o s n x
 | op => match sval T.ty op s with
  | some h => fin s n o.dst h
  | none => none
theorem qi9 (ρ : Nat → Nat) (k : List UInt8) : ∀ es, qdp k (renE ρ es) = (qdp k es).map (HV.ren ρ)
 | [] => rfl
 | (q, h) :: es => by
  simp only [renE, qdp]
  split
  ·rfl
  exact qi9 ρ k es
theorem qkp (ρ : Nat → Nat) (k : List UInt8) (h : HV) : ∀ es, renE ρ (mput k h es) = mput k (h.ren ρ) (renE ρ es)
 | [] => rfl
 | (q, g) :: es => by
  simp only [renE, mput]
  split
  ·rfl
  simp only [renE, qkp ρ k h es]
theorem qcf {id : Nat} {ρ : Nat → Nat} : ∀ {H : Heap}, qiP id H = true → qhz id (renH ρ H)
 | [], _ => trivial
 | (i, v, .iter m mv seen cur) :: H, h => by
  simp only [qiP, Bool.and_eq_true] at h
  refine ⟨fun e => ?_, qcf h.2⟩
  subst e
  simp at h
 | (i, v, .arr _ _ _) :: H, h => qcf (H := H) h
 | (i, v, .map _) :: H, h => qcf (H := H) h
 | (i, v, .loop _ _ _ _ _ _ _ _) :: H, h => qcf (H := H) h
 | (i, v, .kmap _) :: H, h => qcf (H := H) h
theorem qkr {ρ : Nat → Nat} {k : List UInt8} {v : HV} : ∀ {es : List (List UInt8 × HV)}, (k, v) ∈ renE ρ es → ∃ u, (k, u) ∈ es ∧ v = u.ren ρ
 | [], h => by cases h
 | (q, g) :: es, h => by
  simp only [renE, List.mem_cons] at h
  rcases h with h | h
  ·cases h; exact ⟨g, List.mem_cons_self .., rfl⟩
  obtain ⟨u, h1, h2⟩ := qkr h
  exact ⟨u, List.mem_cons_of_mem _ h1, h2⟩
theorem qlf {ρ : Nat → Nat} {k : List UInt8} {u : HV} : ∀ {es : List (List UInt8 × HV)}, (k, u) ∈ es → (k, u.ren ρ) ∈ renE ρ es
 | [], h => by cases h
 | (q, g) :: es, h => by
  simp only [renE, List.mem_cons] at h ⊢
  rcases h with h | h
  ·cases h; exact .inl rfl
  exact .inr (qlf h)
theorem qeS {seen : List (List UInt8)} {k : List UInt8} {v : HV} : ∀ {es : List (List UInt8 × HV)}, (k, v) ∈ qis seen es ↔ (k, v) ∈ es ∧ k ∉ seen
 | [] => by simp [qis]
 | (q, g) :: es => by
  simp only [qis]
  split
  ·rename_i hq
   rw [qeS (es := es)]
   simp only [List.mem_cons]
   constructor
   ·exact fun h => ⟨.inr h.1, h.2⟩
   rintro ⟨h | h, h2⟩
   ·cases h; exact absurd hq h2
   exact ⟨h, h2⟩
  rename_i hq
  simp only [List.mem_cons, qeS (es := es)]
  constructor
  ·rintro (h | h)
   ·cases h; exact ⟨.inl rfl, hq⟩
   exact ⟨.inr h.1, h.2⟩
  rintro ⟨h | h, h2⟩
  ·exact .inl h
  exact .inr ⟨h, h2⟩
section
variable {P : Program} {T : Tabs} {N n n' : Nat} {o : Oper} {s s' : AS} {r : Task → Option Out}
theorem qju {id ver : Nat} {x ob : AObj} {h : HV} (hs : s.sc n = true) (hg : hget s.heap id = some (ver, x)) (hx : ∀ st pend f n snap ps a b, x ≠ .loop st pend f n snap ps a b) (ho : ob.sc n = true) (hh : h.sc n = true)
  (hk : ∀ (ρ : Nat → Nat) (ro : Option Nat) (K : AS → Prop), K ((⟨(s.ren ρ).slots, hset (s.ren ρ).heap id (ρ ver) (ob.ren ρ)⟩ : AS).put o.dst (h.ren ρ)) → AOp P ro N o K (s.ren ρ)) :
  OpOk P N o s n (({ s with heap := hset s.heap id ver ob } : AS).put o.dst h) n := by
 have hl := qe1 (qbL hs) hg
 refine ⟨qfj (ql0 hs hl.1.1 hl.1.2 ho) hh, ?_, fun ρ ro K hK => hk ρ ro K ?_⟩
 ·rw [qcR]
  exact ⟨Nat.le_refl _, LoopKeep.set fun v st pend f n snap ps a b e => by rw [hg] at e; cases e; exact hx _ _ _ _ _ _ _ _ rfl, Back.set (.inr ⟨_, hg⟩)⟩
 have := hK ρ (Agree.refl _ _)
 rw [qdW] at this
 simpa only [AS.ren, qd5] using this
theorem qpt {xs : List Operand} {hs : List HV} (h : xs.mapM s.ev = some hs) (ρ : Nat → Nat) : xs.mapM (s.ren ρ).ev = some (renL ρ hs) := by rw [qmq, h]; rfl
theorem qk4 (ρ : Nat → Nat) : ∀ (ps : List Tmp) (snap : List (Nat × HV)) (hs : List HV), renS ρ (qeq snap ps hs) = qeq (renS ρ snap) ps (renL ρ hs)
 | [], snap, hs => by simp [qeq]
 | p :: ps, snap, [] => by simp [qeq, renL]
 | p :: ps, snap, h :: hs => by simp only [qeq, renL, qk4 ρ ps, qkk]
theorem qri (hT : T.Ok P) (hN : okd N o.dst = true) (hs : s.sc n = true) (h : (match sval T.ty o.op s with
  | some h => fin s n o.dst h
  | none => none) = some (s', n')) : OpOk P N o s n s' n' := by
 split at h
 ·rename_i hv hev
  exact qlz hs h fun ρ ro K hK => AOp.pure hN (qjp hT.ty hev hK)
 cases h
theorem qpQ (hr : Good P r) (hN : okd N o.dst = true) (hs : s.sc n = true) {c : Call} {g : Operand} {id ver : Nat} {hs' : List HV} (hop : o.op = .call c) (hc : c.callee = .value g) (hg : s.ev g = some (.yl id ver)) (ha : c.args.toList.mapM s.ev = some hs')
    (h : (match hget s.heap id with
      | some (ver', .loop .ready none f m snap ps assign body) => qaF (Nat.beq ver ver' && (Nat.beq ps.size hs'.length && (ps.toList.all fun p => Nat.blt p m))) (qaF (scS n (qeq snap ps.toList hs'))
          (match r (.code false m assign ⟨qeq snap ps.toList hs', s.heap⟩ n) with
          | some (.code .normal s1 n1) => match hget s1.heap id with
            | some (_, .loop .ready none _ _ _ _ _ _) => match r (.code false m body { s1 with heap := hset s1.heap id ver (.loop .busy none f m snap ps assign body) } n1) with
              | some (.code e s2 n2) => match hget s2.heap id with
                | some (_, .loop .busy none _ _ _ _ _ _) => match e with
                  | .normal => some (({ s with heap := hset s2.heap id ver (.loop .ready none f m snap ps assign body) } : AS).put o.dst (.bool true), n2)
                  | .ret => some (({ s with heap := hset s2.heap id ver (.loop .done (some .ret) f m snap ps assign body) } : AS).put o.dst (.bool false), n2)
                  | .exit i => some (({ s with heap := hset s2.heap id ver (.loop .done (some (.exit i)) f m snap ps assign body) } : AS).put o.dst (.bool false), n2)
                  | _ => none
                | _ => none
              | _ => none
            | _ => none
          | _ => none))
      | _ => none) = some (s', n')) : OpOk P N o s n s' n' := by
  have hsh := qbL hs
  split at h
  · rename_i ver' f m snap ps assign body hgl
    replace h := qag h
    obtain ⟨h1, h⟩ := h
    replace h := qag h
    obtain ⟨h2, h⟩ := h
    simp only [Bool.and_eq_true, List.all_eq_true] at h1
    have hv := Nat.eq_of_beq_eq_true h1.1
    subst hv
    have hps := Nat.eq_of_beq_eq_true h1.2.1
    have hpm : ∀ p ∈ ps.toList, p < m := fun p hp => qcq (h1.2.2 p hp)
    have hlsc := qe1 hsh hgl
    split at h
    · rename_i s1 n1 hr1
      obtain ⟨hs1, st1, hw1⟩ := hr _ _ hr1 (by simp only [AS.sc, h2, hsh, Bool.and_self])
      split at h
      · rename_i v1 f1 m1 snap1 ps1 as1 bd1 hg1
        obtain ⟨_, _, he1⟩ := st1.loop _ _ _ _ _ _ _ _ _ _ hgl _ hg1
        cases he1
        have hlsc1 := qe1 (qbL hs1) hg1
        have hsb : ({ s1 with heap := hset s1.heap id ver (.loop .busy none f m snap ps assign body) } : AS).sc n1 = true := ql0 hs1 hlsc1.1.1 hlsc1.1.2 hlsc1.2
        split at h
        · rename_i e s2 n2 hr2
          obtain ⟨hs2, st2, hw2⟩ := hr _ _ hr2 hsb
          have stb : Step n1 n1 s1.heap (hset s1.heap id ver (.loop .busy none f m snap ps assign body)) := ⟨Nat.le_refl _, zar hg1, Back.set (.inr ⟨_, hg1⟩)⟩
          have st12 := (st1.trans hsh stb).trans hsh st2
          split at h
          · rename_i v2 f2 m2 snap2 ps2 as2 bd2 hg2
            obtain ⟨_, _, he2⟩ := st12.loop _ _ _ _ _ _ _ _ _ _ hgl _ hg2
            cases he2
            have hlsc2 := qe1 (qbL hs2) hg2
            -- what a round qqy to
            have done : ∀ (st : LoopState) (pend : Option Code) (b : Bool), (∀ (ρ' : Nat → Nat) (K : HV → Heap → Prop) (e' : Exit), e' = e →
                  K (.bool b) (hset (s2.ren ρ').heap id (ρ' ver) (.loop st pend (ρ' f) m (renS ρ' snap) ps assign body)) → rndQ id (ρ' ver) (ρ' f) m (renS ρ' snap) ps assign body K e' (s2.ren ρ')) →
                OpOk P N o s n (({ s with heap := hset s2.heap id ver (.loop st pend f m snap ps assign body) } : AS).put o.dst (.bool b)) n2 := by
              intro st pend b hq
              have hsn : ({ s with heap := hset s2.heap id ver (.loop st pend f m snap ps assign body) } : AS).sc n2 = true := by
                have := qet st12.le _ (qbT hs)
                have h3 := qgb _ id ver (.loop st pend f m snap ps assign body) (qbL hs2) hlsc2.1.1 hlsc2.1.2 hlsc2.2
                simp only [AS.sc, this, h3, Bool.and_self]
              refine ⟨qfj hsn rfl, ?_, fun ρ ro K hK => ?_⟩
              · rw [qcR]
                exact st12.trans hsh ⟨Nat.le_refl _, zar hg2, Back.set (.inr ⟨_, hg2⟩)⟩
              have hg' : (s.ren ρ).ev g = some (.yl id (ρ ver)) := by rw [qaK, hg]; rfl
              refine AOp.yield hop hc hN hg' (qpt ha ρ) ?_
              refine ⟨ρ f, m, renS ρ snap, ps, assign, body, qcU ρ hgl, by rw [qco]; exact hps, hpm, fun l => ?_⟩
              have e0 : (⟨qeq (renS ρ snap) ps.toList (renL ρ hs'), (s.ren ρ).heap⟩ : AS) = (⟨qeq snap ps.toList hs', s.heap⟩ : AS).ren ρ := by simp only [AS.ren, qk4]
              rw [e0]
              refine hw1 ρ (some l) _ (fun h => by cases h) fun ρ1 ha1 => ⟨rfl, ?_, ?_⟩
              · have := qcU ρ1 hg1
                simp only [AObj.ren] at this
                rw [this, ha1 ver hlsc.1.2]
                have h4 := hlsc.2
                simp only [AObj.sc, Bool.and_eq_true] at h4
                rw [ha1 f (qcq h4.1), qbM ha1 _ h4.2]
              have h4 := hlsc.2
              simp only [AObj.sc, Bool.and_eq_true] at h4
              have e1 : ({ s1.ren ρ1 with heap := hset (s1.ren ρ1).heap id (ρ ver) (.loop .busy none (ρ f) m (renS ρ snap) ps assign body) } : AS) = ({ s1 with heap := hset s1.heap id ver (.loop .busy none f m snap ps assign body) } : AS).ren ρ1 := by
                simp only [AS.ren, qd5, AObj.ren]
                rw [ha1 ver hlsc.1.2, ha1 f (qcq h4.1), qbM ha1 _ h4.2]
              rw [e1]
              refine hw2 ρ1 (some l) _ (fun h => by cases h) fun ρ2 ha2 => ?_
              have ha02 : Agree n ρ ρ2 := ha1.trans st1.le ha2
              rw [ha02 ver hlsc.1.2, ha02 f (qcq h4.1), qbM ha02 _ h4.2]
              refine hq ρ2 _ e rfl ?_
              have := hK ρ2 ha02
              rw [qdW] at this
              have e2 : ({ s with heap := hset s2.heap id ver (.loop st pend f m snap ps assign body) } : AS).ren ρ2 = { s.ren ρ with heap := hset (s2.ren ρ2).heap id (ρ2 ver) (.loop st pend (ρ2 f) m (renS ρ2 snap) ps assign body) } := by
                simp only [AS.ren, qd5, AObj.ren]
                rw [qbM ha02 _ (qbT hs)]
              rw [e2] at this
              exact this
            have hgb : ∀ ρ' : Nat → Nat, hget (s2.ren ρ').heap id = some (ρ' ver, .loop .busy none (ρ' f) m (renS ρ' snap) ps assign body) := fun ρ' => qcU ρ' hg2
            split at h
            · cases h
              exact done _ _ _ fun ρ' K e' he hK => by subst he; exact ⟨hgb ρ', hK⟩
            · cases h
              exact done _ _ _ fun ρ' K e' he hK => by subst he; exact ⟨hgb ρ', hK⟩
            · cases h
              exact done _ _ _ fun ρ' K e' he hK => by subst he; exact ⟨hgb ρ', hK⟩
            cases h
          cases h
        cases h
      cases h
    cases h
  cases h
theorem qsm (hT : T.Ok P) (hr : Good P r) (hN : okd N o.dst = true) (hs : s.sc n = true) (h : sop r T o s n = some (s', n')) : OpOk P N o s n s' n' := by
 have hsh := qbL hs
 have self : ∀ m, Nat.blt m (m + 1) = true := fun m => by simp [Nat.blt_eq]
 unfold sop at h
 split at h
 ·-- box
  rename_i e x hop
  unfold qsx at h
  try simp only [qa0, qay, qaE, qax, qaN, qaU, qau] at h
  split at h
  ·rename_i hv hx
   split at h
   ·rename_i cs hcs
    refine qiQ (ob := .arr cs.length e cs) (h := .ptr n n 0) hs (.inl rfl) (self n) h fun ρ ro K hK => ?_
    have h1 : (s.ren ρ).ev x = some (hv.ren ρ) := by rw [qaK, hx]; rfl
    have h2 : (hv.ren ρ).cells? = some (renL ρ cs) := by rw [qgO, hcs]; rfl
    refine AOp.boxM n hop hN h1 h2 fun ver => ?_
    have := hK ver
    simp only [HV.ren, qgq, AObj.ren] at this
    rw [qco]
    exact this
   cases h
  cases h
 ·-- alloc
  rename_i e hop
  unfold qoQ at h
  try simp only [qa0, qay, qaE, qax, qaN, qaU, qau] at h
  split at h
  ·rename_i U hU
   split at h
   ·rename_i zs hz
    refine qiQ (ob := .arr zs.length e zs) (h := .ptr n n 0) hs (.inl rfl) (self n) h fun ρ ro K hK => ?_
    refine AOp.alloc n hop hN (hT.ty _ _ hU) hz fun ver => ?_
    have := hK ver
    simp only [HV.ren, qgq, AObj.ren, qeJ ρ hz] at this
    exact this
   cases h
  cases h
 ·-- store
  rename_i t x y hop
  unfold qoL at h
  try simp only [qa0, qay, qaE, qax, qaN, qaU, qau] at h
  split at h
  ·rename_i id ver off hv U hx hy hU
   split at h
   ·rename_i cs ver' k e xs hcs hg
    replace h := qag h
    obtain ⟨h1, h⟩ := h
    replace h := qag h
    obtain ⟨h2, h⟩ := h
    cases h
    simp only [Bool.and_eq_true] at h1
    have hv' := Nat.eq_of_beq_eq_true h1.1
    subst hv'
    refine qju (x := .arr k e xs) hs hg (by intros; simp) h2 rfl fun ρ ro K hK => ?_
    have e1 : (s.ren ρ).ev x = some (.ptr id (ρ ver) off) := by rw [qaK, hx]; rfl
    have e2 : (s.ren ρ).ev y = some (hv.ren ρ) := by rw [qaK, hy]; rfl
    have e3 : (hv.ren ρ).cells? = some (renL ρ cs) := by rw [qgO, hcs]; rfl
    refine AOp.store hop hN e1 e2 e3 (qcU ρ hg) (hT.ty _ _ hU) (by rw [qco]; exact Nat.eq_of_beq_eq_true h1.2.1) (by rw [qco, qco]; exact Nat.le_of_ble_eq_true h1.2.2) ?_
    simp only [AObj.ren, qiI] at hK
    exact hK
   cases h
  cases h
 ·-- buildSlice
  rename_i t m ps hop
  unfold qhy at h
  try simp only [qa0, qay, qaE, qax, qaN, qaU, qau] at h
  replace h := qag h
  obtain ⟨h1, h⟩ := h
  split at h
  ·rename_i k e cs hsl
   refine qiQ (ob := .arr k e cs) (h := .ar n n k 0 m) hs (.inl rfl) (self n) h fun ρ ro K hK => ?_
   refine zav n hop hN (Nat.le_of_ble_eq_true h1) (qhw hT.ty hsl fun ver => ?_)
   have := hK ver
   simp only [HV.ren, qgq, AObj.ren] at this
   exact this
  cases h
 ·-- makeSlice
  rename_i t x y hop
  unfold qiN at h
  try simp only [qa0, qay, qaE, qax, qaN, qaU, qau] at h
  split at h
  ·rename_i e sz by' z l c hU hx hy
   split at h
   ·rename_i Te hTe
    split at h
    ·rename_i zs hz
     replace h := qag h
     obtain ⟨h1, h⟩ := h
     simp only [Bool.and_eq_true] at h1
     obtain ⟨h2, h3, h4⟩ := of_decide_eq_true h1.2
     refine qiQ (ob := .arr Te.size e (zrep zs l.toNat)) (h := .ar n n Te.size 0 l.toNat) hs (.inl rfl) (self n) h fun ρ ro K hK => ?_
     have e1 : (s.ren ρ).ev x = some (.int .i64 l) := by rw [qaK, hx]; rfl
     have e2 : (s.ren ρ).ev y = some (.int .i64 c) := by rw [qaK, hy]; rfl
     refine AOp.makeSlice (k1 := .i64) (k2 := .i64) n hop hN (hT.ty _ _ hU) rfl (hT.ty _ _ hTe) hz (Nat.eq_of_beq_eq_true h1.1) e1 e2 h2 h3 h4 fun ver => ?_
     have := hK ver
     simp only [HV.ren, qgq, AObj.ren, qmB ρ (qeJ ρ hz)] at this
     exact this
    cases h
   cases h
  cases h
 ·-- append
  rename_i aa ts hop
  unfold qm1 at h
  try simp only [qa0, qay, qaE, qax, qaN, qaU, qau] at h
  split at h
  ·rename_i x y t xt ha ht
   split at h
   ·rename_i e sz by' z hx hy hU hex hey
    split at h
    ·rename_i Te hTe
     split at h
     ·rename_i m cs m' ds hb hsr
      replace h := qag h
      obtain ⟨h1, h⟩ := h
      simp only [Bool.and_eq_true] at h1
      have has : aa = #[x, y] := Array.toList_inj.1 (by simpa using ha)
      have hts : ts = #[t, xt] := Array.toList_inj.1 (by simpa using ht)
      subst has hts
      have hid : qbq hx n = n ∨ ∃ v k e' cs', hget s.heap (qbq hx n) = some (v, .arr k e' cs') := by
       unfold qp6 at hb
       rw [qay] at hb
       split at hb
       ·exact .inl rfl
       ·rename_i id ver k' off n2
        split at hb
        ·rename_i ver' k2 e2 cs2 hg
         exact .inr ⟨_, _, _, _, hg⟩
        cases hb
       cases hb
      refine qiQ (ob := .arr Te.size e (cs ++ ds)) (h := .ar (qbq hx n) n Te.size 0 (m + m')) hs hid (self n) h fun ρ ro K hK => ?_
      have e1 : (s.ren ρ).ev x = some (hx.ren ρ) := by rw [qaK, hex]; rfl
      have e2 : (s.ren ρ).ev y = some (hy.ren ρ) := by rw [qaK, hey]; rfl
      have e3 : qbq (hx.ren ρ) n = qbq hx n := by cases hx <;> rfl
      refine AOp.append n hop hN (hT.ty _ _ hU) rfl (hT.ty _ _ hTe) h1.1 e1 e2 (ql2 hb) (qjr hT.ty hsr) (Nat.le_of_ble_eq_true h1.2.1) (Nat.le_of_ble_eq_true h1.2.2) fun ver => ?_
      rw [e3]
      have := hK ver
      simp only [HV.ren, qgq, AObj.ren, qbr] at this
      exact this
     cases h
    cases h
   cases h
  cases h
 ·-- clear
  rename_i aa ts hop
  unfold qoO at h
  try simp only [qa0, qay, qaE, qax, qaN, qaU, qau] at h
  split at h
  ·rename_i x t ha ht
   split at h
   ·rename_i e sz by' z id ver k off m hU hx
    split at h
    ·rename_i Te ver' k' e' xs hTe hg
     split at h
     ·rename_i z' hz
      replace h := qag h
      obtain ⟨h1, h⟩ := h
      replace h := qag h
      obtain ⟨h2, h⟩ := h
      cases h
      simp only [Bool.and_eq_true] at h1
      have hv' := Nat.eq_of_beq_eq_true h1.1
      subst hv'
      have has : aa = #[x] := Array.toList_inj.1 (by simpa using ha)
      have hts : ts = #[t] := Array.toList_inj.1 (by simpa using ht)
      subst has hts
      refine qju (x := .arr k' e' xs) hs hg (by intros; simp) h2 rfl fun ρ ro K hK => ?_
      have e1 : (s.ren ρ).ev x = some (.ar id (ρ ver) k off m) := by rw [qaK, hx]; rfl
      refine AOp.clear hop hN (hT.ty _ _ hU) rfl (hT.ty _ _ hTe) hz e1 (qcU ρ hg) (by rw [qco]; exact Nat.le_of_ble_eq_true h1.2) ?_
      have hzr : z'.ren ρ = z' := by
       have := qeJ ρ hz
       simp only [renL, List.cons.injEq, and_true] at this
       exact this
      have hrr : renL ρ (List.replicate m z') = List.replicate m z' := by rw [qeu, List.map_replicate, hzr]
      simp only [AObj.ren, qbr, qdg, qdO, hrr] at hK
      exact hK
     cases h
    cases h
   cases h
  cases h
 ·-- copy
  rename_i aa ts hop
  unfold qqY at h
  try simp only [qa0, qay, qaE, qax, qaN, qaU, qau] at h
  split at h
  ·rename_i x y t xt ha ht
   split at h
   ·rename_i e sz by' z id ver k off m' hy hU hex hey
    split at h
    ·rename_i Te ver' k' e' xs hTe hg
     split at h
     ·rename_i m ds hsr
      replace h := qag h
      obtain ⟨h1, h⟩ := h
      replace h := qag h
      obtain ⟨h2, h⟩ := h
      cases h
      simp only [Bool.and_eq_true] at h1
      have hv' := Nat.eq_of_beq_eq_true h1.1
      subst hv'
      have has : aa = #[x, y] := Array.toList_inj.1 (by simpa using ha)
      have hts : ts = #[t, xt] := Array.toList_inj.1 (by simpa using ht)
      subst has hts
      refine qju (x := .arr k' e' xs) hs hg (by intros; simp) h2 rfl fun ρ ro K hK => ?_
      have e1 : (s.ren ρ).ev x = some (.ar id (ρ ver) k off m') := by rw [qaK, hex]; rfl
      have e2 : (s.ren ρ).ev y = some (hy.ren ρ) := by rw [qaK, hey]; rfl
      refine AOp.copy hop hN (hT.ty _ _ hU) rfl (hT.ty _ _ hTe) e1 e2 (fun l e => ?_) (qcU ρ hg) (qjr hT.ty hsr) (by rw [qco]; exact Nat.le_of_ble_eq_true h1.2.2) ?_
      ·have h3 := h1.2.1
       cases hy <;> simp [HV.ren, qrN] at e h3
      simp only [AObj.ren, qbr, qdg, qdO] at hK
      exact hK
     cases h
    cases h
   cases h
  cases h
 ·-- call
  rename_i f aa ts hop
  unfold qqZ at h
  try simp only [qa0, qay, qaE, qax, qaN, qaU, qau] at h
  split at h
  ·rename_i g fs cs hs' hf ha
   replace h := qag h
   obtain ⟨h1, h⟩ := h
   split at h
   ·rename_i rv H n1 hr1
    cases h
    obtain ⟨h2, h3, st, hc⟩ := hr _ _ hr1 h1 hsh
    have hsl := qbT hs
    refine ⟨qfj (by simp only [AS.sc, qet st.le _ hsl, h3, Bool.and_self]) h2, by rw [qcR]; exact st, fun ρ ro K hK => ?_⟩
    have e1 : (s.ren ρ).ev f = some (.fn (.func g) (renL ρ fs) (renL ρ cs)) := by rw [qaK, hf]; rfl
    refine AOp.call hop rfl hN e1 (qpt ha ρ) ?_
    rw [← qbr, ← qbr]
    refine hc ρ _ fun ρ' hag => ?_
    have := hK ρ' hag
    rw [qdW] at this
    have e2 : ({ s with heap := H } : AS).ren ρ' = { s.ren ρ with heap := renH ρ' H } := by
     simp only [AS.ren]
     rw [qbM hag _ hsl]
    rw [e2] at this
    exact this
   cases h
  ·rename_i id ver hs' hf ha
   exact qpQ hr hN hs hop rfl hf ha h
  cases h
 ·-- build
  rename_i t ps hop
  unfold qoP at h
  try simp only [qa0, qay, qaE, qax, qaN, qaU, qau] at h
  split at h
  ·rename_i rv hb
   exact qlz hs h fun ρ ro K hK => AOp.build hop hN (qk7 hT.ty hb hK)
  cases h
 ·-- makeMap
  rename_i t hop
  refine qiQ (ob := .map []) (h := .mp n n) hs (.inl rfl) (self n) h fun ρ ro K hK => ?_
  refine AOp.makeMap n hop hN fun ver => ?_
  have := hK ver
  simp only [HV.ren, qgq, AObj.ren, renE] at this
  exact this
 ·-- mapUpdate
  rename_i t m x y hop
  unfold qe2 at h
  try simp only [qa0, qay, qaE, qax, qaN, qaU, qau] at h
  split at h
  ·rename_i kt et sz by' z id ver k hv hU hm hx hy
   split at h
   ·rename_i sz2 by2 z2 ver' es hTk hg
    replace h := qag h
    obtain ⟨h1, h⟩ := h
    replace h := qag h
    obtain ⟨h2, h⟩ := h
    cases h
    simp only [Bool.and_eq_true] at h1
    have hv' := Nat.eq_of_beq_eq_true h1.1
    subst hv'
    refine qju (x := .map es) hs hg (by intros; simp) h2 rfl fun ρ ro K hK => ?_
    have e1 : (s.ren ρ).ev m = some (.mp id (ρ ver)) := by rw [qaK, hm]; rfl
    have e2 : (s.ren ρ).ev x = some (.str k) := by rw [qaK, hx]; rfl
    have e3 : (s.ren ρ).ev y = some (hv.ren ρ) := by rw [qaK, hy]; rfl
    refine AOp.mapUpdate (.inl hop) hN (hT.ty _ _ hU) rfl (hT.ty _ _ hTk) rfl e1 e2 e3 (qcU ρ hg) (qcf h1.2) ?_
    simp only [AObj.ren, qkp] at hK
    exact hK
   cases h
  cases h
 ·-- insert
  rename_i t m x y hop
  unfold qe2 at h
  try simp only [qa0, qay, qaE, qax, qaN, qaU, qau] at h
  split at h
  ·rename_i kt et sz by' z id ver k hv hU hm hx hy
   split at h
   ·rename_i sz2 by2 z2 ver' es hTk hg
    replace h := qag h
    obtain ⟨h1, h⟩ := h
    replace h := qag h
    obtain ⟨h2, h⟩ := h
    cases h
    simp only [Bool.and_eq_true] at h1
    have hv' := Nat.eq_of_beq_eq_true h1.1
    subst hv'
    refine qju (x := .map es) hs hg (by intros; simp) h2 rfl fun ρ ro K hK => ?_
    have e1 : (s.ren ρ).ev m = some (.mp id (ρ ver)) := by rw [qaK, hm]; rfl
    have e2 : (s.ren ρ).ev x = some (.str k) := by rw [qaK, hx]; rfl
    have e3 : (s.ren ρ).ev y = some (hv.ren ρ) := by rw [qaK, hy]; rfl
    refine AOp.mapUpdate (.inr hop) hN (hT.ty _ _ hU) rfl (hT.ty _ _ hTk) rfl e1 e2 e3 (qcU ρ hg) (qcf h1.2) ?_
    simp only [AObj.ren, qkp] at hK
    exact hK
   cases h
  cases h
 ·-- lookup
  rename_i t m x hop
  unfold qm0 at h
  try simp only [qa0, qay, qaE, qax, qaN, qaU, qau] at h
  split at h
  ·rename_i kt et sz by' z id ver k hU hm hx
   split at h
   ·rename_i sz2 by2 z2 Te ver' es hTk hTe hg
    split at h
    ·rename_i z3 hz
     replace h := qag h
     obtain ⟨h1, h⟩ := h
     have hv' := Nat.eq_of_beq_eq_true h1
     subst hv'
     refine qlz hs h fun ρ ro K hK => ?_
     have e1 : (s.ren ρ).ev m = some (.mp id (ρ ver)) := by rw [qaK, hm]; rfl
     have e2 : (s.ren ρ).ev x = some (.str k) := by rw [qaK, hx]; rfl
     refine AOp.lookup hop hN (hT.ty _ _ hU) rfl (hT.ty _ _ hTk) rfl (hT.ty _ _ hTe) hz e1 e2 (qcU ρ hg) ?_
     rw [qi9]
     have h5 := qfe ρ Te.zero
     rw [hz] at h5
     simp only [Option.map_some, Option.some.injEq] at h5
     cases hl : qdp k es with
     | none => rw [hl] at hK; simp only [Option.getD_none, h5, Option.map_none] at hK ⊢; exact hK
     | some q => rw [hl] at hK; exact hK
    cases h
   cases h
  cases h
 ·-- range
  rename_i t m hop
  unfold qoM at h
  try simp only [qa0, qay, qaE, qax, qaN, qaU, qau] at h
  split at h
  ·rename_i kt et sz by' z mid mver hU hm
   split at h
   ·rename_i mver' es hg
    replace h := qag h
    obtain ⟨h1, h⟩ := h
    have hv' := Nat.eq_of_beq_eq_true h1
    subst hv'
    have hlt := qe1 hsh hg
    refine qiQ (ob := .iter mid mver [] false) (h := .it n n) hs (.inl rfl) (self n) h fun ρ ro K hK => ?_
    have e1 : (s.ren ρ).ev m = some (.mp mid (ρ mver)) := by rw [qaK, hm]; rfl
    refine AOp.range n hop hN (hT.ty _ _ hU) rfl e1 (qcU ρ hg) (by have := hlt.1.1; omega) fun ver => ?_
    have := hK ver
    simp only [HV.ren, qgq, AObj.ren] at this
    exact this
   cases h
  cases h
 ·-- next
  rename_i x hop
  unfold qqX at h
  try simp only [qa0, qay, qaE, qax, qaN, qaU, qau] at h
  split at h
  ·rename_i id ver hx
   split at h
   ·rename_i ver' mid mver seen cur hg
    split at h
    ·rename_i mver' es hgm
     replace h := qag h
     obtain ⟨h1, h⟩ := h
     simp only [Bool.and_eq_true] at h1
     have hv' := Nat.eq_of_beq_eq_true h1.1
     subst hv'
     have hv' := Nat.eq_of_beq_eq_true h1.2
     subst hv'
     split at h
     ·rename_i hu
      refine qlz hs h fun ρ ro K hK => ?_
      have e1 : (s.ren ρ).ev x = some (.it id (ρ ver)) := by rw [qaK, hx]; rfl
      refine AOp.next hop hN e1 (qcU ρ hg) (qcU ρ hgm) (fun _ => hK) fun k v hkv hks => ?_
      obtain ⟨u, hu1, _⟩ := qkr hkv
      have := qeS.2 ⟨hu1, hks⟩
      rw [hu] at this
      cases this
     ·rename_i k v hu
      replace h := qag h
      obtain ⟨h2, h⟩ := h
      cases h
      have hlm := qe1 hsh hgm
      refine qju (x := .iter mid mver seen cur) hs hg (by intros; simp) (by simp only [AObj.sc]; simpa [Nat.blt_eq] using hlm.1.2) (by simp only [HV.sc, scL, h2, Bool.and_self]) fun ρ ro K hK => ?_
      have e1 : (s.ren ρ).ev x = some (.it id (ρ ver)) := by rw [qaK, hx]; rfl
      refine AOp.next hop hN e1 (qcU ρ hg) (qcU ρ hgm) (fun hall => ?_) fun k' v' hkv hks => ?_
      ·have hm : (k, v) ∈ qis seen es := by rw [hu]; exact List.mem_cons_self ..
       obtain ⟨h3, h4⟩ := qeS.1 hm
       exact absurd (hall _ (qlf h3)) h4
      obtain ⟨u, hu1, rfl⟩ := qkr hkv
      have := qeS.2 ⟨hu1, hks⟩
      rw [hu] at this
      simp only [List.mem_singleton] at this
      cases this
      exact hK
     cases h
    cases h
   cases h
  cases h
 ·-- entry
  rename_i x hop
  unfold qoN at h
  try simp only [qa0, qay, qaE, qax, qaN, qaU, qau] at h
  split at h
  ·rename_i id ver hx
   split at h
   ·rename_i ver' mid mver k seen hg
    split at h
    ·rename_i mver' es hgm
     replace h := qag h
     obtain ⟨h1, h⟩ := h
     simp only [Bool.and_eq_true] at h1
     have hv' := Nat.eq_of_beq_eq_true h1.1
     subst hv'
     have hv' := Nat.eq_of_beq_eq_true h1.2
     subst hv'
     split at h
     ·rename_i v hl
      refine qlz hs h fun ρ ro K hK => ?_
      have e1 : (s.ren ρ).ev x = some (.it id (ρ ver)) := by rw [qaK, hx]; rfl
      have e2 : qdp k (renE ρ es) = some (v.ren ρ) := by rw [qi9, hl]; rfl
      exact AOp.entry hop hN e1 (qcU ρ hg) (qcU ρ hgm) e2 hK
     cases h
    cases h
   cases h
  cases h
 exact qri hT hN hs h
end
end Go.AW
end

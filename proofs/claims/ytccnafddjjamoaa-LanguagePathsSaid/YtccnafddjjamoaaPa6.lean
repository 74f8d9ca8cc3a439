/- LanguagePaths: for every input the law's function returns true, and the input reads as it did. -/
import Derived.Test.YtccnafddjjamoaaPa5
import Derived.ChangeMaps5
import Derived.OpenShut
import Derived.ProofKit
import Derived.SliceStrings
import Derived.Test.YtccnafddjjamoaaRows
import Derived.WalkKit
import Derived.WideKeyArgs
/- The evaluation of closed code: regions, control, calls; that what it gives is so; a function's contract from its evaluation. -/
namespace Go.AW
open Go
set_option linter.unusedSimpArgs false

noncomputable def sops (r : Task → Option Out) (T : Tabs) (all : List Oper) : List Oper → AS → Nat → Option (AS × Nat)
  | [], s, n => some (s, n)
  | o :: rest, s, n => match o.guard with
    | none => match sop r T o s n with
      | some (s1, n1) => sops r T all rest s1 n1
      | none => none
    | some (j, want) => match all[j]? with
      | some oj => match oj.dst with
        | some d => match sgetR s.slots d with
          | some (.bool b) => match (b == want) with
            | true => match sop r T o (s.putR (some d) (.bool want)) n with
              | some (s1, n1) => sops r T all rest s1 n1
              | none => none
            | false => sops r T all rest ((s.putR (some d) (.bool !want)).putR o.dst (.v undef)) n
          | _ => none
        | none => none
      | none => none

/-- what a value stands for, if nobody writes the arrays behind it any more -/
noncomputable def sfrz : Nat → Heap → HV → Option HV
  | 0, _, h => some h
  | n + 1, D, h => match h with
    | .agg cs => match cs.mapM (sfrz n D) with
      | some cs => some (.agg cs)
      | none => none
    | .tup cs => match cs.mapM (sfrz n D) with
      | some cs => some (.tup cs)
      | none => none
    | .fn f fs cs => match fs.mapM (sfrz n D), cs.mapM (sfrz n D) with
      | some fs, some cs => some (.fn f fs cs)
      | _, _ => none
    | .ar id ver k off m => match hgetR D id with
      | some (ver', .arr _ _ cs) => guardO (Nat.beq ver ver' && Nat.ble (off + m * k) cs.length) (match ((cs.drop off).take (m * k)).mapM (sfrz n D) with
        | some cs => some (.sl k m cs)
        | none => none)
      | _ => none
    | .ptr id ver off => match hgetR D id with
      | some (ver', .arr _ _ cs) => guardO (Nat.beq ver ver') (match cs.mapM (sfrz n D) with
        | some cs => some (.fptr cs off)
        | none => none)
      | _ => none
    | h => some h

theorem sfrz_sound (n : Nat) (D : Heap) (ρ : Nat → Nat) : ∀ h h', sfrz n D h = some h' → frz n (renH ρ D) (h.ren ρ) = h'.ren ρ := by
  induction n with
  | zero => intro h h' e; cases e; rfl
  | succ n ih =>
    have ihL : ∀ (cs ds : List HV), cs.mapM (sfrz n D) = some ds → (renL ρ cs).map (frz n (renH ρ D)) = renL ρ ds := by
      intro cs
      induction cs with
      | nil => intro ds e; simp at e; subst e; rfl
      | cons c cs ihc =>
        intro ds e
        simp only [List.mapM_cons, Option.pure_def, Option.bind_eq_bind, Option.bind_eq_some_iff] at e
        obtain ⟨d, hd, es, he, e⟩ := e
        cases e
        simp only [renL, List.map_cons, ih _ _ hd, ihc _ he]
    intro h h' e
    unfold sfrz at e
    simp only [hgetR_eq] at e
    split at e
    · split at e
      · rename_i hc; cases e; simp only [HV.ren, frz, ihL _ _ hc]
      · cases e
    · split at e
      · rename_i hc; cases e; simp only [HV.ren, frz, ihL _ _ hc]
      · cases e
    · split at e
      · rename_i hf hc; cases e; simp only [HV.ren, frz, ihL _ _ hf, ihL _ _ hc]
      · cases e
    · split at e
      · rename_i id ver k off m _ ver' k' e' cs hg
        replace e := guardO_some e
        obtain ⟨h1, e⟩ := e
        simp only [Bool.and_eq_true] at h1
        have hv := Nat.eq_of_beq_eq_true h1.1
        subst hv
        split at e
        · rename_i ds hc
          cases e
          simp only [HV.ren, frz, hget_ren, hg, Option.map_some, AObj.ren]
          rw [if_pos ⟨trivial, by rw [renL_len]; exact Nat.le_of_ble_eq_true h1.2⟩, ← renL_drop, ← renL_take, ihL _ _ hc]
        · cases e
      · cases e
    · split at e
      · rename_i id ver off _ ver' k' e' cs hg
        replace e := guardO_some e
        obtain ⟨h1, e⟩ := e
        have hv := Nat.eq_of_beq_eq_true h1
        subst hv
        split at e
        · rename_i ds hc
          cases e
          simp only [HV.ren, frz, hget_ren, hg, Option.map_some, AObj.ren, if_true]
          rw [ihL _ _ hc]
        · cases e
      · cases e
    · cases e
      cases h <;> first | rfl | (exfalso; rename_i h1 h2 h3 h4 h5; first | exact h1 _ rfl | exact h2 _ rfl | exact h3 _ _ _ rfl | exact h4 _ _ _ _ _ rfl | exact h5 _ _ _ rfl)

theorem ACall.conv {P : Program} {f : FuncId} {args : List HV} {H : Heap} {K K' : HV → Heap → Prop} (h : ACall P f args H K) (hc : ∀ r H', K r H' → ∃ r2 H2, Conv H' r r2 H2 ∧ K' r2 H2) : ACall P f args H K' :=
  ⟨h.1, fun μ w vs hs hr => (h.2 μ w vs hs hr).mono fun _ w' ⟨v, r, H', μ', e, k, hs', hr', E⟩ => by
    obtain ⟨r2, H2, hconv, hk⟩ := hc r H' k
    obtain ⟨μ2, hs2, hr2, E2⟩ := hconv w' μ' v hs' hr'
    exact ⟨v, r2, H2, μ2, e, hk, hs2, hr2, E.trans E2⟩⟩

noncomputable def spBox (s : AS) (x : Operand) : Option HV := match s.evR x with
    | some hv => match hv.cells? with
      | some cs => some (.fptr cs 0)
      | none => none
    | none => none
noncomputable def spBuild (T : Tabs) (s : AS) (t : TypeId) (m : Nat) (ps : Array (Nat × Operand)) : Option HV := guardO (Nat.ble m 16777216) (match sslice T.ty s t m ps.toList with
    | some (k, _, cs) => some (.sl k m cs)
    | none => none)
noncomputable def spCall (r : Task → Option Out) (s : AS) (f : Operand) (aa : Array Operand) : Option HV := match s.evR f, aa.toList.mapM s.evR with
    | some (.fn (.func g) fs cs), some hs => (match (fs ++ hs ++ cs).mapM (sfrz 8 s.heap) with
      | some as' => guardO (scL 0 as') (match r (.call g as' [] 0) with
        | some (.call rv H _) => guardO (scL 0 (fs ++ hs ++ cs) || (nf rv && nfH H)) (match sfrz 8 H rv with
          | some q => guardO (q.sc 0) (some q)
          | none => none)
        | _ => none)
      | none => none)
    | _, _ => none
noncomputable def sopS (r : Task → Option Out) (T : Tabs) (o : Oper) (s : AS) : Option HV :=
  match o.op with
  | .box _ x => spBox s x
  | .buildSlice t m ps => spBuild T s t m ps
  | .call ⟨.value f, aa, _⟩ => spCall r s f aa
  | op => sval T.ty op s

noncomputable def ssteps (r : Task → Option Out) (T : Tabs) (all : List Oper) : List Oper → AS → Nat → Option AS
  | [], s, _ => some s
  | o :: rest, s, n => match o.guard with
    | none => match sopS r T o s with
      | some h => guardO (h.sc n) (ssteps r T all rest (s.putR o.dst h) n)
      | none => none
    | some (j, want) => match all[j]? with
      | some oj => match oj.dst with
        | some d => match sgetR s.slots d with
          | some (.bool b) => match (b == want) with
            | true => match sopS r T o (s.putR (some d) (.bool want)) with
              | some h => guardO (h.sc n) (ssteps r T all rest ((s.putR (some d) (.bool want)).putR o.dst h) n)
              | none => none
            | false => ssteps r T all rest ((s.putR (some d) (.bool !want)).putR o.dst (.v undef)) n
          | _ => none
        | none => none
      | none => none

def steadyKind (o : Oper) : Bool := match o.op with
  | .alloc _ | .store _ _ _ | .makeSlice _ _ _ | .makeMap _ _ | .mapUpdate _ _ _ _ | .insert _ _ _ _ | .lookup _ _ _ _ | .range _ _ | .next _ _ | .entry _ | .build _ _ => false
  | .call ⟨.builtin .append, _, _⟩ => false
  | _ => true
def callKind (o : Oper) : Bool := match o.op with
  | .call ⟨.value _, _, _⟩ | .box _ _ | .buildSlice _ _ _ => true
  | _ => false

/-- how many operations at the head change nothing -/
noncomputable def greedy (r : Task → Option Out) (T : Tabs) (all : List Oper) : List Oper → AS → Nat → Nat
  | [], _, p => p
  | o :: rest, s, p => bif steadyKind o then (match o.guard with
    | none => match sopS r T o s with
      | some h => greedy r T all rest (s.putR o.dst h) (p + 1)
      | none => p
    | some (j, want) => match all[j]? with
      | some oj => match oj.dst with
        | some d => match sgetR s.slots d with
          | some (.bool b) => match (b == want) with
            | true => match sopS r T o s with
              | some h => greedy r T all rest (s.putR o.dst h) (p + 1)
              | none => p
            | false => greedy r T all rest (s.putR o.dst (.v undef)) (p + 1)
          | _ => p
        | none => p
      | none => p) else p

def plain : List Oper → Nat → Nat
  | [], p => p
  | o :: rest, p => bif (steadyKind o && !callKind o) then plain rest (p + 1) else p

noncomputable def sdrawP (r : Task → Option Out) (T : Tabs) (ops : Array Oper) (s : AS) (n p : Nat) : Option (AS × Nat) :=
  guardO (drawOk ops p) (match ssteps r T ops.toList (ops.toList.take p) s n with
    | some s1 => sops r T ops.toList (ops.toList.drop p) s1 n
    | none => none)

noncomputable def sdraw (r : Task → Option Out) (T : Tabs) (ops : Array Oper) (s : AS) (n : Nat) : Option (AS × Nat) :=
  match sdrawP r T ops s n (greedy r T ops.toList ops.toList s 0) with
  | some x => some x
  | none => sdrawP r T ops s n (plain ops.toList 0)

noncomputable def sres1 (T : TypeId → Option TyI) (s : AS) (rv : ResultVar) : Option HV :=
  match rv with
  | .tmp t => sgetR s.slots t
  | .cell t ty' => match T ty', sgetR s.slots t with
    | some U, some (.fptr cs off) => sload U cs off
    | some U, some (.ptr id ver off) => match hgetR s.heap id with
      | some (ver', .arr _ _ cs) => guardO (Nat.beq ver ver') (sload U cs off)
      | _ => none
    | _, _ => none

noncomputable def sres (T : TypeId → Option TyI) (s : AS) : List ResultVar → Option (List HV)
  | [] => some []
  | rv :: rvs => match sres1 T s rv, sres T s rvs with
    | some h, some hs => some (h :: hs)
    | _, _ => none

/-! dropping what nothing leads to -/
mutual
def HV.refs (n : Nat) : HV → List Nat → List Nat
  | .agg cs, a | .tup cs, a | .sl _ _ cs, a | .fptr cs _, a => refsL n cs a
  | .ar id _ _ _ _, a | .ptr id _ _, a | .mp id _, a | .yl id _, a | .it id _, a => bif Nat.blt id n then a else id :: a
  | .fn _ fs cs, a => refsL n fs (refsL n cs a)
  | _, a => a
def refsL (n : Nat) : List HV → List Nat → List Nat
  | [], a => a
  | c :: cs, a => c.refs n (refsL n cs a)
end
def refsS (n : Nat) : List (Nat × HV) → List Nat → List Nat
  | [], a => a
  | (_, h) :: l, a => h.refs n (refsS n l a)
def refsE (n : Nat) : List (List UInt8 × HV) → List Nat → List Nat
  | [], a => a
  | (_, h) :: l, a => h.refs n (refsE n l a)
def AObj.refs (n : Nat) : AObj → List Nat → List Nat
  | .arr _ _ cs, a => refsL n cs a
  | .map es, a => refsE n es a
  | .iter mid _ _ _, a => bif Nat.blt mid n then a else mid :: a
  | .loop _ _ _ _ snap _ _ _, a => refsS n snap a
def oldRefs (n : Nat) : Heap → List Nat → List Nat
  | [], a => a
  | (i, _, o) :: l, a => bif Nat.blt i n then o.refs n (oldRefs n l a) else oldRefs n l a
def memN (i : Nat) : List Nat → Bool
  | [] => false
  | j :: l => bif Nat.beq i j then true else memN i l
def mark (n : Nat) (H : Heap) : Nat → List Nat → List Nat → List Nat
  | 0, _, m => m
  | _ + 1, [], m => m
  | f + 1, i :: w, m => bif memN i m then mark n H f w m else match hget H i with
    | some (_, o) => mark n H f (o.refs n w) (i :: m)
    | none => mark n H f w m
def hkeep (n : Nat) (m : List Nat) : Heap → Heap
  | [] => []
  | (i, x) :: l => bif (Nat.blt i n || memN i m) then (i, x) :: hkeep n m l else hkeep n m l
def anyNew (n : Nat) : Heap → Bool
  | [] => false
  | (i, _) :: l => bif Nat.blt i n then anyNew n l else true
def gc (n : Nat) (rv : HV) (H : Heap) : Heap := bif anyNew n H then hkeep n (mark n H 200 (rv.refs n (oldRefs n H [])) []) H else H

theorem hkeep_get (n : Nat) (m : List Nat) : ∀ (H : Heap) (id : Nat) (x : Nat × AObj), hget (hkeep n m H) id = some x → hget H id = some x
  | [], _, _, h => h
  | (i, v, o) :: l, id, x, h => by
    simp only [hkeep] at h
    simp only [hget]
    cases hb : (Nat.blt i n || memN i m) with
    | true =>
      rw [hb] at h
      simp only [cond_true, hget] at h
      split
      · rename_i e; rw [if_pos e] at h; exact h
      · rename_i e; rw [if_neg e] at h; exact hkeep_get n m l id x h
    | false =>
      rw [hb] at h
      simp only [cond_false] at h
      split
      · rename_i e
        subst e
        exfalso
        have : ∀ l : Heap, hget (hkeep n m l) id = none := fun l => by
          induction l with
          | nil => rfl
          | cons y l ih =>
            obtain ⟨j, y⟩ := y
            simp only [hkeep]
            cases hb2 : (Nat.blt j n || memN j m) with
            | true =>
              simp only [cond_true, hget]
              split
              · rename_i e; subst e; rw [hb] at hb2; cases hb2
              · exact ih
            | false => exact ih
        rw [this] at h
        cases h
      · exact hkeep_get n m l id x h

theorem gc_get {n : Nat} {rv : HV} {H : Heap} {id : Nat} {x : Nat × AObj} (h : hget (gc n rv H) id = some x) : hget H id = some x := by
  unfold gc at h
  cases hb : anyNew n H with
  | true => rw [hb] at h; exact hkeep_get _ _ _ _ _ h
  | false => rw [hb] at h; exact h

theorem hkeep_sc {k n : Nat} {m : List Nat} : ∀ {H : Heap}, scH k H = true → scH k (hkeep n m H) = true
  | [], _ => rfl
  | (i, v, o) :: l, h => by
    simp only [scH, Bool.and_eq_true] at h
    simp only [hkeep]
    cases (Nat.blt i n || memN i m) with
    | true => simp only [cond_true, scH, h.1.1.1, h.1.1.2, h.1.2, hkeep_sc h.2, Bool.and_self]
    | false => exact hkeep_sc h.2
theorem gc_sc {k n : Nat} {rv : HV} {H : Heap} (h : scH k H = true) : scH k (gc n rv H) = true := by
  unfold gc
  cases anyNew n H with
  | true => exact hkeep_sc h
  | false => exact h

theorem Step.drop {n n' : Nat} {H H1 H2 : Heap} (h : Step n n' H H1) (hd : ∀ id x, hget H2 id = some x → hget H1 id = some x) : Step n n' H H2 :=
  ⟨h.le, fun id v st pend f m snap ps a b hg x hx => h.loop id v st pend f m snap ps a b hg x (hd id x hx), fun id hid y hy => h.back id hid y (hd id y hy)⟩

mutual
theorem HV.ren_id : ∀ h : HV, h.ren (fun v => v) = h
  | .int _ _ => rfl
  | .bool _ => rfl
  | .str _ => rfl
  | .v _ => rfl
  | .agg cs => congrArg HV.agg (renL_id cs)
  | .tup cs => congrArg HV.tup (renL_id cs)
  | .sl k m cs => congrArg (HV.sl k m) (renL_id cs)
  | .ar _ _ _ _ _ => rfl
  | .ptr _ _ _ => rfl
  | .fptr cs off => congrArg (fun x => HV.fptr x off) (renL_id cs)
  | .fn f fs cs => by simp only [HV.ren]; rw [renL_id fs, renL_id cs]
  | .mp _ _ => rfl
  | .yl _ _ => rfl
  | .it _ _ => rfl
theorem renL_id : ∀ cs : List HV, renL (fun v => v) cs = cs
  | [] => rfl
  | c :: cs => by simp only [renL]; rw [HV.ren_id c, renL_id cs]
end
theorem ren_sc0 (ρ : Nat → Nat) {h : HV} (hs : h.sc 0 = true) : h.ren ρ = h := (HV.ren_agree (ρ' := fun v => v) (fun v hv => by omega) h hs).trans h.ren_id
theorem renL_sc0 (ρ : Nat → Nat) {h : List HV} (hs : scL 0 h = true) : renL ρ h = h := (renL_agree (ρ' := fun v => v) (fun v hv => by omega) h hs).trans (renL_id h)

mutual
theorem sc0_clean : ∀ h : HV, h.sc 0 = true → clean h
  | .int _ _, _ => trivial
  | .bool _, _ => trivial
  | .str _, _ => trivial
  | .v _, _ => trivial
  | .agg cs, h => sc0_cleanL cs h
  | .tup cs, h => sc0_cleanL cs h
  | .sl _ _ cs, h => sc0_cleanL cs h
  | .fptr cs _, h => sc0_cleanL cs h
  | .fn _ fs cs, h => by
    simp only [HV.sc, Bool.and_eq_true] at h
    exact ⟨sc0_cleanL fs h.1, sc0_cleanL cs h.2⟩
  | .ar _ v _ _ _, h => absurd (blt_lt h) (Nat.not_lt_zero _)
  | .ptr _ v _, h => absurd (blt_lt h) (Nat.not_lt_zero _)
  | .mp _ v, h => absurd (blt_lt h) (Nat.not_lt_zero _)
  | .yl _ v, h => absurd (blt_lt h) (Nat.not_lt_zero _)
  | .it _ v, h => absurd (blt_lt h) (Nat.not_lt_zero _)
theorem sc0_cleanL : ∀ cs : List HV, scL 0 cs = true → cleanL cs
  | [], _ => trivial
  | c :: cs, h => by
    simp only [scL, Bool.and_eq_true] at h
    exact ⟨sc0_clean c h.1, sc0_cleanL cs h.2⟩
end

noncomputable def rounds (r : Task → Option Out) (top : Bool) (N : Nat) (x : Code) : Nat → AS → Nat → Option Out
  | 0, _, _ => none
  | k + 1, s, n => match r (.code top N x s n) with
    | some (.code .normal s1 n1) => rounds r top N x k s1 n1
    | o => o

def isEnd : Exit → Bool
  | .normal | .ret => true
  | _ => false

def notBusy : LoopState → Bool
  | .busy => false
  | _ => true

def strsOf : List HV → Option (List (List UInt8))
  | [] => some []
  | .str l :: cs => match strsOf cs with
    | some ls => some (l :: ls)
    | none => none
  | _ => none
def intsOf : List HV → Option (List Int)
  | [] => some []
  | .int .i64 n :: cs => match intsOf cs with
    | some ls => some (n :: ls)
    | none => none
  | _ => none

theorem strsOf_eq : ∀ {cs : List HV} {ls : List (List UInt8)}, strsOf cs = some ls → cs = ls.map .str
  | [], ls, h => by cases h; rfl
  | c :: cs, ls, h => by
    unfold strsOf at h
    split at h
    · cases h; simp_all
    · rename_i l cs' heq
      cases heq
      split at h
      · rename_i ls' hl
        cases h
        rw [strsOf_eq hl]
        rfl
      · cases h
    · cases h
theorem intsOf_eq : ∀ {cs : List HV} {ls : List Int}, intsOf cs = some ls → cs = ls.map (.int .i64)
  | [], ls, h => by cases h; rfl
  | c :: cs, ls, h => by
    unfold intsOf at h
    split at h
    · cases h; simp_all
    · rename_i l cs' heq
      cases heq
      split at h
      · rename_i ls' hl
        cases h
        rw [intsOf_eq hl]
        rfl
      · cases h
    · cases h

/-- a sort in place -/
noncomputable def ssort (k : Bool) (args : List HV) (H : Heap) (n : Nat) : Option Out :=
  match args with
  | [.v (.slice none 0 0)] => some (.call (.tup []) H n)
  | [.ar id ver 1 0 m] => match hgetR H id with
    | some (ver', .arr 1 e cs) => match k with
      | true => match strsOf cs with
        | some ls => guardO (Nat.beq ver ver' && (Nat.beq m ls.length && Nat.blt ls.length 4611686018427387904)) (some (.call (.tup []) (hsetR H id ver (.arr 1 e ((isort (fun a b => decide (a ≤ b)) ls).map .str))) n))
        | none => none
      | false => match intsOf cs with
        | some ls => guardO (Nat.beq ver ver' && (Nat.beq m ls.length && Nat.blt ls.length 4611686018427387904)) (some (.call (.tup []) (hsetR H id ver (.arr 1 e ((isort (fun a b => decide (a ≤ b)) ls).map (.int .i64)))) n))
        | none => none
    | _ => none
  | _ => none

noncomputable def stRegion (T : Tabs) (r : Task → Option Out) (ops : Array Oper) (dr : Bool) (N : Nat) (s : AS) (n : Nat) : Option Out := guardO (ops.toList.all fun o => okd N o.dst) (match (match dr with
        | true => sdraw r T ops s n
        | false => sops r T ops.toList ops.toList s n) with
      | some (s1, n1) => some (.code .normal s1 n1)
      | none => none)
noncomputable def stRange (r : Task → Option Out) (top : Bool) (N : Nat) (g : Operand) (ps : Array Tmp) (assign body : Code) (s : AS) (n : Nat) : Option Out := match top, s.evR g with
      | true, some (.fn (.func f) fs cs) => guardO (scL n fs && scL n cs) (match r (.call f (fs ++ [.yl n n] ++ cs) (hsetR s.heap n n (.loop .ready none (n + 1) N s.slots ps assign body)) (n + 2)) with
        | some (.call _ H n1) => match hgetR H n with
          | some (_, .loop st pend _ _ _ _ _ _) => guardO (notBusy st) (match pend with
            | none => some (.code .normal { s with heap := hsetR H n n (.loop .exhausted none (n + 1) N s.slots ps assign body) } n1)
            | some .ret => some (.code .ret { s with heap := hsetR H n n (.loop .exhausted (some .ret) (n + 1) N s.slots ps assign body) } n1)
            | some (.exit i) => some (.code (.exit i) { s with heap := hsetR H n n (.loop .exhausted (some (.exit i)) (n + 1) N s.slots ps assign body) } n1)
            | _ => none)
          | _ => none
        | _ => none)
      | _, _ => none
noncomputable def stBody (T : Tabs) (r : Task → Option Out) (fn : Func) (c : Code) (args : List HV) (H : Heap) (n : Nat) : Option Out := guardO (Nat.ble args.length fn.ntmps) (match r (.code true fn.ntmps c ⟨enumS 0 args, H⟩ n) with
          | some (.code e s1 n1) => guardO (isEnd e) (match sres T.ty s1 fn.results.toList with
            | some hs => guardO ((joinR hs).sc n1) (some (.call (joinR hs) (gc n (joinR hs) s1.heap) n1))
            | none => none)
          | _ => none)
noncomputable def stCall (T : Tabs) (r : Task → Option Out) (f : FuncId) (args : List HV) (H : Heap) (n : Nat) : Option Out := match T.sort f with
   | some k => ssort k args H n
   | none => match (match args.mapM (sfrz 8 H) with
      | some as' => guardO (scL 0 as') (T.ext f as')
      | none => none) with
    | some rv => guardO (rv.sc 0) (some (.call rv H n))
    | none => match T.fn f with
      | some fn => match fn.body with
        | some c => stBody T r fn c args H n
        | none => none
      | none => none
noncomputable def stCut (T : Tabs) (r : Task → Option Out) (top : Bool) (N : Nat) (ks : Option (List Nat)) (y : Code) (s : AS) (n : Nat) : Option Out := match ks with
      | some ks => keepK s.slots ks fun l => r (.code top N y ⟨l, s.heap⟩ n)
      | none => r (.code top N y s n)
noncomputable def stSeq (T : Tabs) (r : Task → Option Out) (top : Bool) (N : Nat) (x y : Code) (s : AS) (n : Nat) : Option Out := match r (.code top N x s n) with
      | some (.code .normal s1 n1) => stCut T r top N (match x with
        | .region id _ _ => T.keep N id
        | _ => none) y s1 n1
      | o => o
noncomputable def stBlock (r : Task → Option Out) (top : Bool) (N : Nat) (i : Nat) (x : Code) (s : AS) (n : Nat) : Option Out := match r (.code top N x s n) with
      | some (.code (.exit j) s1 n1) => some (.code (if j = i then .normal else .exit j) s1 n1)
      | o => o
noncomputable def stCond (r : Task → Option Out) (top : Bool) (N : Nat) (c : Operand) (x y : Code) (s : AS) (n : Nat) : Option Out := match s.evR c with
      | some (.bool true) => r (.code top N x s n)
      | some (.bool false) => r (.code top N y s n)
      | _ => none
noncomputable def stCode (T : Tabs) (r : Task → Option Out) (top : Bool) (N : Nat) (c : Code) (s : AS) (n : Nat) : Option Out := match c with
    | .skip => some (.code .normal s n)
    | .exit i => some (.code (.exit i) s n)
    | .ret => some (.code .ret s n)
    | .seq x y => stSeq T r top N x y s n
    | .block i x => stBlock r top N i x s n
    | .cond c x y => stCond r top N c x y s n
    | .loop x => rounds r top N x 5000 s n
    | .region _ ops dr => stRegion T r ops dr N s n
    | .rangeFunc g ps assign body => stRange r top N g ps assign body s n
    | _ => none
noncomputable def step (T : Tabs) (r : Task → Option Out) : Task → Option Out
  | .code top N c s n => stCode T r top N c s n
  | .call f args H n => stCall T r f args H n

noncomputable def run (T : Tabs) : Nat → Task → Option Out
  | 0, _ => none
  | k + 1, t => step T (run T k) t

section
variable {P : Program} {T : Tabs} {N n n' : Nat} {s s' : AS} {r : Task → Option Out}

theorem sops_ok (hT : T.Ok P) (hr : Good P r) {ops : Array Oper} (hok : ops.toList.all (fun o => okd N o.dst) = true) : ∀ (l : List Oper) (i : Nat) (s : AS) (n : Nat), (∀ k, l[k]? = ops[i + k]?) → s.sc n = true → sops r T ops.toList l s n = some (s', n') →
    s'.sc n' = true ∧ Step n n' s.heap s'.heap ∧ ∀ (ρ : Nat → Nat) (ro : Option Nat) (K : AS → Prop), (∀ ρ', Agree n ρ ρ' → K (s'.ren ρ')) → AOps P ro N ops (List.range' i l.length) K (s.ren ρ)
  | [], i, s, n, _, hs, h => by
    cases h
    exact ⟨hs, Step.refl _ _, fun ρ ro K hK => AOps.nil (hK ρ (Agree.refl _ _))⟩
  | o :: l, i, s, n, hl, hs, h => by
    have ho : ops[i]? = some o := by have := hl 0; simpa using this.symm
    have hN : okd N o.dst = true := List.all_eq_true.1 hok o (by
      have := Array.getElem?_toList (xs := ops) (i := i)
      rw [ho] at this
      exact List.mem_of_getElem? this)
    have hl' : ∀ k, l[k]? = ops[i + 1 + k]? := fun k => by
      have := hl (k + 1)
      rw [List.getElem?_cons_succ] at this
      rw [this]; congr 1; omega
    -- an operation, then the rest
    have go : ∀ (s0 : AS), s0.sc n = true → s0.heap = s.heap → (match sop r T o s0 n with
        | some (s1, n1) => sops r T ops.toList l s1 n1
        | none => none) = some (s', n') → s'.sc n' = true ∧ Step n n' s.heap s'.heap ∧ ∀ (ρ : Nat → Nat) (ro : Option Nat) (K : AS → Prop), (∀ ρ', Agree n ρ ρ' → K (s'.ren ρ')) → AOp P ro N o (AOps P ro N ops (List.range' (i + 1) l.length) K) (s0.ren ρ) := by
      intro s0 hs0 hh h
      split at h
      · rename_i s1 n1 hop
        obtain ⟨h1, h2, h3⟩ := sop_ok hT hr hN hs0 hop
        obtain ⟨h4, h5, h6⟩ := sops_ok hT hr hok l (i + 1) s1 n1 hl' h1 h
        rw [hh] at h2
        refine ⟨h4, h2.trans (sc_heap_of hs) h5, fun ρ ro K hK => h3 ρ ro _ fun ρ1 ha1 => h6 ρ1 ro K fun ρ2 ha2 => hK ρ2 (ha1.trans h2.le ha2)⟩
      · cases h
    simp only [sops, sgetR_eq, putR_eq] at h
    split at h
    · rename_i hg
      obtain ⟨h1, h2, h3⟩ := go s hs rfl h
      exact ⟨h1, h2, fun ρ ro K hK => AOps.cons ho hg (h3 ρ ro K hK)⟩
    · rename_i j want hg
      split at h
      · rename_i oj hoj
        split at h
        · rename_i d hd
          split at h
          · rename_i b hb
            have hbr : ∀ ρ : Nat → Nat, sget (s.ren ρ).slots d = some (.bool b) := fun ρ => by
              show sget (renS ρ s.slots) d = _
              rw [sget_ren, hb]; rfl
            split at h
            · rename_i hbw
              have hbw : b = want := by simpa using hbw
              obtain ⟨h1, h2, h3⟩ := go (s.put (some d) (.bool want)) (sc_put hs rfl) rfl h
              refine ⟨h1, h2, fun ρ ro K hK => AOps.guard ho hN hg (by simpa using hoj) hd (hbr ρ) (fun _ => ?_) (fun e => by cases b <;> cases want <;> simp at e hbw)⟩
              have := h3 ρ ro K hK
              rw [ren_put] at this
              exact this
            · rename_i hbw
              have hbw : b ≠ want := by simpa using hbw
              obtain ⟨h1, h2, h3⟩ := sops_ok hT hr hok l (i + 1) _ n hl' (sc_put (sc_put hs rfl) rfl) h
              rw [put_heap', put_heap'] at h2
              refine ⟨h1, h2, fun ρ ro K hK => AOps.guard ho hN hg (by simpa using hoj) hd (hbr ρ) (fun e => absurd e hbw) fun _ => ?_⟩
              have := h3 ρ ro K hK
              rw [ren_put, ren_put] at this
              exact this
          · cases h
        · cases h
      · cases h

theorem mapM_frz {D : Heap} (ρ : Nat → Nat) : ∀ {cs ds : List HV}, cs.mapM (sfrz 8 D) = some ds → (renL ρ cs).map (frz 8 (renH ρ D)) = renL ρ ds
  | [], ds, e => by simp at e; subst e; rfl
  | c :: cs, ds, e => by
    simp only [List.mapM_cons, Option.pure_def, Option.bind_eq_bind, Option.bind_eq_some_iff] at e
    obtain ⟨d, hd, es, he, e⟩ := e
    cases e
    simp only [renL, List.map_cons, sfrz_sound 8 D ρ _ _ hd, mapM_frz ρ he]

mutual
theorem nf_ren (ρ : Nat → Nat) : ∀ h : HV, nf h = true → nf (h.ren ρ) = true
  | .int _ _, _ => rfl
  | .bool _, _ => rfl
  | .str _, _ => rfl
  | .v _, _ => rfl
  | .agg cs, h => nfL_ren ρ cs h
  | .tup cs, h => nfL_ren ρ cs h
  | .sl _ _ _, h => by cases h
  | .ar _ _ _ _ _, _ => rfl
  | .ptr _ _ _, _ => rfl
  | .fptr _ _, h => by cases h
  | .fn _ fs cs, h => by
    simp only [nf, Bool.and_eq_true] at h
    simp only [HV.ren, nf, nfL_ren ρ fs h.1, nfL_ren ρ cs h.2, Bool.and_self]
  | .mp _ _, _ => rfl
  | .yl _ _, _ => rfl
  | .it _ _, _ => rfl
theorem nfL_ren (ρ : Nat → Nat) : ∀ cs : List HV, nfL cs = true → nfL (renL ρ cs) = true
  | [], _ => rfl
  | c :: cs, h => by
    simp only [nfL, Bool.and_eq_true] at h
    simp only [renL, nfL, nf_ren ρ c h.1, nfL_ren ρ cs h.2, Bool.and_self]
end
theorem nfE_ren (ρ : Nat → Nat) : ∀ es, nfE es = true → nfE (renE ρ es) = true
  | [], _ => rfl
  | (_, c) :: cs, h => by
    simp only [nfE, Bool.and_eq_true] at h
    simp only [renE, nfE, nf_ren ρ c h.1, nfE_ren ρ cs h.2, Bool.and_self]
theorem nfH_ren (ρ : Nat → Nat) : ∀ H : Heap, nfH H = true → nfH (renH ρ H) = true
  | [], _ => rfl
  | (_, _, o) :: H, h => by
    simp only [nfH, Bool.and_eq_true] at h
    have ho : nfO (o.ren ρ) = true := by
      cases o with
      | arr k e cs => exact nfL_ren ρ cs h.1
      | map es => exact nfE_ren ρ es h.1
      | iter _ _ _ _ => rfl
      | loop _ _ _ _ _ _ _ _ => cases h.1
    simp only [renH, nfH, ho, nfH_ren ρ H h.2, Bool.and_self]

theorem sfrz_sc0 {D : Heap} (m : Nat) : ∀ (h h' : HV), h.sc 0 = true → sfrz m D h = some h' → h' = h := by
  induction m with
  | zero => intro h h' _ e; cases e; rfl
  | succ m ih =>
    have ihL : ∀ (cs ds : List HV), scL 0 cs = true → cs.mapM (sfrz m D) = some ds → ds = cs := by
      intro cs
      induction cs with
      | nil => intro ds _ e; simp at e; exact e
      | cons c cs ihc =>
        intro ds hs e
        simp only [scL, Bool.and_eq_true] at hs
        simp only [List.mapM_cons, Option.pure_def, Option.bind_eq_bind, Option.bind_eq_some_iff] at e
        obtain ⟨d, hd, es, he, e⟩ := e
        cases e
        rw [ih _ _ hs.1 hd, ihc _ hs.2 he]
    intro h h' hs e
    unfold sfrz at e
    split at e
    · split at e
      · rename_i hc; cases e; rw [ihL _ _ hs hc]
      · cases e
    · split at e
      · rename_i hc; cases e; rw [ihL _ _ hs hc]
      · cases e
    · simp only [HV.sc, Bool.and_eq_true] at hs
      split at e
      · rename_i hf hc; cases e; rw [ihL _ _ hs.1 hf, ihL _ _ hs.2 hc]
      · cases e
    · exact absurd (blt_lt hs) (Nat.not_lt_zero _)
    · exact absurd (blt_lt hs) (Nat.not_lt_zero _)
    · cases e; rfl

theorem sfrzL_sc0 {D : Heap} (m : Nat) : ∀ (cs ds : List HV), scL 0 cs = true → cs.mapM (sfrz m D) = some ds → ds = cs
  | [], ds, _, e => by simp at e; exact e
  | c :: cs, ds, hs, e => by
    simp only [scL, Bool.and_eq_true] at hs
    simp only [List.mapM_cons, Option.pure_def, Option.bind_eq_bind, Option.bind_eq_some_iff] at e
    obtain ⟨d, hd, es, he, e⟩ := e
    cases e
    rw [sfrz_sc0 m _ _ hs.1 hd, sfrzL_sc0 m _ _ hs.2 he]

theorem callS_ok (hr : Good P r) {g : FuncId} {aa as' : List HV} {H H1 : Heap} {n1 : Nat} {rv q : HV} (ha : aa.mapM (sfrz 8 H) = some as') (h0 : scL 0 as' = true) (hc : r (.call g as' [] 0) = some (.call rv H1 n1))
    (hn : (scL 0 aa || (nf rv && nfH H1)) = true) (hf : sfrz 8 H1 rv = some q) (hq : q.sc 0 = true) (ρ : Nat → Nat) : ACallD P g (renL ρ aa) (renH ρ H) q := by
  obtain ⟨h1, h2, st, hcall⟩ := hr _ _ hc h0 rfl
  have hargs : renL ρ as' = (renL ρ aa).map (frz 8 (renH ρ H)) := (mapM_frz ρ ha).symm
  have hqr : ∀ ρ' : Nat → Nat, frz 8 (renH ρ' H1) (rv.ren ρ') = q := fun ρ' => by rw [sfrz_sound 8 H1 ρ' rv q hf, ren_sc0 ρ' hq]
  cases hs : scL 0 aa with
  | true =>
    have e : as' = aa := sfrzL_sc0 8 _ _ hs ha
    subst e
    refine ACallD.pure0 ?_
    rw [renL_sc0 ρ hs]
    have h5 := hcall ρ (fun r' H' => ∃ ρ', r' = rv.ren ρ' ∧ H' = renH ρ' H1) fun ρ' _ => ⟨ρ', rfl, rfl⟩
    rw [renL_sc0 ρ hs] at h5
    refine h5.conv ?_
    rintro r' H' ⟨ρ', rfl, rfl⟩
    exact ⟨_, _, Conv.all 8, hqr ρ', hqr ρ' ▸ sc0_clean q hq, rfl⟩
  | false =>
    rw [hs, Bool.false_or, Bool.and_eq_true] at hn
    refine ACall.lend (K := fun r' H' => ∃ ρ', r' = rv.ren ρ' ∧ H' = renH ρ' H1) 8 8 ?_ ?_ (sc0_clean q hq)
    · rw [← hargs]
      exact hcall ρ _ fun ρ' _ => ⟨ρ', rfl, rfl⟩
    · rintro r' H' ⟨ρ', rfl, rfl⟩
      exact ⟨nf_ren ρ' rv hn.1, nfH_ren ρ' H1 hn.2, hqr ρ'⟩

theorem sopS_ok (hT : T.Ok P) (hr : Good P r) {o : Oper} {q : HV} (h : sopS r T o s = some q) (ρ : Nat → Nat) {R : HV → Prop} (hq : R (q.ren ρ)) : aopS P o R (s.ren ρ) := by
  unfold sopS at h
  unfold aopS
  split at h
  · rename_i e x hop
    simp only [hop]
    unfold spBox at h
    try simp only [evR_eq, hgetR_eq, hsetR_eq, sgetR_eq, putR_eq, aslR_eq, apartsR_eq] at h
    split at h
    · rename_i hv hx
      split at h
      · rename_i cs hcs
        cases h
        simp only [ev_ren, hx, Option.map_some, cells_ren, hcs]
        exact hq
      · cases h
    · cases h
  · rename_i t m ps hop
    simp only [hop]
    unfold spBuild at h
    try simp only [evR_eq, hgetR_eq, hsetR_eq, sgetR_eq, putR_eq, aslR_eq, apartsR_eq] at h
    replace h := guardO_some h
    obtain ⟨h1, h⟩ := h
    split at h
    · rename_i k e cs hsl
      cases h
      exact ⟨Nat.le_of_ble_eq_true h1, sslice_sound hT.ty hsl hq⟩
    · cases h
  · rename_i f aa ts hop
    simp only [hop]
    unfold spCall at h
    try simp only [evR_eq, hgetR_eq, hsetR_eq, sgetR_eq, putR_eq, aslR_eq, apartsR_eq] at h
    split at h
    · rename_i g fs cs hs hf ha
      split at h
      · rename_i as' has'
        replace h := guardO_some h
        obtain ⟨h1, h⟩ := h
        split at h
        · rename_i rv H1 n1 hrc
          replace h := guardO_some h
          obtain ⟨h2, h⟩ := h
          split at h
          · rename_i q' hq'
            replace h := guardO_some h
            obtain ⟨h3, h⟩ := h
            cases h
            have := callS_ok hr has' h1 hrc h2 hq' h3 ρ
            simp only [ev_ren, hf, Option.map_some, HV.ren, evL_sc ha ρ]
            rw [← renL_append, ← renL_append]
            rw [ren_sc0 ρ h3] at hq
            exact ⟨q, this, hq⟩
          · cases h
        · cases h
      · cases h
    · cases h
  · have h' := sval_sound (P := P) hT.ty h hq
    split
    · rename_i h1 h2 h3 _ _ _ e; exact absurd e (h1 _ _)
    · rename_i h1 h2 h3 _ _ _ _ e; exact absurd e (h2 _ _ _)
    · rename_i e; rw [e] at h'; exact h'.elim
    · rename_i h1 h2 h3 _ _ _ _ e; exact absurd e (h3 _ _ _)
    · exact h'

theorem ssteps_ok (hT : T.Ok P) (hr : Good P r) {all : List Oper} (ρ : Nat → Nat) {K : AS → Prop} {s1 : AS} : ∀ (l : List Oper) (s : AS), s.sc n = true → ssteps r T all l s n = some s1 → s1.sc n = true ∧ s1.heap = s.heap ∧ (K (s1.ren ρ) → asteps P all l K (s.ren ρ))
  | [], s, hs, h => by cases h; exact ⟨hs, rfl, id⟩
  | o :: l, s, hs, h => by
    have go : ∀ (s0 : AS), s0.sc n = true → s0.heap = s.heap → (match sopS r T o s0 with
        | some h => guardO (h.sc n) (ssteps r T all l (s0.put o.dst h) n)
        | none => none) = some s1 → s1.sc n = true ∧ s1.heap = s.heap ∧ (K (s1.ren ρ) → aopS P o (fun h => asteps P all l K ((s0.ren ρ).put o.dst h)) (s0.ren ρ)) := by
      intro s0 hs0 hh h
      split at h
      · rename_i q hq
        replace h := guardO_some h
        obtain ⟨h1, h⟩ := h
        obtain ⟨h2, h3, h4⟩ := ssteps_ok hT hr ρ l _ (sc_put hs0 h1) h
        rw [put_heap', hh] at h3
        refine ⟨h2, h3, fun hK => sopS_ok hT hr hq ρ ?_⟩
        have := h4 hK
        rw [ren_put] at this
        exact this
      · cases h
    simp only [ssteps, sgetR_eq, putR_eq] at h
    split at h
    · rename_i hg
      obtain ⟨h1, h2, h3⟩ := go s hs rfl h
      refine ⟨h1, h2, fun hK => ?_⟩
      simp only [asteps, hg]
      exact h3 hK
    · rename_i j want hg
      split at h
      · rename_i oj hoj
        split at h
        · rename_i d hd
          split at h
          · rename_i b hb
            have hbr : sget (s.ren ρ).slots d = some (.bool b) := by
              show sget (renS ρ s.slots) d = _
              rw [sget_ren, hb]; rfl
            split at h
            · rename_i hbw
              have hbw : b = want := by simpa using hbw
              obtain ⟨h1, h2, h3⟩ := go (s.put (some d) (.bool want)) (sc_put hs rfl) rfl h
              refine ⟨h1, h2, fun hK => ?_⟩
              simp only [asteps, hg, hoj, hd, hbr]
              have h4 := h3 hK
              rw [ren_put] at h4
              rw [if_pos hbw]
              exact h4
            · rename_i hbw
              have hbw : b ≠ want := by simpa using hbw
              obtain ⟨h1, h2, h3⟩ := ssteps_ok hT hr ρ l _ (sc_put (d := o.dst) (h := .v undef) (sc_put (d := some d) (h := .bool !want) hs rfl) rfl) h
              rw [put_heap', put_heap'] at h2
              refine ⟨h1, h2, fun hK => ?_⟩
              simp only [asteps, hg, hoj, hd, hbr]
              have h4 := h3 hK
              rw [ren_put, ren_put] at h4
              rw [if_neg hbw]
              exact h4
          · cases h
        · cases h
      · cases h

/-- a region -/
theorem AW.ops {ro : Option Nat} {id : Nat} {ops : Array Oper} {Q : Exit → AS → Prop} (h : AOps P ro N ops (List.range' 0 ops.toList.length) (fun s' => Q .normal s') s) : AW P ro N (.region id ops false) Q s := by
  intro w0 μ0 μ a w hs hE
  refine wpIn_region ?_
  rw [List.range_eq_range', ← Array.length_toList]
  exact h w0 μ0 μ a w _ hs hE fun μ' s' a' w' hk hs' hE' => ⟨(fun _ h => by cases h), (fun h => by cases h), _, _, hk, hs', hE'⟩

theorem sdrawP_ok (hT : T.Ok P) (hr : Good P r) {id : Nat} {ops : Array Oper} (hok : ops.toList.all (fun o => okd N o.dst) = true) {p : Nat} (hs : s.sc n = true) (h : sdrawP r T ops s n p = some (s', n')) :
    s'.sc n' = true ∧ Step n n' s.heap s'.heap ∧ ∀ (ρ : Nat → Nat) (ro : Option Nat) (Q : Exit → AS → Prop), (∀ ρ', Agree n ρ ρ' → Q .normal (s'.ren ρ')) → AW P ro N (.region id ops true) Q (s.ren ρ) := by
  unfold sdrawP at h
  replace h := guardO_some h
  obtain ⟨hd, h⟩ := h
  split at h
  · rename_i s1 hst
    have h1 := fun (ρ : Nat → Nat) (K : AS → Prop) => ssteps_ok (K := K) hT hr ρ _ _ hs hst
    have h2 := h1 (fun v => v) fun _ => True
    obtain ⟨h3, h4, h5⟩ := sops_ok hT hr hok (ops.toList.drop p) p s1 n (fun k => by rw [List.getElem?_drop, Array.getElem?_toList]) h2.1 h
    rw [h2.2.1] at h4
    refine ⟨h3, h4, fun ρ ro Q hQ => AW.drawX p (fun x => x = s1.ren ρ) hT.draw hok hd ?_ ((h1 ρ _).2.2 rfl)⟩
    rintro x rfl
    have := h5 ρ ro (fun s' => Q .normal s') hQ
    have hl : (ops.toList.drop p).length = ops.size - p := by simp
    rw [hl] at this
    exact this
  · cases h

theorem sdraw_ok (hT : T.Ok P) (hr : Good P r) {id : Nat} {ops : Array Oper} (hok : ops.toList.all (fun o => okd N o.dst) = true) (hs : s.sc n = true) (h : sdraw r T ops s n = some (s', n')) :
    s'.sc n' = true ∧ Step n n' s.heap s'.heap ∧ ∀ (ρ : Nat → Nat) (ro : Option Nat) (Q : Exit → AS → Prop), (∀ ρ', Agree n ρ ρ' → Q .normal (s'.ren ρ')) → AW P ro N (.region id ops true) Q (s.ren ρ) := by
  unfold sdraw at h
  split at h
  · rename_i x hx
    cases h
    exact sdrawP_ok hT hr hok hs hx
  · exact sdrawP_ok hT hr hok hs h

theorem sres_ok (hT : T.Ok P) (ρ : Nat → Nat) : ∀ {rvs : List ResultVar} {hs : List HV} {R : List HV → Prop}, sres T.ty s rvs = some hs → R (renL ρ hs) → resAll P (s.ren ρ) rvs R
  | [], hs, R, h, hR => by cases h; exact hR
  | rv :: rvs, hs, R, h, hR => by
    simp only [sres] at h
    split at h
    · rename_i q qs hq hqs
      cases h
      have key : ∀ R' : HV → Prop, R' (q.ren ρ) → resOne P (s.ren ρ) rv R' := by
        intro R' hR'
        cases rv with
        | tmp t =>
          have : sget (renS ρ s.slots) t = some (q.ren ρ) := by rw [sget_ren]; simp only [sres1, sgetR_eq, hgetR_eq] at hq; rw [hq]; rfl
          simp only [resOne, AS.ren, this]
          exact hR'
        | cell t t' =>
          simp only [sres1, sgetR_eq, hgetR_eq] at hq
          split at hq
          · rename_i U cs off hU hx
            have : sget (s.ren ρ).slots t = some (.fptr (renL ρ cs) off) := by show sget (renS ρ s.slots) t = _; rw [sget_ren, hx]; rfl
            simp only [resOne, hT.ty _ _ hU, this]
            exact sload_sound hq hR'
          · rename_i U id ver off hU hx
            split at hq
            · rename_i ver' k e cs hg
              replace hq := guardO_some hq
              obtain ⟨h1, hq⟩ := hq
              have hv := Nat.eq_of_beq_eq_true h1
              subst hv
              have : sget (s.ren ρ).slots t = some (.ptr id (ρ ver) off) := by show sget (renS ρ s.slots) t = _; rw [sget_ren, hx]; rfl
              simp only [resOne, hT.ty _ _ hU, this, hget_s ρ hg, AObj.ren]
              exact ⟨trivial, sload_sound hq hR'⟩
            · cases hq
          · cases hq
      exact key _ (sres_ok hT ρ hqs hR)
    · cases h

theorem thenQ_ne {k : AS → Prop} {Q : Exit → AS → Prop} {e : Exit} (he : e ≠ .normal) {s : AS} (h : Q e s) : thenQ k Q e s := by
  cases e with
  | normal => exact absurd rfl he
  | _ => exact h

theorem rounds_step (hr : Good P r) {top : Bool} {x : Code} {o : Out} : ∀ (k : Nat) (s : AS) (n : Nat), s.sc n = true → rounds r top N x k s n = some o → ∃ e s2 n2, o = .code e s2 n2 ∧ s2.sc n2 = true ∧ Step n n2 s.heap s2.heap
  | 0, _, _, _, h => by cases h
  | k + 1, s, n, hs, h => by
    simp only [rounds] at h
    split at h
    · rename_i s1 n1 hr1
      obtain ⟨h1, h2, _⟩ := hr _ _ hr1 hs
      obtain ⟨e, s2, n2, h3, h4, h5⟩ := rounds_step hr k s1 n1 h1 h
      exact ⟨e, s2, n2, h3, h4, h2.trans (sc_heap_of hs) h5⟩
    · have := hr _ _ h
      cases o with
      | code e s2 n2 => exact ⟨e, s2, n2, rfl, (this hs).1, (this hs).2.1⟩
      | call rv H n2 => exact this.elim

theorem rounds_ok (hr : Good P r) {top : Bool} {x : Code} {o : Out} (k : Nat) (h : rounds r top N x k s n = some o) : Sem P (.code top N (.loop x) s n) o := by
  cases o with
  | call rv H n2 =>
    have : ∀ (k : Nat) (s : AS) (n : Nat), rounds r top N x k s n ≠ some (.call rv H n2) := by
      intro k
      induction k with
      | zero => intro s n h; cases h
      | succ k ih =>
        intro s n h
        simp only [rounds] at h
        split at h
        · exact ih _ _ h
        · exact (hr _ _ h).elim
    exact absurd h (this k s n)
  | code e s2 n2 =>
    intro hs
    obtain ⟨e', s2', n2', he, h1, h2⟩ := rounds_step hr k s n hs h
    cases he
    refine ⟨h1, h2, fun ρ ro Q htop hQ => ?_⟩
    refine AW.loop' (fun j s0 => ∃ s1 n1 ρ1, s0 = s1.ren ρ1 ∧ s1.sc n1 = true ∧ rounds r top N x j s1 n1 = some (.code e s2 n2) ∧ Agree n ρ ρ1 ∧ n ≤ n1) ⟨k, _, AS.le_refl _, s, n, ρ, rfl, hs, h, Agree.refl _ _, Nat.le_refl _⟩ ?_
    rintro j s0 ⟨s1, n1, ρ1, rfl, hs1, hj, hag, hn⟩
    cases j with
    | zero => cases hj
    | succ j =>
      simp only [rounds] at hj
      split at hj
      · rename_i s3 n3 hr3
        obtain ⟨h3, h4, h5⟩ := hr _ _ hr3 hs1
        refine h5 ρ1 ro _ htop fun ρ' hag' => ?_
        exact ⟨j, Nat.lt_succ_self j, _, AS.le_refl _, s3, n3, ρ', rfl, h3, hj, hag.trans hn hag', Nat.le_trans hn h4.le⟩
      · rename_i hno
        obtain ⟨h3, h4, h5⟩ := hr _ _ hj hs1
        refine h5 ρ1 ro _ htop fun ρ' hag' => thenQ_ne ?_ (hQ ρ' (hag.trans hn hag'))
        rintro rfl
        exact hno _ _ hj

theorem sc_enumS : ∀ (i : Nat) (args : List HV), scL n args = true → scS n (enumS i args) = true
  | _, [], _ => rfl
  | i, a :: args, h => by
    simp only [scL, Bool.and_eq_true] at h
    simp only [enumS, scS, h.1, sc_enumS (i + 1) args h.2, Bool.and_self]

theorem renS_enumS (ρ : Nat → Nat) : ∀ (i : Nat) (args : List HV), renS ρ (enumS i args) = enumS i (renL ρ args)
  | _, [] => rfl
  | i, a :: args => by simp only [enumS, renS, renL, renS_enumS ρ (i + 1) args]

theorem scL_append {cs ds : List HV} (h : scL n cs = true) (h' : scL n ds = true) : scL n (cs ++ ds) = true := by
  induction cs with
  | nil => exact h'
  | cons c cs ih =>
    simp only [scL, Bool.and_eq_true] at h
    simp only [List.cons_append, scL, h.1, ih h.2, Bool.and_self]

theorem joinR_ren (ρ : Nat → Nat) : ∀ hs : List HV, (joinR hs).ren ρ = joinR (renL ρ hs)
  | [] => rfl
  | [h] => rfl
  | _ :: _ :: _ => rfl

theorem strs_ren (ρ : Nat → Nat) : ∀ ls : List (List UInt8), renL ρ (ls.map HV.str) = ls.map HV.str
  | [] => rfl
  | a :: ls => by simp only [List.map_cons, renL, HV.ren, strs_ren ρ ls]
theorem ints_ren (ρ : Nat → Nat) : ∀ ls : List Int, renL ρ (ls.map (HV.int .i64)) = ls.map (HV.int .i64)
  | [] => rfl
  | a :: ls => by simp only [List.map_cons, renL, HV.ren, ints_ren ρ ls]
theorem strs_sc (n : Nat) : ∀ ls : List (List UInt8), scL n (ls.map HV.str) = true
  | [] => rfl
  | a :: ls => by simp only [List.map_cons, scL, HV.sc, strs_sc n ls, Bool.and_self]
theorem ints_sc (n : Nat) : ∀ ls : List Int, scL n (ls.map (HV.int .i64)) = true
  | [] => rfl
  | a :: ls => by simp only [List.map_cons, scL, HV.sc, ints_sc n ls, Bool.and_self]

theorem ssort_ok (hT : T.Ok P) {f : FuncId} {k : Bool} (hk : T.sort f = some k) {args : List HV} {H : Heap} {o : Out} (h : ssort k args H n = some o) : Sem P (.call f args H n) o := by
  unfold ssort at h
  simp only [hgetR_eq, hsetR_eq] at h
  split at h
  · cases h
    refine fun _ hH => ⟨rfl, hH, Step.refl _ _, fun ρ K hK => ?_⟩
    cases k with
    | true => exact (hT.sortS f hk).nil _ _ (hK ρ (Agree.refl _ _))
    | false => exact (hT.sortI f hk).nil _ _ (hK ρ (Agree.refl _ _))
  · rename_i id ver m
    split at h
    · rename_i ver' e cs hg
      split at h
      · split at h
        · rename_i ls hls
          replace h := guardO_some h
          obtain ⟨h1, h⟩ := h
          cases h
          simp only [Bool.and_eq_true] at h1
          have hv := Nat.eq_of_beq_eq_true h1.1
          subst hv
          have hm := Nat.eq_of_beq_eq_true h1.2.1
          subst hm
          have hcs := strsOf_eq hls
          subst hcs
          intro _ hH
          have hlt := sch_get hH hg
          refine ⟨rfl, scH_set _ _ _ _ hH hlt.1.1 hlt.1.2 (strs_sc _ _), ⟨Nat.le_refl _, LoopKeep.set (by rw [hg]; intros; simp), Back.set (.inr ⟨_, hg⟩)⟩, fun ρ K hK => ?_⟩
          refine (hT.sortS f hk).arr _ id (ρ ver) e ls K (by rw [hget_ren, hg]; simp only [Option.map_some, AObj.ren, strs_ren]) (blt_lt h1.2.2) ?_
          have := hK ρ (Agree.refl _ _)
          rw [renH_set] at this
          simp only [AObj.ren, strs_ren, HV.ren, renL] at this
          rw [sortS_isort]
          exact this
        · cases h
      · split at h
        · rename_i ls hls
          replace h := guardO_some h
          obtain ⟨h1, h⟩ := h
          cases h
          simp only [Bool.and_eq_true] at h1
          have hv := Nat.eq_of_beq_eq_true h1.1
          subst hv
          have hm := Nat.eq_of_beq_eq_true h1.2.1
          subst hm
          have hcs := intsOf_eq hls
          subst hcs
          intro _ hH
          have hlt := sch_get hH hg
          refine ⟨rfl, scH_set _ _ _ _ hH hlt.1.1 hlt.1.2 (ints_sc _ _), ⟨Nat.le_refl _, LoopKeep.set (by rw [hg]; intros; simp), Back.set (.inr ⟨_, hg⟩)⟩, fun ρ K hK => ?_⟩
          refine (hT.sortI f hk).arr _ id (ρ ver) e ls K (by rw [hget_ren, hg]; simp only [Option.map_some, AObj.ren, ints_ren]) (blt_lt h1.2.2) ?_
          have := hK ρ (Agree.refl _ _)
          rw [renH_set] at this
          simp only [AObj.ren, ints_ren, HV.ren, renL] at this
          rw [sortI_isort]
          exact this
        · cases h
    · cases h
  · cases h

theorem stCut_ok (hr : Good P r) {top : Bool} {ks : Option (List Nat)} {y : Code} {o : Out} (h : stCut T r top N ks y s n = some o) : Sem P (.code top N y s n) o := by
  unfold stCut at h
  split at h
  · rename_i ks
    rw [keepK_eq] at h
    have h2 := hr _ _ h
    cases o with
    | call rv H n2 => exact h2.elim
    | code e s2 n2 =>
      intro hs
      simp only [AS.sc, Bool.and_eq_true] at hs
      obtain ⟨h6, h7, h8⟩ := h2 (by simp only [AS.sc, Bool.and_eq_true]; exact ⟨keepL_sc hs.1 ks, hs.2⟩)
      exact ⟨h6, h7, fun ρ ro Q htop hQ => AW.weaken (h8 ρ ro Q htop hQ) (keepL_le ρ s ks)⟩
  · exact hr _ _ h

theorem step_ok (hT : T.Ok P) (hr : Good P r) : Good P (step T r) := by
  intro t o h
  cases t with
  | call f args H n =>
    simp only [step, stCall, stBody] at h
    split at h
    · rename_i k hk
      exact ssort_ok hT hk h
    split at h
    · -- a function that is known
      rename_i rv hx
      replace h := guardO_some h
      obtain ⟨h1, h⟩ := h
      cases h
      split at hx
      · rename_i as' ha
        replace hx := guardO_some hx
        obtain ⟨h2, hx⟩ := hx
        intro hargs hH
        refine ⟨HV.sc_mono (Nat.zero_le _) rv h1, hH, Step.refl _ _, fun ρ K hK => ?_⟩
        have hf := hT.ext _ _ _ hx
        have ha2 := mapM_frz ρ ha
        rw [renL_sc0 ρ h2] at ha2
        refine hf.call 8 ha2 ?_
        have := hK ρ (Agree.refl _ _)
        rw [ren_sc0 ρ h1] at this
        exact this
      · cases hx
    · split at h
      · rename_i fn hfn
        split at h
        · rename_i c hc
          replace h := guardO_some h
          obtain ⟨h1, h⟩ := h
          split at h
          · rename_i e s1 n1 hr1
            replace h := guardO_some h
            obtain ⟨h2, h⟩ := h
            split at h
            · rename_i hs hres
              replace h := guardO_some h
              obtain ⟨h3, h⟩ := h
              cases h
              intro hargs hH
              obtain ⟨h4, h5, h6⟩ := hr _ _ hr1 (by simp only [AS.sc, sc_enumS 0 args hargs, hH, Bool.and_self])
              refine ⟨h3, gc_sc (sc_heap_of h4), h5.drop fun id x hx => gc_get hx, fun ρ K hK => ?_⟩
              obtain ⟨hf, hname⟩ := hT.fn _ _ hfn
              refine ACall.of_body hf hname hc (by rw [renL_len]; exact Nat.le_of_ble_eq_true h1) ?_
              have e0 : ({ slots := enumS 0 (renL ρ args), heap := renH ρ H } : AS) = (⟨enumS 0 args, H⟩ : AS).ren ρ := by simp only [AS.ren, renS_enumS]
              rw [e0]
              refine h6 ρ none _ (fun _ => rfl) fun ρ' hag => ⟨?_, sres_ok hT ρ' hres ?_⟩
              · cases e with
                | normal => exact .inl rfl
                | ret => exact .inr rfl
                | _ => cases h2
              · refine ⟨_, renH ρ' (gc n (joinR hs) s1.heap), Conv.drop fun id x hx => ?_, ?_⟩
                · rw [hget_ren] at hx
                  cases hg : hget (gc n (joinR hs) s1.heap) id with
                  | none => rw [hg] at hx; cases hx
                  | some y =>
                    rw [hg] at hx
                    show hget (renH ρ' s1.heap) id = some x
                    rw [hget_ren, gc_get hg]
                    exact hx
                · rw [← joinR_ren]
                  exact hK ρ' hag
            · cases h
          · cases h
        · cases h
      · cases h
  | code top N c s n =>
    simp only [step, stCode] at h
    split at h
    · cases h
      exact fun hs => ⟨hs, Step.refl _ _, fun ρ ro Q _ hQ => AW.skip (hQ ρ (Agree.refl _ _))⟩
    · cases h
      exact fun hs => ⟨hs, Step.refl _ _, fun ρ ro Q _ hQ => AW.exit (hQ ρ (Agree.refl _ _))⟩
    · cases h
      exact fun hs => ⟨hs, Step.refl _ _, fun ρ ro Q _ hQ => AW.ret (hQ ρ (Agree.refl _ _))⟩
    · -- seq
      unfold stSeq at h
      try simp only [evR_eq, hgetR_eq, hsetR_eq, sgetR_eq, putR_eq, aslR_eq, apartsR_eq] at h
      rename_i x y
      split at h
      · rename_i s1 n1 hr1
        have h2 := stCut_ok hr h
        cases o with
        | call rv H n2 => exact h2.elim
        | code e s2 n2 =>
          intro hs
          obtain ⟨h3, h4, h5⟩ := hr _ _ hr1 hs
          obtain ⟨h6, h7, h8⟩ := h2 h3
          refine ⟨h6, h4.trans (sc_heap_of hs) h7, fun ρ ro Q htop hQ => AW.seq (h5 ρ ro _ htop fun ρ1 ha1 => h8 ρ1 ro Q htop fun ρ2 ha2 => hQ ρ2 (ha1.trans h4.le ha2))⟩
      · rename_i hno
        have h2 := hr _ _ h
        cases o with
        | call rv H n2 => exact h2.elim
        | code e s2 n2 =>
          intro hs
          obtain ⟨h3, h4, h5⟩ := h2 hs
          exact ⟨h3, h4, fun ρ ro Q htop hQ => AW.seq (h5 ρ ro _ htop fun ρ' ha => thenQ_ne (fun e => by subst e; exact hno _ _ h) (hQ ρ' ha))⟩
    · -- block
      unfold stBlock at h
      try simp only [evR_eq, hgetR_eq, hsetR_eq, sgetR_eq, putR_eq, aslR_eq, apartsR_eq] at h
      rename_i i x
      split at h
      · rename_i j s1 n1 hr1
        cases h
        intro hs
        obtain ⟨h3, h4, h5⟩ := hr _ _ hr1 hs
        refine ⟨h3, h4, fun ρ ro Q htop hQ => AW.block (h5 ρ ro _ htop fun ρ' ha => ?_)⟩
        have := hQ ρ' ha
        simp only [blockQ]
        split
        · rename_i e; rw [if_pos e] at this; exact this
        · rename_i e; rw [if_neg e] at this; exact this
      · rename_i hno
        have h2 := hr _ _ h
        cases o with
        | call rv H n2 => exact h2.elim
        | code e s2 n2 =>
          intro hs
          obtain ⟨h3, h4, h5⟩ := h2 hs
          refine ⟨h3, h4, fun ρ ro Q htop hQ => AW.block (h5 ρ ro _ htop fun ρ' ha => ?_)⟩
          have := hQ ρ' ha
          cases e with
          | exit j => exact absurd h (hno _ _ _)
          | _ => exact this
    · -- cond
      unfold stCond at h
      try simp only [evR_eq, hgetR_eq, hsetR_eq, sgetR_eq, putR_eq, aslR_eq, apartsR_eq] at h
      rename_i c x y
      split at h
      · rename_i hc
        have h2 := hr _ _ h
        cases o with
        | call rv H n2 => exact h2.elim
        | code e s2 n2 =>
          intro hs
          obtain ⟨h3, h4, h5⟩ := h2 hs
          exact ⟨h3, h4, fun ρ ro Q htop hQ => AW.cond (t := true) (by rw [ev_ren, hc]; rfl) (fun _ => h5 ρ ro Q htop hQ) (fun e => by cases e)⟩
      · rename_i hc
        have h2 := hr _ _ h
        cases o with
        | call rv H n2 => exact h2.elim
        | code e s2 n2 =>
          intro hs
          obtain ⟨h3, h4, h5⟩ := h2 hs
          exact ⟨h3, h4, fun ρ ro Q htop hQ => AW.cond (t := false) (by rw [ev_ren, hc]; rfl) (fun e => by cases e) (fun _ => h5 ρ ro Q htop hQ)⟩
      · cases h
    · exact rounds_ok hr _ h
    · -- region
      unfold stRegion at h
      try simp only [evR_eq, hgetR_eq, hsetR_eq, sgetR_eq, putR_eq, aslR_eq, apartsR_eq] at h
      rename_i id ops dr
      replace h := guardO_some h
      obtain ⟨hok, h⟩ := h
      split at h
      · rename_i s1 n1 hop
        cases h
        intro hs
        cases dr with
        | true =>
          obtain ⟨h3, h4, h5⟩ := sdraw_ok (id := id) hT hr hok hs hop
          exact ⟨h3, h4, fun ρ ro Q _ hQ => h5 ρ ro Q hQ⟩
        | false =>
          obtain ⟨h3, h4, h5⟩ := sops_ok hT hr hok ops.toList 0 s n (fun k => by simp) hs hop
          exact ⟨h3, h4, fun ρ ro Q _ hQ => AW.ops (h5 ρ ro _ hQ)⟩
      · cases h
    · -- rangeFunc
      unfold stRange at h
      try simp only [evR_eq, hgetR_eq, hsetR_eq, sgetR_eq, putR_eq, aslR_eq, apartsR_eq] at h
      rename_i g ps assign body
      split at h
      · rename_i f fs cs hg
        replace h := guardO_some h
        obtain ⟨h1, h⟩ := h
        simp only [Bool.and_eq_true] at h1
        split at h
        · rename_i rv H n1 hr1
          split at h
          · rename_i v1 st' pend f1 m1 snap1 ps1 as1 bd1 hg1
            replace h := guardO_some h
            obtain ⟨h4, h⟩ := h
            -- the loop behind the iterator's call
            have fin : ∀ (pe : Option Code), pe = pend → ∀ (e : Exit), (∀ (ρ : Nat → Nat) (Q : Exit → AS → Prop) (sx : AS), Q e sx → match (generalizing := false) pe with
                | none => Q .normal sx
                | some c => AW P none N c Q sx) →
                Sem P (.code true N (.rangeFunc g ps assign body) s n) (.code e { s with heap := hset H n n (.loop .exhausted pe (n + 1) N s.slots ps assign body) } n1) := by
              intro pe hpe e hq hs
              subst hpe
              have hsh := sc_heap_of hs
              have hlsc : (AObj.loop .ready none (n + 1) N s.slots ps assign body).sc (n + 2) = true := by
                simp only [AObj.sc, scS_mono (Nat.le_add_right n 2) _ (sc_slots_of hs), Bool.and_true]
                simp [Nat.blt_eq]
              have hself : Nat.blt n (n + 2) = true := by simp [Nat.blt_eq]
              have h0 : scH (n + 2) (hset s.heap n n (.loop .ready none (n + 1) N s.slots ps assign body)) = true := scH_set _ _ _ _ (scH_mono (Nat.le_add_right n 2) _ hsh) (by omega) (by omega) hlsc
              have hargs : scL (n + 2) (fs ++ [.yl n n] ++ cs) = true := scL_append (scL_append (scL_mono (Nat.le_add_right n 2) _ h1.1) (by simp only [scL, HV.sc, hself, Bool.and_self])) (scL_mono (Nat.le_add_right n 2) _ h1.2)
              obtain ⟨h2, h3, st, hc⟩ := hr _ _ hr1 hargs h0
              have st0 : Step n (n + 2) s.heap (hset s.heap n n (.loop .ready none (n + 1) N s.slots ps assign body)) :=
                ⟨by omega, LoopKeep.set (by rw [sch_fresh hsh]; intros; simp), Back.set (.inl (Nat.le_refl _))⟩
              have st1 := st0.trans hsh st
              have hgl : hget (hset s.heap n n (.loop .ready none (n + 1) N s.slots ps assign body)) n = some (n, .loop .ready none (n + 1) N s.slots ps assign body) := by rw [hget_hset, if_pos rfl]
              obtain ⟨_, _, he1⟩ := st.loop _ _ _ _ _ _ _ _ _ _ hgl _ hg1
              cases he1
              have hls1 : (AObj.loop .exhausted pe (n + 1) N s.slots ps assign body).sc n1 = true := by
                simp only [AObj.sc, scS_mono st1.le _ (sc_slots_of hs), Bool.and_true]
                have := st.le
                simp [Nat.blt_eq]; omega
              have hn1 : n < n1 := by have := st.le; omega
              refine ⟨by simp only [AS.sc, scS_mono st1.le _ (sc_slots_of hs), scH_set _ n n _ h3 hn1 hn1 hls1, Bool.and_self], st1.trans hsh ⟨Nat.le_refl _, LoopKeep.setL hg1, Back.set (.inr ⟨_, hg1⟩)⟩, fun ρ ro Q htop hQ => ?_⟩
              have hro : ro = none := htop rfl
              subst hro
              have hg' : (s.ren ρ).ev g = some (.fn (.func f) (renL ρ fs) (renL ρ cs)) := by rw [ev_ren, hg]; rfl
              refine AW.rangeFunc n hg' fun fn ver => ?_
              have hu := Agree.upd n ver ρ
              have ha1 : Agree n ρ (upd (upd ρ n ver) (n + 1) fn) := hu.trans (Nat.le_succ n) (Agree.upd (n + 1) fn _)
              have e0 : hset (s.ren ρ).heap n ver (.loop .ready none fn N (s.ren ρ).slots ps assign body) = renH (upd (upd ρ n ver) (n + 1) fn) (hset s.heap n n (.loop .ready none (n + 1) N s.slots ps assign body)) := by
                rw [renH_set]
                simp only [AObj.ren, AS.ren]
                rw [renH_agree ha1 _ hsh, renS_agree ha1 _ (sc_slots_of hs), upd_at]
                simp [upd]
              have e1 : renL ρ fs ++ [.yl n ver] ++ renL ρ cs = renL (upd (upd ρ n ver) (n + 1) fn) (fs ++ [.yl n n] ++ cs) := by
                rw [renL_append, renL_append, renL_agree ha1 _ h1.1, renL_agree ha1 _ h1.2]
                simp only [renL, HV.ren]
                have : upd (upd ρ n ver) (n + 1) fn n = ver := by simp [upd]
                rw [this]
              rw [e0, e1]
              refine hc _ _ fun ρ' hag => ?_
              have hv : ρ' n = ver := by rw [← hag n (by omega)]; simp [upd]
              have hfn : ρ' (n + 1) = fn := by rw [← hag (n + 1) (by omega)]; simp [upd]
              have ha2 : Agree n ρ ρ' := ha1.trans (Nat.le_add_right n 2) hag
              have hsl : renS ρ' s.slots = (s.ren ρ).slots := (renS_agree ha2 _ (sc_slots_of hs)).symm
              have hQ' := hQ ρ' ha2
              have e2 : (({ s with heap := hset H n n (.loop .exhausted pe (n + 1) N s.slots ps assign body) } : AS)).ren ρ' = { s.ren ρ with heap := hset (renH ρ' H) n ver (.loop .exhausted pe fn N (s.ren ρ).slots ps assign body) } := by
                simp only [AS.ren, renH_set, AObj.ren, hv, hfn]
                rw [renS_agree ha2 _ (sc_slots_of hs)]
              rw [e2] at hQ'
              refine ⟨st', pe, ?_, ?_, ?_⟩
              · rw [hget_ren, hg1]
                simp only [Option.map_some, AObj.ren, hv, hfn, hsl]
              · rintro rfl; cases h4
              · have := hq ρ Q _ hQ'
                cases pe with
                | none => exact this
                | some c => exact this
            split at h
            · cases h
              exact fin none rfl .normal (fun ρ Q sx hx => hx)
            · cases h
              exact fin (some .ret) rfl .ret (fun ρ Q sx hx => AW.ret hx)
            · cases h
              exact fin (some (.exit _)) rfl (.exit _) (fun ρ Q sx hx => AW.exit hx)
            · cases h
          · cases h
        · cases h
      · cases h
    · cases h

theorem run_ok (hT : T.Ok P) : ∀ k, Good P (run T k)
  | 0 => fun _ _ h => by cases h
  | k + 1 => step_ok hT (run_ok hT k)

/-- a contract from the evaluation -/
theorem Fresh.of_run (hT : T.Ok P) {f : FuncId} {args : List HV} {k n1 : Nat} {rv q : HV} {H : Heap} (h : run T k (.call f args [] 0) = some (.call rv H n1)) (ha : scL 0 args = true) (hn : (nf rv && nfH H) = true)
    (hf : sfrz 8 H rv = some q) (hq : q.sc 0 = true) : Fresh P f args q := by
  obtain ⟨_, _, _, hcall⟩ := run_ok hT k _ _ h ha rfl
  have h5 := hcall (fun v => v) (fun r' H' => ∃ ρ', r' = rv.ren ρ' ∧ H' = renH ρ' H) fun ρ' _ => ⟨ρ', rfl, rfl⟩
  rw [renL_id] at h5
  simp only [Bool.and_eq_true] at hn
  refine ⟨sc0_clean q hq, _, 8, h5, ?_⟩
  rintro r' H' ⟨ρ', rfl, rfl⟩
  exact ⟨nf_ren ρ' rv hn.1, nfH_ren ρ' H hn.2, by rw [sfrz_sound 8 H ρ' rv q hf, ren_sc0 ρ' hq]⟩
end
end Go.AW

/- Tables of known results for the evaluation. -/
namespace Go.AW
open Go

mutual
def HV.same : HV → HV → Bool
  | .int .i64 n, .int .i64 m => decide (n = m)
  | .int .u8 n, .int .u8 m => decide (n = m)
  | .int .u64 n, .int .u64 m => decide (n = m)
  | .bool b, .bool c => b == c
  | .str l, .str k => decide (l = k)
  | .agg cs, .agg ds => sameL cs ds
  | .tup cs, .tup ds => sameL cs ds
  | .sl k n cs, .sl k' n' ds => Nat.beq k k' && Nat.beq n n' && sameL cs ds
  | .v (.slice none 0 0), .v (.slice none 0 0) => true
  | _, _ => false
def sameL : List HV → List HV → Bool
  | [], [] => true
  | c :: cs, d :: ds => c.same d && sameL cs ds
  | _, _ => false
end

mutual
theorem HV.same_eq : ∀ a b : HV, a.same b = true → a = b
  | .int k n, b, h => by
    cases b with
    | int k' m => cases k <;> cases k' <;> simp [HV.same] at h <;> rw [h]
    | _ => cases k <;> simp [HV.same] at h
  | .bool x, b, h => by
    cases b <;> simp [HV.same] at h
    rw [h]
  | .str x, b, h => by
    cases b <;> simp [HV.same] at h
    rw [h]
  | .v x, b, h => by
    unfold HV.same at h
    split at h <;> simp_all
  | .agg cs, b, h => by
    cases b with
    | agg ds => simp only [HV.same] at h; rw [sameL_eq cs ds h]
    | _ => simp [HV.same] at h
  | .tup cs, b, h => by
    cases b with
    | tup ds => simp only [HV.same] at h; rw [sameL_eq cs ds h]
    | _ => simp [HV.same] at h
  | .sl k n cs, b, h => by
    cases b with
    | sl k' n' ds =>
      simp only [HV.same, Bool.and_eq_true] at h
      rw [Nat.eq_of_beq_eq_true h.1.1, Nat.eq_of_beq_eq_true h.1.2, sameL_eq cs ds h.2]
    | _ => simp [HV.same] at h
  | .ar _ _ _ _ _, b, h => by cases b <;> simp [HV.same] at h
  | .ptr _ _ _, b, h => by cases b <;> simp [HV.same] at h
  | .fptr _ _, b, h => by cases b <;> simp [HV.same] at h
  | .fn _ _ _, b, h => by cases b <;> simp [HV.same] at h
  | .mp _ _, b, h => by cases b <;> simp [HV.same] at h
  | .yl _ _, b, h => by cases b <;> simp [HV.same] at h
  | .it _ _, b, h => by cases b <;> simp [HV.same] at h
theorem sameL_eq : ∀ a b : List HV, sameL a b = true → a = b
  | [], [], _ => rfl
  | [], _ :: _, h => by simp [sameL] at h
  | _ :: _, [], h => by simp [sameL] at h
  | c :: cs, d :: ds, h => by
    simp only [sameL, Bool.and_eq_true] at h
    rw [HV.same_eq c d h.1, sameL_eq cs ds h.2]
end

def elook : List (FuncId × List HV × HV) → FuncId → List HV → Option HV
  | [], _, _ => none
  | (g, aa, q) :: l, f, args => bif (Nat.beq g f && sameL aa args) then some q else elook l f args

theorem elook_ok {P : Program} : ∀ {l : List (FuncId × List HV × HV)}, (∀ e ∈ l, Fresh P e.1 e.2.1 e.2.2) → ∀ f args r, elook l f args = some r → Fresh P f args r
  | [], _, _, _, _, h => by cases h
  | (g, aa, q) :: l, hl, f, args, r, h => by
    simp only [elook] at h
    cases hb : (Nat.beq g f && sameL aa args) with
    | true =>
      rw [hb] at h
      cases h
      simp only [Bool.and_eq_true] at hb
      have h1 := Nat.eq_of_beq_eq_true hb.1
      have h2 := sameL_eq _ _ hb.2
      subst h1 h2
      exact hl _ (List.mem_cons_self ..)
    | false =>
      rw [hb] at h
      exact elook_ok (fun e he => hl e (List.mem_cons_of_mem _ he)) f args r h

/-- what a closed call comes to, as one value that is looked at -/
noncomputable def comes (T : Tabs) (k : Nat) (f : FuncId) (args : List HV) (q : HV) : Bool :=
  match run T k (.call f args [] 0) with
  | some (.call rv H _) => scL 0 args && (nf rv && nfH H) && (match sfrz 8 H rv with
    | some r => r.sc 0 && r.same q
    | none => false)
  | _ => false

theorem Fresh.of_comes {P : Program} {T : Tabs} (hT : T.Ok P) {k : Nat} {f : FuncId} {args : List HV} {q : HV} (h : comes T k f args q = true) : Fresh P f args q := by
  unfold comes at h
  split at h
  · rename_i rv H n1 hr
    simp only [Bool.and_eq_true] at h
    obtain ⟨⟨h1, h2⟩, h3⟩ := h
    split at h3
    · rename_i r hr'
      simp only [Bool.and_eq_true] at h3
      have := HV.same_eq _ _ h3.2
      subst this
      exact Fresh.of_run hT hr h1 (by simp only [h2.1, h2.2, Bool.and_self]) hr' h3.1
    · cases h3
  · cases h

/-- the same of a result that may hold parts of the arguments -/
noncomputable def comesP (T : Tabs) (k : Nat) (f : FuncId) (args : List HV) (q : HV) : Bool :=
  match run T k (.call f args [] 0) with
  | some (.call rv H _) => scL 0 args && (match sfrz 8 H rv with
    | some r => r.sc 0 && r.same q
    | none => false)
  | _ => false

theorem Pure.of_comes {P : Program} {T : Tabs} (hT : T.Ok P) {k : Nat} {f : FuncId} {args : List HV} {q : HV} (h : comesP T k f args q = true) : Pure P f args (· = q) := by
  unfold comesP at h
  split at h
  · rename_i rv H n1 hr
    simp only [Bool.and_eq_true] at h
    obtain ⟨h1, h3⟩ := h
    split at h3
    · rename_i r hf
      simp only [Bool.and_eq_true] at h3
      have := HV.same_eq _ _ h3.2
      subst this
      obtain ⟨_, _, _, hcall⟩ := run_ok hT k _ _ hr h1 rfl
      have h5 := hcall (fun v => v) (fun r' H' => ∃ ρ', r' = rv.ren ρ' ∧ H' = renH ρ' H) fun ρ' _ => ⟨ρ', rfl, rfl⟩
      rw [renL_id] at h5
      refine h5.conv ?_
      rintro r' H' ⟨ρ', rfl, rfl⟩
      exact ⟨_, _, Conv.all 8, by rw [sfrz_sound 8 H ρ' rv _ hf, ren_sc0 ρ' h3.1], by rw [sfrz_sound 8 H ρ' rv _ hf, ren_sc0 ρ' h3.1]; exact sc0_clean _ h3.1, rfl⟩
    · cases h3
  · cases h

theorem Pure.nilI {P : Program} {f : FuncId} {args : List HV} (h : Pure P f args (· = .v (.slice none 0 0))) : Pure P f args (· = .sl 1 0 []) := by
  refine h.conv ?_
  rintro r H' ⟨rfl, _, rfl⟩
  exact ⟨_, _, Conv.le (Le.nil 1), rfl, ⟨trivial, rfl⟩⟩

end Go.AW

namespace Go.AW
open Go Go.Proofs

theorem names_ok : Try.prog.funcs.toList.all (fun x => !(x.name == "runtime.NumGoroutine")) = true := by kernel_rfl

theorem fn_ok (f : FuncId) (x : Func) (h : Try.prog.funcs[f]? = some x) : Try.prog.funcs[f]? = some x ∧ (x.name == "runtime.NumGoroutine") = false := by
  refine ⟨h, ?_⟩
  have := List.all_eq_true.1 names_ok x (by
    rw [← Array.getElem?_toList] at h
    exact List.mem_of_getElem? h)
  simpa using this

def idxExt (f : FuncId) (args : List HV) : Option HV :=
  match f, args with
  | 51, [.str l, .int .u8 c] => some (.int .i64 (Lib.indexByte l c.toNat.toUInt8))
  | _, _ => none

theorem idxExt_ok (f : FuncId) (args : List HV) (r : HV) (h : idxExt f args = some r) : Fresh Try.prog f args r := by
  unfold idxExt at h
  split at h
  · cases h
    exact (w51 _ _).fresh trivial rfl
  · cases h

def trySort (f : FuncId) : Option Bool := match f with
  | 45 => some true
  | 179 => some false
  | _ => none

/-- the tables of this seat, with results that are known -/
def tabsOf (P : Program) (l : List (FuncId × List HV × HV)) : Tabs where
  ty := ty P
  fn := fun f => P.funcs[f]?
  ext := fun f args => match idxExt f args with
    | some r => some r
    | none => elook l f args
  sort := trySort
  keep := fun _ _ => none

theorem tabsOf_ok {P : Program} {l : List (FuncId × List HV × HV)} (hn : ∀ (f : FuncId) (x : Func), P.funcs[f]? = some x → (x.name == "runtime.NumGoroutine") = false) (hi : ∀ f args r, idxExt f args = some r → Fresh P f args r) (h1 : SortsS P 45) (h2 : SortsI P 179)
    (hd : P.follows .mixedOrders = true) (hl : ∀ e ∈ l, Fresh P e.1 e.2.1 e.2.2) : (tabsOf P l).Ok P where
  ty := fun _ _ h => h
  fn := fun f x h => ⟨h, hn f x h⟩
  ext := fun f args r h => by
    simp only [tabsOf] at h
    split at h
    · rename_i hx; cases h; exact hi _ _ _ hx
    · exact elook_ok hl f args r h
  sortS := fun f h => by
    simp only [tabsOf, trySort] at h
    split at h
    · exact h1
    · cases h
    · cases h
  sortI := fun f h => by
    simp only [tabsOf, trySort] at h
    split at h
    · cases h
    · exact h2
    · cases h
  draw := hd

theorem tabs_ok {l : List (FuncId × List HV × HV)} (hl : ∀ e ∈ l, Fresh Try.prog e.1 e.2.1 e.2.2) : (tabsOf Try.prog l).Ok Try.prog :=
  tabsOf_ok (fun f x h => (fn_ok f x h).2) idxExt_ok sorts45 sorts179 follows hl

/-- the graph of the chapter's examples -/
def gE : HV := .sl 3 3 [num 0, num 0, num 0, num 0, num 1, num 1, num 1, num 0, num 0]
def gA : HV := .agg [num 2, num 2, gE]

theorem a86 : Fresh Try.prog 86 [gA] (num 0) := Fresh.of_comes (T := tabsOf Try.prog []) (k := 1000) (tabs_ok (fun _ h => by cases h)) (by kernel_rfl)

def k86 : List (FuncId × List HV × HV) := [(86, [gA], num 0)]
theorem k86_ok : (tabsOf Try.prog k86).Ok Try.prog := tabs_ok fun e h => by
  simp only [k86, List.mem_singleton] at h
  subst h
  exact a86

theorem a78 : Fresh Try.prog 78 [gA, num 3] (num 0) := Fresh.of_comes (k := 1000) k86_ok (by kernel_rfl)
theorem a80 : Fresh Try.prog 80 [gA] (ints [0, 1]) := Fresh.of_comes (k := 1000) k86_ok (by kernel_rfl)

/-- the steps of the graph's sets -/
def stpA (a : List Int) (c : UInt8) : List Int := if c = 48 then (if a = [] then [] else [0]) else if a = [0, 1] ∨ a = [0] then [1] else []
def setsA (a : List Int) : Prop := a = [0, 1] ∨ a = [0] ∨ a = [1] ∨ a = []

theorem a125 : ∀ a c, setsA a → c ∈ letters.take 2 → Pure Try.prog 125 [gA, ints a, .int .u8 c.toNat] (· = ints (stpA a c)) := by
  intro a c ha hc
  have hc : c = 48 ∨ c = 49 := by simpa [letters] using hc
  rcases ha with rfl | rfl | rfl | rfl <;> rcases hc with rfl | rfl
  · exact Pure.of_comes (k := 1000) k86_ok (by kernel_rfl)
  · exact Pure.of_comes (k := 1000) k86_ok (by kernel_rfl)
  · exact Pure.of_comes (k := 1000) k86_ok (by kernel_rfl)
  · exact Pure.of_comes (k := 1000) k86_ok (by kernel_rfl)
  · exact Pure.of_comes (k := 1000) k86_ok (by kernel_rfl)
  · exact Pure.nilI (Pure.of_comes (k := 1000) k86_ok (by kernel_rfl))
  · exact Pure.nilI (Pure.of_comes (k := 1000) k86_ok (by kernel_rfl))
  · exact Pure.nilI (Pure.of_comes (k := 1000) k86_ok (by kernel_rfl))

def wordsA : List (List UInt8) := [[48, 48, 48], [48, 48, 49], [48, 49, 48], [49, 48, 48], [49, 48, 49]]

theorem a36 : Fresh Try.prog 36 [gA, num 3] (.tup [strs wordsA, .int .i64 0]) := by
  have h := w36 (L := 2) (n := 3) (gS := num 2) (gE := gE) (stp := stpA) (set := [0, 1]) (A := setsA) (by decide) rfl rfl (.inl rfl) (fun a c ha hc => ?_) a125 a78.pure a80.pure
  · have hw : wordsR stpA (letters.take 2) [0, 1] 3 = .tup [strs wordsA, .int .i64 0] := by
      have h1 : okLvl stpA (letters.take 2) [0, 1] 3 = true := by decide
      have h2 : sortS ((lvl stpA (letters.take 2) [0, 1] 3).map (·.1)) = wordsA := sortS_eq (by decide) (by decide)
      simp only [wordsR, h1, if_true, h2]
      rfl
    rw [← hw]
    exact h
  · have hc : c = 48 ∨ c = 49 := by simpa [letters] using hc
    rcases ha with rfl | rfl | rfl | rfl <;> rcases hc with rfl | rfl <;> (unfold setsA; decide)

def k36 : List (FuncId × List HV × HV) := [(36, [gA, num 3], .tup [strs wordsA, .int .i64 0])]
theorem k36_ok : (tabsOf Try.prog k36).Ok Try.prog := tabs_ok fun e h => by
  simp only [k36, List.mem_singleton] at h
  subst h
  exact a36

/-- the anchor of chapter 46 -/
theorem w15 : Fresh Try.prog 15 [] (.bool true) := Fresh.of_comes (k := 3000) k36_ok (by kernel_rfl)
end Go.AW

/- language.Missing at the anchor's arguments: by evaluation. -/
namespace Go.AW
open Go Go.Proofs
theorem w_language_Missing {g : TLabelsStatesEdges} {n : Int} {r : List UInt8 × Bool × Int} (h : m_language_Missing g n = some r) : Pure Try.prog 88 [HV.agg [HV.int .i64 g.1, HV.int .i64 g.2.1, slE eFromLabelTo g.2.2], HV.int .i64 n] (· = HV.tup [HV.str r.1, HV.bool r.2.1, HV.int .i64 r.2.2]) := by
  unfold m_language_Missing at h
  split at h
  · rename_i hc
    obtain ⟨rfl, rfl⟩ := hc
    cases h
    exact Pure.of_comes (k := 3000) k86_ok (by kernel_rfl)
  · cases h
end Go.AW

/- Models, printed by lk.py. -/
namespace Go.AW
open Go
set_option linter.unusedVariables false
/-- slices.Equal[[]string,string] -/
noncomputable def m_slices_Equal_Lstring_string (p0 : List (List UInt8)) (p1 : List (List UInt8)) : Option (Bool) :=
  if ((p0).length : Int) ≠ ((p1).length : Int) then
    some false
  else
    lpO (loopW (S := Int) (X := Ou (Unit) (Bool)) (fun a1 =>
        if a1 < ((p0).length : Int) then
          (idx p0 a1).bind fun x5 =>
          (idx p1 a1).bind fun x7 =>
          if x5 ≠ x7 then
            some (Stp.exit (Ou.ret false))
          else
            some (Stp.next (IntKind.wrap .i64 (a1 + 1)))
        else
          some (Stp.exit (Ou.go ()))) 0) (fun a9 =>
        some true) some

/-- groove/groovelaw11.golden -/
noncomputable def m_law11_golden  : Option (TLabelsStatesEdges) :=
  some (2, 2, [(0, 0, 0), (0, 1, 1), (1, 0, 0)])

/-- groove/groovelaw11.awake -/
noncomputable def m_law11_awakeG  : Option (Bool) :=
  (m_law11_golden).bind fun x1 =>
  (m_language_Words x1 2).bind fun x3 =>
  (m_law11_golden).bind fun x5 =>
  (m_language_Missing x5 3).bind fun x7 =>
  (m_law11_golden).bind fun x9 =>
  (m_language_Path x9 [48, 49, 48]).bind fun x11 =>
  jp (fun (a13 : Bool) =>
    some a13)
    fun k15 =>
    if (max (max x3.2 x7.2.2) x11.2) = 0 then
      (m_slices_Equal_Lstring_string x3.1 [[48, 48], [48, 49], [49, 48]]).bind fun x16 =>
      if x16 = true then
        if x7.1 = [49, 49] then
          if x7.2.1 = true then
            (m_slices_Equal_Lint_int x11.1 [0, 1, 2]).bind fun x18 =>
            k15 x18
          else
            k15 false
        else
          k15 false
      else
        k15 false
    else
      k15 false

end Go.AW

namespace Go.AW
open Go Go.Proofs
set_option linter.unusedVariables false
set_option maxHeartbeats 1600000 in
set_option maxRecDepth 100000 in
theorem w_slices_Equal_Lstring_string {p0 : List (List UInt8)} {p1 : List (List UInt8)} {r : Bool} (h : m_slices_Equal_Lstring_string p0 p1 = some r) : Pure Try.prog 20 [slE eStr p0, slE eStr p1] (· = HV.bool r) := by
  unfold m_slices_Equal_Lstring_string at h
  refine Pure.of_body Try.func20 rfl rfl (Nat.le_of_ble_eq_true rfl) fun hf => ?_
  unfold Try.f20
  dsimp only [enumS, Nat.reduceAdd]
  refine AW.rgs rfl fun K hK => ?_
  refine mv rfl rfl ?_
  refine b_nil (hK _ (AW.to (to_le (s' := ⟨[(0, slE eStr p0), (1, slE eStr p1)], []⟩) (AS.le_of ⟨rfl, rfl, trivial⟩ trivial) ?_)))
  clear hK K
  refine AW.seq ?_
  refine AW.rgs rfl fun K hK => ?_
  refine mv rfl rfl ?_
  refine bv rfl (v_lenF rfl rfl ty30 rfl) ?_
  refine mv rfl rfl ?_
  refine bv rfl (v_lenF rfl rfl ty30 rfl) ?_
  refine bv rfl (v_bin rfl rfl b_neq) ?_
  refine b_nil (hK _ (AW.to (to_le (s' := ⟨[(0, slE eStr p0), (1, slE eStr p1), (10, HV.bool (decide (((p0).length : Int) ≠ ((p1).length : Int))))], []⟩) (AS.le_of ⟨rfl, rfl, rfl, trivial⟩ trivial) ?_)))
  clear hK K
  refine AW.cond rfl (fun hc => ?_) (fun hc => ?_)
  · have hc := of_decide_eq_true hc
    have h := ifT hc h
    refine AW.rgs rfl fun K hK => ?_
    refine mv rfl rfl ?_
    refine b_nil (hK _ (AW.to (to_le (s' := ⟨[(4, HV.bool false)], []⟩) (AS.le_of ⟨rfl, trivial⟩ trivial) ?_)))
    clear hK K
    refine AW.ret ?_
    have h := Option.some.inj h
    subst h
    exact ret_pure (hs := [HV.bool false]) (q := HV.bool false) (.inr rfl) (resT rfl rfl) rfl trivial
  · have hc := of_decide_eq_false hc
    have h := ifF hc h
    refine AW.skip ?_
    refine AW.seq ?_
    refine AW.rgs rfl fun K hK => ?_
    refine mv rfl rfl ?_
    refine bv rfl (v_lenF rfl rfl ty30 rfl) ?_
    refine mv rfl rfl ?_
    refine b_nil (hK _ (AW.to (to_le (s' := ⟨[(0, slE eStr p0), (1, slE eStr p1), (12, HV.int .i64 ((p0).length : Int)), (13, HV.int .i64 0)], []⟩) (AS.le_of ⟨rfl, rfl, rfl, rfl, trivial⟩ trivial) ?_)))
    clear hK K
    refine AW.lpR h (by first | exact up_then | exact up_to) (S := Int) (V := Unit) (fun a v => ⟨[(0, slE eStr p0), (1, slE eStr p1), (12, HV.int .i64 ((p0).length : Int)), (13, HV.int .i64 a)], []⟩) ?_ (X := Unit) (W := Unit) (fun a v => ⟨[], []⟩) (fun a9 w10 h => ?_) (fun a1 w2 st3 h hr4=> ?_)
    · exact to_le (s' := ⟨[(0, slE eStr p0), (1, slE eStr p1), (12, HV.int .i64 ((p0).length : Int)), (13, HV.int .i64 0)], []⟩) (AS.le_of ⟨rfl, rfl, rfl, rfl, trivial⟩ trivial) ⟨(), rfl⟩
    · refine AW.rgs rfl fun K hK => ?_
      refine mv rfl rfl ?_
      refine b_nil (hK _ (AW.to (to_le (s' := ⟨[(4, HV.bool true)], []⟩) (AS.le_of ⟨rfl, trivial⟩ trivial) ?_)))
      clear hK K
      refine AW.ret ?_
      have h := Option.some.inj h
      subst h
      exact ret_pure (hs := [HV.bool true]) (q := HV.bool true) (.inr rfl) (resT rfl rfl) rfl trivial
    · refine AW.rgs rfl fun K hK => ?_
      refine bv rfl (v_bin rfl rfl b_lss) ?_
      refine b_nil (hK _ (AW.to (to_le (s' := ⟨[(0, slE eStr p0), (1, slE eStr p1), (12, HV.int .i64 ((p0).length : Int)), (13, HV.int .i64 a1), (14, HV.bool (decide (a1 < ((p0).length : Int))))], []⟩) (AS.le_of ⟨rfl, rfl, rfl, rfl, rfl, trivial⟩ trivial) ?_)))
      clear hK K
      refine AW.cseq rfl (fun hc => ?_) (fun hc => ?_)
      · have hc := of_decide_eq_true hc
        have h := ifT hc h
        refine AW.skip ?_
        refine AW.seq (AW.block ?_)
        refine AW.rgs rfl fun K hK => ?_
        refine mv rfl rfl ?_
        refine mv rfl rfl ?_
        refine b_nil (hK _ (AW.to (to_le (s' := ⟨[(0, slE eStr p0), (1, slE eStr p1), (5, HV.int .i64 a1), (12, HV.int .i64 ((p0).length : Int)), (13, HV.int .i64 a1)], []⟩) (AS.le_of ⟨rfl, rfl, rfl, rfl, rfl, trivial⟩ trivial) ?_)))
        clear hK K
        refine AW.dgs 9 follows rfl rfl fun K hK => ?_
        refine sm rfl rfl ?_
        refine sm rfl rfl ?_
        obtain ⟨x5, h6, h⟩ := bS h
        refine sv rfl (v_idxF ty30 es30 rfl rfl (idx_lt h6)) ?_
        refine sv rfl (v_loadF ty9 rfl (l_cell eStr h6 (o := 0) rfl rfl)) ?_
        refine sm rfl rfl ?_
        refine sm rfl rfl ?_
        obtain ⟨x7, h8, h⟩ := bS h
        refine sv rfl (v_idxF ty30 es30 rfl rfl (idx_lt h8)) ?_
        refine sv rfl (v_loadF ty9 rfl (l_cell eStr h8 (o := 0) rfl rfl)) ?_
        refine sv rfl (v_bin rfl rfl b_sneq) ?_
        refine s_nil ?_
        refine b_nil (hK _ (AW.to (to_le (s' := ⟨[(0, slE eStr p0), (1, slE eStr p1), (12, HV.int .i64 ((p0).length : Int)), (13, HV.int .i64 a1), (24, HV.bool (decide (x5 ≠ x7)))], []⟩) (AS.le_of ⟨rfl, rfl, rfl, rfl, rfl, trivial⟩ trivial) ?_)))
        clear hK K
        refine AW.cond rfl (fun hc => ?_) (fun hc => ?_)
        · have hc := of_decide_eq_true hc
          have h := ifT hc h
          refine AW.rgs rfl fun K hK => ?_
          refine mv rfl rfl ?_
          refine b_nil (hK _ (AW.to (to_le (s' := ⟨[(4, HV.bool false)], []⟩) (AS.le_of ⟨rfl, trivial⟩ trivial) ?_)))
          clear hK K
          have h := hr4 _ h
          refine AW.ret ?_
          have h := Option.some.inj h
          subst h
          exact ret_pure (hs := [HV.bool false]) (q := HV.bool false) (.inr rfl) (resT rfl rfl) rfl trivial
        · have hc := of_decide_eq_false hc
          have h := ifF hc h
          refine AW.skip ?_
          refine AW.rg rfl fun K hK => ?_
          refine bv rfl (v_bin rfl rfl b_add) ?_
          refine mv rfl rfl ?_
          refine b_nil (hK _ ?_)
          clear hK K
          exact to_le (s' := ⟨[(0, slE eStr p0), (1, slE eStr p1), (12, HV.int .i64 ((p0).length : Int)), (13, HV.int .i64 (IntKind.wrap .i64 (a1 + 1)))], []⟩) (AS.le_of ⟨rfl, rfl, rfl, rfl, trivial⟩ trivial) ⟨IntKind.wrap .i64 (a1 + 1), (), h, rfl⟩
      · have hc := of_decide_eq_false hc
        have h := ifF hc h
        refine AW.exit ?_
        exact to_le (s' := ⟨[], []⟩) (AS.le_of trivial trivial) ⟨(), (), h, rfl⟩

set_option maxHeartbeats 1600000 in
set_option maxRecDepth 100000 in
theorem w_slices_Equal_Lint_int {p0 : List (Int)} {p1 : List (Int)} {r : Bool} (h : m_slices_Equal_Lint_int p0 p1 = some r) : Pure Try.prog 32 [slE eInt p0, slE eInt p1] (· = HV.bool r) := by
  unfold m_slices_Equal_Lint_int at h
  refine Pure.of_body Try.func32 rfl rfl (Nat.le_of_ble_eq_true rfl) fun hf => ?_
  unfold Try.f32
  dsimp only [enumS, Nat.reduceAdd]
  refine AW.rgs rfl fun K hK => ?_
  refine mv rfl rfl ?_
  refine b_nil (hK _ (AW.to (to_le (s' := ⟨[(0, slE eInt p0), (1, slE eInt p1)], []⟩) (AS.le_of ⟨rfl, rfl, trivial⟩ trivial) ?_)))
  clear hK K
  refine AW.seq ?_
  refine AW.rgs rfl fun K hK => ?_
  refine mv rfl rfl ?_
  refine bv rfl (v_lenF rfl rfl ty42 rfl) ?_
  refine mv rfl rfl ?_
  refine bv rfl (v_lenF rfl rfl ty42 rfl) ?_
  refine bv rfl (v_bin rfl rfl b_neq) ?_
  refine b_nil (hK _ (AW.to (to_le (s' := ⟨[(0, slE eInt p0), (1, slE eInt p1), (10, HV.bool (decide (((p0).length : Int) ≠ ((p1).length : Int))))], []⟩) (AS.le_of ⟨rfl, rfl, rfl, trivial⟩ trivial) ?_)))
  clear hK K
  refine AW.cond rfl (fun hc => ?_) (fun hc => ?_)
  · have hc := of_decide_eq_true hc
    have h := ifT hc h
    refine AW.rgs rfl fun K hK => ?_
    refine mv rfl rfl ?_
    refine b_nil (hK _ (AW.to (to_le (s' := ⟨[(4, HV.bool false)], []⟩) (AS.le_of ⟨rfl, trivial⟩ trivial) ?_)))
    clear hK K
    refine AW.ret ?_
    have h := Option.some.inj h
    subst h
    exact ret_pure (hs := [HV.bool false]) (q := HV.bool false) (.inr rfl) (resT rfl rfl) rfl trivial
  · have hc := of_decide_eq_false hc
    have h := ifF hc h
    refine AW.skip ?_
    refine AW.seq ?_
    refine AW.rgs rfl fun K hK => ?_
    refine mv rfl rfl ?_
    refine bv rfl (v_lenF rfl rfl ty42 rfl) ?_
    refine mv rfl rfl ?_
    refine b_nil (hK _ (AW.to (to_le (s' := ⟨[(0, slE eInt p0), (1, slE eInt p1), (12, HV.int .i64 ((p0).length : Int)), (13, HV.int .i64 0)], []⟩) (AS.le_of ⟨rfl, rfl, rfl, rfl, trivial⟩ trivial) ?_)))
    clear hK K
    refine AW.lpR h (by first | exact up_then | exact up_to) (S := Int) (V := Unit) (fun a v => ⟨[(0, slE eInt p0), (1, slE eInt p1), (12, HV.int .i64 ((p0).length : Int)), (13, HV.int .i64 a)], []⟩) ?_ (X := Unit) (W := Unit) (fun a v => ⟨[], []⟩) (fun a9 w10 h => ?_) (fun a1 w2 st3 h hr4=> ?_)
    · exact to_le (s' := ⟨[(0, slE eInt p0), (1, slE eInt p1), (12, HV.int .i64 ((p0).length : Int)), (13, HV.int .i64 0)], []⟩) (AS.le_of ⟨rfl, rfl, rfl, rfl, trivial⟩ trivial) ⟨(), rfl⟩
    · refine AW.rgs rfl fun K hK => ?_
      refine mv rfl rfl ?_
      refine b_nil (hK _ (AW.to (to_le (s' := ⟨[(4, HV.bool true)], []⟩) (AS.le_of ⟨rfl, trivial⟩ trivial) ?_)))
      clear hK K
      refine AW.ret ?_
      have h := Option.some.inj h
      subst h
      exact ret_pure (hs := [HV.bool true]) (q := HV.bool true) (.inr rfl) (resT rfl rfl) rfl trivial
    · refine AW.rgs rfl fun K hK => ?_
      refine bv rfl (v_bin rfl rfl b_lss) ?_
      refine b_nil (hK _ (AW.to (to_le (s' := ⟨[(0, slE eInt p0), (1, slE eInt p1), (12, HV.int .i64 ((p0).length : Int)), (13, HV.int .i64 a1), (14, HV.bool (decide (a1 < ((p0).length : Int))))], []⟩) (AS.le_of ⟨rfl, rfl, rfl, rfl, rfl, trivial⟩ trivial) ?_)))
      clear hK K
      refine AW.cseq rfl (fun hc => ?_) (fun hc => ?_)
      · have hc := of_decide_eq_true hc
        have h := ifT hc h
        refine AW.skip ?_
        refine AW.seq (AW.block ?_)
        refine AW.rgs rfl fun K hK => ?_
        refine mv rfl rfl ?_
        refine mv rfl rfl ?_
        refine b_nil (hK _ (AW.to (to_le (s' := ⟨[(0, slE eInt p0), (1, slE eInt p1), (5, HV.int .i64 a1), (12, HV.int .i64 ((p0).length : Int)), (13, HV.int .i64 a1)], []⟩) (AS.le_of ⟨rfl, rfl, rfl, rfl, rfl, trivial⟩ trivial) ?_)))
        clear hK K
        refine AW.dgs 9 follows rfl rfl fun K hK => ?_
        refine sm rfl rfl ?_
        refine sm rfl rfl ?_
        obtain ⟨x5, h6, h⟩ := bS h
        refine sv rfl (v_idxF ty42 es42 rfl rfl (idx_lt h6)) ?_
        refine sv rfl (v_loadF ty3 rfl (l_cell eInt h6 (o := 0) rfl rfl)) ?_
        refine sm rfl rfl ?_
        refine sm rfl rfl ?_
        obtain ⟨x7, h8, h⟩ := bS h
        refine sv rfl (v_idxF ty42 es42 rfl rfl (idx_lt h8)) ?_
        refine sv rfl (v_loadF ty3 rfl (l_cell eInt h8 (o := 0) rfl rfl)) ?_
        refine sv rfl (v_bin rfl rfl b_neq) ?_
        refine s_nil ?_
        refine b_nil (hK _ (AW.to (to_le (s' := ⟨[(0, slE eInt p0), (1, slE eInt p1), (12, HV.int .i64 ((p0).length : Int)), (13, HV.int .i64 a1), (24, HV.bool (decide (x5 ≠ x7)))], []⟩) (AS.le_of ⟨rfl, rfl, rfl, rfl, rfl, trivial⟩ trivial) ?_)))
        clear hK K
        refine AW.cond rfl (fun hc => ?_) (fun hc => ?_)
        · have hc := of_decide_eq_true hc
          have h := ifT hc h
          refine AW.rgs rfl fun K hK => ?_
          refine mv rfl rfl ?_
          refine b_nil (hK _ (AW.to (to_le (s' := ⟨[(4, HV.bool false)], []⟩) (AS.le_of ⟨rfl, trivial⟩ trivial) ?_)))
          clear hK K
          have h := hr4 _ h
          refine AW.ret ?_
          have h := Option.some.inj h
          subst h
          exact ret_pure (hs := [HV.bool false]) (q := HV.bool false) (.inr rfl) (resT rfl rfl) rfl trivial
        · have hc := of_decide_eq_false hc
          have h := ifF hc h
          refine AW.skip ?_
          refine AW.rg rfl fun K hK => ?_
          refine bv rfl (v_bin rfl rfl b_add) ?_
          refine mv rfl rfl ?_
          refine b_nil (hK _ ?_)
          clear hK K
          exact to_le (s' := ⟨[(0, slE eInt p0), (1, slE eInt p1), (12, HV.int .i64 ((p0).length : Int)), (13, HV.int .i64 (IntKind.wrap .i64 (a1 + 1)))], []⟩) (AS.le_of ⟨rfl, rfl, rfl, rfl, trivial⟩ trivial) ⟨IntKind.wrap .i64 (a1 + 1), (), h, rfl⟩
      · have hc := of_decide_eq_false hc
        have h := ifF hc h
        refine AW.exit ?_
        exact to_le (s' := ⟨[], []⟩) (AS.le_of trivial trivial) ⟨(), (), h, rfl⟩

set_option maxHeartbeats 1600000 in
set_option maxRecDepth 100000 in
theorem w_language_Words {p0 : TLabelsStatesEdges} {p1 : Int} {r : (List (List UInt8)) × Int} (h : m_language_Words p0 p1 = some r) : Pure Try.prog 36 [HV.agg [HV.int .i64 p0.1, HV.int .i64 p0.2.1, slE eFromLabelTo p0.2.2], HV.int .i64 p1] (· = HV.tup [slE eStr r.1, HV.int .i64 r.2]) := by
  unfold m_language_Words at h
  refine Pure.of_body Try.func36 rfl rfl (Nat.le_of_ble_eq_true rfl) fun hf => ?_
  unfold Try.f36
  dsimp only [enumS, Nat.reduceAdd]
  refine AW.rgs rfl fun K hK => ?_
  refine b_op rfl (o_box rfl rfl rfl ?_)
  refine mv rfl rfl ?_
  refine mv rfl rfl ?_
  refine b_nil (hK _ (AW.to (to_le (s' := ⟨[(1, HV.int .i64 p1), (2, HV.fptr [HV.int .i64 p0.1, HV.int .i64 p0.2.1, slE eFromLabelTo p0.2.2] 0)], []⟩) (AS.le_of ⟨rfl, rfl, trivial⟩ trivial) ?_)))
  clear hK K
  refine AW.seq ?_
  refine AW.rgs rfl fun K hK => ?_
  refine bv rfl (v_loadF ty24 rfl (l_litA rfl (Nat.le_of_ble_eq_true rfl) rfl)) ?_
  refine mv rfl rfl ?_
  obtain ⟨x1, h2, h⟩ := bS h
  refine b_op rfl (o_call rfl rfl rfl rfl (ACallD.pure0 (w_language_lengths h2)) ?_)
  refine mv rfl rfl ?_
  refine b_nil (hK _ (AW.to (to_le (s' := ⟨[(1, HV.int .i64 p1), (2, HV.fptr [HV.int .i64 p0.1, HV.int .i64 p0.2.1, slE eFromLabelTo p0.2.2] 0), (6, HV.int .i64 x1)], []⟩) (AS.le_of ⟨rfl, rfl, rfl, trivial⟩ trivial) ?_)))
  clear hK K
  refine AW.rgs rfl fun K hK => ?_
  refine mv rfl rfl ?_
  refine bv rfl (v_bin rfl rfl b_neq) ?_
  refine b_nil (hK _ (AW.to (to_le (s' := ⟨[(1, HV.int .i64 p1), (2, HV.fptr [HV.int .i64 p0.1, HV.int .i64 p0.2.1, slE eFromLabelTo p0.2.2] 0), (6, HV.int .i64 x1), (13, HV.bool (decide (x1 ≠ 0)))], []⟩) (AS.le_of ⟨rfl, rfl, rfl, rfl, trivial⟩ trivial) ?_)))
  clear hK K
  refine AW.cond rfl (fun hc => ?_) (fun hc => ?_)
  · have hc := of_decide_eq_true hc
    have h := ifT hc h
    refine AW.rgs rfl fun K hK => ?_
    refine mv rfl rfl ?_
    refine mv rfl rfl ?_
    refine mv rfl rfl ?_
    refine b_nil (hK _ (AW.to (to_le (s' := ⟨[(4, HV.v (.slice none 0 0)), (5, HV.int .i64 x1)], []⟩) (AS.le_of ⟨rfl, rfl, trivial⟩ trivial) ?_)))
    clear hK K
    refine AW.to (to_weak ⟨[(4, slE eStr ([] : List (List UInt8))), (5, HV.int .i64 x1)], []⟩ ⟨⟨_, rfl, .nil _⟩, ⟨_, rfl, .refl _⟩, trivial⟩ trivial ?_)
    refine AW.ret ?_
    have h := Option.some.inj h
    subst h
    exact ret_pure (hs := [slE eStr ([] : List (List UInt8)), HV.int .i64 x1]) (q := HV.tup [slE eStr ([] : List (List UInt8)), HV.int .i64 x1]) (.inr rfl) (resT rfl (resT rfl rfl)) rfl ⟨(clean_slE fun _ _ => ⟨trivial, trivial⟩), trivial, trivial⟩
  · have hc := of_decide_eq_false hc
    have h := ifF hc h
    refine AW.skip ?_
    refine AW.dys follows fun K hK => ?_
    refine y_st 4 rfl rfl ?_
    refine sv rfl (v_loadF ty24 rfl (l_litA rfl (Nat.le_of_ble_eq_true rfl) rfl)) ?_
    refine sv rfl (v_loadF ty24 rfl (l_litA rfl (Nat.le_of_ble_eq_true rfl) rfl)) ?_
    obtain ⟨x3, h4, h⟩ := bS h
    refine s_op rfl rfl (ops_call rfl rfl rfl rfl (ACallD.pure0 (w_language_states h4)) ?_)
    refine sm rfl rfl ?_
    refine s_nil ?_
    obtain ⟨x5, h6, h⟩ := bS h
    by_cases hg7 : x5.2 = true
    · have h := ifT hg7 h
      refine y_op rfl rfl rfl rfl (o_callA rfl rfl rfl rfl (c_listT h6 hg7 fun i8 v9 es10 hes11 => ?_) )
      refine b_nil ?_
      refine y_st 10 rfl rfl ?_
      refine sm rfl rfl ?_
      refine sv rfl (v_extract rfl rfl) ?_
      refine sv rfl (v_extract rfl rfl) ?_
      refine sm rfl rfl ?_
      refine sm rfl rfl ?_
      refine s_nil ?_
      refine y_nil rfl (hK _ (AW.to (to_le (s' := ⟨[(7, HV.mp i8 v9), (8, HV.bool true)], [(i8, v9, .map es10)]⟩) (AS.le_of ⟨rfl, rfl, trivial⟩ ⟨hget_0, trivial⟩) ?_)))
      clear hK K
      refine AW.seq ?_
      refine AW.rgs rfl fun K hK => ?_
      refine mv rfl rfl ?_
      refine bv rfl (v_not rfl) ?_
      refine b_nil (hK _ (AW.to (to_le (s' := ⟨[(7, HV.mp i8 v9), (24, HV.bool false)], [(i8, v9, .map es10)]⟩) (AS.le_of ⟨rfl, rfl, trivial⟩ ⟨hget_0, trivial⟩) ?_)))
      clear hK K
      refine AW.cond rfl (fun hc => by cases hc) (fun _ => ?_)
      refine AW.skip ?_
      refine AW.rgs rfl fun K hK => ?_
      refine mv rfl rfl ?_
      refine b_op rfl (o_callK [(i8, v9, .map es10)] rfl rfl rfl rfl (fun K hK => w82 hK) ?_)
      refine b_op rfl (o_callK (q := slE eStr (sortS ((x5.1).map Prod.fst))) [] rfl rfl rfl rfl (fun K hK => c_sortedKeys hes11 hK) ?_)
      refine mv rfl rfl ?_
      refine mv rfl rfl ?_
      refine b_nil (hK _ (AW.to (to_le (s' := ⟨[(4, slE eStr (sortS ((x5.1).map Prod.fst))), (5, HV.int .i64 0)], []⟩) (AS.le_of ⟨rfl, rfl, trivial⟩ trivial) ?_)))
      clear hK K
      refine AW.ret ?_
      have h := Option.some.inj h
      subst h
      exact ret_pure (hs := [slE eStr (sortS ((x5.1).map Prod.fst)), HV.int .i64 0]) (q := HV.tup [slE eStr (sortS ((x5.1).map Prod.fst)), HV.int .i64 0]) (.inr rfl) (resT rfl (resT rfl rfl)) rfl ⟨(clean_slE fun _ _ => ⟨trivial, trivial⟩), trivial, trivial⟩
    · have h := ifF hg7 h
      refine y_op rfl rfl rfl rfl (o_callA rfl rfl rfl rfl (c_listF h6 hg7 ?_) )
      refine b_nil ?_
      refine y_st 10 rfl rfl ?_
      refine sm rfl rfl ?_
      refine sv rfl (v_extract rfl rfl) ?_
      refine sv rfl (v_extract rfl rfl) ?_
      refine sm rfl rfl ?_
      refine sm rfl rfl ?_
      refine s_nil ?_
      refine y_nil rfl (hK _ (AW.to (to_le (s' := ⟨[(7, HV.v (.map none)), (8, HV.bool false)], []⟩) (AS.le_of ⟨rfl, rfl, trivial⟩ trivial) ?_)))
      clear hK K
      refine AW.seq ?_
      refine AW.rgs rfl fun K hK => ?_
      refine mv rfl rfl ?_
      refine bv rfl (v_not rfl) ?_
      refine b_nil (hK _ (AW.to (to_le (s' := ⟨[(7, HV.v (.map none)), (24, HV.bool true)], []⟩) (AS.le_of ⟨rfl, rfl, trivial⟩ trivial) ?_)))
      clear hK K
      refine AW.cond rfl (fun _ => ?_) (fun hc => by cases hc)
      refine AW.rgs rfl fun K hK => ?_
      refine mv rfl rfl ?_
      refine mv rfl rfl ?_
      refine b_nil (hK _ (AW.to (to_le (s' := ⟨[(4, HV.v (.slice none 0 0)), (5, HV.int .i64 4)], []⟩) (AS.le_of ⟨rfl, rfl, trivial⟩ trivial) ?_)))
      clear hK K
      refine AW.to (to_weak ⟨[(4, slE eStr ([] : List (List UInt8))), (5, HV.int .i64 4)], []⟩ ⟨⟨_, rfl, .nil _⟩, ⟨_, rfl, .refl _⟩, trivial⟩ trivial ?_)
      refine AW.ret ?_
      have h := Option.some.inj h
      subst h
      exact ret_pure (hs := [slE eStr ([] : List (List UInt8)), HV.int .i64 4]) (q := HV.tup [slE eStr ([] : List (List UInt8)), HV.int .i64 4]) (.inr rfl) (resT rfl (resT rfl rfl)) rfl ⟨(clean_slE fun _ _ => ⟨trivial, trivial⟩), trivial, trivial⟩

set_option maxHeartbeats 1600000 in
set_option maxRecDepth 100000 in
theorem w_law11_golden  {r : TLabelsStatesEdges} (h : m_law11_golden  = some r) : Pure Try.prog 87 [] (· = HV.agg [HV.int .i64 r.1, HV.int .i64 r.2.1, slE eFromLabelTo r.2.2]) := by
  unfold m_law11_golden at h
  refine Pure.of_body Try.func87 rfl rfl (Nat.le_of_ble_eq_true rfl) fun hf => ?_
  unfold Try.f87
  dsimp only [enumS, Nat.reduceAdd]
  refine AW.rgs rfl fun K hK => ?_
  refine b_op rfl (o_alloc (fid := 87) (zs := [HV.int .i64 0, HV.int .i64 0, HV.v (.slice none 0 0)]) 87000 rfl rfl ty24 rfl (fun v1 => ?_))
  refine b_nil (hK _ (AW.to (to_le (s' := ⟨[(0, HV.ptr 87000 v1 0)], [(87000, v1, .arr 3 24 [HV.int .i64 0, HV.int .i64 0, HV.v (.slice none 0 0)])]⟩) (AS.le_of ⟨rfl, trivial⟩ ⟨rfl, trivial⟩) ?_)))
  clear hK K
  refine AW.rgs rfl fun K hK => ?_
  refine b_op rfl (o_build (cs := [HV.int .i64 0, HV.int .i64 0, HV.int .i64 0]) rfl (bl_of ty66 rfl rfl rfl rfl) ?_)
  refine b_op rfl (o_build (cs := [HV.int .i64 0, HV.int .i64 1, HV.int .i64 1]) rfl (bl_of ty66 rfl rfl rfl rfl) ?_)
  refine b_op rfl (o_build (cs := [HV.int .i64 1, HV.int .i64 0, HV.int .i64 0]) rfl (bl_of ty66 rfl rfl rfl rfl) ?_)
  refine b_op rfl (o_bsl rfl rfl (as_of (cs := [HV.int .i64 0, HV.int .i64 0, HV.int .i64 0, HV.int .i64 0, HV.int .i64 1, HV.int .i64 1, HV.int .i64 1, HV.int .i64 0, HV.int .i64 0]) ty22 ty66 rfl rfl rfl rfl rfl) ?_)
  refine b_op rfl (o_build (cs := [HV.int .i64 2, HV.int .i64 2, slE eFromLabelTo [(0, 0, 0), (0, 1, 1), (1, 0, 0)]]) rfl (bl_of ty24 rfl rfl rfl rfl) ?_)
  refine b_op rfl (o_store (cs := [HV.int .i64 2, HV.int .i64 2, slE eFromLabelTo [(0, 0, 0), (0, 1, 1), (1, 0, 0)]]) (zs := [HV.int .i64 2, HV.int .i64 2, slE eFromLabelTo [(0, 0, 0), (0, 1, 1), (1, 0, 0)]]) rfl rfl rfl ty24 rfl rfl rfl rfl rfl ?_)
  refine b_nil (hK _ (AW.to (to_le (s' := ⟨[(0, HV.ptr 87000 v1 0)], [(87000, v1, .arr 3 24 [HV.int .i64 2, HV.int .i64 2, slE eFromLabelTo [(0, 0, 0), (0, 1, 1), (1, 0, 0)]])]⟩) (AS.le_of ⟨rfl, trivial⟩ ⟨rfl, trivial⟩) ?_)))
  clear hK K
  refine AW.ret ?_
  have h := Option.some.inj h
  subst h
  exact ret_pure (hs := [HV.agg [HV.int .i64 2, HV.int .i64 2, slE eFromLabelTo [(0, 0, 0), (0, 1, 1), (1, 0, 0)]]]) (q := HV.agg [HV.int .i64 2, HV.int .i64 2, slE eFromLabelTo [(0, 0, 0), (0, 1, 1), (1, 0, 0)]]) (.inr rfl) (resP ty24 rfl rfl (l_litA rfl (Nat.le_of_ble_eq_true rfl) rfl) rfl) rfl ⟨trivial, trivial, (clean_slE fun _ _ => ⟨trivial, trivial, trivial, trivial⟩), trivial⟩

set_option maxHeartbeats 1600000 in
set_option maxRecDepth 100000 in
theorem w_law11_awakeG  {r : Bool} (h : m_law11_awakeG  = some r) : Pure Try.prog 41 [] (· = HV.bool r) := by
  unfold m_law11_awakeG at h
  refine Pure.of_body Try.func41 rfl rfl (Nat.le_of_ble_eq_true rfl) fun hf => ?_
  unfold Try.f41
  dsimp only [enumS, Nat.reduceAdd]
  refine AW.rgs rfl fun K hK => ?_
  refine mv rfl rfl ?_
  refine b_nil (hK _ (AW.to (to_le (s' := ⟨[], []⟩) (AS.le_of trivial trivial) ?_)))
  clear hK K
  refine AW.rgs rfl fun K hK => ?_
  obtain ⟨x1, h2, h⟩ := bS h
  refine b_op rfl (o_call rfl rfl rfl rfl (ACallD.pure0 (w_law11_golden h2)) ?_)
  obtain ⟨x3, h4, h⟩ := bS h
  refine b_op rfl (o_call rfl rfl rfl rfl (ACallD.pure0 (w_language_Words h4)) ?_)
  refine mv rfl rfl ?_
  refine bv rfl (v_extract rfl rfl) ?_
  refine bv rfl (v_extract rfl rfl) ?_
  refine mv rfl rfl ?_
  refine mv rfl rfl ?_
  refine b_nil (hK _ (AW.to (to_le (s' := ⟨[(1, slE eStr x3.1), (2, HV.int .i64 x3.2)], []⟩) (AS.le_of ⟨rfl, rfl, trivial⟩ trivial) ?_)))
  clear hK K
  refine AW.rgs rfl fun K hK => ?_
  obtain ⟨x5, h6, h⟩ := bS h
  refine b_op rfl (o_call rfl rfl rfl rfl (ACallD.pure0 (w_law11_golden h6)) ?_)
  obtain ⟨x7, h8, h⟩ := bS h
  refine b_op rfl (o_call rfl rfl rfl rfl (ACallD.pure0 (w_language_Missing h8)) ?_)
  refine mv rfl rfl ?_
  refine bv rfl (v_extract rfl rfl) ?_
  refine bv rfl (v_extract rfl rfl) ?_
  refine bv rfl (v_extract rfl rfl) ?_
  refine mv rfl rfl ?_
  refine mv rfl rfl ?_
  refine mv rfl rfl ?_
  refine b_nil (hK _ (AW.to (to_le (s' := ⟨[(1, slE eStr x3.1), (2, HV.int .i64 x3.2), (3, HV.str x7.1), (4, HV.bool x7.2.1), (5, HV.int .i64 x7.2.2)], []⟩) (AS.le_of ⟨rfl, rfl, rfl, rfl, rfl, trivial⟩ trivial) ?_)))
  clear hK K
  refine AW.rgs rfl fun K hK => ?_
  obtain ⟨x9, h10, h⟩ := bS h
  refine b_op rfl (o_call rfl rfl rfl rfl (ACallD.pure0 (w_law11_golden h10)) ?_)
  obtain ⟨x11, h12, h⟩ := bS h
  refine b_op rfl (o_call rfl rfl rfl rfl (ACallD.pure0 (w_language_Path h12)) ?_)
  refine mv rfl rfl ?_
  refine bv rfl (v_extract rfl rfl) ?_
  refine bv rfl (v_extract rfl rfl) ?_
  refine mv rfl rfl ?_
  refine mv rfl rfl ?_
  refine b_nil (hK _ (AW.to (to_le (s' := ⟨[(1, slE eStr x3.1), (2, HV.int .i64 x3.2), (3, HV.str x7.1), (4, HV.bool x7.2.1), (5, HV.int .i64 x7.2.2), (6, slE eInt x11.1), (7, HV.int .i64 x11.2)], []⟩) (AS.le_of ⟨rfl, rfl, rfl, rfl, rfl, rfl, rfl, trivial⟩ trivial) ?_)))
  clear hK K
  refine AW.seqJ h (S := Bool) (V := Unit) (fun a v => ⟨[(0, HV.bool a)], []⟩) (fun a13 w14 h => ?_) (fun k15 h => ?_)
  · refine AW.ret ?_
    have h := Option.some.inj h
    subst h
    exact ret_pure (hs := [HV.bool a13]) (q := HV.bool a13) (.inr rfl) (resT rfl rfl) rfl trivial
  · refine AW.rg rfl fun K hK => ?_
    refine mv rfl rfl ?_
    refine mv rfl rfl ?_
    refine mv rfl rfl ?_
    refine bv rfl (v_max3 rfl rfl rfl rfl) ?_
    refine bv rfl (v_bin rfl rfl b_eql) ?_
    refine mv rfl rfl ?_
    by_cases hg23 : (max (max x3.2 x7.2.2) x11.2) = 0
    · have h := ifT hg23 h
      refine b_T rfl rfl rfl rfl (decide_eq_true hg23) (o_val rfl (mv_val rfl rfl).2 ?_)
      refine b_T rfl rfl rfl rfl rfl (o_bsl rfl rfl (as_of (cs := [HV.str [48, 48], HV.str [48, 49], HV.str [49, 48]]) ty30 ty9 rfl rfl rfl rfl rfl) ?_)
      obtain ⟨x16, h17, h⟩ := bS h
      refine b_T rfl rfl rfl rfl rfl (o_call rfl rfl rfl rfl (ACallD.pure0 (w_slices_Equal_Lstring_string h17)) ?_)
      refine bv rfl (v_pickT rfl rfl rfl) ?_
      refine mv rfl rfl ?_
      by_cases hg22 : x16 = true
      · have h := ifT hg22 h
        refine b_T rfl rfl rfl rfl hg22 (o_val rfl (mv_val rfl rfl).2 ?_)
        refine b_T rfl rfl rfl rfl rfl (o_val rfl (v_bin rfl rfl b_seql) ?_)
        refine bv rfl (v_pickT rfl rfl rfl) ?_
        refine mv rfl rfl ?_
        by_cases hg21 : x7.1 = [49, 49]
        · have h := ifT hg21 h
          refine b_T rfl rfl rfl rfl (decide_eq_true hg21) (o_val rfl (mv_val rfl rfl).2 ?_)
          refine bv rfl (v_pickT rfl rfl rfl) ?_
          refine mv rfl rfl ?_
          by_cases hg20 : x7.2.1 = true
          · have h := ifT hg20 h
            refine b_T rfl rfl rfl rfl hg20 (o_val rfl (mv_val rfl rfl).2 ?_)
            refine b_T rfl rfl rfl rfl rfl (o_bsl rfl rfl (as_of (cs := [HV.int .i64 0, HV.int .i64 1, HV.int .i64 2]) ty42 ty3 rfl rfl rfl rfl rfl) ?_)
            obtain ⟨x18, h19, h⟩ := bS h
            refine b_T rfl rfl rfl rfl rfl (o_call rfl rfl rfl rfl (ACallD.pure0 (w_slices_Equal_Lint_int h19)) ?_)
            refine bv rfl (v_pickT rfl rfl rfl) ?_
            refine mv rfl rfl ?_
            refine b_nil (hK _ ?_)
            clear hK K
            exact to_le (s' := ⟨[(0, HV.bool x18)], []⟩) (AS.le_of ⟨rfl, trivial⟩ trivial) ⟨x18, (), h, rfl⟩
          · have h := ifF hg20 h
            refine b_F rfl rfl rfl rfl rfl (bF hg20) ?_
            refine b_F rfl rfl rfl rfl rfl rfl ?_
            refine b_F rfl rfl rfl rfl rfl rfl ?_
            refine bv rfl (v_pickF rfl rfl rfl) ?_
            refine mv rfl rfl ?_
            refine b_nil (hK _ ?_)
            clear hK K
            exact to_le (s' := ⟨[(0, HV.bool false)], []⟩) (AS.le_of ⟨rfl, trivial⟩ trivial) ⟨false, (), h, rfl⟩
        · have h := ifF hg21 h
          refine b_F rfl rfl rfl rfl rfl (decide_eq_false hg21) ?_
          refine bv rfl (v_pickF rfl rfl rfl) ?_
          refine mv rfl rfl ?_
          refine b_F rfl rfl rfl rfl rfl rfl ?_
          refine b_F rfl rfl rfl rfl rfl rfl ?_
          refine b_F rfl rfl rfl rfl rfl rfl ?_
          refine bv rfl (v_pickF rfl rfl rfl) ?_
          refine mv rfl rfl ?_
          refine b_nil (hK _ ?_)
          clear hK K
          exact to_le (s' := ⟨[(0, HV.bool false)], []⟩) (AS.le_of ⟨rfl, trivial⟩ trivial) ⟨false, (), h, rfl⟩
      · have h := ifF hg22 h
        refine b_F rfl rfl rfl rfl rfl (bF hg22) ?_
        refine b_F rfl rfl rfl rfl rfl rfl ?_
        refine bv rfl (v_pickF rfl rfl rfl) ?_
        refine mv rfl rfl ?_
        refine b_F rfl rfl rfl rfl rfl rfl ?_
        refine bv rfl (v_pickF rfl rfl rfl) ?_
        refine mv rfl rfl ?_
        refine b_F rfl rfl rfl rfl rfl rfl ?_
        refine b_F rfl rfl rfl rfl rfl rfl ?_
        refine b_F rfl rfl rfl rfl rfl rfl ?_
        refine bv rfl (v_pickF rfl rfl rfl) ?_
        refine mv rfl rfl ?_
        refine b_nil (hK _ ?_)
        clear hK K
        exact to_le (s' := ⟨[(0, HV.bool false)], []⟩) (AS.le_of ⟨rfl, trivial⟩ trivial) ⟨false, (), h, rfl⟩
    · have h := ifF hg23 h
      refine b_F rfl rfl rfl rfl rfl (decide_eq_false hg23) ?_
      refine b_F rfl rfl rfl rfl rfl rfl ?_
      refine b_F rfl rfl rfl rfl rfl rfl ?_
      refine bv rfl (v_pickF rfl rfl rfl) ?_
      refine mv rfl rfl ?_
      refine b_F rfl rfl rfl rfl rfl rfl ?_
      refine b_F rfl rfl rfl rfl rfl rfl ?_
      refine bv rfl (v_pickF rfl rfl rfl) ?_
      refine mv rfl rfl ?_
      refine b_F rfl rfl rfl rfl rfl rfl ?_
      refine bv rfl (v_pickF rfl rfl rfl) ?_
      refine mv rfl rfl ?_
      refine b_F rfl rfl rfl rfl rfl rfl ?_
      refine b_F rfl rfl rfl rfl rfl rfl ?_
      refine b_F rfl rfl rfl rfl rfl rfl ?_
      refine bv rfl (v_pickF rfl rfl rfl) ?_
      refine mv rfl rfl ?_
      refine b_nil (hK _ ?_)
      clear hK K
      exact to_le (s' := ⟨[(0, HV.bool false)], []⟩) (AS.le_of ⟨rfl, trivial⟩ trivial) ⟨false, (), h, rfl⟩

end Go.AW

/- The words of a length, by reading; the anchor of chapter 11. -/
namespace Go.AW
open Go
set_option linter.unusedSimpArgs false
set_option linter.unusedVariables false

theorem lvl_congr {f h : List Int → UInt8 → List Int} {cs : List UInt8} {A : List Int → Prop} {set : List Int} (hs : A set) (hA : ∀ a c, A a → c ∈ cs → A (f a c)) (he : ∀ a c, A a → c ∈ cs → f a c = h a c) : ∀ n, lvl f cs set n = lvl h cs set n
  | 0 => rfl
  | n + 1 => by
    simp only [lvl]
    rw [← lvl_congr hs hA he n]
    have hall : ∀ x ∈ lvl f cs set n, A x.2 := lvl_all hs hA n
    have hcs : ∀ (cs' : List UInt8), (∀ c ∈ cs', c ∈ cs) → ∀ x ∈ lvl f cs set n, ext1 f cs' x = ext1 h cs' x := by
      intro cs' hsub x hx
      unfold ext1
      induction cs' with
      | nil => rfl
      | cons c cs' ih =>
        rw [List.filterMap_cons, List.filterMap_cons, he x.2 c (hall x hx) (hsub c (List.mem_cons_self ..)), ih fun d hd => hsub d (List.mem_cons_of_mem _ hd)]
    have : ∀ l : List WS, (∀ x ∈ l, ext1 f cs x = ext1 h cs x) → l.flatMap (ext1 f cs) = l.flatMap (ext1 h cs) := by
      intro l hl
      induction l with
      | nil => rfl
      | cons x l ih => rw [List.flatMap_cons, List.flatMap_cons, hl x (List.mem_cons_self ..), ih fun y hy => hl y (List.mem_cons_of_mem _ hy)]
    exact this _ (hcs cs fun _ h => h)

section
variable {g : Gr}
def stpL (g : Gr) (a : List Int) (c : UInt8) : List Int := stepL g a (lab c)
theorem LV_lab (hv : VG g) {set : List Int} (hs : SetOk g set) (n : Nat) : LV g set n = lvl (stpL g) (lets g) set n := by
  refine lvl_congr (A := SetOk g) hs (fun a c ha hc => stpM_ok hv ha hc) (fun a c ha hc => ?_) n
  unfold stpM
  rw [step_lab hv ha hc]
  rfl

end

theorem EqS_eq {a b : List (List UInt8)} (hm : a.length ≤ 9223372036854775807) : m_slices_Equal_Lstring_string a b = some (decide (a = b)) := by
  unfold m_slices_Equal_Lstring_string
  by_cases hl : a.length = b.length
  · rw [if_neg (by omega)]
    refine lpL (loop_any (fun i => (i : Int)) a.length (fun i => decide (a.getD i [] ≠ b.getD i [])) (Ou.ret false) (Ou.go ()) (fun i hi => ?_) (by rw [if_neg (not_lt_int _)]) rfl) ?_
    · have hi' : i < b.length := by omega
      have e1 : a.getD i [] = a[i] := by simp [List.getD, hi]
      have e2 : b.getD i [] = b[i] := by simp [List.getD, hi']
      rw [if_pos (lt_int hi), ix hi, ix hi']
      simp only [Option.bind_some, nx hm hi, e1, e2, decide_eq_true_eq]
    · by_cases he : a = b
      · subst he
        rw [if_neg]
        · simp [lpO]
        · simp
      · rw [if_pos]
        · simp [lpO, he]
        · refine List.any_eq_true.2 ?_
          apply Classical.byContradiction
          intro hno
          refine he (List.ext_getElem hl fun i h1 h2 => ?_)
          apply Classical.byContradiction
          intro hne
          refine hno ⟨i, List.mem_range.2 h1, decide_eq_true ?_⟩
          rwa [show a.getD i [] = a[i] by simp [List.getD, h1], show b.getD i [] = b[i] by simp [List.getD, h2]]
  · rw [if_pos (by omega)]
    have : ¬ a = b := fun e => hl (by rw [e])
    simp [this]

theorem gT_ok : VG gT where
  l1 := by decide
  l2 := by decide
  s0 := by decide
  s1 := by decide
  el := by decide
  ed := by decide
  ord := fun i h => match i, h with
    | 0, _ => show cmp3 (0, 0, 0) (0, 1, 1) < 0 by decide
    | 1, _ => show cmp3 (0, 1, 1) (1, 0, 0) < 0 by decide
    | _ + 2, h => absurd h (by simp [gT])

theorem awake11_eq : m_law11_awakeG = some true := by
  have h1 : m_language_Words gT 2 = some ([[48, 48], [48, 49], [49, 48]], 0) := by
    obtain ⟨r, hr, _, h2, h3⟩ := Words_both gT 2
    have hs := upto_ok gT
    have e0 : ∀ n, LV gT (upto gT.2.1) n = lvl (stpL gT) (lets gT) (upto gT.2.1) n := LV_lab gT_ok hs
    have h0 := h3 gT_ok (by decide) (by decide) (by decide) (OKL_iff.2 fun j j1 j2 => by
      rw [e0]
      have : j = 1 ∨ j = 2 := by have : (2 : Int).toNat = 2 := rfl; omega
      rcases this with rfl | rfl <;> decide)
    obtain ⟨_, hw⟩ := h2 h0
    have e1 : wordsE gT 2 = [[48, 48], [48, 49], [49, 48]] := by
      unfold wordsE
      rw [e0]
      decide
    rw [hr]
    obtain ⟨r1, r2⟩ := r
    dsimp only at h0 hw
    rw [h0, hw, e1]
  have h2 : m_language_Path gT [48, 49, 48] = some ([0, 1, 2], 0) := by
    have h := (Path_eq gT_ok (by decide) (w := [48, 49, 48]) ⟨by decide, by decide⟩).1 (can_mem.1 (by decide))
    have e : pathR gT none [48, 49, 48] = [0, 1, 2] := by decide
    rw [e] at h
    exact h
  have h3 : m_language_Missing gT 3 = some ([49, 49], true, 0) := rfl
  have h4 : m_law11_golden = some gT := rfl
  unfold m_law11_awakeG
  simp only [h4, Option.bind_some, h1, h2, h3, jp]
  rw [EqS_eq (by decide), EqI_eq (by decide)]
  decide
end Go.AW

/- The anchor of chapter 11. -/
namespace Go.AW
open Go Go.Proofs
theorem w_law11_awake {r : Bool} (h : m_law11_awake = some r) : Pure Try.prog 41 [] (· = HV.bool r) := by
  cases h
  exact w_law11_awakeG awake11_eq
end Go.AW

namespace Go.AW
open Go Go.Proofs
set_option linter.unusedVariables false
end Go.AW

namespace Go.AW
open Go Go.Proofs
set_option linter.unusedVariables false
set_option maxHeartbeats 1600000 in
set_option maxRecDepth 100000 in
theorem w_law11_LanguagePaths {p0 : TLabelsStatesEdges} {p1 : List UInt8} {r : Bool} (h : m_law11_LanguagePaths p0 p1 = some r) : Pure Try.prog 10 [HV.agg [HV.int .i64 p0.1, HV.int .i64 p0.2.1, slE eFromLabelTo p0.2.2], HV.str p1] (· = HV.bool r) := by
  unfold m_law11_LanguagePaths at h
  refine Pure.of_body Try.func10 rfl rfl (Nat.le_of_ble_eq_true rfl) fun hf => ?_
  unfold Try.f10
  dsimp only [enumS, Nat.reduceAdd]
  refine AW.rgs rfl fun K hK => ?_
  refine b_op rfl (o_box rfl rfl rfl ?_)
  refine mv rfl rfl ?_
  refine b_nil (hK _ (AW.to (to_le (s' := ⟨[(1, HV.str p1), (2, HV.fptr [HV.int .i64 p0.1, HV.int .i64 p0.2.1, slE eFromLabelTo p0.2.2] 0)], []⟩) (AS.le_of ⟨rfl, rfl, trivial⟩ trivial) ?_)))
  clear hK K
  refine AW.seq ?_
  refine AW.seqJ h (S := Bool) (V := Unit) (fun a v => ⟨[(1, HV.str p1), (2, HV.fptr [HV.int .i64 p0.1, HV.int .i64 p0.2.1, slE eFromLabelTo p0.2.2] 0), (29, HV.bool a)], []⟩) (fun a1 w2 h => ?_) (fun k3 h => ?_)
  · refine AW.cond rfl (fun hc => ?_) (fun hc => ?_)
    · have h := ifT hc h
      refine AW.rgs rfl fun K hK => ?_
      obtain ⟨x4, h5, h⟩ := bS h
      refine b_op rfl (o_call rfl rfl rfl rfl (ACallD.pure0 (w_law11_awake h5)) ?_)
      refine mv rfl rfl ?_
      refine b_nil (hK _ (AW.to (to_le (s' := ⟨[(4, HV.bool x4)], []⟩) (AS.le_of ⟨rfl, trivial⟩ trivial) ?_)))
      clear hK K
      refine AW.ret ?_
      have h := Option.some.inj h
      subst h
      exact ret_pure (hs := [HV.bool x4]) (q := HV.bool x4) (.inr rfl) (resT rfl rfl) rfl trivial
    · have h := ifF (bF' hc) h
      refine AW.skip ?_
      refine AW.rgs rfl fun K hK => ?_
      refine bv rfl (v_loadF ty24 rfl (l_litA rfl (Nat.le_of_ble_eq_true rfl) rfl)) ?_
      refine mv rfl rfl ?_
      obtain ⟨x6, h7, h⟩ := bS h
      refine b_op rfl (o_call rfl rfl rfl rfl (ACallD.pure0 (w_language_Path h7)) ?_)
      refine mv rfl rfl ?_
      refine bv rfl (v_extract rfl rfl) ?_
      refine bv rfl (v_extract rfl rfl) ?_
      refine mv rfl rfl ?_
      refine mv rfl rfl ?_
      refine b_nil (hK _ (AW.to (to_le (s' := ⟨[(1, HV.str p1), (2, HV.fptr [HV.int .i64 p0.1, HV.int .i64 p0.2.1, slE eFromLabelTo p0.2.2] 0), (5, slE eInt x6.1), (6, HV.int .i64 x6.2)], []⟩) (AS.le_of ⟨rfl, rfl, rfl, rfl, trivial⟩ trivial) ?_)))
      clear hK K
      refine AW.rgs rfl fun K hK => ?_
      refine bv rfl (v_loadF ty24 rfl (l_litA rfl (Nat.le_of_ble_eq_true rfl) rfl)) ?_
      refine mv rfl rfl ?_
      obtain ⟨x8, h9, h⟩ := bS h
      refine b_op rfl (o_call rfl rfl rfl rfl (ACallD.pure0 (w_language_Accepts h9)) ?_)
      refine mv rfl rfl ?_
      refine bv rfl (v_extract rfl rfl) ?_
      refine bv rfl (v_extract rfl rfl) ?_
      refine mv rfl rfl ?_
      refine mv rfl rfl ?_
      refine b_nil (hK _ (AW.to (to_le (s' := ⟨[(1, HV.str p1), (2, HV.fptr [HV.int .i64 p0.1, HV.int .i64 p0.2.1, slE eFromLabelTo p0.2.2] 0), (5, slE eInt x6.1), (6, HV.int .i64 x6.2), (7, HV.bool x8.1), (8, HV.int .i64 x8.2)], []⟩) (AS.le_of ⟨rfl, rfl, rfl, rfl, rfl, rfl, trivial⟩ trivial) ?_)))
      clear hK K
      refine AW.seq ?_
      refine AW.seqJ h (S := Bool) (V := Unit) (fun a v => ⟨[(1, HV.str p1), (2, HV.fptr [HV.int .i64 p0.1, HV.int .i64 p0.2.1, slE eFromLabelTo p0.2.2] 0), (5, slE eInt x6.1), (6, HV.int .i64 x6.2), (7, HV.bool x8.1), (50, HV.bool a)], []⟩) (fun a10 w11 h => ?_) (fun k12 h => ?_)
      · refine AW.cond rfl (fun hc => ?_) (fun hc => ?_)
        · have h := ifT hc h
          refine AW.rgs rfl fun K hK => ?_
          refine mv rfl rfl ?_
          refine b_nil (hK _ (AW.to (to_le (s' := ⟨[(4, HV.bool false)], []⟩) (AS.le_of ⟨rfl, trivial⟩ trivial) ?_)))
          clear hK K
          refine AW.ret ?_
          have h := Option.some.inj h
          subst h
          exact ret_pure (hs := [HV.bool false]) (q := HV.bool false) (.inr rfl) (resT rfl rfl) rfl trivial
        · have h := ifF (bF' hc) h
          refine AW.skip ?_
          refine AW.seq ?_
          refine AW.rgs rfl fun K hK => ?_
          refine mv rfl rfl ?_
          refine bv rfl (v_not rfl) ?_
          refine b_nil (hK _ (AW.to (to_le (s' := ⟨[(1, HV.str p1), (2, HV.fptr [HV.int .i64 p0.1, HV.int .i64 p0.2.1, slE eFromLabelTo p0.2.2] 0), (5, slE eInt x6.1), (6, HV.int .i64 x6.2), (52, HV.bool (!x8.1))], []⟩) (AS.le_of ⟨rfl, rfl, rfl, rfl, rfl, trivial⟩ trivial) ?_)))
          clear hK K
          refine AW.cond rfl (fun hc => ?_) (fun hc => ?_)
          · have h := ifT hc h
            refine AW.seqJ h (S := Bool) (V := Unit) (fun a v => ⟨[(4, HV.bool a)], []⟩) (fun a13 w14 h => ?_) (fun k15 h => ?_)
            · refine AW.ret ?_
              have h := Option.some.inj h
              subst h
              exact ret_pure (hs := [HV.bool a13]) (q := HV.bool a13) (.inr rfl) (resT rfl rfl) rfl trivial
            · refine AW.rg rfl fun K hK => ?_
              refine mv rfl rfl ?_
              refine bv rfl (v_bin rfl rfl b_eql) ?_
              refine mv rfl rfl ?_
              by_cases hg19 : x6.2 = 13
              · have h := ifT hg19 h
                refine b_T rfl rfl rfl rfl (decide_eq_true hg19) (o_val rfl (mv_val rfl rfl).2 ?_)
                refine b_T rfl rfl rfl rfl rfl (o_val rfl (v_lenF rfl rfl ty42 rfl) ?_)
                refine b_T rfl rfl rfl rfl rfl (o_val rfl (v_bin rfl rfl b_eql) ?_)
                refine bv rfl (v_pickT rfl rfl rfl) ?_
                refine mv rfl rfl ?_
                by_cases hg18 : ((x6.1).length : Int) = 0
                · have h := ifT hg18 h
                  obtain ⟨x16, h17, h⟩ := bS h
                  refine b_T rfl rfl rfl rfl (decide_eq_true hg18) (o_call rfl rfl rfl rfl (ACallD.pure0 (w_law11_awake h17)) ?_)
                  refine bv rfl (v_pickT rfl rfl rfl) ?_
                  refine mv rfl rfl ?_
                  refine b_nil (hK _ ?_)
                  clear hK K
                  exact to_le (s' := ⟨[(4, HV.bool x16)], []⟩) (AS.le_of ⟨rfl, trivial⟩ trivial) ⟨x16, (), h, rfl⟩
                · have h := ifF hg18 h
                  refine b_F rfl rfl rfl rfl rfl (decide_eq_false hg18) ?_
                  refine bv rfl (v_pickF rfl rfl rfl) ?_
                  refine mv rfl rfl ?_
                  refine b_nil (hK _ ?_)
                  clear hK K
                  exact to_le (s' := ⟨[(4, HV.bool false)], []⟩) (AS.le_of ⟨rfl, trivial⟩ trivial) ⟨false, (), h, rfl⟩
              · have h := ifF hg19 h
                refine b_F rfl rfl rfl rfl rfl (decide_eq_false hg19) ?_
                refine b_F rfl rfl rfl rfl rfl rfl ?_
                refine b_F rfl rfl rfl rfl rfl rfl ?_
                refine bv rfl (v_pickF rfl rfl rfl) ?_
                refine mv rfl rfl ?_
                refine b_F rfl rfl rfl rfl rfl rfl ?_
                refine bv rfl (v_pickF rfl rfl rfl) ?_
                refine mv rfl rfl ?_
                refine b_nil (hK _ ?_)
                clear hK K
                exact to_le (s' := ⟨[(4, HV.bool false)], []⟩) (AS.le_of ⟨rfl, trivial⟩ trivial) ⟨false, (), h, rfl⟩
          · have h := ifF (bF' hc) h
            refine AW.skip ?_
            refine AW.seq ?_
            refine AW.rgs rfl fun K hK => ?_
            refine mv rfl rfl ?_
            refine bv rfl (v_lenF rfl rfl ty42 rfl) ?_
            refine mv rfl rfl ?_
            refine bv rfl (v_lenS rfl rfl ty9 rfl) ?_
            refine bv rfl (v_bin rfl rfl b_neq) ?_
            refine b_nil (hK _ (AW.to (to_le (s' := ⟨[(1, HV.str p1), (2, HV.fptr [HV.int .i64 p0.1, HV.int .i64 p0.2.1, slE eFromLabelTo p0.2.2] 0), (5, slE eInt x6.1), (67, HV.bool (decide (((x6.1).length : Int) ≠ ((p1).length : Int))))], []⟩) (AS.le_of ⟨rfl, rfl, rfl, rfl, trivial⟩ trivial) ?_)))
            clear hK K
            refine AW.cond rfl (fun hc => ?_) (fun hc => ?_)
            · have hc := of_decide_eq_true hc
              have h := ifT hc h
              refine AW.rgs rfl fun K hK => ?_
              refine mv rfl rfl ?_
              refine b_nil (hK _ (AW.to (to_le (s' := ⟨[(4, HV.bool false)], []⟩) (AS.le_of ⟨rfl, trivial⟩ trivial) ?_)))
              clear hK K
              refine AW.ret ?_
              have h := Option.some.inj h
              subst h
              exact ret_pure (hs := [HV.bool false]) (q := HV.bool false) (.inr rfl) (resT rfl rfl) rfl trivial
            · have hc := of_decide_eq_false hc
              have h := ifF hc h
              refine AW.skip ?_
              refine AW.seq ?_
              refine AW.rgs rfl fun K hK => ?_
              refine mv rfl rfl ?_
              refine bv rfl (v_lenF rfl rfl ty42 rfl) ?_
              refine mv rfl rfl ?_
              refine b_nil (hK _ (AW.to (to_le (s' := ⟨[(1, HV.str p1), (2, HV.fptr [HV.int .i64 p0.1, HV.int .i64 p0.2.1, slE eFromLabelTo p0.2.2] 0), (5, slE eInt x6.1), (68, slE eInt x6.1), (69, HV.int .i64 ((x6.1).length : Int)), (70, HV.int .i64 0)], []⟩) (AS.le_of ⟨rfl, rfl, rfl, rfl, rfl, rfl, trivial⟩ trivial) ?_)))
              clear hK K
              refine AW.lpR h (by first | exact up_then | exact up_to) (S := Int) (V := Unit) (fun a v => ⟨[(1, HV.str p1), (2, HV.fptr [HV.int .i64 p0.1, HV.int .i64 p0.2.1, slE eFromLabelTo p0.2.2] 0), (5, slE eInt x6.1), (68, slE eInt x6.1), (69, HV.int .i64 ((x6.1).length : Int)), (70, HV.int .i64 a)], []⟩) ?_ (X := Unit) (W := Unit) (fun a v => ⟨[], []⟩) (fun a74 w75 h => ?_) (fun a20 w21 st22 h hr23=> ?_)
              · exact to_le (s' := ⟨[(1, HV.str p1), (2, HV.fptr [HV.int .i64 p0.1, HV.int .i64 p0.2.1, slE eFromLabelTo p0.2.2] 0), (5, slE eInt x6.1), (68, slE eInt x6.1), (69, HV.int .i64 ((x6.1).length : Int)), (70, HV.int .i64 0)], []⟩) (AS.le_of ⟨rfl, rfl, rfl, rfl, rfl, rfl, trivial⟩ trivial) ⟨(), rfl⟩
              · refine AW.rgs rfl fun K hK => ?_
                obtain ⟨x76, h77, h⟩ := bS h
                refine b_op rfl (o_call rfl rfl rfl rfl (ACallD.pure0 (w_law11_awake h77)) ?_)
                refine mv rfl rfl ?_
                refine b_nil (hK _ (AW.to (to_le (s' := ⟨[(4, HV.bool x76)], []⟩) (AS.le_of ⟨rfl, trivial⟩ trivial) ?_)))
                clear hK K
                refine AW.ret ?_
                have h := Option.some.inj h
                subst h
                exact ret_pure (hs := [HV.bool x76]) (q := HV.bool x76) (.inr rfl) (resT rfl rfl) rfl trivial
              · refine AW.rgs rfl fun K hK => ?_
                refine bv rfl (v_bin rfl rfl b_lss) ?_
                refine b_nil (hK _ (AW.to (to_le (s' := ⟨[(1, HV.str p1), (2, HV.fptr [HV.int .i64 p0.1, HV.int .i64 p0.2.1, slE eFromLabelTo p0.2.2] 0), (5, slE eInt x6.1), (68, slE eInt x6.1), (69, HV.int .i64 ((x6.1).length : Int)), (70, HV.int .i64 a20), (71, HV.bool (decide (a20 < ((x6.1).length : Int))))], []⟩) (AS.le_of ⟨rfl, rfl, rfl, rfl, rfl, rfl, rfl, trivial⟩ trivial) ?_)))
                clear hK K
                refine AW.cseq rfl (fun hc => ?_) (fun hc => ?_)
                · have hc := of_decide_eq_true hc
                  have h := ifT hc h
                  refine AW.skip ?_
                  refine AW.seq (AW.block ?_)
                  refine AW.rgs rfl fun K hK => ?_
                  refine mv rfl rfl ?_
                  obtain ⟨x24, h25, h⟩ := bS h
                  refine bv rfl (v_idxF ty42 es42 rfl rfl (idx_lt h25)) ?_
                  refine bv rfl (v_loadF ty3 rfl (l_cell eInt h25 (o := 0) rfl rfl)) ?_
                  refine mv rfl rfl ?_
                  refine mv rfl rfl ?_
                  refine b_nil (hK _ (AW.to (to_le (s' := ⟨[(1, HV.str p1), (2, HV.fptr [HV.int .i64 p0.1, HV.int .i64 p0.2.1, slE eFromLabelTo p0.2.2] 0), (5, slE eInt x6.1), (9, HV.int .i64 a20), (10, HV.int .i64 x24), (68, slE eInt x6.1), (69, HV.int .i64 ((x6.1).length : Int)), (70, HV.int .i64 a20)], []⟩) (AS.le_of ⟨rfl, rfl, rfl, rfl, rfl, rfl, rfl, rfl, trivial⟩ trivial) ?_)))
                  clear hK K
                  refine AW.seq ?_
                  refine AW.seqJ h (S := Bool) (V := Unit) (fun a v => ⟨[(1, HV.str p1), (2, HV.fptr [HV.int .i64 p0.1, HV.int .i64 p0.2.1, slE eFromLabelTo p0.2.2] 0), (5, slE eInt x6.1), (9, HV.int .i64 a20), (10, HV.int .i64 x24), (68, slE eInt x6.1), (69, HV.int .i64 ((x6.1).length : Int)), (70, HV.int .i64 a20), (119, HV.bool a)], []⟩) (fun a26 w27 h => ?_) (fun k28 h => ?_)
                  · refine AW.cond rfl (fun hc => ?_) (fun hc => ?_)
                    · have h := ifT hc h
                      refine AW.rgs rfl fun K hK => ?_
                      refine mv rfl rfl ?_
                      refine b_nil (hK _ (AW.to (to_le (s' := ⟨[(4, HV.bool false)], []⟩) (AS.le_of ⟨rfl, trivial⟩ trivial) ?_)))
                      clear hK K
                      have h := hr23 _ h
                      refine AW.ret ?_
                      have h := Option.some.inj h
                      subst h
                      exact ret_pure (hs := [HV.bool false]) (q := HV.bool false) (.inr rfl) (resT rfl rfl) rfl trivial
                    · have h := ifF (bF' hc) h
                      refine AW.skip ?_
                      refine AW.rgs rfl fun K hK => ?_
                      refine bv rfl (v_fieldAddrF fo24_2 rfl) ?_
                      refine bv rfl (v_loadF ty22 rfl (l_lit rfl rfl)) ?_
                      refine mv rfl rfl ?_
                      obtain ⟨h29, h⟩ := ifN h
                      refine bv rfl (v_sliceF eFromLabelTo ty22 es22 rfl rfl rfl h29) ?_
                      refine bv rfl (v_lenF rfl rfl ty22 rfl) ?_
                      refine mv rfl rfl ?_
                      refine b_nil (hK _ (AW.to (to_le (s' := ⟨[(1, HV.str p1), (2, HV.fptr [HV.int .i64 p0.1, HV.int .i64 p0.2.1, slE eFromLabelTo p0.2.2] 0), (5, slE eInt x6.1), (9, HV.int .i64 a20), (10, HV.int .i64 x24), (68, slE eInt x6.1), (69, HV.int .i64 ((x6.1).length : Int)), (70, HV.int .i64 a20), (123, slE eFromLabelTo ((p0.2.2.take (x24).toNat).drop (0 : Int).toNat)), (124, HV.int .i64 (((p0.2.2.take (x24).toNat).drop (0 : Int).toNat).length : Int)), (125, HV.int .i64 0)], []⟩) (AS.le_of ⟨rfl, rfl, rfl, rfl, rfl, rfl, rfl, rfl, rfl, rfl, rfl, trivial⟩ trivial) ?_)))
                      clear hK K
                      refine AW.lpR h (by first | exact up_then | exact up_to) (S := Int) (V := Unit) (fun a v => ⟨[(1, HV.str p1), (2, HV.fptr [HV.int .i64 p0.1, HV.int .i64 p0.2.1, slE eFromLabelTo p0.2.2] 0), (5, slE eInt x6.1), (9, HV.int .i64 a20), (10, HV.int .i64 x24), (68, slE eInt x6.1), (69, HV.int .i64 ((x6.1).length : Int)), (70, HV.int .i64 a20), (123, slE eFromLabelTo ((p0.2.2.take (x24).toNat).drop (0 : Int).toNat)), (124, HV.int .i64 (((p0.2.2.take (x24).toNat).drop (0 : Int).toNat).length : Int)), (125, HV.int .i64 a)], []⟩) ?_ (X := Unit) (W := Unit) (fun a v => ⟨[(1, HV.str p1), (2, HV.fptr [HV.int .i64 p0.1, HV.int .i64 p0.2.1, slE eFromLabelTo p0.2.2] 0), (5, slE eInt x6.1), (68, slE eInt x6.1), (69, HV.int .i64 ((x6.1).length : Int)), (70, HV.int .i64 a20)], []⟩) (fun a56 w57 h => ?_) (fun a30 w31 st32 h hr33=> ?_)
                      · exact to_le (s' := ⟨[(1, HV.str p1), (2, HV.fptr [HV.int .i64 p0.1, HV.int .i64 p0.2.1, slE eFromLabelTo p0.2.2] 0), (5, slE eInt x6.1), (9, HV.int .i64 a20), (10, HV.int .i64 x24), (68, slE eInt x6.1), (69, HV.int .i64 ((x6.1).length : Int)), (70, HV.int .i64 a20), (123, slE eFromLabelTo ((p0.2.2.take (x24).toNat).drop (0 : Int).toNat)), (124, HV.int .i64 (((p0.2.2.take (x24).toNat).drop (0 : Int).toNat).length : Int)), (125, HV.int .i64 0)], []⟩) (AS.le_of ⟨rfl, rfl, rfl, rfl, rfl, rfl, rfl, rfl, rfl, rfl, rfl, trivial⟩ trivial) ⟨(), rfl⟩
                      · refine AW.rg rfl fun K hK => ?_
                        refine bv rfl (v_bin rfl rfl b_add) ?_
                        refine mv rfl rfl ?_
                        refine b_nil (hK _ ?_)
                        clear hK K
                        exact to_le (s' := ⟨[(1, HV.str p1), (2, HV.fptr [HV.int .i64 p0.1, HV.int .i64 p0.2.1, slE eFromLabelTo p0.2.2] 0), (5, slE eInt x6.1), (68, slE eInt x6.1), (69, HV.int .i64 ((x6.1).length : Int)), (70, HV.int .i64 (IntKind.wrap .i64 (a20 + 1)))], []⟩) (AS.le_of ⟨rfl, rfl, rfl, rfl, rfl, rfl, trivial⟩ trivial) ⟨IntKind.wrap .i64 (a20 + 1), (), h, rfl⟩
                      · refine AW.rgs rfl fun K hK => ?_
                        refine bv rfl (v_bin rfl rfl b_lss) ?_
                        refine b_nil (hK _ (AW.to (to_le (s' := ⟨[(1, HV.str p1), (2, HV.fptr [HV.int .i64 p0.1, HV.int .i64 p0.2.1, slE eFromLabelTo p0.2.2] 0), (5, slE eInt x6.1), (9, HV.int .i64 a20), (10, HV.int .i64 x24), (68, slE eInt x6.1), (69, HV.int .i64 ((x6.1).length : Int)), (70, HV.int .i64 a20), (123, slE eFromLabelTo ((p0.2.2.take (x24).toNat).drop (0 : Int).toNat)), (124, HV.int .i64 (((p0.2.2.take (x24).toNat).drop (0 : Int).toNat).length : Int)), (125, HV.int .i64 a30), (126, HV.bool (decide (a30 < (((p0.2.2.take (x24).toNat).drop (0 : Int).toNat).length : Int))))], []⟩) (AS.le_of ⟨rfl, rfl, rfl, rfl, rfl, rfl, rfl, rfl, rfl, rfl, rfl, rfl, trivial⟩ trivial) ?_)))
                        clear hK K
                        refine AW.cseq rfl (fun hc => ?_) (fun hc => ?_)
                        · have hc := of_decide_eq_true hc
                          have h := ifT hc h
                          refine AW.skip ?_
                          refine AW.seqJ h (S := Unit) (V := Unit) (fun a v => ⟨[(1, HV.str p1), (2, HV.fptr [HV.int .i64 p0.1, HV.int .i64 p0.2.1, slE eFromLabelTo p0.2.2] 0), (5, slE eInt x6.1), (9, HV.int .i64 a20), (10, HV.int .i64 x24), (68, slE eInt x6.1), (69, HV.int .i64 ((x6.1).length : Int)), (70, HV.int .i64 a20), (123, slE eFromLabelTo ((p0.2.2.take (x24).toNat).drop (0 : Int).toNat)), (124, HV.int .i64 (((p0.2.2.take (x24).toNat).drop (0 : Int).toNat).length : Int)), (125, HV.int .i64 a30)], []⟩) (fun a34 w35 h => ?_) (fun k36 h => ?_)
                          · refine AW.rg rfl fun K hK => ?_
                            refine bv rfl (v_bin rfl rfl b_add) ?_
                            refine mv rfl rfl ?_
                            refine b_nil (hK _ ?_)
                            clear hK K
                            exact to_le (s' := ⟨[(1, HV.str p1), (2, HV.fptr [HV.int .i64 p0.1, HV.int .i64 p0.2.1, slE eFromLabelTo p0.2.2] 0), (5, slE eInt x6.1), (9, HV.int .i64 a20), (10, HV.int .i64 x24), (68, slE eInt x6.1), (69, HV.int .i64 ((x6.1).length : Int)), (70, HV.int .i64 a20), (123, slE eFromLabelTo ((p0.2.2.take (x24).toNat).drop (0 : Int).toNat)), (124, HV.int .i64 (((p0.2.2.take (x24).toNat).drop (0 : Int).toNat).length : Int)), (125, HV.int .i64 (IntKind.wrap .i64 (a30 + 1)))], []⟩) (AS.le_of ⟨rfl, rfl, rfl, rfl, rfl, rfl, rfl, rfl, rfl, rfl, rfl, trivial⟩ trivial) ⟨IntKind.wrap .i64 (a30 + 1), (), h, rfl⟩
                          · refine AW.block ?_
                            refine AW.rgs rfl fun K hK => ?_
                            obtain ⟨x37, h38, h⟩ := bS h
                            refine bv rfl (v_idxF ty22 es22 rfl rfl (idx_lt h38)) ?_
                            refine bv rfl (v_loadF ty66 rfl (l_agg eFromLabelTo h38 rfl rfl)) ?_
                            refine b_op rfl (o_alloc (fid := 10) (zs := [HV.int .i64 0, HV.int .i64 0, HV.int .i64 0]) 10012 rfl rfl ty66 rfl (fun v39 => ?_))
                            refine b_op rfl (o_store (cs := [HV.int .i64 x37.1, HV.int .i64 x37.2.1, HV.int .i64 x37.2.2]) (zs := [HV.int .i64 x37.1, HV.int .i64 x37.2.1, HV.int .i64 x37.2.2]) rfl rfl rfl ty66 rfl rfl rfl rfl rfl ?_)
                            refine b_nil (hK _ (AW.to (to_le (s' := ⟨[(1, HV.str p1), (2, HV.fptr [HV.int .i64 p0.1, HV.int .i64 p0.2.1, slE eFromLabelTo p0.2.2] 0), (5, slE eInt x6.1), (9, HV.int .i64 a20), (10, HV.int .i64 x24), (12, HV.ptr 10012 v39 0), (68, slE eInt x6.1), (69, HV.int .i64 ((x6.1).length : Int)), (70, HV.int .i64 a20), (123, slE eFromLabelTo ((p0.2.2.take (x24).toNat).drop (0 : Int).toNat)), (124, HV.int .i64 (((p0.2.2.take (x24).toNat).drop (0 : Int).toNat).length : Int)), (125, HV.int .i64 a30)], [(10012, v39, .arr 3 66 [HV.int .i64 x37.1, HV.int .i64 x37.2.1, HV.int .i64 x37.2.2])]⟩) (AS.le_of ⟨rfl, rfl, rfl, rfl, rfl, rfl, rfl, rfl, rfl, rfl, rfl, rfl, trivial⟩ ⟨rfl, trivial⟩) ?_)))
                            clear hK K
                            refine AW.seq ?_
                            refine AW.seqJ h (S := Bool) (V := Unit) (fun a v => ⟨[(1, HV.str p1), (2, HV.fptr [HV.int .i64 p0.1, HV.int .i64 p0.2.1, slE eFromLabelTo p0.2.2] 0), (5, slE eInt x6.1), (9, HV.int .i64 a20), (10, HV.int .i64 x24), (12, HV.ptr 10012 v39 0), (68, slE eInt x6.1), (69, HV.int .i64 ((x6.1).length : Int)), (70, HV.int .i64 a20), (123, slE eFromLabelTo ((p0.2.2.take (x24).toNat).drop (0 : Int).toNat)), (124, HV.int .i64 (((p0.2.2.take (x24).toNat).drop (0 : Int).toNat).length : Int)), (125, HV.int .i64 a30), (152, HV.bool a)], [(10012, v39, .arr 3 66 [HV.int .i64 x37.1, HV.int .i64 x37.2.1, HV.int .i64 x37.2.2])]⟩) (fun a40 w41 h => ?_) (fun k42 h => ?_)
                            · refine AW.cond rfl (fun hc => ?_) (fun hc => ?_)
                              · have h := ifT hc h
                                refine AW.exit ?_
                                exact to_le (s' := ⟨[(1, HV.str p1), (2, HV.fptr [HV.int .i64 p0.1, HV.int .i64 p0.2.1, slE eFromLabelTo p0.2.2] 0), (5, slE eInt x6.1), (9, HV.int .i64 a20), (10, HV.int .i64 x24), (68, slE eInt x6.1), (69, HV.int .i64 ((x6.1).length : Int)), (70, HV.int .i64 a20), (123, slE eFromLabelTo ((p0.2.2.take (x24).toNat).drop (0 : Int).toNat)), (124, HV.int .i64 (((p0.2.2.take (x24).toNat).drop (0 : Int).toNat).length : Int)), (125, HV.int .i64 a30)], []⟩) (AS.le_of ⟨rfl, rfl, rfl, rfl, rfl, rfl, rfl, rfl, rfl, rfl, rfl, trivial⟩ trivial) ⟨(), (), h, rfl⟩
                              · have h := ifF (bF' hc) h
                                refine AW.skip ?_
                                refine AW.dgs 14 follows rfl rfl fun K hK => ?_
                                refine sv rfl (v_loadF ty24 rfl (l_litA rfl (Nat.le_of_ble_eq_true rfl) rfl)) ?_
                                refine sv rfl (v_fieldAddrP fo66_2 rfl rfl) ?_
                                refine sv rfl (v_loadP ty3 rfl rfl (l_lit rfl rfl)) ?_
                                refine s_op rfl rfl (ops_bsl rfl rfl (as_of (cs := [HV.int .i64 x37.2.2]) ty42 ty3 rfl rfl rfl rfl rfl) ?_)
                                refine sm rfl rfl ?_
                                refine sm rfl rfl ?_
                                refine sv rfl (v_bin rfl rfl b_add) ?_
                                obtain ⟨h43, h⟩ := ifN h
                                refine sv rfl (v_sliceS ty9 rfl rfl rfl h43) ?_
                                obtain ⟨x44, h45, h⟩ := bS h
                                refine s_op rfl rfl (ops_call rfl rfl rfl rfl (ACallD.pure0 (w_language_Ends h45)) ?_)
                                refine sm rfl rfl ?_
                                refine sv rfl (v_extract rfl rfl) ?_
                                refine sv rfl (v_extract rfl rfl) ?_
                                refine sm rfl rfl ?_
                                refine sm rfl rfl ?_
                                refine s_nil ?_
                                refine b_nil (hK _ (AW.to (to_le (s' := ⟨[(1, HV.str p1), (2, HV.fptr [HV.int .i64 p0.1, HV.int .i64 p0.2.1, slE eFromLabelTo p0.2.2] 0), (5, slE eInt x6.1), (9, HV.int .i64 a20), (10, HV.int .i64 x24), (13, slE eInt x44.1), (14, HV.int .i64 x44.2), (68, slE eInt x6.1), (69, HV.int .i64 ((x6.1).length : Int)), (70, HV.int .i64 a20), (123, slE eFromLabelTo ((p0.2.2.take (x24).toNat).drop (0 : Int).toNat)), (124, HV.int .i64 (((p0.2.2.take (x24).toNat).drop (0 : Int).toNat).length : Int)), (125, HV.int .i64 a30)], []⟩) (AS.le_of ⟨rfl, rfl, rfl, rfl, rfl, rfl, rfl, rfl, rfl, rfl, rfl, rfl, rfl, trivial⟩ trivial) ?_)))
                                clear hK K
                                refine AW.seqJ h (S := Bool) (V := Unit) (fun a v => ⟨[(1, HV.str p1), (2, HV.fptr [HV.int .i64 p0.1, HV.int .i64 p0.2.1, slE eFromLabelTo p0.2.2] 0), (5, slE eInt x6.1), (9, HV.int .i64 a20), (10, HV.int .i64 x24), (68, slE eInt x6.1), (69, HV.int .i64 ((x6.1).length : Int)), (70, HV.int .i64 a20), (123, slE eFromLabelTo ((p0.2.2.take (x24).toNat).drop (0 : Int).toNat)), (124, HV.int .i64 (((p0.2.2.take (x24).toNat).drop (0 : Int).toNat).length : Int)), (125, HV.int .i64 a30), (171, HV.bool a)], []⟩) (fun a46 w47 h => ?_) (fun k48 h => ?_)
                                · refine AW.cond rfl (fun hc => ?_) (fun hc => ?_)
                                  · have h := ifT hc h
                                    refine AW.rgs rfl fun K hK => ?_
                                    refine mv rfl rfl ?_
                                    refine b_nil (hK _ (AW.to (to_le (s' := ⟨[(4, HV.bool false)], []⟩) (AS.le_of ⟨rfl, trivial⟩ trivial) ?_)))
                                    clear hK K
                                    have h := hr33 _ h
                                    have h := hr23 _ h
                                    refine AW.ret ?_
                                    have h := Option.some.inj h
                                    subst h
                                    exact ret_pure (hs := [HV.bool false]) (q := HV.bool false) (.inr rfl) (resT rfl rfl) rfl trivial
                                  · have h := ifF (bF' hc) h
                                    refine AW.skip ?_
                                    exact to_le (s' := ⟨[(1, HV.str p1), (2, HV.fptr [HV.int .i64 p0.1, HV.int .i64 p0.2.1, slE eFromLabelTo p0.2.2] 0), (5, slE eInt x6.1), (9, HV.int .i64 a20), (10, HV.int .i64 x24), (68, slE eInt x6.1), (69, HV.int .i64 ((x6.1).length : Int)), (70, HV.int .i64 a20), (123, slE eFromLabelTo ((p0.2.2.take (x24).toNat).drop (0 : Int).toNat)), (124, HV.int .i64 (((p0.2.2.take (x24).toNat).drop (0 : Int).toNat).length : Int)), (125, HV.int .i64 a30)], []⟩) (AS.le_of ⟨rfl, rfl, rfl, rfl, rfl, rfl, rfl, rfl, rfl, rfl, rfl, trivial⟩ trivial) ⟨(), (), h, rfl⟩
                                · refine AW.rg rfl fun K hK => ?_
                                  refine mv rfl rfl ?_
                                  refine bv rfl (v_bin rfl rfl b_neq) ?_
                                  refine mv rfl rfl ?_
                                  by_cases hg49 : x44.2 ≠ 0
                                  · have h := ifT hg49 h
                                    refine b_F rfl rfl rfl rfl rfl (decide_eq_true hg49) ?_
                                    refine b_F rfl rfl rfl rfl rfl rfl ?_
                                    refine b_F rfl rfl rfl rfl rfl rfl ?_
                                    refine bv rfl (v_pickT rfl rfl rfl) ?_
                                    refine b_nil (hK _ ?_)
                                    clear hK K
                                    exact to_le (s' := ⟨[(1, HV.str p1), (2, HV.fptr [HV.int .i64 p0.1, HV.int .i64 p0.2.1, slE eFromLabelTo p0.2.2] 0), (5, slE eInt x6.1), (9, HV.int .i64 a20), (10, HV.int .i64 x24), (68, slE eInt x6.1), (69, HV.int .i64 ((x6.1).length : Int)), (70, HV.int .i64 a20), (123, slE eFromLabelTo ((p0.2.2.take (x24).toNat).drop (0 : Int).toNat)), (124, HV.int .i64 (((p0.2.2.take (x24).toNat).drop (0 : Int).toNat).length : Int)), (125, HV.int .i64 a30), (171, HV.bool true)], []⟩) (AS.le_of ⟨rfl, rfl, rfl, rfl, rfl, rfl, rfl, rfl, rfl, rfl, rfl, rfl, trivial⟩ trivial) ⟨true, (), h, rfl⟩
                                  · have h := ifF hg49 h
                                    refine b_T rfl rfl rfl rfl (decide_eq_false hg49) (o_val rfl (mv_val rfl rfl).2 ?_)
                                    refine b_T rfl rfl rfl rfl rfl (o_val rfl (v_lenF rfl rfl ty42 rfl) ?_)
                                    refine b_T rfl rfl rfl rfl rfl (o_val rfl (v_bin rfl rfl b_neq) ?_)
                                    refine bv rfl (v_pickF rfl rfl rfl) ?_
                                    refine b_nil (hK _ ?_)
                                    clear hK K
                                    exact to_le (s' := ⟨[(1, HV.str p1), (2, HV.fptr [HV.int .i64 p0.1, HV.int .i64 p0.2.1, slE eFromLabelTo p0.2.2] 0), (5, slE eInt x6.1), (9, HV.int .i64 a20), (10, HV.int .i64 x24), (68, slE eInt x6.1), (69, HV.int .i64 ((x6.1).length : Int)), (70, HV.int .i64 a20), (123, slE eFromLabelTo ((p0.2.2.take (x24).toNat).drop (0 : Int).toNat)), (124, HV.int .i64 (((p0.2.2.take (x24).toNat).drop (0 : Int).toNat).length : Int)), (125, HV.int .i64 a30), (171, HV.bool (decide (((x44.1).length : Int) ≠ 0)))], []⟩) (AS.le_of ⟨rfl, rfl, rfl, rfl, rfl, rfl, rfl, rfl, rfl, rfl, rfl, rfl, trivial⟩ trivial) ⟨decide (((x44.1).length : Int) ≠ 0), (), h, rfl⟩
                            · refine AW.dg 24 follows rfl rfl fun K hK => ?_
                              refine sv rfl (v_fieldAddrP fo66_1 rfl rfl) ?_
                              refine sv rfl (v_loadP ty3 rfl rfl (l_lit rfl rfl)) ?_
                              refine sv rfl (v_fieldAddrF fo24_2 rfl) ?_
                              refine sv rfl (v_loadF ty22 rfl (l_lit rfl rfl)) ?_
                              refine sm rfl rfl ?_
                              obtain ⟨x50, h51, h⟩ := bS h
                              refine sv rfl (v_idxF ty22 es22 rfl rfl (idx_lt h51)) ?_
                              refine sv rfl (v_fieldAddrF fo66_1 rfl) ?_
                              refine sv rfl (v_loadF ty3 rfl (l_cell eFromLabelTo h51 (o := 1) rfl rfl)) ?_
                              refine sv rfl (v_bin rfl rfl b_neq) ?_
                              refine sm rfl rfl ?_
                              by_cases hg55 : x37.2.1 ≠ x50.2.1
                              · have h := ifT hg55 h
                                refine s_F rfl rfl rfl rfl rfl (decide_eq_true hg55) ?_
                                refine s_F rfl rfl rfl rfl rfl rfl ?_
                                refine s_F rfl rfl rfl rfl rfl rfl ?_
                                refine s_U rfl rfl rfl rfl rfl ?_
                                refine s_U rfl rfl rfl rfl rfl ?_
                                refine s_U rfl rfl rfl rfl rfl ?_
                                refine s_U rfl rfl rfl rfl rfl ?_
                                refine s_U rfl rfl rfl rfl rfl ?_
                                refine s_U rfl rfl rfl rfl rfl ?_
                                refine s_U rfl rfl rfl rfl rfl ?_
                                refine s_U rfl rfl rfl rfl rfl ?_
                                refine s_U rfl rfl rfl rfl rfl ?_
                                refine s_F rfl rfl rfl rfl rfl rfl ?_
                                refine sv rfl (v_pickT rfl rfl rfl) ?_
                                refine s_nil ?_
                                refine b_nil (hK _ ?_)
                                clear hK K
                                exact to_le (s' := ⟨[(1, HV.str p1), (2, HV.fptr [HV.int .i64 p0.1, HV.int .i64 p0.2.1, slE eFromLabelTo p0.2.2] 0), (5, slE eInt x6.1), (9, HV.int .i64 a20), (10, HV.int .i64 x24), (12, HV.ptr 10012 v39 0), (68, slE eInt x6.1), (69, HV.int .i64 ((x6.1).length : Int)), (70, HV.int .i64 a20), (123, slE eFromLabelTo ((p0.2.2.take (x24).toNat).drop (0 : Int).toNat)), (124, HV.int .i64 (((p0.2.2.take (x24).toNat).drop (0 : Int).toNat).length : Int)), (125, HV.int .i64 a30), (152, HV.bool true)], [(10012, v39, .arr 3 66 [HV.int .i64 x37.1, HV.int .i64 x37.2.1, HV.int .i64 x37.2.2])]⟩) (AS.le_of ⟨rfl, rfl, rfl, rfl, rfl, rfl, rfl, rfl, rfl, rfl, rfl, rfl, rfl, trivial⟩ ⟨rfl, trivial⟩) ⟨true, (), h, rfl⟩
                              · have h := ifF hg55 h
                                refine s_T rfl rfl rfl rfl rfl (decide_eq_false hg55) (ops_val rfl (mv_val rfl rfl).2 ?_)
                                refine s_T rfl rfl rfl rfl rfl rfl (ops_val rfl (v_bin rfl rfl b_gtr) ?_)
                                refine s_T rfl rfl rfl rfl rfl rfl (ops_val rfl (mv_val rfl rfl).2 ?_)
                                by_cases hg54 : 0 < a20
                                · have h := ifT hg54 h
                                  refine s_T rfl rfl rfl rfl rfl (decide_eq_true hg54) (ops_val rfl (v_fieldAddrP fo66_0 rfl rfl) ?_)
                                  refine s_T rfl rfl rfl rfl rfl rfl (ops_val rfl (v_loadP ty3 rfl rfl (l_lit rfl rfl)) ?_)
                                  refine s_T rfl rfl rfl rfl rfl rfl (ops_val rfl (v_fieldAddrF fo24_2 rfl) ?_)
                                  refine s_T rfl rfl rfl rfl rfl rfl (ops_val rfl (v_loadF ty22 rfl (l_lit rfl rfl)) ?_)
                                  refine s_T rfl rfl rfl rfl rfl rfl (ops_val rfl (mv_val rfl rfl).2 ?_)
                                  obtain ⟨x52, h53, h⟩ := bS h
                                  refine s_T rfl rfl rfl rfl rfl rfl (ops_val rfl (v_idxF ty22 es22 rfl rfl (idx_lt h53)) ?_)
                                  refine s_T rfl rfl rfl rfl rfl rfl (ops_val rfl (v_fieldAddrF fo66_0 rfl) ?_)
                                  refine s_T rfl rfl rfl rfl rfl rfl (ops_val rfl (v_loadF ty3 rfl (l_cell eFromLabelTo h53 (o := 0) rfl rfl)) ?_)
                                  refine s_T rfl rfl rfl rfl rfl rfl (ops_val rfl (v_bin rfl rfl b_neq) ?_)
                                  refine s_T rfl rfl rfl rfl rfl rfl (ops_val rfl (v_pickT rfl rfl rfl) ?_)
                                  refine sv rfl (v_pickF rfl rfl rfl) ?_
                                  refine s_nil ?_
                                  refine b_nil (hK _ ?_)
                                  clear hK K
                                  exact to_le (s' := ⟨[(1, HV.str p1), (2, HV.fptr [HV.int .i64 p0.1, HV.int .i64 p0.2.1, slE eFromLabelTo p0.2.2] 0), (5, slE eInt x6.1), (9, HV.int .i64 a20), (10, HV.int .i64 x24), (12, HV.ptr 10012 v39 0), (68, slE eInt x6.1), (69, HV.int .i64 ((x6.1).length : Int)), (70, HV.int .i64 a20), (123, slE eFromLabelTo ((p0.2.2.take (x24).toNat).drop (0 : Int).toNat)), (124, HV.int .i64 (((p0.2.2.take (x24).toNat).drop (0 : Int).toNat).length : Int)), (125, HV.int .i64 a30), (152, HV.bool (decide (x37.1 ≠ x52.1)))], [(10012, v39, .arr 3 66 [HV.int .i64 x37.1, HV.int .i64 x37.2.1, HV.int .i64 x37.2.2])]⟩) (AS.le_of ⟨rfl, rfl, rfl, rfl, rfl, rfl, rfl, rfl, rfl, rfl, rfl, rfl, rfl, trivial⟩ ⟨rfl, trivial⟩) ⟨decide (x37.1 ≠ x52.1), (), h, rfl⟩
                                · have h := ifF hg54 h
                                  refine s_F rfl rfl rfl rfl rfl (decide_eq_false hg54) ?_
                                  refine s_F rfl rfl rfl rfl rfl rfl ?_
                                  refine s_F rfl rfl rfl rfl rfl rfl ?_
                                  refine s_F rfl rfl rfl rfl rfl rfl ?_
                                  refine s_F rfl rfl rfl rfl rfl rfl ?_
                                  refine s_F rfl rfl rfl rfl rfl rfl ?_
                                  refine s_F rfl rfl rfl rfl rfl rfl ?_
                                  refine s_F rfl rfl rfl rfl rfl rfl ?_
                                  refine s_F rfl rfl rfl rfl rfl rfl ?_
                                  refine s_T rfl rfl rfl rfl rfl rfl (ops_val rfl (v_pickF rfl rfl rfl) ?_)
                                  refine sv rfl (v_pickF rfl rfl rfl) ?_
                                  refine s_nil ?_
                                  refine b_nil (hK _ ?_)
                                  clear hK K
                                  exact to_le (s' := ⟨[(1, HV.str p1), (2, HV.fptr [HV.int .i64 p0.1, HV.int .i64 p0.2.1, slE eFromLabelTo p0.2.2] 0), (5, slE eInt x6.1), (9, HV.int .i64 a20), (10, HV.int .i64 x24), (12, HV.ptr 10012 v39 0), (68, slE eInt x6.1), (69, HV.int .i64 ((x6.1).length : Int)), (70, HV.int .i64 a20), (123, slE eFromLabelTo ((p0.2.2.take (x24).toNat).drop (0 : Int).toNat)), (124, HV.int .i64 (((p0.2.2.take (x24).toNat).drop (0 : Int).toNat).length : Int)), (125, HV.int .i64 a30), (152, HV.bool false)], [(10012, v39, .arr 3 66 [HV.int .i64 x37.1, HV.int .i64 x37.2.1, HV.int .i64 x37.2.2])]⟩) (AS.le_of ⟨rfl, rfl, rfl, rfl, rfl, rfl, rfl, rfl, rfl, rfl, rfl, rfl, rfl, trivial⟩ ⟨rfl, trivial⟩) ⟨false, (), h, rfl⟩
                        · have hc := of_decide_eq_false hc
                          have h := ifF hc h
                          refine AW.exit ?_
                          exact to_le (s' := ⟨[(1, HV.str p1), (2, HV.fptr [HV.int .i64 p0.1, HV.int .i64 p0.2.1, slE eFromLabelTo p0.2.2] 0), (5, slE eInt x6.1), (68, slE eInt x6.1), (69, HV.int .i64 ((x6.1).length : Int)), (70, HV.int .i64 a20)], []⟩) (AS.le_of ⟨rfl, rfl, rfl, rfl, rfl, rfl, trivial⟩ trivial) ⟨(), (), h, rfl⟩
                  · refine AW.dg 45 follows rfl rfl fun K hK => ?_
                    refine sm rfl rfl ?_
                    refine sv rfl (v_bin rfl rfl b_lss) ?_
                    refine sm rfl rfl ?_
                    by_cases hg73 : x24 < 0
                    · have h := ifT hg73 h
                      refine s_F rfl rfl rfl rfl rfl (decide_eq_true hg73) ?_
                      refine s_F rfl rfl rfl rfl rfl rfl ?_
                      refine s_F rfl rfl rfl rfl rfl rfl ?_
                      refine s_F rfl rfl rfl rfl rfl rfl ?_
                      refine s_F rfl rfl rfl rfl rfl rfl ?_
                      refine sv rfl (v_pickT rfl rfl rfl) ?_
                      refine sm rfl rfl ?_
                      refine s_F rfl rfl rfl rfl rfl rfl ?_
                      refine s_F rfl rfl rfl rfl rfl rfl ?_
                      refine s_F rfl rfl rfl rfl rfl rfl ?_
                      refine s_F rfl rfl rfl rfl rfl rfl ?_
                      refine s_F rfl rfl rfl rfl rfl rfl ?_
                      refine s_F rfl rfl rfl rfl rfl rfl ?_
                      refine s_F rfl rfl rfl rfl rfl rfl ?_
                      refine s_F rfl rfl rfl rfl rfl rfl ?_
                      refine s_F rfl rfl rfl rfl rfl rfl ?_
                      refine s_F rfl rfl rfl rfl rfl rfl ?_
                      refine s_F rfl rfl rfl rfl rfl rfl ?_
                      refine sv rfl (v_pickT rfl rfl rfl) ?_
                      refine sm rfl rfl ?_
                      refine s_F rfl rfl rfl rfl rfl rfl ?_
                      refine s_F rfl rfl rfl rfl rfl rfl ?_
                      refine s_F rfl rfl rfl rfl rfl rfl ?_
                      refine s_U rfl rfl rfl rfl rfl ?_
                      refine s_U rfl rfl rfl rfl rfl ?_
                      refine s_U rfl rfl rfl rfl rfl ?_
                      refine s_U rfl rfl rfl rfl rfl ?_
                      refine s_U rfl rfl rfl rfl rfl ?_
                      refine s_U rfl rfl rfl rfl rfl ?_
                      refine s_U rfl rfl rfl rfl rfl ?_
                      refine s_U rfl rfl rfl rfl rfl ?_
                      refine s_U rfl rfl rfl rfl rfl ?_
                      refine s_U rfl rfl rfl rfl rfl ?_
                      refine s_U rfl rfl rfl rfl rfl ?_
                      refine s_U rfl rfl rfl rfl rfl ?_
                      refine s_U rfl rfl rfl rfl rfl ?_
                      refine s_U rfl rfl rfl rfl rfl ?_
                      refine s_U rfl rfl rfl rfl rfl ?_
                      refine s_U rfl rfl rfl rfl rfl ?_
                      refine s_U rfl rfl rfl rfl rfl ?_
                      refine s_F rfl rfl rfl rfl rfl rfl ?_
                      refine sv rfl (v_pickT rfl rfl rfl) ?_
                      refine s_nil ?_
                      refine b_nil (hK _ ?_)
                      clear hK K
                      exact to_le (s' := ⟨[(1, HV.str p1), (2, HV.fptr [HV.int .i64 p0.1, HV.int .i64 p0.2.1, slE eFromLabelTo p0.2.2] 0), (5, slE eInt x6.1), (9, HV.int .i64 a20), (10, HV.int .i64 x24), (68, slE eInt x6.1), (69, HV.int .i64 ((x6.1).length : Int)), (70, HV.int .i64 a20), (119, HV.bool true)], []⟩) (AS.le_of ⟨rfl, rfl, rfl, rfl, rfl, rfl, rfl, rfl, rfl, trivial⟩ trivial) ⟨true, (), h, rfl⟩
                    · have h := ifF hg73 h
                      refine s_T rfl rfl rfl rfl rfl (decide_eq_false hg73) (ops_val rfl (mv_val rfl rfl).2 ?_)
                      refine s_T rfl rfl rfl rfl rfl rfl (ops_val rfl (v_fieldAddrF fo24_2 rfl) ?_)
                      refine s_T rfl rfl rfl rfl rfl rfl (ops_val rfl (v_loadF ty22 rfl (l_lit rfl rfl)) ?_)
                      refine s_T rfl rfl rfl rfl rfl rfl (ops_val rfl (v_lenF rfl rfl ty22 rfl) ?_)
                      refine s_T rfl rfl rfl rfl rfl rfl (ops_val rfl (v_bin rfl rfl b_geq) ?_)
                      refine sv rfl (v_pickF rfl rfl rfl) ?_
                      refine sm rfl rfl ?_
                      by_cases hg72 : ((p0.2.2).length : Int) ≤ x24
                      · have h := ifT hg72 h
                        refine s_F rfl rfl rfl rfl rfl (decide_eq_true hg72) ?_
                        refine s_F rfl rfl rfl rfl rfl rfl ?_
                        refine s_F rfl rfl rfl rfl rfl rfl ?_
                        refine s_F rfl rfl rfl rfl rfl rfl ?_
                        refine s_F rfl rfl rfl rfl rfl rfl ?_
                        refine s_F rfl rfl rfl rfl rfl rfl ?_
                        refine s_F rfl rfl rfl rfl rfl rfl ?_
                        refine s_F rfl rfl rfl rfl rfl rfl ?_
                        refine s_F rfl rfl rfl rfl rfl rfl ?_
                        refine s_F rfl rfl rfl rfl rfl rfl ?_
                        refine s_F rfl rfl rfl rfl rfl rfl ?_
                        refine sv rfl (v_pickT rfl rfl rfl) ?_
                        refine sm rfl rfl ?_
                        refine s_F rfl rfl rfl rfl rfl rfl ?_
                        refine s_F rfl rfl rfl rfl rfl rfl ?_
                        refine s_F rfl rfl rfl rfl rfl rfl ?_
                        refine s_U rfl rfl rfl rfl rfl ?_
                        refine s_U rfl rfl rfl rfl rfl ?_
                        refine s_U rfl rfl rfl rfl rfl ?_
                        refine s_U rfl rfl rfl rfl rfl ?_
                        refine s_U rfl rfl rfl rfl rfl ?_
                        refine s_U rfl rfl rfl rfl rfl ?_
                        refine s_U rfl rfl rfl rfl rfl ?_
                        refine s_U rfl rfl rfl rfl rfl ?_
                        refine s_U rfl rfl rfl rfl rfl ?_
                        refine s_U rfl rfl rfl rfl rfl ?_
                        refine s_U rfl rfl rfl rfl rfl ?_
                        refine s_U rfl rfl rfl rfl rfl ?_
                        refine s_U rfl rfl rfl rfl rfl ?_
                        refine s_U rfl rfl rfl rfl rfl ?_
                        refine s_U rfl rfl rfl rfl rfl ?_
                        refine s_U rfl rfl rfl rfl rfl ?_
                        refine s_U rfl rfl rfl rfl rfl ?_
                        refine s_F rfl rfl rfl rfl rfl rfl ?_
                        refine sv rfl (v_pickT rfl rfl rfl) ?_
                        refine s_nil ?_
                        refine b_nil (hK _ ?_)
                        clear hK K
                        exact to_le (s' := ⟨[(1, HV.str p1), (2, HV.fptr [HV.int .i64 p0.1, HV.int .i64 p0.2.1, slE eFromLabelTo p0.2.2] 0), (5, slE eInt x6.1), (9, HV.int .i64 a20), (10, HV.int .i64 x24), (68, slE eInt x6.1), (69, HV.int .i64 ((x6.1).length : Int)), (70, HV.int .i64 a20), (119, HV.bool true)], []⟩) (AS.le_of ⟨rfl, rfl, rfl, rfl, rfl, rfl, rfl, rfl, rfl, trivial⟩ trivial) ⟨true, (), h, rfl⟩
                      · have h := ifF hg72 h
                        refine s_T rfl rfl rfl rfl rfl (decide_eq_false hg72) (ops_val rfl (v_fieldAddrF fo24_2 rfl) ?_)
                        refine s_T rfl rfl rfl rfl rfl rfl (ops_val rfl (v_loadF ty22 rfl (l_lit rfl rfl)) ?_)
                        refine s_T rfl rfl rfl rfl rfl rfl (ops_val rfl (mv_val rfl rfl).2 ?_)
                        obtain ⟨x58, h59, h⟩ := bS h
                        refine s_T rfl rfl rfl rfl rfl rfl (ops_val rfl (v_idxF ty22 es22 rfl rfl (idx_lt h59)) ?_)
                        refine s_T rfl rfl rfl rfl rfl rfl (ops_val rfl (v_fieldAddrF fo66_1 rfl) ?_)
                        refine s_T rfl rfl rfl rfl rfl rfl (ops_val rfl (v_loadF ty3 rfl (l_cell eFromLabelTo h59 (o := 1) rfl rfl)) ?_)
                        refine s_T rfl rfl rfl rfl rfl rfl (ops_val rfl (mv_val rfl rfl).2 ?_)
                        refine s_T rfl rfl rfl rfl rfl rfl (ops_val rfl (mv_val rfl rfl).2 ?_)
                        obtain ⟨x60, h61, h⟩ := bS h
                        refine s_T rfl rfl rfl rfl rfl rfl (ops_val rfl (v_idxS ty9 rfl rfl h61) ?_)
                        obtain ⟨x62, h63, h⟩ := bS h
                        refine s_T rfl rfl rfl rfl rfl rfl (ops_call rfl rfl rfl rfl (ACallD.pure0 (w_strings_IndexByte h63)) ?_)
                        refine s_T rfl rfl rfl rfl rfl rfl (ops_val rfl (v_bin rfl rfl b_neq) ?_)
                        refine sv rfl (v_pickF rfl rfl rfl) ?_
                        refine sm rfl rfl ?_
                        by_cases hg71 : x58.2.1 ≠ x62
                        · have h := ifT hg71 h
                          refine s_F rfl rfl rfl rfl rfl (decide_eq_true hg71) ?_
                          refine s_F rfl rfl rfl rfl rfl rfl ?_
                          refine s_F rfl rfl rfl rfl rfl rfl ?_
                          refine s_U rfl rfl rfl rfl rfl ?_
                          refine s_U rfl rfl rfl rfl rfl ?_
                          refine s_U rfl rfl rfl rfl rfl ?_
                          refine s_U rfl rfl rfl rfl rfl ?_
                          refine s_U rfl rfl rfl rfl rfl ?_
                          refine s_U rfl rfl rfl rfl rfl ?_
                          refine s_U rfl rfl rfl rfl rfl ?_
                          refine s_U rfl rfl rfl rfl rfl ?_
                          refine s_U rfl rfl rfl rfl rfl ?_
                          refine s_U rfl rfl rfl rfl rfl ?_
                          refine s_U rfl rfl rfl rfl rfl ?_
                          refine s_U rfl rfl rfl rfl rfl ?_
                          refine s_U rfl rfl rfl rfl rfl ?_
                          refine s_U rfl rfl rfl rfl rfl ?_
                          refine s_U rfl rfl rfl rfl rfl ?_
                          refine s_U rfl rfl rfl rfl rfl ?_
                          refine s_U rfl rfl rfl rfl rfl ?_
                          refine s_F rfl rfl rfl rfl rfl rfl ?_
                          refine sv rfl (v_pickT rfl rfl rfl) ?_
                          refine s_nil ?_
                          refine b_nil (hK _ ?_)
                          clear hK K
                          exact to_le (s' := ⟨[(1, HV.str p1), (2, HV.fptr [HV.int .i64 p0.1, HV.int .i64 p0.2.1, slE eFromLabelTo p0.2.2] 0), (5, slE eInt x6.1), (9, HV.int .i64 a20), (10, HV.int .i64 x24), (68, slE eInt x6.1), (69, HV.int .i64 ((x6.1).length : Int)), (70, HV.int .i64 a20), (119, HV.bool true)], []⟩) (AS.le_of ⟨rfl, rfl, rfl, rfl, rfl, rfl, rfl, rfl, rfl, trivial⟩ trivial) ⟨true, (), h, rfl⟩
                        · have h := ifF hg71 h
                          refine s_T rfl rfl rfl rfl rfl (decide_eq_false hg71) (ops_val rfl (mv_val rfl rfl).2 ?_)
                          refine s_T rfl rfl rfl rfl rfl rfl (ops_val rfl (v_bin rfl rfl b_gtr) ?_)
                          refine s_T rfl rfl rfl rfl rfl rfl (ops_val rfl (mv_val rfl rfl).2 ?_)
                          by_cases hg70 : 0 < a20
                          · have h := ifT hg70 h
                            refine s_T rfl rfl rfl rfl rfl (decide_eq_true hg70) (ops_val rfl (v_fieldAddrF fo24_2 rfl) ?_)
                            refine s_T rfl rfl rfl rfl rfl rfl (ops_val rfl (v_loadF ty22 rfl (l_lit rfl rfl)) ?_)
                            refine s_T rfl rfl rfl rfl rfl rfl (ops_val rfl (mv_val rfl rfl).2 ?_)
                            refine s_T rfl rfl rfl rfl rfl rfl (ops_val rfl (mv_val rfl rfl).2 ?_)
                            refine s_T rfl rfl rfl rfl rfl rfl (ops_val rfl (v_bin rfl rfl b_sub) ?_)
                            obtain ⟨x64, h65, h⟩ := bS h
                            refine s_T rfl rfl rfl rfl rfl rfl (ops_val rfl (v_idxF ty42 es42 rfl rfl (idx_lt h65)) ?_)
                            refine s_T rfl rfl rfl rfl rfl rfl (ops_val rfl (v_loadF ty3 rfl (l_cell eInt h65 (o := 0) rfl rfl)) ?_)
                            obtain ⟨x66, h67, h⟩ := bS h
                            refine s_T rfl rfl rfl rfl rfl rfl (ops_val rfl (v_idxF ty22 es22 rfl rfl (idx_lt h67)) ?_)
                            refine s_T rfl rfl rfl rfl rfl rfl (ops_val rfl (v_fieldAddrF fo66_2 rfl) ?_)
                            refine s_T rfl rfl rfl rfl rfl rfl (ops_val rfl (v_loadF ty3 rfl (l_cell eFromLabelTo h67 (o := 2) rfl rfl)) ?_)
                            refine s_T rfl rfl rfl rfl rfl rfl (ops_val rfl (v_fieldAddrF fo24_2 rfl) ?_)
                            refine s_T rfl rfl rfl rfl rfl rfl (ops_val rfl (v_loadF ty22 rfl (l_lit rfl rfl)) ?_)
                            refine s_T rfl rfl rfl rfl rfl rfl (ops_val rfl (mv_val rfl rfl).2 ?_)
                            obtain ⟨x68, h69, h⟩ := bS h
                            refine s_T rfl rfl rfl rfl rfl rfl (ops_val rfl (v_idxF ty22 es22 rfl rfl (idx_lt h69)) ?_)
                            refine s_T rfl rfl rfl rfl rfl rfl (ops_val rfl (v_fieldAddrF fo66_0 rfl) ?_)
                            refine s_T rfl rfl rfl rfl rfl rfl (ops_val rfl (v_loadF ty3 rfl (l_cell eFromLabelTo h69 (o := 0) rfl rfl)) ?_)
                            refine s_T rfl rfl rfl rfl rfl rfl (ops_val rfl (v_bin rfl rfl b_neq) ?_)
                            refine s_T rfl rfl rfl rfl rfl rfl (ops_val rfl (v_pickT rfl rfl rfl) ?_)
                            refine sv rfl (v_pickF rfl rfl rfl) ?_
                            refine s_nil ?_
                            refine b_nil (hK _ ?_)
                            clear hK K
                            exact to_le (s' := ⟨[(1, HV.str p1), (2, HV.fptr [HV.int .i64 p0.1, HV.int .i64 p0.2.1, slE eFromLabelTo p0.2.2] 0), (5, slE eInt x6.1), (9, HV.int .i64 a20), (10, HV.int .i64 x24), (68, slE eInt x6.1), (69, HV.int .i64 ((x6.1).length : Int)), (70, HV.int .i64 a20), (119, HV.bool (decide (x66.2.2 ≠ x68.1)))], []⟩) (AS.le_of ⟨rfl, rfl, rfl, rfl, rfl, rfl, rfl, rfl, rfl, trivial⟩ trivial) ⟨decide (x66.2.2 ≠ x68.1), (), h, rfl⟩
                          · have h := ifF hg70 h
                            refine s_F rfl rfl rfl rfl rfl (decide_eq_false hg70) ?_
                            refine s_F rfl rfl rfl rfl rfl rfl ?_
                            refine s_F rfl rfl rfl rfl rfl rfl ?_
                            refine s_F rfl rfl rfl rfl rfl rfl ?_
                            refine s_F rfl rfl rfl rfl rfl rfl ?_
                            refine s_F rfl rfl rfl rfl rfl rfl ?_
                            refine s_F rfl rfl rfl rfl rfl rfl ?_
                            refine s_F rfl rfl rfl rfl rfl rfl ?_
                            refine s_F rfl rfl rfl rfl rfl rfl ?_
                            refine s_F rfl rfl rfl rfl rfl rfl ?_
                            refine s_F rfl rfl rfl rfl rfl rfl ?_
                            refine s_F rfl rfl rfl rfl rfl rfl ?_
                            refine s_F rfl rfl rfl rfl rfl rfl ?_
                            refine s_F rfl rfl rfl rfl rfl rfl ?_
                            refine s_F rfl rfl rfl rfl rfl rfl ?_
                            refine s_F rfl rfl rfl rfl rfl rfl ?_
                            refine s_F rfl rfl rfl rfl rfl rfl ?_
                            refine s_T rfl rfl rfl rfl rfl rfl (ops_val rfl (v_pickF rfl rfl rfl) ?_)
                            refine sv rfl (v_pickF rfl rfl rfl) ?_
                            refine s_nil ?_
                            refine b_nil (hK _ ?_)
                            clear hK K
                            exact to_le (s' := ⟨[(1, HV.str p1), (2, HV.fptr [HV.int .i64 p0.1, HV.int .i64 p0.2.1, slE eFromLabelTo p0.2.2] 0), (5, slE eInt x6.1), (9, HV.int .i64 a20), (10, HV.int .i64 x24), (68, slE eInt x6.1), (69, HV.int .i64 ((x6.1).length : Int)), (70, HV.int .i64 a20), (119, HV.bool false)], []⟩) (AS.le_of ⟨rfl, rfl, rfl, rfl, rfl, rfl, rfl, rfl, rfl, trivial⟩ trivial) ⟨false, (), h, rfl⟩
                · have hc := of_decide_eq_false hc
                  have h := ifF hc h
                  refine AW.exit ?_
                  exact to_le (s' := ⟨[], []⟩) (AS.le_of trivial trivial) ⟨(), (), h, rfl⟩
      · refine AW.rg rfl fun K hK => ?_
        refine mv rfl rfl ?_
        refine bv rfl (v_bin rfl rfl b_neq) ?_
        refine mv rfl rfl ?_
        by_cases hg78 : x8.2 ≠ 0
        · have h := ifT hg78 h
          refine b_F rfl rfl rfl rfl rfl (decide_eq_true hg78) ?_
          refine b_F rfl rfl rfl rfl rfl rfl ?_
          refine b_F rfl rfl rfl rfl rfl rfl ?_
          refine b_F rfl rfl rfl rfl rfl rfl ?_
          refine bv rfl (v_pickT rfl rfl rfl) ?_
          refine b_nil (hK _ ?_)
          clear hK K
          exact to_le (s' := ⟨[(1, HV.str p1), (2, HV.fptr [HV.int .i64 p0.1, HV.int .i64 p0.2.1, slE eFromLabelTo p0.2.2] 0), (5, slE eInt x6.1), (6, HV.int .i64 x6.2), (7, HV.bool x8.1), (50, HV.bool true)], []⟩) (AS.le_of ⟨rfl, rfl, rfl, rfl, rfl, rfl, trivial⟩ trivial) ⟨true, (), h, rfl⟩
        · have h := ifF hg78 h
          refine b_T rfl rfl rfl rfl (decide_eq_false hg78) (o_val rfl (mv_val rfl rfl).2 ?_)
          refine b_T rfl rfl rfl rfl rfl (o_val rfl (mv_val rfl rfl).2 ?_)
          refine b_T rfl rfl rfl rfl rfl (o_val rfl (v_bin rfl rfl b_eql) ?_)
          refine b_T rfl rfl rfl rfl rfl (o_val rfl (v_bin rfl rfl (b_neB ty4)) ?_)
          refine bv rfl (v_pickF rfl rfl rfl) ?_
          refine b_nil (hK _ ?_)
          clear hK K
          exact to_le (s' := ⟨[(1, HV.str p1), (2, HV.fptr [HV.int .i64 p0.1, HV.int .i64 p0.2.1, slE eFromLabelTo p0.2.2] 0), (5, slE eInt x6.1), (6, HV.int .i64 x6.2), (7, HV.bool x8.1), (50, HV.bool (!(x8.1 == (decide (x6.2 = 0)))))], []⟩) (AS.le_of ⟨rfl, rfl, rfl, rfl, rfl, rfl, trivial⟩ trivial) ⟨!(x8.1 == (decide (x6.2 = 0))), (), h, rfl⟩
  · refine AW.rg rfl fun K hK => ?_
    refine bv rfl (v_loadF ty24 rfl (l_litA rfl (Nat.le_of_ble_eq_true rfl) rfl)) ?_
    obtain ⟨x79, h80, h⟩ := bS h
    refine b_op rfl (o_call rfl rfl rfl rfl (ACallD.pure0 (w_law11_fine h80)) ?_)
    refine bv rfl (v_not rfl) ?_
    refine mv rfl rfl ?_
    by_cases hg84 : (!x79) = true
    · have h := ifT hg84 h
      refine b_F rfl rfl rfl rfl rfl hg84 ?_
      refine b_F rfl rfl rfl rfl rfl rfl ?_
      refine b_F rfl rfl rfl rfl rfl rfl ?_
      refine bv rfl (v_pickT rfl rfl rfl) ?_
      refine mv rfl rfl ?_
      refine b_F rfl rfl rfl rfl rfl rfl ?_
      refine b_F rfl rfl rfl rfl rfl rfl ?_
      refine b_F rfl rfl rfl rfl rfl rfl ?_
      refine b_F rfl rfl rfl rfl rfl rfl ?_
      refine b_F rfl rfl rfl rfl rfl rfl ?_
      refine bv rfl (v_pickT rfl rfl rfl) ?_
      refine b_nil (hK _ ?_)
      clear hK K
      exact to_le (s' := ⟨[(1, HV.str p1), (2, HV.fptr [HV.int .i64 p0.1, HV.int .i64 p0.2.1, slE eFromLabelTo p0.2.2] 0), (29, HV.bool true)], []⟩) (AS.le_of ⟨rfl, rfl, rfl, trivial⟩ trivial) ⟨true, (), h, rfl⟩
    · have h := ifF hg84 h
      refine b_T rfl rfl rfl rfl (bF hg84) (o_val rfl (mv_val rfl rfl).2 ?_)
      refine b_T rfl rfl rfl rfl rfl (o_val rfl (v_lenS rfl rfl ty9 rfl) ?_)
      refine b_T rfl rfl rfl rfl rfl (o_val rfl (v_bin rfl rfl b_gtr) ?_)
      refine bv rfl (v_pickF rfl rfl rfl) ?_
      refine mv rfl rfl ?_
      by_cases hg83 : 12 < ((p1).length : Int)
      · have h := ifT hg83 h
        refine b_F rfl rfl rfl rfl rfl (decide_eq_true hg83) ?_
        refine b_F rfl rfl rfl rfl rfl rfl ?_
        refine b_F rfl rfl rfl rfl rfl rfl ?_
        refine b_F rfl rfl rfl rfl rfl rfl ?_
        refine b_F rfl rfl rfl rfl rfl rfl ?_
        refine bv rfl (v_pickT rfl rfl rfl) ?_
        refine b_nil (hK _ ?_)
        clear hK K
        exact to_le (s' := ⟨[(1, HV.str p1), (2, HV.fptr [HV.int .i64 p0.1, HV.int .i64 p0.2.1, slE eFromLabelTo p0.2.2] 0), (29, HV.bool true)], []⟩) (AS.le_of ⟨rfl, rfl, rfl, trivial⟩ trivial) ⟨true, (), h, rfl⟩
      · have h := ifF hg83 h
        refine b_T rfl rfl rfl rfl (decide_eq_false hg83) (o_val rfl (v_fieldAddrF fo24_0 rfl) ?_)
        refine b_T rfl rfl rfl rfl rfl (o_val rfl (v_loadF ty3 rfl (l_lit rfl rfl)) ?_)
        refine b_T rfl rfl rfl rfl rfl (o_val rfl (mv_val rfl rfl).2 ?_)
        obtain ⟨x81, h82, h⟩ := bS h
        refine b_T rfl rfl rfl rfl rfl (o_call rfl rfl rfl rfl (ACallD.pure0 (w_word_Check h82)) ?_)
        refine b_T rfl rfl rfl rfl rfl (o_val rfl (v_bin rfl rfl b_neq) ?_)
        refine bv rfl (v_pickF rfl rfl rfl) ?_
        refine b_nil (hK _ ?_)
        clear hK K
        exact to_le (s' := ⟨[(1, HV.str p1), (2, HV.fptr [HV.int .i64 p0.1, HV.int .i64 p0.2.1, slE eFromLabelTo p0.2.2] 0), (29, HV.bool (decide (x81 ≠ 0)))], []⟩) (AS.le_of ⟨rfl, rfl, rfl, trivial⟩ trivial) ⟨decide (x81 ≠ 0), (), h, rfl⟩

end Go.AW

namespace Go.AW
open Go Go.ChangeShapes Go.WideShapes Go.ChangeAt Go.RowKit

/-- of what was there nothing turns -/
def Kept (W W' : World) : Prop := W'.os = W.os ∧ W'.output = W.output ∧ W.heap.size ≤ W'.heap.size ∧ ∀ b : Nat, b < W.heap.size → W'.heap[b]? = W.heap[b]?

theorem Kept.frame {W W' : World} (h : Kept W W') (may : MemPlace → Prop) : W.keptBut W' may := by
  refine ⟨h.1, h.2.1, fun i hi => ?_⟩
  rw [h.2.2.2 i hi]
  cases W.heap[i]? with
  | none => rfl
  | some o => cases o with
    | cells c t fr => exact ⟨rfl, rfl, rfl, fun _ _ => rfl⟩
    | map es clock => exact .inr ⟨rfl, rfl⟩
    | _ => rfl

theorem Kept.frozen {W W' : World} (h : Kept W W') (a : Addr) (ha : a.block < W.heap.size) : W'.frozen? a = W.frozen? a := by
  simp only [World.frozen?, h.2.2.2 _ ha]

def Mu.zero : Mu := { nx := 0, loc := fun _ => none, held := fun _ => False }

theorem SR.zero (W : World) : SR W Mu.zero [] :=
  ⟨(fun _ _ _ h => by cases h), (fun _ _ _ h => by cases h), (fun _ _ h => by cases h), (fun _ _ _ _ _ h => by cases h), (fun _ h => h.elim)⟩

theorem calls_of_pure {P : Program} {f : FuncId} {args : List HV} {vs : List Value} {W : World} (hp : Pure P f args (· = .bool true)) (hr : RepL W Mu.zero args vs) :
    Calls P f vs.toArray W fun e W' => e = .returned (.bool true) ∧ Kept W W' := by
  refine (hp.2 Mu.zero W vs (SR.zero W) hr).mono ?_
  rintro e W' ⟨v, r, H', μ', rfl, ⟨rfl, _, _⟩, hs, hv, E⟩
  have hv' : v = .bool true := hv
  subst hv'
  exact ⟨rfl, E.os, E.output, E.size, fun b hb => E.keep b hb fun ⟨_, _, hl⟩ => by cases hl⟩

theorem rep_string {W : World} {μ : Mu} (s : ByteArray) (h : s.size ≤ maxLen) : Rep W μ (.str s.data.toList) (.string s) := by
  refine ⟨by cases s; simp, ?_⟩
  have : s.data.toList.length = s.size := by simp
  omega

theorem post_of_kept {H : Type} {enc : TypeId × Value → H} {P : Program} {f : Func} {s : ChangeSpec} {apart fresh handsOn again : Bool} {W W' : World} {args : Array Value} {v : Value} {ds gs : List (DataW H)} {before pa pv : List MemPlace}
    (hW : DataW.Whole enc P f.params.toList s.vars apart W args.toList ds gs before)
    (hres : ∀ (b : Nat) (sp : Nat → Bool) (hd : Bool), DataW.TrodAll enc P W' b sp hd f.resultTypes.toList (v.resultList f.resultTypes.size) (s.fn H (ds ++ gs)).results [])
    (hargs : ∀ sp : Nat → Bool, (∀ p ∈ before, sp p.block = true) → DataW.TrodAll enc P W' 0 sp true f.params.toList args.toList (s.fn H (ds ++ gs)).args pa)
    (hvars : ∀ sp : Nat → Bool, (∀ p ∈ before, sp p.block = true) → DataW.TrodVars enc P W' sp s.vars (s.fn H (ds ++ gs)).vars pv)
    (hps : before = pa ++ pv) (hk : Kept W W')
    (hok : ∀ (j : Nat) (t : TypeId) (r : Value), f.resultTypes[j]? = some t → (v.resultList f.resultTypes.size)[j]? = some r → Value.okWide P W' .any 0 t r) :
    s.post enc P f apart fresh handsOn again W args v W' := by
  have hold : ∀ p ∈ before, (fun b => decide (b < W.heap.size)) p.block = true := fun p hp => by simpa using hW.lt p hp
  refine ⟨ds, gs, before, [], pa, pv, hW, hres _ _ _, hargs _ hold, hvars _ hold, World.keptBut_mono (fun p hp => ⟨hp, ?_⟩) (hk.frame (· ∈ before)), fun _ => ?_⟩
  · rw [hps, List.mem_append] at hp
    exact Or.inr hp
  · have hlt := hW.lt
    obtain ⟨_, _, _, _, _, hz, hn⟩ := hW
    refine ⟨hok, _, _, ([] ++ pa) ++ pv, ⟨[] ++ pa, pv, trodAll_append (hargs _ (fun _ _ => rfl)) (hres _ _ _), hvars _ (fun _ _ => rfl), rfl, ?_, ?_⟩, ?_⟩
    · intro b off hp
      have hp' : MemPlace.cell b off ∈ before := by rw [hps]; simpa using hp
      rw [hk.frozen _ (hlt _ hp')]
      exact hz b off hp'
    · intro ha
      have := hn ha
      rw [hps] at this
      simpa using this
    · intro p hp _
      rw [hps]
      simpa using hp
end Go.AW

/- Arguments: from what is read of them to what the layer says of them; and the law's end for any arguments. -/
namespace Go.AW
open Go Go.ChangeShapes Go.WideShapes Go.ChangeAt Go.RowKit

theorem rowAt_le {p : Program} {fits : TypeId → Bool} {d : Nat} {e : TypeId} {count off n : Nat} (h : rowAt p fits d e count off n = true) : off ≤ count * p.cellsOf e := by
  cases d with
  | zero => simp [rowAt] at h
  | succ d =>
    unfold rowAt at h
    simp only at h
    split at h
    · cases h
    · rename_i hs
      have hs' : 0 < p.cellsOf e := Nat.pos_of_ne_zero hs
      have hd := Nat.div_add_mod off (p.cellsOf e)
      rw [Nat.mul_comm] at hd
      simp only [Bool.or_eq_true, Bool.and_eq_true, beq_iff_eq, decide_eq_true_eq] at h
      rcases h with ⟨⟨h0, h1⟩, _⟩ | ⟨h1, _⟩
      · rw [← hd, h0, Nat.add_zero]
        exact Nat.mul_le_mul_right _ (by omega)
      · have hm := Nat.mod_lt off hs'
        have : (off / p.cellsOf e + 1) * p.cellsOf e ≤ count * p.cellsOf e := Nat.mul_le_mul_right _ h1
        rw [Nat.add_mul] at this
        omega

theorem liesAt_le {p : Program} {d : Nat} {e u : TypeId} {count off n : Nat} (h : liesAt p d e count off u n = true) : off ≤ count * p.cellsOf e := by
  induction d generalizing u n with
  | zero => simp [liesAt] at h
  | succ d ih =>
    unfold liesAt at h
    rw [Bool.or_eq_true] at h
    rcases h with h | h
    · exact rowAt_le h
    · split at h
      · exact ih h
      · cases h

/-- where an argument's slice lies -/
theorem has_seg {P : Program} {W : World} {r : Reach} {base : Nat} {a : Addr} {e : TypeId} {cap : Nat} (h : W.has P r base a e cap) {vs : List Value} (hc : ∀ i (hi : i < vs.length), W.cell? (a.add i) = some vs[i]) :
    ∃ b off, a = ⟨b, off, none⟩ ∧ Seg W b off vs := by
  obtain ⟨_, hsp, row, cells, hsh, hl⟩ := h
  obtain ⟨b, off, spot⟩ := a
  dsimp only at hsp hsh hl
  subst hsp
  refine ⟨b, off, rfl, ?_⟩
  unfold World.shape? at hsh
  split at hsh
  · rename_i cur e' fr hb
    simp only [Option.some.injEq, Prod.mk.injEq] at hsh
    obtain ⟨rfl, rfl⟩ := hsh
    have hoff : off ≤ cur.size := Nat.le_trans (liesAt_le hl) (Nat.div_mul_le_self _ _)
    have hget : ∀ i (hi : i < vs.length), cur.toList[off + i]? = some vs[i] := fun i hi => by
      have := hc i hi
      rw [add_plain] at this
      unfold World.cell? at this
      rw [hb] at this
      simpa using this
    refine ⟨cur, e', fr, cur.toList.take off, cur.toList.drop (off + vs.length), hb, ?_, by simp [hoff]⟩
    have hvs : vs = (cur.toList.drop off).take vs.length := by
      apply List.ext_getElem?
      intro i
      rcases Nat.lt_or_ge i vs.length with hi | hi
      · rw [List.getElem?_take_of_lt hi, List.getElem?_drop, hget i hi, List.getElem?_eq_getElem hi]
      · rw [List.getElem?_eq_none hi, List.getElem?_eq_none (by simp; omega)]
    have : vs ++ cur.toList.drop (off + vs.length) = cur.toList.drop off := by
      conv => lhs; arg 1; rw [hvs]
      rw [← List.drop_drop]
      exact List.take_append_drop _ _
    rw [List.append_assoc, this, List.take_append_drop]
  · cases hsh

theorem nown (b : Nat) : ¬ Mu.zero.owns b := fun h => h.elim (fun ⟨_, _, h⟩ => by cases h) id

/-- the arguments read again -/
theorem trodAll_stays {H : Type} {enc : TypeId × Value → H} {P : Program} (hl : laidOutB P = true) {W W' : World} {sp : Nat → Bool} : ∀ {ts : List TypeId} {vs : List Value} {ds : List (DataW H)} {ps : List MemPlace},
    (ts.all fun t => P.readableRec t && decide (t < P.types.size)) = true → DataW.TrodAll enc P W 0 (fun _ => true) true ts vs ds ps → (∀ p ∈ ps, W.sameAt W' p) → (∀ p ∈ ps, sp p.block = true) → DataW.TrodAll enc P W' 0 sp true ts vs ds ps
  | [], vs, ds, ps, _, h, _, _ => by
    obtain ⟨rfl, rfl, rfl⟩ := trodAll_nil h
    exact trodAll_mk0
  | t :: ts, vs, ds, ps, ht, h, h1, h2 => by
    obtain ⟨v, vs', d, ds', p, q, rfl, rfl, rfl, h3, h4⟩ := trodAll_cons h
    simp only [List.all_cons, Bool.and_eq_true, decide_eq_true_eq] at ht
    exact trodAll_cons_mk (WideElems.Trod_stays hl ht.1.1 ht.1.2 h3 (fun x hx => h1 x (List.mem_append_left _ hx)) (fun x hx => h2 x (List.mem_append_left _ hx)))
      (trodAll_stays hl ht.2 h4 (fun x hx => h1 x (List.mem_append_right _ hx)) (fun x hx => h2 x (List.mem_append_right _ hx)))

theorem Kept.same {W W' : World} (h : Kept W W') (p : MemPlace) (hp : p.block < W.heap.size) : W.sameAt W' p := by
  cases p with
  | cell b off =>
    show W'.cell? ⟨b, off, none⟩ = W.cell? ⟨b, off, none⟩
    unfold World.cell?
    rw [h.2.2.2 b hp]
  | map b => exact h.2.2.2 b hp

/-- A LAW'S END: true, and the arguments read as they did. -/
theorem post_of_true {H : Type} {enc : TypeId × Value → H} {P : Program} {f : Func} {s : ChangeSpec} {apart fresh handsOn again : Bool} {W W' : World} {args : Array Value} {ds gs : List (DataW H)} {before : List MemPlace} {t : TypeId}
    (hl : laidOutB P = true) (hps : (f.params.toList.all fun t => P.readableRec t && decide (t < P.types.size)) = true) (hres : f.resultTypes = #[t]) (ht : P.underlying t = some .bool) (hv : s.vars = [])
    (hW : DataW.Whole enc P f.params.toList s.vars apart W args.toList ds gs before) (hk : Kept W W')
    (h1 : (s.fn H (ds ++ gs)).results = [.lit (.bool true)]) (h2 : (s.fn H (ds ++ gs)).args = ds) (h3 : (s.fn H (ds ++ gs)).vars = []) :
    s.post enc P f apart fresh handsOn again W args (.bool true) W' := by
  have hlt := hW.lt
  have hW' := hW
  obtain ⟨p, q, hA, hV, rfl, _, _⟩ := hW
  rw [hv] at hV
  obtain ⟨rfl, rfl⟩ := trodVars_none hV
  refine post_of_kept (pa := p) (pv := []) hW' (fun _ _ _ => ?_) (fun sp hsp => ?_) (fun _ _ => ?_) (by simp) hk (ok_one hres rfl (okWide_bool_mk ht _))
  · rw [hres, h1]
    exact trodAll_cons_mk (shut_bool ht _) trodAll_mk0
  · rw [h2]
    exact trodAll_stays hl hps hA (fun x hx => hk.same x (hlt x (by simpa using hx))) (fun x hx => hsp x (by simpa using hx))
  · rw [h3, hv]
    rfl
end Go.AW

/- Arguments that are graphs: what is read of them, and what the layer says of them. -/
namespace Go.AW
open Go Go.ChangeShapes Go.WideShapes Go.ChangeAt Go.RowKit

section
variable {H : Type} {enc : TypeId × Value → H} {P : Program} {W : World} {base : Nat}

theorem repL_app {μ : Mu} : ∀ {hs ks : List HV} {vs us : List Value}, RepL W μ hs vs → RepL W μ ks us → RepL W μ (hs ++ ks) (vs ++ us)
  | [], _, _, _, h, h' => by cases h; exact h'
  | _ :: _, _, _, _, ⟨x, xs, rfl, h1, h2⟩, h' => ⟨x, _, rfl, h1, repL_app h2 h'⟩

theorem add_adds (a : Addr) (i j : Nat) : (a.add i).add j = a.add (i + j) := by
  unfold Addr.add
  repeat' split
  all_goals simp_all [Nat.add_assoc]

theorem open_rows {α : Type} (c : EncL α) {fuel : Nat} {t e : TypeId} {cs : List Value} {x : DataW H × List MemPlace} (ht : P.underlying t = some (.slice e)) (hk : P.cellsOf e = c.k) (hone : ∀ x, ones (c.C x))
    (hel : ∀ n cs y, DataW.trod enc P W 0 (fun _ => true) true n e cs = some y → ∃ x : α, RepL W Mu.zero (c.C x) cs)
    (hhas : ∀ a len cap, cs = [.slice (some a) len cap] → W.has P .any base a e cap) (h : DataW.trod enc P W 0 (fun _ => true) true fuel t cs = some x) : ∃ l : List α, RepL W Mu.zero [slE c l] cs := by
  rcases DataW.trod_slice ht h with ⟨rfl, _⟩ | ⟨a, len, cap, elems, rest, n, _, rfl, _, _, hl, hm, hlen, hel', _, _⟩
  · refine ⟨[], _, _, rfl, ?_, rfl⟩
    show _ ∧ _
    exact ⟨(by rw [c.nil]; exact fun _ h => nomatch h), (by rw [c.nil]; simp), Nat.zero_le _, .inl ⟨rfl, rfl⟩⟩
  · have each : ∀ i, i < len → ∃ cs' x, W.cells? 0 (a.add (i * c.k)) c.k = some cs' ∧ RepL W Mu.zero (c.C x) cs' := fun i hi => by
      have h1 := hel' i hi
      rw [List.getElem?_eq_getElem (by omega), Option.bind_eq_some_iff, hk] at h1
      obtain ⟨cs', h2, h3⟩ := h1
      obtain ⟨x, hx⟩ := hel _ _ _ h3
      exact ⟨cs', x, h2, hx⟩
    have build : ∀ m, m ≤ len → ∃ (l : List α) (vs : List Value), l.length = m ∧ vs.length = m * c.k ∧ RepL W Mu.zero (c.E l) vs ∧ ∀ i (hi : i < vs.length), W.cell? (a.add i) = some vs[i] := by
      intro m
      induction m with
      | zero => exact fun _ => ⟨[], [], rfl, by simp, by rw [c.nil]; rfl, fun i hi => by simp at hi⟩
      | succ m ih =>
        intro hm
        obtain ⟨l, vs, h1, h2, h3, h4⟩ := ih (by omega)
        obtain ⟨cs', x, h5, h6⟩ := each m (by omega)
        obtain ⟨_, h7, h8⟩ := World.cells?_some h5
        refine ⟨l ++ [x], vs ++ cs', by simp [h1], by rw [List.length_append, h2, h7, Nat.succ_mul], by rw [c.append, c.one]; exact repL_app h3 h6, fun i hi => ?_⟩
        rcases Nat.lt_or_ge i vs.length with hi' | hi'
        · rw [List.getElem_append_left hi']; exact h4 i hi'
        · rw [List.getElem_append_right hi']
          rw [List.length_append] at hi
          have := h8 (i - vs.length) (by omega)
          rw [add_adds, h2, show m * c.k + (i - m * c.k) = i by omega] at this
          rw [this, List.getElem?_eq_getElem (by omega)]
          simp only [h2]
    obtain ⟨l, vs, h1, h2, h3, h4⟩ := build len (Nat.le_refl _)
    obtain ⟨b, off, rfl, hseg⟩ := has_seg (hhas _ _ _ rfl) h4
    refine ⟨l, _, _, rfl, ?_, rfl⟩
    show _ ∧ _
    refine ⟨fun d hd => ?_, c.len l, by omega, .inr ⟨b, off, cap, vs, by rw [h1], by omega, nown b, hseg, h3⟩⟩
    rw [c.hE] at hd
    obtain ⟨x, _, hdx⟩ := List.mem_flatMap.1 hd
    exact hone x d hdx

theorem open3 {t : TypeId} {f0 f1 f2 : Field} {fuel : Nat} {cs : List Value} {x : DataW H × List MemPlace} (ht : P.underlying t = some (.struct #[f0, f1, f2])) (o0 : f0.offset = 0) (o1 : f1.offset = 1) (o2 : f2.offset = 2) (c : P.cellsOf t = 3)
    (c0 : P.cellsOf f0.type = 1) (c1 : P.cellsOf f1.type = 1) (c2 : P.cellsOf f2.type = 1) (h : DataW.trod enc P W 0 (fun _ => true) true fuel t cs = some x) :
    ∃ v0 v1 v2 y0 y1 y2 n, cs = [v0, v1, v2] ∧ DataW.trod enc P W 0 (fun _ => true) true n f0.type [v0] = some y0 ∧ DataW.trod enc P W 0 (fun _ => true) true n f1.type [v1] = some y1 ∧ DataW.trod enc P W 0 (fun _ => true) true n f2.type [v2] = some y2 := by
  obtain ⟨xs, n, _, rfl, hl, hlen, hf⟩ := DataW.trod_struct ht h
  rw [c] at hl
  match cs, hl with
  | [v0, v1, v2], _ =>
    match xs, hlen with
    | [y0, y1, y2], _ =>
      refine ⟨v0, v1, v2, y0, y1, y2, n, rfl, ?_, ?_, ?_⟩
      · have := hf 0 f0 rfl; rw [o0, c0] at this; exact this
      · have := hf 1 f1 rfl; rw [o1, c1] at this; exact this
      · have := hf 2 f2 rfl; rw [o2, c2] at this; exact this

theorem rep_i64 {n : Int} {ti : TypeId} {m : Nat} {v : Value} {y : DataW H × List MemPlace} (hti : P.underlying ti = some (.int .i64)) (h : DataW.trod enc P W 0 (fun _ => true) true m ti [v] = some y) : ∃ n : Int, Rep W Mu.zero (.int .i64 n) v := by
  obtain ⟨n, hv, _, hw⟩ := DataW.trod_int hti h
  cases hv
  exact ⟨n, rfl, hw⟩

/-- a graph -/
theorem open_graph {t ti ts te : TypeId} {f0 f1 f2 e0 e1 e2 : Field} {v : Value} {d : DataW H} {ps : List MemPlace} (ht : P.underlying t = some (.struct #[f0, f1, f2])) (o : f0.offset = 0 ∧ f1.offset = 1 ∧ f2.offset = 2) (y : f0.type = ti ∧ f1.type = ti ∧ f2.type = ts)
    (c : P.cellsOf t = 3) (ci : P.cellsOf ti = 1) (cs : P.cellsOf ts = 1) (ct : P.cellTypes P.depth t = some [ti, ti, ts]) (hti : P.underlying ti = some (.int .i64)) (hts : P.underlying ts = some (.slice te))
    (hte : P.underlying te = some (.struct #[e0, e1, e2])) (oe : e0.offset = 0 ∧ e1.offset = 1 ∧ e2.offset = 2) (ye : e0.type = ti ∧ e1.type = ti ∧ e2.type = ti) (ce : P.cellsOf te = 3)
    (hval : Value.okWide P W .any base t v) (h : DataW.Trod enc P W 0 (fun _ => true) true t v d ps) : ∃ g : TLabelsStatesEdges, Rep W Mu.zero (.agg [.int .i64 g.1, .int .i64 g.2.1, slE eFromLabelTo g.2.2]) v := by
  obtain ⟨y0, y1, y2⟩ := y
  obtain ⟨z0, z1, z2⟩ := ye
  simp only [Value.okWide, ht] at hval
  obtain ⟨arr, rfl, _, hrow⟩ := hval
  obtain ⟨fuel, hf⟩ := h
  obtain ⟨v0, v1, v2, a0, a1, a2, n, hcs, h0, h1, h2⟩ := open3 ht o.1 o.2.1 o.2.2 c (by rw [y0]; exact ci) (by rw [y1]; exact ci) (by rw [y2]; exact cs) hf
  have harr : arr = #[v0, v1, v2] := by
    have : arr.toList = [v0, v1, v2] := hcs
    cases arr
    simp_all
  subst harr
  rw [y0] at h0
  rw [y1] at h1
  rw [y2] at h2
  obtain ⟨l, r0⟩ := rep_i64 (n := 0) hti h0
  obtain ⟨s, r1⟩ := rep_i64 (n := 0) hti h1
  obtain ⟨es, _, _, r2, r2', r2''⟩ := open_rows (base := base) eFromLabelTo hts ce (fun x d hd => by
      have hd : d ∈ [HV.int .i64 x.1, HV.int .i64 x.2.1, HV.int .i64 x.2.2] := hd
      simp only [List.mem_cons, List.not_mem_nil, or_false] at hd
      rcases hd with rfl | rfl | rfl <;> rfl) (fun m cs' y hy => by
      obtain ⟨w0, w1, w2, b0, b1, b2, n', rfl, k0, k1, k2⟩ := open3 hte oe.1 oe.2.1 oe.2.2 ce (by rw [z0]; exact ci) (by rw [z1]; exact ci) (by rw [z2]; exact ci) hy
      rw [z0] at k0
      rw [z1] at k1
      rw [z2] at k2
      obtain ⟨p0, q0⟩ := rep_i64 (n := 0) hti k0
      obtain ⟨p1, q1⟩ := rep_i64 (n := 0) hti k1
      obtain ⟨p2, q2⟩ := rep_i64 (n := 0) hti k2
      exact ⟨(p0, p1, p2), _, _, rfl, q0, _, _, rfl, q1, _, _, rfl, q2, rfl⟩) (fun a len cap e => by
      cases e
      obtain ⟨tys, ht1, _, hcell⟩ := hrow
      rw [ct] at ht1
      cases ht1
      obtain ⟨u, hu, hok⟩ := hcell 2 (.slice (some a) len cap) rfl
      cases hu
      simp only [Cell.okWide, hts, Cell.ok] at hok
      exact hok.2.2) h2
  cases r2
  refine ⟨(l, s, es), ?_⟩
  show _ ∧ _
  refine ⟨fun d hd => ?_, _, rfl, _, _, rfl, r0, _, _, rfl, r1, _, _, rfl, r2', rfl⟩
  simp only [List.mem_cons, List.not_mem_nil, or_false] at hd
  rcases hd with rfl | rfl | rfl <;> rfl
end
end Go.AW

namespace Go.Proofs.Ytccnafddjjamoaa
open Go Go.AW Go.ChangeShapes Go.WideShapes Go.ChangeAt Go.RowKit Go.ChangeMaps
set_option linter.unusedVariables false

theorem ownM : ownKnob Try.prog.godebug = none := by kernel_rfl
theorem laidB : laidOutB Try.prog = true := by kernel_rfl

theorem wLaw (a0 : TLabelsStatesEdges) (a1 : List UInt8) : Pure Try.prog 10 [HV.agg [HV.int .i64 a0.1, HV.int .i64 a0.2.1, slE eFromLabelTo a0.2.2], .str a1] (· = .bool true) := w_law11_LanguagePaths (law_paths a0 a1)

set_option maxRecDepth 100000 in
theorem liftedL (os : Os) (started : os.Started) (H : Type) (enc : TypeId × Value → H) :
    ReturnsInHanded {} Try.checked os 10 .any (Rows.languagePathsSpec.pre6 enc Try.prog Try.f10 Rows.languagePathsRow.domain false) (Rows.languagePathsSpec.post enc Try.prog Try.f10 false true false false) := by
  refine returnsInHanded_of_change (C := Try.checked) ownM started (by kernel_rfl) Try.func10
    (ChangeSpec.witness6 (enc := enc) (C := Try.checked) false ⟨#[], #[.agg #[.int .i64 0, .int .i64 0, .slice none 0 0], .string ⟨#[]⟩], []⟩ 8 (by kernel_rfl) (by kernel_rfl) (by kernel_rfl) (by kernel_rfl)) ?_
  intro W base args ds gs before hval0 hW hcnd _
  have hval : ∀ (j : Nat) t v, Try.f10.params[j]? = some t → args[j]? = some v → Value.okWide Try.prog W .any base t v := hval0
  have hW' := hW
  obtain ⟨p, q, hA0, hV, rfl, hfz, hnd⟩ := hW
  have hA : DataW.TrodAll enc Try.prog W 0 (fun _ => true) true Try.f10.params.toList args.toList ds p := hA0
  rw [Try.params10] at hA hval
  obtain ⟨v0, vs0, d0, ds0, p0, q0, hargs, rfl, rfl, h0, r0⟩ := trodAll_cons hA
  obtain ⟨v1, vs1, d1, ds1, p1, q1, rfl, rfl, rfl, h1, r1⟩ := trodAll_cons r0
  obtain ⟨rfl, rfl, rfl⟩ := trodAll_nil r1
  obtain rfl : args = #[v0, v1] := by cases args; simp_all
  obtain ⟨rfl, rfl⟩ := trodVars_none hV
  obtain ⟨a0, hr0⟩ := open_graph Try.underlying24 ⟨rfl, rfl, rfl⟩ ⟨rfl, rfl, rfl⟩ (by kernel_rfl) (by kernel_rfl) (by kernel_rfl) (by kernel_rfl) Try.underlying3 Try.underlying22 Try.underlying66 ⟨rfl, rfl, rfl⟩ ⟨rfl, rfl, rfl⟩ (by kernel_rfl) (hval 0 24 v0 rfl rfl) h0
  obtain ⟨s1, rfl, _, _, l1⟩ := open_string Try.underlying9 (hval 1 9 v1 rfl rfl) h1
  refine (calls_of_pure (vs := [v0, .string s1]) (wLaw a0 s1.data.toList) ⟨_, _, rfl, hr0, _, _, rfl, rep_string s1 l1, rfl⟩).mono fun e W' ⟨he, hk⟩ => ?_
  subst he
  exact ⟨_, rfl, post_of_true laidB (by kernel_rfl) rfl Try.underlying4 rfl hW' hk rfl rfl rfl⟩

theorem languagePathsProved : Rows.LanguagePathsSaid :=
  OpenClaim.holds_of_wide 10 Try.f10 rfl rfl rfl rfl rfl rfl rfl ⟨rfl, rfl, rfl, rfl, rfl⟩ rfl rfl rfl rfl rfl (by kernel_rfl) Try.func10 (by kernel_rfl)
    (of_decide_eq_true (by kernel_rfl)) (by unfold Func.isWrapper; first | (rw [if_pos (by decide +kernel)]; kernel_rfl) | (rw [if_neg (by decide +kernel)]; exact ⟨rfl, rfl⟩))
    (fun os started H enc _ => liftedL os started H enc)
#print axioms languagePathsProved
end Go.Proofs.Ytccnafddjjamoaa
